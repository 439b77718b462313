import Derived.Test.YtllhckjfhefcdaaGreatDoorKB
import Derived.Test.YtllhckjfhefcdaaGreatDoorKC0
import Derived.Test.YtllhckjfhefcdaaGreatDoorKC1
namespace Go.Proofs.YtllhckjfhefcdaaGreatDoor.G
open Go.Gv
set_option linter.unusedVariables false
set_option maxRecDepth 100000
namespace n0
def aC.v(cU:Bool)(a:List Nat)(b:Bool)(c:List Nat)(d:Bool)(d:List Nat):((Bool × List Nat) × Int):=
 bY (gR nZ (cU,a) ((((!b) && decide (0 < c.length))),c)) fun a=>
 ((a.1.1,a.1.2),a.2)
theorem aC.aU{Y:K}{aB Z:V}(aR:a4 aB Z){cU:Bool}{D:U}{E:Nat}{f:List Nat}(La:bJ Z D E f){b:Nat}(i:cR Z b [.bool cU,.slice D f.length E])(Lj:aB.size≤b){j:Bool}{G:U}{H:Nat}{c:List Nat}(Lb:bJ Z G H c){d:Nat}(l:cR Z d [.bool j,.slice G c.length H])(Lk:aB.size≤d){P:Bool}{K5:U}{K6:Nat}{m:List Nat}(Ll:cN dQ aB Z K5 K6 m){dT:Nat}(a:cR Z dT [.bool P,.slice K5 m.length K6])(K7:aB.size≤dT)(Lm:b ≠ d)(Ln:b ≠ dT)(Lo:d ≠ dT)(g:dS (s2 dZ (c3 .i64)) aB Y (aC.v cU f j c P m)):aC.t Y (⟨b,0,none⟩:Addr) (⟨d,0,none⟩:Addr) (⟨dT,0,none⟩:Addr) Z:=by
 have Lc:=i.lt
 have K8:=l.lt
 have Lp:=a.lt
 unfold aC.v at g
 unfold aC.t
 refine⟨eY rfl (Lc),?_⟩
 refine aI i (w _ _) rfl (aO rfl ?_)
 refine aI i (w _ _) rfl (k rfl ?_)
 refine⟨eY (w _ _) (K8),?_⟩
 refine aI l (w _ _) rfl (aO rfl ?_)
 refine⟨eY (w _ _) (K8),?_⟩
 refine aI l (w _ _) rfl (k rfl ?_)
 refine bF (mL.aU _ _ _ _ _) fun v Lq ⟨e,O⟩=>?_
 subst O
 refine bZ rfl (aM (aO rfl (aM (k rfl (bP (?_))))))
 have n:=e.aD
 refine⟨e.c1 (Nat.le_refl _),?_⟩
 refine bF (kQ.aY (La.aD (n)) rfl (Lb.aD (n)) rfl) fun v Lr ⟨h,O⟩=>?_
 obtain⟨Ls,K9⟩:∃ z,z=gR nZ (cU,f) ((((!j) && decide (0 < c.length))),c):=⟨_,rfl⟩
 rw [← K9] at O
 replace g:=cC K9 g
 obtain⟨_,_,rfl,⟨Lt,Lu,rfl,Ld⟩,⟨rfl,Le⟩⟩:=O
 refine dP rfl (aM (bZ rfl (aM (aO rfl (aM (k rfl (bP (aM (bI rfl (bP (?_)))))))))))
 have Lv:=h.aD
 refine⟨h.c1 (n).le,?_⟩
 have a:=((a.B e).B h)
 refine bK a (w _ _) rfl fun Lw a Lf Lg=>?_
 refine bK a (w _ _) rfl fun Lx a Lh Li=>?_
 refine aI a (w _ _) rfl (aO rfl ?_)
 refine aI a (w _ _) rfl (k rfl ?_)
 exact g _ _ (a1.B (a1.B ((aR.trans e).trans h) Lf K7) Lh K7) ⟨_,_,rfl,⟨_,_,rfl,((Ld.aD (Lg.trans Li)).from (aR.trans e).le)⟩,⟨rfl,Le⟩⟩
def F.v(a:Bool)(b:List Nat)(aT:Bool)(c:List Nat):((Bool × List Nat) × Int):=
 bif (!(decide (eJ (a,b)))) then
  ((false,([]:List Nat)),(2:Int))
 else
  bif (!(decide (eJ (aT,c)))) then
   ((false,([]:List Nat)),(2:Int))
  else
   aC.v a b aT c false ([]:List Nat)
theorem F.aU{Y:K}{aB Z:V}(aR:a4 aB Z){K5:Bool}{K6:U}{K7 K8:Nat}{D:List Nat}(K9:bJ Z K6 K7 D)(Lf:K8=D.length){aT:Bool}{La:U}{Lb Lc:Nat}{E:List Nat}(Ld:bJ Z La Lb E)(Lg:Lc=E.length)(g:dS (s2 dZ (c3 .i64)) aB Y (F.v K5 D aT E)):F.t Y K5 K6 K8 K7 aT La Lc Lb Z:=by
 subst Lf Lg
 unfold F.v at g
 unfold F.t
 refine cK fun Lq d f=>?_
 have Lh:=aR.le
 have Le:=d.lt
 have m:=f.aD
 refine cK fun Lr e h=>?_
 have Li:=(aR.trans f).le
 have Lj:=e.lt
 have j:=h.aD
 refine cK fun Ls a i=>?_
 have l:=((aR.trans f).trans h).le
 have Lt:=a.lt
 have n:=i.aD
 have d:=((d.B h).B i)
 refine aI d (w _ _) rfl (aO rfl ?_)
 refine aI d (w _ _) rfl (k rfl ?_)
 refine bF (eQ.aY (K9.aD (m.trans (j.trans n))) rfl) fun v Lu ⟨b,O⟩=>?_
 obtain rfl:=O
 refine aO rfl (?_)
 have G:=b.aD
 refine hH g (fun Lk g=>?_) (fun Lk g=>?_)
 ·have a:=(a.B b)
  refine bK a (w _ _) rfl fun Ll a c H=>?_
  refine bK a (w _ _) rfl fun Lm a P Ln=>?_
  refine aI a (w _ _) rfl (aO rfl ?_)
  refine aI a (w _ _) rfl (k rfl ?_)
  exact g _ _ (a1.B (a1.B ((((aR.trans f).trans h).trans i).trans b) c l) P l) ⟨_,_,rfl,⟨_,_,rfl,(cN.nil _ _)⟩,⟨rfl,(show In .i64 (2:Int) by decide)⟩⟩
 have e:=((e.B i).B b)
 refine aI e (w _ _) rfl (aO rfl ?_)
 refine aI e (w _ _) rfl (k rfl ?_)
 refine bF (eQ.aY (Ld.aD (m.trans (j.trans (n.trans G)))) rfl) fun v Ll ⟨c,O⟩=>?_
 obtain rfl:=O
 refine aO rfl (?_)
 have H:=c.aD
 refine hH g (fun Lo g=>?_) (fun Lo g=>?_)
 ·have a:=((a.B b).B c)
  refine bK a (w _ _) rfl fun Lm a P Ln=>?_
  refine bK a (w _ _) rfl fun Lv a Lp Lw=>?_
  refine aI a (w _ _) rfl (aO rfl ?_)
  refine aI a (w _ _) rfl (k rfl ?_)
  exact g _ _ (a1.B (a1.B (((((aR.trans f).trans h).trans i).trans b).trans c) P l) Lp l) ⟨_,_,rfl,⟨_,_,rfl,(cN.nil _ _)⟩,⟨rfl,(show In .i64 (2:Int) by decide)⟩⟩
 have d:=((d.B b).B c)
 have e:=(e.B c)
 have a:=((a.B b).B c)
 exact aC.aU (((((aR.trans f).trans h).trans i).trans b).trans c) (K9.aD (m.trans (j.trans (n.trans (G.trans H))))) d Lh (Ld.aD (m.trans (j.trans (n.trans (G.trans H))))) e Li (cN.nil _ _) a l (Nat.ne_of_lt Le) (Nat.ne_of_lt ((j).lt Le)) (Nat.ne_of_lt Lj) g
def v(a:Bool)(b:List Nat)(aT:Bool)(c:List Nat):((Bool × List Nat) × Int):=F.v a b aT c
theorem aU{Z:V}{a:Bool}{b:U}{c d:Nat}{e:List Nat}(f:bJ Z b c e)(g:d=e.length){aT:Bool}{h:U}{i j:Nat}{l:List Nat}(m:bJ Z h i l)(n:j=l.length):aF id #[.agg #[.bool a,.slice b d c],.agg #[.bool aT,.slice h j i]] Z fun b c=>a4 Z c∧(s2 dZ (c3 .i64)) Z c b (v a e aT l):=
 ok (F.aU (a4.refl _) f g m n fun v A M O=>⟨M,O⟩)
end n0
namespace rC
def F.v(a:Bool)(b:List Nat)(aQ:Int):((Bool × List Nat) × Int):=
 bY (iM (kE (0:Int)) (a,b) aQ) fun a=>
 ((a.1.1,a.1.2),a.2)
theorem F.aU{Y:K}{aB Z:V}(aR:a4 aB Z){f:Bool}{i:U}{j l:Nat}{c:List Nat}(G:bJ Z i j c)(H:l=c.length){aQ:Int}(P:In .i64 aQ)(dX:gK Z)(g:dS (s2 dZ (c3 .i64)) aB Y (F.v f c aQ)):F.t Y f i l j aQ Z:=by
 subst H
 unfold F.v at g
 unfold F.t
 refine cK fun Lb b d=>?_
 have Lc:=aR.le
 have Ld:=b.lt
 have m:=d.aD
 refine cK fun Le a e=>?_
 have n:=(aR.trans d).le
 have Lf:=a.lt
 have D:=e.aD
 have b:=(b.B e)
 refine aI b (w _ _) rfl (aO rfl ?_)
 refine aI b (w _ _) rfl (k rfl ?_)
 refine bF (kS.aY (show In .i64 (0:Int) by decide) (G.aD (m.trans D)) rfl P (dX.aD (m.trans D))) fun v Lg ⟨h,O⟩=>?_
 obtain⟨Lh,E⟩:∃ z,z=iM (kE (0:Int)) (f,c) aQ:=⟨_,rfl⟩
 rw [← E] at O
 replace g:=cC E g
 obtain⟨_,_,rfl,⟨Li,Lj,rfl,K5⟩,⟨rfl,K6⟩⟩:=O
 refine dP rfl (aM (bZ rfl (aM (aO rfl (aM (k rfl (bP (aM (bI rfl (bP (?_)))))))))))
 have Lk:=h.aD
 have a:=(a.B h)
 refine bK a (w _ _) rfl fun Ll a K7 K8=>?_
 refine bK a (w _ _) rfl fun Lm a K9 La=>?_
 refine aI a (w _ _) rfl (aO rfl ?_)
 refine aI a (w _ _) rfl (k rfl ?_)
 exact g _ _ (a1.B (a1.B (((aR.trans d).trans e).trans h) K7 n) K9 n) ⟨_,_,rfl,⟨_,_,rfl,((K5.aD (K8.trans La)).from ((aR.trans d).trans e).le)⟩,⟨rfl,K6⟩⟩
def v(a:Bool)(b:List Nat)(aQ:Int):((Bool × List Nat) × Int):=F.v a b aQ
theorem aU{Z:V}{a:Bool}{b:U}{c d:Nat}{e:List Nat}(f:bJ Z b c e)(g:d=e.length){aQ:Int}(h:In .i64 aQ)(dX:gK Z):aF id #[.agg #[.bool a,.slice b d c],.int .i64 aQ] Z fun b c=>a4 Z c∧(s2 dZ (c3 .i64)) Z c b (v a e aQ):=
 ok (F.aU (a4.refl _) f g h dX fun v A M O=>⟨M,O⟩)
end rC
namespace rD
def F.v(a:Bool)(b:List Nat)(aQ:Int):((Bool × List Nat) × Int):=
 bY (iM (kE (1:Int)) (a,b) aQ) fun a=>
 ((a.1.1,a.1.2),a.2)
theorem F.aU{Y:K}{aB Z:V}(aR:a4 aB Z){f:Bool}{i:U}{j l:Nat}{c:List Nat}(G:bJ Z i j c)(H:l=c.length){aQ:Int}(P:In .i64 aQ)(dX:gK Z)(g:dS (s2 dZ (c3 .i64)) aB Y (F.v f c aQ)):F.t Y f i l j aQ Z:=by
 subst H
 unfold F.v at g
 unfold F.t
 refine cK fun Lb b d=>?_
 have Lc:=aR.le
 have Ld:=b.lt
 have m:=d.aD
 refine cK fun Le a e=>?_
 have n:=(aR.trans d).le
 have Lf:=a.lt
 have D:=e.aD
 have b:=(b.B e)
 refine aI b (w _ _) rfl (aO rfl ?_)
 refine aI b (w _ _) rfl (k rfl ?_)
 refine bF (kS.aY (show In .i64 (1:Int) by decide) (G.aD (m.trans D)) rfl P (dX.aD (m.trans D))) fun v Lg ⟨h,O⟩=>?_
 obtain⟨Lh,E⟩:∃ z,z=iM (kE (1:Int)) (f,c) aQ:=⟨_,rfl⟩
 rw [← E] at O
 replace g:=cC E g
 obtain⟨_,_,rfl,⟨Li,Lj,rfl,K5⟩,⟨rfl,K6⟩⟩:=O
 refine dP rfl (aM (bZ rfl (aM (aO rfl (aM (k rfl (bP (aM (bI rfl (bP (?_)))))))))))
 have Lk:=h.aD
 have a:=(a.B h)
 refine bK a (w _ _) rfl fun Ll a K7 K8=>?_
 refine bK a (w _ _) rfl fun Lm a K9 La=>?_
 refine aI a (w _ _) rfl (aO rfl ?_)
 refine aI a (w _ _) rfl (k rfl ?_)
 exact g _ _ (a1.B (a1.B (((aR.trans d).trans e).trans h) K7 n) K9 n) ⟨_,_,rfl,⟨_,_,rfl,((K5.aD (K8.trans La)).from ((aR.trans d).trans e).le)⟩,⟨rfl,K6⟩⟩
def v(a:Bool)(b:List Nat)(aQ:Int):((Bool × List Nat) × Int):=F.v a b aQ
theorem aU{Z:V}{a:Bool}{b:U}{c d:Nat}{e:List Nat}(f:bJ Z b c e)(g:d=e.length){aQ:Int}(h:In .i64 aQ)(dX:gK Z):aF id #[.agg #[.bool a,.slice b d c],.int .i64 aQ] Z fun b c=>a4 Z c∧(s2 dZ (c3 .i64)) Z c b (v a e aQ):=
 ok (F.aU (a4.refl _) f g h dX fun v A M O=>⟨M,O⟩)
end rD
namespace rE
def F.v(a:Bool)(b:List Nat)(aQ:Int):((Bool × List Nat) × Int):=
 bY (iM (kE (2:Int)) (a,b) aQ) fun a=>
 ((a.1.1,a.1.2),a.2)
theorem F.aU{Y:K}{aB Z:V}(aR:a4 aB Z){f:Bool}{i:U}{j l:Nat}{c:List Nat}(G:bJ Z i j c)(H:l=c.length){aQ:Int}(P:In .i64 aQ)(dX:gK Z)(g:dS (s2 dZ (c3 .i64)) aB Y (F.v f c aQ)):F.t Y f i l j aQ Z:=by
 subst H
 unfold F.v at g
 unfold F.t
 refine cK fun Lb b d=>?_
 have Lc:=aR.le
 have Ld:=b.lt
 have m:=d.aD
 refine cK fun Le a e=>?_
 have n:=(aR.trans d).le
 have Lf:=a.lt
 have D:=e.aD
 have b:=(b.B e)
 refine aI b (w _ _) rfl (aO rfl ?_)
 refine aI b (w _ _) rfl (k rfl ?_)
 refine bF (kS.aY (show In .i64 (2:Int) by decide) (G.aD (m.trans D)) rfl P (dX.aD (m.trans D))) fun v Lg ⟨h,O⟩=>?_
 obtain⟨Lh,E⟩:∃ z,z=iM (kE (2:Int)) (f,c) aQ:=⟨_,rfl⟩
 rw [← E] at O
 replace g:=cC E g
 obtain⟨_,_,rfl,⟨Li,Lj,rfl,K5⟩,⟨rfl,K6⟩⟩:=O
 refine dP rfl (aM (bZ rfl (aM (aO rfl (aM (k rfl (bP (aM (bI rfl (bP (?_)))))))))))
 have Lk:=h.aD
 have a:=(a.B h)
 refine bK a (w _ _) rfl fun Ll a K7 K8=>?_
 refine bK a (w _ _) rfl fun Lm a K9 La=>?_
 refine aI a (w _ _) rfl (aO rfl ?_)
 refine aI a (w _ _) rfl (k rfl ?_)
 exact g _ _ (a1.B (a1.B (((aR.trans d).trans e).trans h) K7 n) K9 n) ⟨_,_,rfl,⟨_,_,rfl,((K5.aD (K8.trans La)).from ((aR.trans d).trans e).le)⟩,⟨rfl,K6⟩⟩
def v(a:Bool)(b:List Nat)(aQ:Int):((Bool × List Nat) × Int):=F.v a b aQ
theorem aU{Z:V}{a:Bool}{b:U}{c d:Nat}{e:List Nat}(f:bJ Z b c e)(g:d=e.length){aQ:Int}(h:In .i64 aQ)(dX:gK Z):aF id #[.agg #[.bool a,.slice b d c],.int .i64 aQ] Z fun b c=>a4 Z c∧(s2 dZ (c3 .i64)) Z c b (v a e aQ):=
 ok (F.aU (a4.refl _) f g h dX fun v A M O=>⟨M,O⟩)
end rE
namespace rF
def F.v(a:Bool)(b:List Nat)(aT:Bool)(c:List Nat):((Bool × List Nat) × Int):=
 bY (hM (kE (0:Int)) (a,b) (aT,c)) fun a=>
 ((a.1.1,a.1.2),a.2)
theorem F.aU{Y:K}{aB Z:V}(aR:a4 aB Z){j:Bool}{m:U}{n D:Nat}{h:List Nat}(K9:bJ Z m n h)(La:D=h.length){aT:Bool}{E:U}{G H:Nat}{i:List Nat}(Lb:bJ Z E G i)(Lc:H=i.length)(g:dS (s2 dZ (c3 .i64)) aB Y (F.v j h aT i)):F.t Y j m D n aT E H G Z:=by
 subst La Lc
 unfold F.v at g
 unfold F.t
 refine cK fun Lj b c=>?_
 have Lk:=aR.le
 have Ll:=b.lt
 have P:=c.aD
 refine cK fun Lm d e=>?_
 have Ln:=(aR.trans c).le
 have Lo:=d.lt
 have K5:=e.aD
 refine cK fun Lp a f=>?_
 have K6:=((aR.trans c).trans e).le
 have Lq:=a.lt
 have K7:=f.aD
 have b:=((b.B e).B f)
 refine aI b (w _ _) rfl (aO rfl ?_)
 refine aI b (w _ _) rfl (k rfl ?_)
 have d:=(d.B f)
 refine aI d (w _ _) rfl (aO rfl ?_)
 refine aI d (w _ _) rfl (k rfl ?_)
 refine bF (lK.aY (show In .i64 (0:Int) by decide) (K9.aD (P.trans (K5.trans K7))) rfl (Lb.aD (P.trans (K5.trans K7))) rfl) fun v Lr ⟨l,O⟩=>?_
 obtain⟨Ls,K8⟩:∃ z,z=hM (kE (0:Int)) (j,h) (aT,i):=⟨_,rfl⟩
 rw [← K8] at O
 replace g:=cC K8 g
 obtain⟨_,_,rfl,⟨Lt,Lu,rfl,Ld⟩,⟨rfl,Le⟩⟩:=O
 refine dP rfl (aM (bZ rfl (aM (aO rfl (aM (k rfl (bP (aM (bI rfl (bP (?_)))))))))))
 have Lv:=l.aD
 have a:=(a.B l)
 refine bK a (w _ _) rfl fun Lw a Lf Lg=>?_
 refine bK a (w _ _) rfl fun Lx a Lh Li=>?_
 refine aI a (w _ _) rfl (aO rfl ?_)
 refine aI a (w _ _) rfl (k rfl ?_)
 exact g _ _ (a1.B (a1.B ((((aR.trans c).trans e).trans f).trans l) Lf K6) Lh K6) ⟨_,_,rfl,⟨_,_,rfl,((Ld.aD (Lg.trans Li)).from (((aR.trans c).trans e).trans f).le)⟩,⟨rfl,Le⟩⟩
def v(a:Bool)(b:List Nat)(aT:Bool)(c:List Nat):((Bool × List Nat) × Int):=F.v a b aT c
theorem aU{Z:V}{a:Bool}{b:U}{c d:Nat}{e:List Nat}(f:bJ Z b c e)(g:d=e.length){aT:Bool}{h:U}{i j:Nat}{l:List Nat}(m:bJ Z h i l)(n:j=l.length):aF id #[.agg #[.bool a,.slice b d c],.agg #[.bool aT,.slice h j i]] Z fun b c=>a4 Z c∧(s2 dZ (c3 .i64)) Z c b (v a e aT l):=
 ok (F.aU (a4.refl _) f g m n fun v A M O=>⟨M,O⟩)
end rF
namespace rG
def F.v(a:Bool)(b:List Nat)(aT:Bool)(c:List Nat):((Bool × List Nat) × Int):=
 bY (hM (kE (1:Int)) (a,b) (aT,c)) fun a=>
 ((a.1.1,a.1.2),a.2)
theorem F.aU{Y:K}{aB Z:V}(aR:a4 aB Z){j:Bool}{m:U}{n D:Nat}{h:List Nat}(K9:bJ Z m n h)(La:D=h.length){aT:Bool}{E:U}{G H:Nat}{i:List Nat}(Lb:bJ Z E G i)(Lc:H=i.length)(g:dS (s2 dZ (c3 .i64)) aB Y (F.v j h aT i)):F.t Y j m D n aT E H G Z:=by
 subst La Lc
 unfold F.v at g
 unfold F.t
 refine cK fun Lj b c=>?_
 have Lk:=aR.le
 have Ll:=b.lt
 have P:=c.aD
 refine cK fun Lm d e=>?_
 have Ln:=(aR.trans c).le
 have Lo:=d.lt
 have K5:=e.aD
 refine cK fun Lp a f=>?_
 have K6:=((aR.trans c).trans e).le
 have Lq:=a.lt
 have K7:=f.aD
 have b:=((b.B e).B f)
 refine aI b (w _ _) rfl (aO rfl ?_)
 refine aI b (w _ _) rfl (k rfl ?_)
 have d:=(d.B f)
 refine aI d (w _ _) rfl (aO rfl ?_)
 refine aI d (w _ _) rfl (k rfl ?_)
 refine bF (lK.aY (show In .i64 (1:Int) by decide) (K9.aD (P.trans (K5.trans K7))) rfl (Lb.aD (P.trans (K5.trans K7))) rfl) fun v Lr ⟨l,O⟩=>?_
 obtain⟨Ls,K8⟩:∃ z,z=hM (kE (1:Int)) (j,h) (aT,i):=⟨_,rfl⟩
 rw [← K8] at O
 replace g:=cC K8 g
 obtain⟨_,_,rfl,⟨Lt,Lu,rfl,Ld⟩,⟨rfl,Le⟩⟩:=O
 refine dP rfl (aM (bZ rfl (aM (aO rfl (aM (k rfl (bP (aM (bI rfl (bP (?_)))))))))))
 have Lv:=l.aD
 have a:=(a.B l)
 refine bK a (w _ _) rfl fun Lw a Lf Lg=>?_
 refine bK a (w _ _) rfl fun Lx a Lh Li=>?_
 refine aI a (w _ _) rfl (aO rfl ?_)
 refine aI a (w _ _) rfl (k rfl ?_)
 exact g _ _ (a1.B (a1.B ((((aR.trans c).trans e).trans f).trans l) Lf K6) Lh K6) ⟨_,_,rfl,⟨_,_,rfl,((Ld.aD (Lg.trans Li)).from (((aR.trans c).trans e).trans f).le)⟩,⟨rfl,Le⟩⟩
def v(a:Bool)(b:List Nat)(aT:Bool)(c:List Nat):((Bool × List Nat) × Int):=F.v a b aT c
theorem aU{Z:V}{a:Bool}{b:U}{c d:Nat}{e:List Nat}(f:bJ Z b c e)(g:d=e.length){aT:Bool}{h:U}{i j:Nat}{l:List Nat}(m:bJ Z h i l)(n:j=l.length):aF id #[.agg #[.bool a,.slice b d c],.agg #[.bool aT,.slice h j i]] Z fun b c=>a4 Z c∧(s2 dZ (c3 .i64)) Z c b (v a e aT l):=
 ok (F.aU (a4.refl _) f g m n fun v A M O=>⟨M,O⟩)
end rG
namespace rH
def F.v(a:Bool)(b:List Nat)(aT:Bool)(c:List Nat):((Bool × List Nat) × Int):=
 bY (hM (kE (2:Int)) (a,b) (aT,c)) fun a=>
 ((a.1.1,a.1.2),a.2)
theorem F.aU{Y:K}{aB Z:V}(aR:a4 aB Z){j:Bool}{m:U}{n D:Nat}{h:List Nat}(K9:bJ Z m n h)(La:D=h.length){aT:Bool}{E:U}{G H:Nat}{i:List Nat}(Lb:bJ Z E G i)(Lc:H=i.length)(g:dS (s2 dZ (c3 .i64)) aB Y (F.v j h aT i)):F.t Y j m D n aT E H G Z:=by
 subst La Lc
 unfold F.v at g
 unfold F.t
 refine cK fun Lj b c=>?_
 have Lk:=aR.le
 have Ll:=b.lt
 have P:=c.aD
 refine cK fun Lm d e=>?_
 have Ln:=(aR.trans c).le
 have Lo:=d.lt
 have K5:=e.aD
 refine cK fun Lp a f=>?_
 have K6:=((aR.trans c).trans e).le
 have Lq:=a.lt
 have K7:=f.aD
 have b:=((b.B e).B f)
 refine aI b (w _ _) rfl (aO rfl ?_)
 refine aI b (w _ _) rfl (k rfl ?_)
 have d:=(d.B f)
 refine aI d (w _ _) rfl (aO rfl ?_)
 refine aI d (w _ _) rfl (k rfl ?_)
 refine bF (lK.aY (show In .i64 (2:Int) by decide) (K9.aD (P.trans (K5.trans K7))) rfl (Lb.aD (P.trans (K5.trans K7))) rfl) fun v Lr ⟨l,O⟩=>?_
 obtain⟨Ls,K8⟩:∃ z,z=hM (kE (2:Int)) (j,h) (aT,i):=⟨_,rfl⟩
 rw [← K8] at O
 replace g:=cC K8 g
 obtain⟨_,_,rfl,⟨Lt,Lu,rfl,Ld⟩,⟨rfl,Le⟩⟩:=O
 refine dP rfl (aM (bZ rfl (aM (aO rfl (aM (k rfl (bP (aM (bI rfl (bP (?_)))))))))))
 have Lv:=l.aD
 have a:=(a.B l)
 refine bK a (w _ _) rfl fun Lw a Lf Lg=>?_
 refine bK a (w _ _) rfl fun Lx a Lh Li=>?_
 refine aI a (w _ _) rfl (aO rfl ?_)
 refine aI a (w _ _) rfl (k rfl ?_)
 exact g _ _ (a1.B (a1.B ((((aR.trans c).trans e).trans f).trans l) Lf K6) Lh K6) ⟨_,_,rfl,⟨_,_,rfl,((Ld.aD (Lg.trans Li)).from (((aR.trans c).trans e).trans f).le)⟩,⟨rfl,Le⟩⟩
def v(a:Bool)(b:List Nat)(aT:Bool)(c:List Nat):((Bool × List Nat) × Int):=F.v a b aT c
theorem aU{Z:V}{a:Bool}{b:U}{c d:Nat}{e:List Nat}(f:bJ Z b c e)(g:d=e.length){aT:Bool}{h:U}{i j:Nat}{l:List Nat}(m:bJ Z h i l)(n:j=l.length):aF id #[.agg #[.bool a,.slice b d c],.agg #[.bool aT,.slice h j i]] Z fun b c=>a4 Z c∧(s2 dZ (c3 .i64)) Z c b (v a e aT l):=
 ok (F.aU (a4.refl _) f g m n fun v A M O=>⟨M,O⟩)
end rH
namespace mN
def a7.v(a:Bool)(b:List Nat)(b:Bool)(b:List Nat)(b:List Nat)(c:Int):((Bool × List Nat) × Int):=
 bY (h1 a (b,c)) fun a=>
 ((a.1.1,a.1.2),a.2)
theorem a7.aU{Y:K}{aB Z:V}(aR:a4 aB Z){e:Bool}{j:U}{l:Nat}{f:List Nat}(Lg:bJ Z j l f){b:Nat}(m:cR Z b [.bool e,.slice j f.length l])(Lh:aB.size≤b){n:Bool}{D:U}{E:Nat}{h:List Nat}(Li:cN dQ aB Z D E h){dT:Nat}(a:cR Z dT [.bool n,.slice D h.length E])(G:aB.size≤dT){H:U}{P K5:Nat}{c:List Nat}(K7:cN dQ aB Z H P c)(K8:K5=c.length){d:Int}(K9:In .i64 d)(Lj:b ≠ dT)(g:dS (s2 dZ (c3 .i64)) aB Y (a7.v e f n h c d)):a7.t Y (⟨b,0,none⟩:Addr) (⟨dT,0,none⟩:Addr) H K5 P d Z:=by
 subst K8
 have Lk:=m.lt
 have Ll:=a.lt
 unfold a7.v at g
 unfold a7.t
 refine aI m (w _ _) rfl (aO rfl ?_)
 refine bF (jF.dJ K7 rfl K9) fun v Lm ⟨i,O⟩=>?_
 obtain⟨Ln,K6⟩:∃ z,z=h1 e (c,d):=⟨_,rfl⟩
 rw [← K6] at O
 replace g:=cC K6 g
 obtain⟨_,_,rfl,⟨Lo,Lp,rfl,La⟩,⟨rfl,Lb⟩⟩:=O
 refine dP rfl (aM (bZ rfl (aM (aO rfl (aM (k rfl (bP (aM (bI rfl (bP (?_)))))))))))
 have Lq:=i.aD
 have a:=(a.B i)
 refine bK a (w _ _) rfl fun Lr a Lc Ld=>?_
 refine bK a (w _ _) rfl fun Ls a Le Lf=>?_
 refine aI a (w _ _) rfl (aO rfl ?_)
 refine aI a (w _ _) rfl (k rfl ?_)
 exact g _ _ (a1.B (a1.B (aR.trans i) Lc G) Le G) ⟨_,_,rfl,⟨_,_,rfl,(La.aD (Ld.trans Lf))⟩,⟨rfl,Lb⟩⟩
def aC.v(cU:Bool)(a:List Nat)(b:Bool)(c:List Nat)(d:Bool)(e:List Nat):((Bool × List Nat) × Int):=
 bif ((((c.length:Nat):Int)) == (0:Int)) then
  ((false,([]:List Nat)),(4:Int))
 else
  bY (m8 a c) fun a=>
  bif (a.2.2 != (0:Int)) then
   ((false,([]:List Nat)),a.2.2)
  else
   bif (!(cU == b)) then
    bif (decide ((((a.2.1.length:Nat):Int)) > (0:Int))) then
     bY (lH c a.2.1) fun f=>
     a7.v b c d e f.1 f.2
    else
     a7.v b c d e a.2.1 a.2.2
   else
    a7.v b c d e a.2.1 a.2.2
theorem aC.aU{Y:K}{aB Z:V}(aR:a4 aB Z){cU:Bool}{K7:U}{K8:Nat}{n:List Nat}(Li:bJ Z K7 K8 n){h:Nat}(i:cR Z h [.bool cU,.slice K7 n.length K8])(Ls:aB.size≤h){K9:Bool}{La:U}{Lb:Nat}{j:List Nat}(l:bJ Z La Lb j){m:Nat}(c:cR Z m [.bool K9,.slice La j.length Lb])(E:aB.size≤m){Lc:Bool}{Ld:U}{Le:Nat}{G:List Nat}(H:cN dQ aB Z Ld Le G){dT:Nat}(a:cR Z dT [.bool Lc,.slice Ld G.length Le])(f:aB.size≤dT)(Lt:h ≠ m)(Lu:h ≠ dT)(P:m ≠ dT)(g:dS (s2 dZ (c3 .i64)) aB Y (aC.v cU n K9 j Lc G)):aC.t Y (⟨h,0,none⟩:Addr) (⟨m,0,none⟩:Addr) (⟨dT,0,none⟩:Addr) Z:=by
 have Lv:=i.lt
 have Lw:=c.lt
 have Lx:=a.lt
 unfold aC.v at g
 unfold aC.t
 refine aI c (w _ _) rfl (k rfl ?_)
 refine fB g (fun Lj g=>?_) (fun Lj g=>?_)
 ·refine bK a (w _ _) rfl fun Lk a b d=>?_
  refine bK a (w _ _) rfl fun Lf a e D=>?_
  refine aI a (w _ _) rfl (aO rfl ?_)
  refine aI a (w _ _) rfl (k rfl ?_)
  exact g _ _ (a1.B (a1.B aR b f) e f) ⟨_,_,rfl,⟨_,_,rfl,(cN.nil _ _)⟩,⟨rfl,(show In .i64 (4:Int) by decide)⟩⟩
 refine aI i (w _ _) rfl (k rfl ?_)
 refine aI c (w _ _) rfl (k rfl ?_)
 refine bF (m9.aU Li rfl l rfl) fun v Lk ⟨b,O⟩=>?_
 obtain⟨Ll,Lg⟩:∃ z,z=m8 n j:=⟨_,rfl⟩
 rw [← Lg] at O
 replace g:=cC Lg g
 obtain⟨_,_,_,rfl,⟨Ly,Lz,rfl,LA⟩,⟨LB,LC,rfl,K5⟩,⟨rfl,K6⟩⟩:=O
 refine dP rfl (aM (k rfl (aM (k rfl (aM (bI rfl (bP (?_))))))))
 have d:=b.aD
 refine wI g (fun Lm g=>?_) (fun Lm g=>?_)
 ·have a:=(a.B b)
  refine bK a (w _ _) rfl fun Lf a e D=>?_
  refine bK a (w _ _) rfl fun LD a Ln LF=>?_
  refine aI a (w _ _) rfl (aO rfl ?_)
  refine aI a (w _ _) rfl (k rfl ?_)
  exact g _ _ (a1.B (a1.B (aR.trans b) e f) Ln f) ⟨_,_,rfl,⟨_,_,rfl,(cN.nil _ _)⟩,⟨rfl,K6⟩⟩
 have i:=(i.B b)
 refine aI i (w _ _) rfl (aO rfl ?_)
 have c:=(c.B b)
 refine aI c (w _ _) rfl (aO rfl ?_)
 refine hH g (fun Lo g=>?_) (fun Lo g=>?_)
 ·refine jC g (fun Lp g=>?_) (fun Lp g=>?_)
  ·refine aI c (w _ _) rfl (k rfl ?_)
   refine bF (jS.aU (l.aD (d)) rfl K5.jD rfl) fun v Lf ⟨e,O⟩=>?_
   obtain⟨LG,Lh⟩:∃ z,z=lH j Ll.2.1:=⟨_,rfl⟩
   rw [← Lh] at O
   replace g:=cC Lh g
   obtain⟨_,_,rfl,⟨LH,LI,rfl,Lq⟩,⟨rfl,Lr⟩⟩:=O
   refine dP rfl (aM (k rfl (aM (bI rfl (bP (?_))))))
   have D:=e.aD
   have c:=(c.B e)
   have a:=((a.B b).B e)
   exact a7.aU ((aR.trans b).trans e) (l.aD (d.trans D)) c E (H.aD (d.trans D)) a f (Lq.from (aR.trans b).le) rfl Lr P g
  have a:=(a.B b)
  exact a7.aU (aR.trans b) (l.aD (d)) c E (H.aD (d)) a f (K5.from aR.le) rfl K6 P g
 have a:=(a.B b)
 exact a7.aU (aR.trans b) (l.aD (d)) c E (H.aD (d)) a f (K5.from aR.le) rfl K6 P g
def F.v(a:Bool)(b:List Nat)(aT:Bool)(c:List Nat):((Bool × List Nat) × Int):=
 bif (!(decide (eJ (a,b)))) then
  ((false,([]:List Nat)),(2:Int))
 else
  bif (!(decide (eJ (aT,c)))) then
   ((false,([]:List Nat)),(2:Int))
  else
   aC.v a b aT c false ([]:List Nat)
theorem F.aU{Y:K}{aB Z:V}(aR:a4 aB Z){K5:Bool}{K6:U}{K7 K8:Nat}{D:List Nat}(K9:bJ Z K6 K7 D)(Lf:K8=D.length){aT:Bool}{La:U}{Lb Lc:Nat}{E:List Nat}(Ld:bJ Z La Lb E)(Lg:Lc=E.length)(g:dS (s2 dZ (c3 .i64)) aB Y (F.v K5 D aT E)):F.t Y K5 K6 K8 K7 aT La Lc Lb Z:=by
 subst Lf Lg
 unfold F.v at g
 unfold F.t
 refine cK fun Lq d f=>?_
 have Lh:=aR.le
 have Le:=d.lt
 have m:=f.aD
 refine cK fun Lr e h=>?_
 have Li:=(aR.trans f).le
 have Lj:=e.lt
 have j:=h.aD
 refine cK fun Ls a i=>?_
 have l:=((aR.trans f).trans h).le
 have Lt:=a.lt
 have n:=i.aD
 have d:=((d.B h).B i)
 refine aI d (w _ _) rfl (aO rfl ?_)
 refine aI d (w _ _) rfl (k rfl ?_)
 refine bF (eQ.aY (K9.aD (m.trans (j.trans n))) rfl) fun v Lu ⟨b,O⟩=>?_
 obtain rfl:=O
 refine aO rfl (?_)
 have G:=b.aD
 refine hH g (fun Lk g=>?_) (fun Lk g=>?_)
 ·have a:=(a.B b)
  refine bK a (w _ _) rfl fun Ll a c H=>?_
  refine bK a (w _ _) rfl fun Lm a P Ln=>?_
  refine aI a (w _ _) rfl (aO rfl ?_)
  refine aI a (w _ _) rfl (k rfl ?_)
  exact g _ _ (a1.B (a1.B ((((aR.trans f).trans h).trans i).trans b) c l) P l) ⟨_,_,rfl,⟨_,_,rfl,(cN.nil _ _)⟩,⟨rfl,(show In .i64 (2:Int) by decide)⟩⟩
 have e:=((e.B i).B b)
 refine aI e (w _ _) rfl (aO rfl ?_)
 refine aI e (w _ _) rfl (k rfl ?_)
 refine bF (eQ.aY (Ld.aD (m.trans (j.trans (n.trans G)))) rfl) fun v Ll ⟨c,O⟩=>?_
 obtain rfl:=O
 refine aO rfl (?_)
 have H:=c.aD
 refine hH g (fun Lo g=>?_) (fun Lo g=>?_)
 ·have a:=((a.B b).B c)
  refine bK a (w _ _) rfl fun Lm a P Ln=>?_
  refine bK a (w _ _) rfl fun Lv a Lp Lw=>?_
  refine aI a (w _ _) rfl (aO rfl ?_)
  refine aI a (w _ _) rfl (k rfl ?_)
  exact g _ _ (a1.B (a1.B (((((aR.trans f).trans h).trans i).trans b).trans c) P l) Lp l) ⟨_,_,rfl,⟨_,_,rfl,(cN.nil _ _)⟩,⟨rfl,(show In .i64 (2:Int) by decide)⟩⟩
 have d:=((d.B b).B c)
 have e:=(e.B c)
 have a:=((a.B b).B c)
 exact aC.aU (((((aR.trans f).trans h).trans i).trans b).trans c) (K9.aD (m.trans (j.trans (n.trans (G.trans H))))) d Lh (Ld.aD (m.trans (j.trans (n.trans (G.trans H))))) e Li (cN.nil _ _) a l (Nat.ne_of_lt Le) (Nat.ne_of_lt ((j).lt Le)) (Nat.ne_of_lt Lj) g
def v(a:Bool)(b:List Nat)(aT:Bool)(c:List Nat):((Bool × List Nat) × Int):=F.v a b aT c
theorem aU{Z:V}{a:Bool}{b:U}{c d:Nat}{e:List Nat}(f:bJ Z b c e)(g:d=e.length){aT:Bool}{h:U}{i j:Nat}{l:List Nat}(m:bJ Z h i l)(n:j=l.length):aF id #[.agg #[.bool a,.slice b d c],.agg #[.bool aT,.slice h j i]] Z fun b c=>a4 Z c∧(s2 dZ (c3 .i64)) Z c b (v a e aT l):=
 ok (F.aU (a4.refl _) f g m n fun v A M O=>⟨M,O⟩)
end mN
theorem H0{L:Bool}{u:List Nat}(a9:eJ (L,u)):eJ ((!L) && decide (0 < u.length),u):=by
 refine⟨a9.1,?_⟩
 rintro⟨a0,a⟩
 have a:u=[]:=a
 subst a;simp at a0
theorem H2(L:Bool)(u:List Nat):eV ((!L) && decide (0 < u.length),u)=-eV (L,u):=by
 rw [pL,pL,tX]
 show cE _ (val u)=cE (!L) (val u)
 cases u with
 | nil=>rw [show val []=0 from rfl,lJ,lJ]
 | cons aN u=>simp
theorem H3(N L:Bool)(T u:List Nat):n0.v N T L u=gR vL (N,T) (L,u):=by
 unfold n0.v n0.F.v n0.aC.v
 by_cases a9:eJ (N,T)
 ·by_cases a:eJ (L,u)
  ·simp only [a9,a,decide_true,bY,Bool.not_true,cond_false]
   show gR nZ (N,T) ((!L) && decide (0 < u.length),u)=_
   unfold gR
   rw [if_pos ⟨a9,H0 a⟩,if_pos ⟨a9,a⟩,H2]
   rfl
  ·simp only [a9,a,decide_true,decide_false,bY,Bool.not_true,Bool.not_false,cond_false,cond_true,gR,and_false,if_false];rfl
 ·simp only [a9,decide_false,bY,Bool.not_false,cond_true,gR,false_and,if_false];rfl
theorem H4{N L:Bool}{T u:List Nat}(E:Words T)(f:Words u):mN.v N T L u=hM iV (N,T) (L,u):=by
 unfold mN.v mN.F.v mN.aC.v hM
 by_cases a9:eJ (N,T)
 ·by_cases a:eJ (L,u)
  ·simp only [a9,a,decide_true,bY,Bool.not_true,cond_false,and_self,if_true]
   have c:eV (L,u)=0↔u=[]:=by rw [pL,tY];exact vK a.1
   by_cases aB:u=[]
   ·rw [if_pos (c.mpr aB)];subst aB;rfl
   ·have c4:val u ≠ 0:=fun Z=>aB ((vK a.1).mp Z)
    have g:(((u.length:Nat):Int) == 0)=false:=by simp;exact aB
    rw [if_neg (fun Z=>aB (c.mp Z)),g,cond_false]
    have h:(aE (val u)).length≤8192:=by rw [yX a f];exact a.1.1
    have i:m8 T u=(aE (val T / val u),aE (val T % val u),0):=by
     unfold m8
     rw [if_pos ⟨a9.1,a.1⟩,if_neg c4]
    have d:=Nat.mod_lt (val T) (show 0 < val u by omega)
    have e:(aE (val T % val u)).length≤8192:=Nat.le_trans (mD (Nat.le_of_lt d)) h
    have j:decide (((aE (val T % val u)).length:Int) > 0)=decide (val T % val u ≠ 0):=by
     rw [← yQ,decide_eq_decide];omega
    have l:((0:Int) != 0)=false:=rfl
    have m:lH u (aE (val T % val u))=eS (val u - val T % val u):=by
     rw [yF a.1 ⟨e,nR _⟩ (by rw [fA];exact Nat.le_of_lt d),fA]
    have n:(aE (val T % val u),(0:Int))=eS (val T % val u):=by unfold eS;rw [if_pos e]
    have D:∀ z:List Nat × Int,mN.a7.v L u false [] z.1 z.2=h1 L z:=fun _=>rfl
    have aC:mN.a7.v L u false [] (aE (val T % val u)) 0=h1 L (eS (val T % val u)):=by rw [← n];rfl
    rw [i]
    simp only [j,l,cond_false,aC]
    rw [D,m,rA,rA]
    show _=fP (iV (cE N (val T)) (cE L (val u)))
    rw [yW c4 (wS a9)]
    have t:(!(N == L))=xor N L:=by cases N <;> cases L <;> rfl
    rw [t]
    by_cases b:xor N L=true
    ·rw [b,cond_true]
     by_cases bX:val T % val u ≠ 0
     ·simp [bX]
     ·simp [bX]
    ·have b:xor N L=false:=by simpa using b
     rw [b,cond_false];simp
  ·simp only [a9,a,decide_true,decide_false,bY,Bool.not_true,Bool.not_false,cond_false,cond_true,and_false,if_false];rfl
 ·simp only [a9,decide_false,bY,Bool.not_false,cond_true,false_and,if_false];rfl
section
variable {a N:U} {L bH l m:Nat} {T u:List Nat} {Z:V} {I aN:Int} {z o:Bool}
theorem n0.aY(s:bJ Z a L T)(J:l=T.length)(O:bJ Z N bH u)(a9:m=u.length):aF n0.id #[.agg #[.bool z,.slice a l L],.agg #[.bool o,.slice N m bH]] Z fun v A=>a4 Z A∧s2 dZ (c3 .i64) Z A v (gR vL (z,T) (o,u)):=by rw [← H3];exact n0.aU s J O a9
theorem rC.aY(s:bJ Z a L T)(J:l=T.length)(Q:In .i64 I)(dX:gK Z):aF rC.id #[.agg #[.bool z,.slice a l L],.int .i64 I] Z fun v A=>a4 Z A∧s2 dZ (c3 .i64) Z A v (iM e4 (z,T) I):=rC.aU s J Q dX
theorem rD.aY(s:bJ Z a L T)(J:l=T.length)(Q:In .i64 I)(dX:gK Z):aF rD.id #[.agg #[.bool z,.slice a l L],.int .i64 I] Z fun v A=>a4 Z A∧s2 dZ (c3 .i64) Z A v (iM iL (z,T) I):=rD.aU s J Q dX
theorem rE.aY(s:bJ Z a L T)(J:l=T.length)(Q:In .i64 I)(dX:gK Z):aF rE.id #[.agg #[.bool z,.slice a l L],.int .i64 I] Z fun v A=>a4 Z A∧s2 dZ (c3 .i64) Z A v (iM gY (z,T) I):=rE.aU s J Q dX
theorem rF.aY(s:bJ Z a L T)(J:l=T.length)(O:bJ Z N bH u)(a9:m=u.length):aF rF.id #[.agg #[.bool z,.slice a l L],.agg #[.bool o,.slice N m bH]] Z fun v A=>a4 Z A∧s2 dZ (c3 .i64) Z A v (hM e4 (z,T) (o,u)):=rF.aU s J O a9
theorem rG.aY(s:bJ Z a L T)(J:l=T.length)(O:bJ Z N bH u)(a9:m=u.length):aF rG.id #[.agg #[.bool z,.slice a l L],.agg #[.bool o,.slice N m bH]] Z fun v A=>a4 Z A∧s2 dZ (c3 .i64) Z A v (hM iL (z,T) (o,u)):=rG.aU s J O a9
theorem rH.aY(s:bJ Z a L T)(J:l=T.length)(O:bJ Z N bH u)(a9:m=u.length):aF rH.id #[.agg #[.bool z,.slice a l L],.agg #[.bool o,.slice N m bH]] Z fun v A=>a4 Z A∧s2 dZ (c3 .i64) Z A v (hM gY (z,T) (o,u)):=rH.aU s J O a9
theorem mN.aY(s:bJ Z a L T)(J:l=T.length)(O:bJ Z N bH u)(a9:m=u.length):aF mN.id #[.agg #[.bool z,.slice a l L],.agg #[.bool o,.slice N m bH]] Z fun v A=>a4 Z A∧s2 dZ (c3 .i64) Z A v (hM iV (z,T) (o,u)):=by rw [← H4 s.words O.words];exact mN.aU s J O a9
end
section
variable {a N:U} {L bH l m aL bA:Nat} {T u:List Nat} {Z:V} {I aN:Int}
theorem g5.aU(s:cB b2 Z a L (D.aE aL))(J:l=(D.aE aL).length):aF g5.id #[.slice a l L] Z fun v A=>a4 Z A∧gC Z A v aL:=by
 have:=oD s J
 rw [D.fA] at this;exact this
theorem lD.aU(s:bJ Z a L T)(J:l=T.length):aF lD.id #[.slice a l L] Z fun v A=>a4 Z A∧gC Z A v (val T):=FQ s J
theorem j1.aU(s:cB b2 Z a L (D.aE aL))(J:l=(D.aE aL).length):aF j1.id #[.slice a l L] Z fun v A=>a4 Z A∧qB Z A v (aE aL):=CZ s J
theorem pD.aU(s:bJ Z a L T)(J:l=T.length)(O:bJ Z N bH u)(a9:m=u.length):j8 pD.id #[.slice a l L,.slice N m bH] Z fun v=>h0 Z Z v (decide (T=u)):=FL s O J a9
end
namespace fK
def F.v(a:Bool)(b:Nat):(Bool × Nat):=
 bY (b) fun b=>
 bif a then
  ((decide (((((D.aE b).length:Nat):Int)) > (0:Int))),b)
 else
  (false,b)
theorem F.aU{Y:K}{aB Z:V}(aR:a4 aB Z){l:Bool}{m:U}{n y:Nat}{d:Nat}(H:cB b2 Z m n (D.aE d))(P:y=(D.aE d).length)(g:dS fC aB Y (F.v l d)):F.t Y l m y n Z:=by
 subst P
 unfold F.v at g
 unfold F.t
 refine cK fun K5 a b=>?_
 have a:cR K5 (Z.size) [.bool false,.slice none (D.aE 0).length 0]:=by rw [D.dM];exact a
 have e:=aR.le
 have La:=a.lt
 have K6:=b.aD
 refine bF (g5.aU (H.aD (K6)) rfl) fun v Lb ⟨c,O⟩=>?_
 obtain⟨Lc,E⟩:∃ z,z=d:=⟨_,rfl⟩
 rw [← E] at O
 replace g:=cC E g
 obtain⟨Ld,Le,rfl,G⟩:=O
 refine k rfl (?_)
 have Lf:=c.aD
 refine iR g (fun K7 g=>?_) (fun K7 g=>?_)
 ·have a:=(a.B c)
  refine bK a (w _ _) rfl fun K8 a f h=>?_
  refine bK a (w _ _) rfl fun K9 a i j=>?_
  refine aI a (w _ _) rfl (aO rfl ?_)
  refine aI a (w _ _) rfl (k rfl ?_)
  exact g _ _ (a1.B (a1.B ((aR.trans b).trans c) f e) i e) ⟨_,_,rfl,((G.aD (h.trans j)).from (aR.trans b).le)⟩
 have a:=(a.B c)
 refine bK a (w _ _) rfl fun K8 a f h=>?_
 refine bK a (w _ _) rfl fun K9 a i j=>?_
 refine aI a (w _ _) rfl (aO rfl ?_)
 refine aI a (w _ _) rfl (k rfl ?_)
 exact g _ _ (a1.B (a1.B ((aR.trans b).trans c) f e) i e) ⟨_,_,rfl,((G.aD (h.trans j)).from (aR.trans b).le)⟩
def v(a:Bool)(b:Nat):(Bool × Nat):=F.v a b
theorem aU{Z:V}{a:Bool}{b:U}{c y:Nat}{d:Nat}(e:cB b2 Z b c (D.aE d))(f:y=(D.aE d).length):aF id #[.bool a,.slice b y c] Z fun b c=>a4 Z c∧fC Z c b (v a d):=
 ok (F.aU (a4.refl _) e f fun v A M O=>⟨M,O⟩)
end fK
namespace iN
def F.v(a:Bool)(b:List Nat)(aT:Bool)(c:List Nat):Bool:=
 bif (a == aT) then
  (decide (b=c))
 else
  false
theorem F.aU{Y:K}{aB Z:V}(aR:a4 aB Z){h:Bool}{i:U}{j l:Nat}{d:List Nat}(H:bJ Z i j d)(P:l=d.length){aT:Bool}{m:U}{n D:Nat}{e:List Nat}(K5:bJ Z m n e)(K6:D=e.length)(g:dS h0 aB Y (F.v h d aT e)):F.t Y h i l j aT m D n Z:=by
 subst P K6
 unfold F.v at g
 unfold F.t
 refine cK fun K8 a b=>?_
 have K9:=aR.le
 have La:=a.lt
 have E:=b.aD
 refine cK fun Lb f c=>?_
 have Lc:=(aR.trans b).le
 have Ld:=f.lt
 have G:=c.aD
 have a:=(a.B c)
 refine aI a (w _ _) rfl (aO rfl ?_)
 refine aI f (w _ _) rfl (aO rfl ?_)
 refine iR g (fun K7 g=>?_) (fun K7 g=>?_)
 ·refine aI a (w _ _) rfl (k rfl ?_)
  refine aI f (w _ _) rfl (k rfl ?_)
  refine FF (pD.aU (H.aD (E.trans G)) rfl (K5.aD (E.trans G)) rfl) fun v O=>?_
  obtain rfl:=O
  refine aO rfl (?_)
  exact g _ _ ((aR.trans b).trans c) rfl
 exact g _ _ ((aR.trans b).trans c) rfl
def v(a:Bool)(b:List Nat)(aT:Bool)(c:List Nat):Bool:=F.v a b aT c
theorem aU{Z:V}{a:Bool}{b:U}{c d:Nat}{e:List Nat}(f:bJ Z b c e)(g:d=e.length){aT:Bool}{h:U}{i j:Nat}{l:List Nat}(m:bJ Z h i l)(n:j=l.length):aF id #[.agg #[.bool a,.slice b d c],.agg #[.bool aT,.slice h j i]] Z fun b c=>a4 Z c∧h0 Z c b (v a e aT l):=
 ok (F.aU (a4.refl _) f g m n fun v A M O=>⟨M,O⟩)
end iN
theorem rI(aL:Nat):(D.aE aL).length=0↔aL=0:=by
 constructor
 ·intro Z
  have a:D.aE aL=[]:=List.length_eq_zero_iff.mp Z
  rw [← D.fA aL,a];rfl
 ·intro Z;subst Z;simp [D.dM]
theorem H5(N:Bool)(aL:Nat):fK.v N aL=b5 (cE N aL):=by
 unfold fK.v fK.F.v
 rw [Hx]
 have J:decide ((((D.aE aL).length:Nat):Int) > 0)=decide (aL ≠ 0):=by
  rw [decide_eq_decide];have:=rI aL;omega
 simp only [bY,J]
 cases N <;> rfl
theorem H6(N L:Bool)(T u:List Nat):iN.v N T L u=decide ((N,T)=(L,u)):=by
 unfold iN.v iN.F.v
 by_cases Z:N=L
 ·subst Z;simp
 ·have:(N == L)=false:=by simp [Z]
  rw [this];simp [Z]
section
variable {a N:U} {L bH l m aL:Nat} {T u:List Nat} {Z:V} {I aN:Int} {z o:Bool}
theorem fK.aY(s:cB b2 Z a L (D.aE aL))(J:l=(D.aE aL).length):aF fK.id #[.bool z,.slice a l L] Z fun v A=>a4 Z A∧fC Z A v (b5 (cE z aL)):=by rw [← H5];exact fK.aU s J
theorem iN.aY(s:bJ Z a L T)(J:l=T.length)(O:bJ Z N bH u)(a9:m=u.length):aF iN.id #[.agg #[.bool z,.slice a l L],.agg #[.bool o,.slice N m bH]] Z fun v A=>a4 Z A∧h0 Z A v (decide ((z,T)=(o,u))):=by rw [← H6];exact iN.aU s J O a9
theorem mO.aY(Q:In .i64 I):aF mO.id #[.int .i64 I] Z fun v A=>a4 Z A∧fC Z A v (b5 I):=by
 rw [mF] at Q
 refine mO.ok ?_
 unfold mO.t mO.F.t
 refine cK fun m a n=>?_
 refine cD (fun b=>?_) fun b=>?_
 ·have b:I < 0:=b
  refine jO (aN:=I+1) (wrap_i64 (by omega) (by omega)) ?_
  refine jO (aN:=-(I+1)) (by rw [show 0 - (I+1)=-(I+1) by omega];exact wrap_i64 (by omega) (by omega)) ?_
  refine jO (aN:=(((I+1).natAbs:Nat):Int)) (by rw [wrap_u64];omega) ?_
  refine bF (oE (aA:=(I+1).natAbs) rfl (by omega) m) fun v E ⟨c,O⟩=>?_
  refine O.elim fun H P f=>?_
  refine bF (oE (aA:=1) rfl (by omega) E) fun v Lc ⟨g,O⟩=>?_
  refine O.elim fun Ld bX K5=>?_
  have y:(D.aE (I+1).natAbs).length≤2:=CJ.mpr (by omega)
  have b8:(D.aE 1).length≤2:=CJ.mpr (by omega)
  refine bF (C0 (f.rd.B g) K5.rd rfl rfl (by omega) (by omega)) fun v Le ⟨G,O⟩=>?_
  refine O.elim fun Lf Lg K6=>?_
  refine bF (fK.aY K6.rd rfl) fun v K7 ⟨d,O⟩=>?_
  have h:cE true ((I+1).natAbs+1)=I:=by unfold cE;simp only [if_true];omega
  rw [h] at O
  have e:=n.trans (c.trans (g.trans G))
  obtain⟨K8,K9,J,i⟩:=O
  subst J
  refine bZ rfl ?_
  refine aM ?_
  refine aO rfl ?_
  refine aM ?_
  refine k rfl ?_
  refine bP ?_
  have a:=a.B (c.trans (g.trans (G.trans d)))
  refine bK a (w _ _) rfl fun La a j gS=>?_
  refine bK a (w _ _) rfl fun Lb a l kP=>?_
  refine aI a (w _ _) rfl ?_
  refine aO rfl ?_
  refine aI a (w _ _) rfl ?_
  refine k rfl ?_
  exact⟨a1.B (a1.B (e.trans d) j (Nat.le_refl _)) l (Nat.le_refl _),_,_,rfl,(i.from e.le).aD (gS.trans kP)⟩
 ·have b:¬ I < 0:=b
  refine jO (aN:=((I.natAbs:Nat):Int)) (by rw [wrap_u64];omega) ?_
  refine bF (oE (aA:=I.natAbs) rfl (by omega) m) fun v E ⟨c,O⟩=>?_
  refine O.elim fun H P f=>?_
  refine bF (fK.aY f.rd rfl) fun v K7 ⟨d,O⟩=>?_
  have h:cE false I.natAbs=I:=by unfold cE;simp only [Bool.false_eq_true,if_false];omega
  rw [h] at O
  have e:=n.trans c
  obtain⟨K8,K9,J,i⟩:=O
  subst J
  refine bZ rfl ?_
  refine aM ?_
  refine aO rfl ?_
  refine aM ?_
  refine k rfl ?_
  refine bP ?_
  have a:=a.B (c.trans d)
  refine bK a (w _ _) rfl fun La a j gS=>?_
  refine bK a (w _ _) rfl fun Lb a l kP=>?_
  refine aI a (w _ _) rfl ?_
  refine aO rfl ?_
  refine aI a (w _ _) rfl ?_
  refine k rfl ?_
  exact⟨a1.B (a1.B (e.trans d) j (Nat.le_refl _)) l (Nat.le_refl _),_,_,rfl,(i.from e.le).aD (gS.trans kP)⟩
end
namespace fN
def F.v(a:Bool)(b:List Nat):(Bool × Nat):=
 bY (val b) fun b=>
 bY (b5 (cE a b)) fun a=>
 (a.1,a.2)
theorem F.aU{Y:K}{aB Z:V}(aR:a4 aB Z){i:Bool}{l:U}{m n:Nat}{d:List Nat}(K5:bJ Z l m d)(K6:n=d.length)(g:dS fC aB Y (F.v i d)):F.t Y i l n m Z:=by
 subst K6
 unfold F.v at g
 unfold F.t
 refine cK fun K7 b e=>?_
 have Li:=aR.le
 have E:=b.lt
 have K8:=e.aD
 refine cK fun K9 a f=>?_
 have a:cR K9 (K7.size) [.bool false,.slice none (D.aE 0).length 0]:=by rw [D.dM];exact a
 have G:=(aR.trans e).le
 have Lj:=a.lt
 have j:=f.aD
 have b:=(b.B f)
 refine⟨eY (w _ _) ((j).lt E),?_⟩
 refine aI b (w _ _) rfl (aO rfl ?_)
 refine⟨eY (w _ _) ((j).lt E),?_⟩
 refine aI b (w _ _) rfl (k rfl ?_)
 refine bF (lD.aU (K5.aD (K8.trans j)) rfl) fun v Lk ⟨c,O⟩=>?_
 obtain⟨La,H⟩:∃ z,z=val d:=⟨_,rfl⟩
 rw [← H] at O
 replace g:=cC H g
 obtain⟨Ll,Lm,rfl,Lb⟩:=O
 refine k rfl (?_)
 have Lc:=c.aD
 refine⟨c.c1 (Nat.le_refl _),?_⟩
 refine bF (fK.aY Lb.rd rfl) fun v Ln ⟨h,O⟩=>?_
 obtain⟨Lo,P⟩:∃ z,z=b5 (cE i La):=⟨_,rfl⟩
 rw [← P] at O
 replace g:=cC P g
 obtain⟨Lp,Lq,rfl,Ld⟩:=O
 refine bZ rfl (aM (aO rfl (aM (k rfl (bP (?_))))))
 have Lr:=h.aD
 refine⟨h.c1 (Lc).le,?_⟩
 have a:=((a.B c).B h)
 refine bK a (w _ _) rfl fun Ls a Le Lf=>?_
 refine bK a (w _ _) rfl fun Lt a Lg Lh=>?_
 refine aI a (w _ _) rfl (aO rfl ?_)
 refine aI a (w _ _) rfl (k rfl ?_)
 exact g _ _ (a1.B (a1.B ((((aR.trans e).trans f).trans c).trans h) Le G) Lg G) ⟨_,_,rfl,((Ld.aD (Lf.trans Lh)).from (((aR.trans e).trans f).trans c).le)⟩
def v(a:Bool)(b:List Nat):(Bool × Nat):=F.v a b
theorem aU{Z:V}{a:Bool}{b:U}{c d:Nat}{e:List Nat}(f:bJ Z b c e)(g:d=e.length):aF id #[.agg #[.bool a,.slice b d c]] Z fun b c=>a4 Z c∧fC Z c b (v a e):=
 ok (F.aU (a4.refl _) f g fun v A M O=>⟨M,O⟩)
end fN
namespace nE
def F.v(a:Bool)(b:Nat):(Bool × List Nat):=
 bif a then
  bY (aE b) fun a=>
  ((decide (((((D.aE b).length:Nat):Int)) > (0:Int))),a)
 else
  bY (aE b) fun a=>
  (false,a)
theorem F.aU{Y:K}{aB Z:V}(aR:a4 aB Z){G:Bool}{H:U}{P K5:Nat}{h:Nat}(K6:cB b2 Z H P (D.aE h))(La:K5=(D.aE h).length)(g:dS dZ aB Y (F.v G h)):F.t Y G H K5 P Z:=by
 subst La
 unfold F.v at g
 unfold F.t
 refine cK fun Li c d=>?_
 have Lj:=aR.le
 have i:=c.lt
 have K7:=d.aD
 refine cK fun Lk a e=>?_
 have j:=(aR.trans d).le
 have Ll:=a.lt
 have f:=e.aD
 have c:=(c.B e)
 refine⟨eY (w _ _) ((f).lt i),?_⟩
 refine aI c (w _ _) rfl (aO rfl ?_)
 refine iR g (fun Lb g=>?_) (fun Lb g=>?_)
 ·refine⟨eY (w _ _) ((f).lt i),?_⟩
  refine aI c (w _ _) rfl (k rfl ?_)
  refine⟨eY (w _ _) ((f).lt i),?_⟩
  refine aI c (w _ _) rfl (k rfl ?_)
  refine bF (j1.aU (K6.aD (K7.trans f)) rfl) fun v Lc ⟨b,O⟩=>?_
  obtain⟨Lm,K8⟩:∃ z,z=aE h:=⟨_,rfl⟩
  rw [← K8] at O
  replace g:=cC K8 g
  obtain⟨Ln,Lo,rfl,Ld⟩:=O
  refine k rfl (?_)
  have Le:=b.aD
  refine⟨b.c1 (Nat.le_refl _),?_⟩
  have a:=(a.B b)
  refine bK a (w _ _) rfl fun Lf a l m=>?_
  refine bK a (w _ _) rfl fun Lg a n E=>?_
  refine aI a (w _ _) rfl (aO rfl ?_)
  refine aI a (w _ _) rfl (k rfl ?_)
  exact g _ _ (a1.B (a1.B (((aR.trans d).trans e).trans b) l j) n j) ⟨_,_,rfl,((Ld.aD (m.trans E)).from ((aR.trans d).trans e).le)⟩
 refine⟨eY (w _ _) ((f).lt i),?_⟩
 refine aI c (w _ _) rfl (k rfl ?_)
 refine bF (j1.aU (K6.aD (K7.trans f)) rfl) fun v Lc ⟨b,O⟩=>?_
 obtain⟨Lp,K9⟩:∃ z,z=aE h:=⟨_,rfl⟩
 rw [← K9] at O
 replace g:=cC K9 g
 obtain⟨Lq,Lr,rfl,Lh⟩:=O
 refine k rfl (?_)
 have Le:=b.aD
 refine⟨b.c1 (Nat.le_refl _),?_⟩
 have a:=(a.B b)
 refine bK a (w _ _) rfl fun Lf a l m=>?_
 refine bK a (w _ _) rfl fun Lg a n E=>?_
 refine aI a (w _ _) rfl (aO rfl ?_)
 refine aI a (w _ _) rfl (k rfl ?_)
 exact g _ _ (a1.B (a1.B (((aR.trans d).trans e).trans b) l j) n j) ⟨_,_,rfl,((Lh.aD (m.trans E)).from ((aR.trans d).trans e).le)⟩
def v(a:Bool)(b:Nat):(Bool × List Nat):=F.v a b
theorem aU{Z:V}{a:Bool}{b:U}{c d:Nat}{e:Nat}(f:cB b2 Z b c (D.aE e))(g:d=(D.aE e).length):aF id #[.agg #[.bool a,.slice b d c]] Z fun b c=>a4 Z c∧dZ Z c b (v a e):=
 ok (F.aU (a4.refl _) f g fun v A M O=>⟨M,O⟩)
end nE
theorem H7(N:Bool)(aL:Nat):nE.v N aL=fE (bL (N,aL)):=by
 unfold nE.v nE.F.v
 have a:bL (N,aL)=cE N aL:=rfl
 rw [a,DK]
 have J:decide ((((D.aE aL).length:Nat):Int) > 0)=decide (aL ≠ 0):=by
  rw [decide_eq_decide];have:=rI aL;omega
 simp only [bY,J]
 cases N <;> rfl
section
variable {a N:U} {L bH l m aL:Nat} {T u:List Nat} {Z:V} {I aN:Int} {z o:Bool}
theorem fN.aY(s:bJ Z a L T)(J:l=T.length):aF fN.id #[.agg #[.bool z,.slice a l L]] Z fun v A=>a4 Z A∧fC Z A v (b5 (eV (z,T))):=fN.aU s J
theorem nE.aY(s:cB b2 Z a L (D.aE aL))(J:l=(D.aE aL).length):aF nE.id #[.agg #[.bool z,.slice a l L]] Z fun v A=>a4 Z A∧dZ Z A v (fE (bL (z,aL))):=by rw [← H7];exact nE.aU s J
end
namespace kZ
def F.v(a3:Int):(Bool × List Nat):=
 bY (b5 a3) fun a=>
 bY (fE (bL (a.1,a.2))) fun a=>
 (a.1,a.2)
theorem F.aU{Y:K}{aB Z:V}(aR:a4 aB Z){a3:Int}(j:In .i64 a3)(g:dS dZ aB Y (F.v a3)):F.t Y a3 Z:=by
 unfold F.v at g
 unfold F.t
 refine cK fun H a c=>?_
 have e:=aR.le
 have P:=a.lt
 have K5:=c.aD
 refine bF (mO.aY j) fun v K6 ⟨b,O⟩=>?_
 obtain⟨f,h⟩:∃ z,z=b5 a3:=⟨_,rfl⟩
 rw [← h] at O
 replace g:=cC h g
 obtain⟨K7,K8,rfl,l⟩:=O
 refine bZ rfl (aM (aO rfl (aM (k rfl (bP (?_))))))
 have K9:=b.aD
 refine bF (nE.aY l.rd rfl) fun v La ⟨d,O⟩=>?_
 obtain⟨Lb,i⟩:∃ z,z=fE (bL (f.1,f.2)):=⟨_,rfl⟩
 rw [← i] at O
 replace g:=cC i g
 obtain⟨Lc,Ld,rfl,m⟩:=O
 refine bZ rfl (aM (aO rfl (aM (k rfl (bP (?_))))))
 have Le:=d.aD
 have a:=((a.B b).B d)
 refine bK a (w _ _) rfl fun Lf a n D=>?_
 refine bK a (w _ _) rfl fun Lg a E G=>?_
 refine aI a (w _ _) rfl (aO rfl ?_)
 refine aI a (w _ _) rfl (k rfl ?_)
 exact g _ _ (a1.B (a1.B (((aR.trans c).trans b).trans d) n e) E e) ⟨_,_,rfl,((m.aD (D.trans G)).from ((aR.trans c).trans b).le)⟩
def v(a3:Int):(Bool × List Nat):=F.v a3
theorem aU{Z:V}{a3:Int}(a:In .i64 a3):aF id #[.int .i64 a3] Z fun b c=>a4 Z c∧dZ Z c b (v a3):=
 ok (F.aU (a4.refl _) a fun v A M O=>⟨M,O⟩)
end kZ
namespace pQ
def aC.v(a:Int)(b:Bool)(c:List Nat)(d:Int):Bool:=
 bY (nA (b,c)) fun e=>
 bif (a == (0:Int)) then
  bif (d == (0:Int)) then
   bif (e.2 == (0:Int)) then
    bif (e.1 == (-14:Int)) then
     bif (((gA (eV (b,c)) 0)) == (-1:Int)) then
      (decide (eJ (b,c)))
     else
      false
    else
     false
   else
    false
  else
   false
 else
  false
theorem aC.aU{Y:K}{aB Z:V}(aR:a4 aB Z){e:Int}(K8:In .i64 e){f:Bool}{l:U}{m:Nat}{c:List Nat}(h:cN dQ aB Z l m c){i:Nat}(a:cR Z i [.bool f,.slice l c.length m])(K9:aB.size≤i){j:Int}(La:In .i64 j)(g:dS h0 aB Y (aC.v e f c j)):aC.t Y e (⟨i,0,none⟩:Addr) j Z:=by
 have Lb:=a.lt
 unfold aC.v at g
 unfold aC.t
 refine aI a (w _ _) rfl (aO rfl ?_)
 refine aI a (w _ _) rfl (k rfl ?_)
 refine bF (mM.aY h.jD rfl) fun v Lc ⟨b,O⟩=>?_
 obtain⟨Ld,n⟩:∃ z,z=nA (f,c):=⟨_,rfl⟩
 rw [← n] at O
 replace g:=cC n g
 obtain⟨_,_,rfl,⟨rfl,Le⟩,⟨rfl,Lf⟩⟩:=O
 refine dP rfl (aM (bI rfl (aM (bI rfl (bP (?_))))))
 have D:=b.aD
 refine fB g (fun G g=>?_) (fun G g=>?_)
 ·refine fB g (fun H g=>?_) (fun H g=>?_)
  ·refine fB g (fun P g=>?_) (fun P g=>?_)
   ·refine fB g (fun K5 g=>?_) (fun K5 g=>?_)
    ·have a:=(a.B b)
     refine aI a (w _ _) rfl (aO rfl ?_)
     refine aI a (w _ _) rfl (k rfl ?_)
     refine bF (nB.aY (h.aD (D)).jD rfl) fun v Lg ⟨d,O⟩=>?_
     obtain⟨rfl,Lh⟩:=O
     refine bI rfl (?_)
     have K6:=d.aD
     refine fB g (fun K7 g=>?_) (fun K7 g=>?_)
     ·have a:=(a.B d)
      refine aI a (w _ _) rfl (aO rfl ?_)
      refine aI a (w _ _) rfl (k rfl ?_)
      refine bF (eQ.aY (h.aD (D.trans K6)).jD rfl) fun v Li ⟨E,O⟩=>?_
      obtain rfl:=O
      refine aO rfl (?_)
      have Lj:=E.aD
      exact g _ _ (((aR.trans b).trans d).trans E) rfl
     exact g _ _ ((aR.trans b).trans d) rfl
    exact g _ _ (aR.trans b) rfl
   exact g _ _ (aR.trans b) rfl
  exact g _ _ (aR.trans b) rfl
 exact g _ _ (aR.trans b) rfl
def F.v:Bool:=
 bY (fE (-5:Int)) fun a=>
 bY (fE (3:Int)) fun b=>
 bY (gR nZ (a.1,a.2) (b.1,b.2)) fun a=>
 bY (fE (7:Int)) fun b=>
 bY (gR oK (a.1.1,a.1.2) (b.1,b.2)) fun b=>
 aC.v a.2 b.1.1 b.1.2 b.2
theorem F.aU{Y:K}{aB Z:V}(aR:a4 aB Z)(g:dS h0 aB Y (F.v )):F.t Y  Z:=by
 unfold F.v at g
 unfold F.t
 refine bF (kD.aY (show In .i64 (-5:Int) by decide)) fun v LM ⟨e,O⟩=>?_
 obtain⟨Lj,Lk⟩:∃ z,z=fE (-5:Int):=⟨_,rfl⟩
 rw [← Lk] at O
 replace g:=cC Lk g
 obtain⟨LN,LO,rfl,Lz⟩:=O
 refine bZ rfl (aM (aO rfl (aM (k rfl (bP (?_))))))
 have LP:=e.aD
 refine bF (kD.aY (show In .i64 (3:Int) by decide)) fun v LQ ⟨f,O⟩=>?_
 obtain⟨Ll,Lm⟩:∃ z,z=fE (3:Int):=⟨_,rfl⟩
 rw [← Lm] at O
 replace g:=cC Lm g
 obtain⟨LR,LS,rfl,LA⟩:=O
 refine bZ rfl (aM (aO rfl (aM (k rfl (bP (?_))))))
 have LB:=f.aD
 refine bF (kQ.aY (Lz.aD (LB)).jD rfl LA.jD rfl) fun v LU ⟨h,O⟩=>?_
 obtain⟨H,Ln⟩:∃ z,z=gR nZ (Lj.1,Lj.2) (Ll.1,Ll.2):=⟨_,rfl⟩
 rw [← Ln] at O
 replace g:=cC Ln g
 obtain⟨_,_,rfl,⟨LV,LW,rfl,Lc⟩,⟨rfl,Ld⟩⟩:=O
 refine dP rfl (aM (bZ rfl (aM (aO rfl (aM (k rfl (bP (aM (bI rfl (bP (?_)))))))))))
 have LX:=h.aD
 refine cK fun LY G i=>?_
 have a:=(((aR.trans e).trans f).trans h).le
 have LC:=G.lt
 have Le:=i.aD
 refine bK G (w _ _) rfl fun LZ G l K9=>?_
 refine bK G (w _ _) rfl fun L0 G m La=>?_
 refine⟨eY rfl ((K9.trans La).lt LC),?_⟩
 refine aI G (w _ _) rfl (aO rfl ?_)
 refine aI G (w _ _) rfl (k rfl ?_)
 refine⟨?_,?_⟩
 ·refine bF (kD.aY (show In .i64 (7:Int) by decide)) fun v LD ⟨c,O⟩=>?_
  obtain⟨Lb,Lo⟩:∃ z,z=fE (7:Int):=⟨_,rfl⟩
  rw [← Lo] at O
  replace g:=cC Lo g
  obtain⟨L1,L2,rfl,Lp⟩:=O
  refine bZ rfl (aM (aO rfl (aM (k rfl (bP (?_))))))
  have j:=c.aD
  refine⟨c.c1 (Nat.le_refl _),?_⟩
  refine⟨?_,?_⟩
  ·refine bF (kR.aY (Lc.aD (Le.trans (K9.trans (La.trans j)))).jD rfl Lp.jD rfl) fun v Lq ⟨b,O⟩=>?_
   obtain⟨L3,Lr⟩:∃ z,z=gR oK (H.1.1,H.1.2) (Lb.1,Lb.2):=⟨_,rfl⟩
   rw [← Lr] at O
   replace g:=cC Lr g
   obtain⟨_,_,rfl,⟨L4,L5,rfl,LF⟩,⟨rfl,LG⟩⟩:=O
   refine dP rfl (aM (bZ rfl (aM (aO rfl (aM (k rfl (bP (aM (bI rfl (bP (?_)))))))))))
   have n:=b.aD
   refine⟨b.c1 (j).le,?_⟩
   refine cK fun Ls P d=>?_
   have Lf:=(((a1.B (a1.B ((((aR.trans e).trans f).trans h).trans i) l a) m a).trans c).trans b).le
   have L6:=P.lt
   have Lg:=d.aD
   refine⟨d.c1 (j.trans n).le,?_⟩
   refine bK P (w _ _) rfl fun Lt P K5 K6=>?_
   refine bK P (w _ _) rfl fun Lu P K7 K8=>?_
   exact aC.aU (a1.B (a1.B ((((a1.B (a1.B ((((aR.trans e).trans f).trans h).trans i) l a) m a).trans c).trans b).trans d) K5 Lf) K7 Lf) Ld ((LF.aD (Lg.trans (K6.trans K8))).from ((a1.B (a1.B ((((aR.trans e).trans f).trans h).trans i) l a) m a).trans c).le) P Lf LG g
  refine cK fun Lq D b=>?_
  have Lh:=((a1.B (a1.B ((((aR.trans e).trans f).trans h).trans i) l a) m a).trans c).le
  have L7:=D.lt
  have n:=b.aD
  refine⟨b.c1 (j).le,?_⟩
  refine bF (kR.aY (Lc.aD (Le.trans (K9.trans (La.trans (j.trans n))))).jD rfl (Lp.aD (n)).jD rfl) fun v Ls ⟨d,O⟩=>?_
  obtain⟨L8,Lv⟩:∃ z,z=gR oK (H.1.1,H.1.2) (Lb.1,Lb.2):=⟨_,rfl⟩
  rw [← Lv] at O
  replace g:=cC Lv g
  obtain⟨_,_,rfl,⟨L9,Ma,rfl,LH⟩,⟨rfl,LI⟩⟩:=O
  refine dP rfl (aM (bZ rfl (aM (aO rfl (aM (k rfl (bP (aM (bI rfl (bP (?_)))))))))))
  have Lg:=d.aD
  refine⟨d.c1 (j.trans n).le,?_⟩
  have D:=(D.B d)
  refine bK D (w _ _) rfl fun Lt D K5 K6=>?_
  refine bK D (w _ _) rfl fun Lu D K7 K8=>?_
  exact aC.aU (a1.B (a1.B ((((a1.B (a1.B ((((aR.trans e).trans f).trans h).trans i) l a) m a).trans c).trans b).trans d) K5 Lh) K7 Lh) Ld ((LH.aD (K6.trans K8)).from (((a1.B (a1.B ((((aR.trans e).trans f).trans h).trans i) l a) m a).trans c).trans b).le) D Lh LI g
 refine cK fun LD E c=>?_
 have Li:=(a1.B (a1.B ((((aR.trans e).trans f).trans h).trans i) l a) m a).le
 have Mb:=E.lt
 have j:=c.aD
 refine⟨c.c1 (Nat.le_refl _),?_⟩
 refine bF (kD.aY (show In .i64 (7:Int) by decide)) fun v Lq ⟨b,O⟩=>?_
 obtain⟨Lw,Lx⟩:∃ z,z=fE (7:Int):=⟨_,rfl⟩
 rw [← Lx] at O
 replace g:=cC Lx g
 obtain⟨Mc,Md,rfl,LJ⟩:=O
 refine bZ rfl (aM (aO rfl (aM (k rfl (bP (?_))))))
 have n:=b.aD
 refine⟨b.c1 (j).le,?_⟩
 refine bF (kR.aY (Lc.aD (Le.trans (K9.trans (La.trans (j.trans n))))).jD rfl LJ.jD rfl) fun v Ls ⟨d,O⟩=>?_
 obtain⟨Me,Ly⟩:∃ z,z=gR oK (H.1.1,H.1.2) (Lw.1,Lw.2):=⟨_,rfl⟩
 rw [← Ly] at O
 replace g:=cC Ly g
 obtain⟨_,_,rfl,⟨Mf,Mg,rfl,LK⟩,⟨rfl,LL⟩⟩:=O
 refine dP rfl (aM (bZ rfl (aM (aO rfl (aM (k rfl (bP (aM (bI rfl (bP (?_)))))))))))
 have Lg:=d.aD
 refine⟨d.c1 (j.trans n).le,?_⟩
 have E:=((E.B b).B d)
 refine bK E (w _ _) rfl fun Lt E K5 K6=>?_
 refine bK E (w _ _) rfl fun Lu E K7 K8=>?_
 exact aC.aU (a1.B (a1.B ((((a1.B (a1.B ((((aR.trans e).trans f).trans h).trans i) l a) m a).trans c).trans b).trans d) K5 Li) K7 Li) Ld ((LK.aD (K6.trans K8)).from (((a1.B (a1.B ((((aR.trans e).trans f).trans h).trans i) l a) m a).trans c).trans b).le) E Li LL g
def v:Bool:=F.v
theorem aU{Z:V}:aF id #[] Z fun a b=>a4 Z b∧h0 Z b a (v):=
 ok (F.aU (a4.refl _)  fun v A M O=>⟨M,O⟩)
end pQ
theorem vM(a:Int):∃ z bD,a=cE z bD∧(z=true→bD ≠ 0)∧bD=a.natAbs:=by
 by_cases Z:a < 0
 ·exact⟨true,a.natAbs,by unfold cE;simp;omega,fun _=>by omega,rfl⟩
 ·exact⟨false,a.natAbs,by unfold cE;simp;omega,fun Z=>(by cases Z),rfl⟩
theorem DP{bD aX:Nat}(Z:bD % aX ≠ 0):bD / aX+1≤bD:=by
 have aJ:=Nat.div_add_mod bD aX
 rcases Nat.eq_zero_or_pos aX with aB | aB
 ·subst aB;simp at Z ⊢;omega
 have b:=Nat.mod_lt bD aB
 generalize bD % aX=s at *
 have a:2≤aX:=by omega
 have c:=Nat.mul_le_mul_right (bD / aX) a
 omega
theorem H8{a N:Int}(aP:N ≠ 0):(e4 a N).natAbs≤a.natAbs:=by
 obtain⟨z,bD,rfl,b,_⟩:=vM a
 obtain⟨o,aX,rfl,c,_⟩:=vM N
 have c4:aX ≠ 0:=fun Z=>aP (tY.mpr Z)
 rw [tW c4 b,kO,kO]
 split
 ·rename_i Z;exact DP Z.2
 ·exact Nat.div_le_self _ _
theorem H9{bD aX:Nat}(c4:aX ≠ 0):pM bD aX≤bD:=by
 unfold pM
 split
 ·rename_i Z;exact DP (by omega)
 ·exact Nat.div_le_self _ _
theorem AU{a N:Int}(aP:N ≠ 0):(gY a N).natAbs≤a.natAbs:=by
 unfold gY;rw [kO];exact H9 (by omega)
theorem Ia{a N:Int}(aP:N ≠ 0):(iV a N).natAbs < N.natAbs:=by
 obtain⟨z,bD,rfl,b,_⟩:=vM a
 obtain⟨o,aX,rfl,d,_⟩:=vM N
 have c4:aX ≠ 0:=fun Z=>aP (tY.mpr Z)
 rw [yW c4 b,kO,kO]
 have c:=Nat.mod_lt bD (show 0 < aX by omega)
 split
 ·rename_i Z;omega
 ·exact c
theorem DQ(n:Nat):(0:Int) < 2 ^ n:=by rw [sE,yT];have:=Nat.two_pow_pos n;omega
theorem Ib(n:Nat):((2:Int) ^ n) ≠ 0:=by have:=DQ n;omega
theorem Ic{a N:Int}:gY (-a) N=-gY a N:=by
 by_cases Z:a=0
 ·subst Z
  unfold gY
  have:pM (0:Int).natAbs N.natAbs=0:=by
   unfold pM;simp
  simp only [Int.neg_zero,this,lJ]
 ·unfold gY
  rw [Int.natAbs_neg,tX]
  congr 1
  have:decide (-a < 0)=!decide (a < 0):=by
   by_cases b:a < 0
   ·simp [b];omega
   ·simp [b];omega
  rw [this];cases decide (a < 0) <;> cases decide (N < 0) <;> rfl
theorem DR(z:fJ):(z.1,z.2)=z:=rfl
theorem AV{Q:Int}(Z:Q.natAbs < 340282366920938463463374607431768211456):nY Q:=by
 unfold nY
 have:(aE Q.natAbs).length≤2:=gF.mpr (by simpa using Z)
 omega
theorem Ie(a:Int)(n:Nat):gY (a*2 ^ n) (2 ^ n)=a:=by
 obtain⟨z,bD,rfl,b,_⟩:=vM a
 rw [AS,sE,AT (yU n) (fun Z aB=>b Z (by
  rcases Nat.mul_eq_zero.mp aB with a0 | a0
  ·exact a0
  ·exact absurd a0 (yU n))),Bool.xor_false]
 congr 1
 unfold pM
 rw [Nat.mul_mod_left,Nat.mul_div_cancel _ (Nat.two_pow_pos n)]
 rw [if_neg (by have:=Nat.two_pow_pos n;omega)]
theorem If(Q C:Int):decide (gA Q C > 0)=decide (Q > C):=by
 unfold gA
 rcases Int.lt_trichotomy Q C with Z | Z | Z
 ·rw [if_pos Z];simp;omega
 ·subst Z;simp
 ·rw [if_neg (by omega),if_neg (by omega)];simp;omega
theorem AW(Q:Int):(gA Q 0 == 0)=decide (Q=0):=by
 unfold gA
 rcases Int.lt_trichotomy Q 0 with Z | Z | Z
 ·rw [if_pos Z];have:Q ≠ 0:=by omega
  simp [this]
 ·subst Z;simp
 ·rw [if_neg (by omega),if_neg (by omega)];have:Q ≠ 0:=by omega
  simp [this]
theorem Ig(I:Int):kZ.v I=fE I:=by
 unfold kZ.v kZ.F.v
 simp only [bY]
 have J:bL ((b5 I).1,(b5 I).2)=I:=pK _
 rw [J]
section
variable {a:U} {L l:Nat} {T:List Nat} {Z:V} {I:Int} {z:Bool}
theorem kZ.aY(Q:In .i64 I):aF kZ.id #[.int .i64 I] Z fun v A=>a4 Z A∧dZ Z A v (fE I):=by rw [← Ig];exact kZ.aU Q
end
theorem Ih:pQ.v=true:=by
 have O:∀ Q:Int,Q.natAbs < 18446744073709551616→nY Q:=fun Q Z=>AV (by omega)
 have a9:∀ Q:Int,Q.natAbs < 18446744073709551616→eJ (fE Q):=fun Q Z=>Hw (O Q Z)
 have t:∀ (g:Int→Int→Int) (Q C:Int),Q.natAbs < 18446744073709551616→C.natAbs < 18446744073709551616→(g Q C).natAbs < 18446744073709551616→gR g (fE Q) (fE C)=(fE (g Q C),0):=by
  intro g Q C a0 c d
  unfold gR
  rw [if_pos ⟨a9 Q a0,a9 C c⟩,AO,AO,AQ (O _ d)]
 unfold pQ.v pQ.F.v
 simp only [bY]
 have e:gR nZ ((fE (-5)).1,(fE (-5)).2) ((fE 3).1,(fE 3).2)=(fE (-2),0):=t nZ (-5) 3 (by decide) (by decide) (by decide)
 rw [e]
 have f:gR oK ((fE (-2),(0:Int)).1.1,(fE (-2),(0:Int)).1.2) ((fE 7).1,(fE 7).2)=(fE (-14),0):=t oK (-2) 7 (by decide) (by decide) (by decide)
 rw [f]
 unfold pQ.aC.v
 have a:eJ ((fE (-14)).1,(fE (-14)).2):=a9 (-14) (by decide)
 have b:eV ((fE (-14)).1,(fE (-14)).2)=-14:=AO (-14)
 have h:nA ((fE (-14)).1,(fE (-14)).2)=(-14,0):=by
  unfold nA
  rw [if_pos a,b];rfl
 simp only [bY,h,b]
 rw [show gA (-14) 0=-1 from rfl]
 simp only [decide_eq_true a];rfl
theorem Ii{Z:V}:aF pQ.id #[] Z fun v A=>a4 Z A∧h0 Z A v true:=by
 have:=pQ.aU (Z:=Z)
 rw [Ih] at this;exact this
theorem yY{dC gM:Type}{dK:hQ dC}{dF:hQ gM}{Z:V}{cQ:List Value}{z:dC × gM}(b3:kI dK 1 dF Z cQ z):∃ L rest,cQ=L :: rest∧dK Z [L] z.1∧dF Z rest z.2:=by
 obtain⟨l,O,t⟩:=b3
 cases cQ with
 | nil=>simp at l
 | cons L s=>exact⟨L,s,rfl,O,t⟩
abbrev wT:hQ (Bool × List Nat × Unit):=kI u5 1 (kI v9 1 tH)
theorem Ij{Z:V}{cQ:Array Value}{I:Bool × List Nat × Unit}(b3:wT Z cQ.toList I):∃ a L,cQ=#[.bool I.1,.slice a I.2.1.length L]∧bJ Z a L I.2.1:=by
 obtain⟨e,kV,c,b,b3⟩:=yY b3
 obtain⟨l,f,g,⟨h,i,d,j,_⟩,b3⟩:=yY b3
 have b3:f=[]:=b3
 have b:[e]=[.bool I.1]:=b
 simp only [List.cons.injEq,and_true] at b d
 subst b d
 rw [g,b3] at c
 exact⟨h,i,Array.toList_inj.mp c,j⟩
theorem yZ(Z:V)(a:U)(L:Nat):cB b2 Z a L (D.aE 0):=by rw [D.dM];exact cB.nil _ _ _
theorem sF(aB Z:V):cN b2 aB Z none 0 (D.aE 0):=by rw [D.dM];exact cN.nil _ _
theorem _root_.Go.Gv.cR.AX{Z:V}{N M:Nat}{bW:List Value}(q:cR Z N (bW.set M (.slice none 0 0))):cR Z N (bW.set M (.slice none (D.aE 0).length 0)):=by rw [D.dM];exact q
theorem qM{aL bA:Nat}(Z:aL≤bA):(D.aE aL).length≤(D.aE bA).length:=D.mD Z
theorem AY(aL bA:Nat):(D.aE (aL*bA)).length≤(D.aE aL).length+(D.aE bA).length:=by
 have a:=(D.gF (n:=aL)).mp (Nat.le_refl _)
 have b:=(D.gF (n:=bA)).mp (Nat.le_refl _)
 rw [D.gF,Nat.mul_add,Nat.pow_add]
 exact Nat.mul_lt_mul'' a b
theorem y0(aL bA:Nat):(D.aE (aL+bA)).length≤(D.aE aL).length+(D.aE bA).length+1:=by
 have a:=(D.gF (n:=aL)).mp (Nat.le_refl _)
 have b:=(D.gF (n:=bA)).mp (Nat.le_refl _)
 rw [D.gF]
 generalize (D.aE aL).length=C at *
 generalize (D.aE bA).length=M at *
 have a0:2 ^ (32*C)≤2 ^ (32*(C+M)):=Nat.pow_le_pow_right (by decide) (by omega)
 have c:2 ^ (32*M)≤2 ^ (32*(C+M)):=Nat.pow_le_pow_right (by decide) (by omega)
 have d:2*2 ^ (32*(C+M))≤2 ^ (32*(C+M+1)):=by
  have:(2:Nat)*2 ^ (32*(C+M))=2 ^ (32*(C+M)+1):=by rw [Nat.pow_succ];omega
  rw [this];exact Nat.pow_le_pow_right (by decide) (by omega)
 omega
theorem Ik{I:Int}(Q:In .u64 I):(D.aE I.toNat).length≤2:=by
 rw [pB] at Q
 exact D.gF.mpr (by show I.toNat < 2 ^ 64;omega)
theorem Il(aL bA:Nat):(D.aE (oF aL bA).1).length≤(D.aE aL).length:=by
 unfold oF;split
 ·exact qM (Nat.zero_le _)
 ·exact qM (Nat.div_le_self _ _)
theorem Im(aL bA:Nat):(D.aE (oF aL bA).2).length≤(D.aE aL).length:=by
 unfold oF;split
 ·exact qM (Nat.zero_le _)
 ·exact qM (Nat.mod_le _ _)
theorem DS(aL:Nat):eU aL≤32*(D.aE aL).length:=j6.mpr ((D.gF (n:=aL)).mp (Nat.le_refl _))
theorem Io(I:Int):(D.aE (2 ^ I.toNat)).length≤I.toNat / 32+1:=by
 rw [D.gF]
 exact Nat.pow_lt_pow_right (by decide) (by omega)
theorem sG(N:Bool)(T:List Nat):decide (eJ (N,T))=true→T.length≤8192:=fun Z=>(of_decide_eq_true Z).1.1
theorem kF(N:Bool)(aL:Nat):(bL (N,aL)).natAbs=aL:=kO N aL
theorem lL{Q:Int}{n:Nat}(Z:Q.natAbs≤n):(D.aE (b5 Q).2).length≤(D.aE n).length:=D.mD Z
theorem k0(N:Bool)(aL:Nat):(D.aE (b5 (cE N aL)).2).length≤(D.aE aL).length:=lL (by rw [kO];exact Nat.le_refl _)
theorem AZ{I:Int}(Q:In .i64 I):(D.aE (b5 I).2).length≤2:=by
 rw [mF] at Q
 exact D.gF.mpr (by show I.natAbs < 2 ^ 64;omega)
theorem jU(N:Bool){T:List Nat}(a:Words T):(D.aE (b5 (eV (N,T))).2).length≤2*T.length:=by
 show(D.aE (eV (N,T)).natAbs).length≤_
 rw [Hy]
 exact(CI _ _).mpr (gF.mpr (hS a))
theorem qN(N:Bool)(aL:Nat):(D.aE (b5 (-bL (N,aL))).2).length≤(D.aE aL).length:=lL (by rw [Int.natAbs_neg,kF];exact Nat.le_refl _)
theorem y1(N:Bool)(aL:Nat)(L:Bool)(bA:Nat):(D.aE (b5 (bL (N,aL)+bL (L,bA))).2).length≤(D.aE aL).length+(D.aE bA).length+1:=
 Nat.le_trans (lL (n:=aL+bA) (by have:=Int.natAbs_add_le (bL (N,aL)) (bL (L,bA));rw [kF,kF] at this;exact this)) (y0 aL bA)
theorem y2(N:Bool)(aL:Nat)(L:Bool)(bA:Nat):(D.aE (b5 (bL (N,aL) - bL (L,bA))).2).length≤(D.aE aL).length+(D.aE bA).length+1:=
 Nat.le_trans (lL (n:=aL+bA) (by have:=Int.natAbs_sub_le (bL (N,aL)) (bL (L,bA));rw [kF,kF] at this;exact this)) (y0 aL bA)
theorem DT(N:Bool)(aL:Nat)(L:Bool)(bA:Nat):(D.aE (b5 (bL (N,aL)*bL (L,bA))).2).length≤(D.aE aL).length+(D.aE bA).length:=
 Nat.le_trans (lL (n:=aL*bA) (by rw [Int.natAbs_mul,kF,kF];exact Nat.le_refl _)) (AY aL bA)
theorem Ip(N:Bool)(aL:Nat):(D.aE (b5 (bL (N,aL)*2 ^ (Int.toNat (1:Int)))).2).length≤(D.aE aL).length+1:=by
 refine Nat.le_trans (lL (n:=aL*2) (by rw [Int.natAbs_mul,kF];exact Nat.le_refl _)) (Nat.le_trans (AY aL 2) ?_)
 have:(D.aE 2).length≤1:=D.gF.mpr (by decide)
 omega
def k1(a N:Int):vJ × vJ:=if N≤0 then((false,0),(false,0)) else(b5 (a / N),b5 (a % N))
theorem A0{a N:Int}(Z:0 < N):e4 a N=a / N:=by unfold e4;rw [if_neg (by omega)]
theorem wU(a N:Int):(e4 a N).natAbs≤a.natAbs:=by
 by_cases Z:N=0
 ·subst Z;unfold e4;simp
 ·exact H8 Z
theorem y3(n:Nat):(D.aE 0).length≤n:=by simp [D.dM]
theorem DU(N:Bool)(aL:Nat)(L:Bool)(bA:Nat):(D.aE (k1 (bL (N,aL)) (bL (L,bA))).1.2).length≤(D.aE aL).length:=by
 unfold k1;split
 ·exact y3 _
 ·rename_i Z
  have:=wU (bL (N,aL)) (bL (L,bA))
  rw [A0 (by omega),kF] at this
  exact lL this
theorem DV(N:Bool)(aL:Nat)(L:Bool)(bA:Nat):(D.aE (k1 (bL (N,aL)) (bL (L,bA))).2.2).length≤(D.aE bA).length:=by
 unfold k1;split
 ·exact y3 _
 ·rename_i Z
  refine lL ?_
  have a0:=Int.emod_lt_of_pos (bL (N,aL)) (show 0 < bL (L,bA) by omega)
  have a:=Int.emod_nonneg (bL (N,aL)) (show bL (L,bA) ≠ 0 by omega)
  have b:=kF L bA
  omega
def lM(a N:Int):vJ:=if N < 0 then b5 1 else if N=0 then(false,0) else b5 (gY a N)
def qO(a N:Int):vJ:=if N=0 then(false,0) else b5 (gY a N)
theorem DW(N:Bool)(aL:Nat)(L:Bool)(bA:Nat):(D.aE (lM (bL (N,aL)) (bL (L,bA))).2).length≤(D.aE aL).length+1:=by
 unfold lM;split
 ·have:(D.aE (b5 1).2).length≤1:=D.gF.mpr (by decide)
  omega
 ·split
  ·exact y3 _
  ·exact Nat.le_succ_of_le (lL (by have:=AU (a:=bL (N,aL)) (N:=bL (L,bA)) (by omega);rw [kF] at this;exact this))
theorem Iq(N:Bool)(aL:Nat)(L:Bool)(bA:Nat):(D.aE (qO (bL (N,aL)) (bL (L,bA))).2).length≤(D.aE aL).length:=by
 unfold qO;split
 ·exact y3 _
 ·exact lL (by have:=AU (a:=bL (N,aL)) (N:=bL (L,bA)) (by omega);rw [kF] at this;exact this)
theorem A1(N:Bool)(aL:Nat)(L:Bool)(bA:Nat):(D.aE (b5 (e4 (bL (N,aL)) (bL (L,bA)))).2).length≤(D.aE aL).length:=
 lL (by have:=wU (bL (N,aL)) (bL (L,bA));rw [kF] at this;exact this)
theorem Ir(N:Bool)(aL:Nat)(L:Bool)(bA:Nat):(D.aE (b5 (iL (bL (N,aL)) (bL (L,bA)))).2).length≤(D.aE aL).length:=
 lL (by have:=wU (-bL (N,aL)) (bL (L,bA));rw [Int.natAbs_neg,kF] at this;unfold iL;rw [Int.natAbs_neg];exact this)
theorem Is(N:Bool)(aL:Nat)(L:Bool)(bA:Nat):(D.aE (b5 (iV (bL (N,aL)) (bL (L,bA)))).2).length≤(D.aE aL).length+(D.aE bA).length:=by
 by_cases Z:bL (L,bA)=0
 ·have:iV (bL (N,aL)) (bL (L,bA))=bL (N,aL):=by unfold iV;rw [Z];omega
  rw [this]
  exact Nat.le_trans (lL (n:=aL) (by rw [kF];exact Nat.le_refl _)) (Nat.le_add_right _ _)
 ·exact Nat.le_trans (lL (n:=bA) (by have:=Ia (a:=bL (N,aL)) Z;rw [kF] at this;exact Nat.le_of_lt this)) (Nat.le_add_left _ _)
theorem DX(N:Bool)(aL:Nat)(M:Int):(D.aE (b5 (e4 (bL (N,aL)) (2 ^ (Int.toNat M)))).2).length≤(D.aE aL).length:=
 lL (by have:=wU (bL (N,aL)) (2 ^ (Int.toNat M));rw [kF] at this;exact this)
theorem It(N:Bool)(aL:Nat)(M:Int):(D.aE (b5 (iL (bL (N,aL)) (2 ^ (Int.toNat M)))).2).length≤(D.aE aL).length:=
 lL (by have:=wU (-bL (N,aL)) (2 ^ (Int.toNat M));rw [Int.natAbs_neg,kF] at this;unfold iL;rw [Int.natAbs_neg];exact this)
theorem Iu(N:Bool)(aL:Nat)(M:Int):(D.aE (b5 (gY (bL (N,aL)) (2 ^ (Int.toNat M)))).2).length≤(D.aE aL).length:=
 lL (by have:=AU (a:=bL (N,aL)) (Ib (Int.toNat M));rw [kF] at this;exact this)
def vN(Q:Int):Int × Bool:=if -9223372036854775808≤Q∧Q < 9223372036854775808 then(Q,true) else(0,false)
section
variable {a N:U} {L bH l m aL bA:Nat} {T u:List Nat} {Z:V} {I aN:Int}
theorem jP.aU(Q:In .u64 I):aF jP.id #[.int .u64 I] Z fun v A=>a4 Z A∧gC Z A v I.toNat:=oE (AL Q).1 (AL Q).2 Z
theorem iE.aU(s:cB b2 Z a L (D.aE aL))(J:l=(D.aE aL).length)(O:cB b2 Z N bH (D.aE bA))(a9:m=(D.aE bA).length)(b:(D.aE aL).length≤100000000)(b:(D.aE bA).length≤100000000):aF iE.id #[.slice a l L,.slice N m bH] Z fun v A=>a4 Z A∧gC Z A v (aL+bA):=C0 s O J a9 (by omega) (by omega)
theorem iT.aU(s:cB b2 Z a L (D.aE aL))(J:l=(D.aE aL).length)(O:cB b2 Z N bH (D.aE bA))(a9:m=(D.aE bA).length):aF iT.id #[.slice a l L,.slice N m bH] Z fun v A=>a4 Z A∧gC Z A v (aL - bA):=F6 s O J a9
theorem iF.aU(s:cB b2 Z a L (D.aE aL))(J:l=(D.aE aL).length)(O:cB b2 Z N bH (D.aE bA))(a9:m=(D.aE bA).length)(b:(D.aE aL).length≤100000000)(b:(D.aE bA).length≤100000000):aF iF.id #[.slice a l L,.slice N m bH] Z fun v A=>a4 Z A∧gC Z A v (aL*bA):=F2 s O J a9 (by omega) (by omega)
theorem kL.aU(s:cB b2 Z a L (D.aE aL))(J:l=(D.aE aL).length)(O:cB b2 Z N bH (D.aE bA))(a9:m=(D.aE bA).length):aF kL.id #[.slice a l L,.slice N m bH] Z fun v A=>a4 Z A∧c3 .i64 Z A v (e6 aL bA):=q7 (AE s O J a9) fun v O=>⟨O,Ds _ _⟩
theorem iU.aU(s:cB b2 Z a L (D.aE aL))(J:l=(D.aE aL).length)(O:cB b2 Z N bH (D.aE bA))(a9:m=(D.aE bA).length)(b:(D.aE aL).length≤100000000):aF iU.id #[.slice a l L,.slice N m bH] Z fun v A=>a4 Z A∧s2 gC gC Z A v (oF aL bA):=Gn s O J a9 (by omega)
theorem pG.aU(s:cB b2 Z a L (D.aE aL))(J:l=(D.aE aL).length)(Q:In .i64 I):aF pG.id #[.slice a l L,.int .i64 I] Z fun v A=>a4 Z A∧c3 .i64 Z A v (jQ aL I):=q7 (Gd s J Q) fun v O=>⟨O,by unfold jQ;split <;> rw [mF] <;> omega⟩
theorem kA.aU(s:cB b2 Z a L (D.aE aL))(J:l=(D.aE aL).length):aF kA.id #[.slice a l L] Z fun v A=>a4 Z A∧c3 .i64 Z A v ((eU aL:Nat):Int):=q7 (FY s J) fun v O=>⟨O,by have:=DS aL;have:=s.m0;rw [mF];omega⟩
theorem qF.aU(s:cB b2 Z a L (D.aE aL))(J:l=(D.aE aL).length):aF qF.id #[.slice a l L] Z fun v A=>a4 Z A∧s2 (c3 .u64) h0 Z A v (vG aL):=Gf s J
theorem nW.aU(s:cB b2 Z a L (D.aE aL))(J:l=(D.aE aL).length)(Q:In .i64 I)(aA:0≤I):aF nW.id #[.slice a l L,.int .i64 I] Z fun v A=>a4 Z A∧gC Z A v (aL / 2 ^ I.toNat):=by
 rw [mF] at Q;exact C5 s J (n:=I.toNat) (by omega) (by omega)
theorem l0.aU(s:cB b2 Z a L (D.aE aL))(J:l=(D.aE aL).length)(Q:In .i64 I)(aA:0≤I)(b:(D.aE aL).length≤100000000):aF l0.id #[.slice a l L,.int .i64 I] Z fun v A=>a4 Z A∧gC Z A v (aL % 2 ^ I.toNat):=by
 rw [mF] at Q;exact F4 s J (n:=I.toNat) (by omega) (by omega) (by omega)
theorem Iv{I:Int}{n:Nat}(c:I=(n:Int))(d:n≤35184372088832)(Z:V):aF qP.id #[.int .i64 I] Z fun v A=>a4 Z A∧gC Z A v (2 ^ n):=by
 refine qP.ok ?_
 unfold qP.t qP.F.t
 refine bF (oE (aA:=1) rfl (by decide) Z) fun v a0 ⟨b,O⟩=>?_
 refine O.elim fun a L g=>?_
 have y:(D.aE 1).length≤2:=D.gF.mpr (by decide)
 refine bF (yC g.rd rfl c d (by omega)) fun v f ⟨e,O⟩=>?_
 rw [Nat.one_mul] at O
 exact O.elim fun a L g=>⟨b.trans e,a,L,rfl,g.from b.le⟩
theorem qP.aU(Q:In .i64 I)(aA:0≤I)(a:I≤35184372088832):aF qP.id #[.int .i64 I] Z fun v A=>a4 Z A∧gC Z A v (2 ^ I.toNat):=Iv (n:=I.toNat) (by omega) (by omega) Z
theorem lF.aU(s:cB b2 Z a L (D.aE aL))(J:l=(D.aE aL).length)(Q:In .i64 I)(aA:0≤I)(b:I≤35184372088832∨aL=0)(i:(D.aE aL).length≤100000000):aF lF.id #[.slice a l L,.int .i64 I] Z fun v A=>a4 Z A∧gC Z A v (aL*2 ^ I.toNat):=by
 by_cases aB:I≤35184372088832
 ·exact yC s J (n:=I.toNat) (by omega) (by omega) (by omega)
 ·have c:aL=0:=by rcases b with b | b;exact absurd b aB;exact b
  subst c;subst J
  rw [Nat.zero_mul]
  refine lF.ok ?_
  unfold lF.t lF.F.t
  have e:(D.aE 0).length=0:=by simp [D.dM]
  refine cD (fun a0=>absurd a0 (by omega)) fun a0=>?_
  refine hU (fun d=>?_) fun d=>absurd (by rw [e];rfl) d
  have c:D.val (D.aE 0)=0:=D.fA 0
  refine bF (oD s rfl) fun v A ⟨f,O⟩=>?_
  rw [c] at O
  exact O.elim fun g bX h=>⟨f,g,bX,rfl,h⟩
end
namespace jV
def F.v(a:Bool)(b:Nat):Int:=
 bif (((((D.aE b).length:Nat):Int)) == (0:Int)) then
  (0:Int)
 else
  bif a then
   (-1:Int)
  else
   (1:Int)
theorem F.aU{Y:K}{aB Z:V}(aR:a4 aB Z){d:Bool}{e:U}{f h:Nat}{b:Nat}(m:cB b2 Z e f (D.aE b))(i:h=(D.aE b).length)(g:dS (c3 .i64) aB Y (F.v d b)):F.t Y d e h f Z:=by
 subst i
 unfold F.v at g
 unfold F.t
 refine cK fun n c a=>?_
 have E:=aR.le
 have G:=c.lt
 have H:=a.aD
 refine aI c (w _ _) rfl (k rfl ?_)
 refine fB g (fun j g=>?_) (fun j g=>?_)
 ·exact g _ _ (aR.trans a) ⟨rfl,(show In .i64 (0:Int) by decide)⟩
 refine aI c (w _ _) rfl (aO rfl ?_)
 refine iR g (fun l g=>?_) (fun l g=>?_)
 ·exact g _ _ (aR.trans a) ⟨rfl,(show In .i64 (-1:Int) by decide)⟩
 exact g _ _ (aR.trans a) ⟨rfl,(show In .i64 (1:Int) by decide)⟩
def v(a:Bool)(b:Nat):Int:=F.v a b
theorem aU{Z:V}{a:Bool}{b:U}{c d:Nat}{e:Nat}(f:cB b2 Z b c (D.aE e))(g:d=(D.aE e).length):aF id #[.agg #[.bool a,.slice b d c]] Z fun b c=>a4 Z c∧(c3 .i64) Z c b (v a e):=
 ok (F.aU (a4.refl _) f g fun v A M O=>⟨M,O⟩)
end jV
namespace h2
def F.v(a:Bool)(b:Nat):(Bool × Nat):=
 bY (b5 (cE (!a) b)) fun a=>
 (a.1,a.2)
theorem F.aU{Y:K}{aB Z:V}(aR:a4 aB Z){d:Bool}{j:U}{l m:Nat}{b:Nat}(E:cB b2 Z j l (D.aE b))(G:m=(D.aE b).length)(g:dS fC aB Y (F.v d b)):F.t Y d j m l Z:=by
 subst G
 unfold F.v at g
 unfold F.t
 refine cK fun H c e=>?_
 have Ld:=aR.le
 have Le:=c.lt
 have P:=e.aD
 refine cK fun K5 a f=>?_
 have a:cR K5 (H.size) [.bool false,.slice none (D.aE 0).length 0]:=by rw [D.dM];exact a
 have n:=(aR.trans e).le
 have Lf:=a.lt
 have K6:=f.aD
 have c:=(c.B f)
 refine aI c (w _ _) rfl (aO rfl ?_)
 refine aI c (w _ _) rfl (k rfl ?_)
 refine bF (fK.aY (E.aD (P.trans K6)) rfl) fun v Lg ⟨h,O⟩=>?_
 obtain⟨Lh,i⟩:∃ z,z=b5 (cE (!d) b):=⟨_,rfl⟩
 rw [← i] at O
 replace g:=cC i g
 have K7:=k0 (!d) b
 rw [← i] at K7
 obtain⟨Li,Lj,rfl,K8⟩:=O
 refine bZ rfl (aM (aO rfl (aM (k rfl (bP (?_))))))
 have Lk:=h.aD
 have a:=(a.B h)
 refine bK a (w _ _) rfl fun Ll a K9 La=>?_
 refine bK a (w _ _) rfl fun Lm a Lb Lc=>?_
 refine aI a (w _ _) rfl (aO rfl ?_)
 refine aI a (w _ _) rfl (k rfl ?_)
 exact g _ _ (a1.B (a1.B (((aR.trans e).trans f).trans h) K9 n) Lb n) ⟨_,_,rfl,((K8.aD (La.trans Lc)).from ((aR.trans e).trans f).le)⟩
def v(a:Bool)(b:Nat):(Bool × Nat):=F.v a b
theorem aU{Z:V}{a:Bool}{b:U}{c d:Nat}{e:Nat}(f:cB b2 Z b c (D.aE e))(g:d=(D.aE e).length):aF id #[.agg #[.bool a,.slice b d c]] Z fun b c=>a4 Z c∧fC Z c b (v a e):=
 ok (F.aU (a4.refl _) f g fun v A M O=>⟨M,O⟩)
end h2
namespace k2
def F.v(a:Bool)(b:Nat)(aT:Bool)(c:Nat):(Bool × Nat):=
 bif (a == aT) then
  bY (b+c) fun d=>
  bY (b5 (cE a d)) fun d=>
  (d.1,d.2)
 else
  bif (decide ((e6 b c)≥(0:Int))) then
   bY (b - c) fun d=>
   bY (b5 (cE a d)) fun a=>
   (a.1,a.2)
  else
   bY (c - b) fun a=>
   bY (b5 (cE aT a)) fun a=>
   (a.1,a.2)
theorem F.aU{Y:K}{aB Z:V}(aR:a4 aB Z){P:Bool}{Lm:U}{Ln Lo:Nat}{l:Nat}(K9:cB b2 Z Lm Ln (D.aE l))(Ly:Lo=(D.aE l).length)(LU:(D.aE l).length≤1000000){aT:Bool}{Lp:U}{Lq Lr:Nat}{m:Nat}(La:cB b2 Z Lp Lq (D.aE m))(Lz:Lr=(D.aE m).length)(LV:(D.aE m).length≤1000000)(g:dS fC aB Y (F.v P l aT m)):F.t Y P Lm Lo Ln aT Lp Lr Lq Z:=by
 subst Ly Lz
 have LW:(D.aE 0).length=0:=by simp [D.dM]
 unfold F.v at g
 unfold F.t
 refine cK fun LX e n=>?_
 have LY:=aR.le
 have K6:=e.lt
 have H:=n.aD
 refine cK fun LA f E=>?_
 have LZ:=(aR.trans n).le
 have Lb:=f.lt
 have h:=E.aD
 refine cK fun LB a G=>?_
 have a:cR LB (LA.size) [.bool false,.slice none (D.aE 0).length 0]:=by rw [D.dM];exact a
 have K5:=((aR.trans n).trans E).le
 have L0:=a.lt
 have b:=G.aD
 have e:=((e.B E).B G)
 refine aI e (w _ _) rfl (aO rfl ?_)
 have f:=(f.B G)
 refine aI f (w _ _) rfl (aO rfl ?_)
 refine iR g (fun LC g=>?_) (fun LC g=>?_)
 ·refine⟨eY (w _ _) ((h.trans b).lt K6),?_⟩
  refine aI e (w _ _) rfl (aO rfl ?_)
  refine⟨eY (w _ _) ((h.trans b).lt K6),?_⟩
  refine aI e (w _ _) rfl (k rfl ?_)
  refine⟨eY (w _ _) ((b).lt Lb),?_⟩
  refine aI f (w _ _) rfl (k rfl ?_)
  refine bF (iE.aU (K9.aD (H.trans (h.trans b))) rfl (La.aD (H.trans (h.trans b))) rfl (by first | assumption | decide | omega) (by first | assumption | decide | omega)) fun v LD ⟨c,O⟩=>?_
  obtain⟨Ls,Ld⟩:∃ z,z=l+m:=⟨_,rfl⟩
  rw [← Ld] at O
  replace g:=cC Ld g
  have LF:=y0 l m
  rw [← Ld] at LF
  obtain⟨L1,L2,rfl,LG⟩:=O
  refine k rfl (?_)
  have i:=c.aD
  refine⟨c.c1 (Nat.le_refl _),?_⟩
  refine bF (fK.aY LG.rd rfl) fun v Lt ⟨d,O⟩=>?_
  obtain⟨L3,Le⟩:∃ z,z=b5 (cE P Ls):=⟨_,rfl⟩
  rw [← Le] at O
  replace g:=cC Le g
  have LH:=k0 P Ls
  rw [← Le] at LH
  obtain⟨L4,L5,rfl,LI⟩:=O
  refine bZ rfl (aM (aO rfl (aM (k rfl (bP (?_))))))
  have Lc:=d.aD
  refine⟨d.c1 (i).le,?_⟩
  have a:=((a.B c).B d)
  refine bK a (w _ _) rfl fun Lu a j Lf=>?_
  refine bK a (w _ _) rfl fun Lv a K7 K8=>?_
  refine aI a (w _ _) rfl (aO rfl ?_)
  refine aI a (w _ _) rfl (k rfl ?_)
  exact g _ _ (a1.B (a1.B (((((aR.trans n).trans E).trans G).trans c).trans d) j K5) K7 K5) ⟨_,_,rfl,((LI.aD (Lf.trans K8)).from ((((aR.trans n).trans E).trans G).trans c).le)⟩
 refine aI e (w _ _) rfl (k rfl ?_)
 refine aI f (w _ _) rfl (k rfl ?_)
 refine bF (kL.aU (K9.aD (H.trans (h.trans b))) rfl (La.aD (H.trans (h.trans b))) rfl) fun v LD ⟨c,O⟩=>?_
 obtain⟨rfl,L6⟩:=O
 refine bI rfl (?_)
 have i:=c.aD
 refine jC g (fun LJ g=>?_) (fun LJ g=>?_)
 ·have e:=(e.B c)
  refine⟨eY (w _ _) ((h.trans (b.trans i)).lt K6),?_⟩
  refine aI e (w _ _) rfl (aO rfl ?_)
  refine⟨eY (w _ _) ((h.trans (b.trans i)).lt K6),?_⟩
  refine aI e (w _ _) rfl (k rfl ?_)
  have f:=(f.B c)
  refine⟨eY (w _ _) ((b.trans i).lt Lb),?_⟩
  refine aI f (w _ _) rfl (k rfl ?_)
  refine bF (iT.aU (K9.aD (H.trans (h.trans (b.trans i)))) rfl (La.aD (H.trans (h.trans (b.trans i)))) rfl) fun v Lt ⟨d,O⟩=>?_
  obtain⟨Lw,Lg⟩:∃ z,z=l - m:=⟨_,rfl⟩
  rw [← Lg] at O
  replace g:=cC Lg g
  have LK:=qM (Nat.sub_le l m)
  rw [← Lg] at LK
  obtain⟨L7,L8,rfl,LL⟩:=O
  refine k rfl (?_)
  have Lc:=d.aD
  refine⟨d.c1 (Nat.le_refl _),?_⟩
  refine bF (fK.aY LL.rd rfl) fun v Lu ⟨j,O⟩=>?_
  obtain⟨L9,Lh⟩:∃ z,z=b5 (cE P Lw):=⟨_,rfl⟩
  rw [← Lh] at O
  replace g:=cC Lh g
  have LM:=k0 P Lw
  rw [← Lh] at LM
  obtain⟨Ma,Mb,rfl,LN⟩:=O
  refine bZ rfl (aM (aO rfl (aM (k rfl (bP (?_))))))
  have Lf:=j.aD
  refine⟨j.c1 (Lc).le,?_⟩
  have a:=(((a.B c).B d).B j)
  refine bK a (w _ _) rfl fun Lv a K7 K8=>?_
  refine bK a (w _ _) rfl fun LO a Li Lj=>?_
  refine aI a (w _ _) rfl (aO rfl ?_)
  refine aI a (w _ _) rfl (k rfl ?_)
  exact g _ _ (a1.B (a1.B ((((((aR.trans n).trans E).trans G).trans c).trans d).trans j) K7 K5) Li K5) ⟨_,_,rfl,((LN.aD (K8.trans Lj)).from (((((aR.trans n).trans E).trans G).trans c).trans d).le)⟩
 have f:=(f.B c)
 refine⟨eY (w _ _) ((b.trans i).lt Lb),?_⟩
 refine aI f (w _ _) rfl (aO rfl ?_)
 refine⟨eY (w _ _) ((b.trans i).lt Lb),?_⟩
 refine aI f (w _ _) rfl (k rfl ?_)
 have e:=(e.B c)
 refine⟨eY (w _ _) ((h.trans (b.trans i)).lt K6),?_⟩
 refine aI e (w _ _) rfl (k rfl ?_)
 refine bF (iT.aU (La.aD (H.trans (h.trans (b.trans i)))) rfl (K9.aD (H.trans (h.trans (b.trans i)))) rfl) fun v Lt ⟨d,O⟩=>?_
 obtain⟨Lx,Lk⟩:∃ z,z=m - l:=⟨_,rfl⟩
 rw [← Lk] at O
 replace g:=cC Lk g
 have LP:=qM (Nat.sub_le m l)
 rw [← Lk] at LP
 obtain⟨Mc,Md,rfl,LQ⟩:=O
 refine k rfl (?_)
 have Lc:=d.aD
 refine⟨d.c1 (Nat.le_refl _),?_⟩
 refine bF (fK.aY LQ.rd rfl) fun v Lu ⟨j,O⟩=>?_
 obtain⟨Me,Ll⟩:∃ z,z=b5 (cE aT Lx):=⟨_,rfl⟩
 rw [← Ll] at O
 replace g:=cC Ll g
 have LR:=k0 aT Lx
 rw [← Ll] at LR
 obtain⟨Mf,Mg,rfl,LS⟩:=O
 refine bZ rfl (aM (aO rfl (aM (k rfl (bP (?_))))))
 have Lf:=j.aD
 refine⟨j.c1 (Lc).le,?_⟩
 have a:=(((a.B c).B d).B j)
 refine bK a (w _ _) rfl fun Lv a K7 K8=>?_
 refine bK a (w _ _) rfl fun LO a Li Lj=>?_
 refine aI a (w _ _) rfl (aO rfl ?_)
 refine aI a (w _ _) rfl (k rfl ?_)
 exact g _ _ (a1.B (a1.B ((((((aR.trans n).trans E).trans G).trans c).trans d).trans j) K7 K5) Li K5) ⟨_,_,rfl,((LS.aD (K8.trans Lj)).from (((((aR.trans n).trans E).trans G).trans c).trans d).le)⟩
def v(a:Bool)(b:Nat)(aT:Bool)(c:Nat):(Bool × Nat):=F.v a b aT c
theorem aU{Z:V}{a:Bool}{b:U}{c d:Nat}{e:Nat}(f:cB b2 Z b c (D.aE e))(g:d=(D.aE e).length)(h:(D.aE e).length≤1000000){aT:Bool}{i:U}{j l:Nat}{m:Nat}(n:cB b2 Z i j (D.aE m))(t:l=(D.aE m).length)(E:(D.aE m).length≤1000000):aF id #[.agg #[.bool a,.slice b d c],.agg #[.bool aT,.slice i l j]] Z fun b c=>a4 Z c∧fC Z c b (v a e aT m):=
 ok (F.aU (a4.refl _) f g h n t E fun v A M O=>⟨M,O⟩)
end k2
namespace oN
def F.v(a:Bool)(b:Nat)(aT:Bool)(c:Nat):(Bool × Nat):=
 bY (b*c) fun b=>
 bY (b5 (cE ((!(a == aT))) b)) fun a=>
 (a.1,a.2)
theorem F.aU{Y:K}{aB Z:V}(aR:a4 aB Z){m:Bool}{P:U}{K5 K6:Nat}{b:Nat}(Lf:cB b2 Z P K5 (D.aE b))(Lg:K6=(D.aE b).length)(Lu:(D.aE b).length≤1000000){aT:Bool}{K7:U}{K8 K9:Nat}{c:Nat}(Lh:cB b2 Z K7 K8 (D.aE c))(Li:K9=(D.aE c).length)(Lv:(D.aE c).length≤1000000)(g:dS fC aB Y (F.v m b aT c)):F.t Y m P K6 K5 aT K7 K9 K8 Z:=by
 subst Lg Li
 have Lw:(D.aE 0).length=0:=by simp [D.dM]
 unfold F.v at g
 unfold F.t
 refine cK fun Lx e f=>?_
 have Ly:=aR.le
 have La:=e.lt
 have Lb:=f.aD
 refine cK fun Lj h i=>?_
 have Lz:=(aR.trans f).le
 have Lc:=h.lt
 have n:=i.aD
 refine cK fun Lk a j=>?_
 have a:cR Lk (Lj.size) [.bool false,.slice none (D.aE 0).length 0]:=by rw [D.dM];exact a
 have Ld:=((aR.trans f).trans i).le
 have LA:=a.lt
 have d:=j.aD
 have e:=((e.B i).B j)
 refine⟨eY (w _ _) ((n.trans d).lt La),?_⟩
 refine aI e (w _ _) rfl (aO rfl ?_)
 have h:=(h.B j)
 refine⟨eY (w _ _) ((d).lt Lc),?_⟩
 refine aI h (w _ _) rfl (aO rfl ?_)
 refine⟨eY (w _ _) ((n.trans d).lt La),?_⟩
 refine aI e (w _ _) rfl (k rfl ?_)
 refine⟨eY (w _ _) ((d).lt Lc),?_⟩
 refine aI h (w _ _) rfl (k rfl ?_)
 refine bF (iF.aU (Lf.aD (Lb.trans (n.trans d))) rfl (Lh.aD (Lb.trans (n.trans d))) rfl (by first | assumption | decide | omega) (by first | assumption | decide | omega)) fun v LB ⟨l,O⟩=>?_
 obtain⟨Le,G⟩:∃ z,z=b*c:=⟨_,rfl⟩
 rw [← G] at O
 replace g:=cC G g
 have Ll:=AY b c
 rw [← G] at Ll
 obtain⟨LC,LD,rfl,Lm⟩:=O
 refine k rfl (?_)
 have Ln:=l.aD
 refine⟨l.c1 (Nat.le_refl _),?_⟩
 refine bF (fK.aY Lm.rd rfl) fun v LF ⟨E,O⟩=>?_
 obtain⟨LG,H⟩:∃ z,z=b5 (cE ((!(m == aT))) Le):=⟨_,rfl⟩
 rw [← H] at O
 replace g:=cC H g
 have Lo:=k0 ((!(m == aT))) Le
 rw [← H] at Lo
 obtain⟨LH,LI,rfl,Lp⟩:=O
 refine bZ rfl (aM (aO rfl (aM (k rfl (bP (?_))))))
 have LJ:=E.aD
 refine⟨E.c1 (Ln).le,?_⟩
 have a:=((a.B l).B E)
 refine bK a (w _ _) rfl fun LK a Lq Lr=>?_
 refine bK a (w _ _) rfl fun LL a Ls Lt=>?_
 refine aI a (w _ _) rfl (aO rfl ?_)
 refine aI a (w _ _) rfl (k rfl ?_)
 exact g _ _ (a1.B (a1.B (((((aR.trans f).trans i).trans j).trans l).trans E) Lq Ld) Ls Ld) ⟨_,_,rfl,((Lp.aD (Lr.trans Lt)).from ((((aR.trans f).trans i).trans j).trans l).le)⟩
def v(a:Bool)(b:Nat)(aT:Bool)(c:Nat):(Bool × Nat):=F.v a b aT c
theorem aU{Z:V}{a:Bool}{b:U}{c d:Nat}{e:Nat}(f:cB b2 Z b c (D.aE e))(g:d=(D.aE e).length)(h:(D.aE e).length≤1000000){aT:Bool}{i:U}{j l:Nat}{m:Nat}(n:cB b2 Z i j (D.aE m))(t:l=(D.aE m).length)(E:(D.aE m).length≤1000000):aF id #[.agg #[.bool a,.slice b d c],.agg #[.bool aT,.slice i l j]] Z fun b c=>a4 Z c∧fC Z c b (v a e aT m):=
 ok (F.aU (a4.refl _) f g h n t E fun v A M O=>⟨M,O⟩)
end oN
namespace nF
def F.v(a:Bool)(b:Nat)(aQ:Int):(Bool × Nat):=
 bY (b*2 ^ (Int.toNat aQ)) fun b=>
 bY (b5 (cE a b)) fun a=>
 (a.1,a.2)
theorem F.aU{Y:K}{aB Z:V}(aR:a4 aB Z){e:Bool}{m:U}{n E:Nat}{b:Nat}(K6:cB b2 Z m n (D.aE b))(K7:E=(D.aE b).length)(Lk:(D.aE b).length≤1000000){aQ:Int}(K8:In .i64 aQ)(Ll:0≤aQ)(Lm:aQ≤35184372088832∨b=0)(g:dS fC aB Y (F.v e b aQ)):F.t Y e m E n aQ Z:=by
 subst K7
 have Ln:(D.aE 0).length=0:=by simp [D.dM]
 unfold F.v at g
 unfold F.t
 refine cK fun K9 c f=>?_
 have Lo:=aR.le
 have G:=c.lt
 have La:=f.aD
 refine cK fun Lb a h=>?_
 have a:cR Lb (K9.size) [.bool false,.slice none (D.aE 0).length 0]:=by rw [D.dM];exact a
 have H:=(aR.trans f).le
 have Lp:=a.lt
 have j:=h.aD
 have c:=(c.B h)
 refine⟨eY (w _ _) ((j).lt G),?_⟩
 refine aI c (w _ _) rfl (aO rfl ?_)
 refine⟨eY (w _ _) ((j).lt G),?_⟩
 refine aI c (w _ _) rfl (k rfl ?_)
 refine bF (lF.aU (K6.aD (La.trans j)) rfl K8 (by first | assumption | decide | omega) (by first | assumption | decide | omega) (by first | assumption | decide | omega)) fun v Lq ⟨d,O⟩=>?_
 obtain⟨P,K5⟩:∃ z,z=b*2 ^ (Int.toNat aQ):=⟨_,rfl⟩
 rw [← K5] at O
 replace g:=cC K5 g
 obtain⟨Lr,Ls,rfl,Lc⟩:=O
 refine k rfl (?_)
 have Ld:=d.aD
 refine⟨d.c1 (Nat.le_refl _),?_⟩
 refine bF (fK.aY Lc.rd rfl) fun v Lt ⟨i,O⟩=>?_
 obtain⟨Lu,l⟩:∃ z,z=b5 (cE e P):=⟨_,rfl⟩
 rw [← l] at O
 replace g:=cC l g
 have Le:=k0 e P
 rw [← l] at Le
 obtain⟨Lv,Lw,rfl,Lf⟩:=O
 refine bZ rfl (aM (aO rfl (aM (k rfl (bP (?_))))))
 have Lx:=i.aD
 refine⟨i.c1 (Ld).le,?_⟩
 have a:=((a.B d).B i)
 refine bK a (w _ _) rfl fun Ly a Lg Lh=>?_
 refine bK a (w _ _) rfl fun Lz a Li Lj=>?_
 refine aI a (w _ _) rfl (aO rfl ?_)
 refine aI a (w _ _) rfl (k rfl ?_)
 exact g _ _ (a1.B (a1.B ((((aR.trans f).trans h).trans d).trans i) Lg H) Li H) ⟨_,_,rfl,((Lf.aD (Lh.trans Lj)).from (((aR.trans f).trans h).trans d).le)⟩
def v(a:Bool)(b:Nat)(aQ:Int):(Bool × Nat):=F.v a b aQ
theorem aU{Z:V}{a:Bool}{b:U}{c d:Nat}{e:Nat}(f:cB b2 Z b c (D.aE e))(g:d=(D.aE e).length)(h:(D.aE e).length≤1000000){aQ:Int}(i:In .i64 aQ)(j:0≤aQ)(l:aQ≤35184372088832∨e=0):aF id #[.agg #[.bool a,.slice b d c],.int .i64 aQ] Z fun b c=>a4 Z c∧fC Z c b (v a e aQ):=
 ok (F.aU (a4.refl _) f g h i j l fun v A M O=>⟨M,O⟩)
end nF
namespace nG
def aC.v(a:Bool)(a:Nat)(b:Bool)(b:Nat)(b:Bool)(b:Nat)(b:Nat)(c:Nat):((Bool × Nat) × (Bool × Nat)):=
 bY (Int.toNat (1:Int)) fun d=>
 bY (b+d) fun b=>
 bY (b5 (cE true b)) fun b=>
 bY (a - c) fun a=>
 bY (b5 (cE false a)) fun a=>
 ((b.1,b.2),(a.1,a.2))
theorem aC.aU{Y:K}{aB Z:V}(aR:a4 aB Z){Lc:Bool}{Ld:U}{Le:Nat}{h:Nat}(LG:cB b2 Z Ld Le (D.aE h))(LY:(D.aE h).length≤10000000){m:Nat}(G:cR Z m [.bool Lc,.slice Ld (D.aE h).length Le])(LZ:aB.size≤m){Lf:Bool}{Lg:U}{Lh:Nat}{H:Nat}(L0:cN b2 aB Z Lg Lh (D.aE H))(L1:(D.aE H).length≤10000000){dT:Nat}(a:cR Z dT [.bool Lf,.slice Lg (D.aE H).length Lh])(Li:aB.size≤dT){Lj:Bool}{Lk:U}{Ll:Nat}{P:Nat}(L2:cN b2 aB Z Lk Ll (D.aE P))(L3:(D.aE P).length≤10000000){gT:Nat}(b:cR Z gT [.bool Lj,.slice Lk (D.aE P).length Ll])(Lm:aB.size≤gT){Ln:U}{Lo Lp:Nat}{i:Nat}(LH:cN b2 aB Z Ln Lo (D.aE i))(LI:Lp=(D.aE i).length)(L4:(D.aE i).length≤10000000){Lq:U}{Lr Ls:Nat}{j:Nat}(LJ:cN b2 aB Z Lq Lr (D.aE j))(LK:Ls=(D.aE j).length)(L5:(D.aE j).length≤10000000)(L6:m ≠ dT)(L7:m ≠ gT)(K5:dT ≠ gT)(g:dS (s2 fC fC) aB Y (aC.v Lc h Lf H Lj P i j)):aC.t Y (⟨m,0,none⟩:Addr) (⟨dT,0,none⟩:Addr) (⟨gT,0,none⟩:Addr) Ln Lp Lo Lq Ls Lr Z:=by
 subst LI LK
 have LL:=G.lt
 have L8:=a.lt
 have L9:=b.lt
 have Ma:(D.aE 0).length=0:=by simp [D.dM]
 unfold aC.v at g
 unfold aC.t
 refine bF (jP.aU (show In .u64 (1:Int) by decide)) fun v Mb ⟨c,O⟩=>?_
 obtain⟨Lt,K7⟩:∃ z,z=Int.toNat (1:Int):=⟨_,rfl⟩
 rw [← K7] at O
 replace g:=cC K7 g
 have LM:=Ik (show In .u64 (1:Int) by decide)
 rw [← K7] at LM
 obtain⟨Mc,Md,rfl,LN⟩:=O
 refine k rfl (?_)
 have e:=c.aD
 refine⟨c.c1 (Nat.le_refl _),?_⟩
 refine bF (iE.aU (LH.aD (e)).rd rfl LN.rd rfl (by first | assumption | decide | omega) (by first | assumption | decide | omega)) fun v Me ⟨d,O⟩=>?_
 obtain⟨Lu,K8⟩:∃ z,z=i+Lt:=⟨_,rfl⟩
 rw [← K8] at O
 replace g:=cC K8 g
 have LO:=y0 i Lt
 rw [← K8] at LO
 obtain⟨Mf,Mg,rfl,LP⟩:=O
 refine k rfl (?_)
 have n:=d.aD
 refine⟨d.c1 (e).le,?_⟩
 refine bF (fK.aY LP.rd rfl) fun v Mh ⟨f,O⟩=>?_
 obtain⟨Mi,K9⟩:∃ z,z=b5 (cE true Lu):=⟨_,rfl⟩
 rw [← K9] at O
 replace g:=cC K9 g
 have LQ:=k0 true Lu
 rw [← K9] at LQ
 obtain⟨Mj,Mk,rfl,LR⟩:=O
 refine bZ rfl (aM (aO rfl (aM (k rfl (bP (?_))))))
 have K6:=f.aD
 refine⟨f.c1 (e.trans n).le,?_⟩
 have G:=(((G.B c).B d).B f)
 refine⟨eY (w _ _) (LL),?_⟩
 refine aI G (w _ _) rfl (k rfl ?_)
 refine bF (iT.aU (LG.aD (e.trans (n.trans K6))) rfl (LJ.aD (e.trans (n.trans K6))).rd rfl) fun v Ml ⟨l,O⟩=>?_
 obtain⟨Lv,La⟩:∃ z,z=h - j:=⟨_,rfl⟩
 rw [← La] at O
 replace g:=cC La g
 have LS:=qM (Nat.sub_le h j)
 rw [← La] at LS
 obtain⟨Mm,Mn,rfl,LU⟩:=O
 refine k rfl (?_)
 have Lw:=l.aD
 refine⟨l.c1 (e.trans (n.trans K6)).le,?_⟩
 refine bF (fK.aY LU.rd rfl) fun v Mo ⟨E,O⟩=>?_
 obtain⟨Mp,Lb⟩:∃ z,z=b5 (cE false Lv):=⟨_,rfl⟩
 rw [← Lb] at O
 replace g:=cC Lb g
 have LV:=k0 false Lv
 rw [← Lb] at LV
 obtain⟨Mq,Mr,rfl,LW⟩:=O
 refine bZ rfl (aM (aO rfl (aM (k rfl (bP (?_))))))
 have LX:=E.aD
 refine⟨E.c1 (e.trans (n.trans (K6.trans Lw))).le,?_⟩
 have a:=(((((a.B c).B d).B f).B l).B E)
 refine bK a (w _ _) rfl fun Ms a Lx Ly=>?_
 refine bK a (w _ _) rfl fun Mt a Lz LA=>?_
 have b:=(((((((b.B c).B d).B f).B l).B E).bT (Ne.symm K5) Lx).bT (Ne.symm K5) Lz)
 refine bK b (w _ _) rfl fun Mu b LB LC=>?_
 refine bK b (w _ _) rfl fun Mv b LD LF=>?_
 have a:=((a.bT K5 LB).bT K5 LD)
 refine aI a (w _ _) rfl (aO rfl ?_)
 refine aI a (w _ _) rfl (k rfl ?_)
 refine aI b (w _ _) rfl (aO rfl ?_)
 refine aI b (w _ _) rfl (k rfl ?_)
 exact g _ _ (a1.B (a1.B (a1.B (a1.B (((((aR.trans c).trans d).trans f).trans l).trans E) Lx Li) Lz Li) LB Lm) LD Lm) ⟨_,_,rfl,⟨_,_,rfl,((LR.aD (Lw.trans (LX.trans (Ly.trans (LA.trans (LC.trans LF)))))).from ((aR.trans c).trans d).le)⟩,⟨_,_,rfl,((LW.aD (Ly.trans (LA.trans (LC.trans LF)))).from ((((aR.trans c).trans d).trans f).trans l).le)⟩⟩
def F.v(a:Bool)(b:Nat)(aT:Bool)(c:Nat):((Bool × Nat) × (Bool × Nat)):=
 bY (jV.v aT c) fun d=>
 bif (decide (d≤(0:Int))) then
  ((false,0),(false,0))
 else
  bY (oF b c) fun b=>
  bif (!a) then
   bY (b5 (cE a b.1)) fun d=>
   bY (b5 (cE false b.2)) fun e=>
   ((d.1,d.2),(e.1,e.2))
  else
   bif (((((D.aE b.2).length:Nat):Int)) == (0:Int)) then
    bY (b5 (cE a b.1)) fun a=>
    bY (b5 (cE false b.2)) fun d=>
    ((a.1,a.2),(d.1,d.2))
   else
    aC.v aT c false 0 false 0 b.1 b.2
theorem F.aU{Y:K}{aB Z:V}(aR:a4 aB Z){K8:Bool}{Lv:U}{Lw Lx:Nat}{K5:Nat}(LJ:cB b2 Z Lv Lw (D.aE K5))(LK:Lx=(D.aE K5).length)(L7:(D.aE K5).length≤1000000){aT:Bool}{Ly:U}{Lz LA:Nat}{G:Nat}(Ln:cB b2 Z Ly Lz (D.aE G))(LL:LA=(D.aE G).length)(L8:(D.aE G).length≤1000000)(g:dS (s2 fC fC) aB Y (F.v K8 K5 aT G)):F.t Y K8 Lv Lx Lw aT Ly LA Lz Z:=by
 subst LK LL
 have L9:(D.aE 0).length=0:=by simp [D.dM]
 unfold F.v at g
 unfold F.t
 refine cK fun Ma E f=>?_
 have Mb:=aR.le
 have Mc:=E.lt
 have Lh:=f.aD
 refine cK fun LM n h=>?_
 have LN:=(aR.trans f).le
 have LB:=n.lt
 have Li:=h.aD
 refine cK fun LC a i=>?_
 have a:cR LC (LM.size) [.bool false,.slice none (D.aE 0).length 0]:=by rw [D.dM];exact a
 have K6:=((aR.trans f).trans h).le
 have l:=a.lt
 have La:=i.aD
 refine cK fun LO b e=>?_
 have b:cR LO (LC.size) [.bool false,.slice none (D.aE 0).length 0]:=by rw [D.dM];exact b
 have K7:=(((aR.trans f).trans h).trans i).le
 have Md:=b.lt
 have Lj:=e.aD
 have n:=((n.B i).B e)
 refine aI n (w _ _) rfl (aO rfl ?_)
 refine aI n (w _ _) rfl (k rfl ?_)
 refine bF (jV.aU (Ln.aD (Lh.trans (Li.trans (La.trans Lj)))) rfl) fun v Me ⟨c,O⟩=>?_
 obtain⟨Mf,LD⟩:∃ z,z=jV.v aT G:=⟨_,rfl⟩
 rw [← LD] at O
 replace g:=cC LD g
 obtain⟨rfl,Mg⟩:=O
 refine bI rfl (?_)
 have Lo:=c.aD
 refine jC g (fun LP g=>?_) (fun LP g=>?_)
 ·have a:=((a.B e).B c)
  refine bK a (w _ _) rfl fun LQ a d LF=>?_
  refine bK a (w _ _) rfl fun LG a j Lk=>?_
  have a:=a.AX
  have b:=(((b.B c).bT (Ne.symm (Nat.ne_of_lt l)) d).bT (Ne.symm (Nat.ne_of_lt l)) j)
  refine bK b (w _ _) rfl fun LH b m Ll=>?_
  refine bK b (w _ _) rfl fun LI b H K9=>?_
  have b:=b.AX
  have a:=((a.bT (Nat.ne_of_lt l) m).bT (Nat.ne_of_lt l) H)
  refine aI a (w _ _) rfl (aO rfl ?_)
  refine aI a (w _ _) rfl (k rfl ?_)
  refine aI b (w _ _) rfl (aO rfl ?_)
  refine aI b (w _ _) rfl (k rfl ?_)
  exact g _ _ (a1.B (a1.B (a1.B (a1.B (((((aR.trans f).trans h).trans i).trans e).trans c) d K6) j K6) m K7) H K7) ⟨_,_,rfl,⟨_,_,rfl,(sF _ _)⟩,⟨_,_,rfl,(sF _ _)⟩⟩
 have E:=((((E.B h).B i).B e).B c)
 refine aI E (w _ _) rfl (k rfl ?_)
 have n:=(n.B c)
 refine aI n (w _ _) rfl (k rfl ?_)
 refine bF (iU.aU (LJ.aD (Lh.trans (Li.trans (La.trans (Lj.trans Lo))))) rfl (Ln.aD (Lh.trans (Li.trans (La.trans (Lj.trans Lo))))) rfl (by first | assumption | decide | omega)) fun v LQ ⟨d,O⟩=>?_
 obtain⟨P,Lm⟩:∃ z,z=oF K5 G:=⟨_,rfl⟩
 rw [← Lm] at O
 replace g:=cC Lm g
 have LR:=Il K5 G
 rw [← Lm] at LR
 have LS:=Im K5 G
 rw [← Lm] at LS
 obtain⟨_,_,rfl,⟨Mh,Mi,rfl,Lp⟩,⟨Mj,Mk,rfl,Lq⟩⟩:=O
 refine dP rfl (aM (k rfl (aM (k rfl (bP (?_))))))
 have LF:=d.aD
 have E:=(E.B d)
 refine aI E (w _ _) rfl (aO rfl ?_)
 refine hH g (fun LU g=>?_) (fun LU g=>?_)
 ·refine aI E (w _ _) rfl (aO rfl ?_)
  refine bF (fK.aY Lp.rd rfl) fun v LG ⟨j,O⟩=>?_
  obtain⟨Ml,Lr⟩:∃ z,z=b5 (cE K8 P.1):=⟨_,rfl⟩
  rw [← Lr] at O
  replace g:=cC Lr g
  have LV:=k0 K8 P.1
  rw [← Lr] at LV
  obtain⟨Mm,Mn,rfl,LW⟩:=O
  refine bZ rfl (aM (aO rfl (aM (k rfl (bP (?_))))))
  have Lk:=j.aD
  refine bF (fK.aY (Lq.aD (Lk)).rd rfl) fun v LH ⟨m,O⟩=>?_
  obtain⟨Mo,Ls⟩:∃ z,z=b5 (cE false P.2):=⟨_,rfl⟩
  rw [← Ls] at O
  replace g:=cC Ls g
  have LX:=k0 false P.2
  rw [← Ls] at LX
  obtain⟨Mp,Mq,rfl,LY⟩:=O
  refine bZ rfl (aM (aO rfl (aM (k rfl (bP (?_))))))
  have Ll:=m.aD
  have a:=(((((a.B e).B c).B d).B j).B m)
  refine bK a (w _ _) rfl fun LI a H K9=>?_
  refine bK a (w _ _) rfl fun LZ a Lb Lc=>?_
  have b:=((((((b.B c).B d).B j).B m).bT (Ne.symm (Nat.ne_of_lt l)) H).bT (Ne.symm (Nat.ne_of_lt l)) Lb)
  refine bK b (w _ _) rfl fun L0 b Ld Le=>?_
  refine bK b (w _ _) rfl fun L1 b Lf Lg=>?_
  have a:=((a.bT (Nat.ne_of_lt l) Ld).bT (Nat.ne_of_lt l) Lf)
  refine aI a (w _ _) rfl (aO rfl ?_)
  refine aI a (w _ _) rfl (k rfl ?_)
  refine aI b (w _ _) rfl (aO rfl ?_)
  refine aI b (w _ _) rfl (k rfl ?_)
  exact g _ _ (a1.B (a1.B (a1.B (a1.B ((((((((aR.trans f).trans h).trans i).trans e).trans c).trans d).trans j).trans m) H K6) Lb K6) Ld K7) Lf K7) ⟨_,_,rfl,⟨_,_,rfl,((LW.aD (Ll.trans (K9.trans (Lc.trans (Le.trans Lg))))).from ((((((aR.trans f).trans h).trans i).trans e).trans c).trans d).le)⟩,⟨_,_,rfl,((LY.aD (K9.trans (Lc.trans (Le.trans Lg)))).from (((((((aR.trans f).trans h).trans i).trans e).trans c).trans d).trans j).le)⟩⟩
 refine fB g (fun L2 g=>?_) (fun L2 g=>?_)
 ·refine aI E (w _ _) rfl (aO rfl ?_)
  refine bF (fK.aY Lp.rd rfl) fun v LG ⟨j,O⟩=>?_
  obtain⟨Mr,Lt⟩:∃ z,z=b5 (cE K8 P.1):=⟨_,rfl⟩
  rw [← Lt] at O
  replace g:=cC Lt g
  have L3:=k0 K8 P.1
  rw [← Lt] at L3
  obtain⟨Ms,Mt,rfl,L4⟩:=O
  refine bZ rfl (aM (aO rfl (aM (k rfl (bP (?_))))))
  have Lk:=j.aD
  refine bF (fK.aY (Lq.aD (Lk)).rd rfl) fun v LH ⟨m,O⟩=>?_
  obtain⟨Mu,Lu⟩:∃ z,z=b5 (cE false P.2):=⟨_,rfl⟩
  rw [← Lu] at O
  replace g:=cC Lu g
  have L5:=k0 false P.2
  rw [← Lu] at L5
  obtain⟨Mv,Mw,rfl,L6⟩:=O
  refine bZ rfl (aM (aO rfl (aM (k rfl (bP (?_))))))
  have Ll:=m.aD
  have a:=(((((a.B e).B c).B d).B j).B m)
  refine bK a (w _ _) rfl fun LI a H K9=>?_
  refine bK a (w _ _) rfl fun LZ a Lb Lc=>?_
  have b:=((((((b.B c).B d).B j).B m).bT (Ne.symm (Nat.ne_of_lt l)) H).bT (Ne.symm (Nat.ne_of_lt l)) Lb)
  refine bK b (w _ _) rfl fun L0 b Ld Le=>?_
  refine bK b (w _ _) rfl fun L1 b Lf Lg=>?_
  have a:=((a.bT (Nat.ne_of_lt l) Ld).bT (Nat.ne_of_lt l) Lf)
  refine aI a (w _ _) rfl (aO rfl ?_)
  refine aI a (w _ _) rfl (k rfl ?_)
  refine aI b (w _ _) rfl (aO rfl ?_)
  refine aI b (w _ _) rfl (k rfl ?_)
  exact g _ _ (a1.B (a1.B (a1.B (a1.B ((((((((aR.trans f).trans h).trans i).trans e).trans c).trans d).trans j).trans m) H K6) Lb K6) Ld K7) Lf K7) ⟨_,_,rfl,⟨_,_,rfl,((L4.aD (Ll.trans (K9.trans (Lc.trans (Le.trans Lg))))).from ((((((aR.trans f).trans h).trans i).trans e).trans c).trans d).le)⟩,⟨_,_,rfl,((L6.aD (K9.trans (Lc.trans (Le.trans Lg)))).from (((((((aR.trans f).trans h).trans i).trans e).trans c).trans d).trans j).le)⟩⟩
 have n:=(n.B d)
 have a:=(((a.B e).B c).B d)
 have b:=((b.B c).B d)
 exact aC.aU ((((((aR.trans f).trans h).trans i).trans e).trans c).trans d) (Ln.aD (Lh.trans (Li.trans (La.trans (Lj.trans (Lo.trans LF)))))) (by first | assumption | decide | omega) n LN (sF _ _) (by first | assumption | decide | omega) a K6 (sF _ _) (by first | assumption | decide | omega) b K7 (Lp.from (((((aR.trans f).trans h).trans i).trans e).trans c).le) rfl (by first | assumption | decide | omega) (Lq.from (((((aR.trans f).trans h).trans i).trans e).trans c).le) rfl (by first | assumption | decide | omega) (Nat.ne_of_lt LB) (Nat.ne_of_lt ((La).lt LB)) (Nat.ne_of_lt l) g
def v(a:Bool)(b:Nat)(aT:Bool)(c:Nat):((Bool × Nat) × (Bool × Nat)):=F.v a b aT c
theorem aU{Z:V}{a:Bool}{b:U}{c d:Nat}{e:Nat}(f:cB b2 Z b c (D.aE e))(g:d=(D.aE e).length)(h:(D.aE e).length≤1000000){aT:Bool}{i:U}{j l:Nat}{m:Nat}(n:cB b2 Z i j (D.aE m))(t:l=(D.aE m).length)(E:(D.aE m).length≤1000000):aF id #[.agg #[.bool a,.slice b d c],.agg #[.bool aT,.slice i l j]] Z fun b c=>a4 Z c∧(s2 fC fC) Z c b (v a e aT m):=
 ok (F.aU (a4.refl _) f g h n t E fun v A M O=>⟨M,O⟩)
end nG
namespace oO
def F.v(a:Bool)(a:Nat):Bool:=
 (((jQ a (0:Int))) == (0:Int))
theorem F.aU{Y:K}{aB Z:V}(aR:a4 aB Z){b:Bool}{c:U}{d e:Nat}{a:Nat}(j:cB b2 Z c d (D.aE a))(l:e=(D.aE a).length)(g:dS h0 aB Y (F.v b a)):F.t Y b c e d Z:=by
 subst l
 unfold F.v at g
 unfold F.t
 refine cK fun n f h=>?_
 have E:=aR.le
 have G:=f.lt
 have m:=h.aD
 refine aI f (w _ _) rfl (k rfl ?_)
 refine bF (pG.aU (j.aD (m)) rfl (show In .i64 (0:Int) by decide)) fun v H ⟨i,O⟩=>?_
 obtain⟨rfl,P⟩:=O
 refine bI rfl (?_)
 have K5:=i.aD
 exact g _ _ ((aR.trans h).trans i) rfl
def v(a:Bool)(b:Nat):Bool:=F.v a b
theorem aU{Z:V}{a:Bool}{b:U}{c d:Nat}{e:Nat}(f:cB b2 Z b c (D.aE e))(g:d=(D.aE e).length):aF id #[.agg #[.bool a,.slice b d c]] Z fun b c=>a4 Z c∧h0 Z c b (v a e):=
 ok (F.aU (a4.refl _) f g fun v A M O=>⟨M,O⟩)
end oO
namespace n1
def aC.v(a:Int):(Int × Bool):=
 ((IntKind.i64.wrap a),true)
theorem aC.aU{Y:K}{aB Z:V}(aR:a4 aB Z){a:Int}(b:In .u64 a)(g:dS (s2 (c3 .i64) h0) aB Y (aC.v a)):aC.t Y a Z:=by
 unfold aC.v at g
 unfold aC.t
 refine g3 ?_
 exact g _ _ aR ⟨_,_,rfl,⟨rfl,(iS _ _)⟩,rfl⟩
def F.v(a:Bool)(b:Nat):(Int × Bool):=
 bY (vG b) fun b=>
 bif (!b.2) then
  ((0:Int),false)
 else
  bif a then
   bif (b.1 == (9223372036854775808:Int)) then
    ((-9223372036854775808:Int),true)
   else
    bif (decide (b.1≥(9223372036854775808:Int))) then
     ((0:Int),false)
    else
     bif a then
      ((IntKind.i64.wrap (0 - (IntKind.i64.wrap b.1))),true)
     else
      aC.v b.1
  else
   bif (decide (b.1≥(9223372036854775808:Int))) then
    ((0:Int),false)
   else
    bif a then
     ((IntKind.i64.wrap (0 - (IntKind.i64.wrap b.1))),true)
    else
     aC.v b.1
theorem F.aU{Y:K}{aB Z:V}(aR:a4 aB Z){e:Bool}{f:U}{h i:Nat}{d:Nat}(m:cB b2 Z f h (D.aE d))(n:i=(D.aE d).length)(g:dS (s2 (c3 .i64) h0) aB Y (F.v e d)):F.t Y e f i h Z:=by
 subst n
 unfold F.v at g
 unfold F.t
 refine cK fun K9 c b=>?_
 have La:=aR.le
 have Lb:=c.lt
 have E:=b.aD
 refine aI c (w _ _) rfl (k rfl ?_)
 refine bF (qF.aU (m.aD (E)) rfl) fun v Lc ⟨a,O⟩=>?_
 obtain⟨Ld,j⟩:∃ z,z=vG d:=⟨_,rfl⟩
 rw [← j] at O
 replace g:=cC j g
 obtain⟨_,_,rfl,⟨rfl,l⟩,rfl⟩:=O
 refine dP rfl (aM (bI rfl (aM (aO rfl (bP (?_))))))
 have Le:=a.aD
 refine hH g (fun G g=>?_) (fun G g=>?_)
 ·exact g _ _ ((aR.trans b).trans a) ⟨_,_,rfl,⟨rfl,(show In .i64 (0:Int) by decide)⟩,rfl⟩
 have c:=(c.B a)
 refine aI c (w _ _) rfl (aO rfl ?_)
 refine iR g (fun H g=>?_) (fun H g=>?_)
 ·refine fB g (fun P g=>?_) (fun P g=>?_)
  ·exact g _ _ ((aR.trans b).trans a) ⟨_,_,rfl,⟨rfl,(show In .i64 (-9223372036854775808:Int) by decide)⟩,rfl⟩
  refine jC g (fun K5 g=>?_) (fun K5 g=>?_)
  ·exact g _ _ ((aR.trans b).trans a) ⟨_,_,rfl,⟨rfl,(show In .i64 (0:Int) by decide)⟩,rfl⟩
  refine aI c (w _ _) rfl (aO rfl ?_)
  refine iR g (fun K6 g=>?_) (fun K6 g=>?_)
  ·refine g3 ?_
   refine g3 ?_
   exact g _ _ ((aR.trans b).trans a) ⟨_,_,rfl,⟨rfl,(iS _ _)⟩,rfl⟩
  exact aC.aU ((aR.trans b).trans a) l g
 refine jC g (fun K7 g=>?_) (fun K7 g=>?_)
 ·exact g _ _ ((aR.trans b).trans a) ⟨_,_,rfl,⟨rfl,(show In .i64 (0:Int) by decide)⟩,rfl⟩
 refine aI c (w _ _) rfl (aO rfl ?_)
 refine iR g (fun K8 g=>?_) (fun K8 g=>?_)
 ·refine g3 ?_
  refine g3 ?_
  exact g _ _ ((aR.trans b).trans a) ⟨_,_,rfl,⟨rfl,(iS _ _)⟩,rfl⟩
 exact aC.aU ((aR.trans b).trans a) l g
def v(a:Bool)(b:Nat):(Int × Bool):=F.v a b
theorem aU{Z:V}{a:Bool}{b:U}{c d:Nat}{e:Nat}(f:cB b2 Z b c (D.aE e))(g:d=(D.aE e).length):aF id #[.agg #[.bool a,.slice b d c]] Z fun b c=>a4 Z c∧(s2 (c3 .i64) h0) Z c b (v a e):=
 ok (F.aU (a4.refl _) f g fun v A M O=>⟨M,O⟩)
end n1
namespace iW
def F.v(a:Bool)(b:List Nat):Bool:=
 bif (decide (gI b)) then
  bif a then
   (!((((b.length:Nat):Int)) == (0:Int)))
  else
   (!false)
 else
  false
theorem F.aU{Y:K}{aB Z:V}(aR:a4 aB Z){e:Bool}{f:U}{h i:Nat}{d:List Nat}(j:bJ Z f h d)(l:i=d.length)(g:dS h0 aB Y (F.v e d)):F.t Y e f i h Z:=by
 subst l
 unfold F.v at g
 unfold F.t
 refine cK fun E a c=>?_
 have G:=aR.le
 have H:=a.lt
 have m:=c.aD
 refine aI a (w _ _) rfl (k rfl ?_)
 refine bF (qG.aU (j.aD (m)) rfl) fun v P ⟨b,O⟩=>?_
 obtain rfl:=O
 refine aO rfl (?_)
 have K5:=b.aD
 refine jC g (fun n g=>?_) (fun n g=>?_)
 ·have a:=(a.B b)
  refine aI a (w _ _) rfl (aO rfl ?_)
  refine iR g (fun D g=>?_) (fun D g=>?_)
  ·refine aI a (w _ _) rfl (k rfl ?_)
   exact g _ _ ((aR.trans c).trans b) rfl
  exact g _ _ ((aR.trans c).trans b) rfl
 exact g _ _ ((aR.trans c).trans b) rfl
def v(a:Bool)(b:List Nat):Bool:=F.v a b
theorem aU{Z:V}{a:Bool}{b:U}{c d:Nat}{e:List Nat}(f:bJ Z b c e)(g:d=e.length):aF id #[.agg #[.bool a,.slice b d c]] Z fun b c=>a4 Z c∧h0 Z c b (v a e):=
 ok (F.aU (a4.refl _) f g fun v A M O=>⟨M,O⟩)
end iW
namespace gZ
def F.v(a:Bool)(b:Nat):((Bool × List Nat) × Int):=
 bif (decide (((((D.aE b).length:Nat):Int)) > (16384:Int))) then
  ((false,([]:List Nat)),(5:Int))
 else
  bY (fE (bL (a,b))) fun a=>
  ((a.1,a.2),(0:Int))
theorem F.aU{Y:K}{aB Z:V}(aR:a4 aB Z){i:Bool}{l:U}{m n:Nat}{f:Nat}(H:cB b2 Z l m (D.aE f))(P:n=(D.aE f).length)(g:dS (s2 dZ (c3 .i64)) aB Y (F.v i f)):F.t Y i l n m Z:=by
 subst P
 unfold F.v at g
 unfold F.t
 refine cK fun Le b c=>?_
 have Lf:=aR.le
 have Lg:=b.lt
 have K5:=c.aD
 refine cK fun Lh a d=>?_
 have h:=(aR.trans c).le
 have Li:=a.lt
 have K6:=d.aD
 have b:=(b.B d)
 refine aI b (w _ _) rfl (k rfl ?_)
 refine jC g (fun K7 g=>?_) (fun K7 g=>?_)
 ·refine bK a (w _ _) rfl fun K8 a e K9=>?_
  refine bK a (w _ _) rfl fun La a j E=>?_
  refine aI a (w _ _) rfl (aO rfl ?_)
  refine aI a (w _ _) rfl (k rfl ?_)
  exact g _ _ (a1.B (a1.B ((aR.trans c).trans d) e h) j h) ⟨_,_,rfl,⟨_,_,rfl,(cN.nil _ _)⟩,⟨rfl,(show In .i64 (5:Int) by decide)⟩⟩
 refine aI b (w _ _) rfl (aO rfl ?_)
 refine aI b (w _ _) rfl (k rfl ?_)
 refine bF (nE.aY (H.aD (K5.trans K6)) rfl) fun v K8 ⟨e,O⟩=>?_
 obtain⟨Lj,G⟩:∃ z,z=fE (bL (i,f)):=⟨_,rfl⟩
 rw [← G] at O
 replace g:=cC G g
 obtain⟨Lk,Ll,rfl,Lb⟩:=O
 refine bZ rfl (aM (aO rfl (aM (k rfl (bP (?_))))))
 have K9:=e.aD
 have a:=(a.B e)
 refine bK a (w _ _) rfl fun La a j E=>?_
 refine bK a (w _ _) rfl fun Lm a Lc Ld=>?_
 refine aI a (w _ _) rfl (aO rfl ?_)
 refine aI a (w _ _) rfl (k rfl ?_)
 exact g _ _ (a1.B (a1.B (((aR.trans c).trans d).trans e) j h) Lc h) ⟨_,_,rfl,⟨_,_,rfl,((Lb.aD (E.trans Ld)).from ((aR.trans c).trans d).le)⟩,⟨rfl,(show In .i64 (0:Int) by decide)⟩⟩
def v(a:Bool)(b:Nat):((Bool × List Nat) × Int):=F.v a b
theorem aU{Z:V}{a:Bool}{b:U}{c d:Nat}{e:Nat}(f:cB b2 Z b c (D.aE e))(g:d=(D.aE e).length):aF id #[.agg #[.bool a,.slice b d c]] Z fun b c=>a4 Z c∧(s2 dZ (c3 .i64)) Z c b (v a e):=
 ok (F.aU (a4.refl _) f g fun v A M O=>⟨M,O⟩)
end gZ
theorem k3(N:Bool)(aL:Nat):bL (N,aL)=cE N aL:=rfl
theorem DY(N:Bool)(aL:Nat):jV.v N aL=gA (bL (N,aL)) 0:=by
 unfold jV.v jV.F.v
 rw [k3]
 by_cases Z:aL=0
 ·have J:(((D.aE aL).length:Int) == 0)=true:=by have:=(rI aL).mpr Z;rw [this];rfl
  rw [J,Z,lJ];rfl
 ·have J:(((D.aE aL).length:Int) == 0)=false:=by
   have:=mt (rI aL).mp Z
   simp only [beq_eq_false_iff_ne,ne_eq];omega
  rw [J]
  cases N
  ·have:¬ cE false aL < 0:=by unfold cE;simp
   have a:cE false aL ≠ 0:=fun J=>Z (tY.mp J)
   simp [gA,this,a]
  ·have:cE true aL < 0:=by unfold cE;simp;omega
   simp [gA,this]
theorem Iw(N:Bool)(aL:Nat):h2.v N aL=b5 (-bL (N,aL)):=by
 rw [k3,tX];rfl
theorem Ix{m n:Nat}:decide (e6 m n≥0)=decide (n≤m):=by
 unfold e6
 by_cases Z:m < n
 ·simp [Z]
 ·rw [if_neg Z];split <;> simp <;> omega
theorem Iy(N L:Bool)(aL bA:Nat):k2.v N aL L bA=b5 (bL (N,aL)+bL (L,bA)):=by
 rw [k3,k3]
 unfold k2.v k2.F.v
 by_cases Z:N=L
 ·subst Z
  rw [DL];simp only [beq_self_eq_true,cond_true];rfl
 ·have J:(N == L)=false:=by simp [Z]
  rw [J,cond_false,Ix]
  by_cases a:bA≤aL
  ·rw [yR Z a];simp only [a,decide_true,cond_true];rfl
  ·rw [Int.add_comm,yR (fun J=>Z J.symm) (by omega)];simp only [a,decide_false,cond_false];rfl
theorem Iz(N L:Bool)(aL bA:Nat):oN.v N aL L bA=b5 (bL (N,aL)*bL (L,bA)):=by
 rw [k3,k3,yS]
 have:xor N L=(!(N == L)):=by cases N <;> cases L <;> rfl
 rw [this];rfl
theorem IA(N:Bool)(aL:Nat)(n:Int):nF.v N aL n=b5 (bL (N,aL)*2 ^ n.toNat):=by
 rw [k3,AS];rfl
theorem DZ{a N:Int}(Z:0 < N):k1 a N=(b5 (e4 a N),b5 (iV a N)):=by
 unfold k1 iV
 rw [if_neg (by omega),A0 Z,Int.emod_def]
theorem IB(N L:Bool)(aL bA:Nat):nG.v N aL L bA=k1 (bL (N,aL)) (bL (L,bA)):=by
 unfold nG.v nG.F.v
 rw [DY,k3,k3]
 simp only [bY]
 by_cases Z:cE L bA≤0
 ·have:decide (gA (cE L bA) 0≤0)=true:=by
   apply decide_eq_true;unfold gA;split
   ·decide
   ·rw [if_pos (by omega)];decide
  rw [this,cond_true]
  unfold k1;rw [if_pos Z]
 ·have:decide (gA (cE L bA) 0≤0)=false:=by
   apply decide_eq_false;unfold gA;rw [if_neg (by omega),if_neg (by omega)];decide
  rw [this,cond_false,DZ (by omega)]
  have e:L=false:=by
   cases L
   ·rfl
   ·exfalso;apply Z;unfold cE;simp
  subst e
  have c:bA ≠ 0:=fun J=>Z (by subst J;rw [lJ];exact Int.le_refl _)
  have f:oF aL bA=(aL / bA,aL % bA):=by unfold oF;rw [if_neg c]
  rw [f]
  by_cases d:aL=0
  ·subst d
   rw [lJ,yV,HF,Nat.zero_div,Nat.zero_mod]
   have b:(((D.aE 0).length:Int) == 0)=true:=by rw [(rI 0).mpr rfl];rfl
   cases N
   ·simp only [Bool.not_false,cond_true,lJ]
   ·simp only [Bool.not_true,cond_false,b,cond_true,lJ]
  ·rw [tW c fun _=>d,yW c fun _=>d,Bool.xor_false]
   cases N
   ·simp only [Bool.not_false,cond_true,Bool.false_eq_true,false_and,if_false]
   ·simp only [Bool.not_true,cond_false,true_and]
    by_cases a:aL % bA=0
    ·have b:(((D.aE (aL % bA)).length:Int) == 0)=true:=by rw [(rI _).mpr a];rfl
     rw [b,cond_true,if_neg (by simp [a]),if_neg (by simp [a])]
    ·have b:(((D.aE (aL % bA)).length:Int) == 0)=false:=by
      have:=mt (rI (aL % bA)).mp a
      simp only [beq_eq_false_iff_ne,ne_eq];omega
     rw [b,cond_false,if_pos a,if_pos a]
     rfl
theorem IC(N:Bool)(aL:Nat):oO.v N aL=decide (aL % 2=0):=by
 unfold oO.v oO.F.v jQ
 rw [if_neg (by decide)]
 simp only [Int.toNat_zero,Nat.pow_zero,Nat.div_one]
 rcases Nat.mod_two_eq_zero_or_one aL with Z | Z <;> rw [Z] <;> rfl
theorem ID(N:Bool)(aL:Nat):n1.v N aL=vN (bL (N,aL)):=by
 rw [k3]
 unfold n1.v n1.F.v n1.aC.v vG vN
 simp only [bY]
 by_cases Z:aL < 18446744073709551616
 ·rw [if_pos Z]
  simp only [Bool.not_true,cond_false]
  cases N
  ·simp only [cond_false,cE,Bool.false_eq_true,if_false]
   by_cases a0:((aL:Nat):Int)≥9223372036854775808
   ·simp only [a0,decide_true,cond_true]
    rw [if_neg (by omega)]
   ·simp only [a0,decide_false,cond_false]
    rw [if_pos (by omega),wrap_i64 (by omega) (by omega)]
  ·simp only [cond_true,cE,if_true]
   by_cases aB:aL=9223372036854775808
   ·subst aB;rfl
   ·have a:(((aL:Nat):Int) == 9223372036854775808)=false:=by simp only [beq_eq_false_iff_ne,ne_eq];omega
    rw [a,cond_false]
    by_cases a0:((aL:Nat):Int)≥9223372036854775808
    ·simp only [a0,decide_true,cond_true]
     rw [if_neg (by omega)]
    ·simp only [a0,decide_false,cond_false]
     rw [if_pos (by omega),wrap_i64 (I:=(aL:Int)) (by omega) (by omega),wrap_i64 (by omega) (by omega)]
     congr 1;omega
 ·rw [if_neg Z]
  simp only [Bool.not_false,cond_true]
  rw [if_neg]
  unfold cE;cases N <;> simp <;> omega
theorem IE(N:Bool)(T:List Nat):iW.v N T=decide (eJ (N,T)):=nD N T
theorem IF(N:Bool)(aL:Nat):gZ.v N aL=fP (bL (N,aL)):=by
 unfold gZ.v gZ.F.v
 rw [k3]
 have aJ:=FD aL
 by_cases Z:(aE aL).length≤8192
 ·have:decide (((D.aE aL).length:Int) > 16384)=false:=decide_eq_false (by have:=aJ.mpr Z;omega)
  rw [this,cond_false,AQ (by unfold nY;rw [kO];exact Z)];rfl
 ·have:decide (((D.aE aL).length:Int) > 16384)=true:=decide_eq_true (by have:=mt aJ.mp Z;omega)
  rw [this,cond_true,AR (by unfold nY;rw [kO];exact Z)];rfl
section
variable {a N:U} {L bH l m aL bA:Nat} {T u:List Nat} {Z:V} {I aN:Int} {z o:Bool}
theorem jV.aY(s:cB b2 Z a L (D.aE aL))(J:l=(D.aE aL).length):aF jV.id #[.agg #[.bool z,.slice a l L]] Z fun v A=>a4 Z A∧c3 .i64 Z A v (gA (bL (z,aL)) 0):=by rw [← DY];exact jV.aU s J
theorem h2.aY(s:cB b2 Z a L (D.aE aL))(J:l=(D.aE aL).length):aF h2.id #[.agg #[.bool z,.slice a l L]] Z fun v A=>a4 Z A∧fC Z A v (b5 (-bL (z,aL))):=by rw [← Iw];exact h2.aU s J
theorem k2.aY(s:cB b2 Z a L (D.aE aL))(J:l=(D.aE aL).length)(O:cB b2 Z N bH (D.aE bA))(a9:m=(D.aE bA).length)(b:(D.aE aL).length≤1000000)(c:(D.aE bA).length≤1000000):aF k2.id #[.agg #[.bool z,.slice a l L],.agg #[.bool o,.slice N m bH]] Z fun v A=>a4 Z A∧fC Z A v (b5 (bL (z,aL)+bL (o,bA))):=by rw [← Iy];exact k2.aU s J b O a9 c
theorem oN.aY(s:cB b2 Z a L (D.aE aL))(J:l=(D.aE aL).length)(O:cB b2 Z N bH (D.aE bA))(a9:m=(D.aE bA).length)(b:(D.aE aL).length≤1000000)(c:(D.aE bA).length≤1000000):aF oN.id #[.agg #[.bool z,.slice a l L],.agg #[.bool o,.slice N m bH]] Z fun v A=>a4 Z A∧fC Z A v (b5 (bL (z,aL)*bL (o,bA))):=by rw [← Iz];exact oN.aU s J b O a9 c
theorem nF.aY(s:cB b2 Z a L (D.aE aL))(J:l=(D.aE aL).length)(Q:In .i64 I)(b:(D.aE aL).length≤1000000)(c:0≤I)(d:I≤35184372088832∨gA (bL (z,aL)) 0=0):aF nF.id #[.agg #[.bool z,.slice a l L],.int .i64 I] Z fun v A=>a4 Z A∧fC Z A v (b5 (bL (z,aL)*2 ^ I.toNat)):=by rw [← IA];exact nF.aU s J b Q c (d.imp (fun b3=>b3) fun b3=>by
  have:(gA (bL (z,aL)) 0 == 0)=true:=by rw [b3];rfl
  rw [AW] at this
  exact tY.mp (of_decide_eq_true this))
theorem nG.aY(s:cB b2 Z a L (D.aE aL))(J:l=(D.aE aL).length)(O:cB b2 Z N bH (D.aE bA))(a9:m=(D.aE bA).length)(b:(D.aE aL).length≤1000000)(c:(D.aE bA).length≤1000000):aF nG.id #[.agg #[.bool z,.slice a l L],.agg #[.bool o,.slice N m bH]] Z fun v A=>a4 Z A∧s2 fC fC Z A v (k1 (bL (z,aL)) (bL (o,bA))):=by rw [← IB];exact nG.aU s J b O a9 c
theorem oO.aY(s:cB b2 Z a L (D.aE aL))(J:l=(D.aE aL).length):aF oO.id #[.agg #[.bool z,.slice a l L]] Z fun v A=>a4 Z A∧h0 Z A v (decide (aL % 2=0)):=by rw [← IC z];exact oO.aU s J
theorem n1.aY(s:cB b2 Z a L (D.aE aL))(J:l=(D.aE aL).length):aF n1.id #[.agg #[.bool z,.slice a l L]] Z fun v A=>a4 Z A∧s2 (c3 .i64) h0 Z A v (vN (bL (z,aL))):=by rw [← ID];exact n1.aU s J
theorem iW.aY(s:bJ Z a L T)(J:l=T.length):aF iW.id #[.agg #[.bool z,.slice a l L]] Z fun v A=>a4 Z A∧h0 Z A v (decide (eJ (z,T))):=by rw [← IE];exact iW.aU s J
theorem gZ.aY(s:cB b2 Z a L (D.aE aL))(J:l=(D.aE aL).length):aF gZ.id #[.agg #[.bool z,.slice a l L]] Z fun v A=>a4 Z A∧s2 dZ (c3 .i64) Z A v (fP (bL (z,aL))):=by rw [← IF];exact gZ.aU s J
end
namespace k4
def F.v(a:Bool)(b:Nat)(aT:Bool)(c:Nat):(Bool × Nat):=
 bY (b5 (-bL (aT,c))) fun c=>
 bY (b5 (bL (a,b)+bL (c.1,c.2))) fun a=>
 (a.1,a.2)
theorem F.aU{Y:K}{aB Z:V}(aR:a4 aB Z){l:Bool}{K5:U}{K6 K7:Nat}{b:Nat}(Le:cB b2 Z K5 K6 (D.aE b))(Lf:K7=(D.aE b).length)(Lu:(D.aE b).length≤1000000){aT:Bool}{K8:U}{K9 La:Nat}{c:Nat}(Lg:cB b2 Z K8 K9 (D.aE c))(Lh:La=(D.aE c).length)(Lv:(D.aE c).length≤1000000)(g:dS fC aB Y (F.v l b aT c)):F.t Y l K5 K7 K6 aT K8 La K9 Z:=by
 subst Lf Lh
 have Lw:(D.aE 0).length=0:=by simp [D.dM]
 unfold F.v at g
 unfold F.t
 refine cK fun Lx d e=>?_
 have Ly:=aR.le
 have Li:=d.lt
 have Lb:=e.aD
 refine cK fun Lj f h=>?_
 have Lz:=(aR.trans e).le
 have Lk:=f.lt
 have G:=h.aD
 refine cK fun Ll a i=>?_
 have a:cR Ll (Lj.size) [.bool false,.slice none (D.aE 0).length 0]:=by rw [D.dM];exact a
 have Lc:=((aR.trans e).trans h).le
 have LA:=a.lt
 have m:=i.aD
 have d:=((d.B h).B i)
 refine⟨eY rfl ((G.trans m).lt Li),?_⟩
 refine aI d (w _ _) rfl (aO rfl ?_)
 refine aI d (w _ _) rfl (k rfl ?_)
 have f:=(f.B i)
 refine⟨eY rfl ((m).lt Lk),?_⟩
 refine aI f (w _ _) rfl (aO rfl ?_)
 refine aI f (w _ _) rfl (k rfl ?_)
 refine bF (h2.aY (Lg.aD (Lb.trans (G.trans m))) rfl) fun v LB ⟨j,O⟩=>?_
 obtain⟨n,H⟩:∃ z,z=b5 (-bL (aT,c)):=⟨_,rfl⟩
 rw [← H] at O
 replace g:=cC H g
 have Lm:=qN aT c
 rw [← H] at Lm
 obtain⟨LC,LD,rfl,Ln⟩:=O
 refine bZ rfl (aM (aO rfl (aM (k rfl (bP (?_))))))
 have Ld:=j.aD
 refine⟨j.c1 (Nat.le_refl _),?_⟩
 refine bF (k2.aY (Le.aD (Lb.trans (G.trans (m.trans Ld)))) rfl Ln.rd rfl (by first | assumption | decide | omega) (by first | assumption | decide | omega)) fun v LF ⟨E,O⟩=>?_
 obtain⟨LG,P⟩:∃ z,z=b5 (bL (l,b)+bL (n.1,n.2)):=⟨_,rfl⟩
 rw [← P] at O
 replace g:=cC P g
 have Lo:=y1 l b n.1 n.2
 rw [← P] at Lo
 obtain⟨LH,LI,rfl,Lp⟩:=O
 refine bZ rfl (aM (aO rfl (aM (k rfl (bP (?_))))))
 have LJ:=E.aD
 refine⟨E.c1 (Ld).le,?_⟩
 have a:=((a.B j).B E)
 refine bK a (w _ _) rfl fun LK a Lq Lr=>?_
 refine bK a (w _ _) rfl fun LL a Ls Lt=>?_
 refine aI a (w _ _) rfl (aO rfl ?_)
 refine aI a (w _ _) rfl (k rfl ?_)
 exact g _ _ (a1.B (a1.B (((((aR.trans e).trans h).trans i).trans j).trans E) Lq Lc) Ls Lc) ⟨_,_,rfl,((Lp.aD (Lr.trans Lt)).from ((((aR.trans e).trans h).trans i).trans j).le)⟩
def v(a:Bool)(b:Nat)(aT:Bool)(c:Nat):(Bool × Nat):=F.v a b aT c
theorem aU{Z:V}{a:Bool}{b:U}{c d:Nat}{e:Nat}(f:cB b2 Z b c (D.aE e))(g:d=(D.aE e).length)(h:(D.aE e).length≤1000000){aT:Bool}{i:U}{j l:Nat}{m:Nat}(n:cB b2 Z i j (D.aE m))(t:l=(D.aE m).length)(E:(D.aE m).length≤1000000):aF id #[.agg #[.bool a,.slice b d c],.agg #[.bool aT,.slice i l j]] Z fun b c=>a4 Z c∧fC Z c b (v a e aT m):=
 ok (F.aU (a4.refl _) f g h n t E fun v A M O=>⟨M,O⟩)
end k4
namespace lN
def aC.v(cU:Bool)(a:Nat)(b:Bool)(c:Nat)(d:Bool)(d:Nat):(Bool × Nat):=
 bY (k1 (bL (cU,a)) (bL (b,c))) fun a=>
 (a.1.1,a.1.2)
theorem aC.aU{Y:K}{aB Z:V}(aR:a4 aB Z){cU:Bool}{Lc:U}{Ld:Nat}{d:Nat}(Ln:cB b2 Z Lc Ld (D.aE d))(LD:(D.aE d).length≤700000){f:Nat}(K5:cR Z f [.bool cU,.slice Lc (D.aE d).length Ld])(LF:aB.size≤f){h:Bool}{Le:U}{Lf:Nat}{e:Nat}(Lo:cB b2 Z Le Lf (D.aE e))(LG:(D.aE e).length≤700000){i:Nat}(K6:cR Z i [.bool h,.slice Le (D.aE e).length Lf])(LH:aB.size≤i){Lg:Bool}{Lh:U}{Li:Nat}{l:Nat}(LI:cB b2 Z Lh Li (D.aE l))(LJ:(D.aE l).length≤700000){dT:Nat}(b:cR Z dT [.bool Lg,.slice Lh (D.aE l).length Li])(Lj:aB.size≤dT)(LK:f ≠ i)(LL:f ≠ dT)(LM:i ≠ dT)(g:dS fC aB Y (aC.v cU d h e Lg l)):aC.t Y (⟨f,0,none⟩:Addr) (⟨i,0,none⟩:Addr) (⟨dT,0,none⟩:Addr) Z:=by
 have LN:=K5.lt
 have LO:=K6.lt
 have m:=b.lt
 have LP:(D.aE 0).length=0:=by simp [D.dM]
 unfold aC.v at g
 unfold aC.t
 refine aI K5 (w _ _) rfl (aO rfl ?_)
 refine aI K5 (w _ _) rfl (k rfl ?_)
 refine aI K6 (w _ _) rfl (aO rfl ?_)
 refine aI K6 (w _ _) rfl (k rfl ?_)
 refine bF (nG.aY Ln rfl Lo rfl (by first | assumption | decide | omega) (by first | assumption | decide | omega)) fun v Lp ⟨j,O⟩=>?_
 obtain⟨LQ,n⟩:∃ z,z=k1 (bL (cU,d)) (bL (h,e)):=⟨_,rfl⟩
 rw [← n] at O
 replace g:=cC n g
 have Lq:=DU cU d h e
 rw [← n] at Lq
 have Lr:=DV cU d h e
 rw [← n] at Lr
 obtain⟨_,_,rfl,⟨LR,LS,rfl,Ls⟩,⟨LU,LV,rfl,LW⟩⟩:=O
 refine dP rfl (aM (bZ rfl (aM (aO rfl (aM (k rfl (bP (aM (bZ rfl (aM (aO rfl (aM (k rfl (bP (bP (?_))))))))))))))))
 have E:=j.aD
 refine cK fun Lk a G=>?_
 have a:cR Lk (Lp.size) [.bool false,.slice none (D.aE 0).length 0]:=by rw [D.dM];exact a
 have Ll:=(aR.trans j).le
 have H:=a.lt
 have K7:=G.aD
 refine cK fun Lt c P=>?_
 have c:cR Lt (Lk.size) [.bool false,.slice none (D.aE 0).length 0]:=by rw [D.dM];exact c
 have Lm:=((aR.trans j).trans G).le
 have LX:=c.lt
 have Lu:=P.aD
 have a:=(a.B P)
 refine bK a (w _ _) rfl fun LY a K8 Lv=>?_
 refine bK a (w _ _) rfl fun LZ a K9 Lw=>?_
 have c:=((c.bT (Ne.symm (Nat.ne_of_lt H)) K8).bT (Ne.symm (Nat.ne_of_lt H)) K9)
 refine bK c (w _ _) rfl fun L0 c La Lx=>?_
 refine bK c (w _ _) rfl fun L1 c Lb Ly=>?_
 have a:=((a.bT (Nat.ne_of_lt H) La).bT (Nat.ne_of_lt H) Lb)
 refine aI a (w _ _) rfl (aO rfl ?_)
 refine aI a (w _ _) rfl (k rfl ?_)
 have b:=(((((((b.B j).B G).B P).bT (Nat.ne_of_lt ((E).lt m)) K8).bT (Nat.ne_of_lt ((E).lt m)) K9).bT (Nat.ne_of_lt ((E.trans K7).lt m)) La).bT (Nat.ne_of_lt ((E.trans K7).lt m)) Lb)
 refine bK b (w _ _) rfl fun L2 b Lz LA=>?_
 refine bK b (w _ _) rfl fun L3 b LB LC=>?_
 refine aI b (w _ _) rfl (aO rfl ?_)
 refine aI b (w _ _) rfl (k rfl ?_)
 exact g _ _ (a1.B (a1.B (a1.B (a1.B (a1.B (a1.B (((aR.trans j).trans G).trans P) K8 Ll) K9 Ll) La Lm) Lb Lm) Lz Lj) LB Lj) ⟨_,_,rfl,((Ls.aD (K7.trans (Lu.trans (Lv.trans (Lw.trans (Lx.trans (Ly.trans (LA.trans LC)))))))).from aR.le)⟩
def F.v(a:Bool)(b:Nat)(aT:Bool)(c:Nat):(Bool × Nat):=
 bif aT then
  bY (b5 (-bL (a,b))) fun d=>
  bY (b5 (-bL (aT,c))) fun e=>
  aC.v d.1 d.2 e.1 e.2 false 0
 else
  aC.v a b aT c false 0
theorem F.aU{Y:K}{aB Z:V}(aR:a4 aB Z){H:Bool}{Ld:U}{Le Lf:Nat}{f:Nat}(Lg:cB b2 Z Ld Le (D.aE f))(Lr:Lf=(D.aE f).length)(LB:(D.aE f).length≤150000){aT:Bool}{Lh:U}{Li Lj:Nat}{h:Nat}(Lk:cB b2 Z Lh Li (D.aE h))(Ls:Lj=(D.aE h).length)(LC:(D.aE h).length≤150000)(g:dS fC aB Y (F.v H f aT h)):F.t Y H Ld Lf Le aT Lh Lj Li Z:=by
 subst Lr Ls
 have LD:(D.aE 0).length=0:=by simp [D.dM]
 unfold F.v at g
 unfold F.t
 refine cK fun LF a E=>?_
 have P:=aR.le
 have c:=a.lt
 have K5:=E.aD
 refine cK fun Lt b i=>?_
 have K6:=(aR.trans E).le
 have G:=b.lt
 have d:=i.aD
 refine cK fun Lu e j=>?_
 have e:cR Lu (Lt.size) [.bool false,.slice none (D.aE 0).length 0]:=by rw [D.dM];exact e
 have Ll:=((aR.trans E).trans i).le
 have LG:=e.lt
 have l:=j.aD
 have b:=(b.B j)
 refine aI b (w _ _) rfl (aO rfl ?_)
 refine iR g (fun Lv g=>?_) (fun Lv g=>?_)
 ·have a:=((a.B i).B j)
  refine⟨eY rfl ((d.trans l).lt c),?_⟩
  refine aI a (w _ _) rfl (aO rfl ?_)
  refine aI a (w _ _) rfl (k rfl ?_)
  refine bF (h2.aY (Lg.aD (K5.trans (d.trans l))) rfl) fun v LH ⟨m,O⟩=>?_
  obtain⟨LI,K7⟩:∃ z,z=b5 (-bL (H,f)):=⟨_,rfl⟩
  rw [← K7] at O
  replace g:=cC K7 g
  have Lw:=qN H f
  rw [← K7] at Lw
  obtain⟨LJ,LK,rfl,Lx⟩:=O
  refine bZ rfl (aM (aO rfl (aM (k rfl (bP (?_))))))
  have Lm:=m.aD
  refine⟨m.c1 (Nat.le_refl _),?_⟩
  have b:=(b.B m)
  refine⟨eY rfl ((l).lt G),?_⟩
  refine aI b (w _ _) rfl (aO rfl ?_)
  refine aI b (w _ _) rfl (k rfl ?_)
  refine bF (h2.aY (Lk.aD (K5.trans (d.trans (l.trans Lm)))) rfl) fun v LL ⟨n,O⟩=>?_
  obtain⟨LM,K8⟩:∃ z,z=b5 (-bL (aT,h)):=⟨_,rfl⟩
  rw [← K8] at O
  replace g:=cC K8 g
  have Ly:=qN aT h
  rw [← K8] at Ly
  obtain⟨LN,LO,rfl,Lz⟩:=O
  refine bZ rfl (aM (aO rfl (aM (k rfl (bP (?_))))))
  have LA:=n.aD
  refine⟨n.c1 (Lm).le,?_⟩
  have a:=((a.B m).B n)
  refine bK a (w _ _) rfl fun LP a K9 Ln=>?_
  refine bK a (w _ _) rfl fun LQ a La Lo=>?_
  have b:=(((b.B n).bT (Ne.symm (Nat.ne_of_lt c)) K9).bT (Ne.symm (Nat.ne_of_lt c)) La)
  refine bK b (w _ _) rfl fun LR b Lb Lp=>?_
  refine bK b (w _ _) rfl fun LS b Lc Lq=>?_
  have a:=((a.bT (Nat.ne_of_lt c) Lb).bT (Nat.ne_of_lt c) Lc)
  have e:=((((((e.B m).B n).bT (Ne.symm (Nat.ne_of_lt ((d).lt c))) K9).bT (Ne.symm (Nat.ne_of_lt ((d).lt c))) La).bT (Ne.symm (Nat.ne_of_lt G)) Lb).bT (Ne.symm (Nat.ne_of_lt G)) Lc)
  exact aC.aU (a1.B (a1.B (a1.B (a1.B (((((aR.trans E).trans i).trans j).trans m).trans n) K9 P) La P) Lb K6) Lc K6) (Lx.aD (LA.trans (Ln.trans (Lo.trans (Lp.trans Lq))))).rd (by first | assumption | decide | omega) a P (Lz.aD (Ln.trans (Lo.trans (Lp.trans Lq)))).rd (by first | assumption | decide | omega) b K6 (yZ _ _ _) (by first | assumption | decide | omega) e Ll (Nat.ne_of_lt c) (Nat.ne_of_lt ((d).lt c)) (Nat.ne_of_lt G) g
 have a:=((a.B i).B j)
 exact aC.aU (((aR.trans E).trans i).trans j) (Lg.aD (K5.trans (d.trans l))) (by first | assumption | decide | omega) a P (Lk.aD (K5.trans (d.trans l))) (by first | assumption | decide | omega) b K6 (yZ _ _ _) (by first | assumption | decide | omega) e Ll (Nat.ne_of_lt c) (Nat.ne_of_lt ((d).lt c)) (Nat.ne_of_lt G) g
def v(a:Bool)(b:Nat)(aT:Bool)(c:Nat):(Bool × Nat):=F.v a b aT c
theorem aU{Z:V}{a:Bool}{b:U}{c d:Nat}{e:Nat}(f:cB b2 Z b c (D.aE e))(g:d=(D.aE e).length)(h:(D.aE e).length≤150000){aT:Bool}{i:U}{j l:Nat}{m:Nat}(n:cB b2 Z i j (D.aE m))(t:l=(D.aE m).length)(E:(D.aE m).length≤150000):aF id #[.agg #[.bool a,.slice b d c],.agg #[.bool aT,.slice i l j]] Z fun b c=>a4 Z c∧fC Z c b (v a e aT m):=
 ok (F.aU (a4.refl _) f g h n t E fun v A M O=>⟨M,O⟩)
end lN
theorem IG(N L:Bool)(aL bA:Nat):k4.v N aL L bA=b5 (bL (N,aL) - bL (L,bA)):=by
 unfold k4.v k4.F.v
 simp only [bY]
 have J:bL ((b5 (-bL (L,bA))).1,(b5 (-bL (L,bA))).2)=-bL (L,bA):=pK _
 rw [J,← Int.sub_eq_add_neg]
theorem IH(a N:Int):((k1 a N).1.1,(k1 a N).1.2)=if N≤0 then(false,0) else b5 (e4 a N):=by
 unfold k1;split
 ·rfl
 ·rename_i Z;rw [A0 (by omega)]
theorem A2:b5 0=(false,0):=rfl
theorem II(N L:Bool)(aL bA:Nat):lN.v N aL L bA=b5 (e4 (bL (N,aL)) (bL (L,bA))):=by
 unfold lN.v lN.F.v lN.aC.v
 simp only [bY]
 have a:bL ((b5 (-bL (N,aL))).1,(b5 (-bL (N,aL))).2)=-bL (N,aL):=pK _
 have b:bL ((b5 (-bL (L,bA))).1,(b5 (-bL (L,bA))).2)=-bL (L,bA):=pK _
 simp only [a,b,IH]
 cases L
 ·rw [cond_false]
  split
  ·rename_i Z
   have:bL (false,bA)=0:=by rw [k3] at Z ⊢;unfold cE at *;simp at Z ⊢;omega
   rw [this];unfold e4;simp [A2]
  ·rfl
 ·rw [cond_true]
  split
  ·rename_i Z
   have:bL (true,bA)=0:=by rw [k3] at Z ⊢;unfold cE at *;simp at Z ⊢;omega
   rw [this];unfold e4;simp [A2]
  ·rename_i Z
   have aB:bL (true,bA) < 0:=by omega
   rw [HE aB]
section
variable {a N:U} {L bH l m aL bA:Nat} {T u:List Nat} {Z:V} {I aN:Int} {z o:Bool}
theorem k4.aY(s:cB b2 Z a L (D.aE aL))(J:l=(D.aE aL).length)(O:cB b2 Z N bH (D.aE bA))(a9:m=(D.aE bA).length)(b:(D.aE aL).length≤1000000)(c:(D.aE bA).length≤1000000):aF k4.id #[.agg #[.bool z,.slice a l L],.agg #[.bool o,.slice N m bH]] Z fun v A=>a4 Z A∧fC Z A v (b5 (bL (z,aL) - bL (o,bA))):=by rw [← IG];exact k4.aU s J b O a9 c
theorem lN.aY(s:cB b2 Z a L (D.aE aL))(J:l=(D.aE aL).length)(O:cB b2 Z N bH (D.aE bA))(a9:m=(D.aE bA).length)(b:(D.aE aL).length≤150000)(c:(D.aE bA).length≤150000):aF lN.id #[.agg #[.bool z,.slice a l L],.agg #[.bool o,.slice N m bH]] Z fun v A=>a4 Z A∧fC Z A v (b5 (e4 (bL (z,aL)) (bL (o,bA)))):=by rw [← II];exact lN.aU s J b O a9 c
end
namespace nH
def F.v(a:Bool)(b:Nat)(aT:Bool)(c:Nat):Int:=
 bY (b5 (bL (a,b) - bL (aT,c))) fun a=>
 (gA (bL (a.1,a.2)) 0)
theorem F.aU{Y:K}{aB Z:V}(aR:a4 aB Z){d:Bool}{j:U}{l m:Nat}{a:Nat}(K7:cB b2 Z j l (D.aE a))(K8:m=(D.aE a).length)(Le:(D.aE a).length≤700000){aT:Bool}{n:U}{E G:Nat}{b:Nat}(K9:cB b2 Z n E (D.aE b))(La:G=(D.aE b).length)(Lf:(D.aE b).length≤700000)(g:dS (c3 .i64) aB Y (F.v d a aT b)):F.t Y d j m l aT n G E Z:=by
 subst K8 La
 have Lg:(D.aE 0).length=0:=by simp [D.dM]
 unfold F.v at g
 unfold F.t
 refine cK fun Lh c e=>?_
 have Li:=aR.le
 have Lj:=c.lt
 have H:=e.aD
 refine cK fun Lk f h=>?_
 have Ll:=(aR.trans e).le
 have Lm:=f.lt
 have P:=h.aD
 have c:=(c.B h)
 refine aI c (w _ _) rfl (aO rfl ?_)
 refine aI c (w _ _) rfl (k rfl ?_)
 refine aI f (w _ _) rfl (aO rfl ?_)
 refine aI f (w _ _) rfl (k rfl ?_)
 refine bF (k4.aY (K7.aD (H.trans P)) rfl (K9.aD (H.trans P)) rfl (by first | assumption | decide | omega) (by first | assumption | decide | omega)) fun v Ln ⟨K5,O⟩=>?_
 obtain⟨Lo,i⟩:∃ z,z=b5 (bL (d,a) - bL (aT,b)):=⟨_,rfl⟩
 rw [← i] at O
 replace g:=cC i g
 have Lb:=y2 d a aT b
 rw [← i] at Lb
 obtain⟨Lp,Lq,rfl,Lc⟩:=O
 refine bZ rfl (aM (aO rfl (aM (k rfl (bP (?_))))))
 have Lr:=K5.aD
 refine bF (jV.aY Lc.rd rfl) fun v Ls ⟨K6,O⟩=>?_
 obtain⟨rfl,Ld⟩:=O
 refine bI rfl (?_)
 have Lt:=K6.aD
 exact g _ _ ((((aR.trans e).trans h).trans K5).trans K6) ⟨rfl,Ld⟩
def v(a:Bool)(b:Nat)(aT:Bool)(c:Nat):Int:=F.v a b aT c
theorem aU{Z:V}{a:Bool}{b:U}{c d:Nat}{e:Nat}(f:cB b2 Z b c (D.aE e))(g:d=(D.aE e).length)(h:(D.aE e).length≤700000){aT:Bool}{i:U}{j l:Nat}{m:Nat}(n:cB b2 Z i j (D.aE m))(t:l=(D.aE m).length)(E:(D.aE m).length≤700000):aF id #[.agg #[.bool a,.slice b d c],.agg #[.bool aT,.slice i l j]] Z fun b c=>a4 Z c∧(c3 .i64) Z c b (v a e aT m):=
 ok (F.aU (a4.refl _) f g h n t E fun v A M O=>⟨M,O⟩)
end nH
namespace oP
def F.v(a:Bool)(b:Nat)(aT:Bool)(c:Nat):(Bool × Nat):=
 bY (b5 (-bL (a,b))) fun a=>
 bY (b5 (e4 (bL (a.1,a.2)) (bL (aT,c)))) fun a=>
 bY (b5 (-bL (a.1,a.2))) fun a=>
 (a.1,a.2)
theorem F.aU{Y:K}{aB Z:V}(aR:a4 aB Z){m:Bool}{K9:U}{La Lb:Nat}{b:Nat}(Lh:cB b2 Z K9 La (D.aE b))(Li:Lb=(D.aE b).length)(LA:(D.aE b).length≤100000){aT:Bool}{Lc:U}{Ld Le:Nat}{c:Nat}(Lj:cB b2 Z Lc Ld (D.aE c))(Lk:Le=(D.aE c).length)(LB:(D.aE c).length≤100000)(g:dS fC aB Y (F.v m b aT c)):F.t Y m K9 Lb La aT Lc Le Ld Z:=by
 subst Li Lk
 have LC:(D.aE 0).length=0:=by simp [D.dM]
 unfold F.v at g
 unfold F.t
 refine cK fun LD e f=>?_
 have LF:=aR.le
 have Ll:=e.lt
 have Lf:=f.aD
 refine cK fun Lm h i=>?_
 have LG:=(aR.trans f).le
 have Ln:=h.lt
 have P:=i.aD
 refine cK fun Lo a j=>?_
 have a:cR Lo (Lm.size) [.bool false,.slice none (D.aE 0).length 0]:=by rw [D.dM];exact a
 have Lg:=((aR.trans f).trans i).le
 have LH:=a.lt
 have n:=j.aD
 have e:=((e.B i).B j)
 refine⟨eY rfl ((P.trans n).lt Ll),?_⟩
 refine aI e (w _ _) rfl (aO rfl ?_)
 refine aI e (w _ _) rfl (k rfl ?_)
 refine bF (h2.aY (Lh.aD (Lf.trans (P.trans n))) rfl) fun v LI ⟨d,O⟩=>?_
 obtain⟨E,K5⟩:∃ z,z=b5 (-bL (m,b)):=⟨_,rfl⟩
 rw [← K5] at O
 replace g:=cC K5 g
 have Lp:=qN m b
 rw [← K5] at Lp
 obtain⟨LJ,LK,rfl,Lq⟩:=O
 refine bZ rfl (aM (aO rfl (aM (k rfl (bP (?_))))))
 have K6:=d.aD
 refine⟨d.c1 (Nat.le_refl _),?_⟩
 have h:=((h.B j).B d)
 refine⟨eY rfl ((n).lt Ln),?_⟩
 refine aI h (w _ _) rfl (aO rfl ?_)
 refine aI h (w _ _) rfl (k rfl ?_)
 refine bF (lN.aY Lq.rd rfl (Lj.aD (Lf.trans (P.trans (n.trans K6)))) rfl (by first | assumption | decide | omega) (by first | assumption | decide | omega)) fun v LL ⟨l,O⟩=>?_
 obtain⟨G,K7⟩:∃ z,z=b5 (e4 (bL (E.1,E.2)) (bL (aT,c))):=⟨_,rfl⟩
 rw [← K7] at O
 replace g:=cC K7 g
 have Lr:=A1 E.1 E.2 aT c
 rw [← K7] at Lr
 obtain⟨LM,LN,rfl,Ls⟩:=O
 refine bZ rfl (aM (aO rfl (aM (k rfl (bP (?_))))))
 have Lt:=l.aD
 refine⟨l.c1 (K6).le,?_⟩
 refine bF (h2.aY Ls.rd rfl) fun v LO ⟨H,O⟩=>?_
 obtain⟨LP,K8⟩:∃ z,z=b5 (-bL (G.1,G.2)):=⟨_,rfl⟩
 rw [← K8] at O
 replace g:=cC K8 g
 have Lu:=qN G.1 G.2
 rw [← K8] at Lu
 obtain⟨LQ,LR,rfl,Lv⟩:=O
 refine bZ rfl (aM (aO rfl (aM (k rfl (bP (?_))))))
 have LS:=H.aD
 refine⟨H.c1 (K6.trans Lt).le,?_⟩
 have a:=(((a.B d).B l).B H)
 refine bK a (w _ _) rfl fun LU a Lw Lx=>?_
 refine bK a (w _ _) rfl fun LV a Ly Lz=>?_
 refine aI a (w _ _) rfl (aO rfl ?_)
 refine aI a (w _ _) rfl (k rfl ?_)
 exact g _ _ (a1.B (a1.B ((((((aR.trans f).trans i).trans j).trans d).trans l).trans H) Lw Lg) Ly Lg) ⟨_,_,rfl,((Lv.aD (Lx.trans Lz)).from (((((aR.trans f).trans i).trans j).trans d).trans l).le)⟩
def v(a:Bool)(b:Nat)(aT:Bool)(c:Nat):(Bool × Nat):=F.v a b aT c
theorem aU{Z:V}{a:Bool}{b:U}{c d:Nat}{e:Nat}(f:cB b2 Z b c (D.aE e))(g:d=(D.aE e).length)(h:(D.aE e).length≤100000){aT:Bool}{i:U}{j l:Nat}{m:Nat}(n:cB b2 Z i j (D.aE m))(t:l=(D.aE m).length)(E:(D.aE m).length≤100000):aF id #[.agg #[.bool a,.slice b d c],.agg #[.bool aT,.slice i l j]] Z fun b c=>a4 Z c∧fC Z c b (v a e aT m):=
 ok (F.aU (a4.refl _) f g h n t E fun v A M O=>⟨M,O⟩)
end oP
namespace oQ
def F.v(a:Bool)(b:Nat)(aT:Bool)(c:Nat):(Bool × Nat):=
 bY (b5 (e4 (bL (a,b)) (bL (aT,c)))) fun d=>
 bY (b5 (bL (aT,c)*bL (d.1,d.2))) fun c=>
 bY (b5 (bL (a,b) - bL (c.1,c.2))) fun a=>
 (a.1,a.2)
theorem F.aU{Y:K}{aB Z:V}(aR:a4 aB Z){h:Bool}{La:U}{Lb Lc:Nat}{b:Nat}(Ld:cB b2 Z La Lb (D.aE b))(Lm:Lc=(D.aE b).length)(LA:(D.aE b).length≤100000){aT:Bool}{Le:U}{Lf Lg:Nat}{c:Nat}(Lh:cB b2 Z Le Lf (D.aE c))(Ln:Lg=(D.aE c).length)(LB:(D.aE c).length≤100000)(g:dS fC aB Y (F.v h b aT c)):F.t Y h La Lc Lb aT Le Lg Lf Z:=by
 subst Lm Ln
 have LC:(D.aE 0).length=0:=by simp [D.dM]
 unfold F.v at g
 unfold F.t
 refine cK fun LD e j=>?_
 have LF:=aR.le
 have Li:=e.lt
 have G:=j.aD
 refine cK fun Lo f l=>?_
 have LG:=(aR.trans j).le
 have Lj:=f.lt
 have i:=l.aD
 refine cK fun Lp a m=>?_
 have a:cR Lp (Lo.size) [.bool false,.slice none (D.aE 0).length 0]:=by rw [D.dM];exact a
 have Lk:=((aR.trans j).trans l).le
 have LH:=a.lt
 have d:=m.aD
 have e:=((e.B l).B m)
 refine⟨eY rfl ((i.trans d).lt Li),?_⟩
 refine aI e (w _ _) rfl (aO rfl ?_)
 refine aI e (w _ _) rfl (k rfl ?_)
 have f:=(f.B m)
 refine⟨eY rfl ((d).lt Lj),?_⟩
 refine aI f (w _ _) rfl (aO rfl ?_)
 refine aI f (w _ _) rfl (k rfl ?_)
 refine⟨eY rfl ((i.trans d).lt Li),?_⟩
 refine aI e (w _ _) rfl (aO rfl ?_)
 refine aI e (w _ _) rfl (k rfl ?_)
 refine⟨eY rfl ((d).lt Lj),?_⟩
 refine aI f (w _ _) rfl (aO rfl ?_)
 refine aI f (w _ _) rfl (k rfl ?_)
 refine bF (lN.aY (Ld.aD (G.trans (i.trans d))) rfl (Lh.aD (G.trans (i.trans d))) rfl (by first | assumption | decide | omega) (by first | assumption | decide | omega)) fun v LI ⟨n,O⟩=>?_
 obtain⟨H,K7⟩:∃ z,z=b5 (e4 (bL (h,b)) (bL (aT,c))):=⟨_,rfl⟩
 rw [← K7] at O
 replace g:=cC K7 g
 have Lq:=A1 h b aT c
 rw [← K7] at Lq
 obtain⟨LJ,LK,rfl,Lr⟩:=O
 refine bZ rfl (aM (aO rfl (aM (k rfl (bP (?_))))))
 have P:=n.aD
 refine⟨n.c1 (Nat.le_refl _),?_⟩
 refine bF (oN.aY (Lh.aD (G.trans (i.trans (d.trans P)))) rfl Lr.rd rfl (by first | assumption | decide | omega) (by first | assumption | decide | omega)) fun v LL ⟨E,O⟩=>?_
 obtain⟨K5,K8⟩:∃ z,z=b5 (bL (aT,c)*bL (H.1,H.2)):=⟨_,rfl⟩
 rw [← K8] at O
 replace g:=cC K8 g
 have Ls:=DT aT c H.1 H.2
 rw [← K8] at Ls
 obtain⟨LM,LN,rfl,Lt⟩:=O
 refine bZ rfl (aM (aO rfl (aM (k rfl (bP (?_))))))
 have Ll:=E.aD
 refine⟨E.c1 (P).le,?_⟩
 refine bF (k4.aY (Ld.aD (G.trans (i.trans (d.trans (P.trans Ll))))) rfl Lt.rd rfl (by first | assumption | decide | omega) (by first | assumption | decide | omega)) fun v LO ⟨K6,O⟩=>?_
 obtain⟨LP,K9⟩:∃ z,z=b5 (bL (h,b) - bL (K5.1,K5.2)):=⟨_,rfl⟩
 rw [← K9] at O
 replace g:=cC K9 g
 have Lu:=y2 h b K5.1 K5.2
 rw [← K9] at Lu
 obtain⟨LQ,LR,rfl,Lv⟩:=O
 refine bZ rfl (aM (aO rfl (aM (k rfl (bP (?_))))))
 have LS:=K6.aD
 refine⟨K6.c1 (P.trans Ll).le,?_⟩
 have a:=(((a.B n).B E).B K6)
 refine bK a (w _ _) rfl fun LU a Lw Lx=>?_
 refine bK a (w _ _) rfl fun LV a Ly Lz=>?_
 refine aI a (w _ _) rfl (aO rfl ?_)
 refine aI a (w _ _) rfl (k rfl ?_)
 exact g _ _ (a1.B (a1.B ((((((aR.trans j).trans l).trans m).trans n).trans E).trans K6) Lw Lk) Ly Lk) ⟨_,_,rfl,((Lv.aD (Lx.trans Lz)).from (((((aR.trans j).trans l).trans m).trans n).trans E).le)⟩
def v(a:Bool)(b:Nat)(aT:Bool)(c:Nat):(Bool × Nat):=F.v a b aT c
theorem aU{Z:V}{a:Bool}{b:U}{c d:Nat}{e:Nat}(f:cB b2 Z b c (D.aE e))(g:d=(D.aE e).length)(h:(D.aE e).length≤100000){aT:Bool}{i:U}{j l:Nat}{m:Nat}(n:cB b2 Z i j (D.aE m))(t:l=(D.aE m).length)(E:(D.aE m).length≤100000):aF id #[.agg #[.bool a,.slice b d c],.agg #[.bool aT,.slice i l j]] Z fun b c=>a4 Z c∧fC Z c b (v a e aT m):=
 ok (F.aU (a4.refl _) f g h n t E fun v A M O=>⟨M,O⟩)
end oQ
namespace mP
def aC.v(aQ:Int)(cU:Bool)(a:Nat)(b:Bool)(b:Nat)(b:Bool)(c:Nat):(Bool × Nat):=
 bif cU then
  bY (a % 2 ^ (Int.toNat aQ)) fun a=>
  bif (decide (((((D.aE a).length:Nat):Int)) > (0:Int))) then
   bY (b5 (1:Int)) fun a=>
   bY (b5 (bL (b,c) - bL (a.1,a.2))) fun a=>
   (a.1,a.2)
  else
   (b,c)
 else
  (b,c)
theorem aC.aU{Y:K}{aB Z:V}(aR:a4 aB Z){aQ:Int}(Lh:In .i64 aQ){cU:Bool}{K8:U}{K9:Nat}{e:Nat}(Li:cB b2 Z K8 K9 (D.aE e))(Lx:(D.aE e).length≤700000){l:Nat}(H:cR Z l [.bool cU,.slice K8 (D.aE e).length K9])(Ly:aB.size≤l){La:Bool}{Lb:U}{Lc:Nat}{n:Nat}(Lz:cN b2 aB Z Lb Lc (D.aE n))(LA:(D.aE n).length≤700000){dT:Nat}(a:cR Z dT [.bool La,.slice Lb (D.aE n).length Lc])(f:aB.size≤dT){E:Bool}{Ld:U}{Le:Nat}{h:Nat}(P:cN b2 aB Z Ld Le (D.aE h))(LB:(D.aE h).length≤700000){gT:Nat}(b:cR Z gT [.bool E,.slice Ld (D.aE h).length Le])(LC:aB.size≤gT)(LD:l ≠ dT)(LF:l ≠ gT)(LG:dT ≠ gT)(LH:0≤aQ)(g:dS fC aB Y (aC.v aQ cU e La n E h)):aC.t Y aQ (⟨l,0,none⟩:Addr) (⟨dT,0,none⟩:Addr) (⟨gT,0,none⟩:Addr) Z:=by
 have LI:=H.lt
 have LJ:=a.lt
 have Lj:=b.lt
 have LK:(D.aE 0).length=0:=by simp [D.dM]
 unfold aC.v at g
 unfold aC.t
 refine aI H (w _ _) rfl (aO rfl ?_)
 refine iR g (fun Lk g=>?_) (fun Lk g=>?_)
 ·refine aI H (w _ _) rfl (k rfl ?_)
  refine bF (l0.aU Li rfl Lh (by first | assumption | decide | omega) (by first | assumption | decide | omega)) fun v Ll ⟨c,O⟩=>?_
  obtain⟨LL,K5⟩:∃ z,z=e % 2 ^ (Int.toNat aQ):=⟨_,rfl⟩
  rw [← K5] at O
  replace g:=cC K5 g
  have Lm:=qM (Nat.mod_le e (2 ^ (Int.toNat aQ)))
  rw [← K5] at Lm
  obtain⟨LM,LN,rfl,LO⟩:=O
  refine k rfl (?_)
  have m:=c.aD
  refine jC g (fun Ln g=>?_) (fun Ln g=>?_)
  ·have b:=(b.B c)
   refine⟨eY rfl ((m).lt Lj),?_⟩
   refine aI b (w _ _) rfl (aO rfl ?_)
   refine aI b (w _ _) rfl (k rfl ?_)
   refine bF (mO.aY (show In .i64 (1:Int) by decide)) fun v Lf ⟨d,O⟩=>?_
   obtain⟨G,K6⟩:∃ z,z=b5 (1:Int):=⟨_,rfl⟩
   rw [← K6] at O
   replace g:=cC K6 g
   have Lo:=AZ (show In .i64 (1:Int) by decide)
   rw [← K6] at Lo
   obtain⟨LP,LQ,rfl,Lp⟩:=O
   refine bZ rfl (aM (aO rfl (aM (k rfl (bP (?_))))))
   have i:=d.aD
   refine⟨d.c1 (Nat.le_refl _),?_⟩
   refine bF (k4.aY (P.aD (m.trans i)).rd rfl Lp.rd rfl (by first | assumption | decide | omega) (by first | assumption | decide | omega)) fun v Lq ⟨j,O⟩=>?_
   obtain⟨LR,K7⟩:∃ z,z=b5 (bL (E,h) - bL (G.1,G.2)):=⟨_,rfl⟩
   rw [← K7] at O
   replace g:=cC K7 g
   have Lr:=y2 E h G.1 G.2
   rw [← K7] at Lr
   obtain⟨LS,LU,rfl,Ls⟩:=O
   refine bZ rfl (aM (aO rfl (aM (k rfl (bP (?_))))))
   have Lg:=j.aD
   refine⟨j.c1 (i).le,?_⟩
   have a:=(((a.B c).B d).B j)
   refine bK a (w _ _) rfl fun LV a Lt Lu=>?_
   refine bK a (w _ _) rfl fun LW a Lv Lw=>?_
   refine aI a (w _ _) rfl (aO rfl ?_)
   refine aI a (w _ _) rfl (k rfl ?_)
   exact g _ _ (a1.B (a1.B (((aR.trans c).trans d).trans j) Lt f) Lv f) ⟨_,_,rfl,((Ls.aD (Lu.trans Lw)).from ((aR.trans c).trans d).le)⟩
  have b:=(b.B c)
  refine aI b (w _ _) rfl (aO rfl ?_)
  refine aI b (w _ _) rfl (k rfl ?_)
  have a:=(a.B c)
  refine bK a (w _ _) rfl fun Lf a d i=>?_
  refine bK a (w _ _) rfl fun Lq a j Lg=>?_
  refine aI a (w _ _) rfl (aO rfl ?_)
  refine aI a (w _ _) rfl (k rfl ?_)
  exact g _ _ (a1.B (a1.B (aR.trans c) d f) j f) ⟨_,_,rfl,(P.aD (m.trans (i.trans Lg)))⟩
 refine aI b (w _ _) rfl (aO rfl ?_)
 refine aI b (w _ _) rfl (k rfl ?_)
 refine bK a (w _ _) rfl fun Ll a c m=>?_
 refine bK a (w _ _) rfl fun Lf a d i=>?_
 refine aI a (w _ _) rfl (aO rfl ?_)
 refine aI a (w _ _) rfl (k rfl ?_)
 exact g _ _ (a1.B (a1.B aR c f) d f) ⟨_,_,rfl,(P.aD (m.trans i))⟩
def F.v(a:Bool)(b:Nat)(aQ:Int):(Bool × Nat):=
 bif (decide (aQ≤(0:Int))) then
  bY (b5 (cE a b)) fun c=>
  (c.1,c.2)
 else
  bY (b / 2 ^ (Int.toNat aQ)) fun c=>
  bY (b5 (cE a c)) fun c=>
  aC.v aQ a b false 0 c.1 c.2
theorem F.aU{Y:K}{aB Z:V}(aR:a4 aB Z){G:Bool}{Lt:U}{Lu Lv:Nat}{H:Nat}(Lb:cB b2 Z Lt Lu (D.aE H))(LB:Lv=(D.aE H).length)(LQ:(D.aE H).length≤150000){aQ:Int}(Ld:In .i64 aQ)(g:dS fC aB Y (F.v G H aQ)):F.t Y G Lt Lv Lu aQ Z:=by
 subst LB
 have LR:(D.aE 0).length=0:=by simp [D.dM]
 unfold F.v at g
 unfold F.t
 refine cK fun LC f m=>?_
 have Lj:=aR.le
 have j:=f.lt
 have Lc:=m.aD
 refine cK fun Lw e l=>?_
 have e:cR Lw (LC.size) [.bool false,.slice none (D.aE 0).length 0]:=by rw [D.dM];exact e
 have Le:=(aR.trans m).le
 have K6:=e.lt
 have h:=l.aD
 refine jC g (fun LD g=>?_) (fun LD g=>?_)
 ·have f:=(f.B l)
  refine aI f (w _ _) rfl (aO rfl ?_)
  refine aI f (w _ _) rfl (k rfl ?_)
  refine bF (fK.aY (Lb.aD (Lc.trans h)) rfl) fun v Lg ⟨b,O⟩=>?_
  obtain⟨LS,Lk⟩:∃ z,z=b5 (cE G H):=⟨_,rfl⟩
  rw [← Lk] at O
  replace g:=cC Lk g
  have LF:=k0 G H
  rw [← Lk] at LF
  obtain⟨LU,LV,rfl,LG⟩:=O
  refine bZ rfl (aM (aO rfl (aM (k rfl (bP (?_))))))
  have a:=b.aD
  have e:=(e.B b)
  refine bK e (w _ _) rfl fun Lf e c i=>?_
  refine bK e (w _ _) rfl fun Lh e d K7=>?_
  refine aI e (w _ _) rfl (aO rfl ?_)
  refine aI e (w _ _) rfl (k rfl ?_)
  exact g _ _ (a1.B (a1.B (((aR.trans m).trans l).trans b) c Le) d Le) ⟨_,_,rfl,((LG.aD (i.trans K7)).from ((aR.trans m).trans l).le)⟩
 have f:=(f.B l)
 refine⟨eY (w _ _) ((h).lt j),?_⟩
 refine aI f (w _ _) rfl (aO rfl ?_)
 refine⟨eY (w _ _) ((h).lt j),?_⟩
 refine aI f (w _ _) rfl (k rfl ?_)
 refine⟨?_,?_⟩
 ·refine bF (nW.aU (Lb.aD (Lc.trans h)) rfl Ld (by first | assumption | decide | omega)) fun v Lg ⟨b,O⟩=>?_
  obtain⟨Li,Ll⟩:∃ z,z=H / 2 ^ (Int.toNat aQ):=⟨_,rfl⟩
  rw [← Ll] at O
  replace g:=cC Ll g
  have LH:=qM (Nat.div_le_self H (2 ^ (Int.toNat aQ)))
  rw [← Ll] at LH
  obtain⟨LW,LX,rfl,Lx⟩:=O
  refine k rfl (?_)
  have a:=b.aD
  refine⟨b.c1 (Nat.le_refl _),?_⟩
  refine⟨?_,?_⟩
  ·refine bF (fK.aY Lx.rd rfl) fun v Lf ⟨c,O⟩=>?_
   obtain⟨LY,Lm⟩:∃ z,z=b5 (cE G Li):=⟨_,rfl⟩
   rw [← Lm] at O
   replace g:=cC Lm g
   have LI:=k0 G Li
   rw [← Lm] at LI
   obtain⟨LZ,L0,rfl,LJ⟩:=O
   refine bZ rfl (aM (aO rfl (aM (k rfl (bP (?_))))))
   have i:=c.aD
   refine⟨c.c1 (a).le,?_⟩
   refine cK fun Lh K8 d=>?_
   have K8:cR Lh (Lf.size) [.bool false,.slice none (D.aE 0).length 0]:=by rw [D.dM];exact K8
   have Ln:=((((aR.trans m).trans l).trans b).trans c).le
   have L1:=K8.lt
   have K7:=d.aD
   refine⟨d.c1 (a.trans i).le,?_⟩
   refine bK K8 (w _ _) rfl fun Ly K8 n K9=>?_
   refine bK K8 (w _ _) rfl fun Lz K8 E La=>?_
   have f:=(((((f.B b).B c).B d).bT (Nat.ne_of_lt ((h.trans (a.trans i)).lt j)) n).bT (Nat.ne_of_lt ((h.trans (a.trans i)).lt j)) E)
   have e:=(((((e.B b).B c).B d).bT (Nat.ne_of_lt ((a.trans i).lt K6)) n).bT (Nat.ne_of_lt ((a.trans i).lt K6)) E)
   exact aC.aU (a1.B (a1.B (((((aR.trans m).trans l).trans b).trans c).trans d) n Ln) E Ln) Ld (Lb.aD (Lc.trans (h.trans (a.trans (i.trans (K7.trans (K9.trans La))))))) (by first | assumption | decide | omega) f Lj (sF _ _) (by first | assumption | decide | omega) e Le ((LJ.aD (K7.trans (K9.trans La))).from (((aR.trans m).trans l).trans b).le) (by first | assumption | decide | omega) K8 Ln (Nat.ne_of_lt j) (Nat.ne_of_lt ((h.trans (a.trans i)).lt j)) (Nat.ne_of_lt ((a.trans i).lt K6)) (by first | assumption | decide | omega) g
  refine cK fun Lf P c=>?_
  have P:cR Lf (Lg.size) [.bool false,.slice none (D.aE 0).length 0]:=by rw [D.dM];exact P
  have Lo:=(((aR.trans m).trans l).trans b).le
  have L2:=P.lt
  have i:=c.aD
  refine⟨c.c1 (a).le,?_⟩
  refine bF (fK.aY (Lx.aD (i)).rd rfl) fun v Lh ⟨d,O⟩=>?_
  obtain⟨L3,Lp⟩:∃ z,z=b5 (cE G Li):=⟨_,rfl⟩
  rw [← Lp] at O
  replace g:=cC Lp g
  have LK:=k0 G Li
  rw [← Lp] at LK
  obtain⟨L4,L5,rfl,LL⟩:=O
  refine bZ rfl (aM (aO rfl (aM (k rfl (bP (?_))))))
  have K7:=d.aD
  refine⟨d.c1 (a.trans i).le,?_⟩
  have P:=(P.B d)
  refine bK P (w _ _) rfl fun Ly P n K9=>?_
  refine bK P (w _ _) rfl fun Lz P E La=>?_
  have f:=(((((f.B b).B c).B d).bT (Nat.ne_of_lt ((h.trans a).lt j)) n).bT (Nat.ne_of_lt ((h.trans a).lt j)) E)
  have e:=(((((e.B b).B c).B d).bT (Nat.ne_of_lt ((a).lt K6)) n).bT (Nat.ne_of_lt ((a).lt K6)) E)
  exact aC.aU (a1.B (a1.B (((((aR.trans m).trans l).trans b).trans c).trans d) n Lo) E Lo) Ld (Lb.aD (Lc.trans (h.trans (a.trans (i.trans (K7.trans (K9.trans La))))))) (by first | assumption | decide | omega) f Lj (sF _ _) (by first | assumption | decide | omega) e Le ((LL.aD (K9.trans La)).from ((((aR.trans m).trans l).trans b).trans c).le) (by first | assumption | decide | omega) P Lo (Nat.ne_of_lt j) (Nat.ne_of_lt ((h.trans a).lt j)) (Nat.ne_of_lt ((a).lt K6)) (by first | assumption | decide | omega) g
 refine cK fun Lg K5 b=>?_
 have K5:cR Lg (Lw.size) [.bool false,.slice none (D.aE 0).length 0]:=by rw [D.dM];exact K5
 have Lq:=((aR.trans m).trans l).le
 have L6:=K5.lt
 have a:=b.aD
 refine⟨b.c1 (Nat.le_refl _),?_⟩
 refine bF (nW.aU (Lb.aD (Lc.trans (h.trans a))) rfl Ld (by first | assumption | decide | omega)) fun v Lf ⟨c,O⟩=>?_
 obtain⟨LA,Lr⟩:∃ z,z=H / 2 ^ (Int.toNat aQ):=⟨_,rfl⟩
 rw [← Lr] at O
 replace g:=cC Lr g
 have LM:=qM (Nat.div_le_self H (2 ^ (Int.toNat aQ)))
 rw [← Lr] at LM
 obtain⟨L7,L8,rfl,LN⟩:=O
 refine k rfl (?_)
 have i:=c.aD
 refine⟨c.c1 (a).le,?_⟩
 refine bF (fK.aY LN.rd rfl) fun v Lh ⟨d,O⟩=>?_
 obtain⟨L9,Ls⟩:∃ z,z=b5 (cE G LA):=⟨_,rfl⟩
 rw [← Ls] at O
 replace g:=cC Ls g
 have LO:=k0 G LA
 rw [← Ls] at LO
 obtain⟨Ma,Mb,rfl,LP⟩:=O
 refine bZ rfl (aM (aO rfl (aM (k rfl (bP (?_))))))
 have K7:=d.aD
 refine⟨d.c1 (a.trans i).le,?_⟩
 have K5:=((K5.B c).B d)
 refine bK K5 (w _ _) rfl fun Ly K5 n K9=>?_
 refine bK K5 (w _ _) rfl fun Lz K5 E La=>?_
 have f:=(((((f.B b).B c).B d).bT (Nat.ne_of_lt ((h).lt j)) n).bT (Nat.ne_of_lt ((h).lt j)) E)
 have e:=(((((e.B b).B c).B d).bT (Nat.ne_of_lt K6) n).bT (Nat.ne_of_lt K6) E)
 exact aC.aU (a1.B (a1.B (((((aR.trans m).trans l).trans b).trans c).trans d) n Lq) E Lq) Ld (Lb.aD (Lc.trans (h.trans (a.trans (i.trans (K7.trans (K9.trans La))))))) (by first | assumption | decide | omega) f Lj (sF _ _) (by first | assumption | decide | omega) e Le ((LP.aD (K9.trans La)).from ((((aR.trans m).trans l).trans b).trans c).le) (by first | assumption | decide | omega) K5 Lq (Nat.ne_of_lt j) (Nat.ne_of_lt ((h).lt j)) (Nat.ne_of_lt K6) (by first | assumption | decide | omega) g
def v(a:Bool)(b:Nat)(aQ:Int):(Bool × Nat):=F.v a b aQ
theorem aU{Z:V}{a:Bool}{b:U}{c d:Nat}{e:Nat}(f:cB b2 Z b c (D.aE e))(g:d=(D.aE e).length)(h:(D.aE e).length≤150000){aQ:Int}(i:In .i64 aQ):aF id #[.agg #[.bool a,.slice b d c],.int .i64 aQ] Z fun b c=>a4 Z c∧fC Z c b (v a e aQ):=
 ok (F.aU (a4.refl _) f g h i fun v A M O=>⟨M,O⟩)
end mP
theorem IJ(Q C:Int):gA (Q - C) 0=gA Q C:=by
 unfold gA
 rcases Int.lt_trichotomy Q C with Z | Z | Z
 ·rw [if_pos (by omega),if_pos Z]
 ·rw [if_neg (by omega),if_pos (by omega),if_neg (by omega),if_pos Z]
 ·rw [if_neg (by omega),if_neg (by omega),if_neg (by omega),if_neg (by omega)]
theorem IK(N L:Bool)(aL bA:Nat):nH.v N aL L bA=gA (bL (N,aL)) (bL (L,bA)):=by
 unfold nH.v nH.F.v
 simp only [bY]
 rw [show bL ((b5 (bL (N,aL) - bL (L,bA))).1,(b5 (bL (N,aL) - bL (L,bA))).2)=bL (N,aL) - bL (L,bA) from pK _,IJ]
theorem IL(N L:Bool)(aL bA:Nat):oP.v N aL L bA=b5 (iL (bL (N,aL)) (bL (L,bA))):=by
 unfold oP.v oP.F.v
 simp only [bY]
 rw [show bL ((b5 (-bL (N,aL))).1,(b5 (-bL (N,aL))).2)=-bL (N,aL) from pK _]
 rw [show bL ((b5 (e4 (-bL (N,aL)) (bL (L,bA)))).1,(b5 (e4 (-bL (N,aL)) (bL (L,bA)))).2)=e4 (-bL (N,aL)) (bL (L,bA)) from pK _]
 rfl
theorem IM(N L:Bool)(aL bA:Nat):oQ.v N aL L bA=b5 (iV (bL (N,aL)) (bL (L,bA))):=by
 unfold oQ.v oQ.F.v
 simp only [bY]
 rw [show bL ((b5 (e4 (bL (N,aL)) (bL (L,bA)))).1,(b5 (e4 (bL (N,aL)) (bL (L,bA)))).2)=e4 (bL (N,aL)) (bL (L,bA)) from pK _]
 rw [show bL ((b5 (bL (L,bA)*e4 (bL (N,aL)) (bL (L,bA)))).1,(b5 (bL (L,bA)*e4 (bL (N,aL)) (bL (L,bA)))).2)=bL (L,bA)*e4 (bL (N,aL)) (bL (L,bA)) from pK _]
 rfl
theorem IN(a:Int):e4 a 1=a:=by unfold e4;rw [if_neg (by omega),Int.ediv_one]
theorem IP(N:Bool)(aL:Nat)(M:Int):mP.v N aL M=b5 (e4 (bL (N,aL)) (2 ^ M.toNat)):=by
 unfold mP.v mP.F.v
 simp only [bY]
 by_cases a:M≤0
 ·simp only [a,decide_true,cond_true]
  rw [show M.toNat=0 by omega,Int.pow_zero,IN];rfl
 ·simp only [a,decide_false,cond_false]
  unfold mP.aC.v
  generalize M.toNat=n
  rw [show bL (N,aL)=cE N aL from rfl,sE]
  have aJ:decide (((D.aE (aL % 2 ^ n)).length:Int) > 0)=decide (aL % 2 ^ n ≠ 0):=by
   rw [decide_eq_decide];have:=rI (aL % 2 ^ n);omega
  by_cases b:aL=0
  ·subst b
   simp only [Nat.zero_div,lJ,yV,Nat.zero_mod,A2,bY,(rI 0).mpr rfl]
   cases N <;> rfl
  ·rw [tW (yU n) fun _=>b,Bool.xor_false]
   cases N
   ·simp only [cond_false,Bool.false_eq_true,false_and,if_false]
   ·simp only [cond_true,bY,true_and]
    rw [aJ]
    by_cases c:aL % 2 ^ n=0
    ·simp only [c,ne_eq,not_true_eq_false,decide_false,cond_false,if_false]
    ·simp only [c,ne_eq,not_false_eq_true,decide_true,cond_true,if_true]
     rw [show bL ((b5 (cE true (aL / 2 ^ n))).1,(b5 (cE true (aL / 2 ^ n))).2)=cE true (aL / 2 ^ n) from pK _]
     rw [show bL ((b5 1).1,(b5 1).2)=1 from rfl]
     have:cE true (aL / 2 ^ n) - 1=cE true (aL / 2 ^ n+1):=by unfold cE;simp only [if_true];omega
     rw [this]
section
variable {a N:U} {L bH l m aL bA:Nat} {T u:List Nat} {Z:V} {I aN:Int} {z o:Bool}
theorem nH.aY(s:cB b2 Z a L (D.aE aL))(J:l=(D.aE aL).length)(O:cB b2 Z N bH (D.aE bA))(a9:m=(D.aE bA).length)(b:(D.aE aL).length≤700000)(c:(D.aE bA).length≤700000):aF nH.id #[.agg #[.bool z,.slice a l L],.agg #[.bool o,.slice N m bH]] Z fun v A=>a4 Z A∧c3 .i64 Z A v (gA (bL (z,aL)) (bL (o,bA))):=by rw [← IK];exact nH.aU s J b O a9 c
theorem oP.aY(s:cB b2 Z a L (D.aE aL))(J:l=(D.aE aL).length)(O:cB b2 Z N bH (D.aE bA))(a9:m=(D.aE bA).length)(b:(D.aE aL).length≤100000)(c:(D.aE bA).length≤100000):aF oP.id #[.agg #[.bool z,.slice a l L],.agg #[.bool o,.slice N m bH]] Z fun v A=>a4 Z A∧fC Z A v (b5 (iL (bL (z,aL)) (bL (o,bA)))):=by rw [← IL];exact oP.aU s J b O a9 c
theorem oQ.aY(s:cB b2 Z a L (D.aE aL))(J:l=(D.aE aL).length)(O:cB b2 Z N bH (D.aE bA))(a9:m=(D.aE bA).length)(b:(D.aE aL).length≤100000)(c:(D.aE bA).length≤100000):aF oQ.id #[.agg #[.bool z,.slice a l L],.agg #[.bool o,.slice N m bH]] Z fun v A=>a4 Z A∧fC Z A v (b5 (iV (bL (z,aL)) (bL (o,bA)))):=by rw [← IM];exact oQ.aU s J b O a9 c
theorem mP.aY(s:cB b2 Z a L (D.aE aL))(J:l=(D.aE aL).length)(Q:In .i64 I)(b:(D.aE aL).length≤150000):aF mP.id #[.agg #[.bool z,.slice a l L],.int .i64 I] Z fun v A=>a4 Z A∧fC Z A v (b5 (e4 (bL (z,aL)) (2 ^ I.toNat))):=by rw [← IP];exact mP.aU s J b Q
end
namespace nI
def F.v(a:Bool)(b:Nat)(aT:Bool)(c:Nat):(Bool × Nat):=
 bY (k1 (bL (a,b)) (bL (aT,c))) fun a=>
 bY (b5 (bL (a.2.1,a.2.2)*2 ^ (Int.toNat (1:Int)))) fun b=>
 bif (decide (((gA (bL (b.1,b.2)) (bL (aT,c)))) > (0:Int))) then
  bY (b5 (1:Int)) fun d=>
  bY (b5 (bL (a.1.1,a.1.2)+bL (d.1,d.2))) fun d=>
  (d.1,d.2)
 else
  bif (((gA (bL (b.1,b.2)) (bL (aT,c)))) == (0:Int)) then
   bif (!(decide (a.1.2 % 2=0))) then
    bY (b5 (1:Int)) fun b=>
    bY (b5 (bL (a.1.1,a.1.2)+bL (b.1,b.2))) fun b=>
    (b.1,b.2)
   else
    (a.1.1,a.1.2)
  else
   (a.1.1,a.1.2)
theorem F.aU{Y:K}{aB Z:V}(aR:a4 aB Z){Ls:Bool}{LL:U}{LM LN:Nat}{Lo:Nat}(LW:cB b2 Z LL LM (D.aE Lo))(LX:LN=(D.aE Lo).length)(Mn:(D.aE Lo).length≤300000){aT:Bool}{LO:U}{LP LQ:Nat}{Lp:Nat}(LR:cB b2 Z LO LP (D.aE Lp))(LY:LQ=(D.aE Lp).length)(Mo:(D.aE Lp).length≤300000)(g:dS fC aB Y (F.v Ls Lo aT Lp)):F.t Y Ls LL LN LM aT LO LQ LP Z:=by
 subst LX LY
 have Mp:(D.aE 0).length=0:=by simp [D.dM]
 unfold F.v at g
 unfold F.t
 refine cK fun Mq Lt E=>?_
 have Mr:=aR.le
 have Ms:=Lt.lt
 have LA:=E.aD
 refine cK fun LZ Li G=>?_
 have Mt:=(aR.trans E).le
 have Lu:=Li.lt
 have LB:=G.aD
 refine cK fun L0 a H=>?_
 have a:cR L0 (LZ.size) [.bool false,.slice none (D.aE 0).length 0]:=by rw [D.dM];exact a
 have Lk:=((aR.trans E).trans G).le
 have e:=a.lt
 have Ll:=H.aD
 have Lt:=((Lt.B G).B H)
 refine aI Lt (w _ _) rfl (aO rfl ?_)
 refine aI Lt (w _ _) rfl (k rfl ?_)
 have Li:=(Li.B H)
 refine aI Li (w _ _) rfl (aO rfl ?_)
 refine aI Li (w _ _) rfl (k rfl ?_)
 refine bF (nG.aY (LW.aD (LA.trans (LB.trans Ll))) rfl (LR.aD (LA.trans (LB.trans Ll))) rfl (by first | assumption | decide | omega) (by first | assumption | decide | omega)) fun v L1 ⟨j,O⟩=>?_
 obtain⟨K6,Lw⟩:∃ z,z=k1 (bL (Ls,Lo)) (bL (aT,Lp)):=⟨_,rfl⟩
 rw [← Lw] at O
 replace g:=cC Lw g
 have L2:=DU Ls Lo aT Lp
 rw [← Lw] at L2
 have L3:=DV Ls Lo aT Lp
 rw [← Lw] at L3
 obtain⟨_,_,rfl,⟨Mu,Mv,rfl,Lv⟩,⟨Mw,Mx,rfl,L4⟩⟩:=O
 refine dP rfl (aM (bZ rfl (aM (aO rfl (aM (k rfl (bP (aM (bZ rfl (aM (aO rfl (aM (k rfl (bP (bP (?_))))))))))))))))
 have c:=j.aD
 refine cK fun LS b P=>?_
 have b:cR LS (L1.size) [.bool false,.slice none (D.aE 0).length 0]:=by rw [D.dM];exact b
 have K7:=((((aR.trans E).trans G).trans H).trans j).le
 have Lg:=b.lt
 have d:=P.aD
 refine cK fun L5 Lb K5=>?_
 have Lb:cR L5 (LS.size) [.bool false,.slice none (D.aE 0).length 0]:=by rw [D.dM];exact Lb
 have K8:=(((((aR.trans E).trans G).trans H).trans j).trans P).le
 have L6:=Lb.lt
 have Lh:=K5.aD
 have b:=(b.B K5)
 refine bK b (w _ _) rfl fun My b K9 Lc=>?_
 refine bK b (w _ _) rfl fun Mz b La Ld=>?_
 have Lb:=((Lb.bT (Ne.symm (Nat.ne_of_lt Lg)) K9).bT (Ne.symm (Nat.ne_of_lt Lg)) La)
 refine bK Lb (w _ _) rfl fun MA Lb l Le=>?_
 refine bK Lb (w _ _) rfl fun MB Lb m Lf=>?_
 refine⟨eY rfl ((Lc.trans (Ld.trans (Le.trans Lf))).lt L6),?_⟩
 refine aI Lb (w _ _) rfl (aO rfl ?_)
 refine aI Lb (w _ _) rfl (k rfl ?_)
 refine bF (nF.aY (L4.aD (d.trans (Lh.trans (Lc.trans (Ld.trans (Le.trans Lf)))))).rd rfl (show In .i64 (1:Int) by decide) (by first | assumption | decide | omega) (by first | assumption | decide | omega) (by first | assumption | decide | omega)) fun v MC ⟨f,O⟩=>?_
 obtain⟨MD,LC⟩:∃ z,z=b5 (bL (K6.2.1,K6.2.2)*2 ^ (Int.toNat (1:Int))):=⟨_,rfl⟩
 rw [← LC] at O
 replace g:=cC LC g
 have L7:=Ip K6.2.1 K6.2.2
 rw [← LC] at L7
 obtain⟨ME,MF,rfl,L8⟩:=O
 refine bZ rfl (aM (aO rfl (aM (k rfl (bP (?_))))))
 have Lj:=f.aD
 refine⟨f.c1 (Nat.le_refl _),?_⟩
 have Li:=((((((((Li.B j).B P).B K5).bT (Nat.ne_of_lt ((Ll.trans c).lt Lu)) K9).bT (Nat.ne_of_lt ((Ll.trans c).lt Lu)) La).bT (Nat.ne_of_lt ((Ll.trans (c.trans d)).lt Lu)) l).bT (Nat.ne_of_lt ((Ll.trans (c.trans d)).lt Lu)) m).B f)
 refine⟨eY rfl ((Ll.trans (c.trans (d.trans (Lh.trans (Lc.trans (Ld.trans (Le.trans Lf))))))).lt Lu),?_⟩
 refine aI Li (w _ _) rfl (aO rfl ?_)
 refine aI Li (w _ _) rfl (k rfl ?_)
 refine bF (nH.aY L8.rd rfl (LR.aD (LA.trans (LB.trans (Ll.trans (c.trans (d.trans (Lh.trans (Lc.trans (Ld.trans (Le.trans (Lf.trans Lj))))))))))) rfl (by first | assumption | decide | omega) (by first | assumption | decide | omega)) fun v MG ⟨i,O⟩=>?_
 obtain⟨rfl,MH⟩:=O
 refine bI rfl (?_)
 have Lq:=i.aD
 refine⟨i.c1 (Lj).le,?_⟩
 refine jC g (fun L9 g=>?_) (fun L9 g=>?_)
 ·have b:=((((b.bT (Nat.ne_of_lt Lg) l).bT (Nat.ne_of_lt Lg) m).B f).B i)
  refine⟨eY rfl ((Lh.trans (Lc.trans (Ld.trans (Le.trans (Lf.trans (Lj.trans Lq)))))).lt Lg),?_⟩
  refine aI b (w _ _) rfl (aO rfl ?_)
  refine aI b (w _ _) rfl (k rfl ?_)
  refine bF (mO.aY (show In .i64 (1:Int) by decide)) fun v LU ⟨h,O⟩=>?_
  obtain⟨Lx,LD⟩:∃ z,z=b5 (1:Int):=⟨_,rfl⟩
  rw [← LD] at O
  replace g:=cC LD g
  have Ma:=AZ (show In .i64 (1:Int) by decide)
  rw [← LD] at Ma
  obtain⟨MI,MJ,rfl,Mb⟩:=O
  refine bZ rfl (aM (aO rfl (aM (k rfl (bP (?_))))))
  have Lm:=h.aD
  refine⟨h.c1 (Nat.le_refl _),?_⟩
  refine bF (k2.aY (Lv.aD (d.trans (Lh.trans (Lc.trans (Ld.trans (Le.trans (Lf.trans (Lj.trans (Lq.trans Lm))))))))).rd rfl Mb.rd rfl (by first | assumption | decide | omega) (by first | assumption | decide | omega)) fun v LF ⟨n,O⟩=>?_
  obtain⟨MK,LG⟩:∃ z,z=b5 (bL (K6.1.1,K6.1.2)+bL (Lx.1,Lx.2)):=⟨_,rfl⟩
  rw [← LG] at O
  replace g:=cC LG g
  have Mc:=y1 K6.1.1 K6.1.2 Lx.1 Lx.2
  rw [← LG] at Mc
  obtain⟨ML,MM,rfl,Md⟩:=O
  refine bZ rfl (aM (aO rfl (aM (k rfl (bP (?_))))))
  have Lr:=n.aD
  refine⟨n.c1 (Lm).le,?_⟩
  have a:=(((((((((((a.B j).B P).B K5).bT (Nat.ne_of_lt ((c).lt e)) K9).bT (Nat.ne_of_lt ((c).lt e)) La).bT (Nat.ne_of_lt ((c.trans d).lt e)) l).bT (Nat.ne_of_lt ((c.trans d).lt e)) m).B f).B i).B h).B n)
  refine bK a (w _ _) rfl fun LV a Ln Ly=>?_
  refine bK a (w _ _) rfl fun Me a LH LI=>?_
  refine aI a (w _ _) rfl (aO rfl ?_)
  refine aI a (w _ _) rfl (k rfl ?_)
  exact g _ _ (a1.B (a1.B (((((a1.B (a1.B (a1.B (a1.B ((((((aR.trans E).trans G).trans H).trans j).trans P).trans K5) K9 K7) La K7) l K8) m K8).trans f).trans i).trans h).trans n) Ln Lk) LH Lk) ⟨_,_,rfl,((Md.aD (Ly.trans LI)).from ((((a1.B (a1.B (a1.B (a1.B ((((((aR.trans E).trans G).trans H).trans j).trans P).trans K5) K9 K7) La K7) l K8) m K8).trans f).trans i).trans h).le)⟩
 refine fB g (fun Mf g=>?_) (fun Mf g=>?_)
 ·have b:=((((b.bT (Nat.ne_of_lt Lg) l).bT (Nat.ne_of_lt Lg) m).B f).B i)
  refine aI b (w _ _) rfl (aO rfl ?_)
  refine aI b (w _ _) rfl (k rfl ?_)
  refine bF (oO.aY (Lv.aD (d.trans (Lh.trans (Lc.trans (Ld.trans (Le.trans (Lf.trans (Lj.trans Lq)))))))).rd rfl) fun v LU ⟨h,O⟩=>?_
  obtain rfl:=O
  refine aO rfl (?_)
  have Lm:=h.aD
  refine hH g (fun Mg g=>?_) (fun Mg g=>?_)
  ·have b:=(b.B h)
   refine⟨eY rfl ((Lh.trans (Lc.trans (Ld.trans (Le.trans (Lf.trans (Lj.trans (Lq.trans Lm))))))).lt Lg),?_⟩
   refine aI b (w _ _) rfl (aO rfl ?_)
   refine aI b (w _ _) rfl (k rfl ?_)
   refine bF (mO.aY (show In .i64 (1:Int) by decide)) fun v LF ⟨n,O⟩=>?_
   obtain⟨Lz,LJ⟩:∃ z,z=b5 (1:Int):=⟨_,rfl⟩
   rw [← LJ] at O
   replace g:=cC LJ g
   have Mh:=AZ (show In .i64 (1:Int) by decide)
   rw [← LJ] at Mh
   obtain⟨MN,MO,rfl,Mi⟩:=O
   refine bZ rfl (aM (aO rfl (aM (k rfl (bP (?_))))))
   have Lr:=n.aD
   refine⟨n.c1 (Nat.le_refl _),?_⟩
   refine bF (k2.aY (Lv.aD (d.trans (Lh.trans (Lc.trans (Ld.trans (Le.trans (Lf.trans (Lj.trans (Lq.trans (Lm.trans Lr)))))))))).rd rfl Mi.rd rfl (by first | assumption | decide | omega) (by first | assumption | decide | omega)) fun v LV ⟨Ln,O⟩=>?_
   obtain⟨MP,LK⟩:∃ z,z=b5 (bL (K6.1.1,K6.1.2)+bL (Lz.1,Lz.2)):=⟨_,rfl⟩
   rw [← LK] at O
   replace g:=cC LK g
   have Mj:=y1 K6.1.1 K6.1.2 Lz.1 Lz.2
   rw [← LK] at Mj
   obtain⟨MQ,MR,rfl,Mk⟩:=O
   refine bZ rfl (aM (aO rfl (aM (k rfl (bP (?_))))))
   have Ly:=Ln.aD
   refine⟨Ln.c1 (Lr).le,?_⟩
   have a:=((((((((((((a.B j).B P).B K5).bT (Nat.ne_of_lt ((c).lt e)) K9).bT (Nat.ne_of_lt ((c).lt e)) La).bT (Nat.ne_of_lt ((c.trans d).lt e)) l).bT (Nat.ne_of_lt ((c.trans d).lt e)) m).B f).B i).B h).B n).B Ln)
   refine bK a (w _ _) rfl fun Me a LH LI=>?_
   refine bK a (w _ _) rfl fun MS a Ml Mm=>?_
   refine aI a (w _ _) rfl (aO rfl ?_)
   refine aI a (w _ _) rfl (k rfl ?_)
   exact g _ _ (a1.B (a1.B ((((((a1.B (a1.B (a1.B (a1.B ((((((aR.trans E).trans G).trans H).trans j).trans P).trans K5) K9 K7) La K7) l K8) m K8).trans f).trans i).trans h).trans n).trans Ln) LH Lk) Ml Lk) ⟨_,_,rfl,((Mk.aD (LI.trans Mm)).from (((((a1.B (a1.B (a1.B (a1.B ((((((aR.trans E).trans G).trans H).trans j).trans P).trans K5) K9 K7) La K7) l K8) m K8).trans f).trans i).trans h).trans n).le)⟩
  have b:=(b.B h)
  refine aI b (w _ _) rfl (aO rfl ?_)
  refine aI b (w _ _) rfl (k rfl ?_)
  have a:=((((((((((a.B j).B P).B K5).bT (Nat.ne_of_lt ((c).lt e)) K9).bT (Nat.ne_of_lt ((c).lt e)) La).bT (Nat.ne_of_lt ((c.trans d).lt e)) l).bT (Nat.ne_of_lt ((c.trans d).lt e)) m).B f).B i).B h)
  refine bK a (w _ _) rfl fun LF a n Lr=>?_
  refine bK a (w _ _) rfl fun LV a Ln Ly=>?_
  refine aI a (w _ _) rfl (aO rfl ?_)
  refine aI a (w _ _) rfl (k rfl ?_)
  exact g _ _ (a1.B (a1.B ((((a1.B (a1.B (a1.B (a1.B ((((((aR.trans E).trans G).trans H).trans j).trans P).trans K5) K9 K7) La K7) l K8) m K8).trans f).trans i).trans h) n Lk) Ln Lk) ⟨_,_,rfl,((Lv.aD (d.trans (Lh.trans (Lc.trans (Ld.trans (Le.trans (Lf.trans (Lj.trans (Lq.trans (Lm.trans (Lr.trans Ly))))))))))).from (((aR.trans E).trans G).trans H).le)⟩
 have b:=((((b.bT (Nat.ne_of_lt Lg) l).bT (Nat.ne_of_lt Lg) m).B f).B i)
 refine aI b (w _ _) rfl (aO rfl ?_)
 refine aI b (w _ _) rfl (k rfl ?_)
 have a:=(((((((((a.B j).B P).B K5).bT (Nat.ne_of_lt ((c).lt e)) K9).bT (Nat.ne_of_lt ((c).lt e)) La).bT (Nat.ne_of_lt ((c.trans d).lt e)) l).bT (Nat.ne_of_lt ((c.trans d).lt e)) m).B f).B i)
 refine bK a (w _ _) rfl fun LU a h Lm=>?_
 refine bK a (w _ _) rfl fun LF a n Lr=>?_
 refine aI a (w _ _) rfl (aO rfl ?_)
 refine aI a (w _ _) rfl (k rfl ?_)
 exact g _ _ (a1.B (a1.B (((a1.B (a1.B (a1.B (a1.B ((((((aR.trans E).trans G).trans H).trans j).trans P).trans K5) K9 K7) La K7) l K8) m K8).trans f).trans i) h Lk) n Lk) ⟨_,_,rfl,((Lv.aD (d.trans (Lh.trans (Lc.trans (Ld.trans (Le.trans (Lf.trans (Lj.trans (Lq.trans (Lm.trans Lr)))))))))).from (((aR.trans E).trans G).trans H).le)⟩
def v(a:Bool)(b:Nat)(aT:Bool)(c:Nat):(Bool × Nat):=F.v a b aT c
theorem aU{Z:V}{a:Bool}{b:U}{c d:Nat}{e:Nat}(f:cB b2 Z b c (D.aE e))(g:d=(D.aE e).length)(h:(D.aE e).length≤300000){aT:Bool}{i:U}{j l:Nat}{m:Nat}(n:cB b2 Z i j (D.aE m))(t:l=(D.aE m).length)(E:(D.aE m).length≤300000):aF id #[.agg #[.bool a,.slice b d c],.agg #[.bool aT,.slice i l j]] Z fun b c=>a4 Z c∧fC Z c b (v a e aT m):=
 ok (F.aU (a4.refl _) f g h n t E fun v A M O=>⟨M,O⟩)
end nI
namespace oR
def F.v(a:Bool)(b:Nat)(aQ:Int):(Bool × Nat):=
 bY (b5 (-bL (a,b))) fun a=>
 bY (b5 (e4 (bL (a.1,a.2)) (2 ^ (Int.toNat aQ)))) fun a=>
 bY (b5 (-bL (a.1,a.2))) fun a=>
 (a.1,a.2)
theorem F.aU{Y:K}{aB Z:V}(aR:a4 aB Z){d:Bool}{H:U}{P K5:Nat}{b:Nat}(K7:cB b2 Z H P (D.aE b))(K8:K5=(D.aE b).length)(Lo:(D.aE b).length≤100000){aQ:Int}(K9:In .i64 aQ)(g:dS fC aB Y (F.v d b aQ)):F.t Y d H K5 P aQ Z:=by
 subst K8
 have Lp:(D.aE 0).length=0:=by simp [D.dM]
 unfold F.v at g
 unfold F.t
 refine cK fun La c e=>?_
 have Lq:=aR.le
 have Lr:=c.lt
 have Lb:=e.aD
 refine cK fun Lc a f=>?_
 have a:cR Lc (La.size) [.bool false,.slice none (D.aE 0).length 0]:=by rw [D.dM];exact a
 have K6:=(aR.trans e).le
 have Ls:=a.lt
 have Ld:=f.aD
 have c:=(c.B f)
 refine aI c (w _ _) rfl (aO rfl ?_)
 refine aI c (w _ _) rfl (k rfl ?_)
 refine bF (h2.aY (K7.aD (Lb.trans Ld)) rfl) fun v Lt ⟨h,O⟩=>?_
 obtain⟨i,m⟩:∃ z,z=b5 (-bL (d,b)):=⟨_,rfl⟩
 rw [← m] at O
 replace g:=cC m g
 have Le:=qN d b
 rw [← m] at Le
 obtain⟨Lu,Lv,rfl,Lf⟩:=O
 refine bZ rfl (aM (aO rfl (aM (k rfl (bP (?_))))))
 have Lw:=h.aD
 refine bF (mP.aY Lf.rd rfl K9 (by first | assumption | decide | omega)) fun v Lx ⟨j,O⟩=>?_
 obtain⟨l,n⟩:∃ z,z=b5 (e4 (bL (i.1,i.2)) (2 ^ (Int.toNat aQ))):=⟨_,rfl⟩
 rw [← n] at O
 replace g:=cC n g
 have Lg:=DX i.1 i.2 aQ
 rw [← n] at Lg
 obtain⟨Ly,Lz,rfl,Lh⟩:=O
 refine bZ rfl (aM (aO rfl (aM (k rfl (bP (?_))))))
 have LA:=j.aD
 refine bF (h2.aY Lh.rd rfl) fun v LB ⟨E,O⟩=>?_
 obtain⟨LC,G⟩:∃ z,z=b5 (-bL (l.1,l.2)):=⟨_,rfl⟩
 rw [← G] at O
 replace g:=cC G g
 have Li:=qN l.1 l.2
 rw [← G] at Li
 obtain⟨LD,LF,rfl,Lj⟩:=O
 refine bZ rfl (aM (aO rfl (aM (k rfl (bP (?_))))))
 have LG:=E.aD
 have a:=(((a.B h).B j).B E)
 refine bK a (w _ _) rfl fun LH a Lk Ll=>?_
 refine bK a (w _ _) rfl fun LI a Lm Ln=>?_
 refine aI a (w _ _) rfl (aO rfl ?_)
 refine aI a (w _ _) rfl (k rfl ?_)
 exact g _ _ (a1.B (a1.B (((((aR.trans e).trans f).trans h).trans j).trans E) Lk K6) Lm K6) ⟨_,_,rfl,((Lj.aD (Ll.trans Ln)).from ((((aR.trans e).trans f).trans h).trans j).le)⟩
def v(a:Bool)(b:Nat)(aQ:Int):(Bool × Nat):=F.v a b aQ
theorem aU{Z:V}{a:Bool}{b:U}{c d:Nat}{e:Nat}(f:cB b2 Z b c (D.aE e))(g:d=(D.aE e).length)(h:(D.aE e).length≤100000){aQ:Int}(i:In .i64 aQ):aF id #[.agg #[.bool a,.slice b d c],.int .i64 aQ] Z fun b c=>a4 Z c∧fC Z c b (v a e aQ):=
 ok (F.aU (a4.refl _) f g h i fun v A M O=>⟨M,O⟩)
end oR
theorem lO(Q:Int):bL ((b5 Q).1,(b5 Q).2)=Q:=pK Q
theorem D0{Q C:Int}:decide (gA Q C > 0)=decide (C < Q):=by rw [If]
theorem D1{Q C:Int}:(gA Q C == 0)=decide (Q=C):=by
 unfold gA
 rcases Int.lt_trichotomy Q C with Z | Z | Z
 ·rw [if_pos Z];have:Q ≠ C:=by omega
  simp [this]
 ·subst Z;simp
 ·rw [if_neg (by omega),if_neg (by omega)];have:Q ≠ C:=by omega
  simp [this]
theorem IQ{z:Bool}{bD aX:Nat}(c4:aX ≠ 0)(a:z=true→bD ≠ 0):
  gY (cE z bD) (cE false aX)=if (aX:Int) < iV (cE z bD) (cE false aX)*2∨(iV (cE z bD) (cE false aX)*2=(aX:Int)∧(e4 (cE z bD) (cE false aX)).natAbs % 2=1) then e4 (cE z bD) (cE false aX)+1 else e4 (cE z bD) (cE false aX):=by
 rw [AT c4 a,tW c4 a,yW c4 a,Bool.xor_false,kO]
 unfold pM
 have c:=Nat.mod_lt bD (show 0 < aX by omega)
 generalize bD % aX=s at *
 generalize bD / aX=b7 at *
 cases z
 ·simp only [Bool.false_eq_true,false_and,if_false,yT]
  by_cases L:aX < 2*s∨(2*s=aX∧b7 % 2=1)
  ·rw [if_pos L,if_pos (by omega)];omega
  ·rw [if_neg L,if_neg (by omega)]
 ·by_cases b:s=0
  ·subst b
   simp only [ne_eq,not_true_eq_false,and_false,if_false,lJ]
   rw [if_neg (by omega),if_neg (by omega)]
  ·simp only [ne_eq,b,not_false_eq_true,and_self,if_true,yT]
   have J:cE true (b7+1)+1=cE true b7:=by unfold cE;simp only [if_true];omega
   by_cases L:aX < 2*s∨(2*s=aX∧b7 % 2=1)
   ·rw [if_pos L,if_neg (by omega)]
   ·rw [if_neg L,if_pos (by omega),J]
theorem IR(N L:Bool)(aL bA:Nat):nI.v N aL L bA=lM (bL (N,aL)) (bL (L,bA)):=by
 unfold nI.v nI.F.v
 by_cases Z:bL (L,bA)≤0
 ·have J:k1 (bL (N,aL)) (bL (L,bA))=((false,0),(false,0)):=by unfold k1;rw [if_pos Z]
  rw [J]
  simp only [bY]
  have b:bL (false,0)*2 ^ Int.toNat 1=0:=by rw [k3,lJ,Int.zero_mul]
  rw [b,lO,D0,D1]
  unfold lM
  by_cases c:bL (L,bA) < 0
  ·simp only [c,decide_true,cond_true,if_true];rfl
  ·have d:(0:Int)=bL (L,bA):=by omega
   rw [if_neg c,if_pos d.symm]
   simp only [c,d.symm,decide_false,decide_true,cond_false,cond_true];rfl
 ·have g:L=false:=by
   cases L
   ·rfl
   ·exfalso;apply Z;rw [k3];unfold cE;simp
  subst g
  rw [DZ (by omega)]
  simp only [bY]
  have b:(2:Int) ^ Int.toNat 1=2:=rfl
  rw [lO,b,lO,D0,D1]
  have h:lM (bL (N,aL)) (bL (false,bA))=b5 (gY (bL (N,aL)) (bL (false,bA))):=by unfold lM;rw [if_neg (by omega),if_neg (by omega)]
  rw [h]
  have i:bA ≠ 0:=fun J=>Z (by subst J;rw [k3,lJ];exact Int.le_refl _)
  obtain⟨z,bD,j,l,_⟩:=vM (bL (N,aL))
  have m:bL (false,bA)=cE false bA:=rfl
  rw [j,m,IQ i l]
  generalize iV (cE z bD) (cE false bA)=e
  generalize e4 (cE z bD) (cE false bA)=a
  have n:bL ((b5 a).1,(b5 a).2)+bL ((b5 1).1,(b5 1).2)=a+1:=by rw [lO,lO]
  have t:decide ((b5 a).2 % 2=0)=decide (a.natAbs % 2=0):=rfl
  have D:cE false bA=(bA:Int):=rfl
  simp only [n,t,D]
  by_cases f:(bA:Int) < e*2
  ·simp only [f,decide_true,cond_true,true_or,if_true]
  ·simp only [f,decide_false,cond_false,false_or]
   by_cases bX:e*2=(bA:Int)
   ·simp only [bX,decide_true,cond_true,true_and]
    rcases Nat.mod_two_eq_zero_or_one a.natAbs with J | J
    ·simp only [J];rfl
    ·simp only [J];rfl
   ·simp only [bX,decide_false,cond_false,false_and,if_false]
theorem IS(N:Bool)(aL:Nat)(M:Int):oR.v N aL M=b5 (iL (bL (N,aL)) (2 ^ M.toNat)):=by
 unfold oR.v oR.F.v
 simp only [bY]
 rw [lO,lO];rfl
section
variable {a N:U} {L bH l m aL bA:Nat} {T u:List Nat} {Z:V} {I aN:Int} {z o:Bool}
theorem nI.aY(s:cB b2 Z a L (D.aE aL))(J:l=(D.aE aL).length)(O:cB b2 Z N bH (D.aE bA))(a9:m=(D.aE bA).length)(b:(D.aE aL).length≤300000)(c:(D.aE bA).length≤300000):aF nI.id #[.agg #[.bool z,.slice a l L],.agg #[.bool o,.slice N m bH]] Z fun v A=>a4 Z A∧fC Z A v (lM (bL (z,aL)) (bL (o,bA))):=by rw [← IR];exact nI.aU s J b O a9 c
theorem oR.aY(s:cB b2 Z a L (D.aE aL))(J:l=(D.aE aL).length)(Q:In .i64 I)(b:(D.aE aL).length≤100000):aF oR.id #[.agg #[.bool z,.slice a l L],.int .i64 I] Z fun v A=>a4 Z A∧fC Z A v (b5 (iL (bL (z,aL)) (2 ^ I.toNat))):=by rw [← IS];exact oR.aU s J b Q
end
end Go.Proofs.YtllhckjfhefcdaaGreatDoor.G
