import Derived.Test.YtelmicicapbgeaaKB
import Derived.Test.YtelmicicapbgeaaKC0
import Derived.Test.YtelmicicapbgeaaKC1
namespace Go.Proofs.Ytelmicicapbgeaa.G
open Go.Gv
set_option linter.unusedVariables false
set_option maxRecDepth 100000
namespace dQ
def a4.v(a:Bool)(a:Nat)(a:Bool)(a:Nat)(a:Bool)(b:Nat)(c:Bool)(d:Nat):((Bool × Nat) × (Bool × Nat)):=
 bif (decide (((eJ (bF (a,b)) 0))≥(0:Int))) then
  ((a,b),(c,d))
 else
  bif (decide (((eJ (bF (c,d)) 0))≤(0:Int))) then
   dD (bV (-bF (c,d))) fun c=>
   dD (bV (-bF (a,b))) fun a=>
   ((c.1,c.2),(a.1,a.2))
  else
   dD (bV (0:Int)) fun a=>
   dD (bV (0:Int)) fun b=>
   ((a.1,a.2),(b.1,b.2))
theorem a4.a1{Y:J}{o Z:V}(d:a2 o Z){I4:Bool}{I5:R}{I6:Nat}{IK:Nat}(Jp:cH bR o Z I5 I6 (D.z IK))(Jq:(D.z IK).length≤1000000){dY:Nat}(a:cY Z dY [.bool I4,.slice I5 (D.z IK).length I6])(Iy:o.size≤dY){I7:Bool}{I8:R}{I9:Nat}{IL:Nat}(Jr:cH bR o Z I8 I9 (D.z IL))(Js:(D.z IL).length≤1000000){hD:Nat}(b:cY Z hD [.bool I7,.slice I8 (D.z IL).length I9])(Iz:o.size≤hD){IM:Bool}{Ja:R}{Jb:Nat}{IF:Nat}(IN:cH bR o Z Ja Jb (D.z IF))(Jt:(D.z IF).length≤1000000){iB:Nat}(e:cY Z iB [.bool IM,.slice Ja (D.z IF).length Jb])(Ju:o.size≤iB){IP:Bool}{Jc:R}{Jd:Nat}{IG:Nat}(IQ:cH bR o Z Jc Jd (D.z IG))(Jv:(D.z IG).length≤1000000){eR:Nat}(c:cY Z eR [.bool IP,.slice Jc (D.z IG).length Jd])(Jw:o.size≤eR)(l:dY ≠ hD)(IA:dY ≠ iB)(IB:dY ≠ eR)(IC:hD ≠ iB)(ID:hD ≠ eR)(Jx:iB ≠ eR)(g:fE (s2 eH eH) o Y (a4.v I4 IK I7 IL IM IF IP IG)):a4.t Y (⟨dY,0,none⟩:Addr) (⟨hD,0,none⟩:Addr) (⟨iB,0,none⟩:Addr) (⟨eR,0,none⟩:Addr) Z:=by
 have m:=a2.refl Z
 have Jy:=a.lt
 have Jz:=b.lt
 have Je:=e.lt
 have IS:=c.lt
 have JA:(D.z 0).length=0:=by simp [D.cP]
 unfold a4.v at g
 unfold a4.t
 refine bQ e (aT _ _) rfl ?_
 refine bK rfl ?_
 refine bQ e (aT _ _) rfl ?_
 refine aQ rfl ?_
 refine bE (hP.aZ IN.rd rfl) fun v JB ⟨IE,F⟩=>?_
 obtain⟨rfl,JC⟩:=F
 refine bJ rfl (?_)
 have n:=IE.aS
 have a:=a.I IE
 have b:=b.I IE
 have e:=e.I IE
 have c:=c.I IE
 have d:=d.trans IE
 have m:=m.trans IE
 refine mR g (fun Jg g=>?_) (fun Jg g=>?_)
 ·refine⟨eO rfl ((n).lt Je),?_⟩
  refine bQ e (aT _ _) rfl ?_
  refine bK rfl ?_
  refine bQ e (aT _ _) rfl ?_
  refine aQ rfl ?_
  refine⟨?_,?_⟩
  ·refine⟨eO rfl ((n).lt IS),?_⟩
   refine bQ c (aT _ _) rfl ?_
   refine bK rfl ?_
   refine bQ c (aT _ _) rfl ?_
   refine aQ rfl ?_
   refine b2 a (aT _ _) rfl fun Jf a j G=>?_
   have b:=b.aJ (Ne.symm l) j
   have e:=e.aJ (Ne.symm IA) j
   have c:=c.aJ (Ne.symm IB) j
   have d:=aV.I d j Iy
   refine b2 a (aT _ _) rfl fun IT a f H=>?_
   have b:=b.aJ (Ne.symm l) f
   have e:=e.aJ (Ne.symm IA) f
   have c:=c.aJ (Ne.symm IB) f
   have d:=aV.I d f Iy
   refine b2 b (aT _ _) rfl fun IU b h P=>?_
   have a:=a.aJ l h
   have e:=e.aJ (Ne.symm IC) h
   have c:=c.aJ (Ne.symm ID) h
   have d:=aV.I d h Iz
   refine b2 b (aT _ _) rfl fun IV b i E=>?_
   have a:=a.aJ l i
   have e:=e.aJ (Ne.symm IC) i
   have c:=c.aJ (Ne.symm ID) i
   have d:=aV.I d i Iz
   refine bQ a (aT _ _) rfl ?_
   refine bK rfl ?_
   refine bQ a (aT _ _) rfl ?_
   refine aQ rfl ?_
   refine bQ b (aT _ _) rfl ?_
   refine bK rfl ?_
   refine bQ b (aT _ _) rfl ?_
   refine aQ rfl ?_
   exact g _ _ d ⟨_,_,rfl,⟨_,_,rfl,(IN.aS (n.trans (G.trans (H.trans (P.trans E)))))⟩,⟨_,_,rfl,(IQ.aS (n.trans (G.trans (H.trans (P.trans E)))))⟩⟩
  ·refine b2 a (aT _ _) rfl fun Jf a j G=>?_
   have b:=b.aJ (Ne.symm l) j
   have e:=e.aJ (Ne.symm IA) j
   have c:=c.aJ (Ne.symm IB) j
   have d:=aV.I d j Iy
   refine b2 a (aT _ _) rfl fun IT a f H=>?_
   have b:=b.aJ (Ne.symm l) f
   have e:=e.aJ (Ne.symm IA) f
   have c:=c.aJ (Ne.symm IB) f
   have d:=aV.I d f Iy
   refine⟨eO rfl ((n).lt IS),?_⟩
   refine bQ c (aT _ _) rfl ?_
   refine bK rfl ?_
   refine bQ c (aT _ _) rfl ?_
   refine aQ rfl ?_
   refine b2 b (aT _ _) rfl fun IU b h P=>?_
   have a:=a.aJ l h
   have e:=e.aJ (Ne.symm IC) h
   have c:=c.aJ (Ne.symm ID) h
   have d:=aV.I d h Iz
   refine b2 b (aT _ _) rfl fun IV b i E=>?_
   have a:=a.aJ l i
   have e:=e.aJ (Ne.symm IC) i
   have c:=c.aJ (Ne.symm ID) i
   have d:=aV.I d i Iz
   refine bQ a (aT _ _) rfl ?_
   refine bK rfl ?_
   refine bQ a (aT _ _) rfl ?_
   refine aQ rfl ?_
   refine bQ b (aT _ _) rfl ?_
   refine bK rfl ?_
   refine bQ b (aT _ _) rfl ?_
   refine aQ rfl ?_
   exact g _ _ d ⟨_,_,rfl,⟨_,_,rfl,(IN.aS (n.trans (G.trans (H.trans (P.trans E)))))⟩,⟨_,_,rfl,(IQ.aS (n.trans (G.trans (H.trans (P.trans E)))))⟩⟩
 ·refine bQ c (aT _ _) rfl ?_
  refine bK rfl ?_
  refine bQ c (aT _ _) rfl ?_
  refine aQ rfl ?_
  refine bE (hP.aZ (IQ.aS (n)).rd rfl) fun v Jf ⟨j,F⟩=>?_
  obtain⟨rfl,JD⟩:=F
  refine bJ rfl (?_)
  have G:=j.aS
  have a:=a.I j
  have b:=b.I j
  have e:=e.I j
  have c:=c.I j
  have d:=d.trans j
  have m:=m.trans j
  refine mR g (fun Jh g=>?_) (fun Jh g=>?_)
  ·refine⟨eO rfl ((n.trans G).lt IS),?_⟩
   refine bQ c (aT _ _) rfl ?_
   refine bK rfl ?_
   refine bQ c (aT _ _) rfl ?_
   refine aQ rfl ?_
   refine bE (iT.aZ (IQ.aS (n.trans G)).rd rfl) fun v IT ⟨f,F⟩=>?_
   obtain⟨JE,IW⟩:∃ y,y=bV (-bF (IP,IG)):=⟨_,rfl⟩
   rw [← IW] at F
   replace g:=cZ IW g
   have Ji:=pN IP IG
   rw [← IW] at Ji
   obtain⟨JF,JG,rfl,IX⟩:=F
   refine cF rfl (a9 (bK rfl (a9 (aQ rfl (b3 (?_))))))
   have IX:=IX.from d.le
   have H:=f.aS
   have a:=a.I f
   have b:=b.I f
   have e:=e.I f
   have c:=c.I f
   have d:=d.trans f
   have m:=m.trans f
   refine⟨f.cM (Nat.le_refl _),?_⟩
   refine⟨eO rfl ((n.trans G).lt Je),?_⟩
   refine bQ e (aT _ _) rfl ?_
   refine bK rfl ?_
   refine bQ e (aT _ _) rfl ?_
   refine aQ rfl ?_
   refine bE (iT.aZ (IN.aS (n.trans (G.trans H))).rd rfl) fun v IU ⟨h,F⟩=>?_
   obtain⟨JH,IY⟩:∃ y,y=bV (-bF (IM,IF)):=⟨_,rfl⟩
   rw [← IY] at F
   replace g:=cZ IY g
   have Jj:=pN IM IF
   rw [← IY] at Jj
   obtain⟨JI,JJ,rfl,IZ⟩:=F
   refine cF rfl (a9 (bK rfl (a9 (aQ rfl (b3 (?_))))))
   have IZ:=IZ.from d.le
   have P:=h.aS
   have a:=a.I h
   have b:=b.I h
   have e:=e.I h
   have c:=c.I h
   have d:=d.trans h
   have m:=m.trans h
   refine⟨h.cM (H).le,?_⟩
   refine b2 a (aT _ _) rfl fun IV a i E=>?_
   have b:=b.aJ (Ne.symm l) i
   have e:=e.aJ (Ne.symm IA) i
   have c:=c.aJ (Ne.symm IB) i
   have d:=aV.I d i Iy
   refine b2 a (aT _ _) rfl fun Jk a Iv IH=>?_
   have b:=b.aJ (Ne.symm l) Iv
   have e:=e.aJ (Ne.symm IA) Iv
   have c:=c.aJ (Ne.symm IB) Iv
   have d:=aV.I d Iv Iy
   refine b2 b (aT _ _) rfl fun Jl b Iw II=>?_
   have a:=a.aJ l Iw
   have e:=e.aJ (Ne.symm IC) Iw
   have c:=c.aJ (Ne.symm ID) Iw
   have d:=aV.I d Iw Iz
   refine b2 b (aT _ _) rfl fun Jm b Ix IJ=>?_
   have a:=a.aJ l Ix
   have e:=e.aJ (Ne.symm IC) Ix
   have c:=c.aJ (Ne.symm ID) Ix
   have d:=aV.I d Ix Iz
   refine bQ a (aT _ _) rfl ?_
   refine bK rfl ?_
   refine bQ a (aT _ _) rfl ?_
   refine aQ rfl ?_
   refine bQ b (aT _ _) rfl ?_
   refine bK rfl ?_
   refine bQ b (aT _ _) rfl ?_
   refine aQ rfl ?_
   exact g _ _ d ⟨_,_,rfl,⟨_,_,rfl,(IX.aS (P.trans (E.trans (IH.trans (II.trans IJ)))))⟩,⟨_,_,rfl,(IZ.aS (E.trans (IH.trans (II.trans IJ))))⟩⟩
  ·refine bE (hI.aZ (show In .i64 (0:Int) by decide)) fun v IT ⟨f,F⟩=>?_
   obtain⟨JK,I0⟩:∃ y,y=bV (0:Int):=⟨_,rfl⟩
   rw [← I0] at F
   replace g:=cZ I0 g
   have Jn:=oB (show In .i64 (0:Int) by decide)
   rw [← I0] at Jn
   obtain⟨JL,JM,rfl,I1⟩:=F
   refine cF rfl (a9 (bK rfl (a9 (aQ rfl (b3 (?_))))))
   have I1:=I1.from d.le
   have H:=f.aS
   have a:=a.I f
   have b:=b.I f
   have e:=e.I f
   have c:=c.I f
   have d:=d.trans f
   have m:=m.trans f
   refine bE (hI.aZ (show In .i64 (0:Int) by decide)) fun v IU ⟨h,F⟩=>?_
   obtain⟨JN,I2⟩:∃ y,y=bV (0:Int):=⟨_,rfl⟩
   rw [← I2] at F
   replace g:=cZ I2 g
   have Jo:=oB (show In .i64 (0:Int) by decide)
   rw [← I2] at Jo
   obtain⟨JO,JP,rfl,I3⟩:=F
   refine cF rfl (a9 (bK rfl (a9 (aQ rfl (b3 (?_))))))
   have I3:=I3.from d.le
   have P:=h.aS
   have a:=a.I h
   have b:=b.I h
   have e:=e.I h
   have c:=c.I h
   have d:=d.trans h
   have m:=m.trans h
   refine b2 a (aT _ _) rfl fun IV a i E=>?_
   have b:=b.aJ (Ne.symm l) i
   have e:=e.aJ (Ne.symm IA) i
   have c:=c.aJ (Ne.symm IB) i
   have d:=aV.I d i Iy
   refine b2 a (aT _ _) rfl fun Jk a Iv IH=>?_
   have b:=b.aJ (Ne.symm l) Iv
   have e:=e.aJ (Ne.symm IA) Iv
   have c:=c.aJ (Ne.symm IB) Iv
   have d:=aV.I d Iv Iy
   refine b2 b (aT _ _) rfl fun Jl b Iw II=>?_
   have a:=a.aJ l Iw
   have e:=e.aJ (Ne.symm IC) Iw
   have c:=c.aJ (Ne.symm ID) Iw
   have d:=aV.I d Iw Iz
   refine b2 b (aT _ _) rfl fun Jm b Ix IJ=>?_
   have a:=a.aJ l Ix
   have e:=e.aJ (Ne.symm IC) Ix
   have c:=c.aJ (Ne.symm ID) Ix
   have d:=aV.I d Ix Iz
   refine bQ a (aT _ _) rfl ?_
   refine bK rfl ?_
   refine bQ a (aT _ _) rfl ?_
   refine aQ rfl ?_
   refine bQ b (aT _ _) rfl ?_
   refine bK rfl ?_
   refine bQ b (aT _ _) rfl ?_
   refine aQ rfl ?_
   exact g _ _ d ⟨_,_,rfl,⟨_,_,rfl,(I1.aS (P.trans (E.trans (IH.trans (II.trans IJ)))))⟩,⟨_,_,rfl,(I3.aS (E.trans (IH.trans (II.trans IJ))))⟩⟩
def aD.v(a:Bool)(b:Nat)(c:Bool)(d:Nat)(e:Bool)(f:Nat)(g:Bool)(h:Nat)(i:Bool)(j:Nat)(l:Bool)(m:Nat):((Bool × Nat) × (Bool × Nat)):=
 dD (bV (bF (a,b)*bF (c,d))) fun a=>
 dD (bV (bF (i,j) - bF (a.1,a.2))) fun a=>
 a4.v e f g h l m a.1 a.2
theorem aD.a1{Y:J}{o Z:V}(a:a2 o Z){IH:Bool}{Jm:R}{Jn:Nat}{IC:Nat}(Jo:b4 bR Z Jm Jn (D.z IC))(JZ:(D.z IC).length≤300000){jE:Nat}(e:cY Z jE [.bool IH,.slice Jm (D.z IC).length Jn])(J0:o.size≤jE){II:Bool}{Jp:R}{Jq:Nat}{ID:Nat}(Jr:b4 bR Z Jp Jq (D.z ID))(J1:(D.z ID).length≤300000){iU:Nat}(f:cY Z iU [.bool II,.slice Jp (D.z ID).length Jq])(J2:o.size≤iU){Js:Bool}{Jt:R}{Ju:Nat}{IJ:Nat}(IP:cH bR o Z Jt Ju (D.z IJ))(J3:(D.z IJ).length≤300000){dY:Nat}(b:cY Z dY [.bool Js,.slice Jt (D.z IJ).length Ju])(IQ:o.size≤dY){Jv:Bool}{Jw:R}{Jx:Nat}{IK:Nat}(IS:cH bR o Z Jw Jx (D.z IK))(J4:(D.z IK).length≤300000){hD:Nat}(c:cY Z hD [.bool Jv,.slice Jw (D.z IK).length Jx])(IT:o.size≤hD){IE:Bool}{Jy:R}{Jz:Nat}{IA:Nat}(IU:cH bR o Z Jy Jz (D.z IA))(J5:(D.z IA).length≤300000){h0:Nat}(h:cY Z h0 [.bool IE,.slice Jy (D.z IA).length Jz])(J6:o.size≤h0){JA:Bool}{JB:R}{JC:Nat}{IL:Nat}(IV:cH bR o Z JB JC (D.z IL))(J7:(D.z IL).length≤300000){iB:Nat}(d:cY Z iB [.bool JA,.slice JB (D.z IL).length JC])(IW:o.size≤iB)(J8:jE ≠ iU)(J9:jE ≠ dY)(Ka:jE ≠ hD)(Kb:jE ≠ h0)(Kc:jE ≠ iB)(Kd:iU ≠ dY)(Ke:iU ≠ hD)(Kf:iU ≠ h0)(Kg:iU ≠ iB)(IX:dY ≠ hD)(Kh:dY ≠ h0)(IY:dY ≠ iB)(Ki:hD ≠ h0)(IZ:hD ≠ iB)(Kj:h0 ≠ iB)(g:fE (s2 eH eH) o Y (aD.v IH IC II ID Js IJ Jv IK IE IA JA IL)):aD.t Y (⟨jE,0,none⟩:Addr) (⟨iU,0,none⟩:Addr) (⟨dY,0,none⟩:Addr) (⟨hD,0,none⟩:Addr) (⟨h0,0,none⟩:Addr) (⟨iB,0,none⟩:Addr) Z:=by
 have l:=a2.refl Z
 have JR:=e.lt
 have JS:=f.lt
 have Kk:=b.lt
 have Kl:=c.lt
 have JT:=h.lt
 have Km:=d.lt
 have Kn:(D.z 0).length=0:=by simp [D.cP]
 unfold aD.v at g
 unfold aD.t
 refine⟨eO rfl (JT),?_⟩
 refine bQ h (aT _ _) rfl ?_
 refine bK rfl ?_
 refine bQ h (aT _ _) rfl ?_
 refine aQ rfl ?_
 refine⟨eO rfl (JR),?_⟩
 refine bQ e (aT _ _) rfl ?_
 refine bK rfl ?_
 refine bQ e (aT _ _) rfl ?_
 refine aQ rfl ?_
 refine⟨eO rfl (JS),?_⟩
 refine bQ f (aT _ _) rfl ?_
 refine bK rfl ?_
 refine bQ f (aT _ _) rfl ?_
 refine aQ rfl ?_
 refine⟨?_,?_⟩
 ·refine bE (h9.aZ Jo rfl Jr rfl (by first | assumption | decide | omega) (by first | assumption | decide | omega)) fun v Iz ⟨E,F⟩=>?_
  obtain⟨IF,I0⟩:∃ y,y=bV (bF (IH,IC)*bF (II,ID)):=⟨_,rfl⟩
  rw [← I0] at F
  replace g:=cZ I0 g
  have JU:=q4 IH IC II ID
  rw [← I0] at JU
  obtain⟨Ko,Kp,rfl,IM⟩:=F
  refine cF rfl (a9 (bK rfl (a9 (aQ rfl (b3 (?_))))))
  have IM:=IM.from a.le
  have G:=E.aS
  have e:=e.I E
  have f:=f.I E
  have b:=b.I E
  have c:=c.I E
  have h:=h.I E
  have d:=d.I E
  have a:=a.trans E
  have l:=l.trans E
  refine⟨E.cM (Nat.le_refl _),?_⟩
  refine⟨?_,?_⟩
  ·refine bE (gL.aZ (IU.aS (G)).rd rfl IM.rd rfl (by first | assumption | decide | omega) (by first | assumption | decide | omega)) fun v Iw ⟨j,F⟩=>?_
   obtain⟨Kq,I1⟩:∃ y,y=bV (bF (IE,IA) - bF (IF.1,IF.2)):=⟨_,rfl⟩
   rw [← I1] at F
   replace g:=cZ I1 g
   have JV:=nK IE IA IF.1 IF.2
   rw [← I1] at JV
   obtain⟨Kr,Ks,rfl,I2⟩:=F
   refine cF rfl (a9 (bK rfl (a9 (aQ rfl (b3 (?_))))))
   have I2:=I2.from a.le
   have H:=j.aS
   have e:=e.I j
   have f:=f.I j
   have b:=b.I j
   have c:=c.I j
   have h:=h.I j
   have d:=d.I j
   have a:=a.trans j
   have l:=l.trans j
   refine⟨j.cM (G).le,?_⟩
   refine dH fun I3 IG i=>?_
   have JD:jE ≠ Iw.size:=Nat.ne_of_lt e.lt
   have JE:iU ≠ Iw.size:=Nat.ne_of_lt f.lt
   have I4:dY ≠ Iw.size:=Nat.ne_of_lt b.lt
   have I5:hD ≠ Iw.size:=Nat.ne_of_lt c.lt
   have JF:h0 ≠ Iw.size:=Nat.ne_of_lt h.lt
   have I6:iB ≠ Iw.size:=Nat.ne_of_lt d.lt
   have IG:cY I3 (Iw.size) [.bool false,.slice none (D.z 0).length 0]:=by rw [D.cP];exact IG
   have I7:o.size≤Iw.size:=a.le
   have JG:Z.size≤Iw.size:=l.le
   have Kt:=IG.lt
   have Ix:=i.aS
   have e:=e.I i
   have f:=f.I i
   have b:=b.I i
   have c:=c.I i
   have h:=h.I i
   have d:=d.I i
   have a:=a.trans i
   have l:=l.trans i
   refine⟨i.cM (G.trans H).le,?_⟩
   refine b2 IG (aT _ _) rfl fun JH IG m P=>?_
   have e:=e.aJ JD m
   have f:=f.aJ JE m
   have b:=b.aJ I4 m
   have c:=c.aJ I5 m
   have h:=h.aJ JF m
   have d:=d.aJ I6 m
   have a:=aV.I a m I7
   have l:=aV.I l m JG
   refine b2 IG (aT _ _) rfl fun JI IG n Iv=>?_
   have e:=e.aJ JD n
   have f:=f.aJ JE n
   have b:=b.aJ I4 n
   have c:=c.aJ I5 n
   have h:=h.aJ JF n
   have d:=d.aJ I6 n
   have a:=aV.I a n I7
   have l:=aV.I l n JG
   exact a4.a1 a (IP.aS (G.trans (H.trans (Ix.trans (P.trans Iv))))) (by first | assumption | decide | omega) b IQ (IS.aS (G.trans (H.trans (Ix.trans (P.trans Iv))))) (by first | assumption | decide | omega) c IT (IV.aS (G.trans (H.trans (Ix.trans (P.trans Iv))))) (by first | assumption | decide | omega) d IW (I2.aS (Ix.trans (P.trans Iv))) (by first | assumption | decide | omega) IG I7 IX IY I4 IZ I5 I6 g
  ·refine dH fun Iw IB j=>?_
   have JJ:jE ≠ Iz.size:=Nat.ne_of_lt e.lt
   have JK:iU ≠ Iz.size:=Nat.ne_of_lt f.lt
   have I8:dY ≠ Iz.size:=Nat.ne_of_lt b.lt
   have I9:hD ≠ Iz.size:=Nat.ne_of_lt c.lt
   have JL:h0 ≠ Iz.size:=Nat.ne_of_lt h.lt
   have Ja:iB ≠ Iz.size:=Nat.ne_of_lt d.lt
   have IB:cY Iw (Iz.size) [.bool false,.slice none (D.z 0).length 0]:=by rw [D.cP];exact IB
   have Jb:o.size≤Iz.size:=a.le
   have JM:Z.size≤Iz.size:=l.le
   have Ku:=IB.lt
   have H:=j.aS
   have e:=e.I j
   have f:=f.I j
   have b:=b.I j
   have c:=c.I j
   have h:=h.I j
   have d:=d.I j
   have a:=a.trans j
   have l:=l.trans j
   refine⟨j.cM (G).le,?_⟩
   refine bE (gL.aZ (IU.aS (G.trans H)).rd rfl (IM.aS (H)).rd rfl (by first | assumption | decide | omega) (by first | assumption | decide | omega)) fun v I3 ⟨i,F⟩=>?_
   obtain⟨Kv,Jc⟩:∃ y,y=bV (bF (IE,IA) - bF (IF.1,IF.2)):=⟨_,rfl⟩
   rw [← Jc] at F
   replace g:=cZ Jc g
   have JW:=nK IE IA IF.1 IF.2
   rw [← Jc] at JW
   obtain⟨Kw,Kx,rfl,Jd⟩:=F
   refine cF rfl (a9 (bK rfl (a9 (aQ rfl (b3 (?_))))))
   have Jd:=Jd.from a.le
   have Ix:=i.aS
   have e:=e.I i
   have f:=f.I i
   have b:=b.I i
   have c:=c.I i
   have h:=h.I i
   have d:=d.I i
   have IB:=IB.I i
   have a:=a.trans i
   have l:=l.trans i
   refine⟨i.cM (G.trans H).le,?_⟩
   refine b2 IB (aT _ _) rfl fun JH IB m P=>?_
   have e:=e.aJ JJ m
   have f:=f.aJ JK m
   have b:=b.aJ I8 m
   have c:=c.aJ I9 m
   have h:=h.aJ JL m
   have d:=d.aJ Ja m
   have a:=aV.I a m Jb
   have l:=aV.I l m JM
   refine b2 IB (aT _ _) rfl fun JI IB n Iv=>?_
   have e:=e.aJ JJ n
   have f:=f.aJ JK n
   have b:=b.aJ I8 n
   have c:=c.aJ I9 n
   have h:=h.aJ JL n
   have d:=d.aJ Ja n
   have a:=aV.I a n Jb
   have l:=aV.I l n JM
   exact a4.a1 a (IP.aS (G.trans (H.trans (Ix.trans (P.trans Iv))))) (by first | assumption | decide | omega) b IQ (IS.aS (G.trans (H.trans (Ix.trans (P.trans Iv))))) (by first | assumption | decide | omega) c IT (IV.aS (G.trans (H.trans (Ix.trans (P.trans Iv))))) (by first | assumption | decide | omega) d IW (Jd.aS (P.trans Iv)) (by first | assumption | decide | omega) IB Jb IX IY I8 IZ I9 Ja g
 ·refine dH fun Iz Iy E=>?_
  have JN:jE ≠ Z.size:=Nat.ne_of_lt e.lt
  have JO:iU ≠ Z.size:=Nat.ne_of_lt f.lt
  have Je:dY ≠ Z.size:=Nat.ne_of_lt b.lt
  have Jf:hD ≠ Z.size:=Nat.ne_of_lt c.lt
  have JP:h0 ≠ Z.size:=Nat.ne_of_lt h.lt
  have Jg:iB ≠ Z.size:=Nat.ne_of_lt d.lt
  have Iy:cY Iz (Z.size) [.bool false,.slice none (D.z 0).length 0]:=by rw [D.cP];exact Iy
  have Jh:o.size≤Z.size:=a.le
  have JQ:Z.size≤Z.size:=l.le
  have Ky:=Iy.lt
  have G:=E.aS
  have e:=e.I E
  have f:=f.I E
  have b:=b.I E
  have c:=c.I E
  have h:=h.I E
  have d:=d.I E
  have a:=a.trans E
  have l:=l.trans E
  refine⟨E.cM (Nat.le_refl _),?_⟩
  refine bE (h9.aZ (Jo.aS (G)) rfl (Jr.aS (G)) rfl (by first | assumption | decide | omega) (by first | assumption | decide | omega)) fun v Iw ⟨j,F⟩=>?_
  obtain⟨IN,Ji⟩:∃ y,y=bV (bF (IH,IC)*bF (II,ID)):=⟨_,rfl⟩
  rw [← Ji] at F
  replace g:=cZ Ji g
  have JX:=q4 IH IC II ID
  rw [← Ji] at JX
  obtain⟨Kz,KA,rfl,Jj⟩:=F
  refine cF rfl (a9 (bK rfl (a9 (aQ rfl (b3 (?_))))))
  have Jj:=Jj.from a.le
  have H:=j.aS
  have e:=e.I j
  have f:=f.I j
  have b:=b.I j
  have c:=c.I j
  have h:=h.I j
  have d:=d.I j
  have Iy:=Iy.I j
  have a:=a.trans j
  have l:=l.trans j
  refine⟨j.cM (G).le,?_⟩
  refine bE (gL.aZ (IU.aS (G.trans H)).rd rfl Jj.rd rfl (by first | assumption | decide | omega) (by first | assumption | decide | omega)) fun v I3 ⟨i,F⟩=>?_
  obtain⟨KB,Jk⟩:∃ y,y=bV (bF (IE,IA) - bF (IN.1,IN.2)):=⟨_,rfl⟩
  rw [← Jk] at F
  replace g:=cZ Jk g
  have JY:=nK IE IA IN.1 IN.2
  rw [← Jk] at JY
  obtain⟨KC,KD,rfl,Jl⟩:=F
  refine cF rfl (a9 (bK rfl (a9 (aQ rfl (b3 (?_))))))
  have Jl:=Jl.from a.le
  have Ix:=i.aS
  have e:=e.I i
  have f:=f.I i
  have b:=b.I i
  have c:=c.I i
  have h:=h.I i
  have d:=d.I i
  have Iy:=Iy.I i
  have a:=a.trans i
  have l:=l.trans i
  refine⟨i.cM (G.trans H).le,?_⟩
  refine b2 Iy (aT _ _) rfl fun JH Iy m P=>?_
  have e:=e.aJ JN m
  have f:=f.aJ JO m
  have b:=b.aJ Je m
  have c:=c.aJ Jf m
  have h:=h.aJ JP m
  have d:=d.aJ Jg m
  have a:=aV.I a m Jh
  have l:=aV.I l m JQ
  refine b2 Iy (aT _ _) rfl fun JI Iy n Iv=>?_
  have e:=e.aJ JN n
  have f:=f.aJ JO n
  have b:=b.aJ Je n
  have c:=c.aJ Jf n
  have h:=h.aJ JP n
  have d:=d.aJ Jg n
  have a:=aV.I a n Jh
  have l:=aV.I l n JQ
  exact a4.a1 a (IP.aS (G.trans (H.trans (Ix.trans (P.trans Iv))))) (by first | assumption | decide | omega) b IQ (IS.aS (G.trans (H.trans (Ix.trans (P.trans Iv))))) (by first | assumption | decide | omega) c IT (IV.aS (G.trans (H.trans (Ix.trans (P.trans Iv))))) (by first | assumption | decide | omega) d IW (Jl.aS (P.trans Iv)) (by first | assumption | decide | omega) Iy Jh IX IY Je IZ Jf Jg g
def u.v(aO:Int)(r:Int)(a:Bool)(b:Nat)(c:Bool)(d:Nat)(e:Int):((Bool × Nat) × (Bool × Nat)):=
 dD (Int.toNat aO) fun f=>
 dD (bV (cB false f)) fun f=>
 dD (bV (bF (f.1,f.2)*2 ^ (Int.toNat ((IntKind.i64.wrap (((IntKind.i64.wrap (e+(1:Int))))+r)))))) fun e=>
 dD (bV (1:Int)) fun f=>
 dD (bV (bF (c,d)+bF (f.1,f.2))) fun f=>
 dD (bV (bF (a,b)*bF (f.1,f.2))) fun f=>
 dD (bV (bF (e.1,e.2) - bF (f.1,f.2))) fun f=>
 aD.v a b c d false 0 false 0 e.1 e.2 f.1 f.2
theorem u.a1{Y:J}{o Z:V}(a:a2 o Z){aO:Int}(KM:In .u64 aO){r:Int}(Lo:In .i64 r){IZ:Bool}{KN:R}{KO KP:Nat}{IQ:Nat}(I3:b4 bR Z KN KO (D.z IQ))(K0:KP=(D.z IQ).length)(Lp:(D.z IQ).length≤40000){I4:Bool}{KQ:R}{KR KS:Nat}{I0:Nat}(I5:b4 bR Z KQ KR (D.z I0))(K1:KS=(D.z I0).length)(Lq:(D.z I0).length≤40000){Jb:Int}(Lr:In .i64 Jb)(Ls:0≤IntKind.i64.wrap (IntKind.i64.wrap (Jb+1)+r))(Lt:IntKind.i64.wrap (IntKind.i64.wrap (Jb+1)+r)≤10000)(g:fE (s2 eH eH) o Y (u.v aO r IZ IQ I4 I0 Jb)):u.t Y aO r IZ KN KP KO I4 KQ KS KR Jb Z:=by
 subst K0 K1
 have d:=a2.refl Z
 have Lu:(D.z 0).length=0:=by simp [D.cP]
 unfold u.v at g
 unfold u.t
 refine dH fun IX b JN=>?_
 have Jo:o.size≤Z.size:=a.le
 have Lv:Z.size≤Z.size:=d.le
 have K2:=b.lt
 have IK:=JN.aS
 have a:=a.trans JN
 have d:=d.trans JN
 refine dH fun IS c JA=>?_
 have Jp:Z.size ≠ IX.size:=Nat.ne_of_lt b.lt
 have Jq:o.size≤IX.size:=a.le
 have Lw:Z.size≤IX.size:=d.le
 have K3:=c.lt
 have IJ:=JA.aS
 have b:=b.I JA
 have a:=a.trans JA
 have d:=d.trans JA
 refine dH fun IN e Jr=>?_
 have Js:Z.size ≠ IS.size:=Nat.ne_of_lt b.lt
 have Jt:IX.size ≠ IS.size:=Nat.ne_of_lt c.lt
 have e:cY IN (IS.size) [.bool false,.slice none (D.z 0).length 0]:=by rw [D.cP];exact e
 have Ju:o.size≤IS.size:=a.le
 have Lx:Z.size≤IS.size:=d.le
 have Ly:=e.lt
 have ID:=Jr.aS
 have b:=b.I Jr
 have c:=c.I Jr
 have a:=a.trans Jr
 have d:=d.trans Jr
 refine dH fun K4 f Jl=>?_
 have Jv:Z.size ≠ IN.size:=Nat.ne_of_lt b.lt
 have Jw:IX.size ≠ IN.size:=Nat.ne_of_lt c.lt
 have Jx:IS.size ≠ IN.size:=Nat.ne_of_lt e.lt
 have f:cY K4 (IN.size) [.bool false,.slice none (D.z 0).length 0]:=by rw [D.cP];exact f
 have Jy:o.size≤IN.size:=a.le
 have Lz:Z.size≤IN.size:=d.le
 have LA:=f.lt
 have IE:=Jl.aS
 have b:=b.I Jl
 have c:=c.I Jl
 have e:=e.I Jl
 have a:=a.trans Jl
 have d:=d.trans Jl
 refine bE (gV.a1 KM) fun v LB ⟨Jc,F⟩=>?_
 obtain⟨KT,JO⟩:∃ y,y=Int.toNat aO:=⟨_,rfl⟩
 rw [← JO] at F
 replace g:=cZ JO g
 have K5:=q3 KM
 rw [← JO] at K5
 obtain⟨LC,LD,rfl,JP⟩:=F
 refine aQ rfl (?_)
 have JP:=JP.from a.le
 have IF:=Jc.aS
 have b:=b.I Jc
 have c:=c.I Jc
 have e:=e.I Jc
 have f:=f.I Jc
 have a:=a.trans Jc
 have d:=d.trans Jc
 refine bE (eQ.aZ JP.rd rfl) fun v LF ⟨Jd,F⟩=>?_
 obtain⟨JB,JQ⟩:∃ y,y=bV (cB false KT):=⟨_,rfl⟩
 rw [← JQ] at F
 replace g:=cZ JQ g
 have K6:=iS false KT
 rw [← JQ] at K6
 obtain⟨LG,LH,rfl,JR⟩:=F
 refine cF rfl (a9 (bK rfl (a9 (aQ rfl (b3 (?_))))))
 have JR:=JR.from a.le
 have IG:=Jd.aS
 have b:=b.I Jd
 have c:=c.I Jd
 have e:=e.I Jd
 have f:=f.I Jd
 have a:=a.trans Jd
 have d:=d.trans Jd
 refine kA ?_
 refine kA ?_
 refine bE (fZ.aZ JR.rd rfl (lA _ _) (by first | assumption | decide | omega) (by first | assumption | decide | omega) (by first | assumption | decide | omega)) fun v IT ⟨Je,F⟩=>?_
 obtain⟨IB,JS⟩:∃ y,y=bV (bF (JB.1,JB.2)*2 ^ (Int.toNat ((IntKind.i64.wrap (((IntKind.i64.wrap (Jb+(1:Int))))+r))))):=⟨_,rfl⟩
 rw [← JS] at F
 replace g:=cZ JS g
 have K7:=lL JB.1 JB.2 ((IntKind.i64.wrap (((IntKind.i64.wrap (Jb+(1:Int))))+r)))
 rw [← JS] at K7
 obtain⟨LI,LJ,rfl,IU⟩:=F
 refine cF rfl (a9 (bK rfl (a9 (aQ rfl (b3 (?_))))))
 have IU:=IU.from a.le
 have IH:=Je.aS
 have b:=b.I Je
 have c:=c.I Je
 have e:=e.I Je
 have f:=f.I Je
 have a:=a.trans Je
 have d:=d.trans Je
 refine dH fun K8 h Jf=>?_
 have Jg:Z.size ≠ IT.size:=Nat.ne_of_lt b.lt
 have Jh:IX.size ≠ IT.size:=Nat.ne_of_lt c.lt
 have Ji:IS.size ≠ IT.size:=Nat.ne_of_lt e.lt
 have Jj:IN.size ≠ IT.size:=Nat.ne_of_lt f.lt
 have h:cY K8 (IT.size) [.bool false,.slice none (D.z 0).length 0]:=by rw [D.cP];exact h
 have Jk:o.size≤IT.size:=a.le
 have KU:Z.size≤IT.size:=d.le
 have K9:=h.lt
 have Ix:=Jf.aS
 have b:=b.I Jf
 have c:=c.I Jf
 have e:=e.I Jf
 have f:=f.I Jf
 have a:=a.trans Jf
 have d:=d.trans Jf
 refine b2 h (aT _ _) rfl fun LK h Jm P=>?_
 have b:=b.aJ Jg Jm
 have c:=c.aJ Jh Jm
 have e:=e.aJ Ji Jm
 have f:=f.aJ Jj Jm
 have a:=aV.I a Jm Jk
 have d:=aV.I d Jm KU
 refine b2 h (aT _ _) rfl fun I6 h Jn Iv=>?_
 have b:=b.aJ Jg Jn
 have c:=c.aJ Jh Jn
 have e:=e.aJ Ji Jn
 have f:=f.aJ Jj Jn
 have a:=aV.I a Jn Jk
 have d:=aV.I d Jn KU
 refine⟨eO rfl ((P.trans Iv).lt K9),?_⟩
 refine bQ h (aT _ _) rfl ?_
 refine bK rfl ?_
 refine bQ h (aT _ _) rfl ?_
 refine aQ rfl ?_
 refine⟨eO rfl ((IJ.trans (ID.trans (IE.trans (IF.trans (IG.trans (IH.trans (Ix.trans (P.trans Iv)))))))).lt K2),?_⟩
 refine bQ b (aT _ _) rfl ?_
 refine bK rfl ?_
 refine bQ b (aT _ _) rfl ?_
 refine aQ rfl ?_
 refine⟨eO rfl ((ID.trans (IE.trans (IF.trans (IG.trans (IH.trans (Ix.trans (P.trans Iv))))))).lt K3),?_⟩
 refine bQ c (aT _ _) rfl ?_
 refine bK rfl ?_
 refine bQ c (aT _ _) rfl ?_
 refine aQ rfl ?_
 refine⟨?_,?_⟩
 ·refine bE (hI.aZ (show In .i64 (1:Int) by decide)) fun v I1 ⟨II,F⟩=>?_
  obtain⟨I7,JT⟩:∃ y,y=bV (1:Int):=⟨_,rfl⟩
  rw [← JT] at F
  replace g:=cZ JT g
  have La:=oB (show In .i64 (1:Int) by decide)
  rw [← JT] at La
  obtain⟨LL,LM,rfl,JC⟩:=F
  refine cF rfl (a9 (bK rfl (a9 (aQ rfl (b3 (?_))))))
  have JC:=JC.from a.le
  have l:=II.aS
  have b:=b.I II
  have c:=c.I II
  have e:=e.I II
  have f:=f.I II
  have h:=h.I II
  have a:=a.trans II
  have d:=d.trans II
  refine⟨II.cM (Nat.le_refl _),?_⟩
  refine⟨?_,?_⟩
  ·refine bE (hQ.aZ (I5.aS (IK.trans (IJ.trans (ID.trans (IE.trans (IF.trans (IG.trans (IH.trans (Ix.trans (P.trans (Iv.trans l))))))))))) rfl JC.rd rfl (by first | assumption | decide | omega) (by first | assumption | decide | omega)) fun v IY ⟨Iw,F⟩=>?_
   obtain⟨I8,JU⟩:∃ y,y=bV (bF (I4,I0)+bF (I7.1,I7.2)):=⟨_,rfl⟩
   rw [← JU] at F
   replace g:=cZ JU g
   have Lb:=pO I4 I0 I7.1 I7.2
   rw [← JU] at Lb
   obtain⟨LN,LO,rfl,JD⟩:=F
   refine cF rfl (a9 (bK rfl (a9 (aQ rfl (b3 (?_))))))
   have JD:=JD.from a.le
   have m:=Iw.aS
   have b:=b.I Iw
   have c:=c.I Iw
   have e:=e.I Iw
   have f:=f.I Iw
   have h:=h.I Iw
   have a:=a.trans Iw
   have d:=d.trans Iw
   refine⟨Iw.cM (l).le,?_⟩
   refine⟨?_,?_⟩
   ·refine bE (h9.aZ (I3.aS (IK.trans (IJ.trans (ID.trans (IE.trans (IF.trans (IG.trans (IH.trans (Ix.trans (P.trans (Iv.trans (l.trans m)))))))))))) rfl JD.rd rfl (by first | assumption | decide | omega) (by first | assumption | decide | omega)) fun v IV ⟨n,F⟩=>?_
    obtain⟨I9,JV⟩:∃ y,y=bV (bF (IZ,IQ)*bF (I8.1,I8.2)):=⟨_,rfl⟩
    rw [← JV] at F
    replace g:=cZ JV g
    have Lc:=q4 IZ IQ I8.1 I8.2
    rw [← JV] at Lc
    obtain⟨LP,LQ,rfl,JE⟩:=F
    refine cF rfl (a9 (bK rfl (a9 (aQ rfl (b3 (?_))))))
    have JE:=JE.from a.le
    have H:=n.aS
    have b:=b.I n
    have c:=c.I n
    have e:=e.I n
    have f:=f.I n
    have h:=h.I n
    have a:=a.trans n
    have d:=d.trans n
    refine⟨n.cM (l.trans m).le,?_⟩
    refine⟨?_,?_⟩
    ·refine bE (gL.aZ (IU.aS (Ix.trans (P.trans (Iv.trans (l.trans (m.trans H)))))).rd rfl JE.rd rfl (by first | assumption | decide | omega) (by first | assumption | decide | omega)) fun v IP ⟨j,F⟩=>?_
     obtain⟨LR,JW⟩:∃ y,y=bV (bF (IB.1,IB.2) - bF (I9.1,I9.2)):=⟨_,rfl⟩
     rw [← JW] at F
     replace g:=cZ JW g
     have Ld:=nK IB.1 IB.2 I9.1 I9.2
     rw [← JW] at Ld
     obtain⟨LS,LU,rfl,JX⟩:=F
     refine cF rfl (a9 (bK rfl (a9 (aQ rfl (b3 (?_))))))
     have JX:=JX.from a.le
     have Iy:=j.aS
     have b:=b.I j
     have c:=c.I j
     have e:=e.I j
     have f:=f.I j
     have h:=h.I j
     have a:=a.trans j
     have d:=d.trans j
     refine⟨j.cM (l.trans (m.trans H)).le,?_⟩
     refine dH fun Jz Ja i=>?_
     have JY:Z.size ≠ IP.size:=Nat.ne_of_lt b.lt
     have JZ:IX.size ≠ IP.size:=Nat.ne_of_lt c.lt
     have J0:IS.size ≠ IP.size:=Nat.ne_of_lt e.lt
     have J1:IN.size ≠ IP.size:=Nat.ne_of_lt f.lt
     have J2:IT.size ≠ IP.size:=Nat.ne_of_lt h.lt
     have Ja:cY Jz (IP.size) [.bool false,.slice none (D.z 0).length 0]:=by rw [D.cP];exact Ja
     have J3:o.size≤IP.size:=a.le
     have KV:Z.size≤IP.size:=d.le
     have LV:=Ja.lt
     have IC:=i.aS
     have b:=b.I i
     have c:=c.I i
     have e:=e.I i
     have f:=f.I i
     have h:=h.I i
     have a:=a.trans i
     have d:=d.trans i
     refine⟨i.cM (l.trans (m.trans (H.trans Iy))).le,?_⟩
     refine b2 Ja (aT _ _) rfl fun JF Ja E Iz=>?_
     have b:=b.aJ JY E
     have c:=c.aJ JZ E
     have e:=e.aJ J0 E
     have f:=f.aJ J1 E
     have h:=h.aJ J2 E
     have a:=aV.I a E J3
     have d:=aV.I d E KV
     refine b2 Ja (aT _ _) rfl fun JG Ja G IA=>?_
     have b:=b.aJ JY G
     have c:=c.aJ JZ G
     have e:=e.aJ J0 G
     have f:=f.aJ J1 G
     have h:=h.aJ J2 G
     have a:=aV.I a G J3
     have d:=aV.I d G KV
     exact aD.a1 a (I3.aS (IK.trans (IJ.trans (ID.trans (IE.trans (IF.trans (IG.trans (IH.trans (Ix.trans (P.trans (Iv.trans (l.trans (m.trans (H.trans (Iy.trans (IC.trans (Iz.trans IA))))))))))))))))) (by first | assumption | decide | omega) b Jo (I5.aS (IK.trans (IJ.trans (ID.trans (IE.trans (IF.trans (IG.trans (IH.trans (Ix.trans (P.trans (Iv.trans (l.trans (m.trans (H.trans (Iy.trans (IC.trans (Iz.trans IA))))))))))))))))) (by first | assumption | decide | omega) c Jq (iL _ _) (by first | assumption | decide | omega) e Ju (iL _ _) (by first | assumption | decide | omega) f Jy (IU.aS (Ix.trans (P.trans (Iv.trans (l.trans (m.trans (H.trans (Iy.trans (IC.trans (Iz.trans IA)))))))))) (by first | assumption | decide | omega) h Jk (JX.aS (IC.trans (Iz.trans IA))) (by first | assumption | decide | omega) Ja J3 Jp Js Jv Jg JY Jt Jw Jh JZ Jx Ji J0 Jj J1 J2 g
    ·refine dH fun IP I2 j=>?_
     have J4:Z.size ≠ IV.size:=Nat.ne_of_lt b.lt
     have J5:IX.size ≠ IV.size:=Nat.ne_of_lt c.lt
     have J6:IS.size ≠ IV.size:=Nat.ne_of_lt e.lt
     have J7:IN.size ≠ IV.size:=Nat.ne_of_lt f.lt
     have J8:IT.size ≠ IV.size:=Nat.ne_of_lt h.lt
     have I2:cY IP (IV.size) [.bool false,.slice none (D.z 0).length 0]:=by rw [D.cP];exact I2
     have J9:o.size≤IV.size:=a.le
     have KW:Z.size≤IV.size:=d.le
     have LW:=I2.lt
     have Iy:=j.aS
     have b:=b.I j
     have c:=c.I j
     have e:=e.I j
     have f:=f.I j
     have h:=h.I j
     have a:=a.trans j
     have d:=d.trans j
     refine⟨j.cM (l.trans (m.trans H)).le,?_⟩
     refine bE (gL.aZ (IU.aS (Ix.trans (P.trans (Iv.trans (l.trans (m.trans (H.trans Iy))))))).rd rfl (JE.aS (Iy)).rd rfl (by first | assumption | decide | omega) (by first | assumption | decide | omega)) fun v Jz ⟨i,F⟩=>?_
     obtain⟨LX,Ka⟩:∃ y,y=bV (bF (IB.1,IB.2) - bF (I9.1,I9.2)):=⟨_,rfl⟩
     rw [← Ka] at F
     replace g:=cZ Ka g
     have Le:=nK IB.1 IB.2 I9.1 I9.2
     rw [← Ka] at Le
     obtain⟨LY,LZ,rfl,Kb⟩:=F
     refine cF rfl (a9 (bK rfl (a9 (aQ rfl (b3 (?_))))))
     have Kb:=Kb.from a.le
     have IC:=i.aS
     have b:=b.I i
     have c:=c.I i
     have e:=e.I i
     have f:=f.I i
     have h:=h.I i
     have I2:=I2.I i
     have a:=a.trans i
     have d:=d.trans i
     refine⟨i.cM (l.trans (m.trans (H.trans Iy))).le,?_⟩
     refine b2 I2 (aT _ _) rfl fun JF I2 E Iz=>?_
     have b:=b.aJ J4 E
     have c:=c.aJ J5 E
     have e:=e.aJ J6 E
     have f:=f.aJ J7 E
     have h:=h.aJ J8 E
     have a:=aV.I a E J9
     have d:=aV.I d E KW
     refine b2 I2 (aT _ _) rfl fun JG I2 G IA=>?_
     have b:=b.aJ J4 G
     have c:=c.aJ J5 G
     have e:=e.aJ J6 G
     have f:=f.aJ J7 G
     have h:=h.aJ J8 G
     have a:=aV.I a G J9
     have d:=aV.I d G KW
     exact aD.a1 a (I3.aS (IK.trans (IJ.trans (ID.trans (IE.trans (IF.trans (IG.trans (IH.trans (Ix.trans (P.trans (Iv.trans (l.trans (m.trans (H.trans (Iy.trans (IC.trans (Iz.trans IA))))))))))))))))) (by first | assumption | decide | omega) b Jo (I5.aS (IK.trans (IJ.trans (ID.trans (IE.trans (IF.trans (IG.trans (IH.trans (Ix.trans (P.trans (Iv.trans (l.trans (m.trans (H.trans (Iy.trans (IC.trans (Iz.trans IA))))))))))))))))) (by first | assumption | decide | omega) c Jq (iL _ _) (by first | assumption | decide | omega) e Ju (iL _ _) (by first | assumption | decide | omega) f Jy (IU.aS (Ix.trans (P.trans (Iv.trans (l.trans (m.trans (H.trans (Iy.trans (IC.trans (Iz.trans IA)))))))))) (by first | assumption | decide | omega) h Jk (Kb.aS (Iz.trans IA)) (by first | assumption | decide | omega) I2 J9 Jp Js Jv Jg J4 Jt Jw Jh J5 Jx Ji J6 Jj J7 J8 g
   ·refine dH fun IV IW n=>?_
    have Kc:Z.size ≠ IY.size:=Nat.ne_of_lt b.lt
    have Kd:IX.size ≠ IY.size:=Nat.ne_of_lt c.lt
    have Ke:IS.size ≠ IY.size:=Nat.ne_of_lt e.lt
    have Kf:IN.size ≠ IY.size:=Nat.ne_of_lt f.lt
    have Kg:IT.size ≠ IY.size:=Nat.ne_of_lt h.lt
    have IW:cY IV (IY.size) [.bool false,.slice none (D.z 0).length 0]:=by rw [D.cP];exact IW
    have Kh:o.size≤IY.size:=a.le
    have KX:Z.size≤IY.size:=d.le
    have L0:=IW.lt
    have H:=n.aS
    have b:=b.I n
    have c:=c.I n
    have e:=e.I n
    have f:=f.I n
    have h:=h.I n
    have a:=a.trans n
    have d:=d.trans n
    refine⟨n.cM (l.trans m).le,?_⟩
    refine bE (h9.aZ (I3.aS (IK.trans (IJ.trans (ID.trans (IE.trans (IF.trans (IG.trans (IH.trans (Ix.trans (P.trans (Iv.trans (l.trans (m.trans H))))))))))))) rfl (JD.aS (H)).rd rfl (by first | assumption | decide | omega) (by first | assumption | decide | omega)) fun v IP ⟨j,F⟩=>?_
    obtain⟨JH,Ki⟩:∃ y,y=bV (bF (IZ,IQ)*bF (I8.1,I8.2)):=⟨_,rfl⟩
    rw [← Ki] at F
    replace g:=cZ Ki g
    have Lf:=q4 IZ IQ I8.1 I8.2
    rw [← Ki] at Lf
    obtain⟨L1,L2,rfl,Kj⟩:=F
    refine cF rfl (a9 (bK rfl (a9 (aQ rfl (b3 (?_))))))
    have Kj:=Kj.from a.le
    have Iy:=j.aS
    have b:=b.I j
    have c:=c.I j
    have e:=e.I j
    have f:=f.I j
    have h:=h.I j
    have IW:=IW.I j
    have a:=a.trans j
    have d:=d.trans j
    refine⟨j.cM (l.trans (m.trans H)).le,?_⟩
    refine bE (gL.aZ (IU.aS (Ix.trans (P.trans (Iv.trans (l.trans (m.trans (H.trans Iy))))))).rd rfl Kj.rd rfl (by first | assumption | decide | omega) (by first | assumption | decide | omega)) fun v Jz ⟨i,F⟩=>?_
    obtain⟨L3,Kk⟩:∃ y,y=bV (bF (IB.1,IB.2) - bF (JH.1,JH.2)):=⟨_,rfl⟩
    rw [← Kk] at F
    replace g:=cZ Kk g
    have Lg:=nK IB.1 IB.2 JH.1 JH.2
    rw [← Kk] at Lg
    obtain⟨L4,L5,rfl,Kl⟩:=F
    refine cF rfl (a9 (bK rfl (a9 (aQ rfl (b3 (?_))))))
    have Kl:=Kl.from a.le
    have IC:=i.aS
    have b:=b.I i
    have c:=c.I i
    have e:=e.I i
    have f:=f.I i
    have h:=h.I i
    have IW:=IW.I i
    have a:=a.trans i
    have d:=d.trans i
    refine⟨i.cM (l.trans (m.trans (H.trans Iy))).le,?_⟩
    refine b2 IW (aT _ _) rfl fun JF IW E Iz=>?_
    have b:=b.aJ Kc E
    have c:=c.aJ Kd E
    have e:=e.aJ Ke E
    have f:=f.aJ Kf E
    have h:=h.aJ Kg E
    have a:=aV.I a E Kh
    have d:=aV.I d E KX
    refine b2 IW (aT _ _) rfl fun JG IW G IA=>?_
    have b:=b.aJ Kc G
    have c:=c.aJ Kd G
    have e:=e.aJ Ke G
    have f:=f.aJ Kf G
    have h:=h.aJ Kg G
    have a:=aV.I a G Kh
    have d:=aV.I d G KX
    exact aD.a1 a (I3.aS (IK.trans (IJ.trans (ID.trans (IE.trans (IF.trans (IG.trans (IH.trans (Ix.trans (P.trans (Iv.trans (l.trans (m.trans (H.trans (Iy.trans (IC.trans (Iz.trans IA))))))))))))))))) (by first | assumption | decide | omega) b Jo (I5.aS (IK.trans (IJ.trans (ID.trans (IE.trans (IF.trans (IG.trans (IH.trans (Ix.trans (P.trans (Iv.trans (l.trans (m.trans (H.trans (Iy.trans (IC.trans (Iz.trans IA))))))))))))))))) (by first | assumption | decide | omega) c Jq (iL _ _) (by first | assumption | decide | omega) e Ju (iL _ _) (by first | assumption | decide | omega) f Jy (IU.aS (Ix.trans (P.trans (Iv.trans (l.trans (m.trans (H.trans (Iy.trans (IC.trans (Iz.trans IA)))))))))) (by first | assumption | decide | omega) h Jk (Kl.aS (Iz.trans IA)) (by first | assumption | decide | omega) IW Kh Jp Js Jv Jg Kc Jt Jw Jh Kd Jx Ji Ke Jj Kf Kg g
  ·refine dH fun IY IM Iw=>?_
   have Km:Z.size ≠ I1.size:=Nat.ne_of_lt b.lt
   have Kn:IX.size ≠ I1.size:=Nat.ne_of_lt c.lt
   have Ko:IS.size ≠ I1.size:=Nat.ne_of_lt e.lt
   have Kp:IN.size ≠ I1.size:=Nat.ne_of_lt f.lt
   have Kq:IT.size ≠ I1.size:=Nat.ne_of_lt h.lt
   have IM:cY IY (I1.size) [.bool false,.slice none (D.z 0).length 0]:=by rw [D.cP];exact IM
   have Kr:o.size≤I1.size:=a.le
   have KY:Z.size≤I1.size:=d.le
   have L6:=IM.lt
   have m:=Iw.aS
   have b:=b.I Iw
   have c:=c.I Iw
   have e:=e.I Iw
   have f:=f.I Iw
   have h:=h.I Iw
   have a:=a.trans Iw
   have d:=d.trans Iw
   refine⟨Iw.cM (l).le,?_⟩
   refine bE (hQ.aZ (I5.aS (IK.trans (IJ.trans (ID.trans (IE.trans (IF.trans (IG.trans (IH.trans (Ix.trans (P.trans (Iv.trans (l.trans m)))))))))))) rfl (JC.aS (m)).rd rfl (by first | assumption | decide | omega) (by first | assumption | decide | omega)) fun v IV ⟨n,F⟩=>?_
   obtain⟨JI,Ks⟩:∃ y,y=bV (bF (I4,I0)+bF (I7.1,I7.2)):=⟨_,rfl⟩
   rw [← Ks] at F
   replace g:=cZ Ks g
   have Lh:=pO I4 I0 I7.1 I7.2
   rw [← Ks] at Lh
   obtain⟨L7,L8,rfl,Kt⟩:=F
   refine cF rfl (a9 (bK rfl (a9 (aQ rfl (b3 (?_))))))
   have Kt:=Kt.from a.le
   have H:=n.aS
   have b:=b.I n
   have c:=c.I n
   have e:=e.I n
   have f:=f.I n
   have h:=h.I n
   have IM:=IM.I n
   have a:=a.trans n
   have d:=d.trans n
   refine⟨n.cM (l.trans m).le,?_⟩
   refine bE (h9.aZ (I3.aS (IK.trans (IJ.trans (ID.trans (IE.trans (IF.trans (IG.trans (IH.trans (Ix.trans (P.trans (Iv.trans (l.trans (m.trans H))))))))))))) rfl Kt.rd rfl (by first | assumption | decide | omega) (by first | assumption | decide | omega)) fun v IP ⟨j,F⟩=>?_
   obtain⟨JJ,Ku⟩:∃ y,y=bV (bF (IZ,IQ)*bF (JI.1,JI.2)):=⟨_,rfl⟩
   rw [← Ku] at F
   replace g:=cZ Ku g
   have Li:=q4 IZ IQ JI.1 JI.2
   rw [← Ku] at Li
   obtain⟨L9,Ma,rfl,Kv⟩:=F
   refine cF rfl (a9 (bK rfl (a9 (aQ rfl (b3 (?_))))))
   have Kv:=Kv.from a.le
   have Iy:=j.aS
   have b:=b.I j
   have c:=c.I j
   have e:=e.I j
   have f:=f.I j
   have h:=h.I j
   have IM:=IM.I j
   have a:=a.trans j
   have d:=d.trans j
   refine⟨j.cM (l.trans (m.trans H)).le,?_⟩
   refine bE (gL.aZ (IU.aS (Ix.trans (P.trans (Iv.trans (l.trans (m.trans (H.trans Iy))))))).rd rfl Kv.rd rfl (by first | assumption | decide | omega) (by first | assumption | decide | omega)) fun v Jz ⟨i,F⟩=>?_
   obtain⟨Mb,Kw⟩:∃ y,y=bV (bF (IB.1,IB.2) - bF (JJ.1,JJ.2)):=⟨_,rfl⟩
   rw [← Kw] at F
   replace g:=cZ Kw g
   have Lj:=nK IB.1 IB.2 JJ.1 JJ.2
   rw [← Kw] at Lj
   obtain⟨Mc,Md,rfl,Kx⟩:=F
   refine cF rfl (a9 (bK rfl (a9 (aQ rfl (b3 (?_))))))
   have Kx:=Kx.from a.le
   have IC:=i.aS
   have b:=b.I i
   have c:=c.I i
   have e:=e.I i
   have f:=f.I i
   have h:=h.I i
   have IM:=IM.I i
   have a:=a.trans i
   have d:=d.trans i
   refine⟨i.cM (l.trans (m.trans (H.trans Iy))).le,?_⟩
   refine b2 IM (aT _ _) rfl fun JF IM E Iz=>?_
   have b:=b.aJ Km E
   have c:=c.aJ Kn E
   have e:=e.aJ Ko E
   have f:=f.aJ Kp E
   have h:=h.aJ Kq E
   have a:=aV.I a E Kr
   have d:=aV.I d E KY
   refine b2 IM (aT _ _) rfl fun JG IM G IA=>?_
   have b:=b.aJ Km G
   have c:=c.aJ Kn G
   have e:=e.aJ Ko G
   have f:=f.aJ Kp G
   have h:=h.aJ Kq G
   have a:=aV.I a G Kr
   have d:=aV.I d G KY
   exact aD.a1 a (I3.aS (IK.trans (IJ.trans (ID.trans (IE.trans (IF.trans (IG.trans (IH.trans (Ix.trans (P.trans (Iv.trans (l.trans (m.trans (H.trans (Iy.trans (IC.trans (Iz.trans IA))))))))))))))))) (by first | assumption | decide | omega) b Jo (I5.aS (IK.trans (IJ.trans (ID.trans (IE.trans (IF.trans (IG.trans (IH.trans (Ix.trans (P.trans (Iv.trans (l.trans (m.trans (H.trans (Iy.trans (IC.trans (Iz.trans IA))))))))))))))))) (by first | assumption | decide | omega) c Jq (iL _ _) (by first | assumption | decide | omega) e Ju (iL _ _) (by first | assumption | decide | omega) f Jy (IU.aS (Ix.trans (P.trans (Iv.trans (l.trans (m.trans (H.trans (Iy.trans (IC.trans (Iz.trans IA)))))))))) (by first | assumption | decide | omega) h Jk (Kx.aS (Iz.trans IA)) (by first | assumption | decide | omega) IM Kr Jp Js Jv Jg Km Jt Jw Jh Kn Jx Ji Ko Jj Kp Kq g
 ·refine dH fun I1 IL II=>?_
  have Ky:Z.size ≠ I6.size:=Nat.ne_of_lt b.lt
  have Kz:IX.size ≠ I6.size:=Nat.ne_of_lt c.lt
  have KA:IS.size ≠ I6.size:=Nat.ne_of_lt e.lt
  have KB:IN.size ≠ I6.size:=Nat.ne_of_lt f.lt
  have KC:IT.size ≠ I6.size:=Nat.ne_of_lt h.lt
  have IL:cY I1 (I6.size) [.bool false,.slice none (D.z 0).length 0]:=by rw [D.cP];exact IL
  have KD:o.size≤I6.size:=a.le
  have KZ:Z.size≤I6.size:=d.le
  have Me:=IL.lt
  have l:=II.aS
  have b:=b.I II
  have c:=c.I II
  have e:=e.I II
  have f:=f.I II
  have h:=h.I II
  have a:=a.trans II
  have d:=d.trans II
  refine⟨II.cM (Nat.le_refl _),?_⟩
  refine bE (hI.aZ (show In .i64 (1:Int) by decide)) fun v IY ⟨Iw,F⟩=>?_
  obtain⟨JK,KE⟩:∃ y,y=bV (1:Int):=⟨_,rfl⟩
  rw [← KE] at F
  replace g:=cZ KE g
  have Lk:=oB (show In .i64 (1:Int) by decide)
  rw [← KE] at Lk
  obtain⟨Mf,Mg,rfl,KF⟩:=F
  refine cF rfl (a9 (bK rfl (a9 (aQ rfl (b3 (?_))))))
  have KF:=KF.from a.le
  have m:=Iw.aS
  have b:=b.I Iw
  have c:=c.I Iw
  have e:=e.I Iw
  have f:=f.I Iw
  have h:=h.I Iw
  have IL:=IL.I Iw
  have a:=a.trans Iw
  have d:=d.trans Iw
  refine⟨Iw.cM (l).le,?_⟩
  refine bE (hQ.aZ (I5.aS (IK.trans (IJ.trans (ID.trans (IE.trans (IF.trans (IG.trans (IH.trans (Ix.trans (P.trans (Iv.trans (l.trans m)))))))))))) rfl KF.rd rfl (by first | assumption | decide | omega) (by first | assumption | decide | omega)) fun v IV ⟨n,F⟩=>?_
  obtain⟨JL,KG⟩:∃ y,y=bV (bF (I4,I0)+bF (JK.1,JK.2)):=⟨_,rfl⟩
  rw [← KG] at F
  replace g:=cZ KG g
  have Ll:=pO I4 I0 JK.1 JK.2
  rw [← KG] at Ll
  obtain⟨Mh,Mi,rfl,KH⟩:=F
  refine cF rfl (a9 (bK rfl (a9 (aQ rfl (b3 (?_))))))
  have KH:=KH.from a.le
  have H:=n.aS
  have b:=b.I n
  have c:=c.I n
  have e:=e.I n
  have f:=f.I n
  have h:=h.I n
  have IL:=IL.I n
  have a:=a.trans n
  have d:=d.trans n
  refine⟨n.cM (l.trans m).le,?_⟩
  refine bE (h9.aZ (I3.aS (IK.trans (IJ.trans (ID.trans (IE.trans (IF.trans (IG.trans (IH.trans (Ix.trans (P.trans (Iv.trans (l.trans (m.trans H))))))))))))) rfl KH.rd rfl (by first | assumption | decide | omega) (by first | assumption | decide | omega)) fun v IP ⟨j,F⟩=>?_
  obtain⟨JM,KI⟩:∃ y,y=bV (bF (IZ,IQ)*bF (JL.1,JL.2)):=⟨_,rfl⟩
  rw [← KI] at F
  replace g:=cZ KI g
  have Lm:=q4 IZ IQ JL.1 JL.2
  rw [← KI] at Lm
  obtain⟨Mj,Mk,rfl,KJ⟩:=F
  refine cF rfl (a9 (bK rfl (a9 (aQ rfl (b3 (?_))))))
  have KJ:=KJ.from a.le
  have Iy:=j.aS
  have b:=b.I j
  have c:=c.I j
  have e:=e.I j
  have f:=f.I j
  have h:=h.I j
  have IL:=IL.I j
  have a:=a.trans j
  have d:=d.trans j
  refine⟨j.cM (l.trans (m.trans H)).le,?_⟩
  refine bE (gL.aZ (IU.aS (Ix.trans (P.trans (Iv.trans (l.trans (m.trans (H.trans Iy))))))).rd rfl KJ.rd rfl (by first | assumption | decide | omega) (by first | assumption | decide | omega)) fun v Jz ⟨i,F⟩=>?_
  obtain⟨Ml,KK⟩:∃ y,y=bV (bF (IB.1,IB.2) - bF (JM.1,JM.2)):=⟨_,rfl⟩
  rw [← KK] at F
  replace g:=cZ KK g
  have Ln:=nK IB.1 IB.2 JM.1 JM.2
  rw [← KK] at Ln
  obtain⟨Mm,Mn,rfl,KL⟩:=F
  refine cF rfl (a9 (bK rfl (a9 (aQ rfl (b3 (?_))))))
  have KL:=KL.from a.le
  have IC:=i.aS
  have b:=b.I i
  have c:=c.I i
  have e:=e.I i
  have f:=f.I i
  have h:=h.I i
  have IL:=IL.I i
  have a:=a.trans i
  have d:=d.trans i
  refine⟨i.cM (l.trans (m.trans (H.trans Iy))).le,?_⟩
  refine b2 IL (aT _ _) rfl fun JF IL E Iz=>?_
  have b:=b.aJ Ky E
  have c:=c.aJ Kz E
  have e:=e.aJ KA E
  have f:=f.aJ KB E
  have h:=h.aJ KC E
  have a:=aV.I a E KD
  have d:=aV.I d E KZ
  refine b2 IL (aT _ _) rfl fun JG IL G IA=>?_
  have b:=b.aJ Ky G
  have c:=c.aJ Kz G
  have e:=e.aJ KA G
  have f:=f.aJ KB G
  have h:=h.aJ KC G
  have a:=aV.I a G KD
  have d:=aV.I d G KZ
  exact aD.a1 a (I3.aS (IK.trans (IJ.trans (ID.trans (IE.trans (IF.trans (IG.trans (IH.trans (Ix.trans (P.trans (Iv.trans (l.trans (m.trans (H.trans (Iy.trans (IC.trans (Iz.trans IA))))))))))))))))) (by first | assumption | decide | omega) b Jo (I5.aS (IK.trans (IJ.trans (ID.trans (IE.trans (IF.trans (IG.trans (IH.trans (Ix.trans (P.trans (Iv.trans (l.trans (m.trans (H.trans (Iy.trans (IC.trans (Iz.trans IA))))))))))))))))) (by first | assumption | decide | omega) c Jq (iL _ _) (by first | assumption | decide | omega) e Ju (iL _ _) (by first | assumption | decide | omega) f Jy (IU.aS (Ix.trans (P.trans (Iv.trans (l.trans (m.trans (H.trans (Iy.trans (IC.trans (Iz.trans IA)))))))))) (by first | assumption | decide | omega) h Jk (KL.aS (Iz.trans IA)) (by first | assumption | decide | omega) IL KD Jp Js Jv Jg Ky Jt Jw Jh Kz Jx Ji KA Jj KB KC g
def v(aO:Int)(r:Int)(a:Bool)(b:Nat)(c:Bool)(d:Nat)(e:Int):((Bool × Nat) × (Bool × Nat)):=u.v aO r a b c d e
theorem a1{Z:V}{aO:Int}(a:In .u64 aO){r:Int}(b:In .i64 r){c:Bool}{d:R}{e f:Nat}{g:Nat}(h:b4 bR Z d e (D.z g))(i:f=(D.z g).length)(j:(D.z g).length≤40000){l:Bool}{m:R}{n t:Nat}{E:Nat}(G:b4 bR Z m n (D.z E))(H:t=(D.z E).length)(P:(D.z E).length≤40000){Iv:Int}(Iw:In .i64 Iv)(Ix:0≤IntKind.i64.wrap (IntKind.i64.wrap (Iv+1)+r))(Iy:IntKind.i64.wrap (IntKind.i64.wrap (Iv+1)+r)≤10000):aG id #[.int .u64 aO,.int .i64 r,.agg #[.bool c,.slice d f e],.agg #[.bool l,.slice m t n],.int .i64 Iv] Z fun d e=>a2 Z e∧(s2 eH eH) Z e d (v aO r c g l E Iv):=
 ok (u.a1 (a2.refl _) a b h i j G H P Iw Ix Iy fun v K U F=>⟨U,F⟩)
end dQ
namespace hR
def aD.v(a:Bool)(a:Nat)(a:Bool)(b:Nat):(Bool × Nat):=
 bif (decide (((eJ (bF (a,b)) 0))≤(0:Int))) then
  dD (bV (1:Int)) fun c=>
  (c.1,c.2)
 else
  (a,b)
theorem aD.a1{Y:J}{o Z:V}(c:a2 o Z){H:Bool}{P:R}{Iv:Nat}{h:Nat}(II:cH bR o Z P Iv (D.z h))(IJ:(D.z h).length≤100000){iU:Nat}(a:cY Z iU [.bool H,.slice P (D.z h).length Iv])(i:o.size≤iU){Iw:Bool}{Ix:R}{Iy:Nat}{j:Nat}(Iz:cH bR o Z Ix Iy (D.z j))(IK:(D.z j).length≤100000){mX:Nat}(b:cY Z mX [.bool Iw,.slice Ix (D.z j).length Iy])(IL:o.size≤mX)(l:iU ≠ mX)(g:fE eH o Y (aD.v H h Iw j)):aD.t Y (⟨iU,0,none⟩:Addr) (⟨mX,0,none⟩:Addr) Z:=by
 have m:=a2.refl Z
 have IM:=a.lt
 have IN:=b.lt
 have IP:(D.z 0).length=0:=by simp [D.cP]
 unfold aD.v at g
 unfold aD.t
 refine bQ b (aT _ _) rfl ?_
 refine bK rfl ?_
 refine bQ b (aT _ _) rfl ?_
 refine aQ rfl ?_
 refine bE (hP.aZ Iz.rd rfl) fun v IQ ⟨e,F⟩=>?_
 obtain⟨rfl,IS⟩:=F
 refine bJ rfl (?_)
 have IC:=e.aS
 have a:=a.I e
 have b:=b.I e
 have c:=c.trans e
 have m:=m.trans e
 refine mR g (fun ID g=>?_) (fun ID g=>?_)
 ·refine bE (hI.aZ (show In .i64 (1:Int) by decide)) fun v IE ⟨d,F⟩=>?_
  obtain⟨IT,n⟩:∃ y,y=bV (1:Int):=⟨_,rfl⟩
  rw [← n] at F
  replace g:=cZ n g
  have IF:=oB (show In .i64 (1:Int) by decide)
  rw [← n] at IF
  obtain⟨IU,IV,rfl,E⟩:=F
  refine cF rfl (a9 (bK rfl (a9 (aQ rfl (b3 (?_))))))
  have E:=E.from c.le
  have IA:=d.aS
  have a:=a.I d
  have b:=b.I d
  have c:=c.trans d
  have m:=m.trans d
  refine b2 a (aT _ _) rfl fun IG a f G=>?_
  have b:=b.aJ (Ne.symm l) f
  have c:=aV.I c f i
  refine b2 a (aT _ _) rfl fun IW a IB IH=>?_
  have b:=b.aJ (Ne.symm l) IB
  have c:=aV.I c IB i
  refine bQ a (aT _ _) rfl ?_
  refine bK rfl ?_
  refine bQ a (aT _ _) rfl ?_
  refine aQ rfl ?_
  exact g _ _ c ⟨_,_,rfl,(E.aS (G.trans IH))⟩
 ·refine bQ b (aT _ _) rfl ?_
  refine bK rfl ?_
  refine bQ b (aT _ _) rfl ?_
  refine aQ rfl ?_
  refine b2 a (aT _ _) rfl fun IE a d IA=>?_
  have b:=b.aJ (Ne.symm l) d
  have c:=aV.I c d i
  refine b2 a (aT _ _) rfl fun IG a f G=>?_
  have b:=b.aJ (Ne.symm l) f
  have c:=aV.I c f i
  refine bQ a (aT _ _) rfl ?_
  refine bK rfl ?_
  refine bQ a (aT _ _) rfl ?_
  refine aQ rfl ?_
  exact g _ _ c ⟨_,_,rfl,(Iz.aS (IC.trans (IA.trans G)))⟩
def u.v(aO:Int)(r:Int)(a:Bool)(b:Nat)(c:Int):(Bool × Nat):=
 dD (Int.toNat aO) fun d=>
 dD (bV (cB false d)) fun d=>
 dD (bV (bF (d.1,d.2)*2 ^ (Int.toNat ((IntKind.i64.wrap (((IntKind.i64.wrap (c+(1:Int))))+r)))))) fun c=>
 dD (jZ (bF (c.1,c.2)) (bF (a,b))) fun a=>
 aD.v false 0 a.1 a.2
theorem u.a1{Y:J}{o Z:V}(a:a2 o Z){aO:Int}(IU:In .u64 aO){r:Int}(Kb:In .i64 r){Iy:Bool}{JH:R}{JI JJ:Nat}{H:Nat}(IN:b4 bR Z JH JI (D.z H))(JV:JJ=(D.z H).length)(Kc:(D.z H).length≤40000){Iw:Int}(Kd:In .i64 Iw)(Ke:0≤IntKind.i64.wrap (IntKind.i64.wrap (Iw+1)+r))(Kf:IntKind.i64.wrap (IntKind.i64.wrap (Iw+1)+r)≤10000)(g:fE eH o Y (u.v aO r Iy H Iw)):u.t Y aO r Iy JH JJ JI Iw Z:=by
 subst JV
 have c:=a2.refl Z
 have Kg:(D.z 0).length=0:=by simp [D.cP]
 unfold u.v at g
 unfold u.t
 refine dH fun IC d I7=>?_
 have Kh:o.size≤Z.size:=a.le
 have Ki:Z.size≤Z.size:=c.le
 have JW:=d.lt
 have IP:=I7.aS
 have a:=a.trans I7
 have c:=c.trans I7
 refine dH fun IL b IV=>?_
 have Kj:Z.size ≠ IC.size:=Nat.ne_of_lt d.lt
 have b:cY IL (IC.size) [.bool false,.slice none (D.z 0).length 0]:=by rw [D.cP];exact b
 have IQ:o.size≤IC.size:=a.le
 have Kk:Z.size≤IC.size:=c.le
 have Kl:=b.lt
 have IM:=IV.aS
 have d:=d.I IV
 have a:=a.trans IV
 have c:=c.trans IV
 refine kA ?_
 refine kA ?_
 refine⟨eO rfl ((IM).lt JW),?_⟩
 refine bQ d (aT _ _) rfl ?_
 refine bK rfl ?_
 refine bQ d (aT _ _) rfl ?_
 refine aQ rfl ?_
 refine⟨?_,?_⟩
 ·refine bE (gV.a1 IU) fun v IK ⟨Ix,F⟩=>?_
  obtain⟨IW,I8⟩:∃ y,y=Int.toNat aO:=⟨_,rfl⟩
  rw [← I8] at F
  replace g:=cZ I8 g
  have JX:=q3 IU
  rw [← I8] at JX
  obtain⟨Km,Kn,rfl,IX⟩:=F
  refine aQ rfl (?_)
  have IX:=IX.from a.le
  have l:=Ix.aS
  have d:=d.I Ix
  have b:=b.I Ix
  have a:=a.trans Ix
  have c:=c.trans Ix
  refine⟨Ix.cM (Nat.le_refl _),?_⟩
  refine⟨?_,?_⟩
  ·refine bE (eQ.aZ IX.rd rfl) fun v IG ⟨n,F⟩=>?_
   obtain⟨IH,I9⟩:∃ y,y=bV (cB false IW):=⟨_,rfl⟩
   rw [← I9] at F
   replace g:=cZ I9 g
   have JY:=iS false IW
   rw [← I9] at JY
   obtain⟨Ko,Kp,rfl,IY⟩:=F
   refine cF rfl (a9 (bK rfl (a9 (aQ rfl (b3 (?_))))))
   have IY:=IY.from a.le
   have m:=n.aS
   have d:=d.I n
   have b:=b.I n
   have a:=a.trans n
   have c:=c.trans n
   refine⟨n.cM (l).le,?_⟩
   refine⟨?_,?_⟩
   ·refine bE (fZ.aZ IY.rd rfl (lA _ _) (by first | assumption | decide | omega) (by first | assumption | decide | omega) (by first | assumption | decide | omega)) fun v ID ⟨h,F⟩=>?_
    obtain⟨II,Ja⟩:∃ y,y=bV (bF (IH.1,IH.2)*2 ^ (Int.toNat ((IntKind.i64.wrap (((IntKind.i64.wrap (Iw+(1:Int))))+r))))):=⟨_,rfl⟩
    rw [← Ja] at F
    replace g:=cZ Ja g
    have JZ:=lL IH.1 IH.2 ((IntKind.i64.wrap (((IntKind.i64.wrap (Iw+(1:Int))))+r)))
    rw [← Ja] at JZ
    obtain⟨Kq,Kr,rfl,IZ⟩:=F
    refine cF rfl (a9 (bK rfl (a9 (aQ rfl (b3 (?_))))))
    have IZ:=IZ.from a.le
    have E:=h.aS
    have d:=d.I h
    have b:=b.I h
    have a:=a.trans h
    have c:=c.trans h
    refine⟨h.cM (l.trans m).le,?_⟩
    refine⟨?_,?_⟩
    ·refine bE (hZ.aZ IZ.rd rfl (IN.aS (IP.trans (IM.trans (l.trans (m.trans E))))) rfl (by first | assumption | decide | omega) (by first | assumption | decide | omega)) fun v IA ⟨f,F⟩=>?_
     obtain⟨Ks,Jb⟩:∃ y,y=jZ (bF (II.1,II.2)) (bF (Iy,H)):=⟨_,rfl⟩
     rw [← Jb] at F
     replace g:=cZ Jb g
     have J0:=q5 II.1 II.2 Iy H
     rw [← Jb] at J0
     obtain⟨Kt,Ku,rfl,Jc⟩:=F
     refine cF rfl (a9 (bK rfl (a9 (aQ rfl (b3 (?_))))))
     have Jc:=Jc.from a.le
     have P:=f.aS
     have d:=d.I f
     have b:=b.I f
     have a:=a.trans f
     have c:=c.trans f
     refine⟨f.cM (l.trans (m.trans E)).le,?_⟩
     refine dH fun IS IJ e=>?_
     have JK:Z.size ≠ IA.size:=Nat.ne_of_lt d.lt
     have Jd:IC.size ≠ IA.size:=Nat.ne_of_lt b.lt
     have IJ:cY IS (IA.size) [.bool false,.slice none (D.z 0).length 0]:=by rw [D.cP];exact IJ
     have Je:o.size≤IA.size:=a.le
     have JL:Z.size≤IA.size:=c.le
     have Kv:=IJ.lt
     have IT:=e.aS
     have d:=d.I e
     have b:=b.I e
     have a:=a.trans e
     have c:=c.trans e
     refine⟨e.cM (l.trans (m.trans (E.trans P))).le,?_⟩
     refine b2 IJ (aT _ _) rfl fun I0 IJ i IE=>?_
     have d:=d.aJ JK i
     have b:=b.aJ Jd i
     have a:=aV.I a i Je
     have c:=aV.I c i JL
     refine b2 IJ (aT _ _) rfl fun I1 IJ j IF=>?_
     have d:=d.aJ JK j
     have b:=b.aJ Jd j
     have a:=aV.I a j Je
     have c:=aV.I c j JL
     exact aD.a1 a (iL _ _) (by first | assumption | decide | omega) b IQ (Jc.aS (IT.trans (IE.trans IF))) (by first | assumption | decide | omega) IJ Je Jd g
    ·refine dH fun IA IB f=>?_
     have JM:Z.size ≠ ID.size:=Nat.ne_of_lt d.lt
     have Jf:IC.size ≠ ID.size:=Nat.ne_of_lt b.lt
     have IB:cY IA (ID.size) [.bool false,.slice none (D.z 0).length 0]:=by rw [D.cP];exact IB
     have Jg:o.size≤ID.size:=a.le
     have JN:Z.size≤ID.size:=c.le
     have Kw:=IB.lt
     have P:=f.aS
     have d:=d.I f
     have b:=b.I f
     have a:=a.trans f
     have c:=c.trans f
     refine⟨f.cM (l.trans (m.trans E)).le,?_⟩
     refine bE (hZ.aZ (IZ.aS (P)).rd rfl (IN.aS (IP.trans (IM.trans (l.trans (m.trans (E.trans P)))))) rfl (by first | assumption | decide | omega) (by first | assumption | decide | omega)) fun v IS ⟨e,F⟩=>?_
     obtain⟨Kx,Jh⟩:∃ y,y=jZ (bF (II.1,II.2)) (bF (Iy,H)):=⟨_,rfl⟩
     rw [← Jh] at F
     replace g:=cZ Jh g
     have J1:=q5 II.1 II.2 Iy H
     rw [← Jh] at J1
     obtain⟨Ky,Kz,rfl,Ji⟩:=F
     refine cF rfl (a9 (bK rfl (a9 (aQ rfl (b3 (?_))))))
     have Ji:=Ji.from a.le
     have IT:=e.aS
     have d:=d.I e
     have b:=b.I e
     have IB:=IB.I e
     have a:=a.trans e
     have c:=c.trans e
     refine⟨e.cM (l.trans (m.trans (E.trans P))).le,?_⟩
     refine b2 IB (aT _ _) rfl fun I0 IB i IE=>?_
     have d:=d.aJ JM i
     have b:=b.aJ Jf i
     have a:=aV.I a i Jg
     have c:=aV.I c i JN
     refine b2 IB (aT _ _) rfl fun I1 IB j IF=>?_
     have d:=d.aJ JM j
     have b:=b.aJ Jf j
     have a:=aV.I a j Jg
     have c:=aV.I c j JN
     exact aD.a1 a (iL _ _) (by first | assumption | decide | omega) b IQ (Ji.aS (IE.trans IF)) (by first | assumption | decide | omega) IB Jg Jf g
   ·refine dH fun ID Iz h=>?_
    have JO:Z.size ≠ IG.size:=Nat.ne_of_lt d.lt
    have Jj:IC.size ≠ IG.size:=Nat.ne_of_lt b.lt
    have Iz:cY ID (IG.size) [.bool false,.slice none (D.z 0).length 0]:=by rw [D.cP];exact Iz
    have Jk:o.size≤IG.size:=a.le
    have JP:Z.size≤IG.size:=c.le
    have KA:=Iz.lt
    have E:=h.aS
    have d:=d.I h
    have b:=b.I h
    have a:=a.trans h
    have c:=c.trans h
    refine⟨h.cM (l.trans m).le,?_⟩
    refine bE (fZ.aZ (IY.aS (E)).rd rfl (lA _ _) (by first | assumption | decide | omega) (by first | assumption | decide | omega) (by first | assumption | decide | omega)) fun v IA ⟨f,F⟩=>?_
    obtain⟨I2,Jl⟩:∃ y,y=bV (bF (IH.1,IH.2)*2 ^ (Int.toNat ((IntKind.i64.wrap (((IntKind.i64.wrap (Iw+(1:Int))))+r))))):=⟨_,rfl⟩
    rw [← Jl] at F
    replace g:=cZ Jl g
    have J2:=lL IH.1 IH.2 ((IntKind.i64.wrap (((IntKind.i64.wrap (Iw+(1:Int))))+r)))
    rw [← Jl] at J2
    obtain⟨KB,KC,rfl,Jm⟩:=F
    refine cF rfl (a9 (bK rfl (a9 (aQ rfl (b3 (?_))))))
    have Jm:=Jm.from a.le
    have P:=f.aS
    have d:=d.I f
    have b:=b.I f
    have Iz:=Iz.I f
    have a:=a.trans f
    have c:=c.trans f
    refine⟨f.cM (l.trans (m.trans E)).le,?_⟩
    refine bE (hZ.aZ Jm.rd rfl (IN.aS (IP.trans (IM.trans (l.trans (m.trans (E.trans P)))))) rfl (by first | assumption | decide | omega) (by first | assumption | decide | omega)) fun v IS ⟨e,F⟩=>?_
    obtain⟨KD,Jn⟩:∃ y,y=jZ (bF (I2.1,I2.2)) (bF (Iy,H)):=⟨_,rfl⟩
    rw [← Jn] at F
    replace g:=cZ Jn g
    have J3:=q5 I2.1 I2.2 Iy H
    rw [← Jn] at J3
    obtain⟨KE,KF,rfl,Jo⟩:=F
    refine cF rfl (a9 (bK rfl (a9 (aQ rfl (b3 (?_))))))
    have Jo:=Jo.from a.le
    have IT:=e.aS
    have d:=d.I e
    have b:=b.I e
    have Iz:=Iz.I e
    have a:=a.trans e
    have c:=c.trans e
    refine⟨e.cM (l.trans (m.trans (E.trans P))).le,?_⟩
    refine b2 Iz (aT _ _) rfl fun I0 Iz i IE=>?_
    have d:=d.aJ JO i
    have b:=b.aJ Jj i
    have a:=aV.I a i Jk
    have c:=aV.I c i JP
    refine b2 Iz (aT _ _) rfl fun I1 Iz j IF=>?_
    have d:=d.aJ JO j
    have b:=b.aJ Jj j
    have a:=aV.I a j Jk
    have c:=aV.I c j JP
    exact aD.a1 a (iL _ _) (by first | assumption | decide | omega) b IQ (Jo.aS (IE.trans IF)) (by first | assumption | decide | omega) Iz Jk Jj g
  ·refine dH fun IG Iv n=>?_
   have JQ:Z.size ≠ IK.size:=Nat.ne_of_lt d.lt
   have Jp:IC.size ≠ IK.size:=Nat.ne_of_lt b.lt
   have Iv:cY IG (IK.size) [.bool false,.slice none (D.z 0).length 0]:=by rw [D.cP];exact Iv
   have Jq:o.size≤IK.size:=a.le
   have JR:Z.size≤IK.size:=c.le
   have KG:=Iv.lt
   have m:=n.aS
   have d:=d.I n
   have b:=b.I n
   have a:=a.trans n
   have c:=c.trans n
   refine⟨n.cM (l).le,?_⟩
   refine bE (eQ.aZ (IX.aS (m)).rd rfl) fun v ID ⟨h,F⟩=>?_
   obtain⟨I3,Jr⟩:∃ y,y=bV (cB false IW):=⟨_,rfl⟩
   rw [← Jr] at F
   replace g:=cZ Jr g
   have J4:=iS false IW
   rw [← Jr] at J4
   obtain⟨KH,KI,rfl,Js⟩:=F
   refine cF rfl (a9 (bK rfl (a9 (aQ rfl (b3 (?_))))))
   have Js:=Js.from a.le
   have E:=h.aS
   have d:=d.I h
   have b:=b.I h
   have Iv:=Iv.I h
   have a:=a.trans h
   have c:=c.trans h
   refine⟨h.cM (l.trans m).le,?_⟩
   refine bE (fZ.aZ Js.rd rfl (lA _ _) (by first | assumption | decide | omega) (by first | assumption | decide | omega) (by first | assumption | decide | omega)) fun v IA ⟨f,F⟩=>?_
   obtain⟨I4,Jt⟩:∃ y,y=bV (bF (I3.1,I3.2)*2 ^ (Int.toNat ((IntKind.i64.wrap (((IntKind.i64.wrap (Iw+(1:Int))))+r))))):=⟨_,rfl⟩
   rw [← Jt] at F
   replace g:=cZ Jt g
   have J5:=lL I3.1 I3.2 ((IntKind.i64.wrap (((IntKind.i64.wrap (Iw+(1:Int))))+r)))
   rw [← Jt] at J5
   obtain⟨KJ,KK,rfl,Ju⟩:=F
   refine cF rfl (a9 (bK rfl (a9 (aQ rfl (b3 (?_))))))
   have Ju:=Ju.from a.le
   have P:=f.aS
   have d:=d.I f
   have b:=b.I f
   have Iv:=Iv.I f
   have a:=a.trans f
   have c:=c.trans f
   refine⟨f.cM (l.trans (m.trans E)).le,?_⟩
   refine bE (hZ.aZ Ju.rd rfl (IN.aS (IP.trans (IM.trans (l.trans (m.trans (E.trans P)))))) rfl (by first | assumption | decide | omega) (by first | assumption | decide | omega)) fun v IS ⟨e,F⟩=>?_
   obtain⟨KL,Jv⟩:∃ y,y=jZ (bF (I4.1,I4.2)) (bF (Iy,H)):=⟨_,rfl⟩
   rw [← Jv] at F
   replace g:=cZ Jv g
   have J6:=q5 I4.1 I4.2 Iy H
   rw [← Jv] at J6
   obtain⟨KM,KN,rfl,Jw⟩:=F
   refine cF rfl (a9 (bK rfl (a9 (aQ rfl (b3 (?_))))))
   have Jw:=Jw.from a.le
   have IT:=e.aS
   have d:=d.I e
   have b:=b.I e
   have Iv:=Iv.I e
   have a:=a.trans e
   have c:=c.trans e
   refine⟨e.cM (l.trans (m.trans (E.trans P))).le,?_⟩
   refine b2 Iv (aT _ _) rfl fun I0 Iv i IE=>?_
   have d:=d.aJ JQ i
   have b:=b.aJ Jp i
   have a:=aV.I a i Jq
   have c:=aV.I c i JR
   refine b2 Iv (aT _ _) rfl fun I1 Iv j IF=>?_
   have d:=d.aJ JQ j
   have b:=b.aJ Jp j
   have a:=aV.I a j Jq
   have c:=aV.I c j JR
   exact aD.a1 a (iL _ _) (by first | assumption | decide | omega) b IQ (Jw.aS (IE.trans IF)) (by first | assumption | decide | omega) Iv Jq Jp g
 ·refine dH fun IK G Ix=>?_
  have JS:Z.size ≠ IL.size:=Nat.ne_of_lt d.lt
  have Jx:IC.size ≠ IL.size:=Nat.ne_of_lt b.lt
  have G:cY IK (IL.size) [.bool false,.slice none (D.z 0).length 0]:=by rw [D.cP];exact G
  have Jy:o.size≤IL.size:=a.le
  have JT:Z.size≤IL.size:=c.le
  have KO:=G.lt
  have l:=Ix.aS
  have d:=d.I Ix
  have b:=b.I Ix
  have a:=a.trans Ix
  have c:=c.trans Ix
  refine⟨Ix.cM (Nat.le_refl _),?_⟩
  refine bE (gV.a1 IU) fun v IG ⟨n,F⟩=>?_
  obtain⟨JU,Jz⟩:∃ y,y=Int.toNat aO:=⟨_,rfl⟩
  rw [← Jz] at F
  replace g:=cZ Jz g
  have J7:=q3 IU
  rw [← Jz] at J7
  obtain⟨KP,KQ,rfl,JA⟩:=F
  refine aQ rfl (?_)
  have JA:=JA.from a.le
  have m:=n.aS
  have d:=d.I n
  have b:=b.I n
  have G:=G.I n
  have a:=a.trans n
  have c:=c.trans n
  refine⟨n.cM (l).le,?_⟩
  refine bE (eQ.aZ JA.rd rfl) fun v ID ⟨h,F⟩=>?_
  obtain⟨I5,JB⟩:∃ y,y=bV (cB false JU):=⟨_,rfl⟩
  rw [← JB] at F
  replace g:=cZ JB g
  have J8:=iS false JU
  rw [← JB] at J8
  obtain⟨KR,KS,rfl,JC⟩:=F
  refine cF rfl (a9 (bK rfl (a9 (aQ rfl (b3 (?_))))))
  have JC:=JC.from a.le
  have E:=h.aS
  have d:=d.I h
  have b:=b.I h
  have G:=G.I h
  have a:=a.trans h
  have c:=c.trans h
  refine⟨h.cM (l.trans m).le,?_⟩
  refine bE (fZ.aZ JC.rd rfl (lA _ _) (by first | assumption | decide | omega) (by first | assumption | decide | omega) (by first | assumption | decide | omega)) fun v IA ⟨f,F⟩=>?_
  obtain⟨I6,JD⟩:∃ y,y=bV (bF (I5.1,I5.2)*2 ^ (Int.toNat ((IntKind.i64.wrap (((IntKind.i64.wrap (Iw+(1:Int))))+r))))):=⟨_,rfl⟩
  rw [← JD] at F
  replace g:=cZ JD g
  have J9:=lL I5.1 I5.2 ((IntKind.i64.wrap (((IntKind.i64.wrap (Iw+(1:Int))))+r)))
  rw [← JD] at J9
  obtain⟨KT,KU,rfl,JE⟩:=F
  refine cF rfl (a9 (bK rfl (a9 (aQ rfl (b3 (?_))))))
  have JE:=JE.from a.le
  have P:=f.aS
  have d:=d.I f
  have b:=b.I f
  have G:=G.I f
  have a:=a.trans f
  have c:=c.trans f
  refine⟨f.cM (l.trans (m.trans E)).le,?_⟩
  refine bE (hZ.aZ JE.rd rfl (IN.aS (IP.trans (IM.trans (l.trans (m.trans (E.trans P)))))) rfl (by first | assumption | decide | omega) (by first | assumption | decide | omega)) fun v IS ⟨e,F⟩=>?_
  obtain⟨KV,JF⟩:∃ y,y=jZ (bF (I6.1,I6.2)) (bF (Iy,H)):=⟨_,rfl⟩
  rw [← JF] at F
  replace g:=cZ JF g
  have Ka:=q5 I6.1 I6.2 Iy H
  rw [← JF] at Ka
  obtain⟨KW,KX,rfl,JG⟩:=F
  refine cF rfl (a9 (bK rfl (a9 (aQ rfl (b3 (?_))))))
  have JG:=JG.from a.le
  have IT:=e.aS
  have d:=d.I e
  have b:=b.I e
  have G:=G.I e
  have a:=a.trans e
  have c:=c.trans e
  refine⟨e.cM (l.trans (m.trans (E.trans P))).le,?_⟩
  refine b2 G (aT _ _) rfl fun I0 G i IE=>?_
  have d:=d.aJ JS i
  have b:=b.aJ Jx i
  have a:=aV.I a i Jy
  have c:=aV.I c i JT
  refine b2 G (aT _ _) rfl fun I1 G j IF=>?_
  have d:=d.aJ JS j
  have b:=b.aJ Jx j
  have a:=aV.I a j Jy
  have c:=aV.I c j JT
  exact aD.a1 a (iL _ _) (by first | assumption | decide | omega) b IQ (JG.aS (IE.trans IF)) (by first | assumption | decide | omega) G Jy Jx g
def v(aO:Int)(r:Int)(a:Bool)(b:Nat)(c:Int):(Bool × Nat):=u.v aO r a b c
theorem a1{Z:V}{aO:Int}(a:In .u64 aO){r:Int}(b:In .i64 r){c:Bool}{d:R}{e f:Nat}{g:Nat}(h:b4 bR Z d e (D.z g))(i:f=(D.z g).length)(j:(D.z g).length≤40000){l:Int}(m:In .i64 l)(n:0≤IntKind.i64.wrap (IntKind.i64.wrap (l+1)+r))(t:IntKind.i64.wrap (IntKind.i64.wrap (l+1)+r)≤10000):aG id #[.int .u64 aO,.int .i64 r,.agg #[.bool c,.slice d f e],.int .i64 l] Z fun d e=>a2 Z e∧eH Z e d (v aO r c g l):=
 ok (u.a1 (a2.refl _) a b h i j m n t fun v K U F=>⟨U,F⟩)
end hR
section
variable {a N:R} {c aB l m aH aY:Nat} {Z:V} {Q k a5:Int} {y x:Bool}
theorem dQ.aZ(T:In .u64 Q)(M:In .i64 k)(C:b4 bR Z a c (D.z aH))(O:l=(D.z aH).length)(F:b4 bR Z N aB (D.z aY))(a3:m=(D.z aY).length)(U:In .i64 a5)(b:(D.z aH).length≤40000)(d:(D.z aY).length≤40000)
  (e:0≤IntKind.i64.wrap (IntKind.i64.wrap (a5+1)+k)) (f:IntKind.i64.wrap (IntKind.i64.wrap (a5+1)+k)≤10000) :
  aG dQ.id #[.int .u64 Q,.int .i64 k,.agg #[.bool y,.slice a l c],.agg #[.bool x,.slice N m aB],.int .i64 a5] Z fun v K=>a2 Z K∧s2 eH eH Z K v (dQ.v Q k y aH x aY a5):=
 dQ.a1 T M C O b F a3 d U e f
theorem hR.aZ(T:In .u64 Q)(M:In .i64 k)(C:b4 bR Z a c (D.z aH))(O:l=(D.z aH).length)(U:In .i64 a5)(b:(D.z aH).length≤40000)
  (d:0≤IntKind.i64.wrap (IntKind.i64.wrap (a5+1)+k)) (e:IntKind.i64.wrap (IntKind.i64.wrap (a5+1)+k)≤10000) :
  aG hR.id #[.int .u64 Q,.int .i64 k,.agg #[.bool y,.slice a l c],.int .i64 a5] Z fun v K=>a2 Z K∧eH Z K v (hR.v Q k y aH a5):=
 hR.a1 T M C O b U d e
theorem Bp{a a7:Int}{U m:Nat}(b:(D.z a.natAbs).length≤U)(c:(D.z a7.natAbs).length≤m):(D.z (a - a7).natAbs).length≤U+m+1:=by
 rw [D.e2] at *
 have aI:2 ^ (32*U)≤2 ^ (32*(U+m)):=Nat.pow_le_pow_right (by decide) (by omega)
 have d:2 ^ (32*m)≤2 ^ (32*(U+m)):=Nat.pow_le_pow_right (by decide) (by omega)
 have e:2 ^ (32*(U+m+1))=2 ^ (32*(U+m))*2 ^ 32:=by rw [← Nat.pow_add];congr 1
 have f:2 ^ (32*(U+m))*2≤2 ^ (32*(U+m))*2 ^ 32:=Nat.mul_le_mul_left _ (by decide)
 omega
theorem FZ(e:Bool)(f:Nat)(g:Bool)(h:Nat)(c:Bool)(a:Nat)(d:Bool)(b:Nat){n:Nat}(i:(D.z a).length≤n)(j:(D.z b).length≤n):
  (D.z (dQ.a4.v e f g h c a d b).1.2).length≤n∧(D.z (dQ.a4.v e f g h c a d b).2.2).length≤n:=by
 have l:(D.z 0).length≤n:=by rw [D.cP];exact Nat.zero_le _
 have m:=pN c a
 have t:=pN d b
 unfold dQ.a4.v
 cases decide (eJ (bF (c,a)) 0≥0)
 ·cases decide (eJ (bF (d,b)) 0≤0)
  ·exact⟨l,l⟩
  ·exact⟨Nat.le_trans t j,Nat.le_trans m i⟩
 ·exact⟨i,j⟩
theorem lM(T:In .u64 Q)(k:Int)(y:Bool)(aH:Nat)(x:Bool)(aY:Nat)(a5:Int):
  (D.z (dQ.v Q k y aH x aY a5).1.2).length≤(D.z aH).length+(D.z aY).length+Int.toNat (IntKind.i64.wrap (IntKind.i64.wrap (a5+1)+k)) / 32+20
  ∧(D.z (dQ.v Q k y aH x aY a5).2.2).length≤(D.z aH).length+(D.z aY).length+Int.toNat (IntKind.i64.wrap (IntKind.i64.wrap (a5+1)+k)) / 32+20:=by
 unfold dQ.v dQ.u.v dQ.aD.v
 simp only [dD]
 have j:=q3 T
 have aI:=iS false (Int.toNat Q)
 have d:=lL (bV (cB false (Int.toNat Q))).1 (bV (cB false (Int.toNat Q))).2 (IntKind.i64.wrap (IntKind.i64.wrap (a5+1)+k))
 generalize IntKind.i64.wrap (IntKind.i64.wrap (a5+1)+k)=n at *
 have O:∀ T:Int,bF ((bV T).1,(bV T).2)=T:=fun T=>oA T
 simp only [O] at *
 generalize l:cB false (Int.toNat Q)*2 ^ Int.toNat n=a at *
 have b:(D.z a.natAbs).length≤Int.toNat n / 32+3:=by
  have:(bV a).2=a.natAbs:=rfl
  rw [this] at d;omega
 have c:=pO x aY false 1
 have m:(D.z 1).length≤1:=D.e2.mpr (by decide)
 have e:bF (false,1)=1:=rfl
 rw [e] at c
 generalize t:bF (x,aY)+1=a7 at *
 have f:(D.z (bF (y,aH)*a7).natAbs).length≤(D.z aH).length+(D.z a7.natAbs).length:=by
  rw [Int.natAbs_mul,jM];exact q2 aH _
 have g:(bV a7).2=a7.natAbs:=rfl
 rw [g] at c
 have h:(D.z (bF (y,aH)*bF (x,aY)).natAbs).length≤(D.z aH).length+(D.z aY).length:=by
  rw [Int.natAbs_mul,jM,jM];exact q2 aH aY
 have E:=Bp b f
 have G:=Bp b h
 generalize a - bF (y,aH)*a7=dJ at *
 generalize a - bF (y,aH)*bF (x,aY)=i at *
 exact FZ _ _ _ _ _ _ _ _ (show(D.z dJ.natAbs).length≤_ by omega) (show(D.z i.natAbs).length≤_ by omega)
theorem F0(T:In .u64 Q)(k:Int)(y:Bool)(aH:Nat)(a5:Int):
  (D.z (hR.v Q k y aH a5).2).length≤Int.toNat (IntKind.i64.wrap (IntKind.i64.wrap (a5+1)+k)) / 32+20:=by
 unfold hR.v hR.u.v
 simp only [dD]
 have e:=q3 T
 have aI:=iS false (Int.toNat Q)
 have f:=lL (bV (cB false (Int.toNat Q))).1 (bV (cB false (Int.toNat Q))).2 (IntKind.i64.wrap (IntKind.i64.wrap (a5+1)+k))
 generalize IntKind.i64.wrap (IntKind.i64.wrap (a5+1)+k)=n at *
 generalize g:bV (bF ((bV (cB false (Int.toNat Q))).1,(bV (cB false (Int.toNat Q))).2)*2 ^ Int.toNat n)=a at *
 have h:=q5 a.1 a.2 y aH
 generalize i:jZ (bF (a.1,a.2)) (bF (y,aH))=a7 at *
 have b:(D.z 1).length≤1:=D.e2.mpr (by decide)
 have c:∀ eY,eY=Int.toNat n / 32+20→(D.z a7.2).length≤eY→(D.z (hR.aD.v false 0 a7.1 a7.2).2).length≤eY:=by
  intro eY O d
  unfold hR.aD.v
  cases decide (eJ (bF (a7.1,a7.2)) 0≤0)
  ·exact d
  ·exact Nat.le_trans b (by omega)
 exact c _ rfl (by omega)
end
namespace iV
def bP.v(aU:Int)(aA:Int)(aL:Int)(aR:Int)(a:Int)(b:List Nat)(e6:Int)(c:Bool)(d:Nat)(e:Bool)(f:Nat)(g:Bool)(h:Nat):Bool:=
 dD (bV (1:Int)) fun i=>
 dD (bV (bF (i.1,i.2)*2 ^ (Int.toNat ((IntKind.i64.wrap (aR+(1:Int))))))) fun i=>
 dD (bV (bF (g,h)*2 ^ (Int.toNat ((IntKind.i64.wrap (e6+(70:Int))))))) fun g=>
 dD (bV (bF (i.1,i.2)*2 ^ (Int.toNat (70:Int)))) fun h=>
 bif (decide (((eJ (bF (g.1,g.2)) (bF (h.1,h.2))))≤(0:Int))) then
  false
 else
  dD (bV (bF (e,f)*2 ^ (Int.toNat ((IntKind.i64.wrap (e6+(70:Int))))))) fun g=>
  dD (bV (bF (i.1,i.2)*2 ^ (Int.toNat (71:Int)))) fun h=>
  bif (decide (((eJ (bF (g.1,g.2)) (bF (h.1,h.2))))≥(0:Int))) then
   false
  else
   dD (hR.v ((iX .u64 ((e7 .u64 (1:Int) ((IntKind.i64.wrap (aA - (1:Int)))))) ((fK .u64 aU ((IntKind.u64.wrap (((e7 .u64 (1:Int) ((IntKind.i64.wrap (aA - (1:Int)))))) - (1:Int)))))))) aL c d aR) fun g=>
   dD (dQ.v ((iX .u64 ((e7 .u64 (1:Int) ((IntKind.i64.wrap (aA - (1:Int)))))) ((fK .u64 aU ((IntKind.u64.wrap (((e7 .u64 (1:Int) ((IntKind.i64.wrap (aA - (1:Int)))))) - (1:Int)))))))) aL g.1 g.2 c d aR) fun c=>
   bif (((iX .u64 ((e7 .u64 (1:Int) ((IntKind.i64.wrap (aA - (1:Int)))))) ((fK .u64 aU ((IntKind.u64.wrap (((e7 .u64 (1:Int) ((IntKind.i64.wrap (aA - (1:Int)))))) - (1:Int)))))))) == a) then
    dD (bV (iK (false,b))) fun a=>
    (((eJ (bF (g.1,g.2)) (bF (a.1,a.2)))) == (0:Int))
   else
    (decide (((eJ (bF (c.2.1,c.2.2)) (bF (e,f)))) > (0:Int)))
theorem bP.a1{Y:J}{o Z:V}(a:a2 o Z){aU:Int}(KO:In .u64 aU){aA:Int}(KP:In .i64 aA){aL:Int}(JM:In .i64 aL){aR:Int}(JN:In .i64 aR){Jt:Int}(KQ:In .u64 Jt){JO:R}{JP:Nat}{Jk:List Nat}(JQ:cH dB o Z JO JP Jk){e6:Int}(KR:In .i64 e6){dY:Nat}(b:cY Z dY [.int .u64 Jt,.slice JO Jk.length JP,.int .i64 e6])(KS:o.size≤dY){Jd:Bool}{JR:R}{JS:Nat}{IU:Nat}(JT:cH bR o Z JR JS (D.z IU))(KT:(D.z IU).length≤20000){eR:Nat}(c:cY Z eR [.bool Jd,.slice JR (D.z IU).length JS])(KU:o.size≤eR){Jm:Bool}{JU:R}{JV:Nat}{Je:Nat}(JW:cH bR o Z JU JV (D.z Je))(KV:(D.z Je).length≤20000){IA:Nat}(d:cY Z IA [.bool Jm,.slice JU (D.z Je).length JV])(KW:o.size≤IA){Jn:Bool}{JX:R}{JY:Nat}{Jf:Nat}(Ku:cH bR o Z JX JY (D.z Jf))(KX:(D.z Jf).length≤20000){kI:Nat}(e:cY Z kI [.bool Jn,.slice JX (D.z Jf).length JY])(KY:o.size≤kI)(KZ:dY ≠ eR)(K0:dY ≠ IA)(K1:dY ≠ kI)(K2:eR ≠ IA)(K3:eR ≠ kI)(K4:IA ≠ kI)(K5:0≤IntKind.i64.wrap (IntKind.i64.wrap (aR+1)+aL))(K6:IntKind.i64.wrap (IntKind.i64.wrap (aR+1)+aL)≤10000)(K7:0≤IntKind.i64.wrap (aR+1))(K8:IntKind.i64.wrap (aR+1)≤10000)(K9:0≤IntKind.i64.wrap (e6+70))(La:IntKind.i64.wrap (e6+70)≤10000)(Lb:0≤IntKind.i64.wrap (aA - 1))(Lc:Jk.length≤1000)(g:fE qN o Y (bP.v aU aA aL aR Jt Jk e6 Jd IU Jm Je Jn Jf)):bP.t Y aU aA aL aR (⟨dY,0,none⟩:Addr) (⟨eR,0,none⟩:Addr) (⟨IA,0,none⟩:Addr) (⟨kI,0,none⟩:Addr) Z:=by
 have f:=a2.refl Z
 have Ju:=b.lt
 have Ld:=c.lt
 have Kv:=d.lt
 have Kw:=e.lt
 have Le:(D.z 0).length=0:=by simp [D.cP]
 unfold bP.v at g
 unfold bP.t
 refine bE (hI.aZ (show In .i64 (1:Int) by decide)) fun v Lf ⟨I1,F⟩=>?_
 obtain⟨Jo,Jv⟩:∃ y,y=bV (1:Int):=⟨_,rfl⟩
 rw [← Jv] at F
 replace g:=cZ Jv g
 have Kx:=oB (show In .i64 (1:Int) by decide)
 rw [← Jv] at Kx
 obtain⟨Lg,Lh,rfl,Jw⟩:=F
 refine cF rfl (a9 (bK rfl (a9 (aQ rfl (b3 (?_))))))
 have Jw:=Jw.from a.le
 have Iv:=I1.aS
 have b:=b.I I1
 have c:=c.I I1
 have d:=d.I I1
 have e:=e.I I1
 have a:=a.trans I1
 have f:=f.trans I1
 refine kA ?_
 refine bE (fZ.aZ Jw.rd rfl (lA _ _) (by first | assumption | decide | omega) (by first | assumption | decide | omega) (by first | assumption | decide | omega)) fun v IB ⟨I2,F⟩=>?_
 obtain⟨IV,Jx⟩:∃ y,y=bV (bF (Jo.1,Jo.2)*2 ^ (Int.toNat ((IntKind.i64.wrap (aR+(1:Int)))))):=⟨_,rfl⟩
 rw [← Jx] at F
 replace g:=cZ Jx g
 have Ky:=lL Jo.1 Jo.2 ((IntKind.i64.wrap (aR+(1:Int))))
 rw [← Jx] at Ky
 obtain⟨Li,Lj,rfl,Jp⟩:=F
 refine cF rfl (a9 (bK rfl (a9 (aQ rfl (b3 (?_))))))
 have Jp:=Jp.from a.le
 have Iw:=I2.aS
 have b:=b.I I2
 have c:=c.I I2
 have d:=d.I I2
 have e:=e.I I2
 have a:=a.trans I2
 have f:=f.trans I2
 refine dH fun Kz h I3=>?_
 have JZ:dY ≠ IB.size:=Nat.ne_of_lt b.lt
 have J0:eR ≠ IB.size:=Nat.ne_of_lt c.lt
 have J1:IA ≠ IB.size:=Nat.ne_of_lt d.lt
 have J2:kI ≠ IB.size:=Nat.ne_of_lt e.lt
 have h:cY Kz (IB.size) [.bool false,.slice none (D.z 0).length 0]:=by rw [D.cP];exact h
 have J3:o.size≤IB.size:=a.le
 have J4:Z.size≤IB.size:=f.le
 have J5:=h.lt
 have G:=I3.aS
 have b:=b.I I3
 have c:=c.I I3
 have d:=d.I I3
 have e:=e.I I3
 have a:=a.trans I3
 have f:=f.trans I3
 refine b2 h (aT _ _) rfl fun Lk h Jg n=>?_
 have b:=b.aJ JZ Jg
 have c:=c.aJ J0 Jg
 have d:=d.aJ J1 Jg
 have e:=e.aJ J2 Jg
 have a:=aV.I a Jg J3
 have f:=aV.I f Jg J4
 refine b2 h (aT _ _) rfl fun Ll h Jh E=>?_
 have b:=b.aJ JZ Jh
 have c:=c.aJ J0 Jh
 have d:=d.aJ J1 Jh
 have e:=e.aJ J2 Jh
 have a:=aV.I a Jh J3
 have f:=aV.I f Jh J4
 refine⟨eO rfl ((Iv.trans (Iw.trans (G.trans (n.trans E)))).lt Kw),?_⟩
 refine bQ e (aT _ _) rfl ?_
 refine bK rfl ?_
 refine bQ e (aT _ _) rfl ?_
 refine aQ rfl ?_
 refine⟨eO (aT _ _) ((Iv.trans (Iw.trans (G.trans (n.trans E)))).lt Ju),?_⟩
 refine bQ b (aT _ _) rfl ?_
 refine bJ rfl ?_
 refine kA ?_
 refine bE (fZ.aZ (Ku.aS (Iv.trans (Iw.trans (G.trans (n.trans E))))).rd rfl (lA _ _) (by first | assumption | decide | omega) (by first | assumption | decide | omega) (by first | assumption | decide | omega)) fun v Lm ⟨IF,F⟩=>?_
 obtain⟨Ln,Jy⟩:∃ y,y=bV (bF (Jn,Jf)*2 ^ (Int.toNat ((IntKind.i64.wrap (e6+(70:Int)))))):=⟨_,rfl⟩
 rw [← Jy] at F
 replace g:=cZ Jy g
 have KA:=lL Jn Jf ((IntKind.i64.wrap (e6+(70:Int))))
 rw [← Jy] at KA
 obtain⟨Lo,Lp,rfl,Jz⟩:=F
 refine cF rfl (a9 (bK rfl (a9 (aQ rfl (b3 (?_))))))
 have Jz:=Jz.from a.le
 have H:=IF.aS
 have b:=b.I IF
 have c:=c.I IF
 have d:=d.I IF
 have e:=e.I IF
 have h:=h.I IF
 have a:=a.trans IF
 have f:=f.trans IF
 refine⟨IF.cM (Nat.le_refl _),?_⟩
 refine⟨eO rfl ((n.trans E).lt J5),?_⟩
 refine bQ h (aT _ _) rfl ?_
 refine bK rfl ?_
 refine bQ h (aT _ _) rfl ?_
 refine aQ rfl ?_
 refine bE (fZ.aZ (Jp.aS (G.trans (n.trans (E.trans H)))).rd rfl (show In .i64 (70:Int) by decide) (by first | assumption | decide | omega) (by first | assumption | decide | omega) (by first | assumption | decide | omega)) fun v Lq ⟨IG,F⟩=>?_
 obtain⟨Lr,JA⟩:∃ y,y=bV (bF (IV.1,IV.2)*2 ^ (Int.toNat (70:Int))):=⟨_,rfl⟩
 rw [← JA] at F
 replace g:=cZ JA g
 have KB:=lL IV.1 IV.2 (70:Int)
 rw [← JA] at KB
 obtain⟨Ls,Lt,rfl,JB⟩:=F
 refine cF rfl (a9 (bK rfl (a9 (aQ rfl (b3 (?_))))))
 have JB:=JB.from a.le
 have P:=IG.aS
 have b:=b.I IG
 have c:=c.I IG
 have d:=d.I IG
 have e:=e.I IG
 have h:=h.I IG
 have a:=a.trans IG
 have f:=f.trans IG
 refine⟨IG.cM (H).le,?_⟩
 refine bE (iA.aZ (Jz.aS (P)).rd rfl JB.rd rfl (by first | assumption | decide | omega) (by first | assumption | decide | omega)) fun v Lu ⟨IH,F⟩=>?_
 obtain⟨rfl,Lv⟩:=F
 refine bJ rfl (?_)
 have Iy:=IH.aS
 have b:=b.I IH
 have c:=c.I IH
 have d:=d.I IH
 have e:=e.I IH
 have h:=h.I IH
 have a:=a.trans IH
 have f:=f.trans IH
 refine⟨IH.cM (H.trans P).le,?_⟩
 refine mR g (fun KC g=>?_) (fun KC g=>?_)
 ·exact g _ _ a rfl
 ·refine⟨eO rfl ((Iv.trans (Iw.trans (G.trans (n.trans (E.trans (H.trans (P.trans Iy))))))).lt Kv),?_⟩
  refine bQ d (aT _ _) rfl ?_
  refine bK rfl ?_
  refine bQ d (aT _ _) rfl ?_
  refine aQ rfl ?_
  refine⟨eO (aT _ _) ((Iv.trans (Iw.trans (G.trans (n.trans (E.trans (H.trans (P.trans Iy))))))).lt Ju),?_⟩
  refine bQ b (aT _ _) rfl ?_
  refine bJ rfl ?_
  refine kA ?_
  refine bE (fZ.aZ (JW.aS (Iv.trans (Iw.trans (G.trans (n.trans (E.trans (H.trans (P.trans Iy)))))))).rd rfl (lA _ _) (by first | assumption | decide | omega) (by first | assumption | decide | omega) (by first | assumption | decide | omega)) fun v Lw ⟨II,F⟩=>?_
  obtain⟨Lx,JC⟩:∃ y,y=bV (bF (Jm,Je)*2 ^ (Int.toNat ((IntKind.i64.wrap (e6+(70:Int)))))):=⟨_,rfl⟩
  rw [← JC] at F
  replace g:=cZ JC g
  have KD:=lL Jm Je ((IntKind.i64.wrap (e6+(70:Int))))
  rw [← JC] at KD
  obtain⟨Ly,Lz,rfl,JD⟩:=F
  refine cF rfl (a9 (bK rfl (a9 (aQ rfl (b3 (?_))))))
  have JD:=JD.from a.le
  have IJ:=II.aS
  have b:=b.I II
  have c:=c.I II
  have d:=d.I II
  have e:=e.I II
  have h:=h.I II
  have a:=a.trans II
  have f:=f.trans II
  refine⟨II.cM (Nat.le_refl _),?_⟩
  refine⟨eO rfl ((n.trans (E.trans (H.trans (P.trans Iy)))).lt J5),?_⟩
  refine bQ h (aT _ _) rfl ?_
  refine bK rfl ?_
  refine bQ h (aT _ _) rfl ?_
  refine aQ rfl ?_
  refine bE (fZ.aZ (Jp.aS (G.trans (n.trans (E.trans (H.trans (P.trans (Iy.trans IJ))))))).rd rfl (show In .i64 (71:Int) by decide) (by first | assumption | decide | omega) (by first | assumption | decide | omega) (by first | assumption | decide | omega)) fun v LA ⟨IK,F⟩=>?_
  obtain⟨LB,JE⟩:∃ y,y=bV (bF (IV.1,IV.2)*2 ^ (Int.toNat (71:Int))):=⟨_,rfl⟩
  rw [← JE] at F
  replace g:=cZ JE g
  have KE:=lL IV.1 IV.2 (71:Int)
  rw [← JE] at KE
  obtain⟨LC,LD,rfl,JF⟩:=F
  refine cF rfl (a9 (bK rfl (a9 (aQ rfl (b3 (?_))))))
  have JF:=JF.from a.le
  have IW:=IK.aS
  have b:=b.I IK
  have c:=c.I IK
  have d:=d.I IK
  have e:=e.I IK
  have h:=h.I IK
  have a:=a.trans IK
  have f:=f.trans IK
  refine⟨IK.cM (IJ).le,?_⟩
  refine bE (iA.aZ (JD.aS (IW)).rd rfl JF.rd rfl (by first | assumption | decide | omega) (by first | assumption | decide | omega)) fun v LF ⟨IL,F⟩=>?_
  obtain⟨rfl,LG⟩:=F
  refine bJ rfl (?_)
  have Ji:=IL.aS
  have b:=b.I IL
  have c:=c.I IL
  have d:=d.I IL
  have e:=e.I IL
  have h:=h.I IL
  have a:=a.trans IL
  have f:=f.trans IL
  refine⟨IL.cM (IJ.trans IW).le,?_⟩
  refine mR g (fun KF g=>?_) (fun KF g=>?_)
  ·exact g _ _ a rfl
  ·refine kA ?_
   refine⟨(by first | assumption | decide | omega),?_⟩
   refine kA ?_
   refine kA ?_
   refine⟨(by first | assumption | decide | omega),?_⟩
   refine kA ?_
   refine kA ?_
   refine kA ?_
   refine kA ?_
   refine bQ c (aT _ _) rfl ?_
   refine bK rfl ?_
   refine bQ c (aT _ _) rfl ?_
   refine aQ rfl ?_
   refine bE (hR.aZ (lA _ _) JM (JT.aS (Iv.trans (Iw.trans (G.trans (n.trans (E.trans (H.trans (P.trans (Iy.trans (IJ.trans (IW.trans Ji))))))))))).rd rfl JN (by first | assumption | decide | omega) (by first | assumption | decide | omega) (by first | assumption | decide | omega)) fun v IC ⟨IX,F⟩=>?_
   obtain⟨Jq,JG⟩:∃ y,y=hR.v ((iX .u64 ((e7 .u64 (1:Int) ((IntKind.i64.wrap (aA - (1:Int)))))) ((fK .u64 aU ((IntKind.u64.wrap (((e7 .u64 (1:Int) ((IntKind.i64.wrap (aA - (1:Int)))))) - (1:Int)))))))) aL Jd IU aR:=⟨_,rfl⟩
   rw [← JG] at F
   replace g:=cZ JG g
   have KG:=F0 (Q:=((iX .u64 ((e7 .u64 (1:Int) ((IntKind.i64.wrap (aA - (1:Int)))))) ((fK .u64 aU ((IntKind.u64.wrap (((e7 .u64 (1:Int) ((IntKind.i64.wrap (aA - (1:Int)))))) - (1:Int))))))))) (lA _ _) aL Jd IU aR
   rw [← JG] at KG
   obtain⟨LH,LI,rfl,Jr⟩:=F
   refine cF rfl (a9 (bK rfl (a9 (aQ rfl (b3 (?_))))))
   have Jr:=Jr.from a.le
   have Jl:=IX.aS
   have b:=b.I IX
   have c:=c.I IX
   have d:=d.I IX
   have e:=e.I IX
   have h:=h.I IX
   have a:=a.trans IX
   have f:=f.trans IX
   refine dH fun KH i IY=>?_
   have J6:dY ≠ IC.size:=Nat.ne_of_lt b.lt
   have J7:eR ≠ IC.size:=Nat.ne_of_lt c.lt
   have J8:IA ≠ IC.size:=Nat.ne_of_lt d.lt
   have J9:kI ≠ IC.size:=Nat.ne_of_lt e.lt
   have Ka:IB.size ≠ IC.size:=Nat.ne_of_lt h.lt
   have i:cY KH (IC.size) [.bool false,.slice none (D.z 0).length 0]:=by rw [D.cP];exact i
   have Kb:o.size≤IC.size:=a.le
   have Kc:Z.size≤IC.size:=f.le
   have KI:=i.lt
   have I4:=IY.aS
   have b:=b.I IY
   have c:=c.I IY
   have d:=d.I IY
   have e:=e.I IY
   have h:=h.I IY
   have a:=a.trans IY
   have f:=f.trans IY
   refine b2 i (aT _ _) rfl fun LJ i I5 IZ=>?_
   have b:=b.aJ J6 I5
   have c:=c.aJ J7 I5
   have d:=d.aJ J8 I5
   have e:=e.aJ J9 I5
   have h:=h.aJ Ka I5
   have a:=aV.I a I5 Kb
   have f:=aV.I f I5 Kc
   refine b2 i (aT _ _) rfl fun LK i I6 I0=>?_
   have b:=b.aJ J6 I6
   have c:=c.aJ J7 I6
   have d:=d.aJ J8 I6
   have e:=e.aJ J9 I6
   have h:=h.aJ Ka I6
   have a:=aV.I a I6 Kb
   have f:=aV.I f I6 Kc
   refine bQ i (aT _ _) rfl ?_
   refine bK rfl ?_
   refine bQ i (aT _ _) rfl ?_
   refine aQ rfl ?_
   refine bQ c (aT _ _) rfl ?_
   refine bK rfl ?_
   refine bQ c (aT _ _) rfl ?_
   refine aQ rfl ?_
   refine bE (dQ.aZ (lA _ _) JM (Jr.aS (I4.trans (IZ.trans I0))).rd rfl (JT.aS (Iv.trans (Iw.trans (G.trans (n.trans (E.trans (H.trans (P.trans (Iy.trans (IJ.trans (IW.trans (Ji.trans (Jl.trans (I4.trans (IZ.trans I0))))))))))))))).rd rfl JN (by first | assumption | decide | omega) (by first | assumption | decide | omega) (by first | assumption | decide | omega) (by first | assumption | decide | omega)) fun v ID ⟨IM,F⟩=>?_
   obtain⟨LL,JH⟩:∃ y,y=dQ.v ((iX .u64 ((e7 .u64 (1:Int) ((IntKind.i64.wrap (aA - (1:Int)))))) ((fK .u64 aU ((IntKind.u64.wrap (((e7 .u64 (1:Int) ((IntKind.i64.wrap (aA - (1:Int)))))) - (1:Int)))))))) aL Jq.1 Jq.2 Jd IU aR:=⟨_,rfl⟩
   rw [← JH] at F
   replace g:=cZ JH g
   have KJ:=lM (Q:=((iX .u64 ((e7 .u64 (1:Int) ((IntKind.i64.wrap (aA - (1:Int)))))) ((fK .u64 aU ((IntKind.u64.wrap (((e7 .u64 (1:Int) ((IntKind.i64.wrap (aA - (1:Int)))))) - (1:Int))))))))) (lA _ _) aL Jq.1 Jq.2 Jd IU aR
   rw [← JH] at KJ
   obtain⟨_,_,rfl,⟨LM,LN,rfl,Kd⟩,⟨LO,LP,rfl,JI⟩⟩:=F
   refine fR rfl (a9 (cF rfl (a9 (bK rfl (a9 (aQ rfl (b3 (a9 (cF rfl (a9 (bK rfl (a9 (aQ rfl (b3 (b3 (?_))))))))))))))))
   have Kd:=Kd.from a.le
   have JI:=JI.from a.le
   have Jj:=IM.aS
   have b:=b.I IM
   have c:=c.I IM
   have d:=d.I IM
   have e:=e.I IM
   have h:=h.I IM
   have i:=i.I IM
   have a:=a.trans IM
   have f:=f.trans IM
   refine dH fun Iz l IN=>?_
   have Ke:dY ≠ ID.size:=Nat.ne_of_lt b.lt
   have Kf:eR ≠ ID.size:=Nat.ne_of_lt c.lt
   have Kg:IA ≠ ID.size:=Nat.ne_of_lt d.lt
   have Kh:kI ≠ ID.size:=Nat.ne_of_lt e.lt
   have Ki:IB.size ≠ ID.size:=Nat.ne_of_lt h.lt
   have Kj:IC.size ≠ ID.size:=Nat.ne_of_lt i.lt
   have l:cY Iz (ID.size) [.bool false,.slice none (D.z 0).length 0]:=by rw [D.cP];exact l
   have Kk:o.size≤ID.size:=a.le
   have Kl:Z.size≤ID.size:=f.le
   have LQ:=l.lt
   have I7:=IN.aS
   have b:=b.I IN
   have c:=c.I IN
   have d:=d.I IN
   have e:=e.I IN
   have h:=h.I IN
   have i:=i.I IN
   have a:=a.trans IN
   have f:=f.trans IN
   refine dH fun KK m IE=>?_
   have Km:dY ≠ Iz.size:=Nat.ne_of_lt b.lt
   have Kn:eR ≠ Iz.size:=Nat.ne_of_lt c.lt
   have Ko:IA ≠ Iz.size:=Nat.ne_of_lt d.lt
   have Kp:kI ≠ Iz.size:=Nat.ne_of_lt e.lt
   have Kq:IB.size ≠ Iz.size:=Nat.ne_of_lt h.lt
   have Kr:IC.size ≠ Iz.size:=Nat.ne_of_lt i.lt
   have Js:ID.size ≠ Iz.size:=Nat.ne_of_lt l.lt
   have m:cY KK (Iz.size) [.bool false,.slice none (D.z 0).length 0]:=by rw [D.cP];exact m
   have Ks:o.size≤Iz.size:=a.le
   have Kt:Z.size≤Iz.size:=f.le
   have LR:=m.lt
   have I8:=IE.aS
   have b:=b.I IE
   have c:=c.I IE
   have d:=d.I IE
   have e:=e.I IE
   have h:=h.I IE
   have i:=i.I IE
   have l:=l.I IE
   have a:=a.trans IE
   have f:=f.trans IE
   refine b2 l (aT _ _) rfl fun LS l IP I9=>?_
   have b:=b.aJ Ke IP
   have c:=c.aJ Kf IP
   have d:=d.aJ Kg IP
   have e:=e.aJ Kh IP
   have h:=h.aJ Ki IP
   have i:=i.aJ Kj IP
   have m:=m.aJ (Ne.symm Js) IP
   have a:=aV.I a IP Kk
   have f:=aV.I f IP Kl
   refine b2 l (aT _ _) rfl fun LU l IQ Ja=>?_
   have b:=b.aJ Ke IQ
   have c:=c.aJ Kf IQ
   have d:=d.aJ Kg IQ
   have e:=e.aJ Kh IQ
   have h:=h.aJ Ki IQ
   have i:=i.aJ Kj IQ
   have m:=m.aJ (Ne.symm Js) IQ
   have a:=aV.I a IQ Kk
   have f:=aV.I f IQ Kl
   refine b2 m (aT _ _) rfl fun LV m IS Jb=>?_
   have b:=b.aJ Km IS
   have c:=c.aJ Kn IS
   have d:=d.aJ Ko IS
   have e:=e.aJ Kp IS
   have h:=h.aJ Kq IS
   have i:=i.aJ Kr IS
   have l:=l.aJ Js IS
   have a:=aV.I a IS Ks
   have f:=aV.I f IS Kt
   refine b2 m (aT _ _) rfl fun LW m IT Jc=>?_
   have b:=b.aJ Km IT
   have c:=c.aJ Kn IT
   have d:=d.aJ Ko IT
   have e:=e.aJ Kp IT
   have h:=h.aJ Kq IT
   have i:=i.aJ Kr IT
   have l:=l.aJ Js IT
   have a:=aV.I a IT Ks
   have f:=aV.I f IT Kt
   refine bQ b (aT _ _) rfl ?_
   refine bJ rfl ?_
   refine r3 g (fun KL g=>?_) (fun KL g=>?_)
   ·refine⟨eO rfl ((IZ.trans (I0.trans (Jj.trans (I7.trans (I8.trans (I9.trans (Ja.trans (Jb.trans Jc)))))))).lt KI),?_⟩
    refine bQ i (aT _ _) rfl ?_
    refine bK rfl ?_
    refine bQ i (aT _ _) rfl ?_
    refine aQ rfl ?_
    refine⟨eO (aT _ _) ((Iv.trans (Iw.trans (G.trans (n.trans (E.trans (H.trans (P.trans (Iy.trans (IJ.trans (IW.trans (Ji.trans (Jl.trans (I4.trans (IZ.trans (I0.trans (Jj.trans (I7.trans (I8.trans (I9.trans (Ja.trans (Jb.trans Jc))))))))))))))))))))).lt Ju),?_⟩
    refine bQ b (aT _ _) rfl ?_
    refine aQ rfl ?_
    refine bE (hX.aZ (JQ.aS (Iv.trans (Iw.trans (G.trans (n.trans (E.trans (H.trans (P.trans (Iy.trans (IJ.trans (IW.trans (Ji.trans (Jl.trans (I4.trans (IZ.trans (I0.trans (Jj.trans (I7.trans (I8.trans (I9.trans (Ja.trans (Jb.trans Jc)))))))))))))))))))))).dL rfl) fun v KM ⟨j,F⟩=>?_
    obtain⟨LX,JJ⟩:∃ y,y=bV (iK (false,Jk)):=⟨_,rfl⟩
    rw [← JJ] at F
    replace g:=cZ JJ g
    have KN:=pM false ((JQ.aS (Iv.trans (Iw.trans (G.trans (n.trans (E.trans (H.trans (P.trans (Iy.trans (IJ.trans (IW.trans (Ji.trans (Jl.trans (I4.trans (IZ.trans (I0.trans (Jj.trans (I7.trans (I8.trans (I9.trans (Ja.trans (Jb.trans Jc)))))))))))))))))))))).dL).words
    rw [← JJ] at KN
    obtain⟨LY,LZ,rfl,JK⟩:=F
    refine cF rfl (a9 (bK rfl (a9 (aQ rfl (b3 (?_))))))
    have JK:=JK.from a.le
    have JL:=j.aS
    have b:=b.I j
    have c:=c.I j
    have d:=d.I j
    have e:=e.I j
    have h:=h.I j
    have i:=i.I j
    have l:=l.I j
    have m:=m.I j
    have a:=a.trans j
    have f:=f.trans j
    refine⟨j.cM (Nat.le_refl _),?_⟩
    refine bE (iA.aZ (Jr.aS (I4.trans (IZ.trans (I0.trans (Jj.trans (I7.trans (I8.trans (I9.trans (Ja.trans (Jb.trans (Jc.trans JL))))))))))).rd rfl JK.rd rfl (by first | assumption | decide | omega) (by first | assumption | decide | omega)) fun v L0 ⟨Ix,F⟩=>?_
    obtain⟨rfl,L1⟩:=F
    refine bJ rfl (?_)
    have L2:=Ix.aS
    have b:=b.I Ix
    have c:=c.I Ix
    have d:=d.I Ix
    have e:=e.I Ix
    have h:=h.I Ix
    have i:=i.I Ix
    have l:=l.I Ix
    have m:=m.I Ix
    have a:=a.trans Ix
    have f:=f.trans Ix
    refine⟨Ix.cM (JL).le,?_⟩
    exact g _ _ a rfl
   ·refine bQ m (aT _ _) rfl ?_
    refine bK rfl ?_
    refine bQ m (aT _ _) rfl ?_
    refine aQ rfl ?_
    refine bQ d (aT _ _) rfl ?_
    refine bK rfl ?_
    refine bQ d (aT _ _) rfl ?_
    refine aQ rfl ?_
    refine bE (iA.aZ (JI.aS (I7.trans (I8.trans (I9.trans (Ja.trans (Jb.trans Jc)))))).rd rfl (JW.aS (Iv.trans (Iw.trans (G.trans (n.trans (E.trans (H.trans (P.trans (Iy.trans (IJ.trans (IW.trans (Ji.trans (Jl.trans (I4.trans (IZ.trans (I0.trans (Jj.trans (I7.trans (I8.trans (I9.trans (Ja.trans (Jb.trans Jc)))))))))))))))))))))).rd rfl (by first | assumption | decide | omega) (by first | assumption | decide | omega)) fun v KM ⟨j,F⟩=>?_
    obtain⟨rfl,L3⟩:=F
    refine bJ rfl (?_)
    have JL:=j.aS
    have b:=b.I j
    have c:=c.I j
    have d:=d.I j
    have e:=e.I j
    have h:=h.I j
    have i:=i.I j
    have l:=l.I j
    have m:=m.I j
    have a:=a.trans j
    have f:=f.trans j
    exact g _ _ a rfl
def a4.v(aU:Int)(aA:Int)(aL:Int)(aR:Int)(a:Int)(b:List Nat)(e6:Int)(c:Bool)(d:Nat):Bool:=
 dD (bV (iK (false,b))) fun e=>
 dD (dQ.v a aL e.1 e.2 c d aR) fun e=>
 bP.v aU aA aL aR a b e6 c d e.1.1 e.1.2 e.2.1 e.2.2
theorem a4.a1{Y:J}{o Z:V}(a:a2 o Z){aU:Int}(I0:In .u64 aU){aA:Int}(I1:In .i64 aA){aL:Int}(IJ:In .i64 aL){aR:Int}(IK:In .i64 aR){IH:Int}(IC:In .u64 IH){La:R}{Lb:Nat}{Jg:List Nat}(IM:cH dB o Z La Lb Jg){e6:Int}(I2:In .i64 e6){dY:Nat}(b:cY Z dY [.int .u64 IH,.slice La Jg.length Lb,.int .i64 e6])(I3:o.size≤dY){II:Bool}{Lc:R}{Ld:Nat}{IG:Nat}(IL:cH bR o Z Lc Ld (D.z IG))(LL:(D.z IG).length≤10000){eR:Nat}(c:cY Z eR [.bool II,.slice Lc (D.z IG).length Ld])(I4:o.size≤eR)(I5:dY ≠ eR)(LM:0≤IntKind.i64.wrap (IntKind.i64.wrap (aR+1)+aL))(LN:IntKind.i64.wrap (IntKind.i64.wrap (aR+1)+aL)≤10000)(LO:0≤IntKind.i64.wrap (aR+1))(LP:IntKind.i64.wrap (aR+1)≤10000)(LQ:0≤IntKind.i64.wrap (e6+70))(LR:IntKind.i64.wrap (e6+70)≤10000)(LS:0≤IntKind.i64.wrap (aA - 1))(LU:Jg.length≤1000)(g:fE qN o Y (a4.v aU aA aL aR IH Jg e6 II IG)):a4.t Y aU aA aL aR (⟨dY,0,none⟩:Addr) (⟨eR,0,none⟩:Addr) Z:=by
 have d:=a2.refl Z
 have Le:=b.lt
 have Lt:=c.lt
 have LV:(D.z 0).length=0:=by simp [D.cP]
 unfold a4.v at g
 unfold a4.t
 refine⟨eO (aT _ _) (Le),?_⟩
 refine bQ b (aT _ _) rfl ?_
 refine bJ rfl ?_
 refine⟨eO (aT _ _) (Le),?_⟩
 refine bQ b (aT _ _) rfl ?_
 refine aQ rfl ?_
 refine⟨eO rfl (Lt),?_⟩
 refine bQ c (aT _ _) rfl ?_
 refine bK rfl ?_
 refine bQ c (aT _ _) rfl ?_
 refine aQ rfl ?_
 refine⟨?_,?_,?_⟩
 ·refine bE (hX.aZ IM.dL rfl) fun v IF ⟨IN,F⟩=>?_
  obtain⟨IP,JS⟩:∃ y,y=bV (iK (false,Jg)):=⟨_,rfl⟩
  rw [← JS] at F
  replace g:=cZ JS g
  have Lu:=pM false (IM.dL).words
  rw [← JS] at Lu
  obtain⟨LW,LX,rfl,Jp⟩:=F
  refine cF rfl (a9 (bK rfl (a9 (aQ rfl (b3 (?_))))))
  have Jp:=Jp.from a.le
  have h:=IN.aS
  have b:=b.I IN
  have c:=c.I IN
  have a:=a.trans IN
  have d:=d.trans IN
  refine⟨IN.cM (Nat.le_refl _),?_⟩
  refine⟨?_,?_,?_⟩
  ·refine bE (dQ.aZ IC IJ Jp.rd rfl (IL.aS (h)).rd rfl IK (by first | assumption | decide | omega) (by first | assumption | decide | omega) (by first | assumption | decide | omega) (by first | assumption | decide | omega)) fun v IB ⟨Ix,F⟩=>?_
   obtain⟨LY,JT⟩:∃ y,y=dQ.v IH aL IP.1 IP.2 II IG aR:=⟨_,rfl⟩
   rw [← JT] at F
   replace g:=cZ JT g
   have Lv:=lM (Q:=IH) IC aL IP.1 IP.2 II IG aR
   rw [← JT] at Lv
   obtain⟨_,_,rfl,⟨LZ,L0,rfl,JK⟩,⟨L1,L2,rfl,JL⟩⟩:=F
   refine fR rfl (a9 (cF rfl (a9 (bK rfl (a9 (aQ rfl (b3 (a9 (cF rfl (a9 (bK rfl (a9 (aQ rfl (b3 (b3 (?_))))))))))))))))
   have JK:=JK.from a.le
   have JL:=JL.from a.le
   have i:=Ix.aS
   have b:=b.I Ix
   have c:=c.I Ix
   have a:=a.trans Ix
   have d:=d.trans Ix
   refine⟨Ix.cM (h).le,?_⟩
   refine⟨?_,?_⟩
   ·refine dH fun Iw IU f=>?_
    have JU:dY ≠ IB.size:=Nat.ne_of_lt b.lt
    have JV:eR ≠ IB.size:=Nat.ne_of_lt c.lt
    have IU:cY Iw (IB.size) [.bool false,.slice none (D.z 0).length 0]:=by rw [D.cP];exact IU
    have JW:o.size≤IB.size:=a.le
    have Lf:Z.size≤IB.size:=d.le
    have L3:=IU.lt
    have E:=f.aS
    have b:=b.I f
    have c:=c.I f
    have a:=a.trans f
    have d:=d.trans f
    refine⟨f.cM (h.trans i).le,?_⟩
    refine dH fun IQ I6 e=>?_
    have JX:dY ≠ Iw.size:=Nat.ne_of_lt b.lt
    have JY:eR ≠ Iw.size:=Nat.ne_of_lt c.lt
    have Jy:IB.size ≠ Iw.size:=Nat.ne_of_lt IU.lt
    have I6:cY IQ (Iw.size) [.bool false,.slice none (D.z 0).length 0]:=by rw [D.cP];exact I6
    have JZ:o.size≤Iw.size:=a.le
    have Lg:Z.size≤Iw.size:=d.le
    have L4:=I6.lt
    have IA:=e.aS
    have b:=b.I e
    have c:=c.I e
    have IU:=IU.I e
    have a:=a.trans e
    have d:=d.trans e
    refine⟨e.cM (h.trans (i.trans E)).le,?_⟩
    refine b2 IU (aT _ _) rfl fun Jc IU j G=>?_
    have b:=b.aJ JU j
    have c:=c.aJ JV j
    have I6:=I6.aJ (Ne.symm Jy) j
    have a:=aV.I a j JW
    have d:=aV.I d j Lf
    refine b2 IU (aT _ _) rfl fun Jd IU l H=>?_
    have b:=b.aJ JU l
    have c:=c.aJ JV l
    have I6:=I6.aJ (Ne.symm Jy) l
    have a:=aV.I a l JW
    have d:=aV.I d l Lf
    refine b2 I6 (aT _ _) rfl fun Je I6 m P=>?_
    have b:=b.aJ JX m
    have c:=c.aJ JY m
    have IU:=IU.aJ Jy m
    have a:=aV.I a m JZ
    have d:=aV.I d m Lg
    refine b2 I6 (aT _ _) rfl fun Jf I6 n Iv=>?_
    have b:=b.aJ JX n
    have c:=c.aJ JY n
    have IU:=IU.aJ Jy n
    have a:=aV.I a n JZ
    have d:=aV.I d n Lg
    exact bP.a1 a I0 I1 IJ IK IC (IM.aS (h.trans (i.trans (E.trans (IA.trans (G.trans (H.trans (P.trans Iv)))))))) I2 b I3 (IL.aS (h.trans (i.trans (E.trans (IA.trans (G.trans (H.trans (P.trans Iv)))))))) (by first | assumption | decide | omega) c I4 (JK.aS (E.trans (IA.trans (G.trans (H.trans (P.trans Iv)))))) (by first | assumption | decide | omega) IU JW (JL.aS (E.trans (IA.trans (G.trans (H.trans (P.trans Iv)))))) (by first | assumption | decide | omega) I6 JZ I5 JU JX JV JY Jy (by first | assumption | decide | omega) (by first | assumption | decide | omega) (by first | assumption | decide | omega) (by first | assumption | decide | omega) (by first | assumption | decide | omega) (by first | assumption | decide | omega) (by first | assumption | decide | omega) (by first | assumption | decide | omega) g
   ·refine dH fun Iw IV f=>?_
    have J0:dY ≠ IB.size:=Nat.ne_of_lt b.lt
    have J1:eR ≠ IB.size:=Nat.ne_of_lt c.lt
    have IV:cY Iw (IB.size) [.bool false,.slice none (D.z 0).length 0]:=by rw [D.cP];exact IV
    have J2:o.size≤IB.size:=a.le
    have Lh:Z.size≤IB.size:=d.le
    have L5:=IV.lt
    have E:=f.aS
    have b:=b.I f
    have c:=c.I f
    have a:=a.trans f
    have d:=d.trans f
    refine⟨f.cM (h.trans i).le,?_⟩
    refine dH fun IQ I7 e=>?_
    have J3:dY ≠ Iw.size:=Nat.ne_of_lt b.lt
    have J4:eR ≠ Iw.size:=Nat.ne_of_lt c.lt
    have Jz:IB.size ≠ Iw.size:=Nat.ne_of_lt IV.lt
    have I7:cY IQ (Iw.size) [.bool false,.slice none (D.z 0).length 0]:=by rw [D.cP];exact I7
    have J5:o.size≤Iw.size:=a.le
    have Li:Z.size≤Iw.size:=d.le
    have L6:=I7.lt
    have IA:=e.aS
    have b:=b.I e
    have c:=c.I e
    have IV:=IV.I e
    have a:=a.trans e
    have d:=d.trans e
    refine⟨e.cM (h.trans (i.trans E)).le,?_⟩
    refine b2 I7 (aT _ _) rfl fun Jc I7 j G=>?_
    have b:=b.aJ J3 j
    have c:=c.aJ J4 j
    have IV:=IV.aJ Jz j
    have a:=aV.I a j J5
    have d:=aV.I d j Li
    refine b2 I7 (aT _ _) rfl fun Jd I7 l H=>?_
    have b:=b.aJ J3 l
    have c:=c.aJ J4 l
    have IV:=IV.aJ Jz l
    have a:=aV.I a l J5
    have d:=aV.I d l Li
    refine b2 IV (aT _ _) rfl fun Je IV m P=>?_
    have b:=b.aJ J0 m
    have c:=c.aJ J1 m
    have I7:=I7.aJ (Ne.symm Jz) m
    have a:=aV.I a m J2
    have d:=aV.I d m Lh
    refine b2 IV (aT _ _) rfl fun Jf IV n Iv=>?_
    have b:=b.aJ J0 n
    have c:=c.aJ J1 n
    have I7:=I7.aJ (Ne.symm Jz) n
    have a:=aV.I a n J2
    have d:=aV.I d n Lh
    exact bP.a1 a I0 I1 IJ IK IC (IM.aS (h.trans (i.trans (E.trans (IA.trans (G.trans (H.trans (P.trans Iv)))))))) I2 b I3 (IL.aS (h.trans (i.trans (E.trans (IA.trans (G.trans (H.trans (P.trans Iv)))))))) (by first | assumption | decide | omega) c I4 (JK.aS (E.trans (IA.trans (G.trans (H.trans (P.trans Iv)))))) (by first | assumption | decide | omega) I7 J5 (JL.aS (E.trans (IA.trans (G.trans (H.trans (P.trans Iv)))))) (by first | assumption | decide | omega) IV J2 I5 J3 J0 J4 J1 (Ne.symm Jz) (by first | assumption | decide | omega) (by first | assumption | decide | omega) (by first | assumption | decide | omega) (by first | assumption | decide | omega) (by first | assumption | decide | omega) (by first | assumption | decide | omega) (by first | assumption | decide | omega) (by first | assumption | decide | omega) g
  ·refine dH fun IB ID Ix=>?_
   have Jq:dY ≠ IF.size:=Nat.ne_of_lt b.lt
   have Jr:eR ≠ IF.size:=Nat.ne_of_lt c.lt
   have ID:cY IB (IF.size) [.bool false,.slice none (D.z 0).length 0]:=by rw [D.cP];exact ID
   have Js:o.size≤IF.size:=a.le
   have JM:Z.size≤IF.size:=d.le
   have L7:=ID.lt
   have i:=Ix.aS
   have b:=b.I Ix
   have c:=c.I Ix
   have a:=a.trans Ix
   have d:=d.trans Ix
   refine⟨Ix.cM (h).le,?_⟩
   refine⟨?_,?_⟩
   ·refine bE (dQ.aZ IC IJ (Jp.aS (i)).rd rfl (IL.aS (h.trans i)).rd rfl IK (by first | assumption | decide | omega) (by first | assumption | decide | omega) (by first | assumption | decide | omega) (by first | assumption | decide | omega)) fun v Iw ⟨f,F⟩=>?_
    obtain⟨L8,J6⟩:∃ y,y=dQ.v IH aL IP.1 IP.2 II IG aR:=⟨_,rfl⟩
    rw [← J6] at F
    replace g:=cZ J6 g
    have Lw:=lM (Q:=IH) IC aL IP.1 IP.2 II IG aR
    rw [← J6] at Lw
    obtain⟨_,_,rfl,⟨L9,Ma,rfl,J7⟩,⟨Mb,Mc,rfl,J8⟩⟩:=F
    refine fR rfl (a9 (cF rfl (a9 (bK rfl (a9 (aQ rfl (b3 (a9 (cF rfl (a9 (bK rfl (a9 (aQ rfl (b3 (b3 (?_))))))))))))))))
    have J7:=J7.from a.le
    have J8:=J8.from a.le
    have E:=f.aS
    have b:=b.I f
    have c:=c.I f
    have ID:=ID.I f
    have a:=a.trans f
    have d:=d.trans f
    refine⟨f.cM (h.trans i).le,?_⟩
    refine dH fun IQ I8 e=>?_
    have J9:dY ≠ Iw.size:=Nat.ne_of_lt b.lt
    have Ka:eR ≠ Iw.size:=Nat.ne_of_lt c.lt
    have JA:IF.size ≠ Iw.size:=Nat.ne_of_lt ID.lt
    have I8:cY IQ (Iw.size) [.bool false,.slice none (D.z 0).length 0]:=by rw [D.cP];exact I8
    have Kb:o.size≤Iw.size:=a.le
    have Lj:Z.size≤Iw.size:=d.le
    have Md:=I8.lt
    have IA:=e.aS
    have b:=b.I e
    have c:=c.I e
    have ID:=ID.I e
    have a:=a.trans e
    have d:=d.trans e
    refine⟨e.cM (h.trans (i.trans E)).le,?_⟩
    refine b2 ID (aT _ _) rfl fun Jc ID j G=>?_
    have b:=b.aJ Jq j
    have c:=c.aJ Jr j
    have I8:=I8.aJ (Ne.symm JA) j
    have a:=aV.I a j Js
    have d:=aV.I d j JM
    refine b2 ID (aT _ _) rfl fun Jd ID l H=>?_
    have b:=b.aJ Jq l
    have c:=c.aJ Jr l
    have I8:=I8.aJ (Ne.symm JA) l
    have a:=aV.I a l Js
    have d:=aV.I d l JM
    refine b2 I8 (aT _ _) rfl fun Je I8 m P=>?_
    have b:=b.aJ J9 m
    have c:=c.aJ Ka m
    have ID:=ID.aJ JA m
    have a:=aV.I a m Kb
    have d:=aV.I d m Lj
    refine b2 I8 (aT _ _) rfl fun Jf I8 n Iv=>?_
    have b:=b.aJ J9 n
    have c:=c.aJ Ka n
    have ID:=ID.aJ JA n
    have a:=aV.I a n Kb
    have d:=aV.I d n Lj
    exact bP.a1 a I0 I1 IJ IK IC (IM.aS (h.trans (i.trans (E.trans (IA.trans (G.trans (H.trans (P.trans Iv)))))))) I2 b I3 (IL.aS (h.trans (i.trans (E.trans (IA.trans (G.trans (H.trans (P.trans Iv)))))))) (by first | assumption | decide | omega) c I4 (J7.aS (IA.trans (G.trans (H.trans (P.trans Iv))))) (by first | assumption | decide | omega) ID Js (J8.aS (IA.trans (G.trans (H.trans (P.trans Iv))))) (by first | assumption | decide | omega) I8 Kb I5 Jq J9 Jr Ka JA (by first | assumption | decide | omega) (by first | assumption | decide | omega) (by first | assumption | decide | omega) (by first | assumption | decide | omega) (by first | assumption | decide | omega) (by first | assumption | decide | omega) (by first | assumption | decide | omega) (by first | assumption | decide | omega) g
   ·refine dH fun Iw IW f=>?_
    have Kc:dY ≠ IB.size:=Nat.ne_of_lt b.lt
    have Kd:eR ≠ IB.size:=Nat.ne_of_lt c.lt
    have JB:IF.size ≠ IB.size:=Nat.ne_of_lt ID.lt
    have IW:cY Iw (IB.size) [.bool false,.slice none (D.z 0).length 0]:=by rw [D.cP];exact IW
    have Ke:o.size≤IB.size:=a.le
    have Lk:Z.size≤IB.size:=d.le
    have Me:=IW.lt
    have E:=f.aS
    have b:=b.I f
    have c:=c.I f
    have ID:=ID.I f
    have a:=a.trans f
    have d:=d.trans f
    refine⟨f.cM (h.trans i).le,?_⟩
    refine bE (dQ.aZ IC IJ (Jp.aS (i.trans E)).rd rfl (IL.aS (h.trans (i.trans E))).rd rfl IK (by first | assumption | decide | omega) (by first | assumption | decide | omega) (by first | assumption | decide | omega) (by first | assumption | decide | omega)) fun v IQ ⟨e,F⟩=>?_
    obtain⟨Mf,Kf⟩:∃ y,y=dQ.v IH aL IP.1 IP.2 II IG aR:=⟨_,rfl⟩
    rw [← Kf] at F
    replace g:=cZ Kf g
    have Lx:=lM (Q:=IH) IC aL IP.1 IP.2 II IG aR
    rw [← Kf] at Lx
    obtain⟨_,_,rfl,⟨Mg,Mh,rfl,Kg⟩,⟨Mi,Mj,rfl,Kh⟩⟩:=F
    refine fR rfl (a9 (cF rfl (a9 (bK rfl (a9 (aQ rfl (b3 (a9 (cF rfl (a9 (bK rfl (a9 (aQ rfl (b3 (b3 (?_))))))))))))))))
    have Kg:=Kg.from a.le
    have Kh:=Kh.from a.le
    have IA:=e.aS
    have b:=b.I e
    have c:=c.I e
    have ID:=ID.I e
    have IW:=IW.I e
    have a:=a.trans e
    have d:=d.trans e
    refine⟨e.cM (h.trans (i.trans E)).le,?_⟩
    refine b2 ID (aT _ _) rfl fun Jc ID j G=>?_
    have b:=b.aJ Jq j
    have c:=c.aJ Jr j
    have IW:=IW.aJ (Ne.symm JB) j
    have a:=aV.I a j Js
    have d:=aV.I d j JM
    refine b2 ID (aT _ _) rfl fun Jd ID l H=>?_
    have b:=b.aJ Jq l
    have c:=c.aJ Jr l
    have IW:=IW.aJ (Ne.symm JB) l
    have a:=aV.I a l Js
    have d:=aV.I d l JM
    refine b2 IW (aT _ _) rfl fun Je IW m P=>?_
    have b:=b.aJ Kc m
    have c:=c.aJ Kd m
    have ID:=ID.aJ JB m
    have a:=aV.I a m Ke
    have d:=aV.I d m Lk
    refine b2 IW (aT _ _) rfl fun Jf IW n Iv=>?_
    have b:=b.aJ Kc n
    have c:=c.aJ Kd n
    have ID:=ID.aJ JB n
    have a:=aV.I a n Ke
    have d:=aV.I d n Lk
    exact bP.a1 a I0 I1 IJ IK IC (IM.aS (h.trans (i.trans (E.trans (IA.trans (G.trans (H.trans (P.trans Iv)))))))) I2 b I3 (IL.aS (h.trans (i.trans (E.trans (IA.trans (G.trans (H.trans (P.trans Iv)))))))) (by first | assumption | decide | omega) c I4 (Kg.aS (G.trans (H.trans (P.trans Iv)))) (by first | assumption | decide | omega) ID Js (Kh.aS (G.trans (H.trans (P.trans Iv)))) (by first | assumption | decide | omega) IW Ke I5 Jq Kc Jr Kd JB (by first | assumption | decide | omega) (by first | assumption | decide | omega) (by first | assumption | decide | omega) (by first | assumption | decide | omega) (by first | assumption | decide | omega) (by first | assumption | decide | omega) (by first | assumption | decide | omega) (by first | assumption | decide | omega) g
  ·refine dH fun IB IE Ix=>?_
   have Jt:dY ≠ IF.size:=Nat.ne_of_lt b.lt
   have Ju:eR ≠ IF.size:=Nat.ne_of_lt c.lt
   have IE:cY IB (IF.size) [.bool false,.slice none (D.z 0).length 0]:=by rw [D.cP];exact IE
   have Jv:o.size≤IF.size:=a.le
   have JN:Z.size≤IF.size:=d.le
   have Mk:=IE.lt
   have i:=Ix.aS
   have b:=b.I Ix
   have c:=c.I Ix
   have a:=a.trans Ix
   have d:=d.trans Ix
   refine⟨Ix.cM (h).le,?_⟩
   refine⟨?_,?_⟩
   ·refine bE (dQ.aZ IC IJ (Jp.aS (i)).rd rfl (IL.aS (h.trans i)).rd rfl IK (by first | assumption | decide | omega) (by first | assumption | decide | omega) (by first | assumption | decide | omega) (by first | assumption | decide | omega)) fun v Iw ⟨f,F⟩=>?_
    obtain⟨Ml,Ki⟩:∃ y,y=dQ.v IH aL IP.1 IP.2 II IG aR:=⟨_,rfl⟩
    rw [← Ki] at F
    replace g:=cZ Ki g
    have Ly:=lM (Q:=IH) IC aL IP.1 IP.2 II IG aR
    rw [← Ki] at Ly
    obtain⟨_,_,rfl,⟨Mm,Mn,rfl,Kj⟩,⟨Mo,Mp,rfl,Kk⟩⟩:=F
    refine fR rfl (a9 (cF rfl (a9 (bK rfl (a9 (aQ rfl (b3 (a9 (cF rfl (a9 (bK rfl (a9 (aQ rfl (b3 (b3 (?_))))))))))))))))
    have Kj:=Kj.from a.le
    have Kk:=Kk.from a.le
    have E:=f.aS
    have b:=b.I f
    have c:=c.I f
    have IE:=IE.I f
    have a:=a.trans f
    have d:=d.trans f
    refine⟨f.cM (h.trans i).le,?_⟩
    refine dH fun IQ I9 e=>?_
    have Kl:dY ≠ Iw.size:=Nat.ne_of_lt b.lt
    have Km:eR ≠ Iw.size:=Nat.ne_of_lt c.lt
    have JC:IF.size ≠ Iw.size:=Nat.ne_of_lt IE.lt
    have I9:cY IQ (Iw.size) [.bool false,.slice none (D.z 0).length 0]:=by rw [D.cP];exact I9
    have Kn:o.size≤Iw.size:=a.le
    have Ll:Z.size≤Iw.size:=d.le
    have Mq:=I9.lt
    have IA:=e.aS
    have b:=b.I e
    have c:=c.I e
    have IE:=IE.I e
    have a:=a.trans e
    have d:=d.trans e
    refine⟨e.cM (h.trans (i.trans E)).le,?_⟩
    refine b2 I9 (aT _ _) rfl fun Jc I9 j G=>?_
    have b:=b.aJ Kl j
    have c:=c.aJ Km j
    have IE:=IE.aJ JC j
    have a:=aV.I a j Kn
    have d:=aV.I d j Ll
    refine b2 I9 (aT _ _) rfl fun Jd I9 l H=>?_
    have b:=b.aJ Kl l
    have c:=c.aJ Km l
    have IE:=IE.aJ JC l
    have a:=aV.I a l Kn
    have d:=aV.I d l Ll
    refine b2 IE (aT _ _) rfl fun Je IE m P=>?_
    have b:=b.aJ Jt m
    have c:=c.aJ Ju m
    have I9:=I9.aJ (Ne.symm JC) m
    have a:=aV.I a m Jv
    have d:=aV.I d m JN
    refine b2 IE (aT _ _) rfl fun Jf IE n Iv=>?_
    have b:=b.aJ Jt n
    have c:=c.aJ Ju n
    have I9:=I9.aJ (Ne.symm JC) n
    have a:=aV.I a n Jv
    have d:=aV.I d n JN
    exact bP.a1 a I0 I1 IJ IK IC (IM.aS (h.trans (i.trans (E.trans (IA.trans (G.trans (H.trans (P.trans Iv)))))))) I2 b I3 (IL.aS (h.trans (i.trans (E.trans (IA.trans (G.trans (H.trans (P.trans Iv)))))))) (by first | assumption | decide | omega) c I4 (Kj.aS (IA.trans (G.trans (H.trans (P.trans Iv))))) (by first | assumption | decide | omega) I9 Kn (Kk.aS (IA.trans (G.trans (H.trans (P.trans Iv))))) (by first | assumption | decide | omega) IE Jv I5 Kl Jt Km Ju (Ne.symm JC) (by first | assumption | decide | omega) (by first | assumption | decide | omega) (by first | assumption | decide | omega) (by first | assumption | decide | omega) (by first | assumption | decide | omega) (by first | assumption | decide | omega) (by first | assumption | decide | omega) (by first | assumption | decide | omega) g
   ·refine dH fun Iw IX f=>?_
    have Ko:dY ≠ IB.size:=Nat.ne_of_lt b.lt
    have Kp:eR ≠ IB.size:=Nat.ne_of_lt c.lt
    have JD:IF.size ≠ IB.size:=Nat.ne_of_lt IE.lt
    have IX:cY Iw (IB.size) [.bool false,.slice none (D.z 0).length 0]:=by rw [D.cP];exact IX
    have Kq:o.size≤IB.size:=a.le
    have Lm:Z.size≤IB.size:=d.le
    have Mr:=IX.lt
    have E:=f.aS
    have b:=b.I f
    have c:=c.I f
    have IE:=IE.I f
    have a:=a.trans f
    have d:=d.trans f
    refine⟨f.cM (h.trans i).le,?_⟩
    refine bE (dQ.aZ IC IJ (Jp.aS (i.trans E)).rd rfl (IL.aS (h.trans (i.trans E))).rd rfl IK (by first | assumption | decide | omega) (by first | assumption | decide | omega) (by first | assumption | decide | omega) (by first | assumption | decide | omega)) fun v IQ ⟨e,F⟩=>?_
    obtain⟨Ms,Kr⟩:∃ y,y=dQ.v IH aL IP.1 IP.2 II IG aR:=⟨_,rfl⟩
    rw [← Kr] at F
    replace g:=cZ Kr g
    have Lz:=lM (Q:=IH) IC aL IP.1 IP.2 II IG aR
    rw [← Kr] at Lz
    obtain⟨_,_,rfl,⟨Mt,Mu,rfl,Ks⟩,⟨Mv,Mw,rfl,Kt⟩⟩:=F
    refine fR rfl (a9 (cF rfl (a9 (bK rfl (a9 (aQ rfl (b3 (a9 (cF rfl (a9 (bK rfl (a9 (aQ rfl (b3 (b3 (?_))))))))))))))))
    have Ks:=Ks.from a.le
    have Kt:=Kt.from a.le
    have IA:=e.aS
    have b:=b.I e
    have c:=c.I e
    have IE:=IE.I e
    have IX:=IX.I e
    have a:=a.trans e
    have d:=d.trans e
    refine⟨e.cM (h.trans (i.trans E)).le,?_⟩
    refine b2 IX (aT _ _) rfl fun Jc IX j G=>?_
    have b:=b.aJ Ko j
    have c:=c.aJ Kp j
    have IE:=IE.aJ JD j
    have a:=aV.I a j Kq
    have d:=aV.I d j Lm
    refine b2 IX (aT _ _) rfl fun Jd IX l H=>?_
    have b:=b.aJ Ko l
    have c:=c.aJ Kp l
    have IE:=IE.aJ JD l
    have a:=aV.I a l Kq
    have d:=aV.I d l Lm
    refine b2 IE (aT _ _) rfl fun Je IE m P=>?_
    have b:=b.aJ Jt m
    have c:=c.aJ Ju m
    have IX:=IX.aJ (Ne.symm JD) m
    have a:=aV.I a m Jv
    have d:=aV.I d m JN
    refine b2 IE (aT _ _) rfl fun Jf IE n Iv=>?_
    have b:=b.aJ Jt n
    have c:=c.aJ Ju n
    have IX:=IX.aJ (Ne.symm JD) n
    have a:=aV.I a n Jv
    have d:=aV.I d n JN
    exact bP.a1 a I0 I1 IJ IK IC (IM.aS (h.trans (i.trans (E.trans (IA.trans (G.trans (H.trans (P.trans Iv)))))))) I2 b I3 (IL.aS (h.trans (i.trans (E.trans (IA.trans (G.trans (H.trans (P.trans Iv)))))))) (by first | assumption | decide | omega) c I4 (Ks.aS (G.trans (H.trans (P.trans Iv)))) (by first | assumption | decide | omega) IX Kq (Kt.aS (G.trans (H.trans (P.trans Iv)))) (by first | assumption | decide | omega) IE Jv I5 Ko Jt Kp Ju (Ne.symm JD) (by first | assumption | decide | omega) (by first | assumption | decide | omega) (by first | assumption | decide | omega) (by first | assumption | decide | omega) (by first | assumption | decide | omega) (by first | assumption | decide | omega) (by first | assumption | decide | omega) (by first | assumption | decide | omega) g
 ·refine dH fun IF Iy IN=>?_
  have Jh:dY ≠ Z.size:=Nat.ne_of_lt b.lt
  have Ji:eR ≠ Z.size:=Nat.ne_of_lt c.lt
  have Iy:cY IF (Z.size) [.bool false,.slice none (D.z 0).length 0]:=by rw [D.cP];exact Iy
  have Jj:o.size≤Z.size:=a.le
  have Jw:Z.size≤Z.size:=d.le
  have Mx:=Iy.lt
  have h:=IN.aS
  have b:=b.I IN
  have c:=c.I IN
  have a:=a.trans IN
  have d:=d.trans IN
  refine⟨IN.cM (Nat.le_refl _),?_⟩
  refine⟨?_,?_⟩
  ·refine bE (hX.aZ (IM.aS (h)).dL rfl) fun v IB ⟨Ix,F⟩=>?_
   obtain⟨Jn,Ku⟩:∃ y,y=bV (iK (false,Jg)):=⟨_,rfl⟩
   rw [← Ku] at F
   replace g:=cZ Ku g
   have LA:=pM false ((IM.aS (h)).dL).words
   rw [← Ku] at LA
   obtain⟨My,Mz,rfl,JO⟩:=F
   refine cF rfl (a9 (bK rfl (a9 (aQ rfl (b3 (?_))))))
   have JO:=JO.from a.le
   have i:=Ix.aS
   have b:=b.I Ix
   have c:=c.I Ix
   have Iy:=Iy.I Ix
   have a:=a.trans Ix
   have d:=d.trans Ix
   refine⟨Ix.cM (h).le,?_⟩
   refine⟨?_,?_⟩
   ·refine bE (dQ.aZ IC IJ JO.rd rfl (IL.aS (h.trans i)).rd rfl IK (by first | assumption | decide | omega) (by first | assumption | decide | omega) (by first | assumption | decide | omega) (by first | assumption | decide | omega)) fun v Iw ⟨f,F⟩=>?_
    obtain⟨MA,Kv⟩:∃ y,y=dQ.v IH aL Jn.1 Jn.2 II IG aR:=⟨_,rfl⟩
    rw [← Kv] at F
    replace g:=cZ Kv g
    have LB:=lM (Q:=IH) IC aL Jn.1 Jn.2 II IG aR
    rw [← Kv] at LB
    obtain⟨_,_,rfl,⟨MB,MC,rfl,Kw⟩,⟨MD,ME,rfl,Kx⟩⟩:=F
    refine fR rfl (a9 (cF rfl (a9 (bK rfl (a9 (aQ rfl (b3 (a9 (cF rfl (a9 (bK rfl (a9 (aQ rfl (b3 (b3 (?_))))))))))))))))
    have Kw:=Kw.from a.le
    have Kx:=Kx.from a.le
    have E:=f.aS
    have b:=b.I f
    have c:=c.I f
    have Iy:=Iy.I f
    have a:=a.trans f
    have d:=d.trans f
    refine⟨f.cM (h.trans i).le,?_⟩
    refine dH fun IQ Ja e=>?_
    have Ky:dY ≠ Iw.size:=Nat.ne_of_lt b.lt
    have Kz:eR ≠ Iw.size:=Nat.ne_of_lt c.lt
    have JE:Z.size ≠ Iw.size:=Nat.ne_of_lt Iy.lt
    have Ja:cY IQ (Iw.size) [.bool false,.slice none (D.z 0).length 0]:=by rw [D.cP];exact Ja
    have KA:o.size≤Iw.size:=a.le
    have Ln:Z.size≤Iw.size:=d.le
    have MF:=Ja.lt
    have IA:=e.aS
    have b:=b.I e
    have c:=c.I e
    have Iy:=Iy.I e
    have a:=a.trans e
    have d:=d.trans e
    refine⟨e.cM (h.trans (i.trans E)).le,?_⟩
    refine b2 Iy (aT _ _) rfl fun Jc Iy j G=>?_
    have b:=b.aJ Jh j
    have c:=c.aJ Ji j
    have Ja:=Ja.aJ (Ne.symm JE) j
    have a:=aV.I a j Jj
    have d:=aV.I d j Jw
    refine b2 Iy (aT _ _) rfl fun Jd Iy l H=>?_
    have b:=b.aJ Jh l
    have c:=c.aJ Ji l
    have Ja:=Ja.aJ (Ne.symm JE) l
    have a:=aV.I a l Jj
    have d:=aV.I d l Jw
    refine b2 Ja (aT _ _) rfl fun Je Ja m P=>?_
    have b:=b.aJ Ky m
    have c:=c.aJ Kz m
    have Iy:=Iy.aJ JE m
    have a:=aV.I a m KA
    have d:=aV.I d m Ln
    refine b2 Ja (aT _ _) rfl fun Jf Ja n Iv=>?_
    have b:=b.aJ Ky n
    have c:=c.aJ Kz n
    have Iy:=Iy.aJ JE n
    have a:=aV.I a n KA
    have d:=aV.I d n Ln
    exact bP.a1 a I0 I1 IJ IK IC (IM.aS (h.trans (i.trans (E.trans (IA.trans (G.trans (H.trans (P.trans Iv)))))))) I2 b I3 (IL.aS (h.trans (i.trans (E.trans (IA.trans (G.trans (H.trans (P.trans Iv)))))))) (by first | assumption | decide | omega) c I4 (Kw.aS (IA.trans (G.trans (H.trans (P.trans Iv))))) (by first | assumption | decide | omega) Iy Jj (Kx.aS (IA.trans (G.trans (H.trans (P.trans Iv))))) (by first | assumption | decide | omega) Ja KA I5 Jh Ky Ji Kz JE (by first | assumption | decide | omega) (by first | assumption | decide | omega) (by first | assumption | decide | omega) (by first | assumption | decide | omega) (by first | assumption | decide | omega) (by first | assumption | decide | omega) (by first | assumption | decide | omega) (by first | assumption | decide | omega) g
   ·refine dH fun Iw IY f=>?_
    have KB:dY ≠ IB.size:=Nat.ne_of_lt b.lt
    have KC:eR ≠ IB.size:=Nat.ne_of_lt c.lt
    have JF:Z.size ≠ IB.size:=Nat.ne_of_lt Iy.lt
    have IY:cY Iw (IB.size) [.bool false,.slice none (D.z 0).length 0]:=by rw [D.cP];exact IY
    have KD:o.size≤IB.size:=a.le
    have Lo:Z.size≤IB.size:=d.le
    have MG:=IY.lt
    have E:=f.aS
    have b:=b.I f
    have c:=c.I f
    have Iy:=Iy.I f
    have a:=a.trans f
    have d:=d.trans f
    refine⟨f.cM (h.trans i).le,?_⟩
    refine bE (dQ.aZ IC IJ (JO.aS (E)).rd rfl (IL.aS (h.trans (i.trans E))).rd rfl IK (by first | assumption | decide | omega) (by first | assumption | decide | omega) (by first | assumption | decide | omega) (by first | assumption | decide | omega)) fun v IQ ⟨e,F⟩=>?_
    obtain⟨MH,KE⟩:∃ y,y=dQ.v IH aL Jn.1 Jn.2 II IG aR:=⟨_,rfl⟩
    rw [← KE] at F
    replace g:=cZ KE g
    have LC:=lM (Q:=IH) IC aL Jn.1 Jn.2 II IG aR
    rw [← KE] at LC
    obtain⟨_,_,rfl,⟨MI,MJ,rfl,KF⟩,⟨MK,ML,rfl,KG⟩⟩:=F
    refine fR rfl (a9 (cF rfl (a9 (bK rfl (a9 (aQ rfl (b3 (a9 (cF rfl (a9 (bK rfl (a9 (aQ rfl (b3 (b3 (?_))))))))))))))))
    have KF:=KF.from a.le
    have KG:=KG.from a.le
    have IA:=e.aS
    have b:=b.I e
    have c:=c.I e
    have Iy:=Iy.I e
    have IY:=IY.I e
    have a:=a.trans e
    have d:=d.trans e
    refine⟨e.cM (h.trans (i.trans E)).le,?_⟩
    refine b2 Iy (aT _ _) rfl fun Jc Iy j G=>?_
    have b:=b.aJ Jh j
    have c:=c.aJ Ji j
    have IY:=IY.aJ (Ne.symm JF) j
    have a:=aV.I a j Jj
    have d:=aV.I d j Jw
    refine b2 Iy (aT _ _) rfl fun Jd Iy l H=>?_
    have b:=b.aJ Jh l
    have c:=c.aJ Ji l
    have IY:=IY.aJ (Ne.symm JF) l
    have a:=aV.I a l Jj
    have d:=aV.I d l Jw
    refine b2 IY (aT _ _) rfl fun Je IY m P=>?_
    have b:=b.aJ KB m
    have c:=c.aJ KC m
    have Iy:=Iy.aJ JF m
    have a:=aV.I a m KD
    have d:=aV.I d m Lo
    refine b2 IY (aT _ _) rfl fun Jf IY n Iv=>?_
    have b:=b.aJ KB n
    have c:=c.aJ KC n
    have Iy:=Iy.aJ JF n
    have a:=aV.I a n KD
    have d:=aV.I d n Lo
    exact bP.a1 a I0 I1 IJ IK IC (IM.aS (h.trans (i.trans (E.trans (IA.trans (G.trans (H.trans (P.trans Iv)))))))) I2 b I3 (IL.aS (h.trans (i.trans (E.trans (IA.trans (G.trans (H.trans (P.trans Iv)))))))) (by first | assumption | decide | omega) c I4 (KF.aS (G.trans (H.trans (P.trans Iv)))) (by first | assumption | decide | omega) Iy Jj (KG.aS (G.trans (H.trans (P.trans Iv)))) (by first | assumption | decide | omega) IY KD I5 Jh KB Ji KC JF (by first | assumption | decide | omega) (by first | assumption | decide | omega) (by first | assumption | decide | omega) (by first | assumption | decide | omega) (by first | assumption | decide | omega) (by first | assumption | decide | omega) (by first | assumption | decide | omega) (by first | assumption | decide | omega) g
  ·refine dH fun IB IS Ix=>?_
   have KH:dY ≠ IF.size:=Nat.ne_of_lt b.lt
   have KI:eR ≠ IF.size:=Nat.ne_of_lt c.lt
   have JG:Z.size ≠ IF.size:=Nat.ne_of_lt Iy.lt
   have IS:cY IB (IF.size) [.bool false,.slice none (D.z 0).length 0]:=by rw [D.cP];exact IS
   have KJ:o.size≤IF.size:=a.le
   have Lp:Z.size≤IF.size:=d.le
   have MM:=IS.lt
   have i:=Ix.aS
   have b:=b.I Ix
   have c:=c.I Ix
   have Iy:=Iy.I Ix
   have a:=a.trans Ix
   have d:=d.trans Ix
   refine⟨Ix.cM (h).le,?_⟩
   refine bE (hX.aZ (IM.aS (h.trans i)).dL rfl) fun v Iw ⟨f,F⟩=>?_
   obtain⟨JP,KK⟩:∃ y,y=bV (iK (false,Jg)):=⟨_,rfl⟩
   rw [← KK] at F
   replace g:=cZ KK g
   have LD:=pM false ((IM.aS (h.trans i)).dL).words
   rw [← KK] at LD
   obtain⟨MN,MO,rfl,KL⟩:=F
   refine cF rfl (a9 (bK rfl (a9 (aQ rfl (b3 (?_))))))
   have KL:=KL.from a.le
   have E:=f.aS
   have b:=b.I f
   have c:=c.I f
   have Iy:=Iy.I f
   have IS:=IS.I f
   have a:=a.trans f
   have d:=d.trans f
   refine⟨f.cM (h.trans i).le,?_⟩
   refine bE (dQ.aZ IC IJ KL.rd rfl (IL.aS (h.trans (i.trans E))).rd rfl IK (by first | assumption | decide | omega) (by first | assumption | decide | omega) (by first | assumption | decide | omega) (by first | assumption | decide | omega)) fun v IQ ⟨e,F⟩=>?_
   obtain⟨MP,KM⟩:∃ y,y=dQ.v IH aL JP.1 JP.2 II IG aR:=⟨_,rfl⟩
   rw [← KM] at F
   replace g:=cZ KM g
   have LF:=lM (Q:=IH) IC aL JP.1 JP.2 II IG aR
   rw [← KM] at LF
   obtain⟨_,_,rfl,⟨MQ,MR,rfl,KN⟩,⟨MS,MT,rfl,KO⟩⟩:=F
   refine fR rfl (a9 (cF rfl (a9 (bK rfl (a9 (aQ rfl (b3 (a9 (cF rfl (a9 (bK rfl (a9 (aQ rfl (b3 (b3 (?_))))))))))))))))
   have KN:=KN.from a.le
   have KO:=KO.from a.le
   have IA:=e.aS
   have b:=b.I e
   have c:=c.I e
   have Iy:=Iy.I e
   have IS:=IS.I e
   have a:=a.trans e
   have d:=d.trans e
   refine⟨e.cM (h.trans (i.trans E)).le,?_⟩
   refine b2 Iy (aT _ _) rfl fun Jc Iy j G=>?_
   have b:=b.aJ Jh j
   have c:=c.aJ Ji j
   have IS:=IS.aJ (Ne.symm JG) j
   have a:=aV.I a j Jj
   have d:=aV.I d j Jw
   refine b2 Iy (aT _ _) rfl fun Jd Iy l H=>?_
   have b:=b.aJ Jh l
   have c:=c.aJ Ji l
   have IS:=IS.aJ (Ne.symm JG) l
   have a:=aV.I a l Jj
   have d:=aV.I d l Jw
   refine b2 IS (aT _ _) rfl fun Je IS m P=>?_
   have b:=b.aJ KH m
   have c:=c.aJ KI m
   have Iy:=Iy.aJ JG m
   have a:=aV.I a m KJ
   have d:=aV.I d m Lp
   refine b2 IS (aT _ _) rfl fun Jf IS n Iv=>?_
   have b:=b.aJ KH n
   have c:=c.aJ KI n
   have Iy:=Iy.aJ JG n
   have a:=aV.I a n KJ
   have d:=aV.I d n Lp
   exact bP.a1 a I0 I1 IJ IK IC (IM.aS (h.trans (i.trans (E.trans (IA.trans (G.trans (H.trans (P.trans Iv)))))))) I2 b I3 (IL.aS (h.trans (i.trans (E.trans (IA.trans (G.trans (H.trans (P.trans Iv)))))))) (by first | assumption | decide | omega) c I4 (KN.aS (G.trans (H.trans (P.trans Iv)))) (by first | assumption | decide | omega) Iy Jj (KO.aS (G.trans (H.trans (P.trans Iv)))) (by first | assumption | decide | omega) IS KJ I5 Jh KH Ji KI JG (by first | assumption | decide | omega) (by first | assumption | decide | omega) (by first | assumption | decide | omega) (by first | assumption | decide | omega) (by first | assumption | decide | omega) (by first | assumption | decide | omega) (by first | assumption | decide | omega) (by first | assumption | decide | omega) g
 ·refine dH fun IF Iz IN=>?_
  have Jk:dY ≠ Z.size:=Nat.ne_of_lt b.lt
  have Jl:eR ≠ Z.size:=Nat.ne_of_lt c.lt
  have Iz:cY IF (Z.size) [.bool false,.slice none (D.z 0).length 0]:=by rw [D.cP];exact Iz
  have Jm:o.size≤Z.size:=a.le
  have Jx:Z.size≤Z.size:=d.le
  have MU:=Iz.lt
  have h:=IN.aS
  have b:=b.I IN
  have c:=c.I IN
  have a:=a.trans IN
  have d:=d.trans IN
  refine⟨IN.cM (Nat.le_refl _),?_⟩
  refine⟨?_,?_⟩
  ·refine bE (hX.aZ (IM.aS (h)).dL rfl) fun v IB ⟨Ix,F⟩=>?_
   obtain⟨Jo,KP⟩:∃ y,y=bV (iK (false,Jg)):=⟨_,rfl⟩
   rw [← KP] at F
   replace g:=cZ KP g
   have LG:=pM false ((IM.aS (h)).dL).words
   rw [← KP] at LG
   obtain⟨MV,MW,rfl,JQ⟩:=F
   refine cF rfl (a9 (bK rfl (a9 (aQ rfl (b3 (?_))))))
   have JQ:=JQ.from a.le
   have i:=Ix.aS
   have b:=b.I Ix
   have c:=c.I Ix
   have Iz:=Iz.I Ix
   have a:=a.trans Ix
   have d:=d.trans Ix
   refine⟨Ix.cM (h).le,?_⟩
   refine⟨?_,?_⟩
   ·refine bE (dQ.aZ IC IJ JQ.rd rfl (IL.aS (h.trans i)).rd rfl IK (by first | assumption | decide | omega) (by first | assumption | decide | omega) (by first | assumption | decide | omega) (by first | assumption | decide | omega)) fun v Iw ⟨f,F⟩=>?_
    obtain⟨MX,KQ⟩:∃ y,y=dQ.v IH aL Jo.1 Jo.2 II IG aR:=⟨_,rfl⟩
    rw [← KQ] at F
    replace g:=cZ KQ g
    have LH:=lM (Q:=IH) IC aL Jo.1 Jo.2 II IG aR
    rw [← KQ] at LH
    obtain⟨_,_,rfl,⟨MY,MZ,rfl,KR⟩,⟨M0,M1,rfl,KS⟩⟩:=F
    refine fR rfl (a9 (cF rfl (a9 (bK rfl (a9 (aQ rfl (b3 (a9 (cF rfl (a9 (bK rfl (a9 (aQ rfl (b3 (b3 (?_))))))))))))))))
    have KR:=KR.from a.le
    have KS:=KS.from a.le
    have E:=f.aS
    have b:=b.I f
    have c:=c.I f
    have Iz:=Iz.I f
    have a:=a.trans f
    have d:=d.trans f
    refine⟨f.cM (h.trans i).le,?_⟩
    refine dH fun IQ Jb e=>?_
    have KT:dY ≠ Iw.size:=Nat.ne_of_lt b.lt
    have KU:eR ≠ Iw.size:=Nat.ne_of_lt c.lt
    have JH:Z.size ≠ Iw.size:=Nat.ne_of_lt Iz.lt
    have Jb:cY IQ (Iw.size) [.bool false,.slice none (D.z 0).length 0]:=by rw [D.cP];exact Jb
    have KV:o.size≤Iw.size:=a.le
    have Lq:Z.size≤Iw.size:=d.le
    have M2:=Jb.lt
    have IA:=e.aS
    have b:=b.I e
    have c:=c.I e
    have Iz:=Iz.I e
    have a:=a.trans e
    have d:=d.trans e
    refine⟨e.cM (h.trans (i.trans E)).le,?_⟩
    refine b2 Jb (aT _ _) rfl fun Jc Jb j G=>?_
    have b:=b.aJ KT j
    have c:=c.aJ KU j
    have Iz:=Iz.aJ JH j
    have a:=aV.I a j KV
    have d:=aV.I d j Lq
    refine b2 Jb (aT _ _) rfl fun Jd Jb l H=>?_
    have b:=b.aJ KT l
    have c:=c.aJ KU l
    have Iz:=Iz.aJ JH l
    have a:=aV.I a l KV
    have d:=aV.I d l Lq
    refine b2 Iz (aT _ _) rfl fun Je Iz m P=>?_
    have b:=b.aJ Jk m
    have c:=c.aJ Jl m
    have Jb:=Jb.aJ (Ne.symm JH) m
    have a:=aV.I a m Jm
    have d:=aV.I d m Jx
    refine b2 Iz (aT _ _) rfl fun Jf Iz n Iv=>?_
    have b:=b.aJ Jk n
    have c:=c.aJ Jl n
    have Jb:=Jb.aJ (Ne.symm JH) n
    have a:=aV.I a n Jm
    have d:=aV.I d n Jx
    exact bP.a1 a I0 I1 IJ IK IC (IM.aS (h.trans (i.trans (E.trans (IA.trans (G.trans (H.trans (P.trans Iv)))))))) I2 b I3 (IL.aS (h.trans (i.trans (E.trans (IA.trans (G.trans (H.trans (P.trans Iv)))))))) (by first | assumption | decide | omega) c I4 (KR.aS (IA.trans (G.trans (H.trans (P.trans Iv))))) (by first | assumption | decide | omega) Jb KV (KS.aS (IA.trans (G.trans (H.trans (P.trans Iv))))) (by first | assumption | decide | omega) Iz Jm I5 KT Jk KU Jl (Ne.symm JH) (by first | assumption | decide | omega) (by first | assumption | decide | omega) (by first | assumption | decide | omega) (by first | assumption | decide | omega) (by first | assumption | decide | omega) (by first | assumption | decide | omega) (by first | assumption | decide | omega) (by first | assumption | decide | omega) g
   ·refine dH fun Iw IZ f=>?_
    have KW:dY ≠ IB.size:=Nat.ne_of_lt b.lt
    have KX:eR ≠ IB.size:=Nat.ne_of_lt c.lt
    have JI:Z.size ≠ IB.size:=Nat.ne_of_lt Iz.lt
    have IZ:cY Iw (IB.size) [.bool false,.slice none (D.z 0).length 0]:=by rw [D.cP];exact IZ
    have KY:o.size≤IB.size:=a.le
    have Lr:Z.size≤IB.size:=d.le
    have M3:=IZ.lt
    have E:=f.aS
    have b:=b.I f
    have c:=c.I f
    have Iz:=Iz.I f
    have a:=a.trans f
    have d:=d.trans f
    refine⟨f.cM (h.trans i).le,?_⟩
    refine bE (dQ.aZ IC IJ (JQ.aS (E)).rd rfl (IL.aS (h.trans (i.trans E))).rd rfl IK (by first | assumption | decide | omega) (by first | assumption | decide | omega) (by first | assumption | decide | omega) (by first | assumption | decide | omega)) fun v IQ ⟨e,F⟩=>?_
    obtain⟨M4,KZ⟩:∃ y,y=dQ.v IH aL Jo.1 Jo.2 II IG aR:=⟨_,rfl⟩
    rw [← KZ] at F
    replace g:=cZ KZ g
    have LI:=lM (Q:=IH) IC aL Jo.1 Jo.2 II IG aR
    rw [← KZ] at LI
    obtain⟨_,_,rfl,⟨M5,M6,rfl,K0⟩,⟨M7,M8,rfl,K1⟩⟩:=F
    refine fR rfl (a9 (cF rfl (a9 (bK rfl (a9 (aQ rfl (b3 (a9 (cF rfl (a9 (bK rfl (a9 (aQ rfl (b3 (b3 (?_))))))))))))))))
    have K0:=K0.from a.le
    have K1:=K1.from a.le
    have IA:=e.aS
    have b:=b.I e
    have c:=c.I e
    have Iz:=Iz.I e
    have IZ:=IZ.I e
    have a:=a.trans e
    have d:=d.trans e
    refine⟨e.cM (h.trans (i.trans E)).le,?_⟩
    refine b2 IZ (aT _ _) rfl fun Jc IZ j G=>?_
    have b:=b.aJ KW j
    have c:=c.aJ KX j
    have Iz:=Iz.aJ JI j
    have a:=aV.I a j KY
    have d:=aV.I d j Lr
    refine b2 IZ (aT _ _) rfl fun Jd IZ l H=>?_
    have b:=b.aJ KW l
    have c:=c.aJ KX l
    have Iz:=Iz.aJ JI l
    have a:=aV.I a l KY
    have d:=aV.I d l Lr
    refine b2 Iz (aT _ _) rfl fun Je Iz m P=>?_
    have b:=b.aJ Jk m
    have c:=c.aJ Jl m
    have IZ:=IZ.aJ (Ne.symm JI) m
    have a:=aV.I a m Jm
    have d:=aV.I d m Jx
    refine b2 Iz (aT _ _) rfl fun Jf Iz n Iv=>?_
    have b:=b.aJ Jk n
    have c:=c.aJ Jl n
    have IZ:=IZ.aJ (Ne.symm JI) n
    have a:=aV.I a n Jm
    have d:=aV.I d n Jx
    exact bP.a1 a I0 I1 IJ IK IC (IM.aS (h.trans (i.trans (E.trans (IA.trans (G.trans (H.trans (P.trans Iv)))))))) I2 b I3 (IL.aS (h.trans (i.trans (E.trans (IA.trans (G.trans (H.trans (P.trans Iv)))))))) (by first | assumption | decide | omega) c I4 (K0.aS (G.trans (H.trans (P.trans Iv)))) (by first | assumption | decide | omega) IZ KY (K1.aS (G.trans (H.trans (P.trans Iv)))) (by first | assumption | decide | omega) Iz Jm I5 KW Jk KX Jl (Ne.symm JI) (by first | assumption | decide | omega) (by first | assumption | decide | omega) (by first | assumption | decide | omega) (by first | assumption | decide | omega) (by first | assumption | decide | omega) (by first | assumption | decide | omega) (by first | assumption | decide | omega) (by first | assumption | decide | omega) g
  ·refine dH fun IB IT Ix=>?_
   have K2:dY ≠ IF.size:=Nat.ne_of_lt b.lt
   have K3:eR ≠ IF.size:=Nat.ne_of_lt c.lt
   have JJ:Z.size ≠ IF.size:=Nat.ne_of_lt Iz.lt
   have IT:cY IB (IF.size) [.bool false,.slice none (D.z 0).length 0]:=by rw [D.cP];exact IT
   have K4:o.size≤IF.size:=a.le
   have Ls:Z.size≤IF.size:=d.le
   have M9:=IT.lt
   have i:=Ix.aS
   have b:=b.I Ix
   have c:=c.I Ix
   have Iz:=Iz.I Ix
   have a:=a.trans Ix
   have d:=d.trans Ix
   refine⟨Ix.cM (h).le,?_⟩
   refine bE (hX.aZ (IM.aS (h.trans i)).dL rfl) fun v Iw ⟨f,F⟩=>?_
   obtain⟨JR,K5⟩:∃ y,y=bV (iK (false,Jg)):=⟨_,rfl⟩
   rw [← K5] at F
   replace g:=cZ K5 g
   have LJ:=pM false ((IM.aS (h.trans i)).dL).words
   rw [← K5] at LJ
   obtain⟨Na,Nb,rfl,K6⟩:=F
   refine cF rfl (a9 (bK rfl (a9 (aQ rfl (b3 (?_))))))
   have K6:=K6.from a.le
   have E:=f.aS
   have b:=b.I f
   have c:=c.I f
   have Iz:=Iz.I f
   have IT:=IT.I f
   have a:=a.trans f
   have d:=d.trans f
   refine⟨f.cM (h.trans i).le,?_⟩
   refine bE (dQ.aZ IC IJ K6.rd rfl (IL.aS (h.trans (i.trans E))).rd rfl IK (by first | assumption | decide | omega) (by first | assumption | decide | omega) (by first | assumption | decide | omega) (by first | assumption | decide | omega)) fun v IQ ⟨e,F⟩=>?_
   obtain⟨Nc,K7⟩:∃ y,y=dQ.v IH aL JR.1 JR.2 II IG aR:=⟨_,rfl⟩
   rw [← K7] at F
   replace g:=cZ K7 g
   have LK:=lM (Q:=IH) IC aL JR.1 JR.2 II IG aR
   rw [← K7] at LK
   obtain⟨_,_,rfl,⟨Nd,Nf,rfl,K8⟩,⟨Ng,Nh,rfl,K9⟩⟩:=F
   refine fR rfl (a9 (cF rfl (a9 (bK rfl (a9 (aQ rfl (b3 (a9 (cF rfl (a9 (bK rfl (a9 (aQ rfl (b3 (b3 (?_))))))))))))))))
   have K8:=K8.from a.le
   have K9:=K9.from a.le
   have IA:=e.aS
   have b:=b.I e
   have c:=c.I e
   have Iz:=Iz.I e
   have IT:=IT.I e
   have a:=a.trans e
   have d:=d.trans e
   refine⟨e.cM (h.trans (i.trans E)).le,?_⟩
   refine b2 IT (aT _ _) rfl fun Jc IT j G=>?_
   have b:=b.aJ K2 j
   have c:=c.aJ K3 j
   have Iz:=Iz.aJ JJ j
   have a:=aV.I a j K4
   have d:=aV.I d j Ls
   refine b2 IT (aT _ _) rfl fun Jd IT l H=>?_
   have b:=b.aJ K2 l
   have c:=c.aJ K3 l
   have Iz:=Iz.aJ JJ l
   have a:=aV.I a l K4
   have d:=aV.I d l Ls
   refine b2 Iz (aT _ _) rfl fun Je Iz m P=>?_
   have b:=b.aJ Jk m
   have c:=c.aJ Jl m
   have IT:=IT.aJ (Ne.symm JJ) m
   have a:=aV.I a m Jm
   have d:=aV.I d m Jx
   refine b2 Iz (aT _ _) rfl fun Jf Iz n Iv=>?_
   have b:=b.aJ Jk n
   have c:=c.aJ Jl n
   have IT:=IT.aJ (Ne.symm JJ) n
   have a:=aV.I a n Jm
   have d:=aV.I d n Jx
   exact bP.a1 a I0 I1 IJ IK IC (IM.aS (h.trans (i.trans (E.trans (IA.trans (G.trans (H.trans (P.trans Iv)))))))) I2 b I3 (IL.aS (h.trans (i.trans (E.trans (IA.trans (G.trans (H.trans (P.trans Iv)))))))) (by first | assumption | decide | omega) c I4 (K8.aS (G.trans (H.trans (P.trans Iv)))) (by first | assumption | decide | omega) IT K4 (K9.aS (G.trans (H.trans (P.trans Iv)))) (by first | assumption | decide | omega) Iz Jm I5 K2 Jk K3 Jl (Ne.symm JJ) (by first | assumption | decide | omega) (by first | assumption | decide | omega) (by first | assumption | decide | omega) (by first | assumption | decide | omega) (by first | assumption | decide | omega) (by first | assumption | decide | omega) (by first | assumption | decide | omega) (by first | assumption | decide | omega) g
def aD.v(aU:Int)(aA:Int)(aL:Int)(aR:Int)(a:Int)(b:List Nat)(e6:Int)(c:List Nat):Bool:=
 dD (bV (iK (false,c))) fun c=>
 bif (((((D.z c.2).length:Nat):Int)) == (0:Int)) then
  false
 else
  bif (decide (e6≤(-70:Int))) then
   false
  else
   bif (decide (e6 > (200:Int))) then
    false
   else
    a4.v aU aA aL aR a b e6 c.1 c.2
theorem aD.a1{Y:J}{o Z:V}(a:a2 o Z){aU:Int}(IF:In .u64 aU){aA:Int}(IG:In .i64 aA){aL:Int}(IH:In .i64 aL){aR:Int}(II:In .i64 aR){l:Int}(IJ:In .u64 l){Iv:R}{Iw:Nat}{f:List Nat}(IK:cH dB o Z Iv Iw f){e6:Int}(IL:In .i64 e6){dY:Nat}(b:cY Z dY [.int .u64 l,.slice Iv f.length Iw,.int .i64 e6])(IM:o.size≤dY){Ix:R}{Iy Iz:Nat}{e:List Nat}(IA:cH dB o Z Ix Iy e)(IN:Iz=e.length)(IW:0≤IntKind.i64.wrap (IntKind.i64.wrap (aR+1)+aL))(IX:IntKind.i64.wrap (IntKind.i64.wrap (aR+1)+aL)≤10000)(IY:0≤IntKind.i64.wrap (aR+1))(IZ:IntKind.i64.wrap (aR+1)≤10000)(I0:0≤IntKind.i64.wrap (e6+70))(I1:IntKind.i64.wrap (e6+70)≤10000)(I2:0≤IntKind.i64.wrap (aA - 1))(I3:f.length≤1000)(I4:e.length≤1000)(g:fE qN o Y (aD.v aU aA aL aR l f e6 e)):aD.t Y aU aA aL aR (⟨dY,0,none⟩:Addr) Ix Iz Iy Z:=by
 subst IN
 have c:=a2.refl Z
 have I5:=b.lt
 have I6:(D.z 0).length=0:=by simp [D.cP]
 unfold aD.v at g
 unfold aD.t
 refine bE (hX.aZ IA.dL rfl) fun v h ⟨i,F⟩=>?_
 obtain⟨I7,m⟩:∃ y,y=bV (iK (false,e)):=⟨_,rfl⟩
 rw [← m] at F
 replace g:=cZ m g
 have IP:=pM false (IA.dL).words
 rw [← m] at IP
 obtain⟨I8,I9,rfl,n⟩:=F
 refine cF rfl (a9 (bK rfl (a9 (aQ rfl (b3 (?_))))))
 have n:=n.from a.le
 have IQ:=i.aS
 have b:=b.I i
 have a:=a.trans i
 have c:=c.trans i
 refine dH fun IS d j=>?_
 have E:dY ≠ h.size:=Nat.ne_of_lt b.lt
 have d:cY IS (h.size) [.bool false,.slice none (D.z 0).length 0]:=by rw [D.cP];exact d
 have G:o.size≤h.size:=a.le
 have IB:Z.size≤h.size:=c.le
 have Ja:=d.lt
 have IC:=j.aS
 have b:=b.I j
 have a:=a.trans j
 have c:=c.trans j
 refine b2 d (aT _ _) rfl fun Jb d H ID=>?_
 have b:=b.aJ E H
 have a:=aV.I a H G
 have c:=aV.I c H IB
 refine b2 d (aT _ _) rfl fun Jc d P IE=>?_
 have b:=b.aJ E P
 have a:=aV.I a P G
 have c:=aV.I c P IB
 refine bQ d (aT _ _) rfl ?_
 refine aQ rfl ?_
 refine r3 g (fun IT g=>?_) (fun IT g=>?_)
 ·exact g _ _ a rfl
 ·refine bQ b (aT _ _) rfl ?_
  refine bJ rfl ?_
  refine mR g (fun IU g=>?_) (fun IU g=>?_)
  ·exact g _ _ a rfl
  ·refine bQ b (aT _ _) rfl ?_
   refine bJ rfl ?_
   refine mR g (fun IV g=>?_) (fun IV g=>?_)
   ·exact g _ _ a rfl
   ·exact a4.a1 a IF IG IH II IJ (IK.aS (IQ.trans (IC.trans (ID.trans IE)))) IL b IM (n.aS (IC.trans (ID.trans IE))) (by first | assumption | decide | omega) d G E (by first | assumption | decide | omega) (by first | assumption | decide | omega) (by first | assumption | decide | omega) (by first | assumption | decide | omega) (by first | assumption | decide | omega) (by first | assumption | decide | omega) (by first | assumption | decide | omega) (by first | assumption | decide | omega) g
end iV
def e3(n:Nat):Prop:=(z n).length≤8192
theorem xC{n U m:Nat}(Z:n < 2 ^ U)(a:U≤64*m):(z n).length≤m:=
 e2.mpr (Nat.lt_of_lt_of_le Z (Nat.pow_le_pow_right (by decide) a))
theorem iC{n U:Nat}(Z:n < 2 ^ U)(a:U≤524288):e3 n:=xC Z (m:=8192) a
theorem oC{n m:Nat}(Z:n≤m)(F:e3 m):e3 n:=Nat.le_trans (lW Z) F
theorem sG{n:Nat}(Z:n < 18446744073709551616):e3 n:=iC (U:=64) (by rw [show(2:Nat) ^ 64=18446744073709551616 by decide];exact Z) (by omega)
theorem pP{n:Nat}(F:e3 n):eF n=(z n,0):=if_pos F
theorem k1{n:Nat}(F:e3 n):g5 (z n):=⟨F,o3 n⟩
section
variable {a N:R} {c aB l m Q k:Nat} {Z:V}
theorem pQ{A:R→Nat→Nat→V→Prop}(b:Q < 18446744073709551616)
  (g:∀ a c K,a2 Z K→cH dB Z K a c (z Q)→A a (z Q).length c K) :
  aG jV.id #[.int .u64 (Q:Int)] Z fun v K=>aE v fun a l c=>A a l c K:=by
 refine bE (AL b Z) fun v K ⟨U,F⟩=>?_
 exact F.g9 fun a c C=>g a c K U C
theorem sH{A:R→Nat→Nat→Int→V→Prop}(C:bU Z a c (z Q))(b:l=(z Q).length)(F:bU Z N aB (z k))(d:m=(z k).length)(hS:e3 (Q+k))
  (g:∀ a c K,a2 Z K→cH dB Z K a c (z (Q+k))→A a (z (Q+k)).length c 0 K) :
  aG hN.id #[.slice a l c,.slice N m aB] Z fun v K=>cO v fun k=>cL k fun e eD=>aE e fun a l c=>cL eD fun f h=>aC .i64 f fun Q=>bG h (A a l c Q K):=by
 refine bE (Et C F b d) fun v K ⟨U,t⟩=>?_
 have O:qW (z Q) (z k)=(z (Q+k),0):=by
  unfold qW;rw [if_pos ⟨k1 (oC (by omega) hS),k1 (oC (by omega) hS)⟩,dZ,dZ,pP hS]
 rw [O] at t
 exact t.g9 fun a c C T=>g a c K U C
theorem pR{A:R→Nat→Nat→Int→V→Prop}(C:bU Z a c (z Q))(b:l=(z Q).length)(F:bU Z N aB (z k))(d:m=(z k).length)(e9:e3 Q)(e:e3 k)
  (g:∀ a c K,a2 Z K→cH dB Z K a c (z (Q - k))→A a (z (Q - k)).length c (if Q < k then 3 else 0) K) :
  aG hU.id #[.slice a l c,.slice N m aB] Z fun v K=>cO v fun k=>cL k fun f eD=>aE f fun a l c=>cL eD fun h i=>aC .i64 h fun Q=>bG i (A a l c Q K):=by
 refine bE (Ev C F b d) fun v K ⟨U,t⟩=>?_
 have O:qX (z Q) (z k)=(z (Q - k),if Q < k then 3 else 0):=by
  unfold qX;rw [if_pos ⟨k1 e9,k1 e⟩,dZ,dZ]
  split
  ·rw [show Q - k=0 by omega,cP]
  ·exact pP (oC (by omega) e9)
 rw [O] at t
 exact t.g9 fun a c C T=>g a c K U C
theorem q7{A:R→Nat→Nat→Int→V→Prop}{L:Nat}(C:bU Z a c (z Q))(b:l=(z Q).length)(d:L < 18446744073709551616)(e9:e3 Q)(hS:e3 (Q*L))
  (g:∀ a c K,a2 Z K→cH dB Z K a c (z (Q*L))→A a (z (Q*L)).length c 0 K) :
  aG h6.id #[.slice a l c,.int .u64 (L:Int)] Z fun v K=>cO v fun k=>cL k fun e eD=>aE e fun a l c=>cL eD fun f h=>aC .i64 f fun Q=>bG h (A a l c Q K):=by
 refine bE (EF C b d) fun v K ⟨U,t⟩=>?_
 have O:uN (z Q) L=(z (Q*L),0):=by unfold uN;rw [if_pos (k1 e9),dZ,pP hS]
 rw [O] at t
 exact t.g9 fun a c C T=>g a c K U C
theorem xD{A:R→Nat→Nat→Int→Int→V→Prop}{L:Nat}(C:bU Z a c (z Q))(b:l=(z Q).length)(o:L ≠ 0)(d:L < 18446744073709551616)(e9:e3 Q)
  (g:∀ a c K,a2 Z K→cH dB Z K a c (z (Q / L))→A a (z (Q / L)).length c ((Q % L:Nat):Int) 0 K) :
  aG h7.id #[.slice a l c,.int .u64 (L:Int)] Z fun v K=>cO v fun k=>cL k fun e eD=>aE e fun a l c=>cL eD fun f h=>aC .u64 f fun Q=>cL h fun i j=>aC .i64 i fun a5=>bG j (A a l c Q a5 K):=by
 refine bE (AP C b d) fun v K ⟨U,t⟩=>?_
 have O:pF (z Q) L=(z (Q / L),((Q % L:Nat):Int),0):=by unfold pF;rw [if_pos (k1 e9),if_neg o,dZ]
 rw [O] at t
 exact t.elim fun a c C=>g a c K U C
theorem uZ{A:R→Nat→Nat→Int→V→Prop}{n:Nat}{T:Int}(aK:T=(n:Int))(C:bU Z a c (z Q))(b:l=(z Q).length)(h:n < 9223372036854775808)(e9:e3 Q)(hS:e3 (Q*2 ^ n))
  (g:∀ a c K,a2 Z K→cH dB Z K a c (z (Q*2 ^ n))→A a (z (Q*2 ^ n)).length c 0 K) :
  aG iQ.id #[.slice a l c,.int .i64 T] Z fun v K=>cO v fun k=>cL k fun d eD=>aE d fun a l c=>cL eD fun e f=>aC .i64 e fun Q=>bG f (A a l c Q K):=by
 subst aK
 refine bE (Ey C b (by omega)) fun v K ⟨U,t⟩=>?_
 have O:r8 (z Q) (n:Int)=(z (Q*2 ^ n),0):=by unfold r8;rw [if_neg (by omega),if_pos (k1 e9),dZ,Int.toNat_natCast,pP hS]
 rw [O] at t
 exact t.g9 fun a c C T=>g a c K U C
theorem xE{A:R→Nat→Nat→Int→V→Prop}{n:Nat}{T:Int}(aK:T=(n:Int))(C:bU Z a c (z Q))(b:l=(z Q).length)(h:n < 9223372036854775808)(e9:e3 Q)
  (g:∀ a c K,a2 Z K→cH dB Z K a c (z (Q / 2 ^ n))→A a (z (Q / 2 ^ n)).length c 0 K) :
  aG iR.id #[.slice a l c,.int .i64 T] Z fun v K=>cO v fun k=>cL k fun d eD=>aE d fun a l c=>cL eD fun e f=>aC .i64 e fun Q=>bG f (A a l c Q K):=by
 subst aK
 refine bE (AJ C b (by omega)) fun v K ⟨U,t⟩=>?_
 have O:pE (z Q) (n:Int)=(z (Q / 2 ^ n),0):=by unfold pE;rw [if_neg (by omega),if_pos (k1 e9),dZ,Int.toNat_natCast,pP (oC (Nat.div_le_self _ _) e9)]
 rw [O] at t
 exact t.g9 fun a c C T=>g a c K U C
theorem Bq{A:R→Nat→Nat→Int→V→Prop}{n:Nat}{T:Int}(aK:T=(n:Int))(C:bU Z a c (z Q))(b:l=(z Q).length)(h:n < 9223372036854775808)(e9:e3 Q)
  (g:∀ a c K,a2 Z K→cH dB Z K a c (z (Q % 2 ^ n))→A a (z (Q % 2 ^ n)).length c 0 K) :
  aG l3.id #[.slice a l c,.int .i64 T] Z fun v K=>cO v fun k=>cL k fun d eD=>aE d fun a l c=>cL eD fun e f=>aC .i64 e fun Q=>bG f (A a l c Q K):=by
 subst aK
 refine bE (EC C b (by omega)) fun v K ⟨U,t⟩=>?_
 have O:r9 (z Q) (n:Int)=(z (Q % 2 ^ n),0):=by unfold r9;rw [if_neg (by omega),if_pos (k1 e9),dZ,Int.toNat_natCast,pP (oC (Nat.mod_le _ _) e9)]
 rw [O] at t
 exact t.g9 fun a c C T=>g a c K U C
theorem oD{A:Int→V→Prop}(C:bU Z a c (z Q))(b:l=(z Q).length)(F:bU Z N aB (z k))(d:m=(z k).length)(g:A (e4 Q k) Z):
  aG hC.id #[.slice a l c,.slice N m aB] Z fun v K=>aC .i64 v fun Q=>A Q K:=by
 refine bE (w2 C F b d) fun v K ⟨e,f⟩=>?_
 subst e;subst f
 rw [dZ,dZ];exact g
theorem xF{A:Int→V→Prop}(C:bU Z a c (z Q))(b:l=(z Q).length)(g:A ((dK Q:Nat):Int) Z):
  aG lZ.id #[.slice a l c] Z fun v K=>aC .i64 v fun Q=>A Q K:=by
 refine bE (Al C b) fun v K ⟨d,e⟩=>?_
 subst d;subst e
 rw [dZ];exact g
theorem xG{A:R→Nat→Nat→R→Nat→Nat→Int→V→Prop}(C:bU Z a c (z Q))(b:l=(z Q).length)(F:bU Z N aB (z k))(d:m=(z k).length)(o:k ≠ 0)(e9:e3 Q)(e:e3 k)
  (g:∀ a c N aB K,a2 Z K→cH dB Z K a c (z (Q / k))→cH dB Z K N aB (z (Q % k))→A a (z (Q / k)).length c N (z (Q % k)).length aB 0 K) :
  aG lE.id #[.slice a l c,.slice N m aB] Z fun v K=>cO v fun k=>cL k fun f eD=>aE f fun a l c=>cL eD fun h i=>aE h fun N m aB=>cL i fun j n=>aC .i64 j fun a5=>bG n (A a l c N m aB a5 K):=by
 refine bE (E4 C F b d) fun v K ⟨U,t⟩=>?_
 have O:pH (z Q) (z k)=(z (Q / k),z (Q % k),0):=by unfold pH;rw [if_pos ⟨k1 e9,k1 e⟩,dZ,dZ,if_neg o]
 rw [O] at t
 obtain⟨_,_,_,D,⟨a,c,E,G⟩,⟨N,aB,H,P⟩,Iv,_⟩:=t
 subst D;subst E;subst H;subst Iv
 exact g a c N aB K U G P
end
noncomputable def force{cS:Type}(n:Nat)(a3:Nat→cS):cS:=Nat.rec (a3 0) (fun U _=>a3 (U+1)) n
theorem force_eq{cS:Type}(n:Nat)(a3:Nat→cS):force n a3=a3 n:=by cases n <;> rfl
noncomputable def oE(m:Nat)(U:Nat):Nat→Nat→Nat→Nat→Nat:=
 Nat.rec (fun _ _ a N=>a - N) (fun _ bD t T a N=>force t fun t=>force T fun T=>force a fun a=>force N fun N=>bD (t / m) (T+2) N (a+t / T)) U
theorem F1(m U t T a N:Nat):oE m (U+1) t T a N=oE m U (t / m) (T+2) N (a+t / T):=by
 show(force t fun t=>force T fun T=>force a fun a=>force N fun N=>oE m U (t / m) (T+2) N (a+t / T))=_
 simp only [force_eq]
def fN(n L M:Nat):Nat:=2 ^ L / n ^ (2*M+1)
def hJ(n L M:Nat):Nat:=fN n L M / (2*M+1)
def dT(n L:Nat):Nat→Nat
 | 0=>0
 | U+1=>dT n L U+if U % 2=0 then hJ n L U else 0
def dU(n L:Nat):Nat→Nat
 | 0=>0
 | U+1=>dU n L U+if U % 2=0 then 0 else hJ n L U
theorem sI(n L U:Nat):dT n L (U+1)=dT n L U+if U % 2=0 then hJ n L U else 0:=rfl
theorem sJ(n L U:Nat):dU n L (U+1)=dU n L U+if U % 2=0 then 0 else hJ n L U:=rfl
theorem Br(n L:Nat):fN n L 0=2 ^ L / n:=by simp [fN]
theorem u0(n L M:Nat):fN n L (M+1)=fN n L M / (n*n):=by
 unfold fN
 rw [Nat.div_div_eq_div_mul,show 2*(M+1)+1=(2*M+1)+1+1 by omega,Nat.pow_succ,Nat.pow_succ,Nat.mul_assoc]
theorem xH(n M:Nat){L bB:Nat}(Z:L≤bB):fN n L M=fN n bB M / 2 ^ (bB - L):=by
 unfold fN
 rw [Nat.div_div_eq_div_mul,Nat.mul_comm (n ^ _),← Nat.div_div_eq_div_mul]
 congr 1
 rw [show 2 ^ bB=2 ^ L*2 ^ (bB - L) by rw [← Nat.pow_add];congr 1;omega,Nat.mul_div_cancel _ (Nat.pow_pos (by decide))]
theorem F2(n M:Nat){L bB:Nat}(Z:L≤bB):hJ n L M=hJ n bB M / 2 ^ (bB - L):=by
 unfold hJ
 rw [xH n M Z,Nat.div_div_eq_div_mul,Nat.mul_comm (2 ^ _),← Nat.div_div_eq_div_mul]
theorem Bs(n L M:Nat):fN n L (M+1)≤fN n L M:=by rw [u0];exact Nat.div_le_self _ _
theorem F3{n L A:Nat}(Z:fN n L A=0):∀ U,A≤U→fN n L U=0:=by
 intro U a
 induction a with
 | refl=>exact Z
 | step _ bD=>have:=Bs n L (by assumption:Nat);rw [u0,bD,Nat.zero_div]
theorem F4{n L A:Nat}(Z:fN n L A=0)(U:Nat)(a:A≤U):hJ n L U=0:=by unfold hJ;rw [F3 Z U a,Nat.zero_div]
theorem F5(n L M:Nat):hJ n L (M+1)≤hJ n L M:=by
 unfold hJ
 exact Nat.le_trans (Nat.div_le_div_right (Bs n L M)) (Nat.div_le_div_left (by omega) (by omega))
theorem Bt{n L A:Nat}(Z:fN n L A=0):∀ U,A≤U→dT n L U=dT n L A∧dU n L U=dU n L A:=by
 intro U a
 induction a with
 | refl=>exact⟨rfl,rfl⟩
 | @step U a bD=>
  have:=F4 Z U a
  rw [sI,sJ,this,bD.1,bD.2]
  split <;> exact⟨rfl,rfl⟩
theorem F6(n L:Nat):∀ U,dU n L (2*U)≤dT n L (2*U)∧dU n L (2*U+1)≤dT n L (2*U+1):=by
 intro U
 induction U with
 | zero=>simp [dT,dU]
 | succ U bD=>
  have Z:=F5 n L (2*U)
  have e:dT n L (2*U+1)=dT n L (2*U)+hJ n L (2*U):=by rw [dT,if_pos (by omega)]
  have f:dU n L (2*U+1)=dU n L (2*U):=by rw [dU,if_pos (by omega)];rfl
  have a:dT n L (2*U+1+1)=dT n L (2*U+1):=by rw [dT,if_neg (by omega)];rfl
  have b:dU n L (2*U+1+1)=dU n L (2*U+1)+hJ n L (2*U+1):=by rw [dU,if_neg (by omega)]
  have c:dT n L (2*(U+1)+1)=dT n L (2*U+1+1)+hJ n L (2*U+1+1):=by
   rw [show 2*(U+1)+1=(2*U+1+1)+1 by omega,dT,if_pos (by omega)]
  have d:dU n L (2*(U+1)+1)=dU n L (2*U+1+1):=by
   rw [show 2*(U+1)+1=(2*U+1+1)+1 by omega,dU,if_pos (by omega)];rfl
  rw [c,d,show 2*(U+1)=2*U+1+1 by omega,a,b]
  omega
theorem u1(n L U:Nat):dU n L U≤dT n L U:=by
 have:=F6 n L (U / 2)
 rcases Nat.mod_two_eq_zero_or_one U with Z | Z
 ·have O:2*(U / 2)=U:=by omega
  rw [O] at this;exact this.1
 ·have O:2*(U / 2)+1=U:=by omega
  rw [O] at this;exact this.2
theorem Bu(n:Nat){L bB:Nat}(Z:L≤bB):∀ U,2 ^ (bB - L)*dT n L U≤dT n bB U∧dT n bB U≤2 ^ (bB - L)*dT n L U+U*2 ^ (bB - L)
  ∧2 ^ (bB - L)*dU n L U≤dU n bB U∧dU n bB U≤2 ^ (bB - L)*dU n L U+U*2 ^ (bB - L):=by
 intro U
 have a:0 < 2 ^ (bB - L):=Nat.pow_pos (by decide)
 induction U with
 | zero=>simp [dT,dU]
 | succ U bD=>
  have O:=F2 n U Z
  have aI:=Nat.div_add_mod (hJ n bB U) (2 ^ (bB - L))
  have b:=Nat.mod_lt (hJ n bB U) a
  rw [← O] at aI
  simp only [sI,sJ]
  split <;> (simp only [Nat.mul_add,Nat.add_mul,Nat.add_zero,Nat.one_mul];omega)
theorem F7(n L:Nat):∀ U,dT n L U≤U*2 ^ L∧dU n L U≤U*2 ^ L:=by
 intro U
 induction U with
 | zero=>simp [dT,dU]
 | succ U bD=>
  have Z:hJ n L U≤2 ^ L:=Nat.le_trans (Nat.div_le_self _ _) (Nat.div_le_self _ _)
  rw [sI,sJ,Nat.add_mul,Nat.one_mul]
  split <;> omega
theorem F8{n L A:Nat}(a:2≤n)(Z:fN n L A ≠ 0):2*A+1≤L:=by
 have aI:n ^ (2*A+1)≤2 ^ L:=by
  refine Nat.le_of_not_lt fun b=>Z ?_
  exact Nat.div_eq_of_lt b
 have c:2 ^ (2*A+1)≤2 ^ L:=Nat.le_trans (Nat.pow_le_pow_left a _) aI
 exact(Nat.pow_le_pow_iff_right (by decide)).mp c
theorem F9(n L:Nat):∀ U M,(U+M) % 2=0→
  oE (n*n) U (fN n L M) (2*M+1) (if M % 2=0 then dT n L M else dU n L M) (if M % 2=0 then dU n L M else dT n L M)=dT n L (U+M) - dU n L (U+M):=by
 intro U
 induction U with
 | zero=>intro M a;rw [if_pos (by omega),if_pos (by omega),Nat.zero_add];rfl
 | succ U bD=>
  intro M a
  rw [F1,← u0,show 2*M+1+2=2*(M+1)+1 by omega,show U+1+M=U+(M+1) by omega,← bD (M+1) (by omega)]
  show oE _ _ _ _ _ (_+hJ n L M)=_
  congr 1
  ·rw [sI,sJ]
   by_cases Z:M % 2=0
   ·rw [if_pos Z,if_neg (by omega),if_pos Z];rfl
   ·rw [if_neg Z,if_pos (by omega),if_neg Z];rfl
  ·rw [sI,sJ]
   by_cases Z:M % 2=0
   ·rw [if_pos Z,if_neg (by omega),if_pos Z]
   ·rw [if_neg Z,if_pos (by omega),if_neg Z]
theorem Bv(n L U:Nat)(a:U % 2=0):dT n L U - dU n L U=oE (n*n) U (2 ^ L / n) 1 0 0:=by
 have:=F9 n L U 0 (by omega)
 rw [Br] at this
 exact this.symm
abbrev iD:Nat:=106937688940968101568520295731801138857827202830006851169677272293281241180647803776394266198720996189227803738202197106355534191726285760255998505757921947470486233670987095309194285862467539685567002432331647719934610556214708844537733521449215131135642479809455669842373022771309008761174914697077727284628078295399460836614913637844856395348020305303283184612531000050028878489998218776580040522951052306626129921444676578840184819479601266297863183475716650308634937685742705956127373178271076338116354264367681865696775216337451629603011018563118456482097899144797648290469531483378193239773416318668461446652679025891468115771441450339219653379304093926428506513445733525485231516666345627449879163775729653748279900012441806277675766758556323979153132732506815220085641198124173114968854511217214171941165580070203341091613636813385438732888053955974411223181060985126433148058920900568754439793344638937332940535664350231711721792110690384387506204155115611984391616160985489822569077049076788883832218810415649660786935547168893297397675957341601609444080446891164538769590734201026369559368709899442315784294126628596807970073288428217799468042507438050531342533826870680255312053701910154466904824800215373734767755912008641298294462837563540487529470858782034282301635839068644196269790653005385246521689620224148
abbrev sK:Nat:=21670106438950044027773753661373242548581047271588309570413166894835566577140857200135624621822271826638536135301136973301956193406880783960766443342878681622045816875120351634207680817682143410289669618836876705565386791753913111301177925466984244819214418012209177156079983026305949774311270476509575972093260258813152043809267550211575980000823076312422471329920795567537507052882390151702700059416933748932668843918894114832868929314904823999839499607480906959541879324163869349312548084089290499614303814940889675780628640131840544258158067910198921408614211635263684626866779927041084164334776856136755444449861644887102953942274545757779808898736864123068605005441004092453171332530233795734973734238724019915910782768382028018638098929823389394080370222840356417805260745439146761210184139532204224321417248712695707878680092962226833650364208925543567265045795140423994246756181226587182374416729266842792140591118635239974324759519732905098315508295645468944444621563352761610585029630423398866059363403896220467401797793682768518992165314795003068281779687923152175652401510564536513297916200481370051477209594500405362033978301153961978710222988482112321845134589885057161606595381688591558836393546986136919136679572864606985540309331056000904405647726116515970544747669053093432287536570227874414715749694447386
theorem Ga:16*oE (5*5) 950 (2 ^ 4400 / 5) 1 0 0 - 4*oE (239*239) 280 (2 ^ 4400 / 239) 1 0 0=iD:=by kernel_rfl
theorem Gb:fN 5 4400 950=0:=by kernel_rfl
theorem Gc:fN 239 4400 280=0:=by kernel_rfl
def dO(L:Nat):Nat:=iD / 2 ^ (4400 - L)
theorem Gd{L A b:Nat}(c:L≤4400)(h:fN 5 L A=0)(i:fN 239 L b=0):
  4*(dT 239 L b - dU 239 L b)≤16*(dT 5 L A - dU 5 L A)+17400
  ∧16*(dT 5 L A - dU 5 L A)≤dO L+17400+4*(dT 239 L b - dU 239 L b)
  ∧dO L+4*(dT 239 L b - dU 239 L b)≤16*(dT 5 L A - dU 5 L A)+17400:=by
 have j:fN 5 L 950=0:=by rw [xH 5 950 c,Gb,Nat.zero_div]
 have l:fN 239 L 280=0:=by rw [xH 239 280 c,Gc,Nat.zero_div]
 have e:∀ n U,fN n L U=0→∀ m,fN n L m=0→dT n L U=dT n L m∧dU n L U=dU n L m:=by
  intro n U t m f
  rcases Nat.le_total U m with Z | Z
  ·have:=Bt t m Z;exact⟨this.1.symm,this.2.symm⟩
  ·exact Bt f U Z
 obtain⟨E,G⟩:=e 5 A h 950 j
 obtain⟨H,Iv⟩:=e 239 b i 280 l
 rw [E,G,H,Iv]
 have Iw:0 < 2 ^ (4400 - L):=Nat.pow_pos (by decide)
 have Ix:=Bu 5 c 950
 have Iy:=Bu 239 c 280
 have Iz:=u1 5 L 950
 have IA:=u1 239 L 280
 have IB:=u1 5 4400 950
 have IC:=u1 239 4400 280
 have g:=Ga
 rw [← Bv 5 4400 950 rfl,← Bv 239 4400 280 rfl] at g
 have ID:=Nat.div_add_mod iD (2 ^ (4400 - L))
 have f:=Nat.mod_lt iD Iw
 have IE:4*(dT 239 4400 280 - dU 239 4400 280)≤16*(dT 5 4400 950 - dU 5 4400 950):=by
  refine Nat.le_of_lt (Nat.lt_of_sub_pos ?_)
  rw [g];decide
 unfold dO
 generalize iD / 2 ^ (4400 - L)=aH at *
 generalize iD % 2 ^ (4400 - L)=aY at *
 generalize iD=P at *
 generalize 2 ^ (4400 - L)=D at *
 generalize dT 5 4400 950=IF at *
 generalize dU 5 4400 950=IG at *
 generalize dT 239 4400 280=a7 at *
 generalize dU 239 4400 280=IH at *
 generalize dT 5 L 950=a at *
 generalize dU 5 L 950=II at *
 generalize dT 239 L 280=N at *
 generalize dU 239 L 280=IJ at *
 obtain⟨b7,rfl⟩:=Nat.le.dest Iz
 obtain⟨v,rfl⟩:=Nat.le.dest IA
 rw [Nat.add_sub_cancel_left,Nat.add_sub_cancel_left]
 simp only [Nat.mul_add] at Ix Iy
 have d:∀ Q k:Nat,D*Q≤D*k+(D - 1)→Q≤k:=by
  intro Q k Z
  refine Nat.le_of_not_lt fun IK=>?_
  have:=Nat.mul_le_mul_left D (show k+1≤Q by omega)
  rw [Nat.mul_add] at this;omega
 refine⟨d _ _ ?_,d _ _ ?_,d _ _ ?_⟩ <;> (simp only [Nat.mul_add,Nat.mul_left_comm D];omega)
structure sL(L a6 aK:Nat):Prop where
 le:a6≤aK
 It:dO L≤a6+262144
 Bw:a6≤dO L+262144
 EL:dO L≤aK+262144
 sE:aK≤dO L+262144
theorem Ge{L A a:Nat}(b:L≤4400)(c:fN 5 L A=0)(d:fN 239 L a=0)(U:2*A≤L+1)(l:2*a≤L+1):
  4*(dT 239 L a - dU 239 L a)≤16*(dT 5 L A - dU 5 L A)+17400∧
  sL L (16*(dT 5 L A - dU 5 L A) - 4*(dT 239 L a - dU 239 L a) - (16*(2+3*A)+4*(2+3*a)))
   (16*(dT 5 L A - dU 5 L A) - 4*(dT 239 L a - dU 239 L a)+(16*(2+3*A)+4*(2+3*a))):=by
 obtain⟨o,aI,e⟩:=Gd b c d
 generalize 16*(dT 5 L A - dU 5 L A)=f at *
 generalize 4*(dT 239 L a - dU 239 L a)=a7 at *
 exact⟨o,⟨by omega,by omega,by omega,by omega,by omega⟩⟩
noncomputable def pS(a3:Nat→Bool)(n:Nat):Bool:=Nat.rec true (fun U bD=>a3 U && bD) n
theorem sM{a3:Nat→Bool}{n:Nat}(Z:pS a3 n=true):∀ U,U < n→a3 U=true:=by
 induction n with
 | zero=>intro U b;omega
 | succ n bD=>
  intro U b
  have K:(a3 n && pS a3 n)=true:=Z
  rw [Bool.and_eq_true] at K
  rcases Nat.lt_or_ge U n with a | a
  ·exact bD K.2 U a
  ·rw [show U=n by omega];exact K.1
theorem Gf(L g:Nat)(Z:L+g≤4400):dO (L+g) / 2 ^ g=dO L:=by
 unfold dO
 rw [Nat.div_div_eq_div_mul,← Nat.pow_add];congr 2;omega
def Bx(y:Nat):Bool:=Nat.ble 262144 (iD / 2 ^ (4352 - y) % 281474976710656) && Nat.ble (iD / 2 ^ (4352 - y) % 281474976710656) 281474976448511
theorem Gg:pS Bx 4200=true:=by kernel_rfl
theorem Gh{y a6 aK:Nat}(a:y < 4200)(m:sL (y+48) a6 aK):a6 / 281474976710656=dO y∧aK / 281474976710656=dO y:=by
 have Z:=sM Gg y a
 simp only [Bx,Bool.and_eq_true,Nat.ble_eq] at Z
 have O:iD / 2 ^ (4352 - y)=dO (y+48):=by unfold dO;congr 2;omega
 rw [O] at Z
 have b:=Gf y 48 (by omega)
 rw [show(2:Nat) ^ 48=281474976710656 by decide] at b
 obtain⟨c,d,e,f,g⟩:=m
 omega
def mY(y:Nat):Nat:=sK / 2 ^ (4400 - y)
def By(y:Nat):Bool:=
 Nat.ble (sK / 2 ^ (4400 - y)*(iD / 2 ^ (4352 - y)+262144)) (2 ^ (2*y+49)) && Nat.blt (2 ^ (2*y+49)) ((sK / 2 ^ (4400 - y)+1)*(iD / 2 ^ (4352 - y) - 262144))
theorem Gi:pS By 1500=true:=by kernel_rfl
theorem Bz{L:Nat}(a:L≤4400):3*2 ^ L≤dO L:=by
 unfold dO
 rw [Nat.le_div_iff_mul_le (Nat.pow_pos (by decide)),Nat.mul_assoc,← Nat.pow_add,show L+(4400 - L)=4400 by omega]
 exact Nat.le_of_ble_eq_true (by kernel_rfl)
theorem Gj{y a6 aK:Nat}(d:y < 1500)(m:sL (y+48) a6 aK):a6 ≠ 0∧2 ^ (2*y+49) / a6=mY y∧2 ^ (2*y+49) / aK=mY y:=by
 have Z:=sM Gi y d
 simp only [By,Bool.and_eq_true,Nat.ble_eq,Nat.blt_eq] at Z
 have O:iD / 2 ^ (4352 - y)=dO (y+48):=by unfold dO;congr 2;omega
 have e:sK / 2 ^ (4400 - y)=mY y:=rfl
 rw [O,e] at Z
 have i:=Bz (show y+48≤4400 by omega)
 have f:2 ^ 48≤2 ^ (y+48):=Nat.pow_le_pow_right (by decide) (by omega)
 rw [show(2:Nat) ^ 48=281474976710656 by decide] at f
 obtain⟨j,l,n,t,D⟩:=m
 generalize 2 ^ (2*y+49)=cG at *
 generalize mY y=v at *
 generalize 2 ^ (y+48)=b6 at *
 generalize dO (y+48)=aH at *
 have g:0 < a6:=by omega
 have b:∀ a5,aH - 262144≤a5→a5≤aH+262144→0 < a5→cG / a5=v:=by
  intro a5 aI h c
  have a:=Nat.mul_le_mul_left v h
  have N:=Nat.mul_le_mul_left (v+1) aI
  refine Nat.le_antisymm ?_ ?_
  ·exact Nat.le_of_lt_succ ((Nat.div_lt_iff_lt_mul c).mpr (show cG < (v+1)*a5 by omega))
  ·exact(Nat.le_div_iff_mul_le c).mpr (by omega)
 exact⟨by omega,b a6 (by omega) (by omega) g,b aK (by omega) (by omega) (by omega)⟩
theorem Gk{a:R}{c l Q n:Nat}{Z:V}{A:R→Nat→Nat→V→Prop}(C:bU Z a c (z Q))(d:l=(z Q).length)(b0:n ≠ 0)(b:n < 65536)(e9:e3 Q)
  (g:∀ a c K,a2 Z K→cH dB Z K a c (z (Q / (n*n)))→A a (z (Q / (n*n))).length c K) :
  aG nL.id #[.slice a l c,.int .u64 (n:Int)] Z fun v K=>aE v fun a l c=>A a l c K:=by
 refine bE (dC:=fun v K=>a2 Z K∧∃ a c,v=.slice a (z (Q / (n*n))).length c∧cH dB Z K a c (z (Q / (n*n)))) ?_ fun v K ⟨U,a,c,O,C⟩=>by subst O;exact g a c K U C
 refine nL.ok ?_
 unfold nL.t nL.u.t
 have e:(n:Int) < 4294967296:=by omega
 rw [decide_eq_true e]
 have h:n*n < 4294967296:=(Nat.mul_lt_mul'' b b:n*n < 65536*65536)
 have f:n*n ≠ 0:=Nat.ne_of_gt (Nat.mul_pos (by omega) (by omega))
 show aN _ _
 refine cK (n*n) (by rw [Int.natCast_mul]) (by omega) ?_
 exact xD C d f (by omega) e9 fun a c K U C=>⟨U,a,c,rfl,C⟩
def xI(n L:Nat)(Z:V)(v:Value)(K:V):Prop:=
 a2 Z K∧∃ U a c,fN n L U=0∧2*U≤L+1∧v=.tuple #[.slice a (z (dT n L U - dU n L U)).length c,.int .u64 ((2+3*U:Nat):Int)]∧cH dB Z K a c (z (dT n L U - dU n L U))
theorem BA(n M:Nat){L:Nat}(a:L≤100000):e3 (fN n L M):=
 iC (U:=L+1) (Nat.lt_of_le_of_lt (Nat.div_le_self _ _) (Nat.pow_lt_pow_right (by decide) (by omega))) (by omega)
theorem BB(n:Nat){M L:Nat}(b:2*M≤L+1):dT n L M < 2 ^ (L+L+1)∧dU n L M < 2 ^ (L+L+1):=by
 have Z:=F7 n L M
 have a:M*2 ^ L < 2 ^ (L+L+1):=by
  rw [show L+L+1=(L+1)+L by omega,Nat.pow_add]
  exact Nat.mul_lt_mul_of_pos_right (Nat.lt_of_lt_of_le (show M < L+2 by omega) (by have:=@Nat.lt_two_pow_self (L+1);omega)) (Nat.pow_pos (by decide))
 exact⟨Nat.lt_of_le_of_lt Z.1 a,Nat.lt_of_le_of_lt Z.2 a⟩
theorem BC(n:Nat){M L:Nat}(b:L≤100000)(a:2*M≤L+1):e3 (dT n L M)∧e3 (dU n L M):=by
 have Z:=BB n a
 exact⟨iC Z.1 (by omega),iC Z.2 (by omega)⟩
theorem BD(n:Nat){M L:Nat}(b:L≤100000)(a:2*M≤L+1):e3 (dT n L M - dU n L M)∧e3 ((dT n L M - dU n L M)*16):=by
 have Z:=BB n a
 have O:2 ^ (L+L+5)=2 ^ (L+L+1)*16:=by rw [show L+L+5=(L+L+1)+4 by omega,Nat.pow_add]
 exact⟨iC (U:=L+L+1) (by omega) (by omega),iC (U:=L+L+5) (by rw [O];omega) (by omega)⟩
theorem l7{n:Nat}:(z n).length=0↔n=0:=by
 constructor
 ·intro Z
  have:=dZ n
  rw [List.length_eq_zero_iff.mp Z] at this
  exact this.symm
 ·rintro rfl;rw [cP];rfl
theorem Gl{n L:Nat}{o:V}(IG:2≤n)(IH:n < 65536)(D:L≤100000):
  ∀ (a3 M:Nat) (a N c:R) (aB O g l m s:Nat) (Z:V),a3+M=L+2→2*M≤L+1→a2 o Z→bU Z a aB (z (fN n L M))→l=(z (fN n L M)).length→bU Z N O (z (dT n L M))→m=(z (dT n L M)).length→
   bU Z c g (z (dU n L M))→s=(z (dU n L M)).length→kJ.a8.t (xI n L o) (a3+1) (n:Int) a l aB N m O c s g ((2+3*M:Nat):Int) ((2*M+1:Nat):Int) Z:=by
 intro a3
 induction a3 with
 | zero=>
  intro M a N c aB O g l m s Z II P;omega
 | succ a3 bD=>
  intro M a N c aB O g l m s Z II P E C IB F Iv x Iw
  unfold kJ.a8.t kJ.bS.t
  have IC:=BC n D P
  refine b1 (fun IJ=>?_) fun IJ=>?_
  ·have IK:fN n L M ≠ 0:=fun IL=>by have:=l7.mpr IL;omega
   have IX:=F8 IG IK
   have ID:=BC n D (show 2*(M+1)≤L+1 by omega)
   refine xD C IB (by omega) (by omega) (BA n M D) fun IY IZ aI cQ IE=>?_
   refine⟨by decide,?_⟩
   refine aN.mk ?_
   have fin:∀ (e bA:R) (d2 G Ix Iy:Nat) (b:V),a2 o b→bU b a aB (z (fN n L M))→bU b e d2 (z (dT n L (M+1)))→Ix=(z (dT n L (M+1))).length→bU b bA G (z (dU n L (M+1)))→Iy=(z (dU n L (M+1))).length→
     aG nL.id #[.slice a l aB,.int .u64 (n:Int)] b fun v K=>aE v fun a l aB=>aN (IntKind.u64.wrap (((2+3*M:Nat):Int)+3)) fun IM=>aN (IntKind.u64.wrap (((2*M+1:Nat):Int)+2)) fun IN=>
      kJ.a8.t (xI n L o) (a3+1) (n:Int) a l aB e Ix d2 bA Iy G IM IN K:=by
    intro e bA d2 G Ix Iy b d f s2 IP IQ IS
    refine Gk f IB (by omega) IH (BA n M D) fun IT IU IV Iz IF=>?_
    refine cK (2+3*(M+1)) (by omega) (by omega) ?_
    refine cK (2*(M+1)+1) (by omega) (by omega) ?_
    rw [← u0] at IF ⊢
    exact bD (M+1) IT e bA IU d2 G _ _ _ IV (by omega) (by omega) (d.trans Iz) IF.dL rfl (s2.I Iz) IP (IQ.I Iz) IS
   have h:dT n L (M+1)=dT n L M+if M % 2=0 then hJ n L M else 0:=rfl
   have i:dU n L (M+1)=dU n L M+if M % 2=0 then 0 else hJ n L M:=rfl
   refine fP (fun IA=>?_) fun IA=>?_
   ·have H:M % 2=0:=by
     have:((2*M+1:Nat):Int).tmod 4=1:=IA
     rw [Int.tmod_eq_emod_of_nonneg (by omega)] at this;omega
    rw [if_pos H] at h i
    refine sH (Q:=dT n L M) (k:=hJ n L M) (F.I cQ) Iv IE.dL rfl (by rw [← h];exact ID.1) fun e bA b d f=>?_
    have j:=f.dL
    rw [← h] at j ⊢
    exact fin _ _ _ _ _ _ b ((E.trans cQ).trans d) ((C.I cQ).I d) j rfl (by rw [i];exact(x.I cQ).I d) (by rw [i];exact Iw)
   ·have H:¬ M % 2=0:=by
     intro H
     refine IA ?_
     show((2*M+1:Nat):Int).tmod 4=1
     rw [Int.tmod_eq_emod_of_nonneg (by omega)];omega
    rw [if_neg H] at h i
    refine sH (Q:=dU n L M) (k:=hJ n L M) (x.I cQ) Iw IE.dL rfl (by rw [← i];exact ID.2) fun e bA b d f=>?_
    have j:=f.dL
    rw [← i] at j ⊢
    exact fin _ _ _ _ _ _ b ((E.trans cQ).trans d) ((C.I cQ).I d) (by rw [h];exact(F.I cQ).I d) (by rw [h];exact Iv) j rfl
  ·have IW:fN n L M=0:=l7.mp (by omega)
   unfold kJ.aD.t
   refine pR F Iv x Iw IC.1 IC.2 fun e bA b d f=>?_
   exact⟨E.trans d,M,e,bA,IW,P,rfl,f.from E.le⟩
theorem BE{n L:Nat}(Z:V)(e:2≤n)(f:n < 65536)(g:L≤100000):aG kJ.id #[.int .u64 (n:Int),.int .i64 (L:Int)] Z (xI n L Z):=by
 refine kJ.ok ?_
 unfold kJ.t kJ.u.t
 have a:e3 (1*2 ^ L):=by rw [Nat.one_mul];exact iC (U:=L+1) (Nat.pow_lt_pow_right (by decide) (by omega)) (by omega)
 refine pQ (Q:=1) (by decide) fun v D aI cQ h=>?_
 refine uZ rfl h.dL rfl (by omega) (sG (by decide)) a fun E bA G i j=>?_
 refine xD j.dL rfl (by omega) (by omega) a fun H P Iv l b=>?_
 refine uC dB [] rfl (by simp) fun Iw _ c=>?_
 refine uC dB [] rfl (by simp) fun m _ d=>?_
 unfold kJ.a4.t
 have O:1*2 ^ L / n=fN n L 0:=by rw [Nat.one_mul,Br]
 rw [O] at b ⊢
 refine⟨L+2+1,Gl e f g (L+2) 0 _ _ _ _ _ _ _ _ _ m (by omega) (by omega) ((((cQ.trans i).trans l).trans c).trans d) ((b.dL.I c).I d) rfl ?_ ?_ ?_ ?_⟩
 ·show bU _ _ _ (z 0);rw [cP];exact bU.nil _ _ _
 ·show _=(z 0).length;rw [cP];rfl
 ·show bU _ _ _ (z 0);rw [cP];exact bU.nil _ _ _
 ·show _=(z 0).length;rw [cP];rfl
theorem Gm{a:R}{c l Q s:Nat}{Z:V}{A:R→Nat→Nat→R→Nat→Nat→V→Prop}(C:bU Z a c (z Q))(i:l=(z Q).length)(d:s < 18446744073709551616)(e9:e3 (Q+s))
  (g:∀ a c N aB K,a2 Z K→cH dB Z K a c (z (Q - s))→cH dB Z K N aB (z (Q+s))→A a (z (Q - s)).length c N (z (Q+s)).length aB K) :
  aG pT.id #[.slice a l c,.int .u64 (s:Int)] Z fun v K=>cO v fun k=>cL k fun n eD=>aE n fun a l c=>cL eD fun D E=>aE D fun N m aB=>bG E (A a l c N m aB K):=by
 refine bE (dC:=fun v K=>a2 Z K∧∃ a c N aB,v=.tuple #[.slice a (z (Q - s)).length c,.slice N (z (Q+s)).length aB]∧cH dB Z K a c (z (Q - s))∧cH dB Z K N aB (z (Q+s))) ?_
  fun v K ⟨U,a,c,N,aB,O,e,f⟩=>by subst O;exact g a c N aB K U e f
 refine pT.ok ?_
 unfold pT.t pT.u.t
 refine pQ d fun P Iv aI cQ e=>?_
 refine pR (C.I cQ) i e.dL rfl (oC (by omega) e9) (sG d) fun Iw bA Ix h f=>?_
 refine pQ d fun Iy Iz IA b G=>?_
 refine sH (((C.I cQ).I h).I b) i G.dL rfl e9 fun IB IC ID j H=>?_
 exact⟨((cQ.trans h).trans b).trans j,_,_,_,_,rfl,((f.I b).I j).from cQ.le,H.from ((cQ.trans h).trans b).le⟩
theorem sN{L Q:Nat}(b:L≤4400)(a:Q≤dO L+262144):e3 Q:=by
 refine iC (U:=4403) (Nat.lt_of_le_of_lt (Nat.le_trans a (Nat.add_le_add_right (show dO L≤iD from Nat.div_le_self _ _) _)) ?_) (by omega)
 exact Nat.le_of_ble_eq_true (by kernel_rfl)
theorem BF{L:Nat}{Z:V}{A:R→Nat→Nat→R→Nat→Nat→V→Prop}(f:L≤4400)
  (g:∀ a6 aK a c N aB K,sL L a6 aK→a2 Z K→cH dB Z K a c (z a6)→cH dB Z K N aB (z aK)→A a (z a6).length c N (z aK).length aB K) :
  aG oF.id #[.int .i64 (L:Int)] Z fun v K=>cO v fun k=>cL k fun h eD=>aE h fun a l c=>cL eD fun i G=>aE i fun N m aB=>bG G (A a l c N m aB K):=by
 refine bE (dC:=fun v K=>a2 Z K∧∃ a6 aK a c N aB,sL L a6 aK∧v=.tuple #[.slice a (z a6).length c,.slice N (z aK).length aB]∧cH dB Z K a c (z a6)∧cH dB Z K N aB (z aK)) ?_
  fun v K ⟨U,a6,aK,a,c,N,aB,m,O,b,d⟩=>by subst O;exact g a6 aK a c N aB K m U b d
 refine oF.ok ?_
 unfold oF.t oF.u.t
 refine bE (BE (n:=5) Z (by decide) (by decide) (by omega)) fun h aI ⟨cQ,T,IE,IF,H,B,P,b⟩=>?_
 subst P
 refine fR rfl (a9 (aQ rfl (a9 (bJ rfl (b3 ?_)))))
 refine bE (BE (n:=239) aI (by decide) (by decide) (by omega)) fun i IG ⟨j,M,IH,bA,Iv,bO,Iw,d⟩=>?_
 subst Iw
 refine fR rfl (a9 (aQ rfl (a9 (bJ rfl (b3 ?_)))))
 obtain⟨II,m⟩:=Ge f H Iv B bO
 have e:=BD 5 (show L≤100000 by omega) B
 have s2:=BD 239 (show L≤100000 by omega) bO
 refine q7 (L:=16) (b.dL.I j) rfl (by decide) e.1 e.2 fun IJ IK IL D Ix=>?_
 refine q7 (L:=4) (d.dL.I D) rfl (by decide) s2.1 (oC (by omega) s2.2) fun IM IN IP E Iy=>?_
 refine pR (Ix.dL.I E) rfl Iy.dL rfl e.2 (oC (by omega) s2.2) fun IQ IS IT Iz IA=>?_
 refine cK (16*(2+3*T)) (by omega) (by omega) ?_
 refine cK (4*(2+3*M)) (by omega) (by omega) ?_
 refine cK (16*(2+3*T)+4*(2+3*M)) (by omega) (by omega) ?_
 rw [Nat.mul_comm 16,Nat.mul_comm 4 (dT 239 L M - dU 239 L M)] at m
 refine Gm IA.dL rfl (by omega) (sN f m.sE) fun IU IV IW IX IY IB IC ID=>?_
 have eT:=(((cQ.trans j).trans D).trans E).trans Iz
 exact⟨eT.trans IB,_,_,_,_,_,_,m,rfl,IC.from eT.le,ID.from eT.le⟩
theorem BG{y:Nat}(Z:V)(aI:1≤y)(e:y < 4200):aG l8.id #[.int .i64 (y:Int)] Z fun v K=>a2 Z K∧dS Z K v (z (dO y),0):=by
 refine l8.ok ?_
 unfold l8.t l8.u.t
 refine b1 (fun a=>absurd a (by omega)) fun _=>?_
 refine b1 (fun a=>absurd a (by omega)) fun _=>?_
 unfold l8.aD.t
 refine⟨1,?_⟩
 unfold l8.bZ.t l8.bP.t
 refine b9 ((y+48:Nat):Int) (by omega) (by omega) (by omega) ?_
 refine BF (by omega) fun a6 aK G H iM d1 aI m cQ f g=>?_
 have h:=sN (show y+48≤4400 by omega) m.Bw
 have i:=sN (show y+48≤4400 by omega) m.sE
 refine xE (n:=48) rfl f.dL rfl (by decide) h fun P bA Iv d b=>?_
 refine xE (n:=48) rfl (g.dL.I d) rfl (by decide) i fun gC d2 Iw c j=>?_
 refine oD (b.dL.I c) rfl j.dL rfl ?_
 obtain⟨l,D⟩:=Gh e m
 rw [show(2:Nat) ^ 48=281474976710656 by decide] at *
 rw [l] at b ⊢
 rw [D]
 refine fP (fun _=>?_) fun E=>absurd (by simp [e4]) E
 exact⟨(cQ.trans d).trans c,dS.back (y:=(z (dO y),0)) ((b.I c).from cQ.le) (show In .i64 0 by decide)⟩
theorem Gn{y:Nat}(Z:V)(aI:1≤y)(i:y < 1500):aG mZ.id #[.int .i64 (y:Int)] Z fun v K=>a2 Z K∧dS Z K v (z (mY y),0):=by
 refine mZ.ok ?_
 unfold mZ.t mZ.u.t
 refine b1 (fun a=>absurd a (by omega)) fun _=>?_
 refine b1 (fun a=>absurd a (by omega)) fun _=>?_
 unfold mZ.aD.t
 refine⟨1,?_⟩
 unfold mZ.bZ.t mZ.bP.t
 refine b9 ((y+48:Nat):Int) (by omega) (by omega) (by omega) ?_
 refine BF (by omega) fun a6 aK Ix Iy iM d1 aI m cQ j l=>?_
 have n:=sN (show y+48≤4400 by omega) m.Bw
 have D:=sN (show y+48≤4400 by omega) m.sE
 obtain⟨a5,E,G⟩:=Gj i m
 have H:aK ≠ 0:=by have:=m.le;omega
 refine pQ (Q:=1) (by decide) fun Iz bA IA b P=>?_
 refine b9 ((2*y:Nat):Int) (by omega) (by omega) (by omega) ?_
 refine b9 ((2*y+48:Nat):Int) (by omega) (by omega) (by omega) ?_
 refine b9 ((2*y+49:Nat):Int) (by omega) (by omega) (by omega) ?_
 have c:e3 (1*2 ^ (2*y+49)):=by rw [Nat.one_mul];exact iC (U:=2*y+50) (Nat.pow_lt_pow_right (by decide) (by omega)) (by omega)
 refine uZ rfl P.dL rfl (by omega) (sG (by decide)) c fun IB IC ID d g=>?_
 refine xG g.dL rfl ((l.dL.I b).I d) rfl H c D fun IE IF IG IH II e h _=>?_
 refine xG (g.dL.I e) rfl (((j.dL.I b).I d).I e) rfl a5 c n fun IJ IK IL IM IN f Iv _=>?_
 refine oD (h.dL.I f) rfl Iv.dL rfl ?_
 rw [Nat.one_mul,G] at *
 rw [E]
 refine fP (fun _=>?_) fun Iw=>absurd (by simp [e4]) Iw
 have eT:=(cQ.trans b).trans d
 exact⟨(eT.trans e).trans f,dS.back (y:=(z (mY y),0)) ((h.I f).from eT.le) (show In .i64 0 by decide)⟩
end Go.Proofs.Ytelmicicapbgeaa.G
