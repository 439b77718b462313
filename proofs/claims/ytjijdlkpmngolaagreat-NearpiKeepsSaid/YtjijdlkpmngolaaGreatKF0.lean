import Derived.Test.YtjijdlkpmngolaaGreatKE
set_option linter.unusedVariables false
namespace Go.Proofs.YtjijdlkpmngolaaGreat.G
open Go.Gv
set_option linter.unusedVariables false
set_option maxRecDepth 100000
namespace rB
noncomputable def aO:Code:=dY Tryz.f7
def cF.t(Y:aF)(a:S)(b c:Nat)(d:S)(e f:Nat)(g:S)(h i:Nat)(j:S)(k l:Nat)(m:S)(n o:Nat)(p:S)(q r:Nat)(s:S)(u v:Nat)(w:S)(x y:Nat)(fM:S)(z fR:Nat)(A:S)(B C:Nat)(D:S)(E F:Nat)(G:S)(H I:Nat)(J:S)(P Q:Nat)(T V:Addr)(Qx Qy:Addr)(Z:U):Prop:=
 dQ Z (T.add 1) fun T Qz QA=>
 dQ Z (V.add 1) fun V QB QC=>
 dQ Z (Qx.add 1) fun Qx QD QE=>
 dQ Z (Qy.add 1) fun Qy QF QG=>
 dX Z 30 [.slice a b c,.slice d e f,.slice g h i,.slice j k l,.slice m n o,.slice p q r,.slice w x y,.slice A B C,.slice G H I,.slice s u v,.slice fM z fR,.slice D E F,.slice J P Q,.slice T Qz QA,.slice V QB QC,.slice Qx QD QE,.slice Qy QF QG] fun A B=>
 a4 eY.id #[.slice (some A) 17 17] B fun A B=>
 eU A fun A=>
 Y (.bool A) B
def cF.g(Y:aF)(X:Fr)(Z:U):Prop:=aR (X 9) fun a b c=>aR (X 11) fun d e f=>aR (X 13) fun h i j=>aR (X 15) fun k l m=>aR (X 17) fun n o p=>aR (X 19) fun q r s=>aR (X 20) fun u v w=>aR (X 22) fun x y z=>aR (X 23) fun fM A fR=>aR (X 25) fun B C D=>aR (X 26) fun E F G=>aR (X 28) fun H I J=>aR (X 29) fun P Q T=>gW (X 31) fun V=>gW (X 33) fun Qx=>gW (X 35) fun Qy=>gW (X 37) fun Qz=>cF.t Y a b c d e f h i j k l m n o p q r s u v w x y z fM A fR B C D E F G H I J P Q T V Qx Qy Qz Z
theorem cF.ok(Y:aF)(X:Fr)(Z:U)(g:cF.g Y X Z):den prog E (a6 aO [W,W,W,W,W,W,W,W,W,W,W,W,W,W,W,W,W,W,W,W,W,W,W]) (bC E [.tmp 8] Y) X Z:=
 bF g fun a b c d g=>bF g fun e f h i g=>bF g fun j k l m g=>bF g fun n o p q g=>bF g fun r s t u g=>bF g fun v w x y g=>bF g fun z A B C g=>bF g fun D F G H g=>bF g fun fM I fR J g=>bF g fun P Q T V g=>bF g fun Qx Qy Qz QA g=>bF g fun QB QC QD QE g=>bF g fun QF QG QH QI g=>iE g fun QJ QK g=>iE g fun QL QM g=>iE g fun QN QO g=>iE g fun QP QQ g=>bV [(9,.slice a b c),(11,.slice e f h),(13,.slice j k l),(15,.slice n o p),(17,.slice r s t),(19,.slice v w x),(20,.slice z A B),(22,.slice D F G),(23,.slice fM I fR),(25,.slice P Q T),(26,.slice Qx Qy Qz),(28,.slice QB QC QD),(29,.slice QF QG QH),(31,.pointer (some QJ)),(33,.pointer (some QL)),(35,.pointer (some QN)),(37,.pointer (some QP))] ⟨d,i,m,q,u,y,C,H,J,V,QA,QE,QI,QK,QM,QO,QQ,trivial⟩ (by kernel_rfl) g
def bM.t(Y:aF)(a:S)(b c:Nat)(d:S)(e f:Nat)(g:S)(h i:Nat)(j:S)(k l:Nat)(m:S)(n o:Nat)(p:S)(q r:Nat)(s:S)(u v:Nat)(w:S)(x y:Nat)(fM:S)(z fR:Nat)(A:S)(B C:Nat)(D:S)(E F:Nat)(G:S)(H I:Nat)(J:S)(P Q:Nat)(T V:Addr)(Qx Qy:Addr)(Qz:S)(QA QB:Nat)(QC:S)(QD QE:Nat)(QF:S)(QG QH:Nat)(QI:S)(QJ QK:Nat)(Z:U):Prop:=
 h9 h8.id #[.slice s u v,.slice Qz QA QB] Z fun QL=>
 eU QL fun QL=>
 cond (!QL) (Y (.bool false) Z) (h9 h8.id #[.slice fM z fR,.slice Qz QA QB] Z fun QL=>
 eU QL fun QL=>
 cond (!QL) (Y (.bool false) Z) (h9 h8.id #[.slice D E F,.slice QC QD QE] Z fun QC=>
 eU QC fun QC=>
 cond (!QC) (Y (.bool false) Z) (h9 h8.id #[.slice J P Q,.slice Qz QA QB] Z fun QA=>
 eU QA fun QA=>
 cond (!QA) (Y (.bool false) Z) (dQ Z (T.add 1) fun QA QB QC=>
 h9 h8.id #[.slice QA QB QC,.slice QF QG QH] Z fun QA=>
 eU QA fun QA=>
 cond (!QA) (Y (.bool false) Z) (dQ Z (V.add 1) fun QA QB QC=>
 h9 h8.id #[.slice QA QB QC,.slice QF QG QH] Z fun QA=>
 eU QA fun QA=>
 cond (!QA) (Y (.bool false) Z) (dQ Z (Qx.add 1) fun QA QB QC=>
 h9 h8.id #[.slice QA QB QC,.slice QI QJ QK] Z fun QA=>
 eU QA fun QA=>
 cond (!QA) (Y (.bool false) Z) (dQ Z (Qy.add 1) fun QA QB QC=>
 h9 h8.id #[.slice QA QB QC,.slice QF QG QH] Z fun QA=>
 eU QA fun QA=>
 cond (!QA) (Y (.bool false) Z) (cF.t Y a b c d e f g h i j k l m n o p q r s u v w x y fM z fR A B C D E F G H I J P Q T V Qx Qy Z))))))))
def bM.g(Y:aF)(X:Fr)(Z:U):Prop:=aR (X 9) fun a b c=>aR (X 11) fun d e f=>aR (X 13) fun h i j=>aR (X 15) fun k l m=>aR (X 17) fun n o p=>aR (X 19) fun q r s=>aR (X 20) fun u v w=>aR (X 22) fun x y z=>aR (X 23) fun fM A fR=>aR (X 25) fun B C D=>aR (X 26) fun E F G=>aR (X 28) fun H I J=>aR (X 29) fun P Q T=>gW (X 31) fun V=>gW (X 33) fun Qx=>gW (X 35) fun Qy=>gW (X 37) fun Qz=>aR (X 44) fun QA QB QC=>aR (X 47) fun QD QE QF=>aR (X 50) fun QG QH QI=>aR (X 54) fun QJ QK QL=>bM.t Y a b c d e f h i j k l m n o p q r s u v w x y z fM A fR B C D E F G H I J P Q T V Qx Qy Qz QA QB QC QD QE QF QG QH QI QJ QK QL Z
theorem bM.ok(Y:aF)(X:Fr)(Z:U)(g:bM.g Y X Z):den prog E (a6 aO [W,W,W,W,W,W,W,W,W,W,W,W,W,W,W,W,W,W,W,W,W,W]) (bC E [.tmp 8] Y) X Z:=
 bF g fun a b c d g=>bF g fun e f h i g=>bF g fun j k l m g=>bF g fun n o p q g=>bF g fun s t u v g=>bF g fun w x y z g=>bF g fun A B C D g=>bF g fun F G H I g=>bF g fun fM J fR P g=>bF g fun Q T V Qx g=>bF g fun Qy Qz QA QB g=>bF g fun QC QD QE QF g=>bF g fun QG QH QI QJ g=>iE g fun QK QL g=>iE g fun QM QN g=>iE g fun QO QP g=>iE g fun QQ QR g=>bF g fun QS QT QU QV g=>bF g fun QW QX QY QZ g=>bF g fun Q0 Q1 Q2 Q3 g=>bF g fun Q4 Q5 Q6 Q7 g=>c5 1 (r:=(a6 aO [W,W,W,W,W,W,W,W,W,W,W,W,W,W,W,W,W,W,W,W,W,W,W])) (by kernel_rfl) (cF.ok Y) (bV [(9,.slice a b c),(11,.slice e f h),(13,.slice j k l),(15,.slice n o p),(17,.slice s t u),(19,.slice w x y),(20,.slice A B C),(22,.slice F G H),(23,.slice fM J fR),(25,.slice Q T V),(26,.slice Qy Qz QA),(28,.slice QC QD QE),(29,.slice QG QH QI),(31,.pointer (some QK)),(33,.pointer (some QM)),(35,.pointer (some QO)),(37,.pointer (some QQ)),(44,.slice QS QT QU),(47,.slice QW QX QY),(50,.slice Q0 Q1 Q2),(54,.slice Q4 Q5 Q6)] ⟨d,i,m,q,v,z,D,I,P,Qx,QB,QF,QJ,QL,QN,QP,QR,QV,QZ,Q3,Q7,trivial⟩ (by kernel_rfl) g)
def a5.t(Y:aF)(aY aS:Int)(a b:Int)(c:S)(d e:Nat)(Z:U):Prop:=
 a4 lS.id #[.int .i64 aY] Z fun f g=>
 cW f fun f=>
 cU f fun f h i j=>
 dP j .i64 fun j j=>
 b9 j <| a4 lS.id #[.int .i64 aY] g fun g j=>
 cW g fun g=>
 cU g fun g k l m=>
 dP m .i64 fun m m=>
 b9 m <| a4 lS.id #[.int .i64 aS] j fun j m=>
 cW j fun j=>
 cU j fun j n o p=>
 dP p .i64 fun p p=>
 b9 p <| a4 lS.id #[.int .i64 aY] m fun m p=>
 cW m fun m=>
 cU m fun m q r s=>
 dP s .i64 fun s s=>
 b9 s <| a4 jA.id #[.int .i64 aY] p fun p s=>
 cW p fun p=>
 cU p fun p u v w=>
 cU w fun w x y z=>
 dP z .i64 fun z z=>
 b9 z <| a4 jA.id #[.int .i64 aY] s fun s z=>
 cW s fun s=>
 cU s fun s A B C=>
 cU C fun C D E F=>
 dP F .i64 fun F F=>
 b9 F <| a4 jA.id #[.int .i64 aS] z fun F z=>
 cW F fun F=>
 cU F fun F G H I=>
 cU I fun I J P Q=>
 dP Q .i64 fun Q Q=>
 b9 Q <| a4 jA.id #[.int .i64 aY] z fun Q z=>
 cW Q fun Q=>
 cU Q fun Q T V Qx=>
 cU Qx fun Qx Qy Qz QA=>
 dP QA .i64 fun QA QA=>
 b9 QA <| a4 kY.id #[.int .i64 a,.int .i64 b] z fun z QA=>
 cW z fun z=>
 cV z fun z QB=>
 eQ z fun z=>
 dP z .u64 fun z QC=>
 cU QC fun QC QD QE QF=>
 dP QF .i64 fun QF QG=>
 b9 QG <| dP QB .i64 fun QB QB=>
 b9 QB <| dX QA 39 wB.a9 fun QA QB=>
 cM QB (QA.add 0) (.int .u64 z) fun z=>
 cM z (QA.add 1) (.slice QC QD QE) fun z=>
 cM z (QA.add 2) (.int .i64 QF) fun z=>
 a4 kY.id #[.int .i64 a,.int .i64 b] z fun z QB=>
 cW z fun z=>
 cV z fun z QC=>
 eQ z fun z=>
 dP z .u64 fun z QD=>
 cU QD fun QD QE QF QG=>
 dP QG .i64 fun QG QH=>
 b9 QH <| dP QC .i64 fun QC QC=>
 b9 QC <| dX QB 39 wB.a9 fun QB QC=>
 cM QC (QB.add 0) (.int .u64 z) fun z=>
 cM z (QB.add 1) (.slice QD QE QF) fun z=>
 cM z (QB.add 2) (.int .i64 QG) fun z=>
 a4 kY.id #[.int .i64 a,.int .i64 aS] z fun z QC=>
 cW z fun z=>
 cV z fun z QD=>
 eQ z fun z=>
 dP z .u64 fun z QE=>
 cU QE fun QE QF QG QH=>
 dP QH .i64 fun QH QI=>
 b9 QI <| dP QD .i64 fun QD QD=>
 b9 QD <| dX QC 39 wB.a9 fun QC QD=>
 cM QD (QC.add 0) (.int .u64 z) fun z=>
 cM z (QC.add 1) (.slice QE QF QG) fun z=>
 cM z (QC.add 2) (.int .i64 QH) fun z=>
 a4 kY.id #[.int .i64 a,.int .i64 b] z fun z QD=>
 cW z fun z=>
 cV z fun z QE=>
 eQ z fun z=>
 dP z .u64 fun z QF=>
 cU QF fun QF QG QH QI=>
 dP QI .i64 fun QI QJ=>
 b9 QJ <| dP QE .i64 fun QE QE=>
 b9 QE <| dX QD 39 wB.a9 fun QD QE=>
 cM QE (QD.add 0) (.int .u64 z) fun z=>
 cM z (QD.add 1) (.slice QF QG QH) fun z=>
 cM z (QD.add 2) (.int .i64 QI) fun z=>
 a4 nZ.id #[.int .i64 aY] z fun z QE=>
 cW z fun z=>
 cU z fun z QF QG QH=>
 dP QH .i64 fun QH QH=>
 b9 QH <| a4 nZ.id #[.int .i64 aS] QE fun QE QH=>
 cW QE fun QE=>
 cU QE fun QE QI QJ QK=>
 dP QK .i64 fun QK QK=>
 b9 QK <| a4 kP.id #[.int .i64 aY] QH fun QH QK=>
 cW QH fun QH=>
 cU QH fun QH QL QM QN=>
 cU QN fun QN QO QP QQ=>
 dP QQ .i64 fun QQ QQ=>
 b9 QQ <| a4 kP.id #[.int .i64 aS] QK fun QK QQ=>
 cW QK fun QK=>
 cU QK fun QK QR QS QT=>
 cU QT fun QT QU QV QW=>
 dP QW .i64 fun QW QW=>
 b9 QW <| a4 n0.id #[.int .i64 a,.int .i64 b] QQ fun b QQ=>
 cW b fun b=>
 dP b .u64 fun b b=>
 cU b fun b QW QX QY=>
 dP QY .i64 fun QY QY=>
 dP QY .i64 fun QY QY=>
 b9 QY <| a4 n0.id #[.int .i64 a,.int .i64 aS] QQ fun a QQ=>
 cW a fun a=>
 dP a .u64 fun a a=>
 cU a fun a QY QZ Q0=>
 dP Q0 .i64 fun Q0 Q0=>
 dP Q0 .i64 fun Q0 Q0=>
 b9 Q0 <| h9 h8.id #[.slice f h i,.slice z QF QG] QQ fun Q0=>
 eU Q0 fun Q0=>
 cond (!Q0) (Y (.bool false) QQ) (h9 h8.id #[.slice g k l,.slice z QF QG] QQ fun Q0=>
 eU Q0 fun Q0=>
 cond (!Q0) (Y (.bool false) QQ) (h9 h8.id #[.slice j n o,.slice QE QI QJ] QQ fun Q0=>
 eU Q0 fun Q0=>
 cond (!Q0) (Y (.bool false) QQ) (h9 h8.id #[.slice m q r,.slice z QF QG] QQ fun z=>
 eU z fun z=>
 cond (!z) (Y (.bool false) QQ) (h9 h8.id #[.slice p u v,.slice QH QL QM] QQ fun z=>
 eU z fun z=>
 cond (!z) (Y (.bool false) QQ) (h9 h8.id #[.slice s A B,.slice QH QL QM] QQ fun z=>
 eU z fun z=>
 cond (!z) (Y (.bool false) QQ) (h9 h8.id #[.slice F G H,.slice QK QR QS] QQ fun z=>
 eU z fun z=>
 cond (!z) (Y (.bool false) QQ) (h9 h8.id #[.slice Q T V,.slice QH QL QM] QQ fun z=>
 eU z fun z=>
 cond (!z) (Y (.bool false) QQ) (bM.t Y c d e f h i g k l j n o m q r p u v w x y s A B C D E F G H I J P Q T V Qx Qy Qz QA QB QC QD QN QO QP QT QU QV b QW QX a QY QZ QQ))))))))
def a5.g(Y:aF)(X:Fr)(Z:U):Prop:=a0 .i64 (X 0) fun aY=>a0 .i64 (X 1) fun aS=>a0 .i64 (X 2) fun a=>a0 .i64 (X 3) fun b=>aR (X 9) fun c d e=>a5.t Y aY aS a b c d e Z
theorem a5.ok(Y:aF)(X:Fr)(Z:U)(g:a5.g Y X Z):den prog E (a6 aO [W,W,W]) (bC E [.tmp 8] Y) X Z:=
 bJ g fun aY a g=>bJ g fun aS b g=>bJ g fun c d g=>bJ g fun e f g=>bF g fun h i j k g=>c5 19 (r:=(a6 aO [W,W,W,W,W,W,W,W,W,W,W,W,W,W,W,W,W,W,W,W,W,W])) (by kernel_rfl) (bM.ok Y) (bV [(0,.int .i64 aY),(1,.int .i64 aS),(2,.int .i64 c),(3,.int .i64 e),(9,.slice h i j)] ⟨a,b,d,f,k,trivial⟩ (by kernel_rfl) g)
def aP.t(Y:aF)(aY aS:Int)(a b:Int)(Z:U):Prop:=
 a4 lS.id #[.int .i64 5] Z fun c d=>
 cW c fun c=>
 cU c fun c e f g=>
 dP g .i64 fun g g=>
 b9 g <| a4 q9.id #[] d fun d g=>
 eU d fun d=>
 cond (!d) (Y (.bool false) g) (dX g 35 [.int .u64 1,.int .u64 1,.int .u64 1,.int .u64 3,.int .u64 31] fun d g=>
 h9 h8.id #[.slice c e f,.slice (some d) 5 5] g fun d=>
 eU d fun d=>
 cond (!d) (Y (.bool false) g) (a5.t Y aY aS a b c e f g))
def aP.g(Y:aF)(X:Fr)(Z:U):Prop:=a0 .i64 (X 0) fun aY=>a0 .i64 (X 1) fun aS=>a0 .i64 (X 2) fun a=>a0 .i64 (X 3) fun b=>aP.t Y aY aS a b Z
theorem aP.ok(Y:aF)(X:Fr)(Z:U)(g:aP.g Y X Z):den prog E aO (bC E [.tmp 8] Y) X Z:=
 bJ g fun aY a g=>bJ g fun aS b g=>bJ g fun c d g=>bJ g fun e f g=>c5 3 (r:=(a6 aO [W,W,W])) (by kernel_rfl) (a5.ok Y) (bV [(0,.int .i64 aY),(1,.int .i64 aS),(2,.int .i64 c),(3,.int .i64 e)] ⟨a,b,d,f,trivial⟩ (by kernel_rfl) g)
def t(aY aS:Int)(a b:Int)(Z:U)(Y:aF):Prop:=aP.t Y aY aS a b Z
theorem ok{aY:Int}{aS:Int}{a:Int}{b:Int}{Z:U}{Y:aF}(g:t aY aS a b Z Y):a4 id #[.int .i64 aY,.int .i64 aS,.int .i64 a,.int .i64 b] Z Y:=
 eD dT (c:=aO) (dH:=[.tmp 8]) Tryz.func7 (by kernel_rfl) (by kernel_rfl) (by kernel_rfl) (args:=[.int .i64 aY,.int .i64 aS,.int .i64 a,.int .i64 b]) (by kernel_rfl) (aP.ok Y _ Z (b0 rfl (b0 rfl (b0 rfl (b0 rfl (g))))))
end rB
namespace q9
noncomputable def aO:Code:=dY Tryz.f11
def bM.t(Y:aF)(a:Addr)(Z:U):Prop:=
 eO Z .u64 (a.add 0) fun b=>
 cond (b == 3) (dQ Z (a.add 1) fun b c d=>
 dX Z 35 [.int .u64 2] fun e f=>
 h9 h8.id #[.slice b c d,.slice (some e) 1 1] f fun b=>
 eU b fun b=>
 cond b (eO f .i64 (a.add 2) fun a=>
 Y (.bool (a == 3)) f) (Y (.bool false) f)) (Y (.bool false) Z)
def bM.g(Y:aF)(X:Fr)(Z:U):Prop:=gW (X 6) fun a=>bM.t Y a Z
theorem bM.ok(Y:aF)(X:Fr)(Z:U)(g:bM.g Y X Z):den prog E (a6 aO [W,W,W,W,W,W]) (bC E [.tmp 0] Y) X Z:=
 iE g fun a b g=>bV [(6,.pointer (some a))] ⟨b,trivial⟩ (by kernel_rfl) g
def a5.t(Y:aF)(aM:S)(aL aK:Nat)(c9:S)(eE cZ:Nat)(eI:S)(fY eN:Nat)(a:Addr)(Z:U):Prop:=
 dX Z 35 [.int .u64 1,.int .u64 1,.int .u64 1,.int .u64 3,.int .u64 31] fun b c=>
 h9 h8.id #[.slice aM aL aK,.slice (some b) 5 5] c fun b=>
 eU b fun b=>
 cond (!b) (Y (.bool false) c) (dX c 35 [.int .u64 11] fun b c=>
 h9 h8.id #[.slice c9 eE cZ,.slice (some b) 1 1] c fun b=>
 eU b fun b=>
 cond (!b) (Y (.bool false) c) (dX c 35 [.int .u64 7] fun b c=>
 h9 h8.id #[.slice eI fY eN,.slice (some b) 1 1] c fun b=>
 eU b fun b=>
 cond (!b) (Y (.bool false) c) (bM.t Y a c)))
def a5.g(Y:aF)(X:Fr)(Z:U):Prop:=aR (X 1) fun aM aL aK=>aR (X 3) fun c9 eE cZ=>aR (X 4) fun eI fY eN=>gW (X 6) fun a=>a5.t Y aM aL aK c9 eE cZ eI fY eN a Z
theorem a5.ok(Y:aF)(X:Fr)(Z:U)(g:a5.g Y X Z):den prog E (a6 aO [W,W,W,W,W]) (bC E [.tmp 0] Y) X Z:=
 bF g fun aM aL aK a g=>bF g fun c9 eE cZ b g=>bF g fun eI fY eN c g=>iE g fun d e g=>c5 1 (r:=(a6 aO [W,W,W,W,W,W])) (by kernel_rfl) (bM.ok Y) (bV [(1,.slice aM aL aK),(3,.slice c9 eE cZ),(4,.slice eI fY eN),(6,.pointer (some d))] ⟨a,b,c,e,trivial⟩ (by kernel_rfl) g)
def aP.t(Y:aF)(Z:U):Prop:=
 a4 lS.id #[.int .i64 5] Z fun a b=>
 cW a fun a=>
 cU a fun a c d e=>
 dP e .i64 fun e f=>
 b9 f <| a4 jA.id #[.int .i64 3] b fun b f=>
 cW b fun b=>
 cU b fun b g h i=>
 cU i fun i j k l=>
 dP l .i64 fun l m=>
 b9 m <| a4 kY.id #[.int .i64 2,.int .i64 0] f fun f m=>
 cW f fun f=>
 cV f fun f n=>
 eQ f fun f=>
 dP f .u64 fun f o=>
 cU o fun o p q r=>
 dP r .i64 fun r s=>
 b9 s <| dP n .i64 fun n s=>
 b9 s <| dX m 39 wB.a9 fun m s=>
 cM s (m.add 0) (.int .u64 f) fun f=>
 cM f (m.add 1) (.slice o p q) fun f=>
 cM f (m.add 2) (.int .i64 r) fun f=>
 cond (e != 0) (Y (.bool false) f) (cond (l != 0) (Y (.bool false) f) (cond (n != 0) (Y (.bool false) f) (a5.t Y a c d b g h i j k m f)))
def aP.g(Y:aF)(X:Fr)(Z:U):Prop:=aP.t Y  Z
theorem aP.ok(Y:aF)(X:Fr)(Z:U)(g:aP.g Y X Z):den prog E aO (bC E [.tmp 0] Y) X Z:=
 c5 5 (r:=(a6 aO [W,W,W,W,W])) (by kernel_rfl) (a5.ok Y) (bV [] trivial (by kernel_rfl) g)
def t(Z:U)(Y:aF):Prop:=aP.t Y Z
theorem ok{Z:U}{Y:aF}(g:t  Z Y):a4 id #[] Z Y:=
 eD dT (c:=aO) (dH:=[.tmp 0]) Tryz.func11 (by kernel_rfl) (by kernel_rfl) (by kernel_rfl) (args:=[]) (by kernel_rfl) (aP.ok Y _ Z (g))
end q9
namespace lS
noncomputable def aO:Code:=dY Tryz.f13
def a5.t(Y:aF)(aY:Int)(Z:U):Prop:=
 a4 h0.id #[.int .i64 aY] Z fun a b=>
 aR a fun a c d=>
 Y (.tuple #[.slice a c d,.int .i64 0]) b
def a5.g(Y:aF)(X:Fr)(Z:U):Prop:=a0 .i64 (X 0) fun aY=>a5.t Y aY Z
theorem a5.ok(Y:aF)(X:Fr)(Z:U)(g:a5.g Y X Z):den prog E (a6 aO [W,W]) (bC E [.tmp 2,.tmp 3] Y) X Z:=
 bJ g fun aY a g=>bV [(0,.int .i64 aY)] ⟨a,trivial⟩ (by kernel_rfl) g
def aP.t(Y:aF)(aY:Int)(Z:U):Prop:=
 cond (decide (aY < 1)) (Y (.tuple #[.slice none 0 0,.int .i64 1]) Z) (cond (decide (aY > 1000)) (Y (.tuple #[.slice none 0 0,.int .i64 1]) Z) (a5.t Y aY Z))
def aP.g(Y:aF)(X:Fr)(Z:U):Prop:=a0 .i64 (X 0) fun aY=>aP.t Y aY Z
theorem aP.ok(Y:aF)(X:Fr)(Z:U)(g:aP.g Y X Z):den prog E aO (bC E [.tmp 2,.tmp 3] Y) X Z:=
 bJ g fun aY a g=>c5 2 (r:=(a6 aO [W,W])) (by kernel_rfl) (a5.ok Y) (bV [(0,.int .i64 aY)] ⟨a,trivial⟩ (by kernel_rfl) g)
def t(aY:Int)(Z:U)(Y:aF):Prop:=aP.t Y aY Z
theorem ok{aY:Int}{Z:U}{Y:aF}(g:t aY Z Y):a4 id #[.int .i64 aY] Z Y:=
 eD dT (c:=aO) (dH:=[.tmp 2,.tmp 3]) Tryz.func13 (by kernel_rfl) (by kernel_rfl) (by kernel_rfl) (args:=[.int .i64 aY]) (by kernel_rfl) (aP.ok Y _ Z (b0 rfl (g)))
end lS
namespace h8
noncomputable def aO:Code:=dY Tryz.f14
def a5.t(Y:aF)(Z:U):Prop:=
 Y (.bool true) Z
def a5.g(Y:aF)(X:Fr)(Z:U):Prop:=a5.t Y  Z
theorem a5.ok(Y:aF)(X:Fr)(Z:U)(g:a5.g Y X Z):den prog E (a6 aO [W,W,W]) (bC E [.tmp 4] Y) X Z:=
 bV [] trivial (by kernel_rfl) g
def bU.g(bP:S→Nat→Nat→S→Nat→Nat→Int→U→Prop)(X:Fr)(Z:U):Prop:=aR (X 0) fun M a aA=>aR (X 1) fun aM aL aK=>a0 .i64 (X 5) fun b=>bP M a aA aM aL aK b Z
def cH.t(Y:aF)(a:S→Nat→Nat→S→Nat→Nat→Int→U→Prop)(M:S)(b aA:Nat)(aM:S)(aL aK:Nat)(c:Int)(Z:U):Prop:=
 cond (decide (c < (((b:Nat):Int)))) (c6 M b c 1 fun cQ=>
 eO Z .u64 cQ fun d=>
 c6 aM aL c 1 fun eH=>
 eO Z .u64 eH fun e=>
 cond (d != e) (Y (.bool false) Z) (bB (IntKind.i64.wrap (c+1)) fun c=>
 a M b aA aM aL aK c Z)) (a5.t Y Z)
def cH.g(Y:aF)(a:S→Nat→Nat→S→Nat→Nat→Int→U→Prop)(X:Fr)(Z:U):Prop:=aR (X 0) fun M b aA=>aR (X 1) fun aM aL aK=>a0 .i64 (X 5) fun c=>cH.t Y a M b aA aM aL aK c Z
theorem cH.ok(Y:aF)(a:S→Nat→Nat→S→Nat→Nat→Int→U→Prop)(X:Fr)(Z:U)(g:cH.g Y a X Z):den prog E (a6 aO [W,W,aJ,W,aJ,aJ]) (aV.then (bU.g a) (aV.inBlock 0 (aV.then (a5.g Y) (bC E [.tmp 4] Y)))) X Z:=
 bF g fun M a aA b g=>bF g fun aM aL aK c g=>bJ g fun d e g=>bV [(0,.slice M a aA),(1,.slice aM aL aK),(5,.int .i64 d)] ⟨b,c,e,trivial⟩ (by kernel_rfl) g
def bU.t(Y:aF):Nat→S→Nat→Nat→S→Nat→Nat→Int→U→Prop
 | 0=>fun _ _ _ _ _ _ _ _=>False
 | n+1=>fun M a aA aM aL aK b Z=>cH.t Y (bU.t Y n) M a aA aM aL aK b Z
theorem bU.ok(Y:aF)(X:Fr)(Z:U)(g:bU.g (fun M a aA aM aL aK b Z=>∃ n,bU.t Y n M a aA aM aL aK b Z) X Z):den prog E (a6 aO [W,W,aJ,W,aJ]) (aV.inBlock 0 (aV.then (a5.g Y) (bC E [.tmp 4] Y))) X Z:=by
 obtain⟨M,a,aA,c,g⟩:=b2 g
 obtain⟨aM,aL,aK,d,g⟩:=b2 g
 obtain⟨b,e,g⟩:=bT g
 obtain⟨n,g⟩:=g
 refine fF (fun n=>bU.g (bU.t Y n)) (K:=(a6 aO [W,W,aJ,W,aJ,aJ])) (by kernel_rfl) (fun X Z g=>?_) (fun n=>cH.ok Y (bU.t Y n)) n X Z (bL c (bL d (b0 e (g))))
 obtain⟨M,a,aA,c,g⟩:=b2 g
 obtain⟨aM,aL,aK,d,g⟩:=b2 g
 obtain⟨b,e,g⟩:=bT g
 exact g
theorem hM.ok(Y:aF)(X:Fr)(Z:U)(g:bU.g (fun M a aA aM aL aK b Z=>∃ n,bU.t Y n M a aA aM aL aK b Z) X Z):den prog E (a6 aO [W,W,aJ,W]) (aV.then (a5.g Y) (bC E [.tmp 4] Y)) X Z:=
 e3 (by kernel_rfl) (bU.ok Y X Z g)
def bM.t(Y:aF)(M:S)(a aA:Nat)(aM:S)(aL aK:Nat)(Z:U):Prop:=
 (∃ n,bU.t Y n M a aA aM aL aK 0 Z)
def bM.g(Y:aF)(X:Fr)(Z:U):Prop:=aR (X 0) fun M a aA=>aR (X 1) fun aM aL aK=>bM.t Y M a aA aM aL aK Z
theorem bM.ok(Y:aF)(X:Fr)(Z:U)(g:bM.g Y X Z):den prog E (a6 aO [W,W,aJ]) (aV.then (a5.g Y) (bC E [.tmp 4] Y)) X Z:=
 bF g fun M a aA b g=>bF g fun aM aL aK c g=>c5 1 (r:=(a6 aO [W,W,aJ,W])) (by kernel_rfl) (hM.ok Y) (bV [(0,.slice M a aA),(1,.slice aM aL aK)] ⟨b,c,trivial⟩ (by kernel_rfl) g)
theorem hN.ok(Y:aF)(X:Fr)(Z:U)(g:bM.g Y X Z):den prog E (a6 aO [W,W]) (bC E [.tmp 4] Y) X Z:=
 fP (by kernel_rfl) (a5.ok Y) (bM.ok Y X Z g)
def aP.t(Y:aF)(M:S)(a aA:Nat)(aM:S)(aL aK:Nat)(Z:U):Prop:=
 cond ((((a:Nat):Int)) != (((aL:Nat):Int))) (Y (.bool false) Z) (bM.t Y M a aA aM aL aK Z)
def aP.g(Y:aF)(X:Fr)(Z:U):Prop:=aR (X 0) fun M a aA=>aR (X 1) fun aM aL aK=>aP.t Y M a aA aM aL aK Z
theorem aP.ok(Y:aF)(X:Fr)(Z:U)(g:aP.g Y X Z):den prog E aO (bC E [.tmp 4] Y) X Z:=
 bF g fun M a aA b g=>bF g fun aM aL aK c g=>c5 2 (r:=(a6 aO [W,W])) (by kernel_rfl) (hN.ok Y) (bV [(0,.slice M a aA),(1,.slice aM aL aK)] ⟨b,c,trivial⟩ (by kernel_rfl) g)
def t(M:S)(a aA:Nat)(aM:S)(aL aK:Nat)(Z:U)(Y:aF):Prop:=aP.t Y M a aA aM aL aK Z
theorem ok{M:S}{a:Nat}{aA:Nat}{aM:S}{aL:Nat}{aK:Nat}{Z:U}{Y:aF}(g:t M a aA aM aL aK Z Y):a4 id #[.slice M a aA,.slice aM aL aK] Z Y:=
 eD dT (c:=aO) (dH:=[.tmp 4]) Tryz.func14 (by kernel_rfl) (by kernel_rfl) (by kernel_rfl) (args:=[.slice M a aA,.slice aM aL aK]) (by kernel_rfl) (aP.ok Y _ Z (bL rfl (bL rfl (g))))
end h8
namespace jA
noncomputable def aO:Code:=dY Tryz.f15
def bM.t(Y:aF)(bE:S)(a bD:Nat)(bG:S)(b bI:Nat)(Z:U):Prop:=
 Y (.tuple #[.slice bE a bD,.slice bG b bI,.int .i64 0]) Z
def bM.g(Y:aF)(X:Fr)(Z:U):Prop:=aR (X 5) fun bE a bD=>aR (X 6) fun bG b bI=>bM.t Y bE a bD bG b bI Z
theorem bM.ok(Y:aF)(X:Fr)(Z:U)(g:bM.g Y X Z):den prog E (a6 aO [W,W,W,W]) (bC E [.tmp 2,.tmp 3,.tmp 4] Y) X Z:=
 bF g fun bE a bD b g=>bF g fun bG c bI d g=>bV [(5,.slice bE a bD),(6,.slice bG c bI)] ⟨b,d,trivial⟩ (by kernel_rfl) g
def dS.g(bP:S→Nat→Nat→S→Nat→Nat→S→Nat→Nat→S→Nat→Nat→S→Nat→Nat→Int→Int→U→Prop)(X:Fr)(Z:U):Prop:=aR (X 5) fun bE a bD=>aR (X 6) fun bG b bI=>aR (X 7) fun bX c bY=>aR (X 8) fun b6 d b7=>aR (X 23) fun fM e fR=>a0 .i64 (X 24) fun f=>a0 .i64 (X 25) fun h=>bP bE a bD bG b bI bX c bY b6 d b7 fM e fR f h Z
def dD.t(Y:aF)(a:S→Nat→Nat→S→Nat→Nat→S→Nat→Nat→S→Nat→Nat→S→Nat→Nat→Int→Int→U→Prop)(bE:S)(b bD:Nat)(bG:S)(c bI:Nat)(bX:S)(d bY:Nat)(b6:S)(e b7:Nat)(fM:S)(f fR:Nat)(g h:Int)(Z:U):Prop:=
 cond (decide (h < g)) (c6 fM f h 1 fun i=>
 eO Z .u64 i fun i=>
 cond (h == 0) (a4 kV.id #[.int .u64 i] Z fun j k=>
 aR j fun j l m=>
 a4 kV.id #[.int .u64 1] k fun k n=>
 aR k fun k o p=>
 a4 kV.id #[.int .u64 1] n fun n q=>
 aR n fun n r s=>
 bB (IntKind.i64.wrap (h+1)) fun u=>
 a j l m k o p n r s none 0 0 fM f fR g u q) (a4 uJ.id #[.slice bE b bD,.int .u64 i,.slice bX d bY] Z fun d j=>
 cW d fun d=>
 cU d fun d k l m=>
 dP m .i64 fun m n=>
 b9 n <| a4 uJ.id #[.slice bG c bI,.int .u64 i,.slice b6 e b7] j fun e i=>
 cW e fun e=>
 cU e fun e j n o=>
 dP o .i64 fun o p=>
 b9 p <| cond (m != 0) (Y (.tuple #[.slice none 0 0,.slice none 0 0,.int .i64 (if o > m then o else m)]) i) (cond (o != 0) (Y (.tuple #[.slice none 0 0,.slice none 0 0,.int .i64 (if o > m then o else m)]) i) (bB (IntKind.i64.wrap (h+1)) fun h=>
 a d k l e j n bE b bD bG c bI fM f fR g h i)))) (bM.t Y bE b bD bG c bI Z)
def dD.g(Y:aF)(a:S→Nat→Nat→S→Nat→Nat→S→Nat→Nat→S→Nat→Nat→S→Nat→Nat→Int→Int→U→Prop)(X:Fr)(Z:U):Prop:=aR (X 5) fun bE b bD=>aR (X 6) fun bG c bI=>aR (X 7) fun bX d bY=>aR (X 8) fun b6 e b7=>aR (X 23) fun fM f fR=>a0 .i64 (X 24) fun h=>a0 .i64 (X 25) fun i=>dD.t Y a bE b bD bG c bI bX d bY b6 e b7 fM f fR h i Z
theorem dD.ok(Y:aF)(a:S→Nat→Nat→S→Nat→Nat→S→Nat→Nat→S→Nat→Nat→S→Nat→Nat→Int→Int→U→Prop)(X:Fr)(Z:U)(g:dD.g Y a X Z):den prog E (a6 aO [W,W,W,aJ,W,aJ,aJ]) (aV.then (dS.g a) (aV.inBlock 0 (aV.then (bM.g Y) (bC E [.tmp 2,.tmp 3,.tmp 4] Y)))) X Z:=
 bF g fun bE a bD b g=>bF g fun bG c bI d g=>bF g fun bX e bY f g=>bF g fun b6 h b7 i g=>bF g fun fM j fR k g=>bJ g fun l m g=>bJ g fun n o g=>bV [(5,.slice bE a bD),(6,.slice bG c bI),(7,.slice bX e bY),(8,.slice b6 h b7),(23,.slice fM j fR),(24,.int .i64 l),(25,.int .i64 n)] ⟨b,d,f,i,k,m,o,trivial⟩ (by kernel_rfl) g
def dS.t(Y:aF):Nat→S→Nat→Nat→S→Nat→Nat→S→Nat→Nat→S→Nat→Nat→S→Nat→Nat→Int→Int→U→Prop
 | 0=>fun _ _ _ _ _ _ _ _ _ _ _ _ _ _ _ _ _ _=>False
 | n+1=>fun bE a bD bG b bI bX c bY b6 d b7 fM e fR f g Z=>dD.t Y (dS.t Y n) bE a bD bG b bI bX c bY b6 d b7 fM e fR f g Z
theorem dS.ok(Y:aF)(X:Fr)(Z:U)(g:dS.g (fun bE a bD bG b bI bX c bY b6 d b7 fM e fR f h Z=>∃ n,dS.t Y n bE a bD bG b bI bX c bY b6 d b7 fM e fR f h Z) X Z):den prog E (a6 aO [W,W,W,aJ,W,aJ]) (aV.inBlock 0 (aV.then (bM.g Y) (bC E [.tmp 2,.tmp 3,.tmp 4] Y))) X Z:=by
 obtain⟨bE,a,bD,i,g⟩:=b2 g
 obtain⟨bG,b,bI,j,g⟩:=b2 g
 obtain⟨bX,c,bY,k,g⟩:=b2 g
 obtain⟨b6,d,b7,l,g⟩:=b2 g
 obtain⟨fM,e,fR,m,g⟩:=b2 g
 obtain⟨f,o,g⟩:=bT g
 obtain⟨h,p,g⟩:=bT g
 obtain⟨n,g⟩:=g
 refine fF (fun n=>dS.g (dS.t Y n)) (K:=(a6 aO [W,W,W,aJ,W,aJ,aJ])) (by kernel_rfl) (fun X Z g=>?_) (fun n=>dD.ok Y (dS.t Y n)) n X Z (bL i (bL j (bL k (bL l (bL m (b0 o (b0 p (g))))))))
 obtain⟨bE,a,bD,i,g⟩:=b2 g
 obtain⟨bG,b,bI,j,g⟩:=b2 g
 obtain⟨bX,c,bY,k,g⟩:=b2 g
 obtain⟨b6,d,b7,l,g⟩:=b2 g
 obtain⟨fM,e,fR,m,g⟩:=b2 g
 obtain⟨f,o,g⟩:=bT g
 obtain⟨h,p,g⟩:=bT g
 exact g
theorem sF.ok(Y:aF)(X:Fr)(Z:U)(g:dS.g (fun bE a bD bG b bI bX c bY b6 d b7 fM e fR f h Z=>∃ n,dS.t Y n bE a bD bG b bI bX c bY b6 d b7 fM e fR f h Z) X Z):den prog E (a6 aO [W,W,W,aJ,W]) (aV.then (bM.g Y) (bC E [.tmp 2,.tmp 3,.tmp 4] Y)) X Z:=
 e3 (by kernel_rfl) (dS.ok Y X Z g)
def cF.t(Y:aF)(aY:Int)(bE:S)(a bD:Nat)(bG:S)(b bI:Nat)(bX:S)(c bY:Nat)(b6:S)(d b7:Nat)(Z:U):Prop:=
 bB (IntKind.i64.wrap (aY+1)) fun eF=>
 a4 h0.id #[.int .i64 eF] Z fun e f=>
 aR e fun e g h=>
 (∃ n,dS.t Y n bE a bD bG b bI bX c bY b6 d b7 e g h (((g:Nat):Int)) 0 f)
def cF.g(Y:aF)(X:Fr)(Z:U):Prop:=a0 .i64 (X 0) fun aY=>aR (X 5) fun bE a bD=>aR (X 6) fun bG b bI=>aR (X 7) fun bX c bY=>aR (X 8) fun b6 d b7=>cF.t Y aY bE a bD bG b bI bX c bY b6 d b7 Z
theorem cF.ok(Y:aF)(X:Fr)(Z:U)(g:cF.g Y X Z):den prog E (a6 aO [W,W,W,aJ]) (aV.then (bM.g Y) (bC E [.tmp 2,.tmp 3,.tmp 4] Y)) X Z:=
 bJ g fun aY a g=>bF g fun bE b bD c g=>bF g fun bG d bI e g=>bF g fun bX f bY h g=>bF g fun b6 i b7 j g=>c5 1 (r:=(a6 aO [W,W,W,aJ,W])) (by kernel_rfl) (sF.ok Y) (bV [(0,.int .i64 aY),(5,.slice bE b bD),(6,.slice bG d bI),(7,.slice bX f bY),(8,.slice b6 i b7)] ⟨a,c,e,h,j,trivial⟩ (by kernel_rfl) g)
theorem sG.ok(Y:aF)(X:Fr)(Z:U)(g:cF.g Y X Z):den prog E (a6 aO [W,W,W]) (bC E [.tmp 2,.tmp 3,.tmp 4] Y) X Z:=
 fP (by kernel_rfl) (bM.ok Y) (cF.ok Y X Z g)
def a5.t(Y:aF)(aY:Int)(Z:U):Prop:=
 cF.t Y aY none 0 0 none 0 0 none 0 0 none 0 0 Z
def a5.g(Y:aF)(X:Fr)(Z:U):Prop:=a0 .i64 (X 0) fun aY=>a5.t Y aY Z
theorem a5.ok(Y:aF)(X:Fr)(Z:U)(g:a5.g Y X Z):den prog E (a6 aO [W,W]) (bC E [.tmp 2,.tmp 3,.tmp 4] Y) X Z:=
 bJ g fun aY a g=>c5 1 (r:=(a6 aO [W,W,W])) (by kernel_rfl) (sG.ok Y) (bV [(0,.int .i64 aY)] ⟨a,trivial⟩ (by kernel_rfl) g)
def aP.t(Y:aF)(aY:Int)(Z:U):Prop:=
 cond (decide (aY < 0)) (Y (.tuple #[.slice none 0 0,.slice none 0 0,.int .i64 1]) Z) (cond (decide (aY≥1000)) (Y (.tuple #[.slice none 0 0,.slice none 0 0,.int .i64 1]) Z) (a5.t Y aY Z))
def aP.g(Y:aF)(X:Fr)(Z:U):Prop:=a0 .i64 (X 0) fun aY=>aP.t Y aY Z
theorem aP.ok(Y:aF)(X:Fr)(Z:U)(g:aP.g Y X Z):den prog E aO (bC E [.tmp 2,.tmp 3,.tmp 4] Y) X Z:=
 bJ g fun aY a g=>c5 2 (r:=(a6 aO [W,W])) (by kernel_rfl) (a5.ok Y) (bV [(0,.int .i64 aY)] ⟨a,trivial⟩ (by kernel_rfl) g)
def t(aY:Int)(Z:U)(Y:aF):Prop:=aP.t Y aY Z
theorem ok{aY:Int}{Z:U}{Y:aF}(g:t aY Z Y):a4 id #[.int .i64 aY] Z Y:=
 eD dT (c:=aO) (dH:=[.tmp 2,.tmp 3,.tmp 4]) Tryz.func15 (by kernel_rfl) (by kernel_rfl) (by kernel_rfl) (args:=[.int .i64 aY]) (by kernel_rfl) (aP.ok Y _ Z (b0 rfl (g)))
end jA
namespace kY
noncomputable def aO:Code:=dY Tryz.f16
def bM.t(Y:aF)(aS:Int)(eH:Addr)(bG:S)(a bI:Nat)(b:Int)(c:Bool)(Z:U):Prop:=
 a4 tK.id #[.slice bG a bI,.int .u64 b,.bool c] Z fun a c=>
 aR a fun a d e=>
 a4 r0.id #[.int .u64 b,.int .i64 aS,.slice a d e] c fun c f=>
 a0 .i64 c fun c=>
 cM f (eH.add 0) (.int .u64 b) fun b=>
 cM b (eH.add 1) (.slice a d e) fun a=>
 cM a (eH.add 2) (.int .i64 c) fun a=>
 eO a .u64 (eH.add 0) fun b=>
 dQ a (eH.add 1) fun c d e=>
 eO a .i64 (eH.add 2) fun f=>
 Y (.tuple #[.agg #[.int .u64 b,.slice c d e,.int .i64 f],.int .i64 0]) a
def bM.g(Y:aF)(X:Fr)(Z:U):Prop:=a0 .i64 (X 1) fun aS=>gW (X 4) fun eH=>aR (X 6) fun bG a bI=>a0 .u64 (X 10) fun b=>eU (X 12) fun c=>bM.t Y aS eH bG a bI b c Z
theorem bM.ok(Y:aF)(X:Fr)(Z:U)(g:bM.g Y X Z):den prog E (a6 aO [W,W,W,W,W,W,W,W]) (bC E [.cell 4 39,.tmp 5] Y) X Z:=
 bJ g fun aS a g=>iE g fun eH b g=>bF g fun bG c bI d g=>bJ g fun e f g=>yM g fun h i g=>bV [(1,.int .i64 aS),(4,.pointer (some eH)),(6,.slice bG c bI),(10,.int .u64 e),(12,.bool h)] ⟨a,b,d,f,i,trivial⟩ (by kernel_rfl) g
def a5.t(Y:aF)(aY aS:Int)(eH:Addr)(Z:U):Prop:=
 a4 vT.id #[.int .i64 aS] Z fun a b=>
 cW a fun a=>
 cU a fun a c d e=>
 dP e .i64 fun e f=>
 b9 f <| cond (e != 0) (cM b (eH.add 0) (.int .u64 0) fun f=>
 cM f (eH.add 1) (.slice none 0 0) fun f=>
 cM f (eH.add 2) (.int .i64 0) fun f=>
 eO f .u64 (eH.add 0) fun g=>
 dQ f (eH.add 1) fun h i j=>
 eO f .i64 (eH.add 2) fun k=>
 Y (.tuple #[.agg #[.int .u64 g,.slice h i j,.int .i64 k],.int .i64 e]) f) (bB (IntKind.i64.wrap (aY - 1)) fun e=>
 0≤e∧bB (iQ .u64 1 e) fun e=>
 0≤aY∧bB (iQ .u64 1 aY) fun f=>
 bB (IntKind.u64.wrap (f - 1)) fun f=>
 a4 q4.id #[.slice a c d,.int .u64 e,.int .u64 f,.bool true] b fun b g=>
 cW b fun b=>
 dP b .u64 fun b h=>
 cU h fun h i j k=>
 b9 k <| a4 nV.id #[.slice a c d,.int .u64 e,.int .u64 f] g fun e g=>
 a0 .u64 e fun e=>
 cond (decide (e≤f)) (a4 q4.id #[.slice a c d,.int .u64 e,.int .u64 f,.bool false] g fun e f=>
 cW e fun e=>
 dP e .u64 fun e k=>
 cU k fun k l m n=>
 b9 n <| a4 jO.id #[.slice k l m,.slice h i j] f fun f h=>
 a0 .i64 f fun f=>
 cond (decide (f < 0)) (bM.t Y aS eH a c d e false h) (bM.t Y aS eH a c d b true h)) (bM.t Y aS eH a c d b true g))
def a5.g(Y:aF)(X:Fr)(Z:U):Prop:=a0 .i64 (X 0) fun aY=>a0 .i64 (X 1) fun aS=>gW (X 4) fun eH=>a5.t Y aY aS eH Z
theorem a5.ok(Y:aF)(X:Fr)(Z:U)(g:a5.g Y X Z):den prog E (a6 aO [W,W]) (bC E [.cell 4 39,.tmp 5] Y) X Z:=
 bJ g fun aY a g=>bJ g fun aS b g=>iE g fun eH c g=>c5 6 (r:=(a6 aO [W,W,W,W,W,W,W,W])) (by kernel_rfl) (bM.ok Y) (bV [(0,.int .i64 aY),(1,.int .i64 aS),(4,.pointer (some eH))] ⟨a,b,c,trivial⟩ (by kernel_rfl) g)
def aP.t(Y:aF)(aY aS:Int)(Z:U):Prop:=
 dX Z 39 wB.a9 fun cQ a=>
 cond (decide (aY < 1)) (cM a (cQ.add 0) (.int .u64 0) fun b=>
 cM b (cQ.add 1) (.slice none 0 0) fun b=>
 cM b (cQ.add 2) (.int .i64 0) fun b=>
 eO b .u64 (cQ.add 0) fun c=>
 dQ b (cQ.add 1) fun d e f=>
 eO b .i64 (cQ.add 2) fun g=>
 Y (.tuple #[.agg #[.int .u64 c,.slice d e f,.int .i64 g],.int .i64 1]) b) (cond (decide (aY > 53)) (cM a (cQ.add 0) (.int .u64 0) fun b=>
 cM b (cQ.add 1) (.slice none 0 0) fun b=>
 cM b (cQ.add 2) (.int .i64 0) fun b=>
 eO b .u64 (cQ.add 0) fun c=>
 dQ b (cQ.add 1) fun d e f=>
 eO b .i64 (cQ.add 2) fun g=>
 Y (.tuple #[.agg #[.int .u64 c,.slice d e f,.int .i64 g],.int .i64 1]) b) (cond (decide (aS < (-64))) (cM a (cQ.add 0) (.int .u64 0) fun b=>
 cM b (cQ.add 1) (.slice none 0 0) fun b=>
 cM b (cQ.add 2) (.int .i64 0) fun b=>
 eO b .u64 (cQ.add 0) fun c=>
 dQ b (cQ.add 1) fun d e f=>
 eO b .i64 (cQ.add 2) fun g=>
 Y (.tuple #[.agg #[.int .u64 c,.slice d e f,.int .i64 g],.int .i64 1]) b) (cond (decide (aS > 971)) (cM a (cQ.add 0) (.int .u64 0) fun b=>
 cM b (cQ.add 1) (.slice none 0 0) fun b=>
 cM b (cQ.add 2) (.int .i64 0) fun b=>
 eO b .u64 (cQ.add 0) fun c=>
 dQ b (cQ.add 1) fun d e f=>
 eO b .i64 (cQ.add 2) fun g=>
 Y (.tuple #[.agg #[.int .u64 c,.slice d e f,.int .i64 g],.int .i64 1]) b) (a5.t Y aY aS cQ a))))
def aP.g(Y:aF)(X:Fr)(Z:U):Prop:=a0 .i64 (X 0) fun aY=>a0 .i64 (X 1) fun aS=>aP.t Y aY aS Z
theorem aP.ok(Y:aF)(X:Fr)(Z:U)(g:aP.g Y X Z):den prog E aO (bC E [.cell 4 39,.tmp 5] Y) X Z:=
 bJ g fun aY a g=>bJ g fun aS b g=>c5 2 (r:=(a6 aO [W,W])) (by kernel_rfl) (a5.ok Y) (bV [(0,.int .i64 aY),(1,.int .i64 aS)] ⟨a,b,trivial⟩ (by kernel_rfl) g)
def t(aY aS:Int)(Z:U)(Y:aF):Prop:=aP.t Y aY aS Z
theorem ok{aY:Int}{aS:Int}{Z:U}{Y:aF}(g:t aY aS Z Y):a4 id #[.int .i64 aY,.int .i64 aS] Z Y:=
 eD dT (c:=aO) (dH:=[.cell 4 39,.tmp 5]) Tryz.func16 (by kernel_rfl) (by kernel_rfl) (by kernel_rfl) (args:=[.int .i64 aY,.int .i64 aS]) (by kernel_rfl) (aP.ok Y _ Z (b0 rfl (b0 rfl (g))))
end kY
namespace nZ
noncomputable def aO:Code:=dY Tryz.f17
def a5.t(Y:aF)(aY:Int)(Z:U):Prop:=
 a4 lF.id #[.int .i64 aY] Z fun a b=>
 aR a fun a c d=>
 Y (.tuple #[.slice a c d,.int .i64 0]) b
def a5.g(Y:aF)(X:Fr)(Z:U):Prop:=a0 .i64 (X 0) fun aY=>a5.t Y aY Z
theorem a5.ok(Y:aF)(X:Fr)(Z:U)(g:a5.g Y X Z):den prog E (a6 aO [W,W]) (bC E [.tmp 2,.tmp 3] Y) X Z:=
 bJ g fun aY a g=>bV [(0,.int .i64 aY)] ⟨a,trivial⟩ (by kernel_rfl) g
def aP.t(Y:aF)(aY:Int)(Z:U):Prop:=
 cond (decide (aY < 1)) (Y (.tuple #[.slice none 0 0,.int .i64 1]) Z) (cond (decide (aY > 1000)) (Y (.tuple #[.slice none 0 0,.int .i64 1]) Z) (a5.t Y aY Z))
def aP.g(Y:aF)(X:Fr)(Z:U):Prop:=a0 .i64 (X 0) fun aY=>aP.t Y aY Z
theorem aP.ok(Y:aF)(X:Fr)(Z:U)(g:aP.g Y X Z):den prog E aO (bC E [.tmp 2,.tmp 3] Y) X Z:=
 bJ g fun aY a g=>c5 2 (r:=(a6 aO [W,W])) (by kernel_rfl) (a5.ok Y) (bV [(0,.int .i64 aY)] ⟨a,trivial⟩ (by kernel_rfl) g)
def t(aY:Int)(Z:U)(Y:aF):Prop:=aP.t Y aY Z
theorem ok{aY:Int}{Z:U}{Y:aF}(g:t aY Z Y):a4 id #[.int .i64 aY] Z Y:=
 eD dT (c:=aO) (dH:=[.tmp 2,.tmp 3]) Tryz.func17 (by kernel_rfl) (by kernel_rfl) (by kernel_rfl) (args:=[.int .i64 aY]) (by kernel_rfl) (aP.ok Y _ Z (b0 rfl (g)))
end nZ
namespace kP
noncomputable def aO:Code:=dY Tryz.f18
def bM.t(Y:aF)(bE:S)(a bD:Nat)(bG:S)(b bI:Nat)(Z:U):Prop:=
 a4 k7.id #[.slice bE a bD] Z fun a c=>
 aR a fun a d e=>
 a4 k7.id #[.slice bG b bI] c fun b c=>
 aR b fun b f g=>
 Y (.tuple #[.slice a d e,.slice b f g,.int .i64 0]) c
def bM.g(Y:aF)(X:Fr)(Z:U):Prop:=aR (X 5) fun bE a bD=>aR (X 6) fun bG b bI=>bM.t Y bE a bD bG b bI Z
theorem bM.ok(Y:aF)(X:Fr)(Z:U)(g:bM.g Y X Z):den prog E (a6 aO [W,W,W,W,W]) (bC E [.tmp 2,.tmp 3,.tmp 4] Y) X Z:=
 bF g fun bE a bD b g=>bF g fun bG c bI d g=>bV [(5,.slice bE a bD),(6,.slice bG c bI)] ⟨b,d,trivial⟩ (by kernel_rfl) g
def dS.g(bP:S→Nat→Nat→S→Nat→Nat→S→Nat→Nat→S→Nat→Nat→S→Nat→Nat→Int→Int→U→Prop)(X:Fr)(Z:U):Prop:=aR (X 5) fun bE a bD=>aR (X 6) fun bG b bI=>aR (X 7) fun bX c bY=>aR (X 8) fun b6 d b7=>aR (X 23) fun fM e fR=>a0 .i64 (X 24) fun f=>a0 .i64 (X 25) fun h=>bP bE a bD bG b bI bX c bY b6 d b7 fM e fR f h Z
def dD.t(Y:aF)(a:S→Nat→Nat→S→Nat→Nat→S→Nat→Nat→S→Nat→Nat→S→Nat→Nat→Int→Int→U→Prop)(bE:S)(b bD:Nat)(bG:S)(c bI:Nat)(bX:S)(d bY:Nat)(b6:S)(e b7:Nat)(fM:S)(f fR:Nat)(g h:Int)(Z:U):Prop:=
 cond (decide (h < g)) (c6 fM f h 1 fun i=>
 eO Z .u64 i fun i=>
 a4 gN.id #[.int .u64 i] Z fun j k=>
 aR j fun j l m=>
 a4 hS.id #[.slice j l m,.slice bE b bD] k fun j k=>
 aR j fun j l m=>
 a4 g0.id #[.slice j l m,.slice bX d bY] k fun d j=>
 aR d fun d k l=>
 a4 gN.id #[.int .u64 i] j fun i j=>
 aR i fun i m n=>
 a4 hS.id #[.slice i m n,.slice bG c bI] j fun i j=>
 aR i fun i m n=>
 a4 g0.id #[.slice i m n,.slice b6 e b7] j fun e i=>
 aR e fun e j m=>
 bB (IntKind.i64.wrap (h+1)) fun h=>
 a d k l e j m bE b bD bG c bI fM f fR g h i) (bM.t Y bE b bD bG c bI Z)
def dD.g(Y:aF)(a:S→Nat→Nat→S→Nat→Nat→S→Nat→Nat→S→Nat→Nat→S→Nat→Nat→Int→Int→U→Prop)(X:Fr)(Z:U):Prop:=aR (X 5) fun bE b bD=>aR (X 6) fun bG c bI=>aR (X 7) fun bX d bY=>aR (X 8) fun b6 e b7=>aR (X 23) fun fM f fR=>a0 .i64 (X 24) fun h=>a0 .i64 (X 25) fun i=>dD.t Y a bE b bD bG c bI bX d bY b6 e b7 fM f fR h i Z
theorem dD.ok(Y:aF)(a:S→Nat→Nat→S→Nat→Nat→S→Nat→Nat→S→Nat→Nat→S→Nat→Nat→Int→Int→U→Prop)(X:Fr)(Z:U)(g:dD.g Y a X Z):den prog E (a6 aO [W,W,W,W,aJ,W,aJ,aJ]) (aV.then (dS.g a) (aV.inBlock 0 (aV.then (bM.g Y) (bC E [.tmp 2,.tmp 3,.tmp 4] Y)))) X Z:=
 bF g fun bE a bD b g=>bF g fun bG c bI d g=>bF g fun bX e bY f g=>bF g fun b6 h b7 i g=>bF g fun fM j fR k g=>bJ g fun l m g=>bJ g fun n o g=>bV [(5,.slice bE a bD),(6,.slice bG c bI),(7,.slice bX e bY),(8,.slice b6 h b7),(23,.slice fM j fR),(24,.int .i64 l),(25,.int .i64 n)] ⟨b,d,f,i,k,m,o,trivial⟩ (by kernel_rfl) g
def dS.t(Y:aF):Nat→S→Nat→Nat→S→Nat→Nat→S→Nat→Nat→S→Nat→Nat→S→Nat→Nat→Int→Int→U→Prop
 | 0=>fun _ _ _ _ _ _ _ _ _ _ _ _ _ _ _ _ _ _=>False
 | n+1=>fun bE a bD bG b bI bX c bY b6 d b7 fM e fR f g Z=>dD.t Y (dS.t Y n) bE a bD bG b bI bX c bY b6 d b7 fM e fR f g Z
theorem dS.ok(Y:aF)(X:Fr)(Z:U)(g:dS.g (fun bE a bD bG b bI bX c bY b6 d b7 fM e fR f h Z=>∃ n,dS.t Y n bE a bD bG b bI bX c bY b6 d b7 fM e fR f h Z) X Z):den prog E (a6 aO [W,W,W,W,aJ,W,aJ]) (aV.inBlock 0 (aV.then (bM.g Y) (bC E [.tmp 2,.tmp 3,.tmp 4] Y))) X Z:=by
 obtain⟨bE,a,bD,i,g⟩:=b2 g
 obtain⟨bG,b,bI,j,g⟩:=b2 g
 obtain⟨bX,c,bY,k,g⟩:=b2 g
 obtain⟨b6,d,b7,l,g⟩:=b2 g
 obtain⟨fM,e,fR,m,g⟩:=b2 g
 obtain⟨f,o,g⟩:=bT g
 obtain⟨h,p,g⟩:=bT g
 obtain⟨n,g⟩:=g
 refine fF (fun n=>dS.g (dS.t Y n)) (K:=(a6 aO [W,W,W,W,aJ,W,aJ,aJ])) (by kernel_rfl) (fun X Z g=>?_) (fun n=>dD.ok Y (dS.t Y n)) n X Z (bL i (bL j (bL k (bL l (bL m (b0 o (b0 p (g))))))))
 obtain⟨bE,a,bD,i,g⟩:=b2 g
 obtain⟨bG,b,bI,j,g⟩:=b2 g
 obtain⟨bX,c,bY,k,g⟩:=b2 g
 obtain⟨b6,d,b7,l,g⟩:=b2 g
 obtain⟨fM,e,fR,m,g⟩:=b2 g
 obtain⟨f,o,g⟩:=bT g
 obtain⟨h,p,g⟩:=bT g
 exact g
theorem sF.ok(Y:aF)(X:Fr)(Z:U)(g:dS.g (fun bE a bD bG b bI bX c bY b6 d b7 fM e fR f h Z=>∃ n,dS.t Y n bE a bD bG b bI bX c bY b6 d b7 fM e fR f h Z) X Z):den prog E (a6 aO [W,W,W,W,aJ,W]) (aV.then (bM.g Y) (bC E [.tmp 2,.tmp 3,.tmp 4] Y)) X Z:=
 e3 (by kernel_rfl) (dS.ok Y X Z g)
def cF.t(Y:aF)(aY:Int)(bE:S)(a bD:Nat)(bG:S)(b bI:Nat)(bX:S)(c bY:Nat)(b6:S)(d b7:Nat)(Z:U):Prop:=
 bB (IntKind.i64.wrap (aY+1)) fun e=>
 a4 lF.id #[.int .i64 e] Z fun e f=>
 aR e fun e g h=>
 (∃ n,dS.t Y n bE a bD bG b bI bX c bY b6 d b7 e g h (((g:Nat):Int)) 0 f)
def cF.g(Y:aF)(X:Fr)(Z:U):Prop:=a0 .i64 (X 0) fun aY=>aR (X 5) fun bE a bD=>aR (X 6) fun bG b bI=>aR (X 7) fun bX c bY=>aR (X 8) fun b6 d b7=>cF.t Y aY bE a bD bG b bI bX c bY b6 d b7 Z
theorem cF.ok(Y:aF)(X:Fr)(Z:U)(g:cF.g Y X Z):den prog E (a6 aO [W,W,W,W,aJ]) (aV.then (bM.g Y) (bC E [.tmp 2,.tmp 3,.tmp 4] Y)) X Z:=
 bJ g fun aY a g=>bF g fun bE b bD c g=>bF g fun bG d bI e g=>bF g fun bX f bY h g=>bF g fun b6 i b7 j g=>c5 1 (r:=(a6 aO [W,W,W,W,aJ,W])) (by kernel_rfl) (sF.ok Y) (bV [(0,.int .i64 aY),(5,.slice bE b bD),(6,.slice bG d bI),(7,.slice bX f bY),(8,.slice b6 i b7)] ⟨a,c,e,h,j,trivial⟩ (by kernel_rfl) g)
theorem sG.ok(Y:aF)(X:Fr)(Z:U)(g:cF.g Y X Z):den prog E (a6 aO [W,W,W,W]) (bC E [.tmp 2,.tmp 3,.tmp 4] Y) X Z:=
 fP (by kernel_rfl) (bM.ok Y) (cF.ok Y X Z g)
def a5.t(Y:aF)(aY:Int)(Z:U):Prop:=
 a4 gN.id #[.int .u64 1] Z fun a b=>
 aR a fun a c d=>
 a4 gN.id #[.int .u64 0] b fun b e=>
 aR b fun b f g=>
 a4 gN.id #[.int .u64 0] e fun e h=>
 aR e fun e i j=>
 a4 gN.id #[.int .u64 1] h fun h k=>
 aR h fun h l m=>
 cF.t Y aY a c d b f g e i j h l m k
def a5.g(Y:aF)(X:Fr)(Z:U):Prop:=a0 .i64 (X 0) fun aY=>a5.t Y aY Z
theorem a5.ok(Y:aF)(X:Fr)(Z:U)(g:a5.g Y X Z):den prog E (a6 aO [W,W]) (bC E [.tmp 2,.tmp 3,.tmp 4] Y) X Z:=
 bJ g fun aY a g=>c5 2 (r:=(a6 aO [W,W,W,W])) (by kernel_rfl) (sG.ok Y) (bV [(0,.int .i64 aY)] ⟨a,trivial⟩ (by kernel_rfl) g)
def aP.t(Y:aF)(aY:Int)(Z:U):Prop:=
 cond (decide (aY < 0)) (Y (.tuple #[.slice none 0 0,.slice none 0 0,.int .i64 1]) Z) (cond (decide (aY≥1000)) (Y (.tuple #[.slice none 0 0,.slice none 0 0,.int .i64 1]) Z) (a5.t Y aY Z))
def aP.g(Y:aF)(X:Fr)(Z:U):Prop:=a0 .i64 (X 0) fun aY=>aP.t Y aY Z
theorem aP.ok(Y:aF)(X:Fr)(Z:U)(g:aP.g Y X Z):den prog E aO (bC E [.tmp 2,.tmp 3,.tmp 4] Y) X Z:=
 bJ g fun aY a g=>c5 2 (r:=(a6 aO [W,W])) (by kernel_rfl) (a5.ok Y) (bV [(0,.int .i64 aY)] ⟨a,trivial⟩ (by kernel_rfl) g)
def t(aY:Int)(Z:U)(Y:aF):Prop:=aP.t Y aY Z
theorem ok{aY:Int}{Z:U}{Y:aF}(g:t aY Z Y):a4 id #[.int .i64 aY] Z Y:=
 eD dT (c:=aO) (dH:=[.tmp 2,.tmp 3,.tmp 4]) Tryz.func18 (by kernel_rfl) (by kernel_rfl) (by kernel_rfl) (args:=[.int .i64 aY]) (by kernel_rfl) (aP.ok Y _ Z (b0 rfl (g)))
end kP
namespace n0
noncomputable def aO:Code:=dY Tryz.f19
def a5.t(Y:aF)(aY aS:Int)(Z:U):Prop:=
 a4 qB.id #[.int .i64 aY,.int .i64 aS] Z fun a b=>
 a0 .u64 a fun a=>
 a4 v8.id #[.int .u64 a,.int .i64 aS,.int .i64 320] b fun b c=>
 cW b fun b=>
 cU b fun b d e f=>
 cU f fun f g h i=>
 b9 i <| a4 k7.id #[.slice f g h] c fun c f=>
 aR c fun c g h=>
 a4 k8.id #[.slice b d e] f fun b d=>
 a0 .i64 b fun b=>
 bB (IntKind.i64.wrap (320 - b)) fun b=>
 bB (IntKind.i64.wrap (b+1)) fun b=>
 Y (.tuple #[.int .u64 a,.slice c g h,.int .i64 b,.int .i64 0]) d
def a5.g(Y:aF)(X:Fr)(Z:U):Prop:=a0 .i64 (X 0) fun aY=>a0 .i64 (X 1) fun aS=>a5.t Y aY aS Z
theorem a5.ok(Y:aF)(X:Fr)(Z:U)(g:a5.g Y X Z):den prog E (a6 aO [W,W]) (bC E [.tmp 4,.tmp 5,.tmp 6,.tmp 7] Y) X Z:=
 bJ g fun aY a g=>bJ g fun aS b g=>bV [(0,.int .i64 aY),(1,.int .i64 aS)] ⟨a,b,trivial⟩ (by kernel_rfl) g
def aP.t(Y:aF)(aY aS:Int)(Z:U):Prop:=
 cond (decide (aY < 1)) (Y (.tuple #[.int .u64 0,.slice none 0 0,.int .i64 0,.int .i64 1]) Z) (cond (decide (aY > 53)) (Y (.tuple #[.int .u64 0,.slice none 0 0,.int .i64 0,.int .i64 1]) Z) (cond (decide (aS < (-64))) (Y (.tuple #[.int .u64 0,.slice none 0 0,.int .i64 0,.int .i64 1]) Z) (cond (decide (aS > 971)) (Y (.tuple #[.int .u64 0,.slice none 0 0,.int .i64 0,.int .i64 1]) Z) (a5.t Y aY aS Z))))
def aP.g(Y:aF)(X:Fr)(Z:U):Prop:=a0 .i64 (X 0) fun aY=>a0 .i64 (X 1) fun aS=>aP.t Y aY aS Z
theorem aP.ok(Y:aF)(X:Fr)(Z:U)(g:aP.g Y X Z):den prog E aO (bC E [.tmp 4,.tmp 5,.tmp 6,.tmp 7] Y) X Z:=
 bJ g fun aY a g=>bJ g fun aS b g=>c5 2 (r:=(a6 aO [W,W])) (by kernel_rfl) (a5.ok Y) (bV [(0,.int .i64 aY),(1,.int .i64 aS)] ⟨a,b,trivial⟩ (by kernel_rfl) g)
def t(aY aS:Int)(Z:U)(Y:aF):Prop:=aP.t Y aY aS Z
theorem ok{aY:Int}{aS:Int}{Z:U}{Y:aF}(g:t aY aS Z Y):a4 id #[.int .i64 aY,.int .i64 aS] Z Y:=
 eD dT (c:=aO) (dH:=[.tmp 4,.tmp 5,.tmp 6,.tmp 7]) Tryz.func19 (by kernel_rfl) (by kernel_rfl) (by kernel_rfl) (args:=[.int .i64 aY,.int .i64 aS]) (by kernel_rfl) (aP.ok Y _ Z (b0 rfl (b0 rfl (g))))
end n0
namespace eY
noncomputable def aO:Code:=dY Tryz.f20
def bM.t(Y:aF)(Z:U):Prop:=
 Y (.bool true) Z
def bM.g(Y:aF)(X:Fr)(Z:U):Prop:=bM.t Y  Z
theorem bM.ok(Y:aF)(X:Fr)(Z:U)(g:bM.g Y X Z):den prog E (a6 aO [W,W,W,W,W,W,W]) (bC E [.tmp 2] Y) X Z:=
 bV [] trivial (by kernel_rfl) g
def dS.g(bP:S→Nat→Nat→Int→U→Prop)(X:Fr)(Z:U):Prop:=aR (X 0) fun M a aA=>a0 .i64 (X 14) fun b=>bP M a aA b Z
def eX.t(Y:aF)(a:S→Nat→Nat→Int→U→Prop)(M:S)(b aA:Nat)(c:Int)(Z:U):Prop:=
 bB (IntKind.i64.wrap (c+1)) fun eF=>a M b aA eF Z
def eX.g(Y:aF)(a:S→Nat→Nat→Int→U→Prop)(X:Fr)(Z:U):Prop:=aR (X 0) fun M b aA=>a0 .i64 (X 14) fun c=>eX.t Y a M b aA c Z
theorem eX.ok(Y:aF)(a:S→Nat→Nat→Int→U→Prop)(X:Fr)(Z:U)(g:eX.g Y a X Z):den prog E (a6 aO [W,W,W,W,W,W,aJ,W,aJ,aJ,W,W]) (aV.then (dS.g a) (aV.inBlock 16 (aV.then (bM.g Y) (bC E [.tmp 2] Y)))) X Z:=
 bF g fun M a aA b g=>bJ g fun c d g=>bV [(0,.slice M a aA),(14,.int .i64 c)] ⟨b,d,trivial⟩ (by kernel_rfl) g
def gD.g(bP:S→Nat→Nat→Int→Int→U→Prop)(X:Fr)(Z:U):Prop:=aR (X 0) fun M a aA=>a0 .i64 (X 14) fun b=>a0 .i64 (X 15) fun c=>bP M a aA b c Z
def hI.t(Y:aF)(a:S→Nat→Nat→Int→U→Prop)(b:S→Nat→Nat→Int→Int→U→Prop)(M:S)(c aA:Nat)(d e:Int)(Z:U):Prop:=
 c6 M c d 1 fun e7=>
 dQ Z e7 fun f f g=>
 cond (decide (e < (((f:Nat):Int)))) (c6 M c d 1 fun f=>
 dQ Z f fun f g h=>
 c6 f g e 1 fun f=>
 eO Z .u64 f fun f=>
 h9 pJ.id #[.int .i64 d,.int .i64 e] Z fun g=>
 a0 .u64 g fun g=>
 cond (f != g) (Y (.bool false) Z) (bB (IntKind.i64.wrap (e+1)) fun e=>
 b M c aA d e Z)) (eX.t Y a M c aA d Z)
def hI.g(Y:aF)(a:S→Nat→Nat→Int→U→Prop)(b:S→Nat→Nat→Int→Int→U→Prop)(X:Fr)(Z:U):Prop:=aR (X 0) fun M c aA=>a0 .i64 (X 14) fun d=>a0 .i64 (X 15) fun e=>hI.t Y a b M c aA d e Z
theorem hI.ok(Y:aF)(a:S→Nat→Nat→Int→U→Prop)(b:S→Nat→Nat→Int→Int→U→Prop)(X:Fr)(Z:U)(g:hI.g Y a b X Z):den prog E (a6 aO [W,W,W,W,W,W,aJ,W,aJ,aJ,W,aJ,aJ,W,aJ,aJ]) (aV.then (gD.g b) (aV.inBlock 18 (aV.inBlock 17 (aV.then (eX.g Y a) (aV.then (dS.g a) (aV.inBlock 16 (aV.then (bM.g Y) (bC E [.tmp 2] Y)))))))) X Z:=
 bF g fun M a aA b g=>bJ g fun c d g=>bJ g fun e f g=>bV [(0,.slice M a aA),(14,.int .i64 c),(15,.int .i64 e)] ⟨b,d,f,trivial⟩ (by kernel_rfl) g
def gD.t(Y:aF)(a:S→Nat→Nat→Int→U→Prop):Nat→S→Nat→Nat→Int→Int→U→Prop
 | 0=>fun _ _ _ _ _ _=>False
 | n+1=>fun M b aA c d Z=>hI.t Y a (gD.t Y a n) M b aA c d Z
theorem gD.ok(Y:aF)(a:S→Nat→Nat→Int→U→Prop)(X:Fr)(Z:U)(g:gD.g (fun M b aA c d Z=>∃ n,gD.t Y a n M b aA c d Z) X Z):den prog E (a6 aO [W,W,W,W,W,W,aJ,W,aJ,aJ,W,aJ,aJ,W,aJ]) (aV.inBlock 18 (aV.inBlock 17 (aV.then (eX.g Y a) (aV.then (dS.g a) (aV.inBlock 16 (aV.then (bM.g Y) (bC E [.tmp 2] Y))))))) X Z:=by
 obtain⟨M,b,aA,e,g⟩:=b2 g
 obtain⟨c,f,g⟩:=bT g
 obtain⟨d,h,g⟩:=bT g
 obtain⟨n,g⟩:=g
 refine fF (fun n=>gD.g (gD.t Y a n)) (K:=(a6 aO [W,W,W,W,W,W,aJ,W,aJ,aJ,W,aJ,aJ,W,aJ,aJ])) (by kernel_rfl) (fun X Z g=>?_) (fun n=>hI.ok Y a (gD.t Y a n)) n X Z (bL e (b0 f (b0 h (g))))
 obtain⟨M,b,aA,e,g⟩:=b2 g
 obtain⟨c,f,g⟩:=bT g
 obtain⟨d,h,g⟩:=bT g
 exact g
theorem wC.ok(Y:aF)(a:S→Nat→Nat→Int→U→Prop)(X:Fr)(Z:U)(g:gD.g (fun M b aA c d Z=>∃ n,gD.t Y a n M b aA c d Z) X Z):den prog E (a6 aO [W,W,W,W,W,W,aJ,W,aJ,aJ,W,aJ,aJ,W]) (aV.inBlock 17 (aV.then (eX.g Y a) (aV.then (dS.g a) (aV.inBlock 16 (aV.then (bM.g Y) (bC E [.tmp 2] Y)))))) X Z:=
 e3 (by kernel_rfl) (gD.ok Y a X Z g)
def eZ.t(Y:aF)(a:S→Nat→Nat→Int→U→Prop)(M:S)(b aA:Nat)(c:Int)(Z:U):Prop:=
 (∃ n,gD.t Y a n M b aA c 0 Z)
def eZ.g(Y:aF)(a:S→Nat→Nat→Int→U→Prop)(X:Fr)(Z:U):Prop:=aR (X 0) fun M b aA=>a0 .i64 (X 14) fun c=>eZ.t Y a M b aA c Z
theorem eZ.ok(Y:aF)(a:S→Nat→Nat→Int→U→Prop)(X:Fr)(Z:U)(g:eZ.g Y a X Z):den prog E (a6 aO [W,W,W,W,W,W,aJ,W,aJ,aJ,W,aJ,aJ]) (aV.inBlock 17 (aV.then (eX.g Y a) (aV.then (dS.g a) (aV.inBlock 16 (aV.then (bM.g Y) (bC E [.tmp 2] Y)))))) X Z:=
 bF g fun M b aA c g=>bJ g fun d e g=>c5 1 (r:=(a6 aO [W,W,W,W,W,W,aJ,W,aJ,aJ,W,aJ,aJ,W])) (by kernel_rfl) (wC.ok Y a) (bV [(0,.slice M b aA),(14,.int .i64 d)] ⟨c,e,trivial⟩ (by kernel_rfl) g)
theorem oT.ok(Y:aF)(a:S→Nat→Nat→Int→U→Prop)(X:Fr)(Z:U)(g:eZ.g Y a X Z):den prog E (a6 aO [W,W,W,W,W,W,aJ,W,aJ,aJ,W,aJ]) (aV.then (eX.g Y a) (aV.then (dS.g a) (aV.inBlock 16 (aV.then (bM.g Y) (bC E [.tmp 2] Y))))) X Z:=
 e3 (by kernel_rfl) (eZ.ok Y a X Z g)
theorem sH.ok(Y:aF)(a:S→Nat→Nat→Int→U→Prop)(X:Fr)(Z:U)(g:eZ.g Y a X Z):den prog E (a6 aO [W,W,W,W,W,W,aJ,W,aJ,aJ,W]) (aV.then (dS.g a) (aV.inBlock 16 (aV.then (bM.g Y) (bC E [.tmp 2] Y)))) X Z:=
 fP (by kernel_rfl) (eX.ok Y a) (oT.ok Y a X Z g)
def dD.t(Y:aF)(a:S→Nat→Nat→Int→U→Prop)(M:S)(b aA:Nat)(c:Int)(Z:U):Prop:=
 cond (decide (c < (((b:Nat):Int)))) (eZ.t Y a M b aA c Z) (bM.t Y Z)
def dD.g(Y:aF)(a:S→Nat→Nat→Int→U→Prop)(X:Fr)(Z:U):Prop:=aR (X 0) fun M b aA=>a0 .i64 (X 14) fun c=>dD.t Y a M b aA c Z
theorem dD.ok(Y:aF)(a:S→Nat→Nat→Int→U→Prop)(X:Fr)(Z:U)(g:dD.g Y a X Z):den prog E (a6 aO [W,W,W,W,W,W,aJ,W,aJ,aJ]) (aV.then (dS.g a) (aV.inBlock 16 (aV.then (bM.g Y) (bC E [.tmp 2] Y)))) X Z:=
 bF g fun M b aA c g=>bJ g fun d e g=>c5 1 (r:=(a6 aO [W,W,W,W,W,W,aJ,W,aJ,aJ,W])) (by kernel_rfl) (sH.ok Y a) (bV [(0,.slice M b aA),(14,.int .i64 d)] ⟨c,e,trivial⟩ (by kernel_rfl) g)
def dS.t(Y:aF):Nat→S→Nat→Nat→Int→U→Prop
 | 0=>fun _ _ _ _ _=>False
 | n+1=>fun M a aA b Z=>dD.t Y (dS.t Y n) M a aA b Z
theorem dS.ok(Y:aF)(X:Fr)(Z:U)(g:dS.g (fun M a aA b Z=>∃ n,dS.t Y n M a aA b Z) X Z):den prog E (a6 aO [W,W,W,W,W,W,aJ,W,aJ]) (aV.inBlock 16 (aV.then (bM.g Y) (bC E [.tmp 2] Y))) X Z:=by
 obtain⟨M,a,aA,c,g⟩:=b2 g
 obtain⟨b,d,g⟩:=bT g
 obtain⟨n,g⟩:=g
 refine fF (fun n=>dS.g (dS.t Y n)) (K:=(a6 aO [W,W,W,W,W,W,aJ,W,aJ,aJ])) (by kernel_rfl) (fun X Z g=>?_) (fun n=>dD.ok Y (dS.t Y n)) n X Z (bL c (b0 d (g)))
 obtain⟨M,a,aA,c,g⟩:=b2 g
 obtain⟨b,d,g⟩:=bT g
 exact g
theorem qC.ok(Y:aF)(X:Fr)(Z:U)(g:dS.g (fun M a aA b Z=>∃ n,dS.t Y n M a aA b Z) X Z):den prog E (a6 aO [W,W,W,W,W,W,aJ,W]) (aV.then (bM.g Y) (bC E [.tmp 2] Y)) X Z:=
 e3 (by kernel_rfl) (dS.ok Y X Z g)
def cF.t(Y:aF)(M:S)(a aA:Nat)(Z:U):Prop:=
 (∃ n,dS.t Y n M a aA 0 Z)
def cF.g(Y:aF)(X:Fr)(Z:U):Prop:=aR (X 0) fun M a aA=>cF.t Y M a aA Z
theorem cF.ok(Y:aF)(X:Fr)(Z:U)(g:cF.g Y X Z):den prog E (a6 aO [W,W,W,W,W,W,aJ]) (aV.then (bM.g Y) (bC E [.tmp 2] Y)) X Z:=
 bF g fun M a aA b g=>c5 1 (r:=(a6 aO [W,W,W,W,W,W,aJ,W])) (by kernel_rfl) (qC.ok Y) (bV [(0,.slice M a aA)] ⟨b,trivial⟩ (by kernel_rfl) g)
theorem wD.ok(Y:aF)(X:Fr)(Z:U)(g:cF.g Y X Z):den prog E (a6 aO [W,W,W,W,W,W]) (bC E [.tmp 2] Y) X Z:=
 fP (by kernel_rfl) (bM.ok Y) (cF.ok Y X Z g)
def jY.g(bP:S→Nat→Nat→S→Nat→Nat→Int→U→Prop)(X:Fr)(Z:U):Prop:=aR (X 0) fun M a aA=>aR (X 5) fun bE b bD=>a0 .i64 (X 12) fun c=>bP M a aA bE b bD c Z
def pK.t(Y:aF)(a:S→Nat→Nat→S→Nat→Nat→Int→U→Prop)(M:S)(b aA:Nat)(bE:S)(c bD:Nat)(d:Int)(Z:U):Prop:=
 bB (IntKind.i64.wrap (d+1)) fun d=>a M b aA bE c bD d Z
def pK.g(Y:aF)(a:S→Nat→Nat→S→Nat→Nat→Int→U→Prop)(X:Fr)(Z:U):Prop:=aR (X 0) fun M b aA=>aR (X 5) fun bE c bD=>a0 .i64 (X 12) fun d=>pK.t Y a M b aA bE c bD d Z
theorem pK.ok(Y:aF)(a:S→Nat→Nat→S→Nat→Nat→Int→U→Prop)(X:Fr)(Z:U)(g:pK.g Y a X Z):den prog E (a6 aO [W,W,W,W,W,aJ,W,aJ,aJ,W,W]) (aV.then (jY.g a) (aV.inBlock 12 (aV.then (cF.g Y) (bC E [.tmp 2] Y)))) X Z:=
 bF g fun M a aA b g=>bF g fun bE c bD d g=>bJ g fun e f g=>bV [(0,.slice M a aA),(5,.slice bE c bD),(12,.int .i64 e)] ⟨b,d,f,trivial⟩ (by kernel_rfl) g
def mN.g(bP:S→Nat→Nat→S→Nat→Nat→Int→Int→U→Prop)(X:Fr)(Z:U):Prop:=aR (X 0) fun M a aA=>aR (X 5) fun bE b bD=>a0 .i64 (X 12) fun c=>a0 .i64 (X 13) fun d=>bP M a aA bE b bD c d Z
def tS.t(Y:aF)(a:S→Nat→Nat→S→Nat→Nat→Int→U→Prop)(b:S→Nat→Nat→S→Nat→Nat→Int→Int→U→Prop)(M:S)(c aA:Nat)(bE:S)(d bD:Nat)(e f:Int)(Z:U):Prop:=
 c6 bE d e 1 fun g=>
 dQ Z g fun g g h=>
 cond (decide (f < (((g:Nat):Int)))) (c6 bE d e 1 fun g=>
 dQ Z g fun g h i=>
 c6 g h f 1 fun g=>
 eO Z .u64 g fun g=>
 (((c:Nat):Int)) ≠ 0∧bB (Int.tmod e (((c:Nat):Int))) fun h=>
 h9 pJ.id #[.int .i64 h,.int .i64 f] Z fun h=>
 a0 .u64 h fun h=>
 cond (g != h) (Y (.bool false) Z) (bB (IntKind.i64.wrap (f+1)) fun f=>
 b M c aA bE d bD e f Z)) (pK.t Y a M c aA bE d bD e Z)
def tS.g(Y:aF)(a:S→Nat→Nat→S→Nat→Nat→Int→U→Prop)(b:S→Nat→Nat→S→Nat→Nat→Int→Int→U→Prop)(X:Fr)(Z:U):Prop:=aR (X 0) fun M c aA=>aR (X 5) fun bE d bD=>a0 .i64 (X 12) fun e=>a0 .i64 (X 13) fun f=>tS.t Y a b M c aA bE d bD e f Z
theorem tS.ok(Y:aF)(a:S→Nat→Nat→S→Nat→Nat→Int→U→Prop)(b:S→Nat→Nat→S→Nat→Nat→Int→Int→U→Prop)(X:Fr)(Z:U)(g:tS.g Y a b X Z):den prog E (a6 aO [W,W,W,W,W,aJ,W,aJ,aJ,W,aJ,aJ,W,aJ,aJ]) (aV.then (mN.g b) (aV.inBlock 14 (aV.inBlock 13 (aV.then (pK.g Y a) (aV.then (jY.g a) (aV.inBlock 12 (aV.then (cF.g Y) (bC E [.tmp 2] Y)))))))) X Z:=
 bF g fun M a aA b g=>bF g fun bE c bD d g=>bJ g fun e f g=>bJ g fun h i g=>bV [(0,.slice M a aA),(5,.slice bE c bD),(12,.int .i64 e),(13,.int .i64 h)] ⟨b,d,f,i,trivial⟩ (by kernel_rfl) g
def mN.t(Y:aF)(a:S→Nat→Nat→S→Nat→Nat→Int→U→Prop):Nat→S→Nat→Nat→S→Nat→Nat→Int→Int→U→Prop
 | 0=>fun _ _ _ _ _ _ _ _ _=>False
 | n+1=>fun M b aA bE c bD d e Z=>tS.t Y a (mN.t Y a n) M b aA bE c bD d e Z
theorem mN.ok(Y:aF)(a:S→Nat→Nat→S→Nat→Nat→Int→U→Prop)(X:Fr)(Z:U)(g:mN.g (fun M b aA bE c bD d e Z=>∃ n,mN.t Y a n M b aA bE c bD d e Z) X Z):den prog E (a6 aO [W,W,W,W,W,aJ,W,aJ,aJ,W,aJ,aJ,W,aJ]) (aV.inBlock 14 (aV.inBlock 13 (aV.then (pK.g Y a) (aV.then (jY.g a) (aV.inBlock 12 (aV.then (cF.g Y) (bC E [.tmp 2] Y))))))) X Z:=by
 obtain⟨M,b,aA,f,g⟩:=b2 g
 obtain⟨bE,c,bD,h,g⟩:=b2 g
 obtain⟨d,i,g⟩:=bT g
 obtain⟨e,j,g⟩:=bT g
 obtain⟨n,g⟩:=g
 refine fF (fun n=>mN.g (mN.t Y a n)) (K:=(a6 aO [W,W,W,W,W,aJ,W,aJ,aJ,W,aJ,aJ,W,aJ,aJ])) (by kernel_rfl) (fun X Z g=>?_) (fun n=>tS.ok Y a (mN.t Y a n)) n X Z (bL f (bL h (b0 i (b0 j (g)))))
 obtain⟨M,b,aA,f,g⟩:=b2 g
 obtain⟨bE,c,bD,h,g⟩:=b2 g
 obtain⟨d,i,g⟩:=bT g
 obtain⟨e,j,g⟩:=bT g
 exact g
theorem PH.ok(Y:aF)(a:S→Nat→Nat→S→Nat→Nat→Int→U→Prop)(X:Fr)(Z:U)(g:mN.g (fun M b aA bE c bD d e Z=>∃ n,mN.t Y a n M b aA bE c bD d e Z) X Z):den prog E (a6 aO [W,W,W,W,W,aJ,W,aJ,aJ,W,aJ,aJ,W]) (aV.inBlock 13 (aV.then (pK.g Y a) (aV.then (jY.g a) (aV.inBlock 12 (aV.then (cF.g Y) (bC E [.tmp 2] Y)))))) X Z:=
 e3 (by kernel_rfl) (mN.ok Y a X Z g)
def r4.t(Y:aF)(a:S→Nat→Nat→S→Nat→Nat→Int→U→Prop)(M:S)(b aA:Nat)(bE:S)(c bD:Nat)(d:Int)(Z:U):Prop:=
 (∃ n,mN.t Y a n M b aA bE c bD d 0 Z)
def r4.g(Y:aF)(a:S→Nat→Nat→S→Nat→Nat→Int→U→Prop)(X:Fr)(Z:U):Prop:=aR (X 0) fun M b aA=>aR (X 5) fun bE c bD=>a0 .i64 (X 12) fun d=>r4.t Y a M b aA bE c bD d Z
theorem r4.ok(Y:aF)(a:S→Nat→Nat→S→Nat→Nat→Int→U→Prop)(X:Fr)(Z:U)(g:r4.g Y a X Z):den prog E (a6 aO [W,W,W,W,W,aJ,W,aJ,aJ,W,aJ,aJ]) (aV.inBlock 13 (aV.then (pK.g Y a) (aV.then (jY.g a) (aV.inBlock 12 (aV.then (cF.g Y) (bC E [.tmp 2] Y)))))) X Z:=
 bF g fun M b aA c g=>bF g fun bE d bD e g=>bJ g fun f h g=>c5 1 (r:=(a6 aO [W,W,W,W,W,aJ,W,aJ,aJ,W,aJ,aJ,W])) (by kernel_rfl) (PH.ok Y a) (bV [(0,.slice M b aA),(5,.slice bE d bD),(12,.int .i64 f)] ⟨c,e,h,trivial⟩ (by kernel_rfl) g)
theorem PI.ok(Y:aF)(a:S→Nat→Nat→S→Nat→Nat→Int→U→Prop)(X:Fr)(Z:U)(g:r4.g Y a X Z):den prog E (a6 aO [W,W,W,W,W,aJ,W,aJ,aJ,W,aJ]) (aV.then (pK.g Y a) (aV.then (jY.g a) (aV.inBlock 12 (aV.then (cF.g Y) (bC E [.tmp 2] Y))))) X Z:=
 e3 (by kernel_rfl) (r4.ok Y a X Z g)
theorem PJ.ok(Y:aF)(a:S→Nat→Nat→S→Nat→Nat→Int→U→Prop)(X:Fr)(Z:U)(g:r4.g Y a X Z):den prog E (a6 aO [W,W,W,W,W,aJ,W,aJ,aJ,W]) (aV.then (jY.g a) (aV.inBlock 12 (aV.then (cF.g Y) (bC E [.tmp 2] Y)))) X Z:=
 fP (by kernel_rfl) (pK.ok Y a) (PI.ok Y a X Z g)
def tR.t(Y:aF)(a:S→Nat→Nat→S→Nat→Nat→Int→U→Prop)(M:S)(b aA:Nat)(bE:S)(c bD:Nat)(d:Int)(Z:U):Prop:=
 cond (decide (d < (((c:Nat):Int)))) (r4.t Y a M b aA bE c bD d Z) (cF.t Y M b aA Z)
def tR.g(Y:aF)(a:S→Nat→Nat→S→Nat→Nat→Int→U→Prop)(X:Fr)(Z:U):Prop:=aR (X 0) fun M b aA=>aR (X 5) fun bE c bD=>a0 .i64 (X 12) fun d=>tR.t Y a M b aA bE c bD d Z
theorem tR.ok(Y:aF)(a:S→Nat→Nat→S→Nat→Nat→Int→U→Prop)(X:Fr)(Z:U)(g:tR.g Y a X Z):den prog E (a6 aO [W,W,W,W,W,aJ,W,aJ,aJ]) (aV.then (jY.g a) (aV.inBlock 12 (aV.then (cF.g Y) (bC E [.tmp 2] Y)))) X Z:=
 bF g fun M b aA c g=>bF g fun bE d bD e g=>bJ g fun f h g=>c5 1 (r:=(a6 aO [W,W,W,W,W,aJ,W,aJ,aJ,W])) (by kernel_rfl) (PJ.ok Y a) (bV [(0,.slice M b aA),(5,.slice bE d bD),(12,.int .i64 f)] ⟨c,e,h,trivial⟩ (by kernel_rfl) g)
def jY.t(Y:aF):Nat→S→Nat→Nat→S→Nat→Nat→Int→U→Prop
 | 0=>fun _ _ _ _ _ _ _ _=>False
 | n+1=>fun M a aA bE b bD c Z=>tR.t Y (jY.t Y n) M a aA bE b bD c Z
theorem jY.ok(Y:aF)(X:Fr)(Z:U)(g:jY.g (fun M a aA bE b bD c Z=>∃ n,jY.t Y n M a aA bE b bD c Z) X Z):den prog E (a6 aO [W,W,W,W,W,aJ,W,aJ]) (aV.inBlock 12 (aV.then (cF.g Y) (bC E [.tmp 2] Y))) X Z:=by
 obtain⟨M,a,aA,d,g⟩:=b2 g
 obtain⟨bE,b,bD,e,g⟩:=b2 g
 obtain⟨c,f,g⟩:=bT g
 obtain⟨n,g⟩:=g
 refine fF (fun n=>jY.g (jY.t Y n)) (K:=(a6 aO [W,W,W,W,W,aJ,W,aJ,aJ])) (by kernel_rfl) (fun X Z g=>?_) (fun n=>tR.ok Y (jY.t Y n)) n X Z (bL d (bL e (b0 f (g))))
 obtain⟨M,a,aA,d,g⟩:=b2 g
 obtain⟨bE,b,bD,e,g⟩:=b2 g
 obtain⟨c,f,g⟩:=bT g
 exact g
theorem PK.ok(Y:aF)(X:Fr)(Z:U)(g:jY.g (fun M a aA bE b bD c Z=>∃ n,jY.t Y n M a aA bE b bD c Z) X Z):den prog E (a6 aO [W,W,W,W,W,aJ,W]) (aV.then (cF.g Y) (bC E [.tmp 2] Y)) X Z:=
 e3 (by kernel_rfl) (jY.ok Y X Z g)
def kC.t(Y:aF)(M:S)(a aA:Nat)(bE:S)(b bD:Nat)(Z:U):Prop:=
 (∃ n,jY.t Y n M a aA bE b bD 0 Z)
def kC.g(Y:aF)(X:Fr)(Z:U):Prop:=aR (X 0) fun M a aA=>aR (X 5) fun bE b bD=>kC.t Y M a aA bE b bD Z
theorem kC.ok(Y:aF)(X:Fr)(Z:U)(g:kC.g Y X Z):den prog E (a6 aO [W,W,W,W,W,aJ]) (aV.then (cF.g Y) (bC E [.tmp 2] Y)) X Z:=
 bF g fun M a aA b g=>bF g fun bE c bD d g=>c5 1 (r:=(a6 aO [W,W,W,W,W,aJ,W])) (by kernel_rfl) (PK.ok Y) (bV [(0,.slice M a aA),(5,.slice bE c bD)] ⟨b,d,trivial⟩ (by kernel_rfl) g)
theorem PL.ok(Y:aF)(X:Fr)(Z:U)(g:kC.g Y X Z):den prog E (a6 aO [W,W,W,W,W]) (bC E [.tmp 2] Y) X Z:=
 fP (by kernel_rfl) (wD.ok Y) (kC.ok Y X Z g)
def iY.g(bP:S→Nat→Nat→S→Nat→Nat→Int→U→Prop)(X:Fr)(Z:U):Prop:=aR (X 0) fun M a aA=>aR (X 5) fun bE b bD=>a0 .i64 (X 9) fun c=>bP M a aA bE b bD c Z
def m8.t(Y:aF)(a:S→Nat→Nat→S→Nat→Nat→Int→U→Prop)(M:S)(b aA:Nat)(bE:S)(c bD:Nat)(d:Int)(Z:U):Prop:=
 bB (IntKind.i64.wrap (d+1)) fun d=>a M b aA bE c bD d Z
def m8.g(Y:aF)(a:S→Nat→Nat→S→Nat→Nat→Int→U→Prop)(X:Fr)(Z:U):Prop:=aR (X 0) fun M b aA=>aR (X 5) fun bE c bD=>a0 .i64 (X 9) fun d=>m8.t Y a M b aA bE c bD d Z
theorem m8.ok(Y:aF)(a:S→Nat→Nat→S→Nat→Nat→Int→U→Prop)(X:Fr)(Z:U)(g:m8.g Y a X Z):den prog E (a6 aO [W,W,W,W,aJ,W,aJ,aJ,W,W]) (aV.then (iY.g a) (aV.inBlock 8 (aV.then (kC.g Y) (bC E [.tmp 2] Y)))) X Z:=
 bF g fun M a aA b g=>bF g fun bE c bD d g=>bJ g fun e f g=>bV [(0,.slice M a aA),(5,.slice bE c bD),(9,.int .i64 e)] ⟨b,d,f,trivial⟩ (by kernel_rfl) g
def p6.t(Y:aF)(a:S→Nat→Nat→S→Nat→Nat→Int→U→Prop)(M:S)(b aA:Nat)(bE:S)(c bD:Nat)(d:Int)(e:S)(f g:Nat)(Z:U):Prop:=
 c6 M b d 1 fun h=>
 dQ Z h fun h i j=>
 g3 Z 35 j6 h i j (.slice e f g) fun e f g h=>
 dX h 30 [.slice e f g] fun e f=>
 g3 f 30 zR bE c bD (.slice (some e) 1 1) fun c e f g=>
 m8.t Y a M b aA c e f d g
def p6.g(Y:aF)(a:S→Nat→Nat→S→Nat→Nat→Int→U→Prop)(X:Fr)(Z:U):Prop:=aR (X 0) fun M b aA=>aR (X 5) fun bE c bD=>a0 .i64 (X 9) fun d=>aR (X 10) fun e f h=>p6.t Y a M b aA bE c bD d e f h Z
theorem p6.ok(Y:aF)(a:S→Nat→Nat→S→Nat→Nat→Int→U→Prop)(X:Fr)(Z:U)(g:p6.g Y a X Z):den prog E (a6 aO [W,W,W,W,aJ,W,aJ,aJ,W,aJ,aJ,W,W]) (aV.inBlock 9 (aV.then (m8.g Y a) (aV.then (iY.g a) (aV.inBlock 8 (aV.then (kC.g Y) (bC E [.tmp 2] Y)))))) X Z:=
 bF g fun M a aA b g=>bF g fun bE c bD d g=>bJ g fun e f g=>bF g fun h i j k g=>bV [(0,.slice M a aA),(5,.slice bE c bD),(9,.int .i64 e),(10,.slice h i j)] ⟨b,d,f,k,trivial⟩ (by kernel_rfl) g
def mO.g(bP:S→Nat→Nat→S→Nat→Nat→Int→S→Nat→Nat→Int→U→Prop)(X:Fr)(Z:U):Prop:=aR (X 0) fun M a aA=>aR (X 5) fun bE b bD=>a0 .i64 (X 9) fun c=>aR (X 10) fun d e f=>a0 .i64 (X 11) fun h=>bP M a aA bE b bD c d e f h Z
def tV.t(Y:aF)(a:S→Nat→Nat→S→Nat→Nat→Int→U→Prop)(b:S→Nat→Nat→S→Nat→Nat→Int→S→Nat→Nat→Int→U→Prop)(M:S)(c aA:Nat)(bE:S)(d bD:Nat)(e:Int)(f:S)(g h:Nat)(i:Int)(Z:U):Prop:=
 cond (decide (i < 80)) (c6 M c e 1 fun j=>
 dQ Z j fun j j k=>
 bB (IntKind.i64.wrap ((((j:Nat):Int))+i)) fun j=>
 h9 pJ.id #[.int .i64 e,.int .i64 j] Z fun j=>
 a0 .u64 j fun j=>
 c6 f g i 1 fun k=>
 cM Z k (.int .u64 j) fun j=>
 bB (IntKind.i64.wrap (i+1)) fun i=>
 b M c aA bE d bD e f g h i j) (p6.t Y a M c aA bE d bD e f g h Z)
def tV.g(Y:aF)(a:S→Nat→Nat→S→Nat→Nat→Int→U→Prop)(b:S→Nat→Nat→S→Nat→Nat→Int→S→Nat→Nat→Int→U→Prop)(X:Fr)(Z:U):Prop:=aR (X 0) fun M c aA=>aR (X 5) fun bE d bD=>a0 .i64 (X 9) fun e=>aR (X 10) fun f h i=>a0 .i64 (X 11) fun j=>tV.t Y a b M c aA bE d bD e f h i j Z
theorem tV.ok(Y:aF)(a:S→Nat→Nat→S→Nat→Nat→Int→U→Prop)(b:S→Nat→Nat→S→Nat→Nat→Int→S→Nat→Nat→Int→U→Prop)(X:Fr)(Z:U)(g:tV.g Y a b X Z):den prog E (a6 aO [W,W,W,W,aJ,W,aJ,aJ,W,aJ,aJ,W,aJ,W,aJ,aJ]) (aV.then (mO.g b) (aV.inBlock 10 (aV.then (p6.g Y a) (aV.inBlock 9 (aV.then (m8.g Y a) (aV.then (iY.g a) (aV.inBlock 8 (aV.then (kC.g Y) (bC E [.tmp 2] Y))))))))) X Z:=
 bF g fun M a aA b g=>bF g fun bE c bD d g=>bJ g fun e f g=>bF g fun h i j k g=>bJ g fun l m g=>bV [(0,.slice M a aA),(5,.slice bE c bD),(9,.int .i64 e),(10,.slice h i j),(11,.int .i64 l)] ⟨b,d,f,k,m,trivial⟩ (by kernel_rfl) g
def mO.t(Y:aF)(a:S→Nat→Nat→S→Nat→Nat→Int→U→Prop):Nat→S→Nat→Nat→S→Nat→Nat→Int→S→Nat→Nat→Int→U→Prop
 | 0=>fun _ _ _ _ _ _ _ _ _ _ _ _=>False
 | n+1=>fun M b aA bE c bD d e f g h Z=>tV.t Y a (mO.t Y a n) M b aA bE c bD d e f g h Z
theorem mO.ok(Y:aF)(a:S→Nat→Nat→S→Nat→Nat→Int→U→Prop)(X:Fr)(Z:U)(g:mO.g (fun M b aA bE c bD d e f h i Z=>∃ n,mO.t Y a n M b aA bE c bD d e f h i Z) X Z):den prog E (a6 aO [W,W,W,W,aJ,W,aJ,aJ,W,aJ,aJ,W,aJ,W,aJ]) (aV.inBlock 10 (aV.then (p6.g Y a) (aV.inBlock 9 (aV.then (m8.g Y a) (aV.then (iY.g a) (aV.inBlock 8 (aV.then (kC.g Y) (bC E [.tmp 2] Y)))))))) X Z:=by
 obtain⟨M,b,aA,j,g⟩:=b2 g
 obtain⟨bE,c,bD,k,g⟩:=b2 g
 obtain⟨d,l,g⟩:=bT g
 obtain⟨e,f,h,m,g⟩:=b2 g
 obtain⟨i,o,g⟩:=bT g
 obtain⟨n,g⟩:=g
 refine fF (fun n=>mO.g (mO.t Y a n)) (K:=(a6 aO [W,W,W,W,aJ,W,aJ,aJ,W,aJ,aJ,W,aJ,W,aJ,aJ])) (by kernel_rfl) (fun X Z g=>?_) (fun n=>tV.ok Y a (mO.t Y a n)) n X Z (bL j (bL k (b0 l (bL m (b0 o (g))))))
 obtain⟨M,b,aA,j,g⟩:=b2 g
 obtain⟨bE,c,bD,k,g⟩:=b2 g
 obtain⟨d,l,g⟩:=bT g
 obtain⟨e,f,h,m,g⟩:=b2 g
 obtain⟨i,o,g⟩:=bT g
 exact g
theorem PM.ok(Y:aF)(a:S→Nat→Nat→S→Nat→Nat→Int→U→Prop)(X:Fr)(Z:U)(g:mO.g (fun M b aA bE c bD d e f h i Z=>∃ n,mO.t Y a n M b aA bE c bD d e f h i Z) X Z):den prog E (a6 aO [W,W,W,W,aJ,W,aJ,aJ,W,aJ,aJ,W,aJ,W]) (aV.then (p6.g Y a) (aV.inBlock 9 (aV.then (m8.g Y a) (aV.then (iY.g a) (aV.inBlock 8 (aV.then (kC.g Y) (bC E [.tmp 2] Y))))))) X Z:=
 e3 (by kernel_rfl) (mO.ok Y a X Z g)
def tU.t(Y:aF)(a:S→Nat→Nat→S→Nat→Nat→Int→U→Prop)(M:S)(b aA:Nat)(bE:S)(c bD:Nat)(d:Int)(e:S)(f g:Nat)(Z:U):Prop:=
 (∃ n,mO.t Y a n M b aA bE c bD d e f g 0 Z)
def tU.g(Y:aF)(a:S→Nat→Nat→S→Nat→Nat→Int→U→Prop)(X:Fr)(Z:U):Prop:=aR (X 0) fun M b aA=>aR (X 5) fun bE c bD=>a0 .i64 (X 9) fun d=>aR (X 10) fun e f h=>tU.t Y a M b aA bE c bD d e f h Z
theorem tU.ok(Y:aF)(a:S→Nat→Nat→S→Nat→Nat→Int→U→Prop)(X:Fr)(Z:U)(g:tU.g Y a X Z):den prog E (a6 aO [W,W,W,W,aJ,W,aJ,aJ,W,aJ,aJ,W,aJ]) (aV.then (p6.g Y a) (aV.inBlock 9 (aV.then (m8.g Y a) (aV.then (iY.g a) (aV.inBlock 8 (aV.then (kC.g Y) (bC E [.tmp 2] Y))))))) X Z:=
 bF g fun M b aA c g=>bF g fun bE d bD e g=>bJ g fun f h g=>bF g fun i j k l g=>c5 1 (r:=(a6 aO [W,W,W,W,aJ,W,aJ,aJ,W,aJ,aJ,W,aJ,W])) (by kernel_rfl) (PM.ok Y a) (bV [(0,.slice M b aA),(5,.slice bE d bD),(9,.int .i64 f),(10,.slice i j k)] ⟨c,e,h,l,trivial⟩ (by kernel_rfl) g)
theorem PN.ok(Y:aF)(a:S→Nat→Nat→S→Nat→Nat→Int→U→Prop)(X:Fr)(Z:U)(g:tU.g Y a X Z):den prog E (a6 aO [W,W,W,W,aJ,W,aJ,aJ,W,aJ,aJ,W]) (aV.inBlock 9 (aV.then (m8.g Y a) (aV.then (iY.g a) (aV.inBlock 8 (aV.then (kC.g Y) (bC E [.tmp 2] Y)))))) X Z:=
 fP (by kernel_rfl) (p6.ok Y a) (tU.ok Y a X Z g)
def r5.t(Y:aF)(a:S→Nat→Nat→S→Nat→Nat→Int→U→Prop)(M:S)(b aA:Nat)(bE:S)(c bD:Nat)(d:Int)(Z:U):Prop:=
 iS Z 35 j6 80 80 fun e f=>
 tU.t Y a M b aA bE c bD d (some e) ((80:Int).toNat) ((80:Int).toNat) f
def r5.g(Y:aF)(a:S→Nat→Nat→S→Nat→Nat→Int→U→Prop)(X:Fr)(Z:U):Prop:=aR (X 0) fun M b aA=>aR (X 5) fun bE c bD=>a0 .i64 (X 9) fun d=>r5.t Y a M b aA bE c bD d Z
theorem r5.ok(Y:aF)(a:S→Nat→Nat→S→Nat→Nat→Int→U→Prop)(X:Fr)(Z:U)(g:r5.g Y a X Z):den prog E (a6 aO [W,W,W,W,aJ,W,aJ,aJ,W,aJ,aJ]) (aV.inBlock 9 (aV.then (m8.g Y a) (aV.then (iY.g a) (aV.inBlock 8 (aV.then (kC.g Y) (bC E [.tmp 2] Y)))))) X Z:=
 bF g fun M b aA c g=>bF g fun bE d bD e g=>bJ g fun f h g=>c5 1 (r:=(a6 aO [W,W,W,W,aJ,W,aJ,aJ,W,aJ,aJ,W])) (by kernel_rfl) (PN.ok Y a) (bV [(0,.slice M b aA),(5,.slice bE d bD),(9,.int .i64 f)] ⟨c,e,h,trivial⟩ (by kernel_rfl) g)
theorem PO.ok(Y:aF)(a:S→Nat→Nat→S→Nat→Nat→Int→U→Prop)(X:Fr)(Z:U)(g:r5.g Y a X Z):den prog E (a6 aO [W,W,W,W,aJ,W,aJ,aJ,W,aJ]) (aV.then (m8.g Y a) (aV.then (iY.g a) (aV.inBlock 8 (aV.then (kC.g Y) (bC E [.tmp 2] Y))))) X Z:=
 e3 (by kernel_rfl) (r5.ok Y a X Z g)
theorem PQ.ok(Y:aF)(a:S→Nat→Nat→S→Nat→Nat→Int→U→Prop)(X:Fr)(Z:U)(g:r5.g Y a X Z):den prog E (a6 aO [W,W,W,W,aJ,W,aJ,aJ,W]) (aV.then (iY.g a) (aV.inBlock 8 (aV.then (kC.g Y) (bC E [.tmp 2] Y)))) X Z:=
 fP (by kernel_rfl) (m8.ok Y a) (PO.ok Y a X Z g)
def tT.t(Y:aF)(a:S→Nat→Nat→S→Nat→Nat→Int→U→Prop)(M:S)(b aA:Nat)(bE:S)(c bD:Nat)(d:Int)(Z:U):Prop:=
 cond (decide (d < (((b:Nat):Int)))) (r5.t Y a M b aA bE c bD d Z) (kC.t Y M b aA bE c bD Z)
def tT.g(Y:aF)(a:S→Nat→Nat→S→Nat→Nat→Int→U→Prop)(X:Fr)(Z:U):Prop:=aR (X 0) fun M b aA=>aR (X 5) fun bE c bD=>a0 .i64 (X 9) fun d=>tT.t Y a M b aA bE c bD d Z
theorem tT.ok(Y:aF)(a:S→Nat→Nat→S→Nat→Nat→Int→U→Prop)(X:Fr)(Z:U)(g:tT.g Y a X Z):den prog E (a6 aO [W,W,W,W,aJ,W,aJ,aJ]) (aV.then (iY.g a) (aV.inBlock 8 (aV.then (kC.g Y) (bC E [.tmp 2] Y)))) X Z:=
 bF g fun M b aA c g=>bF g fun bE d bD e g=>bJ g fun f h g=>c5 1 (r:=(a6 aO [W,W,W,W,aJ,W,aJ,aJ,W])) (by kernel_rfl) (PQ.ok Y a) (bV [(0,.slice M b aA),(5,.slice bE d bD),(9,.int .i64 f)] ⟨c,e,h,trivial⟩ (by kernel_rfl) g)
def iY.t(Y:aF):Nat→S→Nat→Nat→S→Nat→Nat→Int→U→Prop
 | 0=>fun _ _ _ _ _ _ _ _=>False
 | n+1=>fun M a aA bE b bD c Z=>tT.t Y (iY.t Y n) M a aA bE b bD c Z
theorem iY.ok(Y:aF)(X:Fr)(Z:U)(g:iY.g (fun M a aA bE b bD c Z=>∃ n,iY.t Y n M a aA bE b bD c Z) X Z):den prog E (a6 aO [W,W,W,W,aJ,W,aJ]) (aV.inBlock 8 (aV.then (kC.g Y) (bC E [.tmp 2] Y))) X Z:=by
 obtain⟨M,a,aA,d,g⟩:=b2 g
 obtain⟨bE,b,bD,e,g⟩:=b2 g
 obtain⟨c,f,g⟩:=bT g
 obtain⟨n,g⟩:=g
 refine fF (fun n=>iY.g (iY.t Y n)) (K:=(a6 aO [W,W,W,W,aJ,W,aJ,aJ])) (by kernel_rfl) (fun X Z g=>?_) (fun n=>tT.ok Y (iY.t Y n)) n X Z (bL d (bL e (b0 f (g))))
 obtain⟨M,a,aA,d,g⟩:=b2 g
 obtain⟨bE,b,bD,e,g⟩:=b2 g
 obtain⟨c,f,g⟩:=bT g
 exact g
theorem PR.ok(Y:aF)(X:Fr)(Z:U)(g:iY.g (fun M a aA bE b bD c Z=>∃ n,iY.t Y n M a aA bE b bD c Z) X Z):den prog E (a6 aO [W,W,W,W,aJ,W]) (aV.then (kC.g Y) (bC E [.tmp 2] Y)) X Z:=
 e3 (by kernel_rfl) (iY.ok Y X Z g)
def kD.t(Y:aF)(M:S)(a aA:Nat)(bE:S)(b bD:Nat)(Z:U):Prop:=
 (∃ n,iY.t Y n M a aA bE b bD 0 Z)
def kD.g(Y:aF)(X:Fr)(Z:U):Prop:=aR (X 0) fun M a aA=>aR (X 5) fun bE b bD=>kD.t Y M a aA bE b bD Z
theorem kD.ok(Y:aF)(X:Fr)(Z:U)(g:kD.g Y X Z):den prog E (a6 aO [W,W,W,W,aJ]) (aV.then (kC.g Y) (bC E [.tmp 2] Y)) X Z:=
 bF g fun M a aA b g=>bF g fun bE c bD d g=>c5 1 (r:=(a6 aO [W,W,W,W,aJ,W])) (by kernel_rfl) (PR.ok Y) (bV [(0,.slice M a aA),(5,.slice bE c bD)] ⟨b,d,trivial⟩ (by kernel_rfl) g)
theorem PS.ok(Y:aF)(X:Fr)(Z:U)(g:kD.g Y X Z):den prog E (a6 aO [W,W,W,W]) (bC E [.tmp 2] Y) X Z:=
 fP (by kernel_rfl) (PL.ok Y) (kD.ok Y X Z g)
def iZ.g(bP:S→Nat→Nat→S→Nat→Nat→Int→U→Prop)(X:Fr)(Z:U):Prop:=aR (X 0) fun M a aA=>aR (X 5) fun bE b bD=>a0 .i64 (X 6) fun c=>bP M a aA bE b bD c Z
def m9.t(Y:aF)(a:S→Nat→Nat→S→Nat→Nat→Int→U→Prop)(M:S)(b aA:Nat)(bE:S)(c bD:Nat)(d:Int)(Z:U):Prop:=
 bB (IntKind.i64.wrap (d+1)) fun d=>a M b aA bE c bD d Z
def m9.g(Y:aF)(a:S→Nat→Nat→S→Nat→Nat→Int→U→Prop)(X:Fr)(Z:U):Prop:=aR (X 0) fun M b aA=>aR (X 5) fun bE c bD=>a0 .i64 (X 6) fun d=>m9.t Y a M b aA bE c bD d Z
theorem m9.ok(Y:aF)(a:S→Nat→Nat→S→Nat→Nat→Int→U→Prop)(X:Fr)(Z:U)(g:m9.g Y a X Z):den prog E (a6 aO [W,W,W,aJ,W,aJ,aJ,W,W]) (aV.then (iZ.g a) (aV.inBlock 4 (aV.then (kD.g Y) (bC E [.tmp 2] Y)))) X Z:=
 bF g fun M a aA b g=>bF g fun bE c bD d g=>bJ g fun e f g=>bV [(0,.slice M a aA),(5,.slice bE c bD),(6,.int .i64 e)] ⟨b,d,f,trivial⟩ (by kernel_rfl) g
def p7.t(Y:aF)(a:S→Nat→Nat→S→Nat→Nat→Int→U→Prop)(M:S)(b aA:Nat)(bE:S)(c bD:Nat)(d:Int)(bX:S)(e bY:Nat)(Z:U):Prop:=
 dX Z 30 [.slice bX e bY] fun e f=>
 g3 f 30 zR bE c bD (.slice (some e) 1 1) fun c e f g=>
 m9.t Y a M b aA c e f d g
def p7.g(Y:aF)(a:S→Nat→Nat→S→Nat→Nat→Int→U→Prop)(X:Fr)(Z:U):Prop:=aR (X 0) fun M b aA=>aR (X 5) fun bE c bD=>a0 .i64 (X 6) fun d=>aR (X 7) fun bX e bY=>p7.t Y a M b aA bE c bD d bX e bY Z
theorem p7.ok(Y:aF)(a:S→Nat→Nat→S→Nat→Nat→Int→U→Prop)(X:Fr)(Z:U)(g:p7.g Y a X Z):den prog E (a6 aO [W,W,W,aJ,W,aJ,aJ,W,aJ,aJ,W,W]) (aV.inBlock 5 (aV.then (m9.g Y a) (aV.then (iZ.g a) (aV.inBlock 4 (aV.then (kD.g Y) (bC E [.tmp 2] Y)))))) X Z:=
 bF g fun M a aA b g=>bF g fun bE c bD d g=>bJ g fun e f g=>bF g fun bX h bY i g=>bV [(0,.slice M a aA),(5,.slice bE c bD),(6,.int .i64 e),(7,.slice bX h bY)] ⟨b,d,f,i,trivial⟩ (by kernel_rfl) g
def mP.g(bP:S→Nat→Nat→S→Nat→Nat→Int→S→Nat→Nat→Int→U→Prop)(X:Fr)(Z:U):Prop:=aR (X 0) fun M a aA=>aR (X 5) fun bE b bD=>a0 .i64 (X 6) fun c=>aR (X 7) fun bX d bY=>a0 .i64 (X 8) fun e=>bP M a aA bE b bD c bX d bY e Z
def tY.t(Y:aF)(a:S→Nat→Nat→S→Nat→Nat→Int→U→Prop)(b:S→Nat→Nat→S→Nat→Nat→Int→S→Nat→Nat→Int→U→Prop)(M:S)(c aA:Nat)(bE:S)(d bD:Nat)(e:Int)(bX:S)(f bY:Nat)(g:Int)(Z:U):Prop:=
 cond (decide (g < 16)) (c6 M c e 1 fun h=>
 dQ Z h fun h h i=>
 bB (IntKind.i64.wrap ((((h:Nat):Int))+g)) fun h=>
 h9 pJ.id #[.int .i64 e,.int .i64 h] Z fun h=>
 a0 .u64 h fun h=>
 dX Z 35 [.int .u64 h] fun h i=>
 g3 i 35 j6 bX f bY (.slice (some h) 1 1) fun h i j k=>
 bB (IntKind.i64.wrap (g+1)) fun g=>
 b M c aA bE d bD e h i j g k) (p7.t Y a M c aA bE d bD e bX f bY Z)
def tY.g(Y:aF)(a:S→Nat→Nat→S→Nat→Nat→Int→U→Prop)(b:S→Nat→Nat→S→Nat→Nat→Int→S→Nat→Nat→Int→U→Prop)(X:Fr)(Z:U):Prop:=aR (X 0) fun M c aA=>aR (X 5) fun bE d bD=>a0 .i64 (X 6) fun e=>aR (X 7) fun bX f bY=>a0 .i64 (X 8) fun h=>tY.t Y a b M c aA bE d bD e bX f bY h Z
theorem tY.ok(Y:aF)(a:S→Nat→Nat→S→Nat→Nat→Int→U→Prop)(b:S→Nat→Nat→S→Nat→Nat→Int→S→Nat→Nat→Int→U→Prop)(X:Fr)(Z:U)(g:tY.g Y a b X Z):den prog E (a6 aO [W,W,W,aJ,W,aJ,aJ,W,aJ,aJ,W,aJ,W,aJ,aJ]) (aV.then (mP.g b) (aV.inBlock 6 (aV.then (p7.g Y a) (aV.inBlock 5 (aV.then (m9.g Y a) (aV.then (iZ.g a) (aV.inBlock 4 (aV.then (kD.g Y) (bC E [.tmp 2] Y))))))))) X Z:=
 bF g fun M a aA b g=>bF g fun bE c bD d g=>bJ g fun e f g=>bF g fun bX h bY i g=>bJ g fun j k g=>bV [(0,.slice M a aA),(5,.slice bE c bD),(6,.int .i64 e),(7,.slice bX h bY),(8,.int .i64 j)] ⟨b,d,f,i,k,trivial⟩ (by kernel_rfl) g
def mP.t(Y:aF)(a:S→Nat→Nat→S→Nat→Nat→Int→U→Prop):Nat→S→Nat→Nat→S→Nat→Nat→Int→S→Nat→Nat→Int→U→Prop
 | 0=>fun _ _ _ _ _ _ _ _ _ _ _ _=>False
 | n+1=>fun M b aA bE c bD d bX e bY f Z=>tY.t Y a (mP.t Y a n) M b aA bE c bD d bX e bY f Z
theorem mP.ok(Y:aF)(a:S→Nat→Nat→S→Nat→Nat→Int→U→Prop)(X:Fr)(Z:U)(g:mP.g (fun M b aA bE c bD d bX e bY f Z=>∃ n,mP.t Y a n M b aA bE c bD d bX e bY f Z) X Z):den prog E (a6 aO [W,W,W,aJ,W,aJ,aJ,W,aJ,aJ,W,aJ,W,aJ]) (aV.inBlock 6 (aV.then (p7.g Y a) (aV.inBlock 5 (aV.then (m9.g Y a) (aV.then (iZ.g a) (aV.inBlock 4 (aV.then (kD.g Y) (bC E [.tmp 2] Y)))))))) X Z:=by
 obtain⟨M,b,aA,h,g⟩:=b2 g
 obtain⟨bE,c,bD,i,g⟩:=b2 g
 obtain⟨d,j,g⟩:=bT g
 obtain⟨bX,e,bY,k,g⟩:=b2 g
 obtain⟨f,l,g⟩:=bT g
 obtain⟨n,g⟩:=g
 refine fF (fun n=>mP.g (mP.t Y a n)) (K:=(a6 aO [W,W,W,aJ,W,aJ,aJ,W,aJ,aJ,W,aJ,W,aJ,aJ])) (by kernel_rfl) (fun X Z g=>?_) (fun n=>tY.ok Y a (mP.t Y a n)) n X Z (bL h (bL i (b0 j (bL k (b0 l (g))))))
 obtain⟨M,b,aA,h,g⟩:=b2 g
 obtain⟨bE,c,bD,i,g⟩:=b2 g
 obtain⟨d,j,g⟩:=bT g
 obtain⟨bX,e,bY,k,g⟩:=b2 g
 obtain⟨f,l,g⟩:=bT g
 exact g
theorem PT.ok(Y:aF)(a:S→Nat→Nat→S→Nat→Nat→Int→U→Prop)(X:Fr)(Z:U)(g:mP.g (fun M b aA bE c bD d bX e bY f Z=>∃ n,mP.t Y a n M b aA bE c bD d bX e bY f Z) X Z):den prog E (a6 aO [W,W,W,aJ,W,aJ,aJ,W,aJ,aJ,W,aJ,W]) (aV.then (p7.g Y a) (aV.inBlock 5 (aV.then (m9.g Y a) (aV.then (iZ.g a) (aV.inBlock 4 (aV.then (kD.g Y) (bC E [.tmp 2] Y))))))) X Z:=
 e3 (by kernel_rfl) (mP.ok Y a X Z g)
def tX.t(Y:aF)(a:S→Nat→Nat→S→Nat→Nat→Int→U→Prop)(M:S)(b aA:Nat)(bE:S)(c bD:Nat)(d:Int)(bX:S)(e bY:Nat)(Z:U):Prop:=
 (∃ n,mP.t Y a n M b aA bE c bD d bX e bY 0 Z)
def tX.g(Y:aF)(a:S→Nat→Nat→S→Nat→Nat→Int→U→Prop)(X:Fr)(Z:U):Prop:=aR (X 0) fun M b aA=>aR (X 5) fun bE c bD=>a0 .i64 (X 6) fun d=>aR (X 7) fun bX e bY=>tX.t Y a M b aA bE c bD d bX e bY Z
theorem tX.ok(Y:aF)(a:S→Nat→Nat→S→Nat→Nat→Int→U→Prop)(X:Fr)(Z:U)(g:tX.g Y a X Z):den prog E (a6 aO [W,W,W,aJ,W,aJ,aJ,W,aJ,aJ,W,aJ]) (aV.then (p7.g Y a) (aV.inBlock 5 (aV.then (m9.g Y a) (aV.then (iZ.g a) (aV.inBlock 4 (aV.then (kD.g Y) (bC E [.tmp 2] Y))))))) X Z:=
 bF g fun M b aA c g=>bF g fun bE d bD e g=>bJ g fun f h g=>bF g fun bX i bY j g=>c5 1 (r:=(a6 aO [W,W,W,aJ,W,aJ,aJ,W,aJ,aJ,W,aJ,W])) (by kernel_rfl) (PT.ok Y a) (bV [(0,.slice M b aA),(5,.slice bE d bD),(6,.int .i64 f),(7,.slice bX i bY)] ⟨c,e,h,j,trivial⟩ (by kernel_rfl) g)
theorem PU.ok(Y:aF)(a:S→Nat→Nat→S→Nat→Nat→Int→U→Prop)(X:Fr)(Z:U)(g:tX.g Y a X Z):den prog E (a6 aO [W,W,W,aJ,W,aJ,aJ,W,aJ,aJ,W]) (aV.inBlock 5 (aV.then (m9.g Y a) (aV.then (iZ.g a) (aV.inBlock 4 (aV.then (kD.g Y) (bC E [.tmp 2] Y)))))) X Z:=
 fP (by kernel_rfl) (p7.ok Y a) (tX.ok Y a X Z g)
def r6.t(Y:aF)(a:S→Nat→Nat→S→Nat→Nat→Int→U→Prop)(M:S)(b aA:Nat)(bE:S)(c bD:Nat)(d:Int)(Z:U):Prop:=
 c6 M b d 1 fun e=>
 dQ Z e fun e f g=>
 tX.t Y a M b aA bE c bD d e f g Z
def r6.g(Y:aF)(a:S→Nat→Nat→S→Nat→Nat→Int→U→Prop)(X:Fr)(Z:U):Prop:=aR (X 0) fun M b aA=>aR (X 5) fun bE c bD=>a0 .i64 (X 6) fun d=>r6.t Y a M b aA bE c bD d Z
theorem r6.ok(Y:aF)(a:S→Nat→Nat→S→Nat→Nat→Int→U→Prop)(X:Fr)(Z:U)(g:r6.g Y a X Z):den prog E (a6 aO [W,W,W,aJ,W,aJ,aJ,W,aJ,aJ]) (aV.inBlock 5 (aV.then (m9.g Y a) (aV.then (iZ.g a) (aV.inBlock 4 (aV.then (kD.g Y) (bC E [.tmp 2] Y)))))) X Z:=
 bF g fun M b aA c g=>bF g fun bE d bD e g=>bJ g fun f h g=>c5 1 (r:=(a6 aO [W,W,W,aJ,W,aJ,aJ,W,aJ,aJ,W])) (by kernel_rfl) (PU.ok Y a) (bV [(0,.slice M b aA),(5,.slice bE d bD),(6,.int .i64 f)] ⟨c,e,h,trivial⟩ (by kernel_rfl) g)
theorem PV.ok(Y:aF)(a:S→Nat→Nat→S→Nat→Nat→Int→U→Prop)(X:Fr)(Z:U)(g:r6.g Y a X Z):den prog E (a6 aO [W,W,W,aJ,W,aJ,aJ,W,aJ]) (aV.then (m9.g Y a) (aV.then (iZ.g a) (aV.inBlock 4 (aV.then (kD.g Y) (bC E [.tmp 2] Y))))) X Z:=
 e3 (by kernel_rfl) (r6.ok Y a X Z g)
theorem PW.ok(Y:aF)(a:S→Nat→Nat→S→Nat→Nat→Int→U→Prop)(X:Fr)(Z:U)(g:r6.g Y a X Z):den prog E (a6 aO [W,W,W,aJ,W,aJ,aJ,W]) (aV.then (iZ.g a) (aV.inBlock 4 (aV.then (kD.g Y) (bC E [.tmp 2] Y)))) X Z:=
 fP (by kernel_rfl) (m9.ok Y a) (PV.ok Y a X Z g)
def tW.t(Y:aF)(a:S→Nat→Nat→S→Nat→Nat→Int→U→Prop)(M:S)(b aA:Nat)(bE:S)(c bD:Nat)(d:Int)(Z:U):Prop:=
 cond (decide (d < (((b:Nat):Int)))) (r6.t Y a M b aA bE c bD d Z) (kD.t Y M b aA bE c bD Z)
def tW.g(Y:aF)(a:S→Nat→Nat→S→Nat→Nat→Int→U→Prop)(X:Fr)(Z:U):Prop:=aR (X 0) fun M b aA=>aR (X 5) fun bE c bD=>a0 .i64 (X 6) fun d=>tW.t Y a M b aA bE c bD d Z
theorem tW.ok(Y:aF)(a:S→Nat→Nat→S→Nat→Nat→Int→U→Prop)(X:Fr)(Z:U)(g:tW.g Y a X Z):den prog E (a6 aO [W,W,W,aJ,W,aJ,aJ]) (aV.then (iZ.g a) (aV.inBlock 4 (aV.then (kD.g Y) (bC E [.tmp 2] Y)))) X Z:=
 bF g fun M b aA c g=>bF g fun bE d bD e g=>bJ g fun f h g=>c5 1 (r:=(a6 aO [W,W,W,aJ,W,aJ,aJ,W])) (by kernel_rfl) (PW.ok Y a) (bV [(0,.slice M b aA),(5,.slice bE d bD),(6,.int .i64 f)] ⟨c,e,h,trivial⟩ (by kernel_rfl) g)
def iZ.t(Y:aF):Nat→S→Nat→Nat→S→Nat→Nat→Int→U→Prop
 | 0=>fun _ _ _ _ _ _ _ _=>False
 | n+1=>fun M a aA bE b bD c Z=>tW.t Y (iZ.t Y n) M a aA bE b bD c Z
theorem iZ.ok(Y:aF)(X:Fr)(Z:U)(g:iZ.g (fun M a aA bE b bD c Z=>∃ n,iZ.t Y n M a aA bE b bD c Z) X Z):den prog E (a6 aO [W,W,W,aJ,W,aJ]) (aV.inBlock 4 (aV.then (kD.g Y) (bC E [.tmp 2] Y))) X Z:=by
 obtain⟨M,a,aA,d,g⟩:=b2 g
 obtain⟨bE,b,bD,e,g⟩:=b2 g
 obtain⟨c,f,g⟩:=bT g
 obtain⟨n,g⟩:=g
 refine fF (fun n=>iZ.g (iZ.t Y n)) (K:=(a6 aO [W,W,W,aJ,W,aJ,aJ])) (by kernel_rfl) (fun X Z g=>?_) (fun n=>tW.ok Y (iZ.t Y n)) n X Z (bL d (bL e (b0 f (g))))
 obtain⟨M,a,aA,d,g⟩:=b2 g
 obtain⟨bE,b,bD,e,g⟩:=b2 g
 obtain⟨c,f,g⟩:=bT g
 exact g
theorem PX.ok(Y:aF)(X:Fr)(Z:U)(g:iZ.g (fun M a aA bE b bD c Z=>∃ n,iZ.t Y n M a aA bE b bD c Z) X Z):den prog E (a6 aO [W,W,W,aJ,W]) (aV.then (kD.g Y) (bC E [.tmp 2] Y)) X Z:=
 e3 (by kernel_rfl) (iZ.ok Y X Z g)
def uA.t(Y:aF)(M:S)(a aA:Nat)(bE:S)(b bD:Nat)(Z:U):Prop:=
 (∃ n,iZ.t Y n M a aA bE b bD 0 Z)
def uA.g(Y:aF)(X:Fr)(Z:U):Prop:=aR (X 0) fun M a aA=>aR (X 5) fun bE b bD=>uA.t Y M a aA bE b bD Z
theorem uA.ok(Y:aF)(X:Fr)(Z:U)(g:uA.g Y X Z):den prog E (a6 aO [W,W,W,aJ]) (aV.then (kD.g Y) (bC E [.tmp 2] Y)) X Z:=
 bF g fun M a aA b g=>bF g fun bE c bD d g=>c5 1 (r:=(a6 aO [W,W,W,aJ,W])) (by kernel_rfl) (PX.ok Y) (bV [(0,.slice M a aA),(5,.slice bE c bD)] ⟨b,d,trivial⟩ (by kernel_rfl) g)
theorem PY.ok(Y:aF)(X:Fr)(Z:U)(g:uA.g Y X Z):den prog E (a6 aO [W,W,W]) (bC E [.tmp 2] Y) X Z:=
 fP (by kernel_rfl) (PS.ok Y) (uA.ok Y X Z g)
def a5.t(Y:aF)(M:S)(a aA:Nat)(Z:U):Prop:=
 uA.t Y M a aA none 0 0 Z
def a5.g(Y:aF)(X:Fr)(Z:U):Prop:=aR (X 0) fun M a aA=>a5.t Y M a aA Z
theorem a5.ok(Y:aF)(X:Fr)(Z:U)(g:a5.g Y X Z):den prog E (a6 aO [W,W]) (bC E [.tmp 2] Y) X Z:=
 bF g fun M a aA b g=>c5 1 (r:=(a6 aO [W,W,W])) (by kernel_rfl) (PY.ok Y) (bV [(0,.slice M a aA)] ⟨b,trivial⟩ (by kernel_rfl) g)
def jZ.g(bP:S→Nat→Nat→Int→U→Prop)(X:Fr)(Z:U):Prop:=aR (X 0) fun M a aA=>a0 .i64 (X 3) fun b=>bP M a aA b Z
def pL.t(Y:aF)(a:S→Nat→Nat→Int→U→Prop)(M:S)(b aA:Nat)(c:Int)(Z:U):Prop:=
 bB (IntKind.i64.wrap (c+1)) fun c=>a M b aA c Z
def pL.g(Y:aF)(a:S→Nat→Nat→Int→U→Prop)(X:Fr)(Z:U):Prop:=aR (X 0) fun M b aA=>a0 .i64 (X 3) fun c=>pL.t Y a M b aA c Z
theorem pL.ok(Y:aF)(a:S→Nat→Nat→Int→U→Prop)(X:Fr)(Z:U)(g:pL.g Y a X Z):den prog E (a6 aO [W,aJ,W,aJ,aJ,W,W]) (aV.then (jZ.g a) (aV.inBlock 0 (aV.then (a5.g Y) (bC E [.tmp 2] Y)))) X Z:=
 bF g fun M a aA b g=>bJ g fun c d g=>bV [(0,.slice M a aA),(3,.int .i64 c)] ⟨b,d,trivial⟩ (by kernel_rfl) g
def mQ.g(bP:S→Nat→Nat→Int→Int→U→Prop)(X:Fr)(Z:U):Prop:=aR (X 0) fun M a aA=>a0 .i64 (X 3) fun b=>a0 .i64 (X 4) fun c=>bP M a aA b c Z
def uB.t(Y:aF)(a:S→Nat→Nat→Int→U→Prop)(b:S→Nat→Nat→Int→Int→U→Prop)(M:S)(c aA:Nat)(d e:Int)(Z:U):Prop:=
 c6 M c d 1 fun f=>
 dQ Z f fun f f g=>
 cond (decide (e < (((f:Nat):Int)))) (c6 M c d 1 fun f=>
 dQ Z f fun f g h=>
 h9 pJ.id #[.int .i64 d,.int .i64 e] Z fun h=>
 a0 .u64 h fun h=>
 c6 f g e 1 fun f=>
 cM Z f (.int .u64 h) fun f=>
 bB (IntKind.i64.wrap (e+1)) fun e=>
 b M c aA d e f) (pL.t Y a M c aA d Z)
def uB.g(Y:aF)(a:S→Nat→Nat→Int→U→Prop)(b:S→Nat→Nat→Int→Int→U→Prop)(X:Fr)(Z:U):Prop:=aR (X 0) fun M c aA=>a0 .i64 (X 3) fun d=>a0 .i64 (X 4) fun e=>uB.t Y a b M c aA d e Z
theorem uB.ok(Y:aF)(a:S→Nat→Nat→Int→U→Prop)(b:S→Nat→Nat→Int→Int→U→Prop)(X:Fr)(Z:U)(g:uB.g Y a b X Z):den prog E (a6 aO [W,aJ,W,aJ,aJ,W,aJ,aJ,W,aJ,aJ]) (aV.then (mQ.g b) (aV.inBlock 2 (aV.inBlock 1 (aV.then (pL.g Y a) (aV.then (jZ.g a) (aV.inBlock 0 (aV.then (a5.g Y) (bC E [.tmp 2] Y)))))))) X Z:=
 bF g fun M a aA b g=>bJ g fun c d g=>bJ g fun e f g=>bV [(0,.slice M a aA),(3,.int .i64 c),(4,.int .i64 e)] ⟨b,d,f,trivial⟩ (by kernel_rfl) g
def mQ.t(Y:aF)(a:S→Nat→Nat→Int→U→Prop):Nat→S→Nat→Nat→Int→Int→U→Prop
 | 0=>fun _ _ _ _ _ _=>False
 | n+1=>fun M b aA c d Z=>uB.t Y a (mQ.t Y a n) M b aA c d Z
theorem mQ.ok(Y:aF)(a:S→Nat→Nat→Int→U→Prop)(X:Fr)(Z:U)(g:mQ.g (fun M b aA c d Z=>∃ n,mQ.t Y a n M b aA c d Z) X Z):den prog E (a6 aO [W,aJ,W,aJ,aJ,W,aJ,aJ,W,aJ]) (aV.inBlock 2 (aV.inBlock 1 (aV.then (pL.g Y a) (aV.then (jZ.g a) (aV.inBlock 0 (aV.then (a5.g Y) (bC E [.tmp 2] Y))))))) X Z:=by
 obtain⟨M,b,aA,e,g⟩:=b2 g
 obtain⟨c,f,g⟩:=bT g
 obtain⟨d,h,g⟩:=bT g
 obtain⟨n,g⟩:=g
 refine fF (fun n=>mQ.g (mQ.t Y a n)) (K:=(a6 aO [W,aJ,W,aJ,aJ,W,aJ,aJ,W,aJ,aJ])) (by kernel_rfl) (fun X Z g=>?_) (fun n=>uB.ok Y a (mQ.t Y a n)) n X Z (bL e (b0 f (b0 h (g))))
 obtain⟨M,b,aA,e,g⟩:=b2 g
 obtain⟨c,f,g⟩:=bT g
 obtain⟨d,h,g⟩:=bT g
 exact g
theorem PZ.ok(Y:aF)(a:S→Nat→Nat→Int→U→Prop)(X:Fr)(Z:U)(g:mQ.g (fun M b aA c d Z=>∃ n,mQ.t Y a n M b aA c d Z) X Z):den prog E (a6 aO [W,aJ,W,aJ,aJ,W,aJ,aJ,W]) (aV.inBlock 1 (aV.then (pL.g Y a) (aV.then (jZ.g a) (aV.inBlock 0 (aV.then (a5.g Y) (bC E [.tmp 2] Y)))))) X Z:=
 e3 (by kernel_rfl) (mQ.ok Y a X Z g)
def r7.t(Y:aF)(a:S→Nat→Nat→Int→U→Prop)(M:S)(b aA:Nat)(c:Int)(Z:U):Prop:=
 (∃ n,mQ.t Y a n M b aA c 0 Z)
def r7.g(Y:aF)(a:S→Nat→Nat→Int→U→Prop)(X:Fr)(Z:U):Prop:=aR (X 0) fun M b aA=>a0 .i64 (X 3) fun c=>r7.t Y a M b aA c Z
theorem r7.ok(Y:aF)(a:S→Nat→Nat→Int→U→Prop)(X:Fr)(Z:U)(g:r7.g Y a X Z):den prog E (a6 aO [W,aJ,W,aJ,aJ,W,aJ,aJ]) (aV.inBlock 1 (aV.then (pL.g Y a) (aV.then (jZ.g a) (aV.inBlock 0 (aV.then (a5.g Y) (bC E [.tmp 2] Y)))))) X Z:=
 bF g fun M b aA c g=>bJ g fun d e g=>c5 1 (r:=(a6 aO [W,aJ,W,aJ,aJ,W,aJ,aJ,W])) (by kernel_rfl) (PZ.ok Y a) (bV [(0,.slice M b aA),(3,.int .i64 d)] ⟨c,e,trivial⟩ (by kernel_rfl) g)
theorem P0.ok(Y:aF)(a:S→Nat→Nat→Int→U→Prop)(X:Fr)(Z:U)(g:r7.g Y a X Z):den prog E (a6 aO [W,aJ,W,aJ,aJ,W,aJ]) (aV.then (pL.g Y a) (aV.then (jZ.g a) (aV.inBlock 0 (aV.then (a5.g Y) (bC E [.tmp 2] Y))))) X Z:=
 e3 (by kernel_rfl) (r7.ok Y a X Z g)
theorem P1.ok(Y:aF)(a:S→Nat→Nat→Int→U→Prop)(X:Fr)(Z:U)(g:r7.g Y a X Z):den prog E (a6 aO [W,aJ,W,aJ,aJ,W]) (aV.then (jZ.g a) (aV.inBlock 0 (aV.then (a5.g Y) (bC E [.tmp 2] Y)))) X Z:=
 fP (by kernel_rfl) (pL.ok Y a) (P0.ok Y a X Z g)
def tZ.t(Y:aF)(a:S→Nat→Nat→Int→U→Prop)(M:S)(b aA:Nat)(c:Int)(Z:U):Prop:=
 cond (decide (c < (((b:Nat):Int)))) (r7.t Y a M b aA c Z) (a5.t Y M b aA Z)
def tZ.g(Y:aF)(a:S→Nat→Nat→Int→U→Prop)(X:Fr)(Z:U):Prop:=aR (X 0) fun M b aA=>a0 .i64 (X 3) fun c=>tZ.t Y a M b aA c Z
theorem tZ.ok(Y:aF)(a:S→Nat→Nat→Int→U→Prop)(X:Fr)(Z:U)(g:tZ.g Y a X Z):den prog E (a6 aO [W,aJ,W,aJ,aJ]) (aV.then (jZ.g a) (aV.inBlock 0 (aV.then (a5.g Y) (bC E [.tmp 2] Y)))) X Z:=
 bF g fun M b aA c g=>bJ g fun d e g=>c5 1 (r:=(a6 aO [W,aJ,W,aJ,aJ,W])) (by kernel_rfl) (P1.ok Y a) (bV [(0,.slice M b aA),(3,.int .i64 d)] ⟨c,e,trivial⟩ (by kernel_rfl) g)
def jZ.t(Y:aF):Nat→S→Nat→Nat→Int→U→Prop
 | 0=>fun _ _ _ _ _=>False
 | n+1=>fun M a aA b Z=>tZ.t Y (jZ.t Y n) M a aA b Z
theorem jZ.ok(Y:aF)(X:Fr)(Z:U)(g:jZ.g (fun M a aA b Z=>∃ n,jZ.t Y n M a aA b Z) X Z):den prog E (a6 aO [W,aJ,W,aJ]) (aV.inBlock 0 (aV.then (a5.g Y) (bC E [.tmp 2] Y))) X Z:=by
 obtain⟨M,a,aA,c,g⟩:=b2 g
 obtain⟨b,d,g⟩:=bT g
 obtain⟨n,g⟩:=g
 refine fF (fun n=>jZ.g (jZ.t Y n)) (K:=(a6 aO [W,aJ,W,aJ,aJ])) (by kernel_rfl) (fun X Z g=>?_) (fun n=>tZ.ok Y (jZ.t Y n)) n X Z (bL c (b0 d (g)))
 obtain⟨M,a,aA,c,g⟩:=b2 g
 obtain⟨b,d,g⟩:=bT g
 exact g
theorem P2.ok(Y:aF)(X:Fr)(Z:U)(g:jZ.g (fun M a aA b Z=>∃ n,jZ.t Y n M a aA b Z) X Z):den prog E (a6 aO [W,aJ,W]) (aV.then (a5.g Y) (bC E [.tmp 2] Y)) X Z:=
 e3 (by kernel_rfl) (jZ.ok Y X Z g)
def uC.t(Y:aF)(M:S)(a aA:Nat)(Z:U):Prop:=
 (∃ n,jZ.t Y n M a aA 0 Z)
def uC.g(Y:aF)(X:Fr)(Z:U):Prop:=aR (X 0) fun M a aA=>uC.t Y M a aA Z
theorem uC.ok(Y:aF)(X:Fr)(Z:U)(g:uC.g Y X Z):den prog E (a6 aO [W,aJ]) (aV.then (a5.g Y) (bC E [.tmp 2] Y)) X Z:=
 bF g fun M a aA b g=>c5 1 (r:=(a6 aO [W,aJ,W])) (by kernel_rfl) (P2.ok Y) (bV [(0,.slice M a aA)] ⟨b,trivial⟩ (by kernel_rfl) g)
theorem P3.ok(Y:aF)(X:Fr)(Z:U)(g:uC.g Y X Z):den prog E (a6 aO [W]) (bC E [.tmp 2] Y) X Z:=
 fP (by kernel_rfl) (a5.ok Y) (uC.ok Y X Z g)
def aP.t(Y:aF)(M:S)(a aA:Nat)(Z:U):Prop:=
 uC.t Y M a aA Z
def aP.g(Y:aF)(X:Fr)(Z:U):Prop:=aR (X 0) fun M a aA=>aP.t Y M a aA Z
theorem aP.ok(Y:aF)(X:Fr)(Z:U)(g:aP.g Y X Z):den prog E aO (bC E [.tmp 2] Y) X Z:=
 bF g fun M a aA b g=>c5 1 (r:=(a6 aO [W])) (by kernel_rfl) (P3.ok Y) (bV [(0,.slice M a aA)] ⟨b,trivial⟩ (by kernel_rfl) g)
def t(M:S)(a aA:Nat)(Z:U)(Y:aF):Prop:=aP.t Y M a aA Z
theorem ok{M:S}{a:Nat}{aA:Nat}{Z:U}{Y:aF}(g:t M a aA Z Y):a4 id #[.slice M a aA] Z Y:=
 eD dT (c:=aO) (dH:=[.tmp 2]) Tryz.func20 (by kernel_rfl) (by kernel_rfl) (by kernel_rfl) (args:=[.slice M a aA]) (by kernel_rfl) (aP.ok Y _ Z (bL rfl (g)))
end eY
namespace v8
noncomputable def aO:Code:=dY Tryz.f21
def aP.t(Y:aF)(aY aS a:Int)(Z:U):Prop:=
 a4 gN.id #[.int .u64 aY] Z fun b c=>
 aR b fun b d e=>
 a4 gE.id #[.bool false,.slice b d e] c fun b c=>
 eQ b fun b=>
 fT b fun b d=>
 cU d fun d e f g=>
 b9 g <| a4 oS.id #[.agg #[.bool b,.slice d e f],.int .i64 aS,.int .i64 a] c fun b c=>
 cW b fun b=>
 cV b fun b d=>
 eQ b fun b=>
 fT b fun b e=>
 cU e fun e f g h=>
 b9 h <| cV d fun d h=>
 eQ d fun d=>
 fT d fun d i=>
 cU i fun i j k l=>
 b9 l <| b9 h <| dX c 82 iI.a9 fun c h=>
 dX h 82 iI.a9 fun h l=>
 cM l (c.add 0) (.bool b) fun b=>
 cM b (c.add 1) (.slice e f g) fun b=>
 cM b (h.add 0) (.bool d) fun b=>
 cM b (h.add 1) (.slice i j k) fun b=>
 eT b (c.add 0) fun d=>
 dQ b (c.add 1) fun e f g=>
 a4 lD.id #[.agg #[.bool d,.slice e f g]] b fun b d=>
 a0 .i64 b fun b=>
 cond (b != 0) (dQ d (h.add 1) fun b e f=>
 dQ d (c.add 1) fun c g i=>
 Y (.tuple #[.slice b e f,.slice c g i]) d) (bB (IntKind.i64.wrap (a+1)) fun a=>
 a4 pF.id #[.int .i64 a] d fun a b=>
 aR a fun a c d=>
 a4 lK.id #[.slice a c d,.int .i64 2] b fun a b=>
 aR a fun a c d=>
 dQ b (h.add 1) fun e f g=>
 a4 hE.id #[.slice a c d,.slice e f g] b fun a b=>
 aR a fun a c d=>
 a4 gN.id #[.int .u64 1] b fun b e=>
 aR b fun b f g=>
 Y (.tuple #[.slice a c d,.slice b f g]) e)
def aP.g(Y:aF)(X:Fr)(Z:U):Prop:=a0 .u64 (X 0) fun aY=>a0 .i64 (X 1) fun aS=>a0 .i64 (X 2) fun a=>aP.t Y aY aS a Z
theorem aP.ok(Y:aF)(X:Fr)(Z:U)(g:aP.g Y X Z):den prog E aO (bC E [.tmp 6,.tmp 7] Y) X Z:=
 bJ g fun aY a g=>bJ g fun aS b g=>bJ g fun c d g=>bV [(0,.int .u64 aY),(1,.int .i64 aS),(2,.int .i64 c)] ⟨a,b,d,trivial⟩ (by kernel_rfl) g
def t(aY aS a:Int)(Z:U)(Y:aF):Prop:=aP.t Y aY aS a Z
theorem ok{aY:Int}{aS:Int}{a:Int}{Z:U}{Y:aF}(g:t aY aS a Z Y):a4 id #[.int .u64 aY,.int .i64 aS,.int .i64 a] Z Y:=
 eD dT (c:=aO) (dH:=[.tmp 6,.tmp 7]) Tryz.func21 (by kernel_rfl) (by kernel_rfl) (by kernel_rfl) (args:=[.int .u64 aY,.int .i64 aS,.int .i64 a]) (by kernel_rfl) (aP.ok Y _ Z (b0 rfl (b0 rfl (b0 rfl (g)))))
end v8
namespace k7
noncomputable def aO:Code:=dY Tryz.f22
def a5.t(Y:aF)(eI:S)(fY eN:Nat)(Z:U):Prop:=
 Y (.slice eI fY eN) Z
def a5.g(Y:aF)(X:Fr)(Z:U):Prop:=aR (X 4) fun eI fY eN=>a5.t Y eI fY eN Z
theorem a5.ok(Y:aF)(X:Fr)(Z:U)(g:a5.g Y X Z):den prog E (a6 aO [W,W,W,W]) (bC E [.tmp 2] Y) X Z:=
 bF g fun eI fY eN a g=>bV [(4,.slice eI fY eN)] ⟨a,trivial⟩ (by kernel_rfl) g
def bU.g(bP:S→Nat→Nat→S→Nat→Nat→Int→U→Prop)(X:Fr)(Z:U):Prop:=aR (X 3) fun c9 eE cZ=>aR (X 4) fun eI fY eN=>a0 .i64 (X 5) fun a=>bP c9 eE cZ eI fY eN a Z
def cH.t(Y:aF)(a:S→Nat→Nat→S→Nat→Nat→Int→U→Prop)(c9:S)(eE cZ:Nat)(eI:S)(fY eN:Nat)(b:Int)(Z:U):Prop:=
 cond (decide (b < (((eE:Nat):Int)))) (c6 c9 eE b 1 fun c=>
 eO Z .u32 c fun c=>
 bB (IntKind.u64.wrap c) fun c=>
 bB (IntKind.i64.wrap (b+1)) fun d=>
 cond (decide (d < (((eE:Nat):Int)))) (bB (IntKind.i64.wrap (b+1)) fun d=>
 c6 c9 eE d 1 fun d=>
 eO Z .u32 d fun d=>
 bB (IntKind.u64.wrap d) fun d=>
 0≤(32:Int)∧bB (iQ .u64 d 32) fun d=>
 bB (IntKind.u64.wrap (c+d)) fun d=>
 dX Z 35 [.int .u64 d] fun d e=>
 g3 e 35 j6 eI fY eN (.slice (some d) 1 1) fun d e f g=>
 bB (IntKind.i64.wrap (b+2)) fun h=>
 a c9 eE cZ d e f h g) (dX Z 35 [.int .u64 c] fun c d=>
 g3 d 35 j6 eI fY eN (.slice (some c) 1 1) fun c d e f=>
 bB (IntKind.i64.wrap (b+2)) fun b=>
 a c9 eE cZ c d e b f)) (a5.t Y eI fY eN Z)
def cH.g(Y:aF)(a:S→Nat→Nat→S→Nat→Nat→Int→U→Prop)(X:Fr)(Z:U):Prop:=aR (X 3) fun c9 eE cZ=>aR (X 4) fun eI fY eN=>a0 .i64 (X 5) fun b=>cH.t Y a c9 eE cZ eI fY eN b Z
theorem cH.ok(Y:aF)(a:S→Nat→Nat→S→Nat→Nat→Int→U→Prop)(X:Fr)(Z:U)(g:cH.g Y a X Z):den prog E (a6 aO [W,W,W,aJ,W,aJ,aJ]) (aV.then (bU.g a) (aV.inBlock 0 (aV.then (a5.g Y) (bC E [.tmp 2] Y)))) X Z:=
 bF g fun c9 eE cZ a g=>bF g fun eI fY eN b g=>bJ g fun c d g=>bV [(3,.slice c9 eE cZ),(4,.slice eI fY eN),(5,.int .i64 c)] ⟨a,b,d,trivial⟩ (by kernel_rfl) g
def bU.t(Y:aF):Nat→S→Nat→Nat→S→Nat→Nat→Int→U→Prop
 | 0=>fun _ _ _ _ _ _ _ _=>False
 | n+1=>fun c9 eE cZ eI fY eN a Z=>cH.t Y (bU.t Y n) c9 eE cZ eI fY eN a Z
theorem bU.ok(Y:aF)(X:Fr)(Z:U)(g:bU.g (fun c9 eE cZ eI fY eN a Z=>∃ n,bU.t Y n c9 eE cZ eI fY eN a Z) X Z):den prog E (a6 aO [W,W,W,aJ,W,aJ]) (aV.inBlock 0 (aV.then (a5.g Y) (bC E [.tmp 2] Y))) X Z:=by
 obtain⟨c9,eE,cZ,b,g⟩:=b2 g
 obtain⟨eI,fY,eN,c,g⟩:=b2 g
 obtain⟨a,d,g⟩:=bT g
 obtain⟨n,g⟩:=g
 refine fF (fun n=>bU.g (bU.t Y n)) (K:=(a6 aO [W,W,W,aJ,W,aJ,aJ])) (by kernel_rfl) (fun X Z g=>?_) (fun n=>cH.ok Y (bU.t Y n)) n X Z (bL b (bL c (b0 d (g))))
 obtain⟨c9,eE,cZ,b,g⟩:=b2 g
 obtain⟨eI,fY,eN,c,g⟩:=b2 g
 obtain⟨a,d,g⟩:=bT g
 exact g
theorem hM.ok(Y:aF)(X:Fr)(Z:U)(g:bU.g (fun c9 eE cZ eI fY eN a Z=>∃ n,bU.t Y n c9 eE cZ eI fY eN a Z) X Z):den prog E (a6 aO [W,W,W,aJ,W]) (aV.then (a5.g Y) (bC E [.tmp 2] Y)) X Z:=
 e3 (by kernel_rfl) (bU.ok Y X Z g)
def bM.t(Y:aF)(c9:S)(eE cZ:Nat)(eI:S)(fY eN:Nat)(Z:U):Prop:=
 (∃ n,bU.t Y n c9 eE cZ eI fY eN 0 Z)
def bM.g(Y:aF)(X:Fr)(Z:U):Prop:=aR (X 3) fun c9 eE cZ=>aR (X 4) fun eI fY eN=>bM.t Y c9 eE cZ eI fY eN Z
theorem bM.ok(Y:aF)(X:Fr)(Z:U)(g:bM.g Y X Z):den prog E (a6 aO [W,W,W,aJ]) (aV.then (a5.g Y) (bC E [.tmp 2] Y)) X Z:=
 bF g fun c9 eE cZ a g=>bF g fun eI fY eN b g=>c5 1 (r:=(a6 aO [W,W,W,aJ,W])) (by kernel_rfl) (hM.ok Y) (bV [(3,.slice c9 eE cZ),(4,.slice eI fY eN)] ⟨a,b,trivial⟩ (by kernel_rfl) g)
theorem hN.ok(Y:aF)(X:Fr)(Z:U)(g:bM.g Y X Z):den prog E (a6 aO [W,W,W]) (bC E [.tmp 2] Y) X Z:=
 fP (by kernel_rfl) (a5.ok Y) (bM.ok Y X Z g)
def aP.t(Y:aF)(M:S)(a aA:Nat)(Z:U):Prop:=
 a4 g6.id #[.slice M a aA] Z fun a b=>
 aR a fun a c d=>
 (2:Int) ≠ 0∧bB (IntKind.i64.wrap (Int.tdiv (((c:Nat):Int)) 2)) fun e=>
 bB (IntKind.i64.wrap (e+1)) fun e=>
 iS b 35 j6 0 e fun b f=>
 bM.t Y a c d (some b) ((0:Int).toNat) e.toNat f
def aP.g(Y:aF)(X:Fr)(Z:U):Prop:=aR (X 0) fun M a aA=>aP.t Y M a aA Z
theorem aP.ok(Y:aF)(X:Fr)(Z:U)(g:aP.g Y X Z):den prog E aO (bC E [.tmp 2] Y) X Z:=
 bF g fun M a aA b g=>c5 3 (r:=(a6 aO [W,W,W])) (by kernel_rfl) (hN.ok Y) (bV [(0,.slice M a aA)] ⟨b,trivial⟩ (by kernel_rfl) g)
def t(M:S)(a aA:Nat)(Z:U)(Y:aF):Prop:=aP.t Y M a aA Z
theorem ok{M:S}{a:Nat}{aA:Nat}{Z:U}{Y:aF}(g:t M a aA Z Y):a4 id #[.slice M a aA] Z Y:=
 eD dT (c:=aO) (dH:=[.tmp 2]) Tryz.func22 (by kernel_rfl) (by kernel_rfl) (by kernel_rfl) (args:=[.slice M a aA]) (by kernel_rfl) (aP.ok Y _ Z (bL rfl (g)))
end k7
namespace jN
noncomputable def aO:Code:=dY Tryz.f23
def a5.t(Y:aF)(Z:U):Prop:=
 Y (.int .i64 0) Z
def a5.g(Y:aF)(X:Fr)(Z:U):Prop:=a5.t Y  Z
theorem a5.ok(Y:aF)(X:Fr)(Z:U)(g:a5.g Y X Z):den prog E (a6 aO [W,W,W]) (bC E [.tmp 4] Y) X Z:=
 bV [] trivial (by kernel_rfl) g
def bU.g(bP:S→Nat→Nat→S→Nat→Nat→Int→U→Prop)(X:Fr)(Z:U):Prop:=aR (X 0) fun M a aA=>aR (X 1) fun aM aL aK=>a0 .i64 (X 5) fun b=>bP M a aA aM aL aK b Z
def cH.t(Y:aF)(a:S→Nat→Nat→S→Nat→Nat→Int→U→Prop)(M:S)(b aA:Nat)(aM:S)(aL aK:Nat)(c:Int)(Z:U):Prop:=
 cond (decide (c≥0)) (c6 M b c 1 fun e7=>
 eO Z .u32 e7 fun d=>
 c6 aM aL c 1 fun e=>
 eO Z .u32 e fun e=>
 cond (decide (d < e)) (Y (.int .i64 (-1)) Z) (c6 M b c 1 fun d=>
 eO Z .u32 d fun d=>
 c6 aM aL c 1 fun e=>
 eO Z .u32 e fun e=>
 cond (decide (d > e)) (Y (.int .i64 1) Z) (bB (IntKind.i64.wrap (c - 1)) fun c=>
 a M b aA aM aL aK c Z))) (a5.t Y Z)
def cH.g(Y:aF)(a:S→Nat→Nat→S→Nat→Nat→Int→U→Prop)(X:Fr)(Z:U):Prop:=aR (X 0) fun M b aA=>aR (X 1) fun aM aL aK=>a0 .i64 (X 5) fun c=>cH.t Y a M b aA aM aL aK c Z
theorem cH.ok(Y:aF)(a:S→Nat→Nat→S→Nat→Nat→Int→U→Prop)(X:Fr)(Z:U)(g:cH.g Y a X Z):den prog E (a6 aO [W,W,aJ,W,aJ,aJ]) (aV.then (bU.g a) (aV.inBlock 0 (aV.then (a5.g Y) (bC E [.tmp 4] Y)))) X Z:=
 bF g fun M a aA b g=>bF g fun aM aL aK c g=>bJ g fun d e g=>bV [(0,.slice M a aA),(1,.slice aM aL aK),(5,.int .i64 d)] ⟨b,c,e,trivial⟩ (by kernel_rfl) g
def bU.t(Y:aF):Nat→S→Nat→Nat→S→Nat→Nat→Int→U→Prop
 | 0=>fun _ _ _ _ _ _ _ _=>False
 | n+1=>fun M a aA aM aL aK b Z=>cH.t Y (bU.t Y n) M a aA aM aL aK b Z
theorem bU.ok(Y:aF)(X:Fr)(Z:U)(g:bU.g (fun M a aA aM aL aK b Z=>∃ n,bU.t Y n M a aA aM aL aK b Z) X Z):den prog E (a6 aO [W,W,aJ,W,aJ]) (aV.inBlock 0 (aV.then (a5.g Y) (bC E [.tmp 4] Y))) X Z:=by
 obtain⟨M,a,aA,c,g⟩:=b2 g
 obtain⟨aM,aL,aK,d,g⟩:=b2 g
 obtain⟨b,e,g⟩:=bT g
 obtain⟨n,g⟩:=g
 refine fF (fun n=>bU.g (bU.t Y n)) (K:=(a6 aO [W,W,aJ,W,aJ,aJ])) (by kernel_rfl) (fun X Z g=>?_) (fun n=>cH.ok Y (bU.t Y n)) n X Z (bL c (bL d (b0 e (g))))
 obtain⟨M,a,aA,c,g⟩:=b2 g
 obtain⟨aM,aL,aK,d,g⟩:=b2 g
 obtain⟨b,e,g⟩:=bT g
 exact g
theorem hM.ok(Y:aF)(X:Fr)(Z:U)(g:bU.g (fun M a aA aM aL aK b Z=>∃ n,bU.t Y n M a aA aM aL aK b Z) X Z):den prog E (a6 aO [W,W,aJ,W]) (aV.then (a5.g Y) (bC E [.tmp 4] Y)) X Z:=
 e3 (by kernel_rfl) (bU.ok Y X Z g)
def bM.t(Y:aF)(M:S)(a aA:Nat)(aM:S)(aL aK:Nat)(Z:U):Prop:=
 bB (IntKind.i64.wrap ((((a:Nat):Int)) - 1)) fun eF=>(∃ n,bU.t Y n M a aA aM aL aK eF Z)
def bM.g(Y:aF)(X:Fr)(Z:U):Prop:=aR (X 0) fun M a aA=>aR (X 1) fun aM aL aK=>bM.t Y M a aA aM aL aK Z
theorem bM.ok(Y:aF)(X:Fr)(Z:U)(g:bM.g Y X Z):den prog E (a6 aO [W,W,aJ]) (aV.then (a5.g Y) (bC E [.tmp 4] Y)) X Z:=
 bF g fun M a aA b g=>bF g fun aM aL aK c g=>c5 1 (r:=(a6 aO [W,W,aJ,W])) (by kernel_rfl) (hM.ok Y) (bV [(0,.slice M a aA),(1,.slice aM aL aK)] ⟨b,c,trivial⟩ (by kernel_rfl) g)
theorem hN.ok(Y:aF)(X:Fr)(Z:U)(g:bM.g Y X Z):den prog E (a6 aO [W,W]) (bC E [.tmp 4] Y) X Z:=
 fP (by kernel_rfl) (a5.ok Y) (bM.ok Y X Z g)
def aP.t(Y:aF)(M:S)(a aA:Nat)(aM:S)(aL aK:Nat)(Z:U):Prop:=
 cond ((((a:Nat):Int)) != (((aL:Nat):Int))) (cond (decide ((((a:Nat):Int)) < (((aL:Nat):Int)))) (Y (.int .i64 (-1)) Z) (Y (.int .i64 1) Z)) (bM.t Y M a aA aM aL aK Z)
def aP.g(Y:aF)(X:Fr)(Z:U):Prop:=aR (X 0) fun M a aA=>aR (X 1) fun aM aL aK=>aP.t Y M a aA aM aL aK Z
theorem aP.ok(Y:aF)(X:Fr)(Z:U)(g:aP.g Y X Z):den prog E aO (bC E [.tmp 4] Y) X Z:=
 bF g fun M a aA b g=>bF g fun aM aL aK c g=>c5 2 (r:=(a6 aO [W,W])) (by kernel_rfl) (hN.ok Y) (bV [(0,.slice M a aA),(1,.slice aM aL aK)] ⟨b,c,trivial⟩ (by kernel_rfl) g)
def t(M:S)(a aA:Nat)(aM:S)(aL aK:Nat)(Z:U)(Y:aF):Prop:=aP.t Y M a aA aM aL aK Z
theorem ok{M:S}{a:Nat}{aA:Nat}{aM:S}{aL:Nat}{aK:Nat}{Z:U}{Y:aF}(g:t M a aA aM aL aK Z Y):a4 id #[.slice M a aA,.slice aM aL aK] Z Y:=
 eD dT (c:=aO) (dH:=[.tmp 4]) Tryz.func23 (by kernel_rfl) (by kernel_rfl) (by kernel_rfl) (args:=[.slice M a aA,.slice aM aL aK]) (by kernel_rfl) (aP.ok Y _ Z (bL rfl (bL rfl (g))))
end jN
namespace oO
noncomputable def aO:Code:=dY Tryz.f24
def aP.t(Y:aF)(aY:Int)(Z:U):Prop:=
 a4 gN.id #[.int .u64 1] Z fun a b=>
 aR a fun a c d=>
 a4 lA.id #[.slice a c d,.int .i64 aY] b fun a b=>
 aR a fun a c d=>
 Y (.slice a c d) b
def aP.g(Y:aF)(X:Fr)(Z:U):Prop:=a0 .i64 (X 0) fun aY=>aP.t Y aY Z
theorem aP.ok(Y:aF)(X:Fr)(Z:U)(g:aP.g Y X Z):den prog E aO (bC E [.tmp 2] Y) X Z:=
 bJ g fun aY a g=>bV [(0,.int .i64 aY)] ⟨a,trivial⟩ (by kernel_rfl) g
def t(aY:Int)(Z:U)(Y:aF):Prop:=aP.t Y aY Z
theorem ok{aY:Int}{Z:U}{Y:aF}(g:t aY Z Y):a4 id #[.int .i64 aY] Z Y:=
 eD dT (c:=aO) (dH:=[.tmp 2]) Tryz.func24 (by kernel_rfl) (by kernel_rfl) (by kernel_rfl) (args:=[.int .i64 aY]) (by kernel_rfl) (aP.ok Y _ Z (b0 rfl (g)))
end oO
namespace kV
noncomputable def aO:Code:=dY Tryz.f29
def aP.t(Y:aF)(aY:Int)(Z:U):Prop:=
 cond (aY == 0) (Y (.slice none 0 0) Z) (dX Z 35 [.int .u64 aY] fun cQ a=>Y (.slice (some cQ) 1 1) a)
def aP.g(Y:aF)(X:Fr)(Z:U):Prop:=a0 .u64 (X 0) fun aY=>aP.t Y aY Z
theorem aP.ok(Y:aF)(X:Fr)(Z:U)(g:aP.g Y X Z):den prog E aO (bC E [.tmp 2] Y) X Z:=
 bJ g fun aY a g=>bV [(0,.int .u64 aY)] ⟨a,trivial⟩ (by kernel_rfl) g
def t(aY:Int)(Z:U)(Y:aF):Prop:=aP.t Y aY Z
theorem ok{aY:Int}{Z:U}{Y:aF}(g:t aY Z Y):a4 id #[.int .u64 aY] Z Y:=
 eD dT (c:=aO) (dH:=[.tmp 2]) Tryz.func29 (by kernel_rfl) (by kernel_rfl) (by kernel_rfl) (args:=[.int .u64 aY]) (by kernel_rfl) (aP.ok Y _ Z (b0 rfl (g)))
end kV
namespace uJ
noncomputable def aO:Code:=dY Tryz.f30
def aP.t(Y:aF)(M:S)(a aA:Nat)(aS:Int)(bO:S)(b3 bN:Nat)(Z:U):Prop:=
 a4 kI.id #[.slice M a aA,.int .u64 aS] Z fun a b=>
 cW a fun a=>
 cU a fun a c d e=>
 dP e .i64 fun e f=>
 b9 f <| cond (e != 0) (Y (.tuple #[.slice none 0 0,.int .i64 e]) b) (a4 jU.id #[.slice a c d,.slice bO b3 bN] b fun a b=>
 cW a fun a=>
 cU a fun a c d e=>
 dP e .i64 fun e f=>
 b9 f <| Y (.tuple #[.slice a c d,.int .i64 e]) b)
def aP.g(Y:aF)(X:Fr)(Z:U):Prop:=aR (X 0) fun M a aA=>a0 .u64 (X 1) fun aS=>aR (X 2) fun bO b3 bN=>aP.t Y M a aA aS bO b3 bN Z
theorem aP.ok(Y:aF)(X:Fr)(Z:U)(g:aP.g Y X Z):den prog E aO (bC E [.tmp 6,.tmp 7] Y) X Z:=
 bF g fun M a aA b g=>bJ g fun aS c g=>bF g fun bO b3 bN d g=>bV [(0,.slice M a aA),(1,.int .u64 aS),(2,.slice bO b3 bN)] ⟨b,c,d,trivial⟩ (by kernel_rfl) g
def t(M:S)(a aA:Nat)(aS:Int)(bO:S)(b3 bN:Nat)(Z:U)(Y:aF):Prop:=aP.t Y M a aA aS bO b3 bN Z
theorem ok{M:S}{a:Nat}{aA:Nat}{aS:Int}{bO:S}{b3:Nat}{bN:Nat}{Z:U}{Y:aF}(g:t M a aA aS bO b3 bN Z Y):a4 id #[.slice M a aA,.int .u64 aS,.slice bO b3 bN] Z Y:=
 eD dT (c:=aO) (dH:=[.tmp 6,.tmp 7]) Tryz.func30 (by kernel_rfl) (by kernel_rfl) (by kernel_rfl) (args:=[.slice M a aA,.int .u64 aS,.slice bO b3 bN]) (by kernel_rfl) (aP.ok Y _ Z (bL rfl (b0 rfl (bL rfl (g)))))
end uJ
namespace vT
noncomputable def aO:Code:=dY Tryz.f31
def aP.t(Y:aF)(aY:Int)(Z:U):Prop:=
 bB (IntKind.i64.wrap (aY+320)) fun eF=>
 a4 q1.id #[.int .i64 eF] Z fun a b=>
 cW a fun a=>
 cU a fun a c d e=>
 dP e .i64 fun e f=>
 b9 f <| Y (.tuple #[.slice a c d,.int .i64 e]) b
def aP.g(Y:aF)(X:Fr)(Z:U):Prop:=a0 .i64 (X 0) fun aY=>aP.t Y aY Z
theorem aP.ok(Y:aF)(X:Fr)(Z:U)(g:aP.g Y X Z):den prog E aO (bC E [.tmp 2,.tmp 3] Y) X Z:=
 bJ g fun aY a g=>bV [(0,.int .i64 aY)] ⟨a,trivial⟩ (by kernel_rfl) g
def t(aY:Int)(Z:U)(Y:aF):Prop:=aP.t Y aY Z
theorem ok{aY:Int}{Z:U}{Y:aF}(g:t aY Z Y):a4 id #[.int .i64 aY] Z Y:=
 eD dT (c:=aO) (dH:=[.tmp 2,.tmp 3]) Tryz.func31 (by kernel_rfl) (by kernel_rfl) (by kernel_rfl) (args:=[.int .i64 aY]) (by kernel_rfl) (aP.ok Y _ Z (b0 rfl (g)))
end vT
namespace q4
noncomputable def aO:Code:=dY Tryz.f32
def a5.t(Y:aF)(aS a:Int)(b:S)(c d:Nat)(e:S)(f g:Nat)(Z:U):Prop:=
 bB (IntKind.u64.wrap (a - aS)) fun a=>
 bB (IntKind.u64.wrap (a+1)) fun a=>
 a4 kN.id #[.agg #[.slice e f g,.slice b c d],.int .u64 a] Z fun a b=>
 cW a fun a=>
 dP a .u64 fun a c=>
 cU c fun c d e f=>
 b9 f <| bB (IntKind.u64.wrap (aS+a)) fun a=>
 Y (.tuple #[.int .u64 a,.slice c d e]) b
def a5.g(Y:aF)(X:Fr)(Z:U):Prop:=a0 .u64 (X 1) fun aS=>a0 .u64 (X 2) fun a=>aR (X 10) fun b c d=>aR (X 12) fun e f h=>a5.t Y aS a b c d e f h Z
theorem a5.ok(Y:aF)(X:Fr)(Z:U)(g:a5.g Y X Z):den prog E (a6 aO [W,W,W,W,W]) (bC E [.tmp 8,.tmp 9] Y) X Z:=
 bJ g fun aS a g=>bJ g fun b c g=>bF g fun d e f h g=>bF g fun i j k l g=>bV [(1,.int .u64 aS),(2,.int .u64 b),(10,.slice d e f),(12,.slice i j k)] ⟨a,c,h,l,trivial⟩ (by kernel_rfl) g
def aP.t(Y:aF)(M:S)(a aA:Nat)(aS b:Int)(g4:Bool)(Z:U):Prop:=
 a4 pW.id #[.slice M a aA,.int .i64 320] Z fun a c=>
 cW a fun a=>
 cU a fun a d e f=>
 dP f .i64 fun f f=>
 b9 f <| a4 kI.id #[.slice a d e,.int .u64 aS] c fun c f=>
 cW c fun c=>
 cU c fun c g h i=>
 dP i .i64 fun i i=>
 b9 i <| a4 pW.id #[.slice c g h,.int .i64 320] f fun c f=>
 cW c fun c=>
 cU c fun c g h i=>
 dP i .i64 fun i i=>
 b9 i <| cond g4 (a4 tJ.id #[.slice a d e] f fun i j=>
 aR i fun i k l=>
 a4 tJ.id #[.slice c g h] j fun j m=>
 aR j fun j n o=>
 a5.t Y aS b i k l j n o m) (a5.t Y aS b a d e c g h f)
def aP.g(Y:aF)(X:Fr)(Z:U):Prop:=aR (X 0) fun M a aA=>a0 .u64 (X 1) fun aS=>a0 .u64 (X 2) fun b=>eU (X 3) fun g4=>aP.t Y M a aA aS b g4 Z
theorem aP.ok(Y:aF)(X:Fr)(Z:U)(g:aP.g Y X Z):den prog E aO (bC E [.tmp 8,.tmp 9] Y) X Z:=
 bF g fun M a aA b g=>bJ g fun aS c g=>bJ g fun d e g=>yM g fun g4 f g=>c5 5 (r:=(a6 aO [W,W,W,W,W])) (by kernel_rfl) (a5.ok Y) (bV [(0,.slice M a aA),(1,.int .u64 aS),(2,.int .u64 d),(3,.bool g4)] ⟨b,c,e,f,trivial⟩ (by kernel_rfl) g)
def t(M:S)(a aA:Nat)(aS b:Int)(g4:Bool)(Z:U)(Y:aF):Prop:=aP.t Y M a aA aS b g4 Z
theorem ok{M:S}{a:Nat}{aA:Nat}{aS:Int}{b:Int}{g4:Bool}{Z:U}{Y:aF}(g:t M a aA aS b g4 Z Y):a4 id #[.slice M a aA,.int .u64 aS,.int .u64 b,.bool g4] Z Y:=
 eD dT (c:=aO) (dH:=[.tmp 8,.tmp 9]) Tryz.func32 (by kernel_rfl) (by kernel_rfl) (by kernel_rfl) (args:=[.slice M a aA,.int .u64 aS,.int .u64 b,.bool g4]) (by kernel_rfl) (aP.ok Y _ Z (bL rfl (b0 rfl (b0 rfl (dB rfl (g))))))
end q4
namespace nV
noncomputable def aO:Code:=dY Tryz.f33
def a5.t(Y:aF)(aS:Int)(Z:U):Prop:=
 Y (.int .u64 aS) Z
def a5.g(Y:aF)(X:Fr)(Z:U):Prop:=a0 .u64 (X 1) fun aS=>a5.t Y aS Z
theorem a5.ok(Y:aF)(X:Fr)(Z:U)(g:a5.g Y X Z):den prog E (a6 aO [W,W]) (bC E [.tmp 6] Y) X Z:=
 bJ g fun aS a g=>bV [(1,.int .u64 aS)] ⟨a,trivial⟩ (by kernel_rfl) g
def cP.g(bP:S→Nat→Nat→Int→Int→U→Prop)(X:Fr)(Z:U):Prop:=aR (X 0) fun M a aA=>a0 .u64 (X 1) fun aS=>a0 .u64 (X 2) fun b=>bP M a aA aS b Z
def cF.t(Y:aF)(a:S→Nat→Nat→Int→Int→U→Prop)(M:S)(b aA:Nat)(aS c:Int)(Z:U):Prop:=
 cond (decide (aS≤c)) (bB (IntKind.u64.wrap (c - aS)) fun eF=>
 (2:Int) ≠ 0∧bB (IntKind.u64.wrap (Int.tdiv eF 2)) fun d=>
 bB (IntKind.u64.wrap (aS+d)) fun d=>
 a4 tK.id #[.slice M b aA,.int .u64 d,.bool false] Z fun e f=>
 aR e fun e e g=>
 cond (decide ((((e:Nat):Int)) > 0)) (bB (IntKind.u64.wrap (d - 1)) fun e=>
 a M b aA aS e f) (bB (IntKind.u64.wrap (d+1)) fun d=>
 a M b aA d c f)) (a5.t Y aS Z)
def cF.g(Y:aF)(a:S→Nat→Nat→Int→Int→U→Prop)(X:Fr)(Z:U):Prop:=aR (X 0) fun M b aA=>a0 .u64 (X 1) fun aS=>a0 .u64 (X 2) fun c=>cF.t Y a M b aA aS c Z
theorem cF.ok(Y:aF)(a:S→Nat→Nat→Int→Int→U→Prop)(X:Fr)(Z:U)(g:cF.g Y a X Z):den prog E (a6 aO [W,aJ,aJ,aJ]) (aV.then (cP.g a) (aV.inBlock 0 (aV.then (a5.g Y) (bC E [.tmp 6] Y)))) X Z:=
 bF g fun M a aA b g=>bJ g fun aS c g=>bJ g fun d e g=>bV [(0,.slice M a aA),(1,.int .u64 aS),(2,.int .u64 d)] ⟨b,c,e,trivial⟩ (by kernel_rfl) g
def cP.t(Y:aF):Nat→S→Nat→Nat→Int→Int→U→Prop
 | 0=>fun _ _ _ _ _ _=>False
 | n+1=>fun M a aA aS b Z=>cF.t Y (cP.t Y n) M a aA aS b Z
theorem cP.ok(Y:aF)(X:Fr)(Z:U)(g:cP.g (fun M a aA aS b Z=>∃ n,cP.t Y n M a aA aS b Z) X Z):den prog E (a6 aO [W,aJ,aJ]) (aV.inBlock 0 (aV.then (a5.g Y) (bC E [.tmp 6] Y))) X Z:=by
 obtain⟨M,a,aA,c,g⟩:=b2 g
 obtain⟨aS,d,g⟩:=bT g
 obtain⟨b,e,g⟩:=bT g
 obtain⟨n,g⟩:=g
 refine fF (fun n=>cP.g (cP.t Y n)) (K:=(a6 aO [W,aJ,aJ,aJ])) (by kernel_rfl) (fun X Z g=>?_) (fun n=>cF.ok Y (cP.t Y n)) n X Z (bL c (b0 d (b0 e (g))))
 obtain⟨M,a,aA,c,g⟩:=b2 g
 obtain⟨aS,d,g⟩:=bT g
 obtain⟨b,e,g⟩:=bT g
 exact g
theorem hV.ok(Y:aF)(X:Fr)(Z:U)(g:cP.g (fun M a aA aS b Z=>∃ n,cP.t Y n M a aA aS b Z) X Z):den prog E (a6 aO [W,aJ]) (aV.then (a5.g Y) (bC E [.tmp 6] Y)) X Z:=
 e3 (by kernel_rfl) (cP.ok Y X Z g)
theorem sI.ok(Y:aF)(X:Fr)(Z:U)(g:cP.g (fun M a aA aS b Z=>∃ n,cP.t Y n M a aA aS b Z) X Z):den prog E (a6 aO [W]) (bC E [.tmp 6] Y) X Z:=
 fP (by kernel_rfl) (a5.ok Y) (hV.ok Y X Z g)
def aP.t(Y:aF)(M:S)(a aA:Nat)(aS b:Int)(Z:U):Prop:=
 (∃ n,cP.t Y n M a aA aS b Z)
def aP.g(Y:aF)(X:Fr)(Z:U):Prop:=aR (X 0) fun M a aA=>a0 .u64 (X 1) fun aS=>a0 .u64 (X 2) fun b=>aP.t Y M a aA aS b Z
theorem aP.ok(Y:aF)(X:Fr)(Z:U)(g:aP.g Y X Z):den prog E aO (bC E [.tmp 6] Y) X Z:=
 bF g fun M a aA b g=>bJ g fun aS c g=>bJ g fun d e g=>c5 1 (r:=(a6 aO [W])) (by kernel_rfl) (sI.ok Y) (bV [(0,.slice M a aA),(1,.int .u64 aS),(2,.int .u64 d)] ⟨b,c,e,trivial⟩ (by kernel_rfl) g)
def t(M:S)(a aA:Nat)(aS b:Int)(Z:U)(Y:aF):Prop:=aP.t Y M a aA aS b Z
theorem ok{M:S}{a:Nat}{aA:Nat}{aS:Int}{b:Int}{Z:U}{Y:aF}(g:t M a aA aS b Z Y):a4 id #[.slice M a aA,.int .u64 aS,.int .u64 b] Z Y:=
 eD dT (c:=aO) (dH:=[.tmp 6]) Tryz.func33 (by kernel_rfl) (by kernel_rfl) (by kernel_rfl) (args:=[.slice M a aA,.int .u64 aS,.int .u64 b]) (by kernel_rfl) (aP.ok Y _ Z (bL rfl (b0 rfl (b0 rfl (g)))))
end nV
namespace jO
noncomputable def aO:Code:=dY Tryz.f34
def a5.t(Y:aF)(Z:U):Prop:=
 Y (.int .i64 0) Z
def a5.g(Y:aF)(X:Fr)(Z:U):Prop:=a5.t Y  Z
theorem a5.ok(Y:aF)(X:Fr)(Z:U)(g:a5.g Y X Z):den prog E (a6 aO [W,W,W,W]) (bC E [.tmp 4] Y) X Z:=
 bV [] trivial (by kernel_rfl) g
def bU.g(bP:S→Nat→Nat→S→Nat→Nat→Int→U→Prop)(X:Fr)(Z:U):Prop:=aR (X 5) fun bE a bD=>aR (X 6) fun bG b bI=>a0 .i64 (X 7) fun c=>bP bE a bD bG b bI c Z
def cH.t(Y:aF)(a:S→Nat→Nat→S→Nat→Nat→Int→U→Prop)(bE:S)(b bD:Nat)(bG:S)(c bI:Nat)(d:Int)(Z:U):Prop:=
 cond (decide (d≥0)) (c6 bE b d 1 fun e=>
 eO Z .u64 e fun e=>
 c6 bG c d 1 fun f=>
 eO Z .u64 f fun f=>
 cond (e != f) (c6 bE b d 1 fun e=>
 eO Z .u64 e fun e=>
 c6 bG c d 1 fun f=>
 eO Z .u64 f fun f=>
 cond (decide (e < f)) (Y (.int .i64 (-1)) Z) (Y (.int .i64 1) Z)) (bB (IntKind.i64.wrap (d - 1)) fun d=>
 a bE b bD bG c bI d Z)) (a5.t Y Z)
def cH.g(Y:aF)(a:S→Nat→Nat→S→Nat→Nat→Int→U→Prop)(X:Fr)(Z:U):Prop:=aR (X 5) fun bE b bD=>aR (X 6) fun bG c bI=>a0 .i64 (X 7) fun d=>cH.t Y a bE b bD bG c bI d Z
theorem cH.ok(Y:aF)(a:S→Nat→Nat→S→Nat→Nat→Int→U→Prop)(X:Fr)(Z:U)(g:cH.g Y a X Z):den prog E (a6 aO [W,W,W,aJ,W,aJ,aJ]) (aV.then (bU.g a) (aV.inBlock 0 (aV.then (a5.g Y) (bC E [.tmp 4] Y)))) X Z:=
 bF g fun bE a bD b g=>bF g fun bG c bI d g=>bJ g fun e f g=>bV [(5,.slice bE a bD),(6,.slice bG c bI),(7,.int .i64 e)] ⟨b,d,f,trivial⟩ (by kernel_rfl) g
def bU.t(Y:aF):Nat→S→Nat→Nat→S→Nat→Nat→Int→U→Prop
 | 0=>fun _ _ _ _ _ _ _ _=>False
 | n+1=>fun bE a bD bG b bI c Z=>cH.t Y (bU.t Y n) bE a bD bG b bI c Z
theorem bU.ok(Y:aF)(X:Fr)(Z:U)(g:bU.g (fun bE a bD bG b bI c Z=>∃ n,bU.t Y n bE a bD bG b bI c Z) X Z):den prog E (a6 aO [W,W,W,aJ,W,aJ]) (aV.inBlock 0 (aV.then (a5.g Y) (bC E [.tmp 4] Y))) X Z:=by
 obtain⟨bE,a,bD,d,g⟩:=b2 g
 obtain⟨bG,b,bI,e,g⟩:=b2 g
 obtain⟨c,f,g⟩:=bT g
 obtain⟨n,g⟩:=g
 refine fF (fun n=>bU.g (bU.t Y n)) (K:=(a6 aO [W,W,W,aJ,W,aJ,aJ])) (by kernel_rfl) (fun X Z g=>?_) (fun n=>cH.ok Y (bU.t Y n)) n X Z (bL d (bL e (b0 f (g))))
 obtain⟨bE,a,bD,d,g⟩:=b2 g
 obtain⟨bG,b,bI,e,g⟩:=b2 g
 obtain⟨c,f,g⟩:=bT g
 exact g
theorem hM.ok(Y:aF)(X:Fr)(Z:U)(g:bU.g (fun bE a bD bG b bI c Z=>∃ n,bU.t Y n bE a bD bG b bI c Z) X Z):den prog E (a6 aO [W,W,W,aJ,W]) (aV.then (a5.g Y) (bC E [.tmp 4] Y)) X Z:=
 e3 (by kernel_rfl) (bU.ok Y X Z g)
def bM.t(Y:aF)(bE:S)(a bD:Nat)(bG:S)(b bI:Nat)(Z:U):Prop:=
 bB (IntKind.i64.wrap ((((a:Nat):Int)) - 1)) fun c=>(∃ n,bU.t Y n bE a bD bG b bI c Z)
def bM.g(Y:aF)(X:Fr)(Z:U):Prop:=aR (X 5) fun bE a bD=>aR (X 6) fun bG b bI=>bM.t Y bE a bD bG b bI Z
theorem bM.ok(Y:aF)(X:Fr)(Z:U)(g:bM.g Y X Z):den prog E (a6 aO [W,W,W,aJ]) (aV.then (a5.g Y) (bC E [.tmp 4] Y)) X Z:=
 bF g fun bE a bD b g=>bF g fun bG c bI d g=>c5 1 (r:=(a6 aO [W,W,W,aJ,W])) (by kernel_rfl) (hM.ok Y) (bV [(5,.slice bE a bD),(6,.slice bG c bI)] ⟨b,d,trivial⟩ (by kernel_rfl) g)
theorem hN.ok(Y:aF)(X:Fr)(Z:U)(g:bM.g Y X Z):den prog E (a6 aO [W,W,W]) (bC E [.tmp 4] Y) X Z:=
 fP (by kernel_rfl) (a5.ok Y) (bM.ok Y X Z g)
def aP.t(Y:aF)(M:S)(a aA:Nat)(aM:S)(aL aK:Nat)(Z:U):Prop:=
 a4 mW.id #[.slice M a aA] Z fun a b=>
 aR a fun a c d=>
 a4 mW.id #[.slice aM aL aK] b fun b e=>
 aR b fun b f g=>
 cond ((((c:Nat):Int)) != (((f:Nat):Int))) (cond (decide ((((c:Nat):Int)) < (((f:Nat):Int)))) (Y (.int .i64 (-1)) e) (Y (.int .i64 1) e)) (bM.t Y a c d b f g e)
def aP.g(Y:aF)(X:Fr)(Z:U):Prop:=aR (X 0) fun M a aA=>aR (X 1) fun aM aL aK=>aP.t Y M a aA aM aL aK Z
theorem aP.ok(Y:aF)(X:Fr)(Z:U)(g:aP.g Y X Z):den prog E aO (bC E [.tmp 4] Y) X Z:=
 bF g fun M a aA b g=>bF g fun aM aL aK c g=>c5 3 (r:=(a6 aO [W,W,W])) (by kernel_rfl) (hN.ok Y) (bV [(0,.slice M a aA),(1,.slice aM aL aK)] ⟨b,c,trivial⟩ (by kernel_rfl) g)
def t(M:S)(a aA:Nat)(aM:S)(aL aK:Nat)(Z:U)(Y:aF):Prop:=aP.t Y M a aA aM aL aK Z
theorem ok{M:S}{a:Nat}{aA:Nat}{aM:S}{aL:Nat}{aK:Nat}{Z:U}{Y:aF}(g:t M a aA aM aL aK Z Y):a4 id #[.slice M a aA,.slice aM aL aK] Z Y:=
 eD dT (c:=aO) (dH:=[.tmp 4]) Tryz.func34 (by kernel_rfl) (by kernel_rfl) (by kernel_rfl) (args:=[.slice M a aA,.slice aM aL aK]) (by kernel_rfl) (aP.ok Y _ Z (bL rfl (bL rfl (g))))
end jO
namespace tK
noncomputable def aO:Code:=dY Tryz.f35
def aP.t(Y:aF)(M:S)(a aA:Nat)(aS:Int)(eV:Bool)(Z:U):Prop:=
 a4 kI.id #[.slice M a aA,.int .u64 aS] Z fun a b=>
 cW a fun a=>
 cU a fun a c d e=>
 dP e .i64 fun e e=>
 b9 e <| a4 lM.id #[.slice a c d,.int .i64 320] b fun a b=>
 cW a fun a=>
 cU a fun a c d e=>
 dP e .i64 fun e e=>
 b9 e <| cond eV (a4 kV.id #[.int .u64 1] b fun e f=>
 aR e fun e g h=>
 a4 jU.id #[.slice a c d,.slice e g h] f fun e f=>
 cW e fun e=>
 cU e fun e g h i=>
 dP i .i64 fun i i=>
 b9 i <| Y (.slice e g h) f) (Y (.slice a c d) b)
def aP.g(Y:aF)(X:Fr)(Z:U):Prop:=aR (X 0) fun M a aA=>a0 .u64 (X 1) fun aS=>eU (X 2) fun eV=>aP.t Y M a aA aS eV Z
theorem aP.ok(Y:aF)(X:Fr)(Z:U)(g:aP.g Y X Z):den prog E aO (bC E [.tmp 6] Y) X Z:=
 bF g fun M a aA b g=>bJ g fun aS c g=>yM g fun eV d g=>bV [(0,.slice M a aA),(1,.int .u64 aS),(2,.bool eV)] ⟨b,c,d,trivial⟩ (by kernel_rfl) g
def t(M:S)(a aA:Nat)(aS:Int)(eV:Bool)(Z:U)(Y:aF):Prop:=aP.t Y M a aA aS eV Z
theorem ok{M:S}{a:Nat}{aA:Nat}{aS:Int}{eV:Bool}{Z:U}{Y:aF}(g:t M a aA aS eV Z Y):a4 id #[.slice M a aA,.int .u64 aS,.bool eV] Z Y:=
 eD dT (c:=aO) (dH:=[.tmp 6]) Tryz.func35 (by kernel_rfl) (by kernel_rfl) (by kernel_rfl) (args:=[.slice M a aA,.int .u64 aS,.bool eV]) (by kernel_rfl) (aP.ok Y _ Z (bL rfl (b0 rfl (dB rfl (g)))))
end tK
namespace r0
noncomputable def aO:Code:=dY Tryz.f36
def dG.g(bP:Int→Int→S→Nat→Nat→Int→U→Prop)(X:Fr)(Z:U):Prop:=a0 .u64 (X 0) fun aY=>a0 .i64 (X 1) fun aS=>aR (X 2) fun bO b3 bN=>a0 .i64 (X 7) fun a=>bP aY aS bO b3 bN a Z
def bM.t(Y:aF)(b1:Int→Int→S→Nat→Nat→Int→U→Prop)(aY aS:Int)(bO:S)(b3 bN:Nat)(a:Int)(Z:U):Prop:=
 a4 p2.id #[.int .i64 a] Z fun b c=>
 cW b fun b=>
 cU b fun b d e f=>
 dP f .i64 fun f f=>
 b9 f <| a4 rR.id #[.slice bO b3 bN,.slice b d e] c fun b c=>
 cW b fun b=>
 cU b fun b d e f=>
 dP f .i64 fun f f=>
 b9 f <| a4 jU.id #[.slice b d e,.slice bO b3 bN] c fun c f=>
 cW c fun c=>
 cU c fun c g h i=>
 dP i .i64 fun i i=>
 b9 i <| a4 kV.id #[.int .u64 aY] f fun f i=>
 aR f fun f j k=>
 bB (IntKind.i64.wrap (aS+a)) fun l=>
 bB (IntKind.i64.wrap (l+1)) fun l=>
 a4 lB.id #[.slice f j k,.int .i64 l] i fun f i=>
 cW f fun f=>
 cU f fun f j k l=>
 dP l .i64 fun l l=>
 b9 l <| a4 q5.id #[.slice f j k,.slice b d e] i fun i l=>
 aR i fun i m n=>
 a4 q5.id #[.slice f j k,.slice c g h] l fun l o=>
 aR l fun l p q=>
 cond (decide ((((m:Nat):Int)) > 0)) (cond (decide ((((p:Nat):Int)) > 0)) (a4 pS.id #[.slice i m n] o fun r s=>
 a0 .i64 r fun r=>
 a4 pS.id #[.slice l p q] s fun l p=>
 a0 .i64 l fun l=>
 cond (r == l) (a4 jO.id #[.slice f j k,.slice b d e] p fun b d=>
 a0 .i64 b fun b=>
 a4 jO.id #[.slice f j k,.slice c g h] d fun c d=>
 a0 .i64 c fun c=>
 cond (b == c) (bB (IntKind.i64.wrap (a+2)) fun b=>
 a4 pS.id #[.slice i m n] d fun c e=>
 a0 .i64 c fun c=>
 bB (IntKind.i64.wrap (b - c)) fun b=>
 Y (.int .i64 b) e) (bB (IntKind.i64.wrap (a+1400)) fun b=>
 b1 aY aS bO b3 bN b d)) (bB (IntKind.i64.wrap (a+1400)) fun b=>
 b1 aY aS bO b3 bN b p)) (bB (IntKind.i64.wrap (a+1400)) fun b=>
 b1 aY aS bO b3 bN b o)) (bB (IntKind.i64.wrap (a+1400)) fun a=>
 b1 aY aS bO b3 bN a o)
def bM.g(Y:aF)(b1:Int→Int→S→Nat→Nat→Int→U→Prop)(X:Fr)(Z:U):Prop:=a0 .u64 (X 0) fun aY=>a0 .i64 (X 1) fun aS=>aR (X 2) fun bO b3 bN=>a0 .i64 (X 7) fun a=>bM.t Y b1 aY aS bO b3 bN a Z
theorem bM.ok(Y:aF)(b1:Int→Int→S→Nat→Nat→Int→U→Prop)(X:Fr)(Z:U)(g:bM.g Y b1 X Z):den prog E (a6 aO [W,W,aJ,aJ]) (aV.then (dG.g b1) (aV.inBlock 0 (bC E [.tmp 6] Y))) X Z:=
 bJ g fun aY a g=>bJ g fun aS b g=>bF g fun bO b3 bN c g=>bJ g fun d e g=>bV [(0,.int .u64 aY),(1,.int .i64 aS),(2,.slice bO b3 bN),(7,.int .i64 d)] ⟨a,b,c,e,trivial⟩ (by kernel_rfl) g
def dG.t(Y:aF):Nat→Int→Int→S→Nat→Nat→Int→U→Prop
 | 0=>fun _ _ _ _ _ _ _=>False
 | n+1=>fun aY aS bO b3 bN a Z=>bM.t Y (dG.t Y n) aY aS bO b3 bN a Z
theorem dG.ok(Y:aF)(X:Fr)(Z:U)(g:dG.g (fun aY aS bO b3 bN a Z=>∃ n,dG.t Y n aY aS bO b3 bN a Z) X Z):den prog E (a6 aO [W,W,aJ]) (aV.inBlock 0 (bC E [.tmp 6] Y)) X Z:=by
 obtain⟨aY,b,g⟩:=bT g
 obtain⟨aS,c,g⟩:=bT g
 obtain⟨bO,b3,bN,d,g⟩:=b2 g
 obtain⟨a,e,g⟩:=bT g
 obtain⟨n,g⟩:=g
 refine fF (fun n=>dG.g (dG.t Y n)) (K:=(a6 aO [W,W,aJ,aJ])) (by kernel_rfl) (fun X Z g=>?_) (fun n=>bM.ok Y (dG.t Y n)) n X Z (b0 b (b0 c (bL d (b0 e (g)))))
 obtain⟨aY,b,g⟩:=bT g
 obtain⟨aS,c,g⟩:=bT g
 obtain⟨bO,b3,bN,d,g⟩:=b2 g
 obtain⟨a,e,g⟩:=bT g
 exact g
theorem fQ.ok(Y:aF)(X:Fr)(Z:U)(g:dG.g (fun aY aS bO b3 bN a Z=>∃ n,dG.t Y n aY aS bO b3 bN a Z) X Z):den prog E (a6 aO [W,W]) (bC E [.tmp 6] Y) X Z:=
 e3 (by kernel_rfl) (dG.ok Y X Z g)
def aP.t(Y:aF)(aY aS:Int)(bO:S)(b3 bN:Nat)(Z:U):Prop:=
 (∃ n,dG.t Y n aY aS bO b3 bN 1400 Z)
def aP.g(Y:aF)(X:Fr)(Z:U):Prop:=a0 .u64 (X 0) fun aY=>a0 .i64 (X 1) fun aS=>aR (X 2) fun bO b3 bN=>aP.t Y aY aS bO b3 bN Z
theorem aP.ok(Y:aF)(X:Fr)(Z:U)(g:aP.g Y X Z):den prog E aO (bC E [.tmp 6] Y) X Z:=
 bJ g fun aY a g=>bJ g fun aS b g=>bF g fun bO b3 bN c g=>c5 2 (r:=(a6 aO [W,W])) (by kernel_rfl) (fQ.ok Y) (bV [(0,.int .u64 aY),(1,.int .i64 aS),(2,.slice bO b3 bN)] ⟨a,b,c,trivial⟩ (by kernel_rfl) g)
def t(aY aS:Int)(bO:S)(b3 bN:Nat)(Z:U)(Y:aF):Prop:=aP.t Y aY aS bO b3 bN Z
theorem ok{aY:Int}{aS:Int}{bO:S}{b3:Nat}{bN:Nat}{Z:U}{Y:aF}(g:t aY aS bO b3 bN Z Y):a4 id #[.int .u64 aY,.int .i64 aS,.slice bO b3 bN] Z Y:=
 eD dT (c:=aO) (dH:=[.tmp 6]) Tryz.func36 (by kernel_rfl) (by kernel_rfl) (by kernel_rfl) (args:=[.int .u64 aY,.int .i64 aS,.slice bO b3 bN]) (by kernel_rfl) (aP.ok Y _ Z (b0 rfl (b0 rfl (bL rfl (g)))))
end r0
namespace lF
noncomputable def aO:Code:=dY Tryz.f37
def dG.g(bP:Int→Int→U→Prop)(X:Fr)(Z:U):Prop:=a0 .i64 (X 0) fun aY=>a0 .i64 (X 3) fun a=>bP aY a Z
def bM.t(Y:aF)(b1:Int→Int→U→Prop)(aY a:Int)(Z:U):Prop:=
 bB (IntKind.i64.wrap (a*2)) fun a=>b1 aY a Z
def bM.g(Y:aF)(b1:Int→Int→U→Prop)(X:Fr)(Z:U):Prop:=a0 .i64 (X 0) fun aY=>a0 .i64 (X 3) fun a=>bM.t Y b1 aY a Z
theorem bM.ok(Y:aF)(b1:Int→Int→U→Prop)(X:Fr)(Z:U)(g:bM.g Y b1 X Z):den prog E (a6 aO [W,W,aJ,aJ,W]) (aV.then (dG.g b1) (aV.inBlock 0 (bC E [.tmp 2] Y))) X Z:=
 bJ g fun aY a g=>bJ g fun b c g=>bV [(0,.int .i64 aY),(3,.int .i64 b)] ⟨a,c,trivial⟩ (by kernel_rfl) g
def cH.t(Y:aF)(b1:Int→Int→U→Prop)(aY a:Int)(bX:S)(b bY:Nat)(Z:U):Prop:=
 cond ((((b:Nat):Int)) == aY) (Y (.slice bX b bY) Z) (bM.t Y b1 aY a Z)
def cH.g(Y:aF)(b1:Int→Int→U→Prop)(X:Fr)(Z:U):Prop:=a0 .i64 (X 0) fun aY=>a0 .i64 (X 3) fun a=>aR (X 7) fun bX b bY=>cH.t Y b1 aY a bX b bY Z
theorem cH.ok(Y:aF)(b1:Int→Int→U→Prop)(X:Fr)(Z:U)(g:cH.g Y b1 X Z):den prog E (a6 aO [W,W,aJ,aJ,aJ,aJ,W,W,W,W,W]) (aV.inBlock 1 (aV.then (bM.g Y b1) (aV.then (dG.g b1) (aV.inBlock 0 (bC E [.tmp 2] Y))))) X Z:=
 bJ g fun aY a g=>bJ g fun b c g=>bF g fun bX d bY e g=>bV [(0,.int .i64 aY),(3,.int .i64 b),(7,.slice bX d bY)] ⟨a,c,e,trivial⟩ (by kernel_rfl) g
def gF.g(bP:Int→Int→S→Nat→Nat→S→Nat→Nat→S→Nat→Nat→Int→U→Prop)(X:Fr)(Z:U):Prop:=a0 .i64 (X 0) fun aY=>a0 .i64 (X 3) fun a=>aR (X 5) fun bE b bD=>aR (X 6) fun bG c bI=>aR (X 7) fun bX d bY=>a0 .i64 (X 8) fun e=>bP aY a bE b bD bG c bI bX d bY e Z
def gS.t(Y:aF)(b1:Int→Int→U→Prop)(a:Int→Int→S→Nat→Nat→S→Nat→Nat→S→Nat→Nat→Int→U→Prop)(aY b:Int)(bE:S)(c bD:Nat)(bG:S)(d bI:Nat)(bX:S)(e bY:Nat)(f:Int)(Z:U):Prop:=
 c6 bE c f 1 fun g=>
 dQ Z g fun g h i=>
 a4 rM.id #[.slice g h i] Z fun g h=>
 cW g fun g=>
 dP g .u64 fun g i=>
 fT i fun i i=>
 b9 i <| dX h 35 [.int .u64 g] fun g h=>
 g3 h 35 j6 bX e bY (.slice (some g) 1 1) fun e g h i=>
 bB (IntKind.i64.wrap (f+1)) fun f=>
 a aY b bE c bD bG d bI e g h f i
def gS.g(Y:aF)(b1:Int→Int→U→Prop)(a:Int→Int→S→Nat→Nat→S→Nat→Nat→S→Nat→Nat→Int→U→Prop)(X:Fr)(Z:U):Prop:=a0 .i64 (X 0) fun aY=>a0 .i64 (X 3) fun b=>aR (X 5) fun bE c bD=>aR (X 6) fun bG d bI=>aR (X 7) fun bX e bY=>a0 .i64 (X 8) fun f=>gS.t Y b1 a aY b bE c bD bG d bI bX e bY f Z
theorem gS.ok(Y:aF)(b1:Int→Int→U→Prop)(a:Int→Int→S→Nat→Nat→S→Nat→Nat→S→Nat→Nat→Int→U→Prop)(X:Fr)(Z:U)(g:gS.g Y b1 a X Z):den prog E (a6 aO [W,W,aJ,aJ,aJ,aJ,W,W,W,W,aJ,W,aJ,aJ,W]) (aV.then (gF.g a) (aV.inBlock 2 (aV.then (cH.g Y b1) (aV.inBlock 1 (aV.then (bM.g Y b1) (aV.then (dG.g b1) (aV.inBlock 0 (bC E [.tmp 2] Y)))))))) X Z:=
 bJ g fun aY a g=>bJ g fun b c g=>bF g fun bE d bD e g=>bF g fun bG f bI h g=>bF g fun bX i bY j g=>bJ g fun k l g=>bV [(0,.int .i64 aY),(3,.int .i64 b),(5,.slice bE d bD),(6,.slice bG f bI),(7,.slice bX i bY),(8,.int .i64 k)] ⟨a,c,e,h,j,l,trivial⟩ (by kernel_rfl) g
def eZ.t(Y:aF)(b1:Int→Int→U→Prop)(a:Int→Int→S→Nat→Nat→S→Nat→Nat→S→Nat→Nat→Int→U→Prop)(aY b:Int)(bE:S)(c bD:Nat)(bG:S)(d bI:Nat)(bX:S)(e bY:Nat)(f:Int)(Z:U):Prop:=
 bB (IntKind.i64.wrap (f+1)) fun g=>
 cond (decide (g < (((c:Nat):Int)))) (bB (IntKind.i64.wrap (f+1)) fun g=>
 cond (decide (g < (((d:Nat):Int)))) (cond (decide ((((e:Nat):Int)) < aY)) (c6 bE c f 1 fun g=>
 dQ Z g fun g h i=>
 c6 bG d f 1 fun j=>
 dQ Z j fun j k l=>
 a4 jN.id #[.slice g h i,.slice j k l] Z fun g h=>
 a0 .i64 g fun g=>
 cond (g == 0) (gS.t Y b1 a aY b bE c bD bG d bI bX e bY f h) (cH.t Y b1 aY b bX e bY h)) (cH.t Y b1 aY b bX e bY Z)) (cH.t Y b1 aY b bX e bY Z)) (cH.t Y b1 aY b bX e bY Z)
def eZ.g(Y:aF)(b1:Int→Int→U→Prop)(a:Int→Int→S→Nat→Nat→S→Nat→Nat→S→Nat→Nat→Int→U→Prop)(X:Fr)(Z:U):Prop:=a0 .i64 (X 0) fun aY=>a0 .i64 (X 3) fun b=>aR (X 5) fun bE c bD=>aR (X 6) fun bG d bI=>aR (X 7) fun bX e bY=>a0 .i64 (X 8) fun f=>eZ.t Y b1 a aY b bE c bD bG d bI bX e bY f Z
theorem eZ.ok(Y:aF)(b1:Int→Int→U→Prop)(a:Int→Int→S→Nat→Nat→S→Nat→Nat→S→Nat→Nat→Int→U→Prop)(X:Fr)(Z:U)(g:eZ.g Y b1 a X Z):den prog E (a6 aO [W,W,aJ,aJ,aJ,aJ,W,W,W,W,aJ,W,aJ,aJ]) (aV.then (gF.g a) (aV.inBlock 2 (aV.then (cH.g Y b1) (aV.inBlock 1 (aV.then (bM.g Y b1) (aV.then (dG.g b1) (aV.inBlock 0 (bC E [.tmp 2] Y)))))))) X Z:=
 bJ g fun aY b g=>bJ g fun c d g=>bF g fun bE e bD f g=>bF g fun bG h bI i g=>bF g fun bX j bY k g=>bJ g fun l m g=>c5 1 (r:=(a6 aO [W,W,aJ,aJ,aJ,aJ,W,W,W,W,aJ,W,aJ,aJ,W])) (by kernel_rfl) (gS.ok Y b1 a) (bV [(0,.int .i64 aY),(3,.int .i64 c),(5,.slice bE e bD),(6,.slice bG h bI),(7,.slice bX j bY),(8,.int .i64 l)] ⟨b,d,f,i,k,m,trivial⟩ (by kernel_rfl) g)
def gF.t(Y:aF)(b1:Int→Int→U→Prop):Nat→Int→Int→S→Nat→Nat→S→Nat→Nat→S→Nat→Nat→Int→U→Prop
 | 0=>fun _ _ _ _ _ _ _ _ _ _ _ _ _=>False
 | n+1=>fun aY a bE b bD bG c bI bX d bY e Z=>eZ.t Y b1 (gF.t Y b1 n) aY a bE b bD bG c bI bX d bY e Z
theorem gF.ok(Y:aF)(b1:Int→Int→U→Prop)(X:Fr)(Z:U)(g:gF.g (fun aY a bE b bD bG c bI bX d bY e Z=>∃ n,gF.t Y b1 n aY a bE b bD bG c bI bX d bY e Z) X Z):den prog E (a6 aO [W,W,aJ,aJ,aJ,aJ,W,W,W,W,aJ,W,aJ]) (aV.inBlock 2 (aV.then (cH.g Y b1) (aV.inBlock 1 (aV.then (bM.g Y b1) (aV.then (dG.g b1) (aV.inBlock 0 (bC E [.tmp 2] Y))))))) X Z:=by
 obtain⟨aY,f,g⟩:=bT g
 obtain⟨a,h,g⟩:=bT g
 obtain⟨bE,b,bD,i,g⟩:=b2 g
 obtain⟨bG,c,bI,j,g⟩:=b2 g
 obtain⟨bX,d,bY,k,g⟩:=b2 g
 obtain⟨e,l,g⟩:=bT g
 obtain⟨n,g⟩:=g
 refine fF (fun n=>gF.g (gF.t Y b1 n)) (K:=(a6 aO [W,W,aJ,aJ,aJ,aJ,W,W,W,W,aJ,W,aJ,aJ])) (by kernel_rfl) (fun X Z g=>?_) (fun n=>eZ.ok Y b1 (gF.t Y b1 n)) n X Z (b0 f (b0 h (bL i (bL j (bL k (b0 l (g)))))))
 obtain⟨aY,f,g⟩:=bT g
 obtain⟨a,h,g⟩:=bT g
 obtain⟨bE,b,bD,i,g⟩:=b2 g
 obtain⟨bG,c,bI,j,g⟩:=b2 g
 obtain⟨bX,d,bY,k,g⟩:=b2 g
 obtain⟨e,l,g⟩:=bT g
 exact g
theorem z3.ok(Y:aF)(b1:Int→Int→U→Prop)(X:Fr)(Z:U)(g:gF.g (fun aY a bE b bD bG c bI bX d bY e Z=>∃ n,gF.t Y b1 n aY a bE b bD bG c bI bX d bY e Z) X Z):den prog E (a6 aO [W,W,aJ,aJ,aJ,aJ,W,W,W,W,aJ,W]) (aV.then (cH.g Y b1) (aV.inBlock 1 (aV.then (bM.g Y b1) (aV.then (dG.g b1) (aV.inBlock 0 (bC E [.tmp 2] Y)))))) X Z:=
 e3 (by kernel_rfl) (gF.ok Y b1 X Z g)
def dD.t(Y:aF)(b1:Int→Int→U→Prop)(aY a:Int)(bE:S)(b bD:Nat)(bG:S)(c bI:Nat)(bX:S)(d bY:Nat)(Z:U):Prop:=
 (∃ n,gF.t Y b1 n aY a bE b bD bG c bI bX d bY 0 Z)
def dD.g(Y:aF)(b1:Int→Int→U→Prop)(X:Fr)(Z:U):Prop:=a0 .i64 (X 0) fun aY=>a0 .i64 (X 3) fun a=>aR (X 5) fun bE b bD=>aR (X 6) fun bG c bI=>aR (X 7) fun bX d bY=>dD.t Y b1 aY a bE b bD bG c bI bX d bY Z
theorem dD.ok(Y:aF)(b1:Int→Int→U→Prop)(X:Fr)(Z:U)(g:dD.g Y b1 X Z):den prog E (a6 aO [W,W,aJ,aJ,aJ,aJ,W,W,W,W,aJ]) (aV.then (cH.g Y b1) (aV.inBlock 1 (aV.then (bM.g Y b1) (aV.then (dG.g b1) (aV.inBlock 0 (bC E [.tmp 2] Y)))))) X Z:=
 bJ g fun aY a g=>bJ g fun b c g=>bF g fun bE d bD e g=>bF g fun bG f bI h g=>bF g fun bX i bY j g=>c5 1 (r:=(a6 aO [W,W,aJ,aJ,aJ,aJ,W,W,W,W,aJ,W])) (by kernel_rfl) (z3.ok Y b1) (bV [(0,.int .i64 aY),(3,.int .i64 b),(5,.slice bE d bD),(6,.slice bG f bI),(7,.slice bX i bY)] ⟨a,c,e,h,j,trivial⟩ (by kernel_rfl) g)
theorem z4.ok(Y:aF)(b1:Int→Int→U→Prop)(X:Fr)(Z:U)(g:dD.g Y b1 X Z):den prog E (a6 aO [W,W,aJ,aJ,aJ,aJ,W,W,W,W]) (aV.inBlock 1 (aV.then (bM.g Y b1) (aV.then (dG.g b1) (aV.inBlock 0 (bC E [.tmp 2] Y))))) X Z:=
 fP (by kernel_rfl) (cH.ok Y b1) (dD.ok Y b1 X Z g)
def cF.t(Y:aF)(b1:Int→Int→U→Prop)(aY a:Int)(Z:U):Prop:=
 a4 pF.id #[.int .i64 a] Z fun b c=>
 aR b fun b d e=>
 bB (IntKind.i64.wrap (a+1)) fun f=>
 a4 oO.id #[.int .i64 f] c fun c f=>
 aR c fun c g h=>
 bB (IntKind.i64.wrap (aY+2)) fun i=>
 a4 l9.id #[.slice b d e,.slice c g h,.int .i64 i] f fun c f=>
 aR c fun c g h=>
 a4 gN.id #[.int .u64 1] f fun f i=>
 aR f fun f j k=>
 a4 g0.id #[.slice b d e,.slice f j k] i fun b d=>
 aR b fun b e f=>
 bB (IntKind.i64.wrap (a+1)) fun i=>
 a4 oO.id #[.int .i64 i] d fun d i=>
 aR d fun d j k=>
 bB (IntKind.i64.wrap (aY+2)) fun l=>
 a4 l9.id #[.slice b e f,.slice d j k,.int .i64 l] i fun b d=>
 aR b fun b e f=>
 dD.t Y b1 aY a c g h b e f none 0 0 d
def cF.g(Y:aF)(b1:Int→Int→U→Prop)(X:Fr)(Z:U):Prop:=a0 .i64 (X 0) fun aY=>a0 .i64 (X 3) fun a=>cF.t Y b1 aY a Z
theorem cF.ok(Y:aF)(b1:Int→Int→U→Prop)(X:Fr)(Z:U)(g:cF.g Y b1 X Z):den prog E (a6 aO [W,W,aJ,aJ,aJ,aJ]) (aV.inBlock 1 (aV.then (bM.g Y b1) (aV.then (dG.g b1) (aV.inBlock 0 (bC E [.tmp 2] Y))))) X Z:=
 bJ g fun aY a g=>bJ g fun b c g=>c5 4 (r:=(a6 aO [W,W,aJ,aJ,aJ,aJ,W,W,W,W])) (by kernel_rfl) (z4.ok Y b1) (bV [(0,.int .i64 aY),(3,.int .i64 b)] ⟨a,c,trivial⟩ (by kernel_rfl) g)
theorem oT.ok(Y:aF)(b1:Int→Int→U→Prop)(X:Fr)(Z:U)(g:cF.g Y b1 X Z):den prog E (a6 aO [W,W,aJ,aJ,aJ]) (aV.then (bM.g Y b1) (aV.then (dG.g b1) (aV.inBlock 0 (bC E [.tmp 2] Y)))) X Z:=
 e3 (by kernel_rfl) (cF.ok Y b1 X Z g)
theorem sH.ok(Y:aF)(b1:Int→Int→U→Prop)(X:Fr)(Z:U)(g:cF.g Y b1 X Z):den prog E (a6 aO [W,W,aJ,aJ]) (aV.then (dG.g b1) (aV.inBlock 0 (bC E [.tmp 2] Y))) X Z:=
 fP (by kernel_rfl) (bM.ok Y b1) (oT.ok Y b1 X Z g)
def dG.t(Y:aF):Nat→Int→Int→U→Prop
 | 0=>fun _ _ _=>False
 | n+1=>fun aY a Z=>cF.t Y (dG.t Y n) aY a Z
theorem dG.ok(Y:aF)(X:Fr)(Z:U)(g:dG.g (fun aY a Z=>∃ n,dG.t Y n aY a Z) X Z):den prog E (a6 aO [W,W,aJ]) (aV.inBlock 0 (bC E [.tmp 2] Y)) X Z:=by
 obtain⟨aY,b,g⟩:=bT g
 obtain⟨a,c,g⟩:=bT g
 obtain⟨n,g⟩:=g
 refine fF (fun n=>dG.g (dG.t Y n)) (K:=(a6 aO [W,W,aJ,aJ])) (by kernel_rfl) (fun X Z g=>?_) (fun n=>sH.ok Y (dG.t Y n)) n X Z (b0 b (b0 c (g)))
 obtain⟨aY,b,g⟩:=bT g
 obtain⟨a,c,g⟩:=bT g
 exact g
theorem qC.ok(Y:aF)(X:Fr)(Z:U)(g:dG.g (fun aY a Z=>∃ n,dG.t Y n aY a Z) X Z):den prog E (a6 aO [W,W]) (bC E [.tmp 2] Y) X Z:=
 e3 (by kernel_rfl) (dG.ok Y X Z g)
def aP.t(Y:aF)(aY:Int)(Z:U):Prop:=
 bB (IntKind.i64.wrap (4*aY)) fun eF=>bB (IntKind.i64.wrap (eF+64)) fun a=>(∃ n,dG.t Y n aY a Z)
def aP.g(Y:aF)(X:Fr)(Z:U):Prop:=a0 .i64 (X 0) fun aY=>aP.t Y aY Z
theorem aP.ok(Y:aF)(X:Fr)(Z:U)(g:aP.g Y X Z):den prog E aO (bC E [.tmp 2] Y) X Z:=
 bJ g fun aY a g=>c5 2 (r:=(a6 aO [W,W])) (by kernel_rfl) (qC.ok Y) (bV [(0,.int .i64 aY)] ⟨a,trivial⟩ (by kernel_rfl) g)
def t(aY:Int)(Z:U)(Y:aF):Prop:=aP.t Y aY Z
theorem ok{aY:Int}{Z:U}{Y:aF}(g:t aY Z Y):a4 id #[.int .i64 aY] Z Y:=
 eD dT (c:=aO) (dH:=[.tmp 2]) Tryz.func37 (by kernel_rfl) (by kernel_rfl) (by kernel_rfl) (args:=[.int .i64 aY]) (by kernel_rfl) (aP.ok Y _ Z (b0 rfl (g)))
end lF
namespace gN
noncomputable def aO:Code:=dY Tryz.f38
def aP.t(Y:aF)(aY:Int)(Z:U):Prop:=
 bB (j1 .u64 aY 4294967295) fun eF=>
 bB (IntKind.u32.wrap eF) fun a=>
 0≤(32:Int)∧bB (hG .u64 aY 32) fun b=>
 bB (IntKind.u32.wrap b) fun b=>
 dX Z 89 [.int .u32 a,.int .u32 b] fun a b=>
 a4 g6.id #[.slice (some a) 2 2] b fun a b=>
 aR a fun a c d=>
 Y (.slice a c d) b
def aP.g(Y:aF)(X:Fr)(Z:U):Prop:=a0 .u64 (X 0) fun aY=>aP.t Y aY Z
theorem aP.ok(Y:aF)(X:Fr)(Z:U)(g:aP.g Y X Z):den prog E aO (bC E [.tmp 2] Y) X Z:=
 bJ g fun aY a g=>bV [(0,.int .u64 aY)] ⟨a,trivial⟩ (by kernel_rfl) g
def t(aY:Int)(Z:U)(Y:aF):Prop:=aP.t Y aY Z
theorem ok{aY:Int}{Z:U}{Y:aF}(g:t aY Z Y):a4 id #[.int .u64 aY] Z Y:=
 eD dT (c:=aO) (dH:=[.tmp 2]) Tryz.func38 (by kernel_rfl) (by kernel_rfl) (by kernel_rfl) (args:=[.int .u64 aY]) (by kernel_rfl) (aP.ok Y _ Z (b0 rfl (g)))
end gN
namespace g0
noncomputable def aO:Code:=dY Tryz.f39
def a5.t(Y:aF)(bE:S)(a bD:Nat)(Z:U):Prop:=
 a4 g6.id #[.slice bE a bD] Z fun a b=>
 aR a fun a c d=>
 Y (.slice a c d) b
def a5.g(Y:aF)(X:Fr)(Z:U):Prop:=aR (X 5) fun bE a bD=>a5.t Y bE a bD Z
theorem a5.ok(Y:aF)(X:Fr)(Z:U)(g:a5.g Y X Z):den prog E (a6 aO [W,W,W,W]) (bC E [.tmp 4] Y) X Z:=
 bF g fun bE a bD b g=>bV [(5,.slice bE a bD)] ⟨b,trivial⟩ (by kernel_rfl) g
def bU.g(bP:S→Nat→Nat→S→Nat→Nat→S→Nat→Nat→Int→Int→U→Prop)(X:Fr)(Z:U):Prop:=aR (X 0) fun M a aA=>aR (X 1) fun aM aL aK=>aR (X 5) fun bE b bD=>a0 .u64 (X 6) fun c=>a0 .i64 (X 7) fun d=>bP M a aA aM aL aK bE b bD c d Z
def dD.t(Y:aF)(a:S→Nat→Nat→S→Nat→Nat→S→Nat→Nat→Int→Int→U→Prop)(M:S)(b aA:Nat)(aM:S)(aL aK:Nat)(bE:S)(c bD:Nat)(d e:Int)(Z:U):Prop:=
 cond (decide (e < (((b:Nat):Int)))) (c6 M b e 1 fun f=>
 eO Z .u32 f fun f=>
 bB (IntKind.u64.wrap f) fun f=>
 bB (IntKind.u64.wrap (d+f)) fun f=>
 cond (decide (e < (((aL:Nat):Int)))) (c6 aM aL e 1 fun g=>
 eO Z .u32 g fun g=>
 bB (IntKind.u64.wrap g) fun g=>
 bB (IntKind.u64.wrap (f+g)) fun g=>
 bB (j1 .u64 g 4294967295) fun h=>
 bB (IntKind.u32.wrap h) fun h=>
 dX Z 89 [.int .u32 h] fun h i=>
 g3 i 89 iW bE c bD (.slice (some h) 1 1) fun h i j k=>
 0≤(32:Int)∧bB (hG .u64 g 32) fun g=>
 bB (IntKind.i64.wrap (e+1)) fun l=>
 a M b aA aM aL aK h i j g l k) (bB (j1 .u64 f 4294967295) fun g=>
 bB (IntKind.u32.wrap g) fun g=>
 dX Z 89 [.int .u32 g] fun g h=>
 g3 h 89 iW bE c bD (.slice (some g) 1 1) fun g h i j=>
 0≤(32:Int)∧bB (hG .u64 f 32) fun f=>
 bB (IntKind.i64.wrap (e+1)) fun k=>
 a M b aA aM aL aK g h i f k j)) (cond (decide (e < (((aL:Nat):Int)))) (c6 aM aL e 1 fun f=>
 eO Z .u32 f fun f=>
 bB (IntKind.u64.wrap f) fun f=>
 bB (IntKind.u64.wrap (d+f)) fun f=>
 bB (j1 .u64 f 4294967295) fun g=>
 bB (IntKind.u32.wrap g) fun g=>
 dX Z 89 [.int .u32 g] fun g h=>
 g3 h 89 iW bE c bD (.slice (some g) 1 1) fun g h i j=>
 0≤(32:Int)∧bB (hG .u64 f 32) fun f=>
 bB (IntKind.i64.wrap (e+1)) fun k=>
 a M b aA aM aL aK g h i f k j) (bB (j1 .u64 d 4294967295) fun f=>
 bB (IntKind.u32.wrap f) fun f=>
 dX Z 89 [.int .u32 f] fun f g=>
 g3 g 89 iW bE c bD (.slice (some f) 1 1) fun c f g h=>
 0≤(32:Int)∧bB (hG .u64 d 32) fun d=>
 bB (IntKind.i64.wrap (e+1)) fun e=>
 a M b aA aM aL aK c f g d e h))
def dD.g(Y:aF)(a:S→Nat→Nat→S→Nat→Nat→S→Nat→Nat→Int→Int→U→Prop)(X:Fr)(Z:U):Prop:=aR (X 0) fun M b aA=>aR (X 1) fun aM aL aK=>aR (X 5) fun bE c bD=>a0 .u64 (X 6) fun d=>a0 .i64 (X 7) fun e=>dD.t Y a M b aA aM aL aK bE c bD d e Z
theorem dD.ok(Y:aF)(a:S→Nat→Nat→S→Nat→Nat→S→Nat→Nat→Int→Int→U→Prop)(X:Fr)(Z:U)(g:dD.g Y a X Z):den prog E (a6 aO [W,W,W,aJ,W,aJ,aJ,W]) (aV.then (bU.g a) (aV.inBlock 0 (aV.then (a5.g Y) (bC E [.tmp 4] Y)))) X Z:=
 bF g fun M a aA b g=>bF g fun aM aL aK c g=>bF g fun bE d bD e g=>bJ g fun f h g=>bJ g fun i j g=>bV [(0,.slice M a aA),(1,.slice aM aL aK),(5,.slice bE d bD),(6,.int .u64 f),(7,.int .i64 i)] ⟨b,c,e,h,j,trivial⟩ (by kernel_rfl) g
def cH.t(Y:aF)(a:S→Nat→Nat→S→Nat→Nat→S→Nat→Nat→Int→Int→U→Prop)(M:S)(b aA:Nat)(aM:S)(aL aK:Nat)(bE:S)(c bD:Nat)(d e:Int)(Z:U):Prop:=
 cond (decide (e < (((b:Nat):Int)))) (dD.t Y a M b aA aM aL aK bE c bD d e Z) (cond (decide (e < (((aL:Nat):Int)))) (dD.t Y a M b aA aM aL aK bE c bD d e Z) (cond (decide (d > 0)) (dD.t Y a M b aA aM aL aK bE c bD d e Z) (a5.t Y bE c bD Z)))
def cH.g(Y:aF)(a:S→Nat→Nat→S→Nat→Nat→S→Nat→Nat→Int→Int→U→Prop)(X:Fr)(Z:U):Prop:=aR (X 0) fun M b aA=>aR (X 1) fun aM aL aK=>aR (X 5) fun bE c bD=>a0 .u64 (X 6) fun d=>a0 .i64 (X 7) fun e=>cH.t Y a M b aA aM aL aK bE c bD d e Z
theorem cH.ok(Y:aF)(a:S→Nat→Nat→S→Nat→Nat→S→Nat→Nat→Int→Int→U→Prop)(X:Fr)(Z:U)(g:cH.g Y a X Z):den prog E (a6 aO [W,W,W,aJ,W,aJ,aJ]) (aV.then (bU.g a) (aV.inBlock 0 (aV.then (a5.g Y) (bC E [.tmp 4] Y)))) X Z:=
 bF g fun M b aA c g=>bF g fun aM aL aK d g=>bF g fun bE e bD f g=>bJ g fun h i g=>bJ g fun j k g=>c5 1 (r:=(a6 aO [W,W,W,aJ,W,aJ,aJ,W])) (by kernel_rfl) (dD.ok Y a) (bV [(0,.slice M b aA),(1,.slice aM aL aK),(5,.slice bE e bD),(6,.int .u64 h),(7,.int .i64 j)] ⟨c,d,f,i,k,trivial⟩ (by kernel_rfl) g)
def bU.t(Y:aF):Nat→S→Nat→Nat→S→Nat→Nat→S→Nat→Nat→Int→Int→U→Prop
 | 0=>fun _ _ _ _ _ _ _ _ _ _ _ _=>False
 | n+1=>fun M a aA aM aL aK bE b bD c d Z=>cH.t Y (bU.t Y n) M a aA aM aL aK bE b bD c d Z
theorem bU.ok(Y:aF)(X:Fr)(Z:U)(g:bU.g (fun M a aA aM aL aK bE b bD c d Z=>∃ n,bU.t Y n M a aA aM aL aK bE b bD c d Z) X Z):den prog E (a6 aO [W,W,W,aJ,W,aJ]) (aV.inBlock 0 (aV.then (a5.g Y) (bC E [.tmp 4] Y))) X Z:=by
 obtain⟨M,a,aA,e,g⟩:=b2 g
 obtain⟨aM,aL,aK,f,g⟩:=b2 g
 obtain⟨bE,b,bD,h,g⟩:=b2 g
 obtain⟨c,i,g⟩:=bT g
 obtain⟨d,j,g⟩:=bT g
 obtain⟨n,g⟩:=g
 refine fF (fun n=>bU.g (bU.t Y n)) (K:=(a6 aO [W,W,W,aJ,W,aJ,aJ])) (by kernel_rfl) (fun X Z g=>?_) (fun n=>cH.ok Y (bU.t Y n)) n X Z (bL e (bL f (bL h (b0 i (b0 j (g))))))
 obtain⟨M,a,aA,e,g⟩:=b2 g
 obtain⟨aM,aL,aK,f,g⟩:=b2 g
 obtain⟨bE,b,bD,h,g⟩:=b2 g
 obtain⟨c,i,g⟩:=bT g
 obtain⟨d,j,g⟩:=bT g
 exact g
theorem sF.ok(Y:aF)(X:Fr)(Z:U)(g:bU.g (fun M a aA aM aL aK bE b bD c d Z=>∃ n,bU.t Y n M a aA aM aL aK bE b bD c d Z) X Z):den prog E (a6 aO [W,W,W,aJ,W]) (aV.then (a5.g Y) (bC E [.tmp 4] Y)) X Z:=
 e3 (by kernel_rfl) (bU.ok Y X Z g)
def bM.t(Y:aF)(M:S)(a aA:Nat)(aM:S)(aL aK:Nat)(bE:S)(b bD:Nat)(c:Int)(Z:U):Prop:=
 (∃ n,bU.t Y n M a aA aM aL aK bE b bD c 0 Z)
def bM.g(Y:aF)(X:Fr)(Z:U):Prop:=aR (X 0) fun M a aA=>aR (X 1) fun aM aL aK=>aR (X 5) fun bE b bD=>a0 .u64 (X 6) fun c=>bM.t Y M a aA aM aL aK bE b bD c Z
theorem bM.ok(Y:aF)(X:Fr)(Z:U)(g:bM.g Y X Z):den prog E (a6 aO [W,W,W,aJ]) (aV.then (a5.g Y) (bC E [.tmp 4] Y)) X Z:=
 bF g fun M a aA b g=>bF g fun aM aL aK c g=>bF g fun bE d bD e g=>bJ g fun f h g=>c5 1 (r:=(a6 aO [W,W,W,aJ,W])) (by kernel_rfl) (sF.ok Y) (bV [(0,.slice M a aA),(1,.slice aM aL aK),(5,.slice bE d bD),(6,.int .u64 f)] ⟨b,c,e,h,trivial⟩ (by kernel_rfl) g)
theorem sG.ok(Y:aF)(X:Fr)(Z:U)(g:bM.g Y X Z):den prog E (a6 aO [W,W,W]) (bC E [.tmp 4] Y) X Z:=
 fP (by kernel_rfl) (a5.ok Y) (bM.ok Y X Z g)
def aP.t(Y:aF)(M:S)(a aA:Nat)(aM:S)(aL aK:Nat)(Z:U):Prop:=
 bB (IntKind.i64.wrap ((if (((aL:Nat):Int)) > (((a:Nat):Int)) then(((aL:Nat):Int)) else(((a:Nat):Int)))+1)) fun eF=>
 iS Z 89 iW 0 eF fun e7 b=>
 bM.t Y M a aA aM aL aK (some e7) ((0:Int).toNat) eF.toNat 0 b
def aP.g(Y:aF)(X:Fr)(Z:U):Prop:=aR (X 0) fun M a aA=>aR (X 1) fun aM aL aK=>aP.t Y M a aA aM aL aK Z
theorem aP.ok(Y:aF)(X:Fr)(Z:U)(g:aP.g Y X Z):den prog E aO (bC E [.tmp 4] Y) X Z:=
 bF g fun M a aA b g=>bF g fun aM aL aK c g=>c5 3 (r:=(a6 aO [W,W,W])) (by kernel_rfl) (sG.ok Y) (bV [(0,.slice M a aA),(1,.slice aM aL aK)] ⟨b,c,trivial⟩ (by kernel_rfl) g)
def t(M:S)(a aA:Nat)(aM:S)(aL aK:Nat)(Z:U)(Y:aF):Prop:=aP.t Y M a aA aM aL aK Z
theorem ok{M:S}{a:Nat}{aA:Nat}{aM:S}{aL:Nat}{aK:Nat}{Z:U}{Y:aF}(g:t M a aA aM aL aK Z Y):a4 id #[.slice M a aA,.slice aM aL aK] Z Y:=
 eD dT (c:=aO) (dH:=[.tmp 4]) Tryz.func39 (by kernel_rfl) (by kernel_rfl) (by kernel_rfl) (args:=[.slice M a aA,.slice aM aL aK]) (by kernel_rfl) (aP.ok Y _ Z (bL rfl (bL rfl (g))))
end g0
namespace hS
noncomputable def aO:Code:=dY Tryz.f40
def a5.t(Y:aF)(bE:S)(a bD:Nat)(Z:U):Prop:=
 a4 g6.id #[.slice bE a bD] Z fun a b=>
 aR a fun a c d=>
 Y (.slice a c d) b
def a5.g(Y:aF)(X:Fr)(Z:U):Prop:=aR (X 5) fun bE a bD=>a5.t Y bE a bD Z
theorem a5.ok(Y:aF)(X:Fr)(Z:U)(g:a5.g Y X Z):den prog E (a6 aO [W,W,W]) (bC E [.tmp 4] Y) X Z:=
 bF g fun bE a bD b g=>bV [(5,.slice bE a bD)] ⟨b,trivial⟩ (by kernel_rfl) g
def bU.g(bP:S→Nat→Nat→S→Nat→Nat→S→Nat→Nat→Int→U→Prop)(X:Fr)(Z:U):Prop:=aR (X 0) fun M a aA=>aR (X 1) fun aM aL aK=>aR (X 5) fun bE b bD=>a0 .i64 (X 6) fun c=>bP M a aA aM aL aK bE b bD c Z
def dD.t(Y:aF)(a:S→Nat→Nat→S→Nat→Nat→S→Nat→Nat→Int→U→Prop)(M:S)(b aA:Nat)(aM:S)(aL aK:Nat)(bE:S)(c bD:Nat)(d:Int)(Z:U):Prop:=
 bB (IntKind.i64.wrap (d+1)) fun d=>a M b aA aM aL aK bE c bD d Z
def dD.g(Y:aF)(a:S→Nat→Nat→S→Nat→Nat→S→Nat→Nat→Int→U→Prop)(X:Fr)(Z:U):Prop:=aR (X 0) fun M b aA=>aR (X 1) fun aM aL aK=>aR (X 5) fun bE c bD=>a0 .i64 (X 6) fun d=>dD.t Y a M b aA aM aL aK bE c bD d Z
theorem dD.ok(Y:aF)(a:S→Nat→Nat→S→Nat→Nat→S→Nat→Nat→Int→U→Prop)(X:Fr)(Z:U)(g:dD.g Y a X Z):den prog E (a6 aO [W,W,aJ,W,aJ,aJ,W,W]) (aV.then (bU.g a) (aV.inBlock 0 (aV.then (a5.g Y) (bC E [.tmp 4] Y)))) X Z:=
 bF g fun M a aA b g=>bF g fun aM aL aK c g=>bF g fun bE d bD e g=>bJ g fun f h g=>bV [(0,.slice M a aA),(1,.slice aM aL aK),(5,.slice bE d bD),(6,.int .i64 f)] ⟨b,c,e,h,trivial⟩ (by kernel_rfl) g
def eZ.t(Y:aF)(a:S→Nat→Nat→S→Nat→Nat→S→Nat→Nat→Int→U→Prop)(M:S)(b aA:Nat)(aM:S)(aL aK:Nat)(bE:S)(c bD:Nat)(d e:Int)(Z:U):Prop:=
 bB (IntKind.i64.wrap (d+(((aL:Nat):Int)))) fun f=>
 bB (IntKind.u32.wrap e) fun e=>
 c6 bE c f 1 fun f=>
 cM Z f (.int .u32 e) fun e=>
 dD.t Y a M b aA aM aL aK bE c bD d e
def eZ.g(Y:aF)(a:S→Nat→Nat→S→Nat→Nat→S→Nat→Nat→Int→U→Prop)(X:Fr)(Z:U):Prop:=aR (X 0) fun M b aA=>aR (X 1) fun aM aL aK=>aR (X 5) fun bE c bD=>a0 .i64 (X 6) fun d=>a0 .u64 (X 7) fun e=>eZ.t Y a M b aA aM aL aK bE c bD d e Z
theorem eZ.ok(Y:aF)(a:S→Nat→Nat→S→Nat→Nat→S→Nat→Nat→Int→U→Prop)(X:Fr)(Z:U)(g:eZ.g Y a X Z):den prog E (a6 aO [W,W,aJ,W,aJ,aJ,W,aJ,aJ,W,W,W]) (aV.inBlock 1 (aV.then (dD.g Y a) (aV.then (bU.g a) (aV.inBlock 0 (aV.then (a5.g Y) (bC E [.tmp 4] Y)))))) X Z:=
 bF g fun M a aA b g=>bF g fun aM aL aK c g=>bF g fun bE d bD e g=>bJ g fun f h g=>bJ g fun i j g=>bV [(0,.slice M a aA),(1,.slice aM aL aK),(5,.slice bE d bD),(6,.int .i64 f),(7,.int .u64 i)] ⟨b,c,e,h,j,trivial⟩ (by kernel_rfl) g
def mF.g(bP:S→Nat→Nat→S→Nat→Nat→S→Nat→Nat→Int→Int→Int→Int→U→Prop)(X:Fr)(Z:U):Prop:=aR (X 0) fun M a aA=>aR (X 1) fun aM aL aK=>aR (X 5) fun bE b bD=>a0 .i64 (X 6) fun c=>a0 .u64 (X 7) fun d=>a0 .u64 (X 8) fun e=>a0 .i64 (X 9) fun f=>bP M a aA aM aL aK bE b bD c d e f Z
def sV.t(Y:aF)(a:S→Nat→Nat→S→Nat→Nat→S→Nat→Nat→Int→U→Prop)(b:S→Nat→Nat→S→Nat→Nat→S→Nat→Nat→Int→Int→Int→Int→U→Prop)(M:S)(c aA:Nat)(aM:S)(aL aK:Nat)(bE:S)(d bD:Nat)(e f:Int)(g h:Int)(Z:U):Prop:=
 cond (decide (h < (((aL:Nat):Int)))) (bB (IntKind.i64.wrap (e+h)) fun i=>
 c6 bE d i 1 fun i=>
 eO Z .u32 i fun i=>
 bB (IntKind.u64.wrap i) fun i=>
 c6 aM aL h 1 fun j=>
 eO Z .u32 j fun j=>
 bB (IntKind.u64.wrap j) fun j=>
 bB (IntKind.u64.wrap (g*j)) fun j=>
 bB (IntKind.u64.wrap (i+j)) fun i=>
 bB (IntKind.u64.wrap (f+i)) fun i=>
 bB (IntKind.i64.wrap (e+h)) fun j=>
 bB (j1 .u64 i 4294967295) fun k=>
 bB (IntKind.u32.wrap k) fun k=>
 c6 bE d j 1 fun j=>
 cM Z j (.int .u32 k) fun j=>
 0≤(32:Int)∧bB (hG .u64 i 32) fun i=>
 bB (IntKind.i64.wrap (h+1)) fun h=>
 b M c aA aM aL aK bE d bD e i g h j) (eZ.t Y a M c aA aM aL aK bE d bD e f Z)
def sV.g(Y:aF)(a:S→Nat→Nat→S→Nat→Nat→S→Nat→Nat→Int→U→Prop)(b:S→Nat→Nat→S→Nat→Nat→S→Nat→Nat→Int→Int→Int→Int→U→Prop)(X:Fr)(Z:U):Prop:=aR (X 0) fun M c aA=>aR (X 1) fun aM aL aK=>aR (X 5) fun bE d bD=>a0 .i64 (X 6) fun e=>a0 .u64 (X 7) fun f=>a0 .u64 (X 8) fun h=>a0 .i64 (X 9) fun i=>sV.t Y a b M c aA aM aL aK bE d bD e f h i Z
theorem sV.ok(Y:aF)(a:S→Nat→Nat→S→Nat→Nat→S→Nat→Nat→Int→U→Prop)(b:S→Nat→Nat→S→Nat→Nat→S→Nat→Nat→Int→Int→Int→Int→U→Prop)(X:Fr)(Z:U)(g:sV.g Y a b X Z):den prog E (a6 aO [W,W,aJ,W,aJ,aJ,W,aJ,aJ,W,W,aJ,W,aJ,aJ]) (aV.then (mF.g b) (aV.inBlock 2 (aV.then (eZ.g Y a) (aV.inBlock 1 (aV.then (dD.g Y a) (aV.then (bU.g a) (aV.inBlock 0 (aV.then (a5.g Y) (bC E [.tmp 4] Y))))))))) X Z:=
 bF g fun M a aA b g=>bF g fun aM aL aK c g=>bF g fun bE d bD e g=>bJ g fun f h g=>bJ g fun i j g=>bJ g fun k l g=>bJ g fun m n g=>bV [(0,.slice M a aA),(1,.slice aM aL aK),(5,.slice bE d bD),(6,.int .i64 f),(7,.int .u64 i),(8,.int .u64 k),(9,.int .i64 m)] ⟨b,c,e,h,j,l,n,trivial⟩ (by kernel_rfl) g
def mF.t(Y:aF)(a:S→Nat→Nat→S→Nat→Nat→S→Nat→Nat→Int→U→Prop):Nat→S→Nat→Nat→S→Nat→Nat→S→Nat→Nat→Int→Int→Int→Int→U→Prop
 | 0=>fun _ _ _ _ _ _ _ _ _ _ _ _ _ _=>False
 | n+1=>fun M b aA aM aL aK bE c bD d e f g Z=>sV.t Y a (mF.t Y a n) M b aA aM aL aK bE c bD d e f g Z
theorem mF.ok(Y:aF)(a:S→Nat→Nat→S→Nat→Nat→S→Nat→Nat→Int→U→Prop)(X:Fr)(Z:U)(g:mF.g (fun M b aA aM aL aK bE c bD d e f h Z=>∃ n,mF.t Y a n M b aA aM aL aK bE c bD d e f h Z) X Z):den prog E (a6 aO [W,W,aJ,W,aJ,aJ,W,aJ,aJ,W,W,aJ,W,aJ]) (aV.inBlock 2 (aV.then (eZ.g Y a) (aV.inBlock 1 (aV.then (dD.g Y a) (aV.then (bU.g a) (aV.inBlock 0 (aV.then (a5.g Y) (bC E [.tmp 4] Y)))))))) X Z:=by
 obtain⟨M,b,aA,i,g⟩:=b2 g
 obtain⟨aM,aL,aK,j,g⟩:=b2 g
 obtain⟨bE,c,bD,k,g⟩:=b2 g
 obtain⟨d,l,g⟩:=bT g
 obtain⟨e,m,g⟩:=bT g
 obtain⟨f,o,g⟩:=bT g
 obtain⟨h,p,g⟩:=bT g
 obtain⟨n,g⟩:=g
 refine fF (fun n=>mF.g (mF.t Y a n)) (K:=(a6 aO [W,W,aJ,W,aJ,aJ,W,aJ,aJ,W,W,aJ,W,aJ,aJ])) (by kernel_rfl) (fun X Z g=>?_) (fun n=>sV.ok Y a (mF.t Y a n)) n X Z (bL i (bL j (bL k (b0 l (b0 m (b0 o (b0 p (g))))))))
 obtain⟨M,b,aA,i,g⟩:=b2 g
 obtain⟨aM,aL,aK,j,g⟩:=b2 g
 obtain⟨bE,c,bD,k,g⟩:=b2 g
 obtain⟨d,l,g⟩:=bT g
 obtain⟨e,m,g⟩:=bT g
 obtain⟨f,o,g⟩:=bT g
 obtain⟨h,p,g⟩:=bT g
 exact g
theorem oT.ok(Y:aF)(a:S→Nat→Nat→S→Nat→Nat→S→Nat→Nat→Int→U→Prop)(X:Fr)(Z:U)(g:mF.g (fun M b aA aM aL aK bE c bD d e f h Z=>∃ n,mF.t Y a n M b aA aM aL aK bE c bD d e f h Z) X Z):den prog E (a6 aO [W,W,aJ,W,aJ,aJ,W,aJ,aJ,W,W,aJ,W]) (aV.then (eZ.g Y a) (aV.inBlock 1 (aV.then (dD.g Y a) (aV.then (bU.g a) (aV.inBlock 0 (aV.then (a5.g Y) (bC E [.tmp 4] Y))))))) X Z:=
 e3 (by kernel_rfl) (mF.ok Y a X Z g)
def gS.t(Y:aF)(a:S→Nat→Nat→S→Nat→Nat→S→Nat→Nat→Int→U→Prop)(M:S)(b aA:Nat)(aM:S)(aL aK:Nat)(bE:S)(c bD:Nat)(d e f:Int)(Z:U):Prop:=
 (∃ n,mF.t Y a n M b aA aM aL aK bE c bD d e f 0 Z)
def gS.g(Y:aF)(a:S→Nat→Nat→S→Nat→Nat→S→Nat→Nat→Int→U→Prop)(X:Fr)(Z:U):Prop:=aR (X 0) fun M b aA=>aR (X 1) fun aM aL aK=>aR (X 5) fun bE c bD=>a0 .i64 (X 6) fun d=>a0 .u64 (X 7) fun e=>a0 .u64 (X 8) fun f=>gS.t Y a M b aA aM aL aK bE c bD d e f Z
theorem gS.ok(Y:aF)(a:S→Nat→Nat→S→Nat→Nat→S→Nat→Nat→Int→U→Prop)(X:Fr)(Z:U)(g:gS.g Y a X Z):den prog E (a6 aO [W,W,aJ,W,aJ,aJ,W,aJ,aJ,W,W,aJ]) (aV.then (eZ.g Y a) (aV.inBlock 1 (aV.then (dD.g Y a) (aV.then (bU.g a) (aV.inBlock 0 (aV.then (a5.g Y) (bC E [.tmp 4] Y))))))) X Z:=
 bF g fun M b aA c g=>bF g fun aM aL aK d g=>bF g fun bE e bD f g=>bJ g fun h i g=>bJ g fun j k g=>bJ g fun l m g=>c5 1 (r:=(a6 aO [W,W,aJ,W,aJ,aJ,W,aJ,aJ,W,W,aJ,W])) (by kernel_rfl) (oT.ok Y a) (bV [(0,.slice M b aA),(1,.slice aM aL aK),(5,.slice bE e bD),(6,.int .i64 h),(7,.int .u64 j),(8,.int .u64 l)] ⟨c,d,f,i,k,m,trivial⟩ (by kernel_rfl) g)
theorem sH.ok(Y:aF)(a:S→Nat→Nat→S→Nat→Nat→S→Nat→Nat→Int→U→Prop)(X:Fr)(Z:U)(g:gS.g Y a X Z):den prog E (a6 aO [W,W,aJ,W,aJ,aJ,W,aJ,aJ,W,W]) (aV.inBlock 1 (aV.then (dD.g Y a) (aV.then (bU.g a) (aV.inBlock 0 (aV.then (a5.g Y) (bC E [.tmp 4] Y)))))) X Z:=
 fP (by kernel_rfl) (eZ.ok Y a) (gS.ok Y a X Z g)
def eX.t(Y:aF)(a:S→Nat→Nat→S→Nat→Nat→S→Nat→Nat→Int→U→Prop)(M:S)(b aA:Nat)(aM:S)(aL aK:Nat)(bE:S)(c bD:Nat)(d:Int)(Z:U):Prop:=
 c6 M b d 1 fun e=>
 eO Z .u32 e fun e=>
 bB (IntKind.u64.wrap e) fun e=>
 gS.t Y a M b aA aM aL aK bE c bD d 0 e Z
def eX.g(Y:aF)(a:S→Nat→Nat→S→Nat→Nat→S→Nat→Nat→Int→U→Prop)(X:Fr)(Z:U):Prop:=aR (X 0) fun M b aA=>aR (X 1) fun aM aL aK=>aR (X 5) fun bE c bD=>a0 .i64 (X 6) fun d=>eX.t Y a M b aA aM aL aK bE c bD d Z
theorem eX.ok(Y:aF)(a:S→Nat→Nat→S→Nat→Nat→S→Nat→Nat→Int→U→Prop)(X:Fr)(Z:U)(g:eX.g Y a X Z):den prog E (a6 aO [W,W,aJ,W,aJ,aJ,W,aJ,aJ]) (aV.inBlock 1 (aV.then (dD.g Y a) (aV.then (bU.g a) (aV.inBlock 0 (aV.then (a5.g Y) (bC E [.tmp 4] Y)))))) X Z:=
 bF g fun M b aA c g=>bF g fun aM aL aK d g=>bF g fun bE e bD f g=>bJ g fun h i g=>c5 2 (r:=(a6 aO [W,W,aJ,W,aJ,aJ,W,aJ,aJ,W,W])) (by kernel_rfl) (sH.ok Y a) (bV [(0,.slice M b aA),(1,.slice aM aL aK),(5,.slice bE e bD),(6,.int .i64 h)] ⟨c,d,f,i,trivial⟩ (by kernel_rfl) g)
theorem qC.ok(Y:aF)(a:S→Nat→Nat→S→Nat→Nat→S→Nat→Nat→Int→U→Prop)(X:Fr)(Z:U)(g:eX.g Y a X Z):den prog E (a6 aO [W,W,aJ,W,aJ,aJ,W,aJ]) (aV.then (dD.g Y a) (aV.then (bU.g a) (aV.inBlock 0 (aV.then (a5.g Y) (bC E [.tmp 4] Y))))) X Z:=
 e3 (by kernel_rfl) (eX.ok Y a X Z g)
theorem wD.ok(Y:aF)(a:S→Nat→Nat→S→Nat→Nat→S→Nat→Nat→Int→U→Prop)(X:Fr)(Z:U)(g:eX.g Y a X Z):den prog E (a6 aO [W,W,aJ,W,aJ,aJ,W]) (aV.then (bU.g a) (aV.inBlock 0 (aV.then (a5.g Y) (bC E [.tmp 4] Y)))) X Z:=
 fP (by kernel_rfl) (dD.ok Y a) (qC.ok Y a X Z g)
def cH.t(Y:aF)(a:S→Nat→Nat→S→Nat→Nat→S→Nat→Nat→Int→U→Prop)(M:S)(b aA:Nat)(aM:S)(aL aK:Nat)(bE:S)(c bD:Nat)(d:Int)(Z:U):Prop:=
 cond (decide (d < (((b:Nat):Int)))) (eX.t Y a M b aA aM aL aK bE c bD d Z) (a5.t Y bE c bD Z)
def cH.g(Y:aF)(a:S→Nat→Nat→S→Nat→Nat→S→Nat→Nat→Int→U→Prop)(X:Fr)(Z:U):Prop:=aR (X 0) fun M b aA=>aR (X 1) fun aM aL aK=>aR (X 5) fun bE c bD=>a0 .i64 (X 6) fun d=>cH.t Y a M b aA aM aL aK bE c bD d Z
theorem cH.ok(Y:aF)(a:S→Nat→Nat→S→Nat→Nat→S→Nat→Nat→Int→U→Prop)(X:Fr)(Z:U)(g:cH.g Y a X Z):den prog E (a6 aO [W,W,aJ,W,aJ,aJ]) (aV.then (bU.g a) (aV.inBlock 0 (aV.then (a5.g Y) (bC E [.tmp 4] Y)))) X Z:=
 bF g fun M b aA c g=>bF g fun aM aL aK d g=>bF g fun bE e bD f g=>bJ g fun h i g=>c5 1 (r:=(a6 aO [W,W,aJ,W,aJ,aJ,W])) (by kernel_rfl) (wD.ok Y a) (bV [(0,.slice M b aA),(1,.slice aM aL aK),(5,.slice bE e bD),(6,.int .i64 h)] ⟨c,d,f,i,trivial⟩ (by kernel_rfl) g)
def bU.t(Y:aF):Nat→S→Nat→Nat→S→Nat→Nat→S→Nat→Nat→Int→U→Prop
 | 0=>fun _ _ _ _ _ _ _ _ _ _ _=>False
 | n+1=>fun M a aA aM aL aK bE b bD c Z=>cH.t Y (bU.t Y n) M a aA aM aL aK bE b bD c Z
theorem bU.ok(Y:aF)(X:Fr)(Z:U)(g:bU.g (fun M a aA aM aL aK bE b bD c Z=>∃ n,bU.t Y n M a aA aM aL aK bE b bD c Z) X Z):den prog E (a6 aO [W,W,aJ,W,aJ]) (aV.inBlock 0 (aV.then (a5.g Y) (bC E [.tmp 4] Y))) X Z:=by
 obtain⟨M,a,aA,d,g⟩:=b2 g
 obtain⟨aM,aL,aK,e,g⟩:=b2 g
 obtain⟨bE,b,bD,f,g⟩:=b2 g
 obtain⟨c,h,g⟩:=bT g
 obtain⟨n,g⟩:=g
 refine fF (fun n=>bU.g (bU.t Y n)) (K:=(a6 aO [W,W,aJ,W,aJ,aJ])) (by kernel_rfl) (fun X Z g=>?_) (fun n=>cH.ok Y (bU.t Y n)) n X Z (bL d (bL e (bL f (b0 h (g)))))
 obtain⟨M,a,aA,d,g⟩:=b2 g
 obtain⟨aM,aL,aK,e,g⟩:=b2 g
 obtain⟨bE,b,bD,f,g⟩:=b2 g
 obtain⟨c,h,g⟩:=bT g
 exact g
theorem DW.ok(Y:aF)(X:Fr)(Z:U)(g:bU.g (fun M a aA aM aL aK bE b bD c Z=>∃ n,bU.t Y n M a aA aM aL aK bE b bD c Z) X Z):den prog E (a6 aO [W,W,aJ,W]) (aV.then (a5.g Y) (bC E [.tmp 4] Y)) X Z:=
 e3 (by kernel_rfl) (bU.ok Y X Z g)
def bM.t(Y:aF)(M:S)(a aA:Nat)(aM:S)(aL aK:Nat)(bE:S)(b bD:Nat)(Z:U):Prop:=
 (∃ n,bU.t Y n M a aA aM aL aK bE b bD 0 Z)
def bM.g(Y:aF)(X:Fr)(Z:U):Prop:=aR (X 0) fun M a aA=>aR (X 1) fun aM aL aK=>aR (X 5) fun bE b bD=>bM.t Y M a aA aM aL aK bE b bD Z
theorem bM.ok(Y:aF)(X:Fr)(Z:U)(g:bM.g Y X Z):den prog E (a6 aO [W,W,aJ]) (aV.then (a5.g Y) (bC E [.tmp 4] Y)) X Z:=
 bF g fun M a aA b g=>bF g fun aM aL aK c g=>bF g fun bE d bD e g=>c5 1 (r:=(a6 aO [W,W,aJ,W])) (by kernel_rfl) (DW.ok Y) (bV [(0,.slice M a aA),(1,.slice aM aL aK),(5,.slice bE d bD)] ⟨b,c,e,trivial⟩ (by kernel_rfl) g)
theorem P4.ok(Y:aF)(X:Fr)(Z:U)(g:bM.g Y X Z):den prog E (a6 aO [W,W]) (bC E [.tmp 4] Y) X Z:=
 fP (by kernel_rfl) (a5.ok Y) (bM.ok Y X Z g)
def aP.t(Y:aF)(M:S)(a aA:Nat)(aM:S)(aL aK:Nat)(Z:U):Prop:=
 bB (IntKind.i64.wrap ((((a:Nat):Int))+(((aL:Nat):Int)))) fun eF=>
 iS Z 89 iW eF eF fun e7 b=>
 bM.t Y M a aA aM aL aK (some e7) eF.toNat eF.toNat b
def aP.g(Y:aF)(X:Fr)(Z:U):Prop:=aR (X 0) fun M a aA=>aR (X 1) fun aM aL aK=>aP.t Y M a aA aM aL aK Z
theorem aP.ok(Y:aF)(X:Fr)(Z:U)(g:aP.g Y X Z):den prog E aO (bC E [.tmp 4] Y) X Z:=
 bF g fun M a aA b g=>bF g fun aM aL aK c g=>c5 2 (r:=(a6 aO [W,W])) (by kernel_rfl) (P4.ok Y) (bV [(0,.slice M a aA),(1,.slice aM aL aK)] ⟨b,c,trivial⟩ (by kernel_rfl) g)
def t(M:S)(a aA:Nat)(aM:S)(aL aK:Nat)(Z:U)(Y:aF):Prop:=aP.t Y M a aA aM aL aK Z
theorem ok{M:S}{a:Nat}{aA:Nat}{aM:S}{aL:Nat}{aK:Nat}{Z:U}{Y:aF}(g:t M a aA aM aL aK Z Y):a4 id #[.slice M a aA,.slice aM aL aK] Z Y:=
 eD dT (c:=aO) (dH:=[.tmp 4]) Tryz.func40 (by kernel_rfl) (by kernel_rfl) (by kernel_rfl) (args:=[.slice M a aA,.slice aM aL aK]) (by kernel_rfl) (aP.ok Y _ Z (bL rfl (bL rfl (g))))
end hS
namespace qB
noncomputable def aO:Code:=dY Tryz.f41
def bM.t(Y:aF)(a:S)(b c:Nat)(d:S)(e f:Nat)(Z:U):Prop:=
 a4 g0.id #[.slice a b c,.slice d e f] Z fun a b=>
 aR a fun a c d=>
 a4 rM.id #[.slice a c d] b fun a b=>
 cW a fun a=>
 dP a .u64 fun a c=>
 fT c fun c c=>
 b9 c <| Y (.int .u64 a) b
def bM.g(Y:aF)(X:Fr)(Z:U):Prop:=aR (X 10) fun a b c=>aR (X 14) fun d e f=>bM.t Y a b c d e f Z
theorem bM.ok(Y:aF)(X:Fr)(Z:U)(g:bM.g Y X Z):den prog E (a6 aO [W,W,W,W,W,W,W,W,W,W,W,W,W,W]) (bC E [.tmp 4] Y) X Z:=
 bF g fun a b c d g=>bF g fun e f h i g=>bV [(10,.slice a b c),(14,.slice e f h)] ⟨d,i,trivial⟩ (by kernel_rfl) g
def a5.t(Y:aF)(aY aS a:Int)(Z:U):Prop:=
 bB (IntKind.i64.wrap (2*a)) fun b=>
 bB (IntKind.i64.wrap (b+1)) fun b=>
 a4 oO.id #[.int .i64 b] Z fun b c=>
 aR b fun b d e=>
 a4 pF.id #[.int .i64 a] c fun c f=>
 aR c fun c g h=>
 a4 hY.id #[.slice b d e,.slice c g h] f fun b c=>
 cW b fun b=>
 cU b fun b d e f=>
 cU f fun f f f f=>
 b9 f <| a4 oO.id #[.int .i64 320] c fun c f=>
 aR c fun c g h=>
 bB (IntKind.i64.wrap (a - aS)) fun a=>
 bB (IntKind.i64.wrap (a - 320)) fun a=>
 a4 lK.id #[.slice b d e,.int .i64 a] f fun a b=>
 aR a fun a d e=>
 a4 kG.id #[.slice a d e,.int .i64 320] b fun a b=>
 aR a fun a d e=>
 bB (IntKind.i64.wrap (aY - 1)) fun f=>
 a4 oO.id #[.int .i64 f] b fun b f=>
 aR b fun b i j=>
 a4 gN.id #[.int .u64 1] f fun f k=>
 aR f fun f l m=>
 a4 hE.id #[.slice b i j,.slice f l m] k fun f k=>
 aR f fun f l m=>
 a4 hS.id #[.slice a d e,.slice b i j] k fun k n=>
 aR k fun k o p=>
 a4 kG.id #[.slice k o p,.int .i64 320] n fun k n=>
 aR k fun k o p=>
 a4 nD.id #[.slice f l m,.slice c g h,.slice a d e,.slice k o p] n fun n q=>
 cW n fun n=>
 cU n fun n r s u=>
 cU u fun u v w x=>
 b9 x <| a4 hE.id #[.slice c g h,.slice a d e] q fun a d=>
 aR a fun a e q=>
 a4 kG.id #[.slice a e q,.int .i64 320] d fun a d=>
 aR a fun a e q=>
 a4 hE.id #[.slice c g h,.slice k o p] d fun d k=>
 aR d fun d o p=>
 a4 kG.id #[.slice d o p,.int .i64 320] k fun d k=>
 aR d fun d o p=>
 a4 nD.id #[.slice f l m,.slice c g h,.slice a e q,.slice d o p] k fun a c=>
 cW a fun a=>
 cU a fun a d e f=>
 cU f fun f g h k=>
 b9 k <| a4 jN.id #[.slice a d e,.slice n r s] c fun a c=>
 a0 .i64 a fun a=>
 cond (decide (a < 0)) (bM.t Y b i j f g h c) (bM.t Y b i j u v w c)
def a5.g(Y:aF)(X:Fr)(Z:U):Prop:=a0 .i64 (X 0) fun aY=>a0 .i64 (X 1) fun aS=>a0 .i64 (X 5) fun a=>a5.t Y aY aS a Z
theorem a5.ok(Y:aF)(X:Fr)(Z:U)(g:a5.g Y X Z):den prog E (a6 aO [W,W,W,W]) (bC E [.tmp 4] Y) X Z:=
 bJ g fun aY a g=>bJ g fun aS b g=>bJ g fun c d g=>c5 10 (r:=(a6 aO [W,W,W,W,W,W,W,W,W,W,W,W,W,W])) (by kernel_rfl) (bM.ok Y) (bV [(0,.int .i64 aY),(1,.int .i64 aS),(5,.int .i64 c)] ⟨a,b,d,trivial⟩ (by kernel_rfl) g)
def aP.t(Y:aF)(aY aS:Int)(Z:U):Prop:=
 bB (IntKind.i64.wrap (aY+aS)) fun eF=>
 cond (decide (eF≤0)) (0≤aY∧bB (iQ .u64 1 aY) fun a=>
 bB (IntKind.u64.wrap (a - 1)) fun a=>
 Y (.int .u64 a) Z) (bB (IntKind.i64.wrap (320+aS)) fun a=>
 bB (IntKind.i64.wrap (a+64)) fun a=>
 cond (decide (a < 64)) (a5.t Y aY aS 64 Z) (a5.t Y aY aS a Z))
def aP.g(Y:aF)(X:Fr)(Z:U):Prop:=a0 .i64 (X 0) fun aY=>a0 .i64 (X 1) fun aS=>aP.t Y aY aS Z
theorem aP.ok(Y:aF)(X:Fr)(Z:U)(g:aP.g Y X Z):den prog E aO (bC E [.tmp 4] Y) X Z:=
 bJ g fun aY a g=>bJ g fun aS b g=>c5 4 (r:=(a6 aO [W,W,W,W])) (by kernel_rfl) (a5.ok Y) (bV [(0,.int .i64 aY),(1,.int .i64 aS)] ⟨a,b,trivial⟩ (by kernel_rfl) g)
def t(aY aS:Int)(Z:U)(Y:aF):Prop:=aP.t Y aY aS Z
theorem ok{aY:Int}{aS:Int}{Z:U}{Y:aF}(g:t aY aS Z Y):a4 id #[.int .i64 aY,.int .i64 aS] Z Y:=
 eD dT (c:=aO) (dH:=[.tmp 4]) Tryz.func41 (by kernel_rfl) (by kernel_rfl) (by kernel_rfl) (args:=[.int .i64 aY,.int .i64 aS]) (by kernel_rfl) (aP.ok Y _ Z (b0 rfl (b0 rfl (g))))
end qB
namespace k8
noncomputable def aO:Code:=dY Tryz.f42
def a5.t(Y:aF)(a:Int)(Z:U):Prop:=
 Y (.int .i64 a) Z
def a5.g(Y:aF)(X:Fr)(Z:U):Prop:=a0 .i64 (X 3) fun a=>a5.t Y a Z
theorem a5.ok(Y:aF)(X:Fr)(Z:U)(g:a5.g Y X Z):den prog E (a6 aO [W,W,W,W]) (bC E [.tmp 2] Y) X Z:=
 bJ g fun a b g=>bV [(3,.int .i64 a)] ⟨b,trivial⟩ (by kernel_rfl) g
def bU.g(bP:Int→Int→U→Prop)(X:Fr)(Z:U):Prop:=a0 .i64 (X 3) fun a=>a0 .u32 (X 4) fun b=>bP a b Z
def cH.t(Y:aF)(a:Int→Int→U→Prop)(b c:Int)(Z:U):Prop:=
 cond (decide (c > 0)) (bB (IntKind.i64.wrap (b+1)) fun d=>
 (2:Int) ≠ 0∧bB (IntKind.u32.wrap (Int.tdiv c 2)) fun c=>
 a d c Z) (a5.t Y b Z)
def cH.g(Y:aF)(a:Int→Int→U→Prop)(X:Fr)(Z:U):Prop:=a0 .i64 (X 3) fun b=>a0 .u32 (X 4) fun c=>cH.t Y a b c Z
theorem cH.ok(Y:aF)(a:Int→Int→U→Prop)(X:Fr)(Z:U)(g:cH.g Y a X Z):den prog E (a6 aO [W,W,W,aJ,W,aJ,aJ]) (aV.then (bU.g a) (aV.inBlock 0 (aV.then (a5.g Y) (bC E [.tmp 2] Y)))) X Z:=
 bJ g fun a b g=>bJ g fun c d g=>bV [(3,.int .i64 a),(4,.int .u32 c)] ⟨b,d,trivial⟩ (by kernel_rfl) g
def bU.t(Y:aF):Nat→Int→Int→U→Prop
 | 0=>fun _ _ _=>False
 | n+1=>fun a b Z=>cH.t Y (bU.t Y n) a b Z
theorem bU.ok(Y:aF)(X:Fr)(Z:U)(g:bU.g (fun a b Z=>∃ n,bU.t Y n a b Z) X Z):den prog E (a6 aO [W,W,W,aJ,W,aJ]) (aV.inBlock 0 (aV.then (a5.g Y) (bC E [.tmp 2] Y))) X Z:=by
 obtain⟨a,c,g⟩:=bT g
 obtain⟨b,d,g⟩:=bT g
 obtain⟨n,g⟩:=g
 refine fF (fun n=>bU.g (bU.t Y n)) (K:=(a6 aO [W,W,W,aJ,W,aJ,aJ])) (by kernel_rfl) (fun X Z g=>?_) (fun n=>cH.ok Y (bU.t Y n)) n X Z (b0 c (b0 d (g)))
 obtain⟨a,c,g⟩:=bT g
 obtain⟨b,d,g⟩:=bT g
 exact g
theorem hM.ok(Y:aF)(X:Fr)(Z:U)(g:bU.g (fun a b Z=>∃ n,bU.t Y n a b Z) X Z):den prog E (a6 aO [W,W,W,aJ,W]) (aV.then (a5.g Y) (bC E [.tmp 2] Y)) X Z:=
 e3 (by kernel_rfl) (bU.ok Y X Z g)
def bM.t(Y:aF)(M:S)(a aA:Nat)(b:Int)(Z:U):Prop:=
 bB (IntKind.i64.wrap ((((a:Nat):Int)) - 1)) fun c=>
 c6 M a c 1 fun eH=>
 eO Z .u32 eH fun a=>
 (∃ n,bU.t Y n b a Z)
def bM.g(Y:aF)(X:Fr)(Z:U):Prop:=aR (X 0) fun M a aA=>a0 .i64 (X 3) fun b=>bM.t Y M a aA b Z
theorem bM.ok(Y:aF)(X:Fr)(Z:U)(g:bM.g Y X Z):den prog E (a6 aO [W,W,W,aJ]) (aV.then (a5.g Y) (bC E [.tmp 2] Y)) X Z:=
 bF g fun M a aA b g=>bJ g fun c d g=>c5 1 (r:=(a6 aO [W,W,W,aJ,W])) (by kernel_rfl) (hM.ok Y) (bV [(0,.slice M a aA),(3,.int .i64 c)] ⟨b,d,trivial⟩ (by kernel_rfl) g)
theorem hN.ok(Y:aF)(X:Fr)(Z:U)(g:bM.g Y X Z):den prog E (a6 aO [W,W,W]) (bC E [.tmp 2] Y) X Z:=
 fP (by kernel_rfl) (a5.ok Y) (bM.ok Y X Z g)
def aP.t(Y:aF)(M:S)(a aA:Nat)(Z:U):Prop:=
 cond ((((a:Nat):Int)) == 0) (Y (.int .i64 0) Z) (bB (IntKind.i64.wrap ((((a:Nat):Int)) - 1)) fun eF=>
 bB (IntKind.i64.wrap (32*eF)) fun b=>
 bM.t Y M a aA b Z)
def aP.g(Y:aF)(X:Fr)(Z:U):Prop:=aR (X 0) fun M a aA=>aP.t Y M a aA Z
theorem aP.ok(Y:aF)(X:Fr)(Z:U)(g:aP.g Y X Z):den prog E aO (bC E [.tmp 2] Y) X Z:=
 bF g fun M a aA b g=>c5 3 (r:=(a6 aO [W,W,W])) (by kernel_rfl) (hN.ok Y) (bV [(0,.slice M a aA)] ⟨b,trivial⟩ (by kernel_rfl) g)
def t(M:S)(a aA:Nat)(Z:U)(Y:aF):Prop:=aP.t Y M a aA Z
theorem ok{M:S}{a:Nat}{aA:Nat}{Z:U}{Y:aF}(g:t M a aA Z Y):a4 id #[.slice M a aA] Z Y:=
 eD dT (c:=aO) (dH:=[.tmp 2]) Tryz.func42 (by kernel_rfl) (by kernel_rfl) (by kernel_rfl) (args:=[.slice M a aA]) (by kernel_rfl) (aP.ok Y _ Z (bL rfl (g)))
end k8
namespace pJ
noncomputable def aO:Code:=dY Tryz.f43
def aP.t(Y:aF)(aY aS:Int)(Z:U):Prop:=
 bB (IntKind.i64.wrap (aY+1)) fun eF=>
 bB (IntKind.u64.wrap eF) fun a=>
 0≤(24:Int)∧bB (iQ .u64 a 24) fun a=>
 bB (IntKind.u64.wrap (11944390636716687360+a)) fun a=>
 bB (IntKind.u64.wrap aS) fun b=>
 bB (IntKind.u64.wrap (a+b)) fun a=>
 Y (.int .u64 a) Z
def aP.g(Y:aF)(X:Fr)(Z:U):Prop:=a0 .i64 (X 0) fun aY=>a0 .i64 (X 1) fun aS=>aP.t Y aY aS Z
theorem aP.ok(Y:aF)(X:Fr)(Z:U)(g:aP.g Y X Z):den prog E aO (bC E [.tmp 4] Y) X Z:=
 bJ g fun aY a g=>bJ g fun aS b g=>bV [(0,.int .i64 aY),(1,.int .i64 aS)] ⟨a,b,trivial⟩ (by kernel_rfl) g
def t(aY aS:Int)(Z:U)(Y:aF):Prop:=aP.t Y aY aS Z
theorem ok{aY:Int}{aS:Int}{Z:U}{Y:aF}(g:t aY aS Z Y):a4 id #[.int .i64 aY,.int .i64 aS] Z Y:=
 eD dT (c:=aO) (dH:=[.tmp 4]) Tryz.func43 (by kernel_rfl) (by kernel_rfl) (by kernel_rfl) (args:=[.int .i64 aY,.int .i64 aS]) (by kernel_rfl) (aP.ok Y _ Z (b0 rfl (b0 rfl (g))))
end pJ
end Go.Proofs.YtjijdlkpmngolaaGreat.G
