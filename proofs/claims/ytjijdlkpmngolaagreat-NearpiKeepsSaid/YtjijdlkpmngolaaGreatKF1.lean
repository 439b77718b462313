import Derived.Test.YtjijdlkpmngolaaGreatKE
set_option linter.unusedVariables false
namespace Go.Proofs.YtjijdlkpmngolaaGreat.G
open Go.Gv
set_option linter.unusedVariables false
set_option maxRecDepth 100000
namespace oS
noncomputable def aO:Code:=dY Tryz.f44
def bM.t(Y:aF)(a b:Addr)(c:Int)(d e f:Addr)(Z:U):Prop:=
 f.block < Z.size∧eT Z (f.add 0) fun g=>
 dQ Z (f.add 1) fun h i j=>
 d.block < Z.size∧eT Z (d.add 0) fun k=>
 dQ Z (d.add 1) fun d l m=>
 a4 lZ.id #[.agg #[.bool k,.slice d l m],.int .i64 1] Z fun d k=>
 eQ d fun d=>
 fT d fun d l=>
 cU l fun l m n o=>
 b9 o <| (e4 Z.size Z k)∧f.block < Z.size∧eT k (f.add 0) fun o=>
 dQ k (f.add 1) fun f p q=>
 e.block < Z.size∧eT k (e.add 0) fun r=>
 dQ k (e.add 1) fun e s u=>
 a4 p0.id #[.agg #[.bool o,.slice f p q],.agg #[.bool r,.slice e s u]] k fun e f=>
 eQ e fun e=>
 fT e fun e o=>
 cU o fun o p q r=>
 b9 r <| (e4 Z.size k f)∧a4 l0.id #[.agg #[.bool d,.slice l m n],.agg #[.bool e,.slice o p q]] f fun d e=>
 eQ d fun d=>
 fT d fun d k=>
 cU k fun k l m n=>
 b9 n <| (e4 Z.size f e)∧bB (IntKind.i64.wrap (c+1)) fun c=>
 a4 m3.id #[.agg #[.bool d,.slice k l m],.int .i64 c] e fun c d=>
 eQ c fun c=>
 fT c fun c f=>
 cU f fun f k l m=>
 b9 m <| (e4 Z.size e d)∧cM d (a.add 0) (.bool g) fun d=>
 cM d (a.add 1) (.slice h i j) fun d=>
 cM d (b.add 0) (.bool c) fun c=>
 cM c (b.add 1) (.slice f k l) fun c=>
 eT c (a.add 0) fun d=>
 dQ c (a.add 1) fun a e f=>
 eT c (b.add 0) fun g=>
 dQ c (b.add 1) fun b h i=>
 Y (.tuple #[.agg #[.bool d,.slice a e f],.agg #[.bool g,.slice b h i]]) c
def bM.g(Y:aF)(X:Fr)(Z:U):Prop:=gW (X 6) fun a=>gW (X 7) fun b=>a0 .i64 (X 8) fun c=>gW (X 10) fun d=>gW (X 11) fun e=>gW (X 12) fun f=>bM.t Y a b c d e f Z
theorem bM.ok(Y:aF)(X:Fr)(Z:U)(g:bM.g Y X Z):den prog E (a6 aO [W,W,W,W,W,W,W]) (bC E [.cell 6 82,.cell 7 82] Y) X Z:=
 iE g fun a b g=>iE g fun c d g=>bJ g fun e f g=>iE g fun h i g=>iE g fun j k g=>iE g fun l m g=>bV [(6,.pointer (some a)),(7,.pointer (some c)),(8,.int .i64 e),(10,.pointer (some h)),(11,.pointer (some j)),(12,.pointer (some l))] ⟨b,d,f,i,k,m,trivial⟩ (by kernel_rfl) g
def a5.t(Y:aF)(a b:Addr)(c d:Int)(e:Addr)(Z:U):Prop:=
 a4 pF.id #[.int .i64 d] Z fun d f=>
 aR d fun d g h=>
 a4 gE.id #[.bool false,.slice d g h] f fun d f=>
 eQ d fun d=>
 fT d fun d g=>
 cU g fun g h i j=>
 b9 j <| dX f 82 iI.a9 fun f j=>
 cM j (f.add 0) (.bool d) fun d=>
 cM d (f.add 1) (.slice g h i) fun d=>
 e.block < d.size∧eT d (e.add 0) fun g=>
 dQ d (e.add 1) fun h i j=>
 f.block < d.size∧eT d (f.add 0) fun k=>
 dQ d (f.add 1) fun l m n=>
 (a4 lZ.id #[.agg #[.bool g,.slice h i j],.int .i64 1] d fun o p=>
 eQ o fun o=>
 fT o fun o q=>
 cU q fun q r s u=>
 b9 u <| (e4 d.size d p)∧(a4 mJ.id #[.agg #[.bool o,.slice q r s],.agg #[.bool k,.slice l m n]] p fun u v=>
 eQ u fun u=>
 fT u fun u w=>
 cU w fun w x y z=>
 b9 z <| (e4 d.size p v)∧dX v 82 iI.a9 fun z A=>
 (e4 d.size v A)∧cM A (z.add 0) (.bool u) fun A=>
 cM A (z.add 1) (.slice w x y) fun A=>
 bM.t Y a b c e f z A)∧(dX p 82 iI.a9 fun A u=>
 (e4 d.size p u)∧a4 mJ.id #[.agg #[.bool o,.slice q r s],.agg #[.bool k,.slice l m n]] u fun o p=>
 eQ o fun o=>
 fT o fun o q=>
 cU q fun q r s v=>
 b9 v <| (e4 d.size u p)∧cM p (A.add 0) (.bool o) fun o=>
 cM o (A.add 1) (.slice q r s) fun o=>
 bM.t Y a b c e f A o))∧(dX d 82 iI.a9 fun A o=>
 (e4 d.size d o)∧a4 lZ.id #[.agg #[.bool g,.slice h i j],.int .i64 1] o fun g h=>
 eQ g fun g=>
 fT g fun g i=>
 cU i fun i j p q=>
 b9 q <| (e4 d.size o h)∧a4 mJ.id #[.agg #[.bool g,.slice i j p],.agg #[.bool k,.slice l m n]] h fun g i=>
 eQ g fun g=>
 fT g fun g j=>
 cU j fun j k l m=>
 b9 m <| (e4 d.size h i)∧cM i (A.add 0) (.bool g) fun d=>
 cM d (A.add 1) (.slice j k l) fun d=>
 bM.t Y a b c e f A d)
def a5.g(Y:aF)(X:Fr)(Z:U):Prop:=gW (X 6) fun a=>gW (X 7) fun b=>a0 .i64 (X 8) fun c=>a0 .i64 (X 9) fun d=>gW (X 10) fun e=>a5.t Y a b c d e Z
theorem a5.ok(Y:aF)(X:Fr)(Z:U)(g:a5.g Y X Z):den prog E (a6 aO [W,W,W,W,W]) (bC E [.cell 6 82,.cell 7 82] Y) X Z:=
 iE g fun a b g=>iE g fun c d g=>bJ g fun e f g=>bJ g fun h i g=>iE g fun j k g=>c5 2 (r:=(a6 aO [W,W,W,W,W,W,W])) (by kernel_rfl) (bM.ok Y) (bV [(6,.pointer (some a)),(7,.pointer (some c)),(8,.int .i64 e),(9,.int .i64 h),(10,.pointer (some j))] ⟨b,d,f,i,k,trivial⟩ (by kernel_rfl) g)
def aP.t(Y:aF)(a:Bool)(b:S)(c d:Nat)(aS e:Int)(Z:U):Prop:=
 dX Z 82 [.bool a,.slice b c d] fun cQ a=>
 dX a 82 iI.a9 fun a b=>
 dX b 82 iI.a9 fun b c=>
 dQ c (cQ.add 1) fun d f g=>
 a4 k8.id #[.slice d f g] c fun c fV=>
 a0 .i64 c fun c=>
 bB (IntKind.i64.wrap (c+aS)) fun c=>
 bB (IntKind.i64.wrap ((if c > 0 then c else 0)+4)) fun c=>
 bB (IntKind.i64.wrap (e+c)) fun d=>
 eT fV (cQ.add 0) fun f=>
 dQ fV (cQ.add 1) fun g h i=>
 bB (IntKind.i64.wrap (aS+d)) fun j=>
 a4 uK.id #[.agg #[.bool f,.slice g h i],.int .i64 j] fV fun f g=>
 eQ f fun f=>
 fT f fun f h=>
 cU h fun h i j k=>
 b9 k <| dX g 82 iI.a9 fun g k=>
 cM k (g.add 0) (.bool f) fun f=>
 cM f (g.add 1) (.slice h i j) fun f=>
 cond (c == 4) (eT f (g.add 0) fun h=>
 dQ f (g.add 1) fun i j k=>
 a4 v5.id #[.agg #[.bool h,.slice i j k]] f fun h i=>
 eQ h fun h=>
 fT h fun h j=>
 cU j fun j k l m=>
 b9 m <| a4 lZ.id #[.agg #[.bool h,.slice j k l],.int .i64 2] i fun h i=>
 eQ h fun h=>
 fT h fun h j=>
 cU j fun j k l m=>
 b9 m <| a4 oO.id #[.int .i64 d] i fun i m=>
 aR i fun i n o=>
 a4 k9.id #[.slice i n o,.int .u32 3,.int .u32 0] m fun i m=>
 aR i fun i n o=>
 a4 gE.id #[.bool false,.slice i n o] m fun i m=>
 eQ i fun i=>
 fT i fun i n=>
 cU n fun n o p q=>
 b9 q <| a4 m2.id #[.agg #[.bool h,.slice j k l],.agg #[.bool i,.slice n o p]] m fun h i=>
 a0 .i64 h fun h=>
 cond (decide (h≤0)) (eT i (cQ.add 0) fun h=>
 dQ i (cQ.add 1) fun j k l=>
 bB (IntKind.i64.wrap (aS+e)) fun e=>
 a4 uK.id #[.agg #[.bool h,.slice j k l],.int .i64 e] i fun e h=>
 eQ e fun e=>
 fT e fun e j=>
 cU j fun j k l m=>
 b9 m <| cM h (a.add 0) (.bool false) fun h=>
 cM h (a.add 1) (.slice none 0 0) fun h=>
 cM h (b.add 0) (.bool e) fun e=>
 cM e (b.add 1) (.slice j k l) fun e=>
 eT e (a.add 0) fun h=>
 dQ e (a.add 1) fun j k l=>
 eT e (b.add 0) fun m=>
 dQ e (b.add 1) fun n o p=>
 Y (.tuple #[.agg #[.bool h,.slice j k l],.agg #[.bool m,.slice n o p]]) e) (a5.t Y a b c d g i)) (a5.t Y a b c d g f)
def aP.g(Y:aF)(X:Fr)(Z:U):Prop:=eQ (X 0) fun a=>cV a fun a b=>eU a fun a=>cV b fun b c=>aR b fun b d e=>b9 c <| a0 .i64 (X 1) fun aS=>a0 .i64 (X 2) fun c=>aP.t Y a b d e aS c Z
theorem aP.ok(Y:aF)(X:Fr)(Z:U)(g:aP.g Y X Z):den prog E aO (bC E [.cell 6 82,.cell 7 82] Y) X Z:=by
 obtain⟨o,a,b⟩:=j4 g
 obtain⟨p,q,rfl,c⟩:=gG b
 obtain⟨d,rfl,e⟩:=jH c
 obtain⟨s,t,rfl,f⟩:=gG e
 obtain⟨h,i,j,rfl,k⟩:=b2 f
 obtain⟨rfl,g⟩:=iT k
 obtain⟨aS,l,g⟩:=bT g
 obtain⟨m,n,g⟩:=bT g
 exact c5 5 (r:=(a6 aO [W,W,W,W,W])) (by kernel_rfl) (a5.ok Y) (bV [(0,.agg #[.bool d,.slice h i j]),(1,.int .i64 aS),(2,.int .i64 m)] ⟨a,l,n,trivial⟩ (by kernel_rfl) g)
def t(a:Bool)(b:S)(c d:Nat)(aS e:Int)(Z:U)(Y:aF):Prop:=aP.t Y a b c d aS e Z
theorem ok{a:Bool}{b:S}{d:Nat}{e:Nat}{aS:Int}{f:Int}{Z:U}{Y:aF}(g:t a b d e aS f Z Y):a4 id #[.agg #[.bool a,.slice b d e],.int .i64 aS,.int .i64 f] Z Y:=
 eD dT (c:=aO) (dH:=[.cell 6 82,.cell 7 82]) Tryz.func44 (by kernel_rfl) (by kernel_rfl) (by kernel_rfl) (args:=[.agg #[.bool a,.slice b d e],.int .i64 aS,.int .i64 f]) (by kernel_rfl) (aP.ok Y _ Z (fH rfl (cS (dB rfl (cS (bL rfl (eG (b0 rfl (b0 rfl (g))))))))))
end oS
namespace gE
noncomputable def aO:Code:=dY Tryz.f45
def aP.t(Y:aF)(a:Bool)(aM:S)(aL aK:Nat)(Z:U):Prop:=
 dX Z 82 iI.a9 fun cQ b=>
 a4 g6.id #[.slice aM aL aK] b fun b c=>
 aR b fun b d e=>
 cond a (cM c (cQ.add 0) (.bool (decide ((((d:Nat):Int)) > 0))) fun a=>
 cM a (cQ.add 1) (.slice b d e) fun a=>
 eT a (cQ.add 0) fun f=>
 dQ a (cQ.add 1) fun g h i=>
 Y (.agg #[.bool f,.slice g h i]) a) (cM c (cQ.add 0) (.bool false) fun a=>
 cM a (cQ.add 1) (.slice b d e) fun a=>
 eT a (cQ.add 0) fun b=>
 dQ a (cQ.add 1) fun c d e=>
 Y (.agg #[.bool b,.slice c d e]) a)
def aP.g(Y:aF)(X:Fr)(Z:U):Prop:=eU (X 0) fun a=>aR (X 1) fun aM aL aK=>aP.t Y a aM aL aK Z
theorem aP.ok(Y:aF)(X:Fr)(Z:U)(g:aP.g Y X Z):den prog E aO (bC E [.cell 4 82] Y) X Z:=
 yM g fun a b g=>bF g fun aM aL aK c g=>bV [(0,.bool a),(1,.slice aM aL aK)] ⟨b,c,trivial⟩ (by kernel_rfl) g
def t(a:Bool)(aM:S)(aL aK:Nat)(Z:U)(Y:aF):Prop:=aP.t Y a aM aL aK Z
theorem ok{a:Bool}{aM:S}{aL:Nat}{aK:Nat}{Z:U}{Y:aF}(g:t a aM aL aK Z Y):a4 id #[.bool a,.slice aM aL aK] Z Y:=
 eD dT (c:=aO) (dH:=[.cell 4 82]) Tryz.func45 (by kernel_rfl) (by kernel_rfl) (by kernel_rfl) (args:=[.bool a,.slice aM aL aK]) (by kernel_rfl) (aP.ok Y _ Z (dB rfl (bL rfl (g))))
end gE
namespace lD
noncomputable def aO:Code:=dY Tryz.f46
def aP.t(Y:aF)(a:Bool)(b:S)(c d:Nat)(Z:U):Prop:=
 dX Z 82 [.bool a,.slice b c d] fun cQ a=>
 dQ a (cQ.add 1) fun b b c=>
 cond ((((b:Nat):Int)) == 0) (Y (.int .i64 0) a) (eT a (cQ.add 0) fun b=>
 cond b (Y (.int .i64 (-1)) a) (Y (.int .i64 1) a))
def aP.g(Y:aF)(X:Fr)(Z:U):Prop:=eQ (X 0) fun a=>cV a fun a b=>eU a fun a=>cV b fun b c=>aR b fun b d e=>b9 c <| aP.t Y a b d e Z
theorem aP.ok(Y:aF)(X:Fr)(Z:U)(g:aP.g Y X Z):den prog E aO (bC E [.tmp 2] Y) X Z:=by
 obtain⟨l,a,b⟩:=j4 g
 obtain⟨m,n,rfl,c⟩:=gG b
 obtain⟨d,rfl,e⟩:=jH c
 obtain⟨o,p,rfl,f⟩:=gG e
 obtain⟨h,i,j,rfl,k⟩:=b2 f
 obtain⟨rfl,g⟩:=iT k
 exact bV [(0,.agg #[.bool d,.slice h i j])] ⟨a,trivial⟩ (by kernel_rfl) g
def t(a:Bool)(b:S)(c d:Nat)(Z:U)(Y:aF):Prop:=aP.t Y a b c d Z
theorem ok{a:Bool}{b:S}{d:Nat}{e:Nat}{Z:U}{Y:aF}(g:t a b d e Z Y):a4 id #[.agg #[.bool a,.slice b d e]] Z Y:=
 eD dT (c:=aO) (dH:=[.tmp 2]) Tryz.func46 (by kernel_rfl) (by kernel_rfl) (by kernel_rfl) (args:=[.agg #[.bool a,.slice b d e]]) (by kernel_rfl) (aP.ok Y _ Z (fH rfl (cS (dB rfl (cS (bL rfl (eG (g))))))))
end lD
namespace lK
noncomputable def aO:Code:=dY Tryz.f47
def aP.t(Y:aF)(M:S)(a aA:Nat)(aS:Int)(Z:U):Prop:=
 cond (decide (aS≤0)) (a4 g6.id #[.slice M a aA] Z fun b c=>
 aR b fun b d e=>
 Y (.slice b d e) c) ((32:Int) ≠ 0∧bB (IntKind.i64.wrap (Int.tdiv aS 32)) fun b=>
 cond (decide (b≥(((a:Nat):Int)))) (a4 gN.id #[.int .u64 0] Z fun b c=>
 aR b fun b d e=>
 Y (.slice b d e) c) ((32:Int) ≠ 0∧bB (IntKind.i64.wrap (Int.tdiv aS 32)) fun b=>
 iR 1 M a aA (some (.int .i64 b)) none none fun a b c=>
 (32:Int) ≠ 0∧bB (Int.tmod aS 32) fun d=>
 0≤d∧bB (iQ .u32 1 d) fun d=>
 a4 j9.id #[.slice a b c,.int .u32 d] Z fun a b=>
 cW a fun a=>
 cU a fun a c d e=>
 dP e .u32 fun e e=>
 b9 e <| Y (.slice a c d) b))
def aP.g(Y:aF)(X:Fr)(Z:U):Prop:=aR (X 0) fun M a aA=>a0 .i64 (X 1) fun aS=>aP.t Y M a aA aS Z
theorem aP.ok(Y:aF)(X:Fr)(Z:U)(g:aP.g Y X Z):den prog E aO (bC E [.tmp 4] Y) X Z:=
 bF g fun M a aA b g=>bJ g fun aS c g=>bV [(0,.slice M a aA),(1,.int .i64 aS)] ⟨b,c,trivial⟩ (by kernel_rfl) g
def t(M:S)(a aA:Nat)(aS:Int)(Z:U)(Y:aF):Prop:=aP.t Y M a aA aS Z
theorem ok{M:S}{a:Nat}{aA:Nat}{aS:Int}{Z:U}{Y:aF}(g:t M a aA aS Z Y):a4 id #[.slice M a aA,.int .i64 aS] Z Y:=
 eD dT (c:=aO) (dH:=[.tmp 4]) Tryz.func47 (by kernel_rfl) (by kernel_rfl) (by kernel_rfl) (args:=[.slice M a aA,.int .i64 aS]) (by kernel_rfl) (aP.ok Y _ Z (bL rfl (b0 rfl (g))))
end lK
namespace pF
noncomputable def aO:Code:=dY Tryz.f48
def dG.g(bP:Int→Int→U→Prop)(X:Fr)(Z:U):Prop:=a0 .i64 (X 0) fun aY=>a0 .i64 (X 3) fun a=>bP aY a Z
def bM.t(Y:aF)(b1:Int→Int→U→Prop)(aY a:Int)(Z:U):Prop:=
 bB (IntKind.i64.wrap (aY+a)) fun eF=>
 a4 m4.id #[.int .u32 18,.int .i64 eF] Z fun b c=>
 cW b fun b=>
 cU b fun b d e f=>
 dP f .i64 fun f g=>
 b9 g <| bB (IntKind.i64.wrap (aY+a)) fun g=>
 a4 m4.id #[.int .u32 57,.int .i64 g] c fun c g=>
 cW c fun c=>
 cU c fun c h i j=>
 dP j .i64 fun j k=>
 b9 k <| bB (IntKind.i64.wrap (aY+a)) fun k=>
 a4 m4.id #[.int .u32 239,.int .i64 k] g fun g k=>
 cW g fun g=>
 cU g fun g l m n=>
 dP n .i64 fun n o=>
 b9 o <| a4 k9.id #[.slice b d e,.int .u32 48,.int .u32 0] k fun b d=>
 aR b fun b e k=>
 a4 k9.id #[.slice c h i,.int .u32 32,.int .u32 0] d fun c d=>
 aR c fun c h i=>
 a4 g0.id #[.slice b e k,.slice c h i] d fun b c=>
 aR b fun b d e=>
 a4 k9.id #[.slice g l m,.int .u32 20,.int .u32 0] c fun c g=>
 aR c fun c h i=>
 a4 hE.id #[.slice b d e,.slice c h i] g fun b c=>
 aR b fun b d e=>
 bB (IntKind.i64.wrap (f+2)) fun f=>
 bB (IntKind.i64.wrap (48*f)) fun f=>
 bB (IntKind.i64.wrap (j+2)) fun g=>
 bB (IntKind.i64.wrap (32*g)) fun g=>
 bB (IntKind.i64.wrap (f+g)) fun f=>
 bB (IntKind.i64.wrap (n+2)) fun g=>
 bB (IntKind.i64.wrap (20*g)) fun g=>
 bB (IntKind.i64.wrap (f+g)) fun f=>
 bB (IntKind.i64.wrap (4*f)) fun f=>
 a4 vR.id #[.int .i64 f] c fun c f=>
 aR c fun c g h=>
 a4 hE.id #[.slice b d e,.slice c g h] f fun f i=>
 aR f fun f j k=>
 a4 lK.id #[.slice f j k,.int .i64 a] i fun f i=>
 aR f fun f j k=>
 a4 g0.id #[.slice b d e,.slice c g h] i fun b c=>
 aR b fun b d e=>
 a4 lK.id #[.slice b d e,.int .i64 a] c fun b c=>
 aR b fun b d e=>
 a4 jN.id #[.slice f j k,.slice b d e] c fun b c=>
 a0 .i64 b fun b=>
 cond (b == 0) (Y (.slice f j k) c) (bB (IntKind.i64.wrap (a*2)) fun a=>
 b1 aY a c)
def bM.g(Y:aF)(b1:Int→Int→U→Prop)(X:Fr)(Z:U):Prop:=a0 .i64 (X 0) fun aY=>a0 .i64 (X 3) fun a=>bM.t Y b1 aY a Z
theorem bM.ok(Y:aF)(b1:Int→Int→U→Prop)(X:Fr)(Z:U)(g:bM.g Y b1 X Z):den prog E (a6 aO [W,W,W,aJ,aJ]) (aV.then (dG.g b1) (aV.inBlock 0 (bC E [.tmp 2] Y))) X Z:=
 bJ g fun aY a g=>bJ g fun b c g=>bV [(0,.int .i64 aY),(3,.int .i64 b)] ⟨a,c,trivial⟩ (by kernel_rfl) g
def dG.t(Y:aF):Nat→Int→Int→U→Prop
 | 0=>fun _ _ _=>False
 | n+1=>fun aY a Z=>bM.t Y (dG.t Y n) aY a Z
theorem dG.ok(Y:aF)(X:Fr)(Z:U)(g:dG.g (fun aY a Z=>∃ n,dG.t Y n aY a Z) X Z):den prog E (a6 aO [W,W,W,aJ]) (aV.inBlock 0 (bC E [.tmp 2] Y)) X Z:=by
 obtain⟨aY,b,g⟩:=bT g
 obtain⟨a,c,g⟩:=bT g
 obtain⟨n,g⟩:=g
 refine fF (fun n=>dG.g (dG.t Y n)) (K:=(a6 aO [W,W,W,aJ,aJ])) (by kernel_rfl) (fun X Z g=>?_) (fun n=>bM.ok Y (dG.t Y n)) n X Z (b0 b (b0 c (g)))
 obtain⟨aY,b,g⟩:=bT g
 obtain⟨a,c,g⟩:=bT g
 exact g
theorem fQ.ok(Y:aF)(X:Fr)(Z:U)(g:dG.g (fun aY a Z=>∃ n,dG.t Y n aY a Z) X Z):den prog E (a6 aO [W,W,W]) (bC E [.tmp 2] Y) X Z:=
 e3 (by kernel_rfl) (dG.ok Y X Z g)
def aP.t(Y:aF)(aY:Int)(Z:U):Prop:=
 (∃ n,dG.t Y n (if 0 > aY then 0 else aY) 64 Z)
def aP.g(Y:aF)(X:Fr)(Z:U):Prop:=a0 .i64 (X 0) fun aY=>aP.t Y aY Z
theorem aP.ok(Y:aF)(X:Fr)(Z:U)(g:aP.g Y X Z):den prog E aO (bC E [.tmp 2] Y) X Z:=
 bJ g fun aY a g=>c5 3 (r:=(a6 aO [W,W,W])) (by kernel_rfl) (fQ.ok Y) (bV [(0,.int .i64 aY)] ⟨a,trivial⟩ (by kernel_rfl) g)
def t(aY:Int)(Z:U)(Y:aF):Prop:=aP.t Y aY Z
theorem ok{aY:Int}{Z:U}{Y:aF}(g:t aY Z Y):a4 id #[.int .i64 aY] Z Y:=
 eD dT (c:=aO) (dH:=[.tmp 2]) Tryz.func48 (by kernel_rfl) (by kernel_rfl) (by kernel_rfl) (args:=[.int .i64 aY]) (by kernel_rfl) (aP.ok Y _ Z (b0 rfl (g)))
end pF
namespace hE
noncomputable def aO:Code:=dY Tryz.f49
def a5.t(Y:aF)(bE:S)(a bD:Nat)(Z:U):Prop:=
 a4 g6.id #[.slice bE a bD] Z fun a fV=>
 aR a fun a b c=>
 Y (.slice a b c) fV
def a5.g(Y:aF)(X:Fr)(Z:U):Prop:=aR (X 5) fun bE a bD=>a5.t Y bE a bD Z
theorem a5.ok(Y:aF)(X:Fr)(Z:U)(g:a5.g Y X Z):den prog E (a6 aO [W,W,W,W,W]) (bC E [.tmp 4] Y) X Z:=
 bF g fun bE a bD b g=>bV [(5,.slice bE a bD)] ⟨b,trivial⟩ (by kernel_rfl) g
def bU.g(bP:S→Nat→Nat→S→Nat→Nat→S→Nat→Nat→Int→Int→U→Prop)(X:Fr)(Z:U):Prop:=aR (X 0) fun M a aA=>aR (X 1) fun aM aL aK=>aR (X 5) fun bE b bD=>a0 .u64 (X 6) fun c=>a0 .i64 (X 7) fun d=>bP M a aA aM aL aK bE b bD c d Z
def cH.t(Y:aF)(a:S→Nat→Nat→S→Nat→Nat→S→Nat→Nat→Int→Int→U→Prop)(M:S)(b aA:Nat)(aM:S)(aL aK:Nat)(bE:S)(c bD:Nat)(d e:Int)(Z:U):Prop:=
 cond (decide (e < (((b:Nat):Int)))) (cond (decide (e < (((aL:Nat):Int)))) (c6 aM aL e 1 fun f=>
 eO Z .u32 f fun f=>
 bB (IntKind.u64.wrap f) fun f=>
 bB (IntKind.u64.wrap (d+f)) fun f=>
 c6 M b e 1 fun g=>
 eO Z .u32 g fun g=>
 bB (IntKind.u64.wrap g) fun g=>
 cond (decide (g < f)) (bB (IntKind.u64.wrap (g+4294967296)) fun h=>
 bB (IntKind.u64.wrap (h - f)) fun h=>
 bB (IntKind.u32.wrap h) fun h=>
 dX Z 89 [.int .u32 h] fun h i=>
 g3 i 89 iW bE c bD (.slice (some h) 1 1) fun h i j k=>
 bB (IntKind.i64.wrap (e+1)) fun l=>
 a M b aA aM aL aK h i j 1 l k) (bB (IntKind.u64.wrap (g - f)) fun f=>
 bB (IntKind.u32.wrap f) fun f=>
 dX Z 89 [.int .u32 f] fun f g=>
 g3 g 89 iW bE c bD (.slice (some f) 1 1) fun f g h i=>
 bB (IntKind.i64.wrap (e+1)) fun j=>
 a M b aA aM aL aK f g h 0 j i)) (c6 M b e 1 fun f=>
 eO Z .u32 f fun f=>
 bB (IntKind.u64.wrap f) fun f=>
 cond (decide (f < d)) (bB (IntKind.u64.wrap (f+4294967296)) fun g=>
 bB (IntKind.u64.wrap (g - d)) fun g=>
 bB (IntKind.u32.wrap g) fun g=>
 dX Z 89 [.int .u32 g] fun g h=>
 g3 h 89 iW bE c bD (.slice (some g) 1 1) fun g h i j=>
 bB (IntKind.i64.wrap (e+1)) fun k=>
 a M b aA aM aL aK g h i 1 k j) (bB (IntKind.u64.wrap (f - d)) fun d=>
 bB (IntKind.u32.wrap d) fun d=>
 dX Z 89 [.int .u32 d] fun d f=>
 g3 f 89 iW bE c bD (.slice (some d) 1 1) fun d f g h=>
 bB (IntKind.i64.wrap (e+1)) fun e=>
 a M b aA aM aL aK d f g 0 e h))) (a5.t Y bE c bD Z)
def cH.g(Y:aF)(a:S→Nat→Nat→S→Nat→Nat→S→Nat→Nat→Int→Int→U→Prop)(X:Fr)(Z:U):Prop:=aR (X 0) fun M b aA=>aR (X 1) fun aM aL aK=>aR (X 5) fun bE c bD=>a0 .u64 (X 6) fun d=>a0 .i64 (X 7) fun e=>cH.t Y a M b aA aM aL aK bE c bD d e Z
theorem cH.ok(Y:aF)(a:S→Nat→Nat→S→Nat→Nat→S→Nat→Nat→Int→Int→U→Prop)(X:Fr)(Z:U)(g:cH.g Y a X Z):den prog E (a6 aO [W,W,W,W,aJ,W,aJ,aJ]) (aV.then (bU.g a) (aV.inBlock 0 (aV.then (a5.g Y) (bC E [.tmp 4] Y)))) X Z:=
 bF g fun M a aA b g=>bF g fun aM aL aK c g=>bF g fun bE d bD e g=>bJ g fun f h g=>bJ g fun i j g=>bV [(0,.slice M a aA),(1,.slice aM aL aK),(5,.slice bE d bD),(6,.int .u64 f),(7,.int .i64 i)] ⟨b,c,e,h,j,trivial⟩ (by kernel_rfl) g
def bU.t(Y:aF):Nat→S→Nat→Nat→S→Nat→Nat→S→Nat→Nat→Int→Int→U→Prop
 | 0=>fun _ _ _ _ _ _ _ _ _ _ _ _=>False
 | n+1=>fun M a aA aM aL aK bE b bD c d Z=>cH.t Y (bU.t Y n) M a aA aM aL aK bE b bD c d Z
theorem bU.ok(Y:aF)(X:Fr)(Z:U)(g:bU.g (fun M a aA aM aL aK bE b bD c d Z=>∃ n,bU.t Y n M a aA aM aL aK bE b bD c d Z) X Z):den prog E (a6 aO [W,W,W,W,aJ,W,aJ]) (aV.inBlock 0 (aV.then (a5.g Y) (bC E [.tmp 4] Y))) X Z:=by
 obtain⟨M,a,aA,e,g⟩:=b2 g
 obtain⟨aM,aL,aK,f,g⟩:=b2 g
 obtain⟨bE,b,bD,h,g⟩:=b2 g
 obtain⟨c,i,g⟩:=bT g
 obtain⟨d,j,g⟩:=bT g
 obtain⟨n,g⟩:=g
 refine fF (fun n=>bU.g (bU.t Y n)) (K:=(a6 aO [W,W,W,W,aJ,W,aJ,aJ])) (by kernel_rfl) (fun X Z g=>?_) (fun n=>cH.ok Y (bU.t Y n)) n X Z (bL e (bL f (bL h (b0 i (b0 j (g))))))
 obtain⟨M,a,aA,e,g⟩:=b2 g
 obtain⟨aM,aL,aK,f,g⟩:=b2 g
 obtain⟨bE,b,bD,h,g⟩:=b2 g
 obtain⟨c,i,g⟩:=bT g
 obtain⟨d,j,g⟩:=bT g
 exact g
theorem hM.ok(Y:aF)(X:Fr)(Z:U)(g:bU.g (fun M a aA aM aL aK bE b bD c d Z=>∃ n,bU.t Y n M a aA aM aL aK bE b bD c d Z) X Z):den prog E (a6 aO [W,W,W,W,aJ,W]) (aV.then (a5.g Y) (bC E [.tmp 4] Y)) X Z:=
 e3 (by kernel_rfl) (bU.ok Y X Z g)
def bM.t(Y:aF)(M:S)(a aA:Nat)(aM:S)(aL aK:Nat)(bE:S)(b bD:Nat)(c:Int)(Z:U):Prop:=
 (∃ n,bU.t Y n M a aA aM aL aK bE b bD c 0 Z)
def bM.g(Y:aF)(X:Fr)(Z:U):Prop:=aR (X 0) fun M a aA=>aR (X 1) fun aM aL aK=>aR (X 5) fun bE b bD=>a0 .u64 (X 6) fun c=>bM.t Y M a aA aM aL aK bE b bD c Z
theorem bM.ok(Y:aF)(X:Fr)(Z:U)(g:bM.g Y X Z):den prog E (a6 aO [W,W,W,W,aJ]) (aV.then (a5.g Y) (bC E [.tmp 4] Y)) X Z:=
 bF g fun M a aA b g=>bF g fun aM aL aK c g=>bF g fun bE d bD e g=>bJ g fun f h g=>c5 1 (r:=(a6 aO [W,W,W,W,aJ,W])) (by kernel_rfl) (hM.ok Y) (bV [(0,.slice M a aA),(1,.slice aM aL aK),(5,.slice bE d bD),(6,.int .u64 f)] ⟨b,c,e,h,trivial⟩ (by kernel_rfl) g)
theorem hN.ok(Y:aF)(X:Fr)(Z:U)(g:bM.g Y X Z):den prog E (a6 aO [W,W,W,W]) (bC E [.tmp 4] Y) X Z:=
 fP (by kernel_rfl) (a5.ok Y) (bM.ok Y X Z g)
def aP.t(Y:aF)(M:S)(a aA:Nat)(aM:S)(aL aK:Nat)(Z:U):Prop:=
 a4 jN.id #[.slice M a aA,.slice aM aL aK] Z fun b c=>
 a0 .i64 b fun b=>
 cond (decide (b≤0)) (a4 gN.id #[.int .u64 0] c fun b d=>
 aR b fun b e f=>
 Y (.slice b e f) d) (iS c 89 iW 0 (((a:Nat):Int)) fun b c=>
 bM.t Y M a aA aM aL aK (some b) ((0:Int).toNat) ((((a:Nat):Int)).toNat) 0 c)
def aP.g(Y:aF)(X:Fr)(Z:U):Prop:=aR (X 0) fun M a aA=>aR (X 1) fun aM aL aK=>aP.t Y M a aA aM aL aK Z
theorem aP.ok(Y:aF)(X:Fr)(Z:U)(g:aP.g Y X Z):den prog E aO (bC E [.tmp 4] Y) X Z:=
 bF g fun M a aA b g=>bF g fun aM aL aK c g=>c5 4 (r:=(a6 aO [W,W,W,W])) (by kernel_rfl) (hN.ok Y) (bV [(0,.slice M a aA),(1,.slice aM aL aK)] ⟨b,c,trivial⟩ (by kernel_rfl) g)
def t(M:S)(a aA:Nat)(aM:S)(aL aK:Nat)(Z:U)(Y:aF):Prop:=aP.t Y M a aA aM aL aK Z
theorem ok{M:S}{a:Nat}{aA:Nat}{aM:S}{aL:Nat}{aK:Nat}{Z:U}{Y:aF}(g:t M a aA aM aL aK Z Y):a4 id #[.slice M a aA,.slice aM aL aK] Z Y:=
 eD dT (c:=aO) (dH:=[.tmp 4]) Tryz.func49 (by kernel_rfl) (by kernel_rfl) (by kernel_rfl) (args:=[.slice M a aA,.slice aM aL aK]) (by kernel_rfl) (aP.ok Y _ Z (bL rfl (bL rfl (g))))
end hE
namespace g6
noncomputable def aO:Code:=dY Tryz.f50
def a5.t(Y:aF)(M:S)(a aA:Nat)(b:Int)(Z:U):Prop:=
 iS Z 89 iW b b fun cQ c=>
 iR 1 M a aA none (some (.int .i64 b)) none fun a d e=>
 n5 c 1 (some cQ) b.toNat (.slice a d e) fun a a=>
 Y (.slice (some cQ) b.toNat b.toNat) a
def a5.g(Y:aF)(X:Fr)(Z:U):Prop:=aR (X 0) fun M a aA=>a0 .i64 (X 3) fun b=>a5.t Y M a aA b Z
theorem a5.ok(Y:aF)(X:Fr)(Z:U)(g:a5.g Y X Z):den prog E (a6 aO [W,W,W]) (bC E [.tmp 2] Y) X Z:=
 bF g fun M a aA b g=>bJ g fun c d g=>bV [(0,.slice M a aA),(3,.int .i64 c)] ⟨b,d,trivial⟩ (by kernel_rfl) g
def cP.g(bP:S→Nat→Nat→Int→U→Prop)(X:Fr)(Z:U):Prop:=aR (X 0) fun M a aA=>a0 .i64 (X 3) fun b=>bP M a aA b Z
def cF.t(Y:aF)(a:S→Nat→Nat→Int→U→Prop)(M:S)(b aA:Nat)(c:Int)(Z:U):Prop:=
 cond (decide (c > 0)) (bB (IntKind.i64.wrap (c - 1)) fun d=>
 c6 M b d 1 fun d=>
 eO Z .u32 d fun d=>
 cond (d == 0) (bB (IntKind.i64.wrap (c - 1)) fun d=>
 a M b aA d Z) (a5.t Y M b aA c Z)) (a5.t Y M b aA c Z)
def cF.g(Y:aF)(a:S→Nat→Nat→Int→U→Prop)(X:Fr)(Z:U):Prop:=aR (X 0) fun M b aA=>a0 .i64 (X 3) fun c=>cF.t Y a M b aA c Z
theorem cF.ok(Y:aF)(a:S→Nat→Nat→Int→U→Prop)(X:Fr)(Z:U)(g:cF.g Y a X Z):den prog E (a6 aO [W,W,aJ,aJ,aJ]) (aV.then (cP.g a) (aV.inBlock 0 (aV.then (a5.g Y) (bC E [.tmp 2] Y)))) X Z:=
 bF g fun M a aA b g=>bJ g fun c d g=>bV [(0,.slice M a aA),(3,.int .i64 c)] ⟨b,d,trivial⟩ (by kernel_rfl) g
def cP.t(Y:aF):Nat→S→Nat→Nat→Int→U→Prop
 | 0=>fun _ _ _ _ _=>False
 | n+1=>fun M a aA b Z=>cF.t Y (cP.t Y n) M a aA b Z
theorem cP.ok(Y:aF)(X:Fr)(Z:U)(g:cP.g (fun M a aA b Z=>∃ n,cP.t Y n M a aA b Z) X Z):den prog E (a6 aO [W,W,aJ,aJ]) (aV.inBlock 0 (aV.then (a5.g Y) (bC E [.tmp 2] Y))) X Z:=by
 obtain⟨M,a,aA,c,g⟩:=b2 g
 obtain⟨b,d,g⟩:=bT g
 obtain⟨n,g⟩:=g
 refine fF (fun n=>cP.g (cP.t Y n)) (K:=(a6 aO [W,W,aJ,aJ,aJ])) (by kernel_rfl) (fun X Z g=>?_) (fun n=>cF.ok Y (cP.t Y n)) n X Z (bL c (b0 d (g)))
 obtain⟨M,a,aA,c,g⟩:=b2 g
 obtain⟨b,d,g⟩:=bT g
 exact g
theorem hV.ok(Y:aF)(X:Fr)(Z:U)(g:cP.g (fun M a aA b Z=>∃ n,cP.t Y n M a aA b Z) X Z):den prog E (a6 aO [W,W,aJ]) (aV.then (a5.g Y) (bC E [.tmp 2] Y)) X Z:=
 e3 (by kernel_rfl) (cP.ok Y X Z g)
theorem sI.ok(Y:aF)(X:Fr)(Z:U)(g:cP.g (fun M a aA b Z=>∃ n,cP.t Y n M a aA b Z) X Z):den prog E (a6 aO [W,W]) (bC E [.tmp 2] Y) X Z:=
 fP (by kernel_rfl) (a5.ok Y) (hV.ok Y X Z g)
def aP.t(Y:aF)(M:S)(a aA:Nat)(Z:U):Prop:=
 (∃ n,cP.t Y n M a aA (((a:Nat):Int)) Z)
def aP.g(Y:aF)(X:Fr)(Z:U):Prop:=aR (X 0) fun M a aA=>aP.t Y M a aA Z
theorem aP.ok(Y:aF)(X:Fr)(Z:U)(g:aP.g Y X Z):den prog E aO (bC E [.tmp 2] Y) X Z:=
 bF g fun M a aA b g=>c5 2 (r:=(a6 aO [W,W])) (by kernel_rfl) (sI.ok Y) (bV [(0,.slice M a aA)] ⟨b,trivial⟩ (by kernel_rfl) g)
def t(M:S)(a aA:Nat)(Z:U)(Y:aF):Prop:=aP.t Y M a aA Z
theorem ok{M:S}{a:Nat}{aA:Nat}{Z:U}{Y:aF}(g:t M a aA Z Y):a4 id #[.slice M a aA] Z Y:=
 eD dT (c:=aO) (dH:=[.tmp 2]) Tryz.func50 (by kernel_rfl) (by kernel_rfl) (by kernel_rfl) (args:=[.slice M a aA]) (by kernel_rfl) (aP.ok Y _ Z (bL rfl (g)))
end g6
namespace lA
noncomputable def aO:Code:=dY Tryz.f51
def a5.t(Y:aF)(M:S)(a aA:Nat)(aS:Int)(Z:U):Prop:=
 (32:Int) ≠ 0∧bB (IntKind.i64.wrap (Int.tdiv aS 32)) fun b=>
 (32:Int) ≠ 0∧bB (IntKind.i64.wrap (Int.tdiv aS 32)) fun c=>
 bB (IntKind.i64.wrap (c+(((a:Nat):Int)))) fun c=>
 bB (IntKind.i64.wrap (c+1)) fun c=>
 iS Z 89 iW b c fun d e=>
 (32:Int) ≠ 0∧bB (Int.tmod aS 32) fun f=>
 0≤f∧bB (iQ .u32 1 f) fun f=>
 a4 k9.id #[.slice M a aA,.int .u32 f,.int .u32 0] e fun a e=>
 aR a fun a f g=>
 g3 e 89 iW (some d) b.toNat c.toNat (.slice a f g) fun a b c d=>
 a4 g6.id #[.slice a b c] d fun a b=>
 aR a fun a c d=>
 Y (.slice a c d) b
def a5.g(Y:aF)(X:Fr)(Z:U):Prop:=aR (X 0) fun M a aA=>a0 .i64 (X 1) fun aS=>a5.t Y M a aA aS Z
theorem a5.ok(Y:aF)(X:Fr)(Z:U)(g:a5.g Y X Z):den prog E (a6 aO [W,W]) (bC E [.tmp 4] Y) X Z:=
 bF g fun M a aA b g=>bJ g fun aS c g=>bV [(0,.slice M a aA),(1,.int .i64 aS)] ⟨b,c,trivial⟩ (by kernel_rfl) g
def aP.t(Y:aF)(M:S)(a aA:Nat)(aS:Int)(Z:U):Prop:=
 cond (decide (aS≤0)) (a4 g6.id #[.slice M a aA] Z fun b c=>
 aR b fun b d e=>
 Y (.slice b d e) c) (cond ((((a:Nat):Int)) == 0) (a4 g6.id #[.slice M a aA] Z fun b c=>
 aR b fun b d e=>
 Y (.slice b d e) c) (a5.t Y M a aA aS Z))
def aP.g(Y:aF)(X:Fr)(Z:U):Prop:=aR (X 0) fun M a aA=>a0 .i64 (X 1) fun aS=>aP.t Y M a aA aS Z
theorem aP.ok(Y:aF)(X:Fr)(Z:U)(g:aP.g Y X Z):den prog E aO (bC E [.tmp 4] Y) X Z:=
 bF g fun M a aA b g=>bJ g fun aS c g=>c5 2 (r:=(a6 aO [W,W])) (by kernel_rfl) (a5.ok Y) (bV [(0,.slice M a aA),(1,.int .i64 aS)] ⟨b,c,trivial⟩ (by kernel_rfl) g)
def t(M:S)(a aA:Nat)(aS:Int)(Z:U)(Y:aF):Prop:=aP.t Y M a aA aS Z
theorem ok{M:S}{a:Nat}{aA:Nat}{aS:Int}{Z:U}{Y:aF}(g:t M a aA aS Z Y):a4 id #[.slice M a aA,.int .i64 aS] Z Y:=
 eD dT (c:=aO) (dH:=[.tmp 4]) Tryz.func51 (by kernel_rfl) (by kernel_rfl) (by kernel_rfl) (args:=[.slice M a aA,.int .i64 aS]) (by kernel_rfl) (aP.ok Y _ Z (bL rfl (b0 rfl (g))))
end lA
namespace kI
noncomputable def aO:Code:=dY Tryz.f53
def a5.t(Y:aF)(M:S)(a aA:Nat)(bG:S)(b bI:Nat)(c:Int)(Z:U):Prop:=
 c6 bG b (((a:Nat):Int)) 1 fun a=>
 cM Z a (.int .u64 c) fun a=>
 a4 oB.id #[.slice bG b bI] a fun a fV=>
 cW a fun a=>
 cU a fun a b c d=>
 dP d .i64 fun d e=>
 b9 e <| Y (.tuple #[.slice a b c,.int .i64 d]) fV
def a5.g(Y:aF)(X:Fr)(Z:U):Prop:=aR (X 0) fun M a aA=>aR (X 6) fun bG b bI=>a0 .u64 (X 7) fun c=>a5.t Y M a aA bG b bI c Z
theorem a5.ok(Y:aF)(X:Fr)(Z:U)(g:a5.g Y X Z):den prog E (a6 aO [W,W,W,W,W]) (bC E [.tmp 4,.tmp 5] Y) X Z:=
 bF g fun M a aA b g=>bF g fun bG c bI d g=>bJ g fun e f g=>bV [(0,.slice M a aA),(6,.slice bG c bI),(7,.int .u64 e)] ⟨b,d,f,trivial⟩ (by kernel_rfl) g
def bU.g(bP:S→Nat→Nat→Int→S→Nat→Nat→Int→Int→Int→U→Prop)(X:Fr)(Z:U):Prop:=aR (X 0) fun M a aA=>a0 .u64 (X 1) fun aS=>aR (X 6) fun bG b bI=>a0 .u64 (X 7) fun c=>a0 .i64 (X 20) fun d=>a0 .i64 (X 21) fun e=>bP M a aA aS bG b bI c d e Z
def cH.t(Y:aF)(a:S→Nat→Nat→Int→S→Nat→Nat→Int→Int→Int→U→Prop)(M:S)(b aA:Nat)(aS:Int)(bG:S)(c bI:Nat)(d e f:Int)(Z:U):Prop:=
 cond (decide (f < e)) (c6 M b f 1 fun g=>
 eO Z .u64 g fun g=>
 a4 rO.id #[.int .u64 g,.int .u64 aS] Z fun g h=>
 cW g fun g=>
 dP g .u64 fun g i=>
 dP i .u64 fun i j=>
 b9 j <| oV i d 0 fun i j=>
 c6 bG c f 1 fun k=>
 cM h k (.int .u64 i) fun h=>
 bB (IntKind.u64.wrap (g+j)) fun g=>
 bB (IntKind.i64.wrap (f+1)) fun f=>
 a M b aA aS bG c bI g e f h) (a5.t Y M b aA bG c bI d Z)
def cH.g(Y:aF)(a:S→Nat→Nat→Int→S→Nat→Nat→Int→Int→Int→U→Prop)(X:Fr)(Z:U):Prop:=aR (X 0) fun M b aA=>a0 .u64 (X 1) fun aS=>aR (X 6) fun bG c bI=>a0 .u64 (X 7) fun d=>a0 .i64 (X 20) fun e=>a0 .i64 (X 21) fun f=>cH.t Y a M b aA aS bG c bI d e f Z
theorem cH.ok(Y:aF)(a:S→Nat→Nat→Int→S→Nat→Nat→Int→Int→Int→U→Prop)(X:Fr)(Z:U)(g:cH.g Y a X Z):den prog E (a6 aO [W,W,W,W,aJ,W,aJ,aJ]) (aV.then (bU.g a) (aV.inBlock 0 (aV.then (a5.g Y) (bC E [.tmp 4,.tmp 5] Y)))) X Z:=
 bF g fun M a aA b g=>bJ g fun aS c g=>bF g fun bG d bI e g=>bJ g fun f h g=>bJ g fun i j g=>bJ g fun k l g=>bV [(0,.slice M a aA),(1,.int .u64 aS),(6,.slice bG d bI),(7,.int .u64 f),(20,.int .i64 i),(21,.int .i64 k)] ⟨b,c,e,h,j,l,trivial⟩ (by kernel_rfl) g
def bU.t(Y:aF):Nat→S→Nat→Nat→Int→S→Nat→Nat→Int→Int→Int→U→Prop
 | 0=>fun _ _ _ _ _ _ _ _ _ _ _=>False
 | n+1=>fun M a aA aS bG b bI c d e Z=>cH.t Y (bU.t Y n) M a aA aS bG b bI c d e Z
theorem bU.ok(Y:aF)(X:Fr)(Z:U)(g:bU.g (fun M a aA aS bG b bI c d e Z=>∃ n,bU.t Y n M a aA aS bG b bI c d e Z) X Z):den prog E (a6 aO [W,W,W,W,aJ,W,aJ]) (aV.inBlock 0 (aV.then (a5.g Y) (bC E [.tmp 4,.tmp 5] Y))) X Z:=by
 obtain⟨M,a,aA,f,g⟩:=b2 g
 obtain⟨aS,h,g⟩:=bT g
 obtain⟨bG,b,bI,i,g⟩:=b2 g
 obtain⟨c,j,g⟩:=bT g
 obtain⟨d,k,g⟩:=bT g
 obtain⟨e,l,g⟩:=bT g
 obtain⟨n,g⟩:=g
 refine fF (fun n=>bU.g (bU.t Y n)) (K:=(a6 aO [W,W,W,W,aJ,W,aJ,aJ])) (by kernel_rfl) (fun X Z g=>?_) (fun n=>cH.ok Y (bU.t Y n)) n X Z (bL f (b0 h (bL i (b0 j (b0 k (b0 l (g)))))))
 obtain⟨M,a,aA,f,g⟩:=b2 g
 obtain⟨aS,h,g⟩:=bT g
 obtain⟨bG,b,bI,i,g⟩:=b2 g
 obtain⟨c,j,g⟩:=bT g
 obtain⟨d,k,g⟩:=bT g
 obtain⟨e,l,g⟩:=bT g
 exact g
theorem hM.ok(Y:aF)(X:Fr)(Z:U)(g:bU.g (fun M a aA aS bG b bI c d e Z=>∃ n,bU.t Y n M a aA aS bG b bI c d e Z) X Z):den prog E (a6 aO [W,W,W,W,aJ,W]) (aV.then (a5.g Y) (bC E [.tmp 4,.tmp 5] Y)) X Z:=
 e3 (by kernel_rfl) (bU.ok Y X Z g)
def bM.t(Y:aF)(M:S)(a aA:Nat)(aS:Int)(bG:S)(b bI:Nat)(c:Int)(Z:U):Prop:=
 (∃ n,bU.t Y n M a aA aS bG b bI c (((a:Nat):Int)) 0 Z)
def bM.g(Y:aF)(X:Fr)(Z:U):Prop:=aR (X 0) fun M a aA=>a0 .u64 (X 1) fun aS=>aR (X 6) fun bG b bI=>a0 .u64 (X 7) fun c=>bM.t Y M a aA aS bG b bI c Z
theorem bM.ok(Y:aF)(X:Fr)(Z:U)(g:bM.g Y X Z):den prog E (a6 aO [W,W,W,W,aJ]) (aV.then (a5.g Y) (bC E [.tmp 4,.tmp 5] Y)) X Z:=
 bF g fun M a aA b g=>bJ g fun aS c g=>bF g fun bG d bI e g=>bJ g fun f h g=>c5 1 (r:=(a6 aO [W,W,W,W,aJ,W])) (by kernel_rfl) (hM.ok Y) (bV [(0,.slice M a aA),(1,.int .u64 aS),(6,.slice bG d bI),(7,.int .u64 f)] ⟨b,c,e,h,trivial⟩ (by kernel_rfl) g)
theorem hN.ok(Y:aF)(X:Fr)(Z:U)(g:bM.g Y X Z):den prog E (a6 aO [W,W,W,W]) (bC E [.tmp 4,.tmp 5] Y) X Z:=
 fP (by kernel_rfl) (a5.ok Y) (bM.ok Y X Z g)
def aP.t(Y:aF)(M:S)(a aA:Nat)(aS:Int)(Z:U):Prop:=
 a4 k4.id #[.slice M a aA] Z fun b c=>
 eU b fun b=>
 cond (!b) (Y (.tuple #[.slice none 0 0,.int .i64 2]) c) (bB (IntKind.i64.wrap ((((a:Nat):Int))+1)) fun b=>
 iS c 35 j6 b b fun c d=>
 bM.t Y M a aA aS (some c) b.toNat b.toNat 0 d)
def aP.g(Y:aF)(X:Fr)(Z:U):Prop:=aR (X 0) fun M a aA=>a0 .u64 (X 1) fun aS=>aP.t Y M a aA aS Z
theorem aP.ok(Y:aF)(X:Fr)(Z:U)(g:aP.g Y X Z):den prog E aO (bC E [.tmp 4,.tmp 5] Y) X Z:=
 bF g fun M a aA b g=>bJ g fun aS c g=>c5 4 (r:=(a6 aO [W,W,W,W])) (by kernel_rfl) (hN.ok Y) (bV [(0,.slice M a aA),(1,.int .u64 aS)] ⟨b,c,trivial⟩ (by kernel_rfl) g)
def t(M:S)(a aA:Nat)(aS:Int)(Z:U)(Y:aF):Prop:=aP.t Y M a aA aS Z
theorem ok{M:S}{a:Nat}{aA:Nat}{aS:Int}{Z:U}{Y:aF}(g:t M a aA aS Z Y):a4 id #[.slice M a aA,.int .u64 aS] Z Y:=
 eD dT (c:=aO) (dH:=[.tmp 4,.tmp 5]) Tryz.func53 (by kernel_rfl) (by kernel_rfl) (by kernel_rfl) (args:=[.slice M a aA,.int .u64 aS]) (by kernel_rfl) (aP.ok Y _ Z (bL rfl (b0 rfl (g))))
end kI
namespace jU
noncomputable def aO:Code:=dY Tryz.f54
def cF.t(Y:aF)(M:S)(a aA:Nat)(bG:S)(b bI:Nat)(c:Int)(Z:U):Prop:=
 c6 bG b (((a:Nat):Int)) 1 fun a=>
 cM Z a (.int .u64 c) fun a=>
 a4 oB.id #[.slice bG b bI] a fun a b=>
 cW a fun a=>
 cU a fun a c d e=>
 dP e .i64 fun e f=>
 b9 f <| Y (.tuple #[.slice a c d,.int .i64 e]) b
def cF.g(Y:aF)(X:Fr)(Z:U):Prop:=aR (X 0) fun M a aA=>aR (X 6) fun bG b bI=>a0 .u64 (X 7) fun c=>cF.t Y M a aA bG b bI c Z
theorem cF.ok(Y:aF)(X:Fr)(Z:U)(g:cF.g Y X Z):den prog E (a6 aO [W,W,W,W,W,W]) (bC E [.tmp 4,.tmp 5] Y) X Z:=
 bF g fun M a aA b g=>bF g fun bG c bI d g=>bJ g fun e f g=>bV [(0,.slice M a aA),(6,.slice bG c bI),(7,.int .u64 e)] ⟨b,d,f,trivial⟩ (by kernel_rfl) g
def g8.g(bP:S→Nat→Nat→S→Nat→Nat→S→Nat→Nat→Int→Int→Int→U→Prop)(X:Fr)(Z:U):Prop:=aR (X 0) fun M a aA=>aR (X 1) fun aM aL aK=>aR (X 6) fun bG b bI=>a0 .u64 (X 7) fun c=>a0 .i64 (X 30) fun d=>a0 .i64 (X 31) fun e=>bP M a aA aM aL aK bG b bI c d e Z
def eX.t(Y:aF)(a:S→Nat→Nat→S→Nat→Nat→S→Nat→Nat→Int→Int→Int→U→Prop)(M:S)(b aA:Nat)(aM:S)(aL aK:Nat)(bG:S)(c bI:Nat)(d e f:Int)(Z:U):Prop:=
 cond (decide (f < e)) (cond (decide (f < (((aL:Nat):Int)))) (c6 aM aL f 1 fun g=>
 eO Z .u64 g fun g=>
 c6 M b f 1 fun h=>
 eO Z .u64 h fun h=>
 oV h g d fun g h=>
 c6 bG c f 1 fun i=>
 cM Z i (.int .u64 g) fun g=>
 bB (IntKind.i64.wrap (f+1)) fun i=>
 a M b aA aM aL aK bG c bI h e i g) (c6 M b f 1 fun g=>
 eO Z .u64 g fun g=>
 oV g 0 d fun g m32=>
 c6 bG c f 1 fun h=>
 cM Z h (.int .u64 g) fun g=>
 bB (IntKind.i64.wrap (f+1)) fun f=>
 a M b aA aM aL aK bG c bI m32 e f g)) (cF.t Y M b aA bG c bI d Z)
def eX.g(Y:aF)(a:S→Nat→Nat→S→Nat→Nat→S→Nat→Nat→Int→Int→Int→U→Prop)(X:Fr)(Z:U):Prop:=aR (X 0) fun M b aA=>aR (X 1) fun aM aL aK=>aR (X 6) fun bG c bI=>a0 .u64 (X 7) fun d=>a0 .i64 (X 30) fun e=>a0 .i64 (X 31) fun f=>eX.t Y a M b aA aM aL aK bG c bI d e f Z
theorem eX.ok(Y:aF)(a:S→Nat→Nat→S→Nat→Nat→S→Nat→Nat→Int→Int→Int→U→Prop)(X:Fr)(Z:U)(g:eX.g Y a X Z):den prog E (a6 aO [W,W,W,W,W,aJ,W,aJ,aJ]) (aV.then (g8.g a) (aV.inBlock 0 (aV.then (cF.g Y) (bC E [.tmp 4,.tmp 5] Y)))) X Z:=
 bF g fun M a aA b g=>bF g fun aM aL aK c g=>bF g fun bG d bI e g=>bJ g fun f h g=>bJ g fun i j g=>bJ g fun k l g=>bV [(0,.slice M a aA),(1,.slice aM aL aK),(6,.slice bG d bI),(7,.int .u64 f),(30,.int .i64 i),(31,.int .i64 k)] ⟨b,c,e,h,j,l,trivial⟩ (by kernel_rfl) g
def g8.t(Y:aF):Nat→S→Nat→Nat→S→Nat→Nat→S→Nat→Nat→Int→Int→Int→U→Prop
 | 0=>fun _ _ _ _ _ _ _ _ _ _ _ _ _=>False
 | n+1=>fun M a aA aM aL aK bG b bI c d e Z=>eX.t Y (g8.t Y n) M a aA aM aL aK bG b bI c d e Z
theorem g8.ok(Y:aF)(X:Fr)(Z:U)(g:g8.g (fun M a aA aM aL aK bG b bI c d e Z=>∃ n,g8.t Y n M a aA aM aL aK bG b bI c d e Z) X Z):den prog E (a6 aO [W,W,W,W,W,aJ,W,aJ]) (aV.inBlock 0 (aV.then (cF.g Y) (bC E [.tmp 4,.tmp 5] Y))) X Z:=by
 obtain⟨M,a,aA,f,g⟩:=b2 g
 obtain⟨aM,aL,aK,h,g⟩:=b2 g
 obtain⟨bG,b,bI,i,g⟩:=b2 g
 obtain⟨c,j,g⟩:=bT g
 obtain⟨d,k,g⟩:=bT g
 obtain⟨e,l,g⟩:=bT g
 obtain⟨n,g⟩:=g
 refine fF (fun n=>g8.g (g8.t Y n)) (K:=(a6 aO [W,W,W,W,W,aJ,W,aJ,aJ])) (by kernel_rfl) (fun X Z g=>?_) (fun n=>eX.ok Y (g8.t Y n)) n X Z (bL f (bL h (bL i (b0 j (b0 k (b0 l (g)))))))
 obtain⟨M,a,aA,f,g⟩:=b2 g
 obtain⟨aM,aL,aK,h,g⟩:=b2 g
 obtain⟨bG,b,bI,i,g⟩:=b2 g
 obtain⟨c,j,g⟩:=bT g
 obtain⟨d,k,g⟩:=bT g
 obtain⟨e,l,g⟩:=bT g
 exact g
theorem P5.ok(Y:aF)(X:Fr)(Z:U)(g:g8.g (fun M a aA aM aL aK bG b bI c d e Z=>∃ n,g8.t Y n M a aA aM aL aK bG b bI c d e Z) X Z):den prog E (a6 aO [W,W,W,W,W,aJ,W]) (aV.then (cF.g Y) (bC E [.tmp 4,.tmp 5] Y)) X Z:=
 e3 (by kernel_rfl) (g8.ok Y X Z g)
def cH.t(Y:aF)(M:S)(a aA:Nat)(aM:S)(aL aK:Nat)(bG:S)(b bI:Nat)(c:Int)(Z:U):Prop:=
 (∃ n,g8.t Y n M a aA aM aL aK bG b bI c (((a:Nat):Int)) 0 Z)
def cH.g(Y:aF)(X:Fr)(Z:U):Prop:=aR (X 0) fun M a aA=>aR (X 1) fun aM aL aK=>aR (X 6) fun bG b bI=>a0 .u64 (X 7) fun c=>cH.t Y M a aA aM aL aK bG b bI c Z
theorem cH.ok(Y:aF)(X:Fr)(Z:U)(g:cH.g Y X Z):den prog E (a6 aO [W,W,W,W,W,aJ]) (aV.then (cF.g Y) (bC E [.tmp 4,.tmp 5] Y)) X Z:=
 bF g fun M a aA b g=>bF g fun aM aL aK c g=>bF g fun bG d bI e g=>bJ g fun f h g=>c5 1 (r:=(a6 aO [W,W,W,W,W,aJ,W])) (by kernel_rfl) (P5.ok Y) (bV [(0,.slice M a aA),(1,.slice aM aL aK),(6,.slice bG d bI),(7,.int .u64 f)] ⟨b,c,e,h,trivial⟩ (by kernel_rfl) g)
theorem P6.ok(Y:aF)(X:Fr)(Z:U)(g:cH.g Y X Z):den prog E (a6 aO [W,W,W,W,W]) (bC E [.tmp 4,.tmp 5] Y) X Z:=
 fP (by kernel_rfl) (cF.ok Y) (cH.ok Y X Z g)
def bM.t(Y:aF)(M:S)(a aA:Nat)(aM:S)(aL aK:Nat)(Z:U):Prop:=
 bB (IntKind.i64.wrap ((((a:Nat):Int))+1)) fun b=>
 iS Z 35 j6 b b fun c d=>
 cH.t Y M a aA aM aL aK (some c) b.toNat b.toNat 0 d
def bM.g(Y:aF)(X:Fr)(Z:U):Prop:=aR (X 0) fun M a aA=>aR (X 1) fun aM aL aK=>bM.t Y M a aA aM aL aK Z
theorem bM.ok(Y:aF)(X:Fr)(Z:U)(g:bM.g Y X Z):den prog E (a6 aO [W,W,W]) (bC E [.tmp 4,.tmp 5] Y) X Z:=
 bF g fun M a aA b g=>bF g fun aM aL aK c g=>c5 2 (r:=(a6 aO [W,W,W,W,W])) (by kernel_rfl) (P6.ok Y) (bV [(0,.slice M a aA),(1,.slice aM aL aK)] ⟨b,c,trivial⟩ (by kernel_rfl) g)
def a5.t(Y:aF)(M:S)(a aA:Nat)(aM:S)(aL aK:Nat)(Z:U):Prop:=
 cond (decide ((((a:Nat):Int)) < (((aL:Nat):Int)))) (bM.t Y aM aL aK M a aA Z) (bM.t Y M a aA aM aL aK Z)
def a5.g(Y:aF)(X:Fr)(Z:U):Prop:=aR (X 0) fun M a aA=>aR (X 1) fun aM aL aK=>a5.t Y M a aA aM aL aK Z
theorem a5.ok(Y:aF)(X:Fr)(Z:U)(g:a5.g Y X Z):den prog E (a6 aO [W,W]) (bC E [.tmp 4,.tmp 5] Y) X Z:=
 bF g fun M a aA b g=>bF g fun aM aL aK c g=>c5 1 (r:=(a6 aO [W,W,W])) (by kernel_rfl) (bM.ok Y) (bV [(0,.slice M a aA),(1,.slice aM aL aK)] ⟨b,c,trivial⟩ (by kernel_rfl) g)
def aP.t(Y:aF)(M:S)(a aA:Nat)(aM:S)(aL aK:Nat)(Z:U):Prop:=
 a4 k4.id #[.slice M a aA] Z fun b c=>
 eU b fun b=>
 cond (!b) (Y (.tuple #[.slice none 0 0,.int .i64 2]) c) (a4 k4.id #[.slice aM aL aK] c fun b c=>
 eU b fun b=>
 cond (!b) (Y (.tuple #[.slice none 0 0,.int .i64 2]) c) (a5.t Y M a aA aM aL aK c))
def aP.g(Y:aF)(X:Fr)(Z:U):Prop:=aR (X 0) fun M a aA=>aR (X 1) fun aM aL aK=>aP.t Y M a aA aM aL aK Z
theorem aP.ok(Y:aF)(X:Fr)(Z:U)(g:aP.g Y X Z):den prog E aO (bC E [.tmp 4,.tmp 5] Y) X Z:=
 bF g fun M a aA b g=>bF g fun aM aL aK c g=>c5 2 (r:=(a6 aO [W,W])) (by kernel_rfl) (a5.ok Y) (bV [(0,.slice M a aA),(1,.slice aM aL aK)] ⟨b,c,trivial⟩ (by kernel_rfl) g)
def t(M:S)(a aA:Nat)(aM:S)(aL aK:Nat)(Z:U)(Y:aF):Prop:=aP.t Y M a aA aM aL aK Z
theorem ok{M:S}{a:Nat}{aA:Nat}{aM:S}{aL:Nat}{aK:Nat}{Z:U}{Y:aF}(g:t M a aA aM aL aK Z Y):a4 id #[.slice M a aA,.slice aM aL aK] Z Y:=
 eD dT (c:=aO) (dH:=[.tmp 4,.tmp 5]) Tryz.func54 (by kernel_rfl) (by kernel_rfl) (by kernel_rfl) (args:=[.slice M a aA,.slice aM aL aK]) (by kernel_rfl) (aP.ok Y _ Z (bL rfl (bL rfl (g))))
end jU
namespace q1
noncomputable def aO:Code:=dY Tryz.f55
def cP.g(bP:Int→Int→U→Prop)(X:Fr)(Z:U):Prop:=a0 .i64 (X 0) fun aY=>a0 .i64 (X 4) fun a=>bP aY a Z
def cF.t(Y:aF)(a:Int→Int→U→Prop)(aY b:Int)(Z:U):Prop:=
 bB (IntKind.i64.wrap (aY+b)) fun eF=>
 a4 tC.id #[.int .i64 eF] Z fun c d=>
 cW c fun c=>
 cU c fun c e f g=>
 cU g fun g h i j=>
 b9 j <| a4 kV.id #[.int .u64 1] d fun d fV=>
 aR d fun d j k=>
 bB (IntKind.i64.wrap (2*aY)) fun l=>
 bB (IntKind.i64.wrap (l+b)) fun l=>
 bB (IntKind.i64.wrap (l+1)) fun l=>
 a4 lB.id #[.slice d j k,.int .i64 l] fV fun d j=>
 cW d fun d=>
 cU d fun d k l m=>
 dP m .i64 fun m m=>
 b9 m <| a4 nP.id #[.slice d k l,.slice g h i] j fun g h=>
 cW g fun g=>
 cU g fun g i j m=>
 cU m fun m m m m=>
 dP m .i64 fun m m=>
 b9 m <| a4 nP.id #[.slice d k l,.slice c e f] h fun c d=>
 cW c fun c=>
 cU c fun c e f h=>
 cU h fun h h h h=>
 dP h .i64 fun h h=>
 b9 h <| a4 jO.id #[.slice g i j,.slice c e f] d fun c d=>
 a0 .i64 c fun c=>
 cond (c == 0) (Y (.tuple #[.slice g i j,.int .i64 0]) d) (bB (IntKind.i64.wrap (b*2)) fun b=>
 a aY b d)
def cF.g(Y:aF)(a:Int→Int→U→Prop)(X:Fr)(Z:U):Prop:=a0 .i64 (X 0) fun aY=>a0 .i64 (X 4) fun b=>cF.t Y a aY b Z
theorem cF.ok(Y:aF)(a:Int→Int→U→Prop)(X:Fr)(Z:U)(g:cF.g Y a X Z):den prog E (a6 aO [W,W,W,aJ,aJ]) (aV.then (cP.g a) (aV.inBlock 0 (bC E [.tmp 2,.tmp 3] Y))) X Z:=
 bJ g fun aY a g=>bJ g fun b c g=>bV [(0,.int .i64 aY),(4,.int .i64 b)] ⟨a,c,trivial⟩ (by kernel_rfl) g
def cP.t(Y:aF):Nat→Int→Int→U→Prop
 | 0=>fun _ _ _=>False
 | n+1=>fun aY a Z=>cF.t Y (cP.t Y n) aY a Z
theorem cP.ok(Y:aF)(X:Fr)(Z:U)(g:cP.g (fun aY a Z=>∃ n,cP.t Y n aY a Z) X Z):den prog E (a6 aO [W,W,W,aJ]) (aV.inBlock 0 (bC E [.tmp 2,.tmp 3] Y)) X Z:=by
 obtain⟨aY,b,g⟩:=bT g
 obtain⟨a,c,g⟩:=bT g
 obtain⟨n,g⟩:=g
 refine fF (fun n=>cP.g (cP.t Y n)) (K:=(a6 aO [W,W,W,aJ,aJ])) (by kernel_rfl) (fun X Z g=>?_) (fun n=>cF.ok Y (cP.t Y n)) n X Z (b0 b (b0 c (g)))
 obtain⟨aY,b,g⟩:=bT g
 obtain⟨a,c,g⟩:=bT g
 exact g
theorem hV.ok(Y:aF)(X:Fr)(Z:U)(g:cP.g (fun aY a Z=>∃ n,cP.t Y n aY a Z) X Z):den prog E (a6 aO [W,W,W]) (bC E [.tmp 2,.tmp 3] Y) X Z:=
 e3 (by kernel_rfl) (cP.ok Y X Z g)
def a5.t(Y:aF)(aY:Int)(Z:U):Prop:=
 (∃ n,cP.t Y n aY 48 Z)
def a5.g(Y:aF)(X:Fr)(Z:U):Prop:=a0 .i64 (X 0) fun aY=>a5.t Y aY Z
theorem a5.ok(Y:aF)(X:Fr)(Z:U)(g:a5.g Y X Z):den prog E (a6 aO [W,W]) (bC E [.tmp 2,.tmp 3] Y) X Z:=
 bJ g fun aY a g=>c5 1 (r:=(a6 aO [W,W,W])) (by kernel_rfl) (hV.ok Y) (bV [(0,.int .i64 aY)] ⟨a,trivial⟩ (by kernel_rfl) g)
def aP.t(Y:aF)(aY:Int)(Z:U):Prop:=
 cond (decide (aY < 1)) (Y (.tuple #[.slice none 0 0,.int .i64 1]) Z) (cond (decide (aY > 70000)) (Y (.tuple #[.slice none 0 0,.int .i64 1]) Z) (a5.t Y aY Z))
def aP.g(Y:aF)(X:Fr)(Z:U):Prop:=a0 .i64 (X 0) fun aY=>aP.t Y aY Z
theorem aP.ok(Y:aF)(X:Fr)(Z:U)(g:aP.g Y X Z):den prog E aO (bC E [.tmp 2,.tmp 3] Y) X Z:=
 bJ g fun aY a g=>c5 2 (r:=(a6 aO [W,W])) (by kernel_rfl) (a5.ok Y) (bV [(0,.int .i64 aY)] ⟨a,trivial⟩ (by kernel_rfl) g)
def t(aY:Int)(Z:U)(Y:aF):Prop:=aP.t Y aY Z
theorem ok{aY:Int}{Z:U}{Y:aF}(g:t aY Z Y):a4 id #[.int .i64 aY] Z Y:=
 eD dT (c:=aO) (dH:=[.tmp 2,.tmp 3]) Tryz.func55 (by kernel_rfl) (by kernel_rfl) (by kernel_rfl) (args:=[.int .i64 aY]) (by kernel_rfl) (aP.ok Y _ Z (b0 rfl (g)))
end q1
namespace pW
noncomputable def aO:Code:=dY Tryz.f56
def a5.t(Y:aF)(b6:S)(a b7:Nat)(Z:U):Prop:=
 a4 oB.id #[.slice b6 a b7] Z fun a b=>
 cW a fun a=>
 cU a fun a c d e=>
 dP e .i64 fun e f=>
 b9 f <| Y (.tuple #[.slice a c d,.int .i64 e]) b
def a5.g(Y:aF)(X:Fr)(Z:U):Prop:=aR (X 8) fun b6 a b7=>a5.t Y b6 a b7 Z
theorem a5.ok(Y:aF)(X:Fr)(Z:U)(g:a5.g Y X Z):den prog E (a6 aO [W,W,W,W,W,W,W]) (bC E [.tmp 4,.tmp 5] Y) X Z:=
 bF g fun b6 a b7 b g=>bV [(8,.slice b6 a b7)] ⟨b,trivial⟩ (by kernel_rfl) g
def aP.t(Y:aF)(M:S)(a aA:Nat)(aS:Int)(Z:U):Prop:=
 cond (decide (aS < 0)) (Y (.tuple #[.slice none 0 0,.int .i64 1]) Z) (a4 k4.id #[.slice M a aA] Z fun b c=>
 eU b fun b=>
 cond (!b) (Y (.tuple #[.slice none 0 0,.int .i64 2]) c) ((64:Int) ≠ 0∧bB (IntKind.i64.wrap (Int.tdiv aS 64)) fun b=>
 (64:Int) ≠ 0∧bB (Int.tmod aS 64) fun d=>
 iS c 35 j6 (((a:Nat):Int)) (((a:Nat):Int)) fun c e=>
 n5 e 1 (some c) ((((a:Nat):Int)).toNat) (.slice M a aA) fun e e=>
 cond (decide (b < (((a:Nat):Int)))) (c6 (some c) ((((a:Nat):Int)).toNat) b 1 fun f=>
 eO e .u64 f fun f=>
 0≤d∧bB (iQ .u64 1 d) fun d=>
 bB (IntKind.u64.wrap (d - 1)) fun d=>
 bB (j1 .u64 f d) fun d=>
 c6 (some c) ((((a:Nat):Int)).toNat) b 1 fun f=>
 cM e f (.int .u64 d) fun d=>
 bB (IntKind.i64.wrap (b+1)) fun b=>
 iR 1 (some c) ((((a:Nat):Int)).toNat) ((((a:Nat):Int)).toNat) none (some (.int .i64 b)) none fun b f g=>
 a5.t Y b f g d) (a5.t Y (some c) ((((a:Nat):Int)).toNat) ((((a:Nat):Int)).toNat) e)))
def aP.g(Y:aF)(X:Fr)(Z:U):Prop:=aR (X 0) fun M a aA=>a0 .i64 (X 1) fun aS=>aP.t Y M a aA aS Z
theorem aP.ok(Y:aF)(X:Fr)(Z:U)(g:aP.g Y X Z):den prog E aO (bC E [.tmp 4,.tmp 5] Y) X Z:=
 bF g fun M a aA b g=>bJ g fun aS c g=>c5 7 (r:=(a6 aO [W,W,W,W,W,W,W])) (by kernel_rfl) (a5.ok Y) (bV [(0,.slice M a aA),(1,.int .i64 aS)] ⟨b,c,trivial⟩ (by kernel_rfl) g)
def t(M:S)(a aA:Nat)(aS:Int)(Z:U)(Y:aF):Prop:=aP.t Y M a aA aS Z
theorem ok{M:S}{a:Nat}{aA:Nat}{aS:Int}{Z:U}{Y:aF}(g:t M a aA aS Z Y):a4 id #[.slice M a aA,.int .i64 aS] Z Y:=
 eD dT (c:=aO) (dH:=[.tmp 4,.tmp 5]) Tryz.func56 (by kernel_rfl) (by kernel_rfl) (by kernel_rfl) (args:=[.slice M a aA,.int .i64 aS]) (by kernel_rfl) (aP.ok Y _ Z (bL rfl (b0 rfl (g))))
end pW
namespace tJ
noncomputable def aO:Code:=dY Tryz.f57
def aP.t(Y:aF)(M:S)(a aA:Nat)(Z:U):Prop:=
 cond ((((a:Nat):Int)) == 0) (Y (.slice none 0 0) Z) (a4 tI.id #[] Z fun b c=>
 aR b fun b d e=>
 a4 p3.id #[.slice b d e,.slice M a aA,.int .u64 1] c fun a b=>
 aR a fun a c d=>
 Y (.slice a c d) b)
def aP.g(Y:aF)(X:Fr)(Z:U):Prop:=aR (X 0) fun M a aA=>aP.t Y M a aA Z
theorem aP.ok(Y:aF)(X:Fr)(Z:U)(g:aP.g Y X Z):den prog E aO (bC E [.tmp 2] Y) X Z:=
 bF g fun M a aA b g=>bV [(0,.slice M a aA)] ⟨b,trivial⟩ (by kernel_rfl) g
def t(M:S)(a aA:Nat)(Z:U)(Y:aF):Prop:=aP.t Y M a aA Z
theorem ok{M:S}{a:Nat}{aA:Nat}{Z:U}{Y:aF}(g:t M a aA Z Y):a4 id #[.slice M a aA] Z Y:=
 eD dT (c:=aO) (dH:=[.tmp 2]) Tryz.func57 (by kernel_rfl) (by kernel_rfl) (by kernel_rfl) (args:=[.slice M a aA]) (by kernel_rfl) (aP.ok Y _ Z (bL rfl (g)))
end tJ
namespace kN
noncomputable def aO:Code:=dY Tryz.f58
def dG.g(bP:Int→S→Nat→Nat→Int→S→Nat→Nat→Int→S→Nat→Nat→Int→U→Prop)(X:Fr)(Z:U):Prop:=a0 .u64 (X 1) fun aS=>aR (X 6) fun bG a bI=>a0 .u64 (X 7) fun b=>aR (X 8) fun b6 c b7=>a0 .u64 (X 9) fun d=>aR (X 10) fun e f h=>a0 .u64 (X 11) fun i=>bP aS bG a bI b b6 c b7 d e f h i Z
def hI.t(Y:aF)(b1:Int→S→Nat→Nat→Int→S→Nat→Nat→Int→S→Nat→Nat→Int→U→Prop)(aS:Int)(bG:S)(a bI:Nat)(b:Int)(b6:S)(c b7:Nat)(d:Int)(e:S)(f g:Nat)(h:Int)(i:Bool)(Z:U):Prop:=
 cond i (Y (.tuple #[.int .u64 b,.slice bG a bI]) Z) (b1 aS bG a bI b b6 c b7 d e f g h Z)
def hI.g(Y:aF)(b1:Int→S→Nat→Nat→Int→S→Nat→Nat→Int→S→Nat→Nat→Int→U→Prop)(X:Fr)(Z:U):Prop:=a0 .u64 (X 1) fun aS=>aR (X 6) fun bG a bI=>a0 .u64 (X 7) fun b=>aR (X 8) fun b6 c b7=>a0 .u64 (X 9) fun d=>aR (X 10) fun e f h=>a0 .u64 (X 11) fun i=>eU (X 144) fun j=>hI.t Y b1 aS bG a bI b b6 c b7 d e f h i j Z
theorem hI.ok(Y:aF)(b1:Int→S→Nat→Nat→Int→S→Nat→Nat→Int→S→Nat→Nat→Int→U→Prop)(X:Fr)(Z:U)(g:hI.g Y b1 X Z):den prog E (a6 aO [W,W,W,W,W,aJ,aJ,aJ,W,W,W,W,W,W,W,W,W,W,W]) (aV.inBlock 1 (aV.then (dG.g b1) (aV.inBlock 0 (bC E [.tmp 4,.tmp 5] Y)))) X Z:=
 bJ g fun aS a g=>bF g fun bG b bI c g=>bJ g fun d e g=>bF g fun b6 f b7 h g=>bJ g fun i j g=>bF g fun k l m n g=>bJ g fun o p g=>yM g fun q r g=>bV [(1,.int .u64 aS),(6,.slice bG b bI),(7,.int .u64 d),(8,.slice b6 f b7),(9,.int .u64 i),(10,.slice k l m),(11,.int .u64 o),(144,.bool q)] ⟨a,c,e,h,j,n,p,r,trivial⟩ (by kernel_rfl) g
def gS.t(Y:aF)(b1:Int→S→Nat→Nat→Int→S→Nat→Nat→Int→S→Nat→Nat→Int→U→Prop)(aS:Int)(bG:S)(a bI:Nat)(b:Int)(b6:S)(c b7:Nat)(d:Int)(e:S)(f g:Nat)(h i:Int)(Z:U):Prop:=
 cond (i == 0) (Y (.tuple #[.int .u64 b,.slice bG a bI]) Z) (a4 p3.id #[.slice b6 c b7,.slice e f g,.int .u64 i] Z fun c j=>
 aR c fun c k l=>
 a4 rX.id #[.int .u64 d,.int .u64 i,.int .u64 h,.int .u64 aS] j fun d i=>
 a0 .u64 d fun d=>
 cond ((((k:Nat):Int)) == 0) (hI.t Y b1 aS bG a bI b c k l d e f g h true i) (hI.t Y b1 aS bG a bI b c k l d e f g h (decide (d > aS)) i))
def gS.g(Y:aF)(b1:Int→S→Nat→Nat→Int→S→Nat→Nat→Int→S→Nat→Nat→Int→U→Prop)(X:Fr)(Z:U):Prop:=a0 .u64 (X 1) fun aS=>aR (X 6) fun bG a bI=>a0 .u64 (X 7) fun b=>aR (X 8) fun b6 c b7=>a0 .u64 (X 9) fun d=>aR (X 10) fun e f h=>a0 .u64 (X 11) fun i=>a0 .u64 (X 16) fun j=>gS.t Y b1 aS bG a bI b b6 c b7 d e f h i j Z
theorem gS.ok(Y:aF)(b1:Int→S→Nat→Nat→Int→S→Nat→Nat→Int→S→Nat→Nat→Int→U→Prop)(X:Fr)(Z:U)(g:gS.g Y b1 X Z):den prog E (a6 aO [W,W,W,W,W,aJ,aJ,aJ,W,W,W,W,W,W,W,W]) (aV.inBlock 1 (aV.then (dG.g b1) (aV.inBlock 0 (bC E [.tmp 4,.tmp 5] Y)))) X Z:=
 bJ g fun aS a g=>bF g fun bG b bI c g=>bJ g fun d e g=>bF g fun b6 f b7 h g=>bJ g fun i j g=>bF g fun k l m n g=>bJ g fun o p g=>bJ g fun q s g=>c5 3 (r:=(a6 aO [W,W,W,W,W,aJ,aJ,aJ,W,W,W,W,W,W,W,W,W,W,W])) (by kernel_rfl) (hI.ok Y b1) (bV [(1,.int .u64 aS),(6,.slice bG b bI),(7,.int .u64 d),(8,.slice b6 f b7),(9,.int .u64 i),(10,.slice k l m),(11,.int .u64 o),(16,.int .u64 q)] ⟨a,c,e,h,j,n,p,s,trivial⟩ (by kernel_rfl) g)
def eZ.t(Y:aF)(b1:Int→S→Nat→Nat→Int→S→Nat→Nat→Int→S→Nat→Nat→Int→U→Prop)(aS:Int)(bG:S)(a bI:Nat)(b:Int)(b6:S)(c b7:Nat)(d:Int)(e:S)(f g:Nat)(h i:Int)(Z:U):Prop:=
 a4 p4.id #[.slice b6 c b7,.slice e f g,.int .u64 aS] Z fun j k=>
 a0 .u64 j fun j=>
 cond (decide (i > j)) (gS.t Y b1 aS bG a bI b b6 c b7 d e f g h j k) (gS.t Y b1 aS bG a bI b b6 c b7 d e f g h i k)
def eZ.g(Y:aF)(b1:Int→S→Nat→Nat→Int→S→Nat→Nat→Int→S→Nat→Nat→Int→U→Prop)(X:Fr)(Z:U):Prop:=a0 .u64 (X 1) fun aS=>aR (X 6) fun bG a bI=>a0 .u64 (X 7) fun b=>aR (X 8) fun b6 c b7=>a0 .u64 (X 9) fun d=>aR (X 10) fun e f h=>a0 .u64 (X 11) fun i=>a0 .u64 (X 16) fun j=>eZ.t Y b1 aS bG a bI b b6 c b7 d e f h i j Z
theorem eZ.ok(Y:aF)(b1:Int→S→Nat→Nat→Int→S→Nat→Nat→Int→S→Nat→Nat→Int→U→Prop)(X:Fr)(Z:U)(g:eZ.g Y b1 X Z):den prog E (a6 aO [W,W,W,W,W,aJ,aJ,aJ,W,W,W,W,W,W,W]) (aV.inBlock 1 (aV.then (dG.g b1) (aV.inBlock 0 (bC E [.tmp 4,.tmp 5] Y)))) X Z:=
 bJ g fun aS a g=>bF g fun bG b bI c g=>bJ g fun d e g=>bF g fun b6 f b7 h g=>bJ g fun i j g=>bF g fun k l m n g=>bJ g fun o p g=>bJ g fun q s g=>c5 1 (r:=(a6 aO [W,W,W,W,W,aJ,aJ,aJ,W,W,W,W,W,W,W,W])) (by kernel_rfl) (gS.ok Y b1) (bV [(1,.int .u64 aS),(6,.slice bG b bI),(7,.int .u64 d),(8,.slice b6 f b7),(9,.int .u64 i),(10,.slice k l m),(11,.int .u64 o),(16,.int .u64 q)] ⟨a,c,e,h,j,n,p,s,trivial⟩ (by kernel_rfl) g)
def eX.t(Y:aF)(b1:Int→S→Nat→Nat→Int→S→Nat→Nat→Int→S→Nat→Nat→Int→U→Prop)(aS:Int)(bG:S)(a bI:Nat)(b:Int)(b6:S)(c b7:Nat)(d:Int)(e:S)(f g:Nat)(h:Int)(Z:U):Prop:=
 a4 kH.id #[.slice b6 c b7,.slice bG a bI] Z fun i j=>
 cW i fun i=>
 cU i fun i k l m=>
 dP m .i64 fun m m=>
 b9 m <| a4 p4.id #[.slice i k l,.slice e f g,.int .u64 aS] j fun j m=>
 a0 .u64 j fun j=>
 a4 kI.id #[.slice e f g,.int .u64 j] m fun m n=>
 cW m fun m=>
 cU m fun m o p q=>
 dP q .i64 fun q q=>
 b9 q <| a4 jO.id #[.slice m o p,.slice i k l] n fun i k=>
 a0 .i64 i fun i=>
 cond (decide (i < 0)) (bB (IntKind.u64.wrap (j+1)) fun i=>
 eZ.t Y b1 aS bG a bI b b6 c b7 d e f g h i k) (eZ.t Y b1 aS bG a bI b b6 c b7 d e f g h j k)
def eX.g(Y:aF)(b1:Int→S→Nat→Nat→Int→S→Nat→Nat→Int→S→Nat→Nat→Int→U→Prop)(X:Fr)(Z:U):Prop:=a0 .u64 (X 1) fun aS=>aR (X 6) fun bG a bI=>a0 .u64 (X 7) fun b=>aR (X 8) fun b6 c b7=>a0 .u64 (X 9) fun d=>aR (X 10) fun e f h=>a0 .u64 (X 11) fun i=>eX.t Y b1 aS bG a bI b b6 c b7 d e f h i Z
theorem eX.ok(Y:aF)(b1:Int→S→Nat→Nat→Int→S→Nat→Nat→Int→S→Nat→Nat→Int→U→Prop)(X:Fr)(Z:U)(g:eX.g Y b1 X Z):den prog E (a6 aO [W,W,W,W,W,aJ,aJ,aJ,W,W,W,W]) (aV.inBlock 1 (aV.then (dG.g b1) (aV.inBlock 0 (bC E [.tmp 4,.tmp 5] Y)))) X Z:=
 bJ g fun aS a g=>bF g fun bG b bI c g=>bJ g fun d e g=>bF g fun b6 f b7 h g=>bJ g fun i j g=>bF g fun k l m n g=>bJ g fun o p g=>c5 3 (r:=(a6 aO [W,W,W,W,W,aJ,aJ,aJ,W,W,W,W,W,W,W])) (by kernel_rfl) (eZ.ok Y b1) (bV [(1,.int .u64 aS),(6,.slice bG b bI),(7,.int .u64 d),(8,.slice b6 f b7),(9,.int .u64 i),(10,.slice k l m),(11,.int .u64 o)] ⟨a,c,e,h,j,n,p,trivial⟩ (by kernel_rfl) g)
def dD.t(Y:aF)(b1:Int→S→Nat→Nat→Int→S→Nat→Nat→Int→S→Nat→Nat→Int→U→Prop)(aS:Int)(bG:S)(a bI:Nat)(b:Int)(b6:S)(c b7:Nat)(d:Int)(e:S)(f g:Nat)(h:Int)(Z:U):Prop:=
 cond ((((f:Nat):Int)) == 0) (Y (.tuple #[.int .u64 b,.slice bG a bI]) Z) (cond (decide (h > aS)) (Y (.tuple #[.int .u64 b,.slice bG a bI]) Z) (eX.t Y b1 aS bG a bI b b6 c b7 d e f g h Z))
def dD.g(Y:aF)(b1:Int→S→Nat→Nat→Int→S→Nat→Nat→Int→S→Nat→Nat→Int→U→Prop)(X:Fr)(Z:U):Prop:=a0 .u64 (X 1) fun aS=>aR (X 6) fun bG a bI=>a0 .u64 (X 7) fun b=>aR (X 8) fun b6 c b7=>a0 .u64 (X 9) fun d=>aR (X 10) fun e f h=>a0 .u64 (X 11) fun i=>dD.t Y b1 aS bG a bI b b6 c b7 d e f h i Z
theorem dD.ok(Y:aF)(b1:Int→S→Nat→Nat→Int→S→Nat→Nat→Int→S→Nat→Nat→Int→U→Prop)(X:Fr)(Z:U)(g:dD.g Y b1 X Z):den prog E (a6 aO [W,W,W,W,W,aJ,aJ,aJ,W,W,W]) (aV.inBlock 1 (aV.then (dG.g b1) (aV.inBlock 0 (bC E [.tmp 4,.tmp 5] Y)))) X Z:=
 bJ g fun aS a g=>bF g fun bG b bI c g=>bJ g fun d e g=>bF g fun b6 f b7 h g=>bJ g fun i j g=>bF g fun k l m n g=>bJ g fun o p g=>c5 1 (r:=(a6 aO [W,W,W,W,W,aJ,aJ,aJ,W,W,W,W])) (by kernel_rfl) (eX.ok Y b1) (bV [(1,.int .u64 aS),(6,.slice bG b bI),(7,.int .u64 d),(8,.slice b6 f b7),(9,.int .u64 i),(10,.slice k l m),(11,.int .u64 o)] ⟨a,c,e,h,j,n,p,trivial⟩ (by kernel_rfl) g)
def cH.t(Y:aF)(b1:Int→S→Nat→Nat→Int→S→Nat→Nat→Int→S→Nat→Nat→Int→U→Prop)(aS:Int)(bG:S)(a bI:Nat)(b:Int)(b6:S)(c b7:Nat)(d:Int)(e:S)(f g:Nat)(h:Int)(Z:U):Prop:=
 a4 p4.id #[.slice e f g,.slice b6 c b7,.int .u64 aS] Z fun i j=>
 a0 .u64 i fun i=>
 cond (decide (i > 0)) (a4 p3.id #[.slice e f g,.slice b6 c b7,.int .u64 i] j fun k l=>
 aR k fun k m n=>
 a4 rX.id #[.int .u64 h,.int .u64 i,.int .u64 d,.int .u64 aS] l fun i l=>
 a0 .u64 i fun i=>
 dD.t Y b1 aS bG a bI b b6 c b7 d k m n i l) (dD.t Y b1 aS bG a bI b b6 c b7 d e f g h j)
def cH.g(Y:aF)(b1:Int→S→Nat→Nat→Int→S→Nat→Nat→Int→S→Nat→Nat→Int→U→Prop)(X:Fr)(Z:U):Prop:=a0 .u64 (X 1) fun aS=>aR (X 6) fun bG a bI=>a0 .u64 (X 7) fun b=>aR (X 8) fun b6 c b7=>a0 .u64 (X 9) fun d=>aR (X 10) fun e f h=>a0 .u64 (X 11) fun i=>cH.t Y b1 aS bG a bI b b6 c b7 d e f h i Z
theorem cH.ok(Y:aF)(b1:Int→S→Nat→Nat→Int→S→Nat→Nat→Int→S→Nat→Nat→Int→U→Prop)(X:Fr)(Z:U)(g:cH.g Y b1 X Z):den prog E (a6 aO [W,W,W,W,W,aJ,aJ,aJ,W,W]) (aV.inBlock 1 (aV.then (dG.g b1) (aV.inBlock 0 (bC E [.tmp 4,.tmp 5] Y)))) X Z:=
 bJ g fun aS a g=>bF g fun bG b bI c g=>bJ g fun d e g=>bF g fun b6 f b7 h g=>bJ g fun i j g=>bF g fun k l m n g=>bJ g fun o p g=>c5 1 (r:=(a6 aO [W,W,W,W,W,aJ,aJ,aJ,W,W,W])) (by kernel_rfl) (dD.ok Y b1) (bV [(1,.int .u64 aS),(6,.slice bG b bI),(7,.int .u64 d),(8,.slice b6 f b7),(9,.int .u64 i),(10,.slice k l m),(11,.int .u64 o)] ⟨a,c,e,h,j,n,p,trivial⟩ (by kernel_rfl) g)
def cF.t(Y:aF)(b1:Int→S→Nat→Nat→Int→S→Nat→Nat→Int→S→Nat→Nat→Int→U→Prop)(aS:Int)(bG:S)(a bI:Nat)(b:Int)(b6:S)(c b7:Nat)(d:Int)(e:S)(f g:Nat)(h:Int)(Z:U):Prop:=
 bB (IntKind.u64.wrap (b+d)) fun i=>
 bB (IntKind.u64.wrap (aS - 1)) fun j=>
 cond (decide (i > j)) (Y (.tuple #[.int .u64 b,.slice bG a bI]) Z) (cond ((((a:Nat):Int)) == 0) (Y (.tuple #[.int .u64 b,.slice bG a bI]) Z) (a4 jO.id #[.slice b6 c b7,.slice bG a bI] Z fun i j=>
 a0 .i64 i fun i=>
 cond (decide (i≤0)) (Y (.tuple #[.int .u64 b,.slice bG a bI]) j) (cH.t Y b1 aS bG a bI b b6 c b7 d e f g h j)))
def cF.g(Y:aF)(b1:Int→S→Nat→Nat→Int→S→Nat→Nat→Int→S→Nat→Nat→Int→U→Prop)(X:Fr)(Z:U):Prop:=a0 .u64 (X 1) fun aS=>aR (X 6) fun bG a bI=>a0 .u64 (X 7) fun b=>aR (X 8) fun b6 c b7=>a0 .u64 (X 9) fun d=>aR (X 10) fun e f h=>a0 .u64 (X 11) fun i=>cF.t Y b1 aS bG a bI b b6 c b7 d e f h i Z
theorem cF.ok(Y:aF)(b1:Int→S→Nat→Nat→Int→S→Nat→Nat→Int→S→Nat→Nat→Int→U→Prop)(X:Fr)(Z:U)(g:cF.g Y b1 X Z):den prog E (a6 aO [W,W,W,W,W,aJ,aJ,aJ,W]) (aV.inBlock 1 (aV.then (dG.g b1) (aV.inBlock 0 (bC E [.tmp 4,.tmp 5] Y)))) X Z:=
 bJ g fun aS a g=>bF g fun bG b bI c g=>bJ g fun d e g=>bF g fun b6 f b7 h g=>bJ g fun i j g=>bF g fun k l m n g=>bJ g fun o p g=>c5 1 (r:=(a6 aO [W,W,W,W,W,aJ,aJ,aJ,W,W])) (by kernel_rfl) (cH.ok Y b1) (bV [(1,.int .u64 aS),(6,.slice bG b bI),(7,.int .u64 d),(8,.slice b6 f b7),(9,.int .u64 i),(10,.slice k l m),(11,.int .u64 o)] ⟨a,c,e,h,j,n,p,trivial⟩ (by kernel_rfl) g)
def bM.t(Y:aF)(b1:Int→S→Nat→Nat→Int→S→Nat→Nat→Int→S→Nat→Nat→Int→U→Prop)(aS:Int)(bG:S)(a bI:Nat)(b:Int)(b6:S)(c b7:Nat)(d:Int)(e:S)(f g:Nat)(h:Int)(Z:U):Prop:=
 a4 p4.id #[.slice bG a bI,.slice b6 c b7,.int .u64 aS] Z fun i j=>
 a0 .u64 i fun i=>
 bB (IntKind.u64.wrap (aS - 1)) fun k=>
 bB (IntKind.u64.wrap (k - b)) fun k=>
 d ≠ 0∧bB (IntKind.u64.wrap (Int.tdiv k d)) fun k=>
 cond (decide ((if k < i then k else i) > 0)) (a4 p3.id #[.slice bG a bI,.slice b6 c b7,.int .u64 (if k < i then k else i)] j fun l m=>
 aR l fun l n o=>
 bB (IntKind.u64.wrap ((if k < i then k else i)*d)) fun i=>
 bB (IntKind.u64.wrap (b+i)) fun i=>
 cF.t Y b1 aS l n o i b6 c b7 d e f g h m) (cF.t Y b1 aS bG a bI b b6 c b7 d e f g h j)
def bM.g(Y:aF)(b1:Int→S→Nat→Nat→Int→S→Nat→Nat→Int→S→Nat→Nat→Int→U→Prop)(X:Fr)(Z:U):Prop:=a0 .u64 (X 1) fun aS=>aR (X 6) fun bG a bI=>a0 .u64 (X 7) fun b=>aR (X 8) fun b6 c b7=>a0 .u64 (X 9) fun d=>aR (X 10) fun e f h=>a0 .u64 (X 11) fun i=>bM.t Y b1 aS bG a bI b b6 c b7 d e f h i Z
theorem bM.ok(Y:aF)(b1:Int→S→Nat→Nat→Int→S→Nat→Nat→Int→S→Nat→Nat→Int→U→Prop)(X:Fr)(Z:U)(g:bM.g Y b1 X Z):den prog E (a6 aO [W,W,W,W,W,aJ,aJ,aJ]) (aV.inBlock 1 (aV.then (dG.g b1) (aV.inBlock 0 (bC E [.tmp 4,.tmp 5] Y)))) X Z:=
 bJ g fun aS a g=>bF g fun bG b bI c g=>bJ g fun d e g=>bF g fun b6 f b7 h g=>bJ g fun i j g=>bF g fun k l m n g=>bJ g fun o p g=>c5 1 (r:=(a6 aO [W,W,W,W,W,aJ,aJ,aJ,W])) (by kernel_rfl) (cF.ok Y b1) (bV [(1,.int .u64 aS),(6,.slice bG b bI),(7,.int .u64 d),(8,.slice b6 f b7),(9,.int .u64 i),(10,.slice k l m),(11,.int .u64 o)] ⟨a,c,e,h,j,n,p,trivial⟩ (by kernel_rfl) g)
theorem wC.ok(Y:aF)(b1:Int→S→Nat→Nat→Int→S→Nat→Nat→Int→S→Nat→Nat→Int→U→Prop)(X:Fr)(Z:U)(g:bM.g Y b1 X Z):den prog E (a6 aO [W,W,W,W,W,aJ,aJ]) (aV.then (dG.g b1) (aV.inBlock 0 (bC E [.tmp 4,.tmp 5] Y))) X Z:=
 e3 (by kernel_rfl) (bM.ok Y b1 X Z g)
def dG.t(Y:aF):Nat→Int→S→Nat→Nat→Int→S→Nat→Nat→Int→S→Nat→Nat→Int→U→Prop
 | 0=>fun _ _ _ _ _ _ _ _ _ _ _ _ _ _=>False
 | n+1=>fun aS bG a bI b b6 c b7 d e f g h Z=>bM.t Y (dG.t Y n) aS bG a bI b b6 c b7 d e f g h Z
theorem dG.ok(Y:aF)(X:Fr)(Z:U)(g:dG.g (fun aS bG a bI b b6 c b7 d e f h i Z=>∃ n,dG.t Y n aS bG a bI b b6 c b7 d e f h i Z) X Z):den prog E (a6 aO [W,W,W,W,W,aJ]) (aV.inBlock 0 (bC E [.tmp 4,.tmp 5] Y)) X Z:=by
 obtain⟨aS,j,g⟩:=bT g
 obtain⟨bG,a,bI,k,g⟩:=b2 g
 obtain⟨b,l,g⟩:=bT g
 obtain⟨b6,c,b7,m,g⟩:=b2 g
 obtain⟨d,o,g⟩:=bT g
 obtain⟨e,f,h,p,g⟩:=b2 g
 obtain⟨i,q,g⟩:=bT g
 obtain⟨n,g⟩:=g
 refine fF (fun n=>dG.g (dG.t Y n)) (K:=(a6 aO [W,W,W,W,W,aJ,aJ])) (by kernel_rfl) (fun X Z g=>?_) (fun n=>wC.ok Y (dG.t Y n)) n X Z (b0 j (bL k (b0 l (bL m (b0 o (bL p (b0 q (g))))))))
 obtain⟨aS,j,g⟩:=bT g
 obtain⟨bG,a,bI,k,g⟩:=b2 g
 obtain⟨b,l,g⟩:=bT g
 obtain⟨b6,c,b7,m,g⟩:=b2 g
 obtain⟨d,o,g⟩:=bT g
 obtain⟨e,f,h,p,g⟩:=b2 g
 obtain⟨i,q,g⟩:=bT g
 exact g
theorem oT.ok(Y:aF)(X:Fr)(Z:U)(g:dG.g (fun aS bG a bI b b6 c b7 d e f h i Z=>∃ n,dG.t Y n aS bG a bI b b6 c b7 d e f h i Z) X Z):den prog E (a6 aO [W,W,W,W,W]) (bC E [.tmp 4,.tmp 5] Y) X Z:=
 e3 (by kernel_rfl) (dG.ok Y X Z g)
def aP.t(Y:aF)(a:S)(b c:Nat)(d:S)(e f:Nat)(aS:Int)(Z:U):Prop:=
 dX Z 99 [.slice a b c,.slice d e f] fun cQ a=>
 dQ a (cQ.add 0) fun b c d=>
 a4 tI.id #[] a fun e f=>
 aR e fun e g h=>
 (e4 a.size a f)∧(cQ.add 1).block < a.size∧dQ f (cQ.add 1) fun i j k=>
 a4 p3.id #[.slice e g h,.slice i j k,.int .u64 1] f fun e g=>
 aR e fun e h i=>
 (e4 a.size f g)∧dQ g (cQ.add 1) fun a f j=>
 (∃ n,dG.t Y n aS b c d 0 e h i 1 a f j 1 g)
def aP.g(Y:aF)(X:Fr)(Z:U):Prop:=eQ (X 0) fun a=>cV a fun a b=>aR a fun a c d=>cV b fun b e=>aR b fun b f h=>b9 e <| a0 .u64 (X 1) fun aS=>aP.t Y a c d b f h aS Z
theorem aP.ok(Y:aF)(X:Fr)(Z:U)(g:aP.g Y X Z):den prog E aO (bC E [.tmp 4,.tmp 5] Y) X Z:=by
 obtain⟨o,a,b⟩:=j4 g
 obtain⟨p,q,rfl,c⟩:=gG b
 obtain⟨d,e,f,rfl,h⟩:=b2 c
 obtain⟨s,t,rfl,i⟩:=gG h
 obtain⟨j,k,l,rfl,m⟩:=b2 i
 obtain⟨rfl,g⟩:=iT m
 obtain⟨aS,n,g⟩:=bT g
 exact c5 5 (r:=(a6 aO [W,W,W,W,W])) (by kernel_rfl) (oT.ok Y) (bV [(0,.agg #[.slice d e f,.slice j k l]),(1,.int .u64 aS)] ⟨a,n,trivial⟩ (by kernel_rfl) g)
def t(a:S)(b c:Nat)(d:S)(e f:Nat)(aS:Int)(Z:U)(Y:aF):Prop:=aP.t Y a b c d e f aS Z
theorem ok{a:S}{b:Nat}{d:Nat}{e:S}{f:Nat}{h:Nat}{aS:Int}{Z:U}{Y:aF}(g:t a b d e f h aS Z Y):a4 id #[.agg #[.slice a b d,.slice e f h],.int .u64 aS] Z Y:=
 eD dT (c:=aO) (dH:=[.tmp 4,.tmp 5]) Tryz.func58 (by kernel_rfl) (by kernel_rfl) (by kernel_rfl) (args:=[.agg #[.slice a b d,.slice e f h],.int .u64 aS]) (by kernel_rfl) (aP.ok Y _ Z (fH rfl (cS (bL rfl (cS (bL rfl (eG (b0 rfl (g)))))))))
end kN
namespace mW
noncomputable def aO:Code:=dY Tryz.f59
def a5.t(Y:aF)(M:S)(a aA:Nat)(b:Int)(Z:U):Prop:=
 iR 1 M a aA none (some (.int .i64 b)) none fun a b c=>Y (.slice a b c) Z
def a5.g(Y:aF)(X:Fr)(Z:U):Prop:=aR (X 0) fun M a aA=>a0 .i64 (X 3) fun b=>a5.t Y M a aA b Z
theorem a5.ok(Y:aF)(X:Fr)(Z:U)(g:a5.g Y X Z):den prog E (a6 aO [W,W,W]) (bC E [.tmp 2] Y) X Z:=
 bF g fun M a aA b g=>bJ g fun c d g=>bV [(0,.slice M a aA),(3,.int .i64 c)] ⟨b,d,trivial⟩ (by kernel_rfl) g
def cP.g(bP:S→Nat→Nat→Int→U→Prop)(X:Fr)(Z:U):Prop:=aR (X 0) fun M a aA=>a0 .i64 (X 3) fun b=>bP M a aA b Z
def cF.t(Y:aF)(a:S→Nat→Nat→Int→U→Prop)(M:S)(b aA:Nat)(c:Int)(Z:U):Prop:=
 cond (decide (c > 0)) (bB (IntKind.i64.wrap (c - 1)) fun d=>
 c6 M b d 1 fun d=>
 eO Z .u64 d fun d=>
 cond (d == 0) (bB (IntKind.i64.wrap (c - 1)) fun d=>
 a M b aA d Z) (a5.t Y M b aA c Z)) (a5.t Y M b aA c Z)
def cF.g(Y:aF)(a:S→Nat→Nat→Int→U→Prop)(X:Fr)(Z:U):Prop:=aR (X 0) fun M b aA=>a0 .i64 (X 3) fun c=>cF.t Y a M b aA c Z
theorem cF.ok(Y:aF)(a:S→Nat→Nat→Int→U→Prop)(X:Fr)(Z:U)(g:cF.g Y a X Z):den prog E (a6 aO [W,W,aJ,aJ,aJ]) (aV.then (cP.g a) (aV.inBlock 0 (aV.then (a5.g Y) (bC E [.tmp 2] Y)))) X Z:=
 bF g fun M a aA b g=>bJ g fun c d g=>bV [(0,.slice M a aA),(3,.int .i64 c)] ⟨b,d,trivial⟩ (by kernel_rfl) g
def cP.t(Y:aF):Nat→S→Nat→Nat→Int→U→Prop
 | 0=>fun _ _ _ _ _=>False
 | n+1=>fun M a aA b Z=>cF.t Y (cP.t Y n) M a aA b Z
theorem cP.ok(Y:aF)(X:Fr)(Z:U)(g:cP.g (fun M a aA b Z=>∃ n,cP.t Y n M a aA b Z) X Z):den prog E (a6 aO [W,W,aJ,aJ]) (aV.inBlock 0 (aV.then (a5.g Y) (bC E [.tmp 2] Y))) X Z:=by
 obtain⟨M,a,aA,c,g⟩:=b2 g
 obtain⟨b,d,g⟩:=bT g
 obtain⟨n,g⟩:=g
 refine fF (fun n=>cP.g (cP.t Y n)) (K:=(a6 aO [W,W,aJ,aJ,aJ])) (by kernel_rfl) (fun X Z g=>?_) (fun n=>cF.ok Y (cP.t Y n)) n X Z (bL c (b0 d (g)))
 obtain⟨M,a,aA,c,g⟩:=b2 g
 obtain⟨b,d,g⟩:=bT g
 exact g
theorem hV.ok(Y:aF)(X:Fr)(Z:U)(g:cP.g (fun M a aA b Z=>∃ n,cP.t Y n M a aA b Z) X Z):den prog E (a6 aO [W,W,aJ]) (aV.then (a5.g Y) (bC E [.tmp 2] Y)) X Z:=
 e3 (by kernel_rfl) (cP.ok Y X Z g)
theorem sI.ok(Y:aF)(X:Fr)(Z:U)(g:cP.g (fun M a aA b Z=>∃ n,cP.t Y n M a aA b Z) X Z):den prog E (a6 aO [W,W]) (bC E [.tmp 2] Y) X Z:=
 fP (by kernel_rfl) (a5.ok Y) (hV.ok Y X Z g)
def aP.t(Y:aF)(M:S)(a aA:Nat)(Z:U):Prop:=
 (∃ n,cP.t Y n M a aA (((a:Nat):Int)) Z)
def aP.g(Y:aF)(X:Fr)(Z:U):Prop:=aR (X 0) fun M a aA=>aP.t Y M a aA Z
theorem aP.ok(Y:aF)(X:Fr)(Z:U)(g:aP.g Y X Z):den prog E aO (bC E [.tmp 2] Y) X Z:=
 bF g fun M a aA b g=>c5 2 (r:=(a6 aO [W,W])) (by kernel_rfl) (sI.ok Y) (bV [(0,.slice M a aA)] ⟨b,trivial⟩ (by kernel_rfl) g)
def t(M:S)(a aA:Nat)(Z:U)(Y:aF):Prop:=aP.t Y M a aA Z
theorem ok{M:S}{a:Nat}{aA:Nat}{Z:U}{Y:aF}(g:t M a aA Z Y):a4 id #[.slice M a aA] Z Y:=
 eD dT (c:=aO) (dH:=[.tmp 2]) Tryz.func59 (by kernel_rfl) (by kernel_rfl) (by kernel_rfl) (args:=[.slice M a aA]) (by kernel_rfl) (aP.ok Y _ Z (bL rfl (g)))
end mW
namespace lM
noncomputable def aO:Code:=dY Tryz.f60
def a5.t(Y:aF)(b6:S)(a b7:Nat)(Z:U):Prop:=
 a4 oB.id #[.slice b6 a b7] Z fun a fV=>
 cW a fun a=>
 cU a fun a b c d=>
 dP d .i64 fun d e=>
 b9 e <| Y (.tuple #[.slice a b c,.int .i64 d]) fV
def a5.g(Y:aF)(X:Fr)(Z:U):Prop:=aR (X 8) fun b6 a b7=>a5.t Y b6 a b7 Z
theorem a5.ok(Y:aF)(X:Fr)(Z:U)(g:a5.g Y X Z):den prog E (a6 aO [W,W,W,W,W,W,W]) (bC E [.tmp 4,.tmp 5] Y) X Z:=
 bF g fun b6 a b7 b g=>bV [(8,.slice b6 a b7)] ⟨b,trivial⟩ (by kernel_rfl) g
def bU.g(bP:S→Nat→Nat→Int→Int→S→Nat→Nat→Int→Int→U→Prop)(X:Fr)(Z:U):Prop:=aR (X 0) fun M a aA=>a0 .i64 (X 6) fun b=>a0 .i64 (X 7) fun c=>aR (X 8) fun b6 d b7=>a0 .i64 (X 29) fun e=>a0 .i64 (X 30) fun f=>bP M a aA b c b6 d b7 e f Z
def cH.t(Y:aF)(a:S→Nat→Nat→Int→Int→S→Nat→Nat→Int→Int→U→Prop)(M:S)(b aA:Nat)(c d:Int)(b6:S)(e b7:Nat)(f g:Int)(Z:U):Prop:=
 cond (decide (g < f)) (bB (IntKind.i64.wrap (c+g)) fun h=>
 c6 M b h 1 fun h=>
 eO Z .u64 h fun h=>
 0≤d∧bB (hG .u64 h d) fun h=>
 c6 b6 e g 1 fun i=>
 cM Z i (.int .u64 h) fun h=>
 bB (IntKind.i64.wrap (c+g)) fun i=>
 bB (IntKind.i64.wrap (i+1)) fun i=>
 cond (decide (i < (((b:Nat):Int)))) (c6 b6 e g 1 fun i=>
 eO h .u64 i fun i=>
 bB (IntKind.i64.wrap (c+g)) fun j=>
 bB (IntKind.i64.wrap (j+1)) fun j=>
 c6 M b j 1 fun j=>
 eO h .u64 j fun j=>
 0≤(1:Int)∧bB (iQ .u64 j 1) fun j=>
 bB (IntKind.i64.wrap (63 - d)) fun k=>
 0≤k∧bB (iQ .u64 j k) fun j=>
 bB (wH .u64 i j) fun i=>
 c6 b6 e g 1 fun j=>
 cM h j (.int .u64 i) fun i=>
 bB (IntKind.i64.wrap (g+1)) fun j=>
 a M b aA c d b6 e b7 f j i) (bB (IntKind.i64.wrap (g+1)) fun g=>
 a M b aA c d b6 e b7 f g h)) (a5.t Y b6 e b7 Z)
def cH.g(Y:aF)(a:S→Nat→Nat→Int→Int→S→Nat→Nat→Int→Int→U→Prop)(X:Fr)(Z:U):Prop:=aR (X 0) fun M b aA=>a0 .i64 (X 6) fun c=>a0 .i64 (X 7) fun d=>aR (X 8) fun b6 e b7=>a0 .i64 (X 29) fun f=>a0 .i64 (X 30) fun h=>cH.t Y a M b aA c d b6 e b7 f h Z
theorem cH.ok(Y:aF)(a:S→Nat→Nat→Int→Int→S→Nat→Nat→Int→Int→U→Prop)(X:Fr)(Z:U)(g:cH.g Y a X Z):den prog E (a6 aO [W,W,W,W,W,W,aJ,W,aJ,aJ]) (aV.then (bU.g a) (aV.inBlock 0 (aV.then (a5.g Y) (bC E [.tmp 4,.tmp 5] Y)))) X Z:=
 bF g fun M a aA b g=>bJ g fun c d g=>bJ g fun e f g=>bF g fun b6 h b7 i g=>bJ g fun j k g=>bJ g fun l m g=>bV [(0,.slice M a aA),(6,.int .i64 c),(7,.int .i64 e),(8,.slice b6 h b7),(29,.int .i64 j),(30,.int .i64 l)] ⟨b,d,f,i,k,m,trivial⟩ (by kernel_rfl) g
def bU.t(Y:aF):Nat→S→Nat→Nat→Int→Int→S→Nat→Nat→Int→Int→U→Prop
 | 0=>fun _ _ _ _ _ _ _ _ _ _ _=>False
 | n+1=>fun M a aA b c b6 d b7 e f Z=>cH.t Y (bU.t Y n) M a aA b c b6 d b7 e f Z
theorem bU.ok(Y:aF)(X:Fr)(Z:U)(g:bU.g (fun M a aA b c b6 d b7 e f Z=>∃ n,bU.t Y n M a aA b c b6 d b7 e f Z) X Z):den prog E (a6 aO [W,W,W,W,W,W,aJ,W,aJ]) (aV.inBlock 0 (aV.then (a5.g Y) (bC E [.tmp 4,.tmp 5] Y))) X Z:=by
 obtain⟨M,a,aA,h,g⟩:=b2 g
 obtain⟨b,i,g⟩:=bT g
 obtain⟨c,j,g⟩:=bT g
 obtain⟨b6,d,b7,k,g⟩:=b2 g
 obtain⟨e,l,g⟩:=bT g
 obtain⟨f,m,g⟩:=bT g
 obtain⟨n,g⟩:=g
 refine fF (fun n=>bU.g (bU.t Y n)) (K:=(a6 aO [W,W,W,W,W,W,aJ,W,aJ,aJ])) (by kernel_rfl) (fun X Z g=>?_) (fun n=>cH.ok Y (bU.t Y n)) n X Z (bL h (b0 i (b0 j (bL k (b0 l (b0 m (g)))))))
 obtain⟨M,a,aA,h,g⟩:=b2 g
 obtain⟨b,i,g⟩:=bT g
 obtain⟨c,j,g⟩:=bT g
 obtain⟨b6,d,b7,k,g⟩:=b2 g
 obtain⟨e,l,g⟩:=bT g
 obtain⟨f,m,g⟩:=bT g
 exact g
theorem hM.ok(Y:aF)(X:Fr)(Z:U)(g:bU.g (fun M a aA b c b6 d b7 e f Z=>∃ n,bU.t Y n M a aA b c b6 d b7 e f Z) X Z):den prog E (a6 aO [W,W,W,W,W,W,aJ,W]) (aV.then (a5.g Y) (bC E [.tmp 4,.tmp 5] Y)) X Z:=
 e3 (by kernel_rfl) (bU.ok Y X Z g)
def bM.t(Y:aF)(M:S)(a aA:Nat)(b c:Int)(b6:S)(d b7:Nat)(Z:U):Prop:=
 (∃ n,bU.t Y n M a aA b c b6 d b7 (((d:Nat):Int)) 0 Z)
def bM.g(Y:aF)(X:Fr)(Z:U):Prop:=aR (X 0) fun M a aA=>a0 .i64 (X 6) fun b=>a0 .i64 (X 7) fun c=>aR (X 8) fun b6 d b7=>bM.t Y M a aA b c b6 d b7 Z
theorem bM.ok(Y:aF)(X:Fr)(Z:U)(g:bM.g Y X Z):den prog E (a6 aO [W,W,W,W,W,W,aJ]) (aV.then (a5.g Y) (bC E [.tmp 4,.tmp 5] Y)) X Z:=
 bF g fun M a aA b g=>bJ g fun c d g=>bJ g fun e f g=>bF g fun b6 h b7 i g=>c5 1 (r:=(a6 aO [W,W,W,W,W,W,aJ,W])) (by kernel_rfl) (hM.ok Y) (bV [(0,.slice M a aA),(6,.int .i64 c),(7,.int .i64 e),(8,.slice b6 h b7)] ⟨b,d,f,i,trivial⟩ (by kernel_rfl) g)
theorem hN.ok(Y:aF)(X:Fr)(Z:U)(g:bM.g Y X Z):den prog E (a6 aO [W,W,W,W,W,W]) (bC E [.tmp 4,.tmp 5] Y) X Z:=
 fP (by kernel_rfl) (a5.ok Y) (bM.ok Y X Z g)
def aP.t(Y:aF)(M:S)(a aA:Nat)(aS:Int)(Z:U):Prop:=
 cond (decide (aS < 0)) (Y (.tuple #[.slice none 0 0,.int .i64 1]) Z) (a4 k4.id #[.slice M a aA] Z fun b c=>
 eU b fun b=>
 cond (!b) (Y (.tuple #[.slice none 0 0,.int .i64 2]) c) ((64:Int) ≠ 0∧bB (IntKind.i64.wrap (Int.tdiv aS 64)) fun b=>
 (64:Int) ≠ 0∧bB (Int.tmod aS 64) fun d=>
 cond (decide (b≥(((a:Nat):Int)))) (Y (.tuple #[.slice none 0 0,.int .i64 0]) c) (bB (IntKind.i64.wrap ((((a:Nat):Int)) - b)) fun e=>
 iS c 35 j6 e e fun c f=>
 bM.t Y M a aA b d (some c) e.toNat e.toNat f)))
def aP.g(Y:aF)(X:Fr)(Z:U):Prop:=aR (X 0) fun M a aA=>a0 .i64 (X 1) fun aS=>aP.t Y M a aA aS Z
theorem aP.ok(Y:aF)(X:Fr)(Z:U)(g:aP.g Y X Z):den prog E aO (bC E [.tmp 4,.tmp 5] Y) X Z:=
 bF g fun M a aA b g=>bJ g fun aS c g=>c5 6 (r:=(a6 aO [W,W,W,W,W,W])) (by kernel_rfl) (hN.ok Y) (bV [(0,.slice M a aA),(1,.int .i64 aS)] ⟨b,c,trivial⟩ (by kernel_rfl) g)
def t(M:S)(a aA:Nat)(aS:Int)(Z:U)(Y:aF):Prop:=aP.t Y M a aA aS Z
theorem ok{M:S}{a:Nat}{aA:Nat}{aS:Int}{Z:U}{Y:aF}(g:t M a aA aS Z Y):a4 id #[.slice M a aA,.int .i64 aS] Z Y:=
 eD dT (c:=aO) (dH:=[.tmp 4,.tmp 5]) Tryz.func60 (by kernel_rfl) (by kernel_rfl) (by kernel_rfl) (args:=[.slice M a aA,.int .i64 aS]) (by kernel_rfl) (aP.ok Y _ Z (bL rfl (b0 rfl (g))))
end lM
namespace p2
noncomputable def aO:Code:=dY Tryz.f61
def cP.g(bP:Int→Int→U→Prop)(X:Fr)(Z:U):Prop:=a0 .i64 (X 0) fun aY=>a0 .i64 (X 4) fun a=>bP aY a Z
def cF.t(Y:aF)(a:Int→Int→U→Prop)(aY b:Int)(Z:U):Prop:=
 bB (IntKind.i64.wrap (aY+b)) fun eF=>
 a4 tC.id #[.int .i64 eF] Z fun c d=>
 cW c fun c=>
 cU c fun c e f g=>
 cU g fun g h i j=>
 b9 j <| a4 lM.id #[.slice c e f,.int .i64 b] d fun c fV=>
 cW c fun c=>
 cU c fun c d e f=>
 dP f .i64 fun f f=>
 b9 f <| a4 lM.id #[.slice g h i,.int .i64 b] fV fun f g=>
 cW f fun f=>
 cU f fun f h i j=>
 dP j .i64 fun j j=>
 b9 j <| a4 jO.id #[.slice c d e,.slice f h i] g fun f g=>
 a0 .i64 f fun f=>
 cond (f == 0) (Y (.tuple #[.slice c d e,.int .i64 0]) g) (bB (IntKind.i64.wrap (b*2)) fun b=>
 a aY b g)
def cF.g(Y:aF)(a:Int→Int→U→Prop)(X:Fr)(Z:U):Prop:=a0 .i64 (X 0) fun aY=>a0 .i64 (X 4) fun b=>cF.t Y a aY b Z
theorem cF.ok(Y:aF)(a:Int→Int→U→Prop)(X:Fr)(Z:U)(g:cF.g Y a X Z):den prog E (a6 aO [W,W,W,aJ,aJ]) (aV.then (cP.g a) (aV.inBlock 0 (bC E [.tmp 2,.tmp 3] Y))) X Z:=
 bJ g fun aY a g=>bJ g fun b c g=>bV [(0,.int .i64 aY),(4,.int .i64 b)] ⟨a,c,trivial⟩ (by kernel_rfl) g
def cP.t(Y:aF):Nat→Int→Int→U→Prop
 | 0=>fun _ _ _=>False
 | n+1=>fun aY a Z=>cF.t Y (cP.t Y n) aY a Z
theorem cP.ok(Y:aF)(X:Fr)(Z:U)(g:cP.g (fun aY a Z=>∃ n,cP.t Y n aY a Z) X Z):den prog E (a6 aO [W,W,W,aJ]) (aV.inBlock 0 (bC E [.tmp 2,.tmp 3] Y)) X Z:=by
 obtain⟨aY,b,g⟩:=bT g
 obtain⟨a,c,g⟩:=bT g
 obtain⟨n,g⟩:=g
 refine fF (fun n=>cP.g (cP.t Y n)) (K:=(a6 aO [W,W,W,aJ,aJ])) (by kernel_rfl) (fun X Z g=>?_) (fun n=>cF.ok Y (cP.t Y n)) n X Z (b0 b (b0 c (g)))
 obtain⟨aY,b,g⟩:=bT g
 obtain⟨a,c,g⟩:=bT g
 exact g
theorem hV.ok(Y:aF)(X:Fr)(Z:U)(g:cP.g (fun aY a Z=>∃ n,cP.t Y n aY a Z) X Z):den prog E (a6 aO [W,W,W]) (bC E [.tmp 2,.tmp 3] Y) X Z:=
 e3 (by kernel_rfl) (cP.ok Y X Z g)
def a5.t(Y:aF)(aY:Int)(Z:U):Prop:=
 (∃ n,cP.t Y n aY 48 Z)
def a5.g(Y:aF)(X:Fr)(Z:U):Prop:=a0 .i64 (X 0) fun aY=>a5.t Y aY Z
theorem a5.ok(Y:aF)(X:Fr)(Z:U)(g:a5.g Y X Z):den prog E (a6 aO [W,W]) (bC E [.tmp 2,.tmp 3] Y) X Z:=
 bJ g fun aY a g=>c5 1 (r:=(a6 aO [W,W,W])) (by kernel_rfl) (hV.ok Y) (bV [(0,.int .i64 aY)] ⟨a,trivial⟩ (by kernel_rfl) g)
def aP.t(Y:aF)(aY:Int)(Z:U):Prop:=
 cond (decide (aY < 1)) (Y (.tuple #[.slice none 0 0,.int .i64 1]) Z) (cond (decide (aY > 70000)) (Y (.tuple #[.slice none 0 0,.int .i64 1]) Z) (a5.t Y aY Z))
def aP.g(Y:aF)(X:Fr)(Z:U):Prop:=a0 .i64 (X 0) fun aY=>aP.t Y aY Z
theorem aP.ok(Y:aF)(X:Fr)(Z:U)(g:aP.g Y X Z):den prog E aO (bC E [.tmp 2,.tmp 3] Y) X Z:=
 bJ g fun aY a g=>c5 2 (r:=(a6 aO [W,W])) (by kernel_rfl) (a5.ok Y) (bV [(0,.int .i64 aY)] ⟨a,trivial⟩ (by kernel_rfl) g)
def t(aY:Int)(Z:U)(Y:aF):Prop:=aP.t Y aY Z
theorem ok{aY:Int}{Z:U}{Y:aF}(g:t aY Z Y):a4 id #[.int .i64 aY] Z Y:=
 eD dT (c:=aO) (dH:=[.tmp 2,.tmp 3]) Tryz.func61 (by kernel_rfl) (by kernel_rfl) (by kernel_rfl) (args:=[.int .i64 aY]) (by kernel_rfl) (aP.ok Y _ Z (b0 rfl (g)))
end p2
namespace rR
noncomputable def aO:Code:=dY Tryz.f62
def a5.t(Y:aF)(M:S)(a aA:Nat)(aM:S)(aL aK:Nat)(Z:U):Prop:=
 a4 o8.id #[.slice M a aA,.slice aM aL aK] Z fun a b=>
 aR a fun a c d=>
 a4 vK.id #[.slice a c d] b fun a b=>
 cW a fun a=>
 cU a fun a c d e=>
 dP e .i64 fun e f=>
 b9 f <| Y (.tuple #[.slice a c d,.int .i64 e]) b
def a5.g(Y:aF)(X:Fr)(Z:U):Prop:=aR (X 0) fun M a aA=>aR (X 1) fun aM aL aK=>a5.t Y M a aA aM aL aK Z
theorem a5.ok(Y:aF)(X:Fr)(Z:U)(g:a5.g Y X Z):den prog E (a6 aO [W,W]) (bC E [.tmp 4,.tmp 5] Y) X Z:=
 bF g fun M a aA b g=>bF g fun aM aL aK c g=>bV [(0,.slice M a aA),(1,.slice aM aL aK)] ⟨b,c,trivial⟩ (by kernel_rfl) g
def aP.t(Y:aF)(M:S)(a aA:Nat)(aM:S)(aL aK:Nat)(Z:U):Prop:=
 a4 k4.id #[.slice M a aA] Z fun b c=>
 eU b fun b=>
 cond (!b) (Y (.tuple #[.slice none 0 0,.int .i64 2]) c) (a4 k4.id #[.slice aM aL aK] c fun b c=>
 eU b fun b=>
 cond (!b) (Y (.tuple #[.slice none 0 0,.int .i64 2]) c) (a5.t Y M a aA aM aL aK c))
def aP.g(Y:aF)(X:Fr)(Z:U):Prop:=aR (X 0) fun M a aA=>aR (X 1) fun aM aL aK=>aP.t Y M a aA aM aL aK Z
theorem aP.ok(Y:aF)(X:Fr)(Z:U)(g:aP.g Y X Z):den prog E aO (bC E [.tmp 4,.tmp 5] Y) X Z:=
 bF g fun M a aA b g=>bF g fun aM aL aK c g=>c5 2 (r:=(a6 aO [W,W])) (by kernel_rfl) (a5.ok Y) (bV [(0,.slice M a aA),(1,.slice aM aL aK)] ⟨b,c,trivial⟩ (by kernel_rfl) g)
def t(M:S)(a aA:Nat)(aM:S)(aL aK:Nat)(Z:U)(Y:aF):Prop:=aP.t Y M a aA aM aL aK Z
theorem ok{M:S}{a:Nat}{aA:Nat}{aM:S}{aL:Nat}{aK:Nat}{Z:U}{Y:aF}(g:t M a aA aM aL aK Z Y):a4 id #[.slice M a aA,.slice aM aL aK] Z Y:=
 eD dT (c:=aO) (dH:=[.tmp 4,.tmp 5]) Tryz.func62 (by kernel_rfl) (by kernel_rfl) (by kernel_rfl) (args:=[.slice M a aA,.slice aM aL aK]) (by kernel_rfl) (aP.ok Y _ Z (bL rfl (bL rfl (g))))
end rR
namespace lB
noncomputable def aO:Code:=dY Tryz.f63
def a5.t(Y:aF)(b6:S)(a b7:Nat)(Z:U):Prop:=
 a4 oB.id #[.slice b6 a b7] Z fun a b=>
 cW a fun a=>
 cU a fun a c d e=>
 dP e .i64 fun e f=>
 b9 f <| Y (.tuple #[.slice a c d,.int .i64 e]) b
def a5.g(Y:aF)(X:Fr)(Z:U):Prop:=aR (X 8) fun b6 a b7=>a5.t Y b6 a b7 Z
theorem a5.ok(Y:aF)(X:Fr)(Z:U)(g:a5.g Y X Z):den prog E (a6 aO [W,W,W,W,W,W,W,W]) (bC E [.tmp 4,.tmp 5] Y) X Z:=
 bF g fun b6 a b7 b g=>bV [(8,.slice b6 a b7)] ⟨b,trivial⟩ (by kernel_rfl) g
def bU.g(bP:S→Nat→Nat→Int→Int→S→Nat→Nat→Int→Int→U→Prop)(X:Fr)(Z:U):Prop:=aR (X 0) fun M a aA=>a0 .i64 (X 6) fun b=>a0 .i64 (X 7) fun c=>aR (X 8) fun b6 d b7=>a0 .i64 (X 34) fun e=>a0 .i64 (X 35) fun f=>bP M a aA b c b6 d b7 e f Z
def cH.t(Y:aF)(a:S→Nat→Nat→Int→Int→S→Nat→Nat→Int→Int→U→Prop)(M:S)(b aA:Nat)(c d:Int)(b6:S)(e b7:Nat)(f g:Int)(Z:U):Prop:=
 cond (decide (g < f)) (bB (IntKind.i64.wrap (c+g)) fun h=>
 c6 b6 e h 1 fun i=>
 eO Z .u64 i fun i=>
 c6 M b g 1 fun j=>
 eO Z .u64 j fun j=>
 0≤d∧bB (iQ .u64 j d) fun j=>
 bB (wH .u64 i j) fun i=>
 c6 b6 e h 1 fun h=>
 cM Z h (.int .u64 i) fun h=>
 bB (IntKind.i64.wrap (c+g)) fun i=>
 bB (IntKind.i64.wrap (i+1)) fun i=>
 c6 M b g 1 fun j=>
 eO h .u64 j fun j=>
 0≤(1:Int)∧bB (hG .u64 j 1) fun j=>
 bB (IntKind.i64.wrap (63 - d)) fun k=>
 0≤k∧bB (hG .u64 j k) fun j=>
 c6 b6 e i 1 fun i=>
 cM h i (.int .u64 j) fun h=>
 bB (IntKind.i64.wrap (g+1)) fun g=>
 a M b aA c d b6 e b7 f g h) (a5.t Y b6 e b7 Z)
def cH.g(Y:aF)(a:S→Nat→Nat→Int→Int→S→Nat→Nat→Int→Int→U→Prop)(X:Fr)(Z:U):Prop:=aR (X 0) fun M b aA=>a0 .i64 (X 6) fun c=>a0 .i64 (X 7) fun d=>aR (X 8) fun b6 e b7=>a0 .i64 (X 34) fun f=>a0 .i64 (X 35) fun h=>cH.t Y a M b aA c d b6 e b7 f h Z
theorem cH.ok(Y:aF)(a:S→Nat→Nat→Int→Int→S→Nat→Nat→Int→Int→U→Prop)(X:Fr)(Z:U)(g:cH.g Y a X Z):den prog E (a6 aO [W,W,W,W,W,W,W,aJ,W,aJ,aJ]) (aV.then (bU.g a) (aV.inBlock 0 (aV.then (a5.g Y) (bC E [.tmp 4,.tmp 5] Y)))) X Z:=
 bF g fun M a aA b g=>bJ g fun c d g=>bJ g fun e f g=>bF g fun b6 h b7 i g=>bJ g fun j k g=>bJ g fun l m g=>bV [(0,.slice M a aA),(6,.int .i64 c),(7,.int .i64 e),(8,.slice b6 h b7),(34,.int .i64 j),(35,.int .i64 l)] ⟨b,d,f,i,k,m,trivial⟩ (by kernel_rfl) g
def bU.t(Y:aF):Nat→S→Nat→Nat→Int→Int→S→Nat→Nat→Int→Int→U→Prop
 | 0=>fun _ _ _ _ _ _ _ _ _ _ _=>False
 | n+1=>fun M a aA b c b6 d b7 e f Z=>cH.t Y (bU.t Y n) M a aA b c b6 d b7 e f Z
theorem bU.ok(Y:aF)(X:Fr)(Z:U)(g:bU.g (fun M a aA b c b6 d b7 e f Z=>∃ n,bU.t Y n M a aA b c b6 d b7 e f Z) X Z):den prog E (a6 aO [W,W,W,W,W,W,W,aJ,W,aJ]) (aV.inBlock 0 (aV.then (a5.g Y) (bC E [.tmp 4,.tmp 5] Y))) X Z:=by
 obtain⟨M,a,aA,h,g⟩:=b2 g
 obtain⟨b,i,g⟩:=bT g
 obtain⟨c,j,g⟩:=bT g
 obtain⟨b6,d,b7,k,g⟩:=b2 g
 obtain⟨e,l,g⟩:=bT g
 obtain⟨f,m,g⟩:=bT g
 obtain⟨n,g⟩:=g
 refine fF (fun n=>bU.g (bU.t Y n)) (K:=(a6 aO [W,W,W,W,W,W,W,aJ,W,aJ,aJ])) (by kernel_rfl) (fun X Z g=>?_) (fun n=>cH.ok Y (bU.t Y n)) n X Z (bL h (b0 i (b0 j (bL k (b0 l (b0 m (g)))))))
 obtain⟨M,a,aA,h,g⟩:=b2 g
 obtain⟨b,i,g⟩:=bT g
 obtain⟨c,j,g⟩:=bT g
 obtain⟨b6,d,b7,k,g⟩:=b2 g
 obtain⟨e,l,g⟩:=bT g
 obtain⟨f,m,g⟩:=bT g
 exact g
theorem hM.ok(Y:aF)(X:Fr)(Z:U)(g:bU.g (fun M a aA b c b6 d b7 e f Z=>∃ n,bU.t Y n M a aA b c b6 d b7 e f Z) X Z):den prog E (a6 aO [W,W,W,W,W,W,W,aJ,W]) (aV.then (a5.g Y) (bC E [.tmp 4,.tmp 5] Y)) X Z:=
 e3 (by kernel_rfl) (bU.ok Y X Z g)
def bM.t(Y:aF)(M:S)(a aA:Nat)(b c:Int)(b6:S)(d b7:Nat)(Z:U):Prop:=
 (∃ n,bU.t Y n M a aA b c b6 d b7 (((a:Nat):Int)) 0 Z)
def bM.g(Y:aF)(X:Fr)(Z:U):Prop:=aR (X 0) fun M a aA=>a0 .i64 (X 6) fun b=>a0 .i64 (X 7) fun c=>aR (X 8) fun b6 d b7=>bM.t Y M a aA b c b6 d b7 Z
theorem bM.ok(Y:aF)(X:Fr)(Z:U)(g:bM.g Y X Z):den prog E (a6 aO [W,W,W,W,W,W,W,aJ]) (aV.then (a5.g Y) (bC E [.tmp 4,.tmp 5] Y)) X Z:=
 bF g fun M a aA b g=>bJ g fun c d g=>bJ g fun e f g=>bF g fun b6 h b7 i g=>c5 1 (r:=(a6 aO [W,W,W,W,W,W,W,aJ,W])) (by kernel_rfl) (hM.ok Y) (bV [(0,.slice M a aA),(6,.int .i64 c),(7,.int .i64 e),(8,.slice b6 h b7)] ⟨b,d,f,i,trivial⟩ (by kernel_rfl) g)
theorem hN.ok(Y:aF)(X:Fr)(Z:U)(g:bM.g Y X Z):den prog E (a6 aO [W,W,W,W,W,W,W]) (bC E [.tmp 4,.tmp 5] Y) X Z:=
 fP (by kernel_rfl) (a5.ok Y) (bM.ok Y X Z g)
def aP.t(Y:aF)(M:S)(a aA:Nat)(aS:Int)(Z:U):Prop:=
 cond (decide (aS < 0)) (Y (.tuple #[.slice none 0 0,.int .i64 1]) Z) (a4 k4.id #[.slice M a aA] Z fun b c=>
 eU b fun b=>
 cond (!b) (Y (.tuple #[.slice none 0 0,.int .i64 2]) c) (cond ((((a:Nat):Int)) == 0) (Y (.tuple #[.slice none 0 0,.int .i64 0]) c) (a4 pS.id #[.slice M a aA] c fun b c=>
 a0 .i64 b fun b=>
 bB (IntKind.i64.wrap (524288 - b)) fun b=>
 cond (decide (aS > b)) (Y (.tuple #[.slice none 0 0,.int .i64 5]) c) ((64:Int) ≠ 0∧bB (IntKind.i64.wrap (Int.tdiv aS 64)) fun b=>
 (64:Int) ≠ 0∧bB (Int.tmod aS 64) fun d=>
 bB (IntKind.i64.wrap (b+(((a:Nat):Int)))) fun e=>
 bB (IntKind.i64.wrap (e+1)) fun e=>
 iS c 35 j6 e e fun c f=>
 bM.t Y M a aA b d (some c) e.toNat e.toNat f))))
def aP.g(Y:aF)(X:Fr)(Z:U):Prop:=aR (X 0) fun M a aA=>a0 .i64 (X 1) fun aS=>aP.t Y M a aA aS Z
theorem aP.ok(Y:aF)(X:Fr)(Z:U)(g:aP.g Y X Z):den prog E aO (bC E [.tmp 4,.tmp 5] Y) X Z:=
 bF g fun M a aA b g=>bJ g fun aS c g=>c5 7 (r:=(a6 aO [W,W,W,W,W,W,W])) (by kernel_rfl) (hN.ok Y) (bV [(0,.slice M a aA),(1,.int .i64 aS)] ⟨b,c,trivial⟩ (by kernel_rfl) g)
def t(M:S)(a aA:Nat)(aS:Int)(Z:U)(Y:aF):Prop:=aP.t Y M a aA aS Z
theorem ok{M:S}{a:Nat}{aA:Nat}{aS:Int}{Z:U}{Y:aF}(g:t M a aA aS Z Y):a4 id #[.slice M a aA,.int .i64 aS] Z Y:=
 eD dT (c:=aO) (dH:=[.tmp 4,.tmp 5]) Tryz.func63 (by kernel_rfl) (by kernel_rfl) (by kernel_rfl) (args:=[.slice M a aA,.int .i64 aS]) (by kernel_rfl) (aP.ok Y _ Z (bL rfl (b0 rfl (g))))
end lB
namespace q5
noncomputable def aO:Code:=dY Tryz.f64
def a5.t(Y:aF)(M:S)(a aA:Nat)(aM:S)(aL aK:Nat)(Z:U):Prop:=
 a4 kH.id #[.slice M a aA,.slice aM aL aK] Z fun a b=>
 cW a fun a=>
 cU a fun a c d e=>
 dP e .i64 fun e e=>
 b9 e <| Y (.slice a c d) b
def a5.g(Y:aF)(X:Fr)(Z:U):Prop:=aR (X 0) fun M a aA=>aR (X 1) fun aM aL aK=>a5.t Y M a aA aM aL aK Z
theorem a5.ok(Y:aF)(X:Fr)(Z:U)(g:a5.g Y X Z):den prog E (a6 aO [W,W]) (bC E [.tmp 4] Y) X Z:=
 bF g fun M a aA b g=>bF g fun aM aL aK c g=>bV [(0,.slice M a aA),(1,.slice aM aL aK)] ⟨b,c,trivial⟩ (by kernel_rfl) g
def aP.t(Y:aF)(M:S)(a aA:Nat)(aM:S)(aL aK:Nat)(Z:U):Prop:=
 a4 jO.id #[.slice M a aA,.slice aM aL aK] Z fun b c=>
 a0 .i64 b fun b=>
 cond (decide (b < 0)) (a5.t Y aM aL aK M a aA c) (a5.t Y M a aA aM aL aK c)
def aP.g(Y:aF)(X:Fr)(Z:U):Prop:=aR (X 0) fun M a aA=>aR (X 1) fun aM aL aK=>aP.t Y M a aA aM aL aK Z
theorem aP.ok(Y:aF)(X:Fr)(Z:U)(g:aP.g Y X Z):den prog E aO (bC E [.tmp 4] Y) X Z:=
 bF g fun M a aA b g=>bF g fun aM aL aK c g=>c5 2 (r:=(a6 aO [W,W])) (by kernel_rfl) (a5.ok Y) (bV [(0,.slice M a aA),(1,.slice aM aL aK)] ⟨b,c,trivial⟩ (by kernel_rfl) g)
def t(M:S)(a aA:Nat)(aM:S)(aL aK:Nat)(Z:U)(Y:aF):Prop:=aP.t Y M a aA aM aL aK Z
theorem ok{M:S}{a:Nat}{aA:Nat}{aM:S}{aL:Nat}{aK:Nat}{Z:U}{Y:aF}(g:t M a aA aM aL aK Z Y):a4 id #[.slice M a aA,.slice aM aL aK] Z Y:=
 eD dT (c:=aO) (dH:=[.tmp 4]) Tryz.func64 (by kernel_rfl) (by kernel_rfl) (by kernel_rfl) (args:=[.slice M a aA,.slice aM aL aK]) (by kernel_rfl) (aP.ok Y _ Z (bL rfl (bL rfl (g))))
end q5
namespace pS
noncomputable def aO:Code:=dY Tryz.f65
def aP.t(Y:aF)(M:S)(a aA:Nat)(Z:U):Prop:=
 a4 mW.id #[.slice M a aA] Z fun a b=>
 aR a fun a c d=>
 cond ((((c:Nat):Int)) == 0) (Y (.int .i64 0) b) (bB (IntKind.i64.wrap ((((c:Nat):Int)) - 1)) fun d=>
 bB (IntKind.i64.wrap (64*d)) fun d=>
 bB (IntKind.i64.wrap ((((c:Nat):Int)) - 1)) fun e=>
 c6 a c e 1 fun a=>
 eO b .u64 a fun a=>
 a4 nL.id #[.int .u64 a] b fun a b=>
 a0 .i64 a fun a=>
 bB (IntKind.i64.wrap (d+a)) fun a=>
 Y (.int .i64 a) b)
def aP.g(Y:aF)(X:Fr)(Z:U):Prop:=aR (X 0) fun M a aA=>aP.t Y M a aA Z
theorem aP.ok(Y:aF)(X:Fr)(Z:U)(g:aP.g Y X Z):den prog E aO (bC E [.tmp 2] Y) X Z:=
 bF g fun M a aA b g=>bV [(0,.slice M a aA)] ⟨b,trivial⟩ (by kernel_rfl) g
def t(M:S)(a aA:Nat)(Z:U)(Y:aF):Prop:=aP.t Y M a aA Z
theorem ok{M:S}{a:Nat}{aA:Nat}{Z:U}{Y:aF}(g:t M a aA Z Y):a4 id #[.slice M a aA] Z Y:=
 eD dT (c:=aO) (dH:=[.tmp 2]) Tryz.func65 (by kernel_rfl) (by kernel_rfl) (by kernel_rfl) (args:=[.slice M a aA]) (by kernel_rfl) (aP.ok Y _ Z (bL rfl (g)))
end pS
namespace l9
noncomputable def aO:Code:=dY Tryz.f66
def a5.t(Y:aF)(bX:S)(a bY:Nat)(Z:U):Prop:=
 Y (.slice bX a bY) Z
def a5.g(Y:aF)(X:Fr)(Z:U):Prop:=aR (X 7) fun bX a bY=>a5.t Y bX a bY Z
theorem a5.ok(Y:aF)(X:Fr)(Z:U)(g:a5.g Y X Z):den prog E (a6 aO [W,W,W]) (bC E [.tmp 6] Y) X Z:=
 bF g fun bX a bY b g=>bV [(7,.slice bX a bY)] ⟨b,trivial⟩ (by kernel_rfl) g
def cP.g(bP:S→Nat→Nat→S→Nat→Nat→Int→S→Nat→Nat→U→Prop)(X:Fr)(Z:U):Prop:=aR (X 0) fun M a aA=>aR (X 1) fun aM aL aK=>a0 .i64 (X 2) fun b=>aR (X 7) fun bX c bY=>bP M a aA aM aL aK b bX c bY Z
def cH.t(Y:aF)(a:S→Nat→Nat→S→Nat→Nat→Int→S→Nat→Nat→U→Prop)(M:S)(b aA:Nat)(aM:S)(aL aK:Nat)(c:Int)(bX:S)(d bY:Nat)(Z:U):Prop:=
 a4 hY.id #[.slice M b aA,.slice aM aL aK] Z fun b e=>
 cW b fun b=>
 cU b fun b f g h=>
 cU h fun h i j k=>
 b9 k <| dX e 51 [.slice b f g] fun b e=>
 g3 e 51 Ig bX d bY (.slice (some b) 1 1) fun b d e fV=>
 a aM aL aK h i j c b d e fV
def cH.g(Y:aF)(a:S→Nat→Nat→S→Nat→Nat→Int→S→Nat→Nat→U→Prop)(X:Fr)(Z:U):Prop:=aR (X 0) fun M b aA=>aR (X 1) fun aM aL aK=>a0 .i64 (X 2) fun c=>aR (X 7) fun bX d bY=>cH.t Y a M b aA aM aL aK c bX d bY Z
theorem cH.ok(Y:aF)(a:S→Nat→Nat→S→Nat→Nat→Int→S→Nat→Nat→U→Prop)(X:Fr)(Z:U)(g:cH.g Y a X Z):den prog E (a6 aO [W,W,aJ,aJ,aJ,W]) (aV.then (cP.g a) (aV.inBlock 0 (aV.then (a5.g Y) (bC E [.tmp 6] Y)))) X Z:=
 bF g fun M a aA b g=>bF g fun aM aL aK c g=>bJ g fun d e g=>bF g fun bX f bY h g=>bV [(0,.slice M a aA),(1,.slice aM aL aK),(2,.int .i64 d),(7,.slice bX f bY)] ⟨b,c,e,h,trivial⟩ (by kernel_rfl) g
def cF.t(Y:aF)(a:S→Nat→Nat→S→Nat→Nat→Int→S→Nat→Nat→U→Prop)(M:S)(b aA:Nat)(aM:S)(aL aK:Nat)(c:Int)(bX:S)(d bY:Nat)(Z:U):Prop:=
 cond (decide ((((aL:Nat):Int)) > 0)) (cond (decide ((((d:Nat):Int)) < c)) (cH.t Y a M b aA aM aL aK c bX d bY Z) (a5.t Y bX d bY Z)) (a5.t Y bX d bY Z)
def cF.g(Y:aF)(a:S→Nat→Nat→S→Nat→Nat→Int→S→Nat→Nat→U→Prop)(X:Fr)(Z:U):Prop:=aR (X 0) fun M b aA=>aR (X 1) fun aM aL aK=>a0 .i64 (X 2) fun c=>aR (X 7) fun bX d bY=>cF.t Y a M b aA aM aL aK c bX d bY Z
theorem cF.ok(Y:aF)(a:S→Nat→Nat→S→Nat→Nat→Int→S→Nat→Nat→U→Prop)(X:Fr)(Z:U)(g:cF.g Y a X Z):den prog E (a6 aO [W,W,aJ,aJ,aJ]) (aV.then (cP.g a) (aV.inBlock 0 (aV.then (a5.g Y) (bC E [.tmp 6] Y)))) X Z:=
 bF g fun M b aA c g=>bF g fun aM aL aK d g=>bJ g fun e f g=>bF g fun bX h bY i g=>c5 1 (r:=(a6 aO [W,W,aJ,aJ,aJ,W])) (by kernel_rfl) (cH.ok Y a) (bV [(0,.slice M b aA),(1,.slice aM aL aK),(2,.int .i64 e),(7,.slice bX h bY)] ⟨c,d,f,i,trivial⟩ (by kernel_rfl) g)
def cP.t(Y:aF):Nat→S→Nat→Nat→S→Nat→Nat→Int→S→Nat→Nat→U→Prop
 | 0=>fun _ _ _ _ _ _ _ _ _ _ _=>False
 | n+1=>fun M a aA aM aL aK b bX c bY Z=>cF.t Y (cP.t Y n) M a aA aM aL aK b bX c bY Z
theorem cP.ok(Y:aF)(X:Fr)(Z:U)(g:cP.g (fun M a aA aM aL aK b bX c bY Z=>∃ n,cP.t Y n M a aA aM aL aK b bX c bY Z) X Z):den prog E (a6 aO [W,W,aJ,aJ]) (aV.inBlock 0 (aV.then (a5.g Y) (bC E [.tmp 6] Y))) X Z:=by
 obtain⟨M,a,aA,d,g⟩:=b2 g
 obtain⟨aM,aL,aK,e,g⟩:=b2 g
 obtain⟨b,f,g⟩:=bT g
 obtain⟨bX,c,bY,h,g⟩:=b2 g
 obtain⟨n,g⟩:=g
 refine fF (fun n=>cP.g (cP.t Y n)) (K:=(a6 aO [W,W,aJ,aJ,aJ])) (by kernel_rfl) (fun X Z g=>?_) (fun n=>cF.ok Y (cP.t Y n)) n X Z (bL d (bL e (b0 f (bL h (g)))))
 obtain⟨M,a,aA,d,g⟩:=b2 g
 obtain⟨aM,aL,aK,e,g⟩:=b2 g
 obtain⟨b,f,g⟩:=bT g
 obtain⟨bX,c,bY,h,g⟩:=b2 g
 exact g
theorem hM.ok(Y:aF)(X:Fr)(Z:U)(g:cP.g (fun M a aA aM aL aK b bX c bY Z=>∃ n,cP.t Y n M a aA aM aL aK b bX c bY Z) X Z):den prog E (a6 aO [W,W,aJ]) (aV.then (a5.g Y) (bC E [.tmp 6] Y)) X Z:=
 e3 (by kernel_rfl) (cP.ok Y X Z g)
theorem hN.ok(Y:aF)(X:Fr)(Z:U)(g:cP.g (fun M a aA aM aL aK b bX c bY Z=>∃ n,cP.t Y n M a aA aM aL aK b bX c bY Z) X Z):den prog E (a6 aO [W,W]) (bC E [.tmp 6] Y) X Z:=
 fP (by kernel_rfl) (a5.ok Y) (hM.ok Y X Z g)
def aP.t(Y:aF)(M:S)(a aA:Nat)(aM:S)(aL aK:Nat)(b:Int)(Z:U):Prop:=
 (∃ n,cP.t Y n M a aA aM aL aK b none 0 0 Z)
def aP.g(Y:aF)(X:Fr)(Z:U):Prop:=aR (X 0) fun M a aA=>aR (X 1) fun aM aL aK=>a0 .i64 (X 2) fun b=>aP.t Y M a aA aM aL aK b Z
theorem aP.ok(Y:aF)(X:Fr)(Z:U)(g:aP.g Y X Z):den prog E aO (bC E [.tmp 6] Y) X Z:=
 bF g fun M a aA b g=>bF g fun aM aL aK c g=>bJ g fun d e g=>c5 2 (r:=(a6 aO [W,W])) (by kernel_rfl) (hN.ok Y) (bV [(0,.slice M a aA),(1,.slice aM aL aK),(2,.int .i64 d)] ⟨b,c,e,trivial⟩ (by kernel_rfl) g)
def t(M:S)(a aA:Nat)(aM:S)(aL aK:Nat)(b:Int)(Z:U)(Y:aF):Prop:=aP.t Y M a aA aM aL aK b Z
theorem ok{M:S}{a:Nat}{aA:Nat}{aM:S}{aL:Nat}{aK:Nat}{b:Int}{Z:U}{Y:aF}(g:t M a aA aM aL aK b Z Y):a4 id #[.slice M a aA,.slice aM aL aK,.int .i64 b] Z Y:=
 eD dT (c:=aO) (dH:=[.tmp 6]) Tryz.func66 (by kernel_rfl) (by kernel_rfl) (by kernel_rfl) (args:=[.slice M a aA,.slice aM aL aK,.int .i64 b]) (by kernel_rfl) (aP.ok Y _ Z (bL rfl (bL rfl (b0 rfl (g)))))
end l9
namespace rM
noncomputable def aO:Code:=dY Tryz.f67
def aP.t(Y:aF)(M:S)(a aA:Nat)(Z:U):Prop:=
 a4 k7.id #[.slice M a aA] Z fun a b=>
 aR a fun a c d=>
 cond ((((c:Nat):Int)) == 0) (Y (.tuple #[.int .u64 0,.bool true]) b) (cond ((((c:Nat):Int)) == 1) (c6 a c 0 1 fun eH=>
 eO b .u64 eH fun a=>
 Y (.tuple #[.int .u64 a,.bool true]) b) (Y (.tuple #[.int .u64 0,.bool false]) b))
def aP.g(Y:aF)(X:Fr)(Z:U):Prop:=aR (X 0) fun M a aA=>aP.t Y M a aA Z
theorem aP.ok(Y:aF)(X:Fr)(Z:U)(g:aP.g Y X Z):den prog E aO (bC E [.tmp 2,.tmp 3] Y) X Z:=
 bF g fun M a aA b g=>bV [(0,.slice M a aA)] ⟨b,trivial⟩ (by kernel_rfl) g
def t(M:S)(a aA:Nat)(Z:U)(Y:aF):Prop:=aP.t Y M a aA Z
theorem ok{M:S}{a:Nat}{aA:Nat}{Z:U}{Y:aF}(g:t M a aA Z Y):a4 id #[.slice M a aA] Z Y:=
 eD dT (c:=aO) (dH:=[.tmp 2,.tmp 3]) Tryz.func67 (by kernel_rfl) (by kernel_rfl) (by kernel_rfl) (args:=[.slice M a aA]) (by kernel_rfl) (aP.ok Y _ Z (bL rfl (g)))
end rM
namespace hY
noncomputable def aO:Code:=dY Tryz.f68
def bM.t(Y:aF)(a:Int)(b:S)(c d:Nat)(e:Int)(f:S)(g h:Nat)(Z:U):Prop:=
 a4 g6.id #[.slice f g h] Z fun f g=>
 aR f fun f h i=>
 iR 1 b c d none (some (.int .i64 e)) none fun b c d=>
 a4 g6.id #[.slice b c d] g fun b c=>
 aR b fun b d e=>
 a4 lK.id #[.slice b d e,.int .i64 a] c fun a b=>
 aR a fun a c d=>
 Y (.tuple #[.slice f h i,.slice a c d]) b
def bM.g(Y:aF)(X:Fr)(Z:U):Prop:=a0 .i64 (X 8) fun a=>aR (X 10) fun b c d=>a0 .i64 (X 11) fun e=>aR (X 12) fun f h i=>bM.t Y a b c d e f h i Z
theorem bM.ok(Y:aF)(X:Fr)(Z:U)(g:bM.g Y X Z):den prog E (a6 aO [W,W,W,W,W,W,W,W,W,W,W]) (bC E [.tmp 4,.tmp 5] Y) X Z:=
 bJ g fun a b g=>bF g fun c d e f g=>bJ g fun h i g=>bF g fun j k l m g=>bV [(8,.int .i64 a),(10,.slice c d e),(11,.int .i64 h),(12,.slice j k l)] ⟨b,f,i,m,trivial⟩ (by kernel_rfl) g
def dS.g(bP:Int→S→Nat→Nat→S→Nat→Nat→Int→S→Nat→Nat→Int→U→Prop)(X:Fr)(Z:U):Prop:=a0 .i64 (X 8) fun a=>aR (X 9) fun b c d=>aR (X 10) fun e f h=>a0 .i64 (X 11) fun i=>aR (X 12) fun j k l=>a0 .i64 (X 13) fun m=>bP a b c d e f h i j k l m Z
def dD.t(Y:aF)(a:Int→S→Nat→Nat→S→Nat→Nat→Int→S→Nat→Nat→Int→U→Prop)(b:Int)(c:S)(d e:Nat)(f:S)(g h:Nat)(i:Int)(j:S)(k l:Nat)(m:Int)(Z:U):Prop:=
 cond (decide (m≥0)) (bB (IntKind.i64.wrap (m+i)) fun n=>
 bB (IntKind.i64.wrap (n+1)) fun n=>
 iR 1 f g h (some (.int .i64 m)) (some (.int .i64 n)) none fun n o p=>
 a4 h1.id #[.slice n o p,.slice c d e] Z fun n o=>
 a0 .u32 n fun n=>
 c6 j k m 1 fun p=>
 cM o p (.int .u32 n) fun n=>
 bB (IntKind.i64.wrap (m - 1)) fun m=>
 a b c d e f g h i j k l m n) (bM.t Y b f g h i j k l Z)
def dD.g(Y:aF)(a:Int→S→Nat→Nat→S→Nat→Nat→Int→S→Nat→Nat→Int→U→Prop)(X:Fr)(Z:U):Prop:=a0 .i64 (X 8) fun b=>aR (X 9) fun c d e=>aR (X 10) fun f h i=>a0 .i64 (X 11) fun j=>aR (X 12) fun k l m=>a0 .i64 (X 13) fun n=>dD.t Y a b c d e f h i j k l m n Z
theorem dD.ok(Y:aF)(a:Int→S→Nat→Nat→S→Nat→Nat→Int→S→Nat→Nat→Int→U→Prop)(X:Fr)(Z:U)(g:dD.g Y a X Z):den prog E (a6 aO [W,W,W,W,W,W,W,W,W,W,aJ,W,aJ,aJ]) (aV.then (dS.g a) (aV.inBlock 2 (aV.then (bM.g Y) (bC E [.tmp 4,.tmp 5] Y)))) X Z:=
 bJ g fun a b g=>bF g fun c d e f g=>bF g fun h i j k g=>bJ g fun l m g=>bF g fun n o p q g=>bJ g fun r s g=>bV [(8,.int .i64 a),(9,.slice c d e),(10,.slice h i j),(11,.int .i64 l),(12,.slice n o p),(13,.int .i64 r)] ⟨b,f,k,m,q,s,trivial⟩ (by kernel_rfl) g
def dS.t(Y:aF):Nat→Int→S→Nat→Nat→S→Nat→Nat→Int→S→Nat→Nat→Int→U→Prop
 | 0=>fun _ _ _ _ _ _ _ _ _ _ _ _ _=>False
 | n+1=>fun a b c d e f g h i j k l Z=>dD.t Y (dS.t Y n) a b c d e f g h i j k l Z
theorem dS.ok(Y:aF)(X:Fr)(Z:U)(g:dS.g (fun a b c d e f h i j k l m Z=>∃ n,dS.t Y n a b c d e f h i j k l m Z) X Z):den prog E (a6 aO [W,W,W,W,W,W,W,W,W,W,aJ,W,aJ]) (aV.inBlock 2 (aV.then (bM.g Y) (bC E [.tmp 4,.tmp 5] Y))) X Z:=by
 obtain⟨a,o,g⟩:=bT g
 obtain⟨b,c,d,p,g⟩:=b2 g
 obtain⟨e,f,h,q,g⟩:=b2 g
 obtain⟨i,r,g⟩:=bT g
 obtain⟨j,k,l,s,g⟩:=b2 g
 obtain⟨m,u,g⟩:=bT g
 obtain⟨n,g⟩:=g
 refine fF (fun n=>dS.g (dS.t Y n)) (K:=(a6 aO [W,W,W,W,W,W,W,W,W,W,aJ,W,aJ,aJ])) (by kernel_rfl) (fun X Z g=>?_) (fun n=>dD.ok Y (dS.t Y n)) n X Z (b0 o (bL p (bL q (b0 r (bL s (b0 u (g)))))))
 obtain⟨a,o,g⟩:=bT g
 obtain⟨b,c,d,p,g⟩:=b2 g
 obtain⟨e,f,h,q,g⟩:=b2 g
 obtain⟨i,r,g⟩:=bT g
 obtain⟨j,k,l,s,g⟩:=b2 g
 obtain⟨m,u,g⟩:=bT g
 exact g
theorem sF.ok(Y:aF)(X:Fr)(Z:U)(g:dS.g (fun a b c d e f h i j k l m Z=>∃ n,dS.t Y n a b c d e f h i j k l m Z) X Z):den prog E (a6 aO [W,W,W,W,W,W,W,W,W,W,aJ,W]) (aV.then (bM.g Y) (bC E [.tmp 4,.tmp 5] Y)) X Z:=
 e3 (by kernel_rfl) (dS.ok Y X Z g)
def cF.t(Y:aF)(a:Int)(b:S)(c d:Nat)(e:S)(f g:Nat)(h:Int)(i:S)(j k:Nat)(Z:U):Prop:=
 bB (IntKind.i64.wrap ((((f:Nat):Int)) - h)) fun l=>
 bB (IntKind.i64.wrap (l - 1)) fun l=>
 (∃ n,dS.t Y n a b c d e f g h i j k l Z)
def cF.g(Y:aF)(X:Fr)(Z:U):Prop:=a0 .i64 (X 8) fun a=>aR (X 9) fun b c d=>aR (X 10) fun e f h=>a0 .i64 (X 11) fun i=>aR (X 12) fun j k l=>cF.t Y a b c d e f h i j k l Z
theorem cF.ok(Y:aF)(X:Fr)(Z:U)(g:cF.g Y X Z):den prog E (a6 aO [W,W,W,W,W,W,W,W,W,W,aJ]) (aV.then (bM.g Y) (bC E [.tmp 4,.tmp 5] Y)) X Z:=
 bJ g fun a b g=>bF g fun c d e f g=>bF g fun h i j k g=>bJ g fun l m g=>bF g fun n o p q g=>c5 1 (r:=(a6 aO [W,W,W,W,W,W,W,W,W,W,aJ,W])) (by kernel_rfl) (sF.ok Y) (bV [(8,.int .i64 a),(9,.slice c d e),(10,.slice h i j),(11,.int .i64 l),(12,.slice n o p)] ⟨b,f,k,m,q,trivial⟩ (by kernel_rfl) g)
theorem sG.ok(Y:aF)(X:Fr)(Z:U)(g:cF.g Y X Z):den prog E (a6 aO [W,W,W,W,W,W,W,W,W,W]) (bC E [.tmp 4,.tmp 5] Y) X Z:=
 fP (by kernel_rfl) (bM.ok Y) (cF.ok Y X Z g)
def a5.t(Y:aF)(a:Int)(b:S)(c d:Nat)(e:S)(f g:Nat)(Z:U):Prop:=
 bB (IntKind.i64.wrap ((((f:Nat):Int)) - (((c:Nat):Int)))) fun h=>
 iS Z 89 iW h h fun i j=>
 cF.t Y a b c d e f g (((c:Nat):Int)) (some i) h.toNat h.toNat j
def a5.g(Y:aF)(X:Fr)(Z:U):Prop:=a0 .i64 (X 8) fun a=>aR (X 9) fun b c d=>aR (X 10) fun e f h=>a5.t Y a b c d e f h Z
theorem a5.ok(Y:aF)(X:Fr)(Z:U)(g:a5.g Y X Z):den prog E (a6 aO [W,W,W,W,W,W,W,W]) (bC E [.tmp 4,.tmp 5] Y) X Z:=
 bJ g fun a b g=>bF g fun c d e f g=>bF g fun h i j k g=>c5 2 (r:=(a6 aO [W,W,W,W,W,W,W,W,W,W])) (by kernel_rfl) (sG.ok Y) (bV [(8,.int .i64 a),(9,.slice c d e),(10,.slice h i j)] ⟨b,f,k,trivial⟩ (by kernel_rfl) g)
def gD.g(bP:S→Nat→Nat→Int→S→Nat→Nat→S→Nat→Nat→U→Prop)(X:Fr)(Z:U):Prop:=aR (X 0) fun M a aA=>a0 .i64 (X 8) fun b=>aR (X 9) fun c d e=>aR (X 10) fun f h i=>bP M a aA b c d e f h i Z
def hI.t(Y:aF)(a:S→Nat→Nat→Int→S→Nat→Nat→S→Nat→Nat→U→Prop)(M:S)(b aA:Nat)(c:Int)(d:S)(e f:Nat)(g:S)(h i:Nat)(Z:U):Prop:=
 cond (decide ((((h:Nat):Int))≤(((b:Nat):Int)))) (dX Z 89 [.int .u32 0] fun j k=>
 g3 k 89 iW g h i (.slice (some j) 1 1) fun j k l m=>
 a M b aA c d e f j k l m) (a5.t Y c d e f g h i Z)
def hI.g(Y:aF)(a:S→Nat→Nat→Int→S→Nat→Nat→S→Nat→Nat→U→Prop)(X:Fr)(Z:U):Prop:=aR (X 0) fun M b aA=>a0 .i64 (X 8) fun c=>aR (X 9) fun d e f=>aR (X 10) fun h i j=>hI.t Y a M b aA c d e f h i j Z
theorem hI.ok(Y:aF)(a:S→Nat→Nat→Int→S→Nat→Nat→S→Nat→Nat→U→Prop)(X:Fr)(Z:U)(g:hI.g Y a X Z):den prog E (a6 aO [W,W,W,W,W,W,W,aJ,aJ,aJ]) (aV.then (gD.g a) (aV.inBlock 0 (aV.then (a5.g Y) (bC E [.tmp 4,.tmp 5] Y)))) X Z:=
 bF g fun M a aA b g=>bJ g fun c d g=>bF g fun e f h i g=>bF g fun j k l m g=>bV [(0,.slice M a aA),(8,.int .i64 c),(9,.slice e f h),(10,.slice j k l)] ⟨b,d,i,m,trivial⟩ (by kernel_rfl) g
def gD.t(Y:aF):Nat→S→Nat→Nat→Int→S→Nat→Nat→S→Nat→Nat→U→Prop
 | 0=>fun _ _ _ _ _ _ _ _ _ _ _=>False
 | n+1=>fun M a aA b c d e f g h Z=>hI.t Y (gD.t Y n) M a aA b c d e f g h Z
theorem gD.ok(Y:aF)(X:Fr)(Z:U)(g:gD.g (fun M a aA b c d e f h i Z=>∃ n,gD.t Y n M a aA b c d e f h i Z) X Z):den prog E (a6 aO [W,W,W,W,W,W,W,aJ,aJ]) (aV.inBlock 0 (aV.then (a5.g Y) (bC E [.tmp 4,.tmp 5] Y))) X Z:=by
 obtain⟨M,a,aA,j,g⟩:=b2 g
 obtain⟨b,k,g⟩:=bT g
 obtain⟨c,d,e,l,g⟩:=b2 g
 obtain⟨f,h,i,m,g⟩:=b2 g
 obtain⟨n,g⟩:=g
 refine fF (fun n=>gD.g (gD.t Y n)) (K:=(a6 aO [W,W,W,W,W,W,W,aJ,aJ,aJ])) (by kernel_rfl) (fun X Z g=>?_) (fun n=>hI.ok Y (gD.t Y n)) n X Z (bL j (b0 k (bL l (bL m (g)))))
 obtain⟨M,a,aA,j,g⟩:=b2 g
 obtain⟨b,k,g⟩:=bT g
 obtain⟨c,d,e,l,g⟩:=b2 g
 obtain⟨f,h,i,m,g⟩:=b2 g
 exact g
theorem wC.ok(Y:aF)(X:Fr)(Z:U)(g:gD.g (fun M a aA b c d e f h i Z=>∃ n,gD.t Y n M a aA b c d e f h i Z) X Z):den prog E (a6 aO [W,W,W,W,W,W,W,aJ]) (aV.then (a5.g Y) (bC E [.tmp 4,.tmp 5] Y)) X Z:=
 e3 (by kernel_rfl) (gD.ok Y X Z g)
theorem P7.ok(Y:aF)(X:Fr)(Z:U)(g:gD.g (fun M a aA b c d e f h i Z=>∃ n,gD.t Y n M a aA b c d e f h i Z) X Z):den prog E (a6 aO [W,W,W,W,W,W,W]) (bC E [.tmp 4,.tmp 5] Y) X Z:=
 fP (by kernel_rfl) (a5.ok Y) (wC.ok Y X Z g)
def aP.t(Y:aF)(M:S)(a aA:Nat)(aM:S)(aL aK:Nat)(Z:U):Prop:=
 cond ((((aL:Nat):Int)) == 0) (a4 gN.id #[.int .u64 0] Z fun b c=>
 aR b fun b d e=>
 a4 gN.id #[.int .u64 0] c fun c f=>
 aR c fun c g h=>
 Y (.tuple #[.slice b d e,.slice c g h]) f) (a4 jN.id #[.slice M a aA,.slice aM aL aK] Z fun b c=>
 a0 .i64 b fun b=>
 cond (decide (b < 0)) (a4 gN.id #[.int .u64 0] c fun b d=>
 aR b fun b e f=>
 a4 g6.id #[.slice M a aA] d fun d g=>
 aR d fun d h i=>
 Y (.tuple #[.slice b e f,.slice d h i]) g) (cond ((((aL:Nat):Int)) == 1) (c6 aM aL 0 1 fun b=>
 eO c .u32 b fun b=>
 a4 j9.id #[.slice M a aA,.int .u32 b] c fun b d=>
 cW b fun b=>
 cU b fun b e f g=>
 dP g .u32 fun g h=>
 b9 h <| bB (IntKind.u64.wrap g) fun g=>
 a4 gN.id #[.int .u64 g] d fun d g=>
 aR d fun d h i=>
 Y (.tuple #[.slice b e f,.slice d h i]) g) (bB (IntKind.i64.wrap ((((aL:Nat):Int)) - 1)) fun b=>
 iR 1 aM aL aK (some (.int .i64 b)) none none fun b d e=>
 a4 k8.id #[.slice b d e] c fun b c=>
 a0 .i64 b fun b=>
 bB (IntKind.i64.wrap (32 - b)) fun b=>
 a4 lA.id #[.slice aM aL aK,.int .i64 b] c fun c d=>
 aR c fun c e f=>
 a4 lA.id #[.slice M a aA,.int .i64 b] d fun d g=>
 aR d fun d h i=>
 (∃ n,gD.t Y n M a aA b c e f d h i g))))
def aP.g(Y:aF)(X:Fr)(Z:U):Prop:=aR (X 0) fun M a aA=>aR (X 1) fun aM aL aK=>aP.t Y M a aA aM aL aK Z
theorem aP.ok(Y:aF)(X:Fr)(Z:U)(g:aP.g Y X Z):den prog E aO (bC E [.tmp 4,.tmp 5] Y) X Z:=
 bF g fun M a aA b g=>bF g fun aM aL aK c g=>c5 7 (r:=(a6 aO [W,W,W,W,W,W,W])) (by kernel_rfl) (P7.ok Y) (bV [(0,.slice M a aA),(1,.slice aM aL aK)] ⟨b,c,trivial⟩ (by kernel_rfl) g)
def t(M:S)(a aA:Nat)(aM:S)(aL aK:Nat)(Z:U)(Y:aF):Prop:=aP.t Y M a aA aM aL aK Z
theorem ok{M:S}{a:Nat}{aA:Nat}{aM:S}{aL:Nat}{aK:Nat}{Z:U}{Y:aF}(g:t M a aA aM aL aK Z Y):a4 id #[.slice M a aA,.slice aM aL aK] Z Y:=
 eD dT (c:=aO) (dH:=[.tmp 4,.tmp 5]) Tryz.func68 (by kernel_rfl) (by kernel_rfl) (by kernel_rfl) (args:=[.slice M a aA,.slice aM aL aK]) (by kernel_rfl) (aP.ok Y _ Z (bL rfl (bL rfl (g))))
end hY
namespace kG
noncomputable def aO:Code:=dY Tryz.f69
def a5.t(Y:aF)(M:S)(a aA:Nat)(aS:Int)(bE:S)(b bD:Nat)(Z:U):Prop:=
 (32:Int) ≠ 0∧bB (IntKind.i64.wrap (Int.tdiv aS 32)) fun c=>
 c6 M a c 1 fun a=>
 eO Z .u32 a fun a=>
 (32:Int) ≠ 0∧bB (Int.tmod aS 32) fun c=>
 0≤c∧bB (iQ .u32 1 c) fun c=>
 c ≠ 0∧bB (Int.tmod a c) fun a=>
 dX Z 89 [.int .u32 a] fun a c=>
 g3 c 89 iW bE b bD (.slice (some a) 1 1) fun a b c d=>
 a4 g6.id #[.slice a b c] d fun a b=>
 aR a fun a c d=>
 Y (.slice a c d) b
def a5.g(Y:aF)(X:Fr)(Z:U):Prop:=aR (X 0) fun M a aA=>a0 .i64 (X 1) fun aS=>aR (X 5) fun bE b bD=>a5.t Y M a aA aS bE b bD Z
theorem a5.ok(Y:aF)(X:Fr)(Z:U)(g:a5.g Y X Z):den prog E (a6 aO [W,W,W,W,W]) (bC E [.tmp 4] Y) X Z:=
 bF g fun M a aA b g=>bJ g fun aS c g=>bF g fun bE d bD e g=>bV [(0,.slice M a aA),(1,.int .i64 aS),(5,.slice bE d bD)] ⟨b,c,e,trivial⟩ (by kernel_rfl) g
def cP.g(bP:S→Nat→Nat→Int→S→Nat→Nat→U→Prop)(X:Fr)(Z:U):Prop:=aR (X 0) fun M a aA=>a0 .i64 (X 1) fun aS=>aR (X 5) fun bE b bD=>bP M a aA aS bE b bD Z
def cF.t(Y:aF)(a:S→Nat→Nat→Int→S→Nat→Nat→U→Prop)(M:S)(b aA:Nat)(aS:Int)(bE:S)(c bD:Nat)(Z:U):Prop:=
 (32:Int) ≠ 0∧bB (IntKind.i64.wrap (Int.tdiv aS 32)) fun d=>
 cond (decide ((((c:Nat):Int)) < d)) (dX Z 89 [.int .u32 0] fun d e=>
 g3 e 89 iW bE c bD (.slice (some d) 1 1) fun d e f g=>
 a M b aA aS d e f g) (a5.t Y M b aA aS bE c bD Z)
def cF.g(Y:aF)(a:S→Nat→Nat→Int→S→Nat→Nat→U→Prop)(X:Fr)(Z:U):Prop:=aR (X 0) fun M b aA=>a0 .i64 (X 1) fun aS=>aR (X 5) fun bE c bD=>cF.t Y a M b aA aS bE c bD Z
theorem cF.ok(Y:aF)(a:S→Nat→Nat→Int→S→Nat→Nat→U→Prop)(X:Fr)(Z:U)(g:cF.g Y a X Z):den prog E (a6 aO [W,W,W,W,aJ,aJ,aJ]) (aV.then (cP.g a) (aV.inBlock 0 (aV.then (a5.g Y) (bC E [.tmp 4] Y)))) X Z:=
 bF g fun M a aA b g=>bJ g fun aS c g=>bF g fun bE d bD e g=>bV [(0,.slice M a aA),(1,.int .i64 aS),(5,.slice bE d bD)] ⟨b,c,e,trivial⟩ (by kernel_rfl) g
def cP.t(Y:aF):Nat→S→Nat→Nat→Int→S→Nat→Nat→U→Prop
 | 0=>fun _ _ _ _ _ _ _ _=>False
 | n+1=>fun M a aA aS bE b bD Z=>cF.t Y (cP.t Y n) M a aA aS bE b bD Z
theorem cP.ok(Y:aF)(X:Fr)(Z:U)(g:cP.g (fun M a aA aS bE b bD Z=>∃ n,cP.t Y n M a aA aS bE b bD Z) X Z):den prog E (a6 aO [W,W,W,W,aJ,aJ]) (aV.inBlock 0 (aV.then (a5.g Y) (bC E [.tmp 4] Y))) X Z:=by
 obtain⟨M,a,aA,c,g⟩:=b2 g
 obtain⟨aS,d,g⟩:=bT g
 obtain⟨bE,b,bD,e,g⟩:=b2 g
 obtain⟨n,g⟩:=g
 refine fF (fun n=>cP.g (cP.t Y n)) (K:=(a6 aO [W,W,W,W,aJ,aJ,aJ])) (by kernel_rfl) (fun X Z g=>?_) (fun n=>cF.ok Y (cP.t Y n)) n X Z (bL c (b0 d (bL e (g))))
 obtain⟨M,a,aA,c,g⟩:=b2 g
 obtain⟨aS,d,g⟩:=bT g
 obtain⟨bE,b,bD,e,g⟩:=b2 g
 exact g
theorem hV.ok(Y:aF)(X:Fr)(Z:U)(g:cP.g (fun M a aA aS bE b bD Z=>∃ n,cP.t Y n M a aA aS bE b bD Z) X Z):den prog E (a6 aO [W,W,W,W,aJ]) (aV.then (a5.g Y) (bC E [.tmp 4] Y)) X Z:=
 e3 (by kernel_rfl) (cP.ok Y X Z g)
theorem sI.ok(Y:aF)(X:Fr)(Z:U)(g:cP.g (fun M a aA aS bE b bD Z=>∃ n,cP.t Y n M a aA aS bE b bD Z) X Z):den prog E (a6 aO [W,W,W,W]) (bC E [.tmp 4] Y) X Z:=
 fP (by kernel_rfl) (a5.ok Y) (hV.ok Y X Z g)
def aP.t(Y:aF)(M:S)(a aA:Nat)(aS:Int)(Z:U):Prop:=
 cond (decide (aS≤0)) (a4 gN.id #[.int .u64 0] Z fun b c=>
 aR b fun b d e=>
 Y (.slice b d e) c) ((32:Int) ≠ 0∧bB (IntKind.i64.wrap (Int.tdiv aS 32)) fun b=>
 cond (decide (b≥(((a:Nat):Int)))) (a4 g6.id #[.slice M a aA] Z fun b c=>
 aR b fun b d e=>
 Y (.slice b d e) c) ((32:Int) ≠ 0∧bB (IntKind.i64.wrap (Int.tdiv aS 32)) fun b=>
 iR 1 M a aA none (some (.int .i64 b)) none fun b c d=>
 a4 g6.id #[.slice b c d] Z fun b c=>
 aR b fun b d e=>
 (∃ n,cP.t Y n M a aA aS b d e c)))
def aP.g(Y:aF)(X:Fr)(Z:U):Prop:=aR (X 0) fun M a aA=>a0 .i64 (X 1) fun aS=>aP.t Y M a aA aS Z
theorem aP.ok(Y:aF)(X:Fr)(Z:U)(g:aP.g Y X Z):den prog E aO (bC E [.tmp 4] Y) X Z:=
 bF g fun M a aA b g=>bJ g fun aS c g=>c5 4 (r:=(a6 aO [W,W,W,W])) (by kernel_rfl) (sI.ok Y) (bV [(0,.slice M a aA),(1,.int .i64 aS)] ⟨b,c,trivial⟩ (by kernel_rfl) g)
def t(M:S)(a aA:Nat)(aS:Int)(Z:U)(Y:aF):Prop:=aP.t Y M a aA aS Z
theorem ok{M:S}{a:Nat}{aA:Nat}{aS:Int}{Z:U}{Y:aF}(g:t M a aA aS Z Y):a4 id #[.slice M a aA,.int .i64 aS] Z Y:=
 eD dT (c:=aO) (dH:=[.tmp 4]) Tryz.func69 (by kernel_rfl) (by kernel_rfl) (by kernel_rfl) (args:=[.slice M a aA,.int .i64 aS]) (by kernel_rfl) (aP.ok Y _ Z (bL rfl (b0 rfl (g))))
end kG
namespace nD
noncomputable def aO:Code:=dY Tryz.f70
def bM.t(Y:aF)(a:S)(b c:Nat)(d:S)(e f:Nat)(Z:U):Prop:=
 Y (.tuple #[.slice a b c,.slice d e f]) Z
def bM.g(Y:aF)(X:Fr)(Z:U):Prop:=aR (X 21) fun a b c=>aR (X 24) fun d e f=>bM.t Y a b c d e f Z
theorem bM.ok(Y:aF)(X:Fr)(Z:U)(g:bM.g Y X Z):den prog E (a6 aO [W,W,W,W,W,W,W,W,W,W,W,W,W,W]) (bC E [.tmp 8,.tmp 9] Y) X Z:=
 bF g fun a b c d g=>bF g fun e f h i g=>bV [(21,.slice a b c),(24,.slice e f h)] ⟨d,i,trivial⟩ (by kernel_rfl) g
def a5.t(Y:aF)(aM:S)(aL aK:Nat)(bO:S)(b3 bN:Nat)(c9:S)(eE cZ:Nat)(a:S)(b c:Nat)(d:S)(e f:Nat)(Z:U):Prop:=
 a4 g0.id #[.slice c9 eE cZ,.slice d e f] Z fun g h=>
 aR g fun g i j=>
 a4 hY.id #[.slice g i j,.slice bO b3 bN] h fun g h=>
 cW g fun g=>
 cU g fun g g g g=>
 cU g fun g i j k=>
 b9 k <| a4 gN.id #[.int .u64 1] h fun h k=>
 aR h fun h l m=>
 a4 hE.id #[.slice a b c,.slice h l m] k fun a b=>
 aR a fun a c h=>
 a4 nD.id #[.slice a c h,.slice bO b3 bN,.slice d e f,.slice g i j] b fun a b=>
 cW a fun a=>
 cU a fun a c d e=>
 cU e fun e f g h=>
 b9 h <| a4 jN.id #[.slice c9 eE cZ,.slice a c d] b fun b h=>
 a0 .i64 b fun b=>
 cond (decide (b≤0)) (a4 g6.id #[.slice c9 eE cZ] h fun b i=>
 aR b fun b j k=>
 a4 gN.id #[.int .u64 0] i fun i l=>
 aR i fun i m n=>
 Y (.tuple #[.slice b j k,.slice i m n]) l) (a4 gN.id #[.int .u64 1] h fun b h=>
 aR b fun b i j=>
 a4 g0.id #[.slice e f g,.slice b i j] h fun b e=>
 aR b fun b f g=>
 a4 hS.id #[.slice b f g,.slice aM aL aK] e fun b e=>
 aR b fun b f g=>
 a4 hE.id #[.slice b f g,.slice c9 eE cZ] e fun b e=>
 aR b fun b f g=>
 a4 hY.id #[.slice b f g,.slice bO b3 bN] e fun b e=>
 cW b fun b=>
 cU b fun b f g h=>
 cU h fun h h i i=>
 b9 i <| cond (decide ((((h:Nat):Int)) > 0)) (a4 gN.id #[.int .u64 1] e fun h i=>
 aR h fun h j k=>
 a4 g0.id #[.slice b f g,.slice h j k] i fun h i=>
 aR h fun h j k=>
 bM.t Y a c d h j k i) (bM.t Y a c d b f g e))
def a5.g(Y:aF)(X:Fr)(Z:U):Prop:=aR (X 1) fun aM aL aK=>aR (X 2) fun bO b3 bN=>aR (X 3) fun c9 eE cZ=>aR (X 14) fun a b c=>aR (X 18) fun d e f=>a5.t Y aM aL aK bO b3 bN c9 eE cZ a b c d e f Z
theorem a5.ok(Y:aF)(X:Fr)(Z:U)(g:a5.g Y X Z):den prog E (a6 aO [W,W,W,W,W,W,W,W]) (bC E [.tmp 8,.tmp 9] Y) X Z:=
 bF g fun aM aL aK a g=>bF g fun bO b3 bN b g=>bF g fun c9 eE cZ c g=>bF g fun d e f h g=>bF g fun i j k l g=>c5 6 (r:=(a6 aO [W,W,W,W,W,W,W,W,W,W,W,W,W,W])) (by kernel_rfl) (bM.ok Y) (bV [(1,.slice aM aL aK),(2,.slice bO b3 bN),(3,.slice c9 eE cZ),(14,.slice d e f),(18,.slice i j k)] ⟨a,b,c,h,l,trivial⟩ (by kernel_rfl) g)
def aP.t(Y:aF)(M:S)(a aA:Nat)(aM:S)(aL aK:Nat)(bO:S)(b3 bN:Nat)(c9:S)(eE cZ:Nat)(Z:U):Prop:=
 cond ((((b3:Nat):Int)) == 0) (a4 g6.id #[.slice c9 eE cZ] Z fun b c=>
 aR b fun b d e=>
 a4 gN.id #[.int .u64 0] c fun c f=>
 aR c fun c g h=>
 Y (.tuple #[.slice b d e,.slice c g h]) f) (a4 lA.id #[.slice bO b3 bN,.int .i64 1] Z fun b c=>
 aR b fun b d e=>
 a4 jN.id #[.slice b d e,.slice aM aL aK] c fun b c=>
 a0 .i64 b fun b=>
 cond (decide (b > 0)) (a4 hS.id #[.slice bO b3 bN,.slice M a aA] c fun b d=>
 aR b fun b e f=>
 a4 g0.id #[.slice c9 eE cZ,.slice b e f] d fun b d=>
 aR b fun b e f=>
 a4 hY.id #[.slice b e f,.slice aM aL aK] d fun b d=>
 cW b fun b=>
 cU b fun b b b b=>
 cU b fun b e f g=>
 b9 g <| a4 hE.id #[.slice aM aL aK,.slice bO b3 bN] d fun d g=>
 aR d fun d h i=>
 a4 nD.id #[.slice M a aA,.slice aM aL aK,.slice d h i,.slice b e f] g fun b d=>
 cW b fun b=>
 cU b fun b e f g=>
 cU g fun g h i j=>
 b9 j <| a4 hE.id #[.slice M a aA,.slice g h i] d fun d g=>
 aR d fun d h i=>
 Y (.tuple #[.slice b e f,.slice d h i]) g) (a4 hS.id #[.slice bO b3 bN,.slice M a aA] c fun a b=>
 aR a fun a c d=>
 a4 g0.id #[.slice a c d,.slice c9 eE cZ] b fun a b=>
 aR a fun a c d=>
 a4 hY.id #[.slice a c d,.slice aM aL aK] b fun a b=>
 cW a fun a=>
 cU a fun a c d e=>
 cU e fun e e e e=>
 b9 e <| cond ((((c:Nat):Int)) == 0) (a4 g6.id #[.slice c9 eE cZ] b fun e f=>
 aR e fun e g h=>
 a4 gN.id #[.int .u64 0] f fun f i=>
 aR f fun f j k=>
 Y (.tuple #[.slice e g h,.slice f j k]) i) (a4 hY.id #[.slice aM aL aK,.slice bO b3 bN] b fun b e=>
 cW b fun b=>
 cU b fun b b b b=>
 cU b fun b f g h=>
 b9 h <| a4 hE.id #[.slice bO b3 bN,.slice b f g] e fun b e=>
 aR b fun b g h=>
 cond ((((f:Nat):Int)) == 0) (a4 gN.id #[.int .u64 0] e fun f i=>
 aR f fun f j k=>
 a5.t Y aM aL aK bO b3 bN c9 eE cZ a c d f j k i) (a5.t Y aM aL aK bO b3 bN c9 eE cZ a c d b g h e))))
def aP.g(Y:aF)(X:Fr)(Z:U):Prop:=aR (X 0) fun M a aA=>aR (X 1) fun aM aL aK=>aR (X 2) fun bO b3 bN=>aR (X 3) fun c9 eE cZ=>aP.t Y M a aA aM aL aK bO b3 bN c9 eE cZ Z
theorem aP.ok(Y:aF)(X:Fr)(Z:U)(g:aP.g Y X Z):den prog E aO (bC E [.tmp 8,.tmp 9] Y) X Z:=
 bF g fun M a aA b g=>bF g fun aM aL aK c g=>bF g fun bO b3 bN d g=>bF g fun c9 eE cZ e g=>c5 8 (r:=(a6 aO [W,W,W,W,W,W,W,W])) (by kernel_rfl) (a5.ok Y) (bV [(0,.slice M a aA),(1,.slice aM aL aK),(2,.slice bO b3 bN),(3,.slice c9 eE cZ)] ⟨b,c,d,e,trivial⟩ (by kernel_rfl) g)
def t(M:S)(a aA:Nat)(aM:S)(aL aK:Nat)(bO:S)(b3 bN:Nat)(c9:S)(eE cZ:Nat)(Z:U)(Y:aF):Prop:=aP.t Y M a aA aM aL aK bO b3 bN c9 eE cZ Z
theorem ok{M:S}{a:Nat}{aA:Nat}{aM:S}{aL:Nat}{aK:Nat}{bO:S}{b3:Nat}{bN:Nat}{c9:S}{eE:Nat}{cZ:Nat}{Z:U}{Y:aF}(g:t M a aA aM aL aK bO b3 bN c9 eE cZ Z Y):a4 id #[.slice M a aA,.slice aM aL aK,.slice bO b3 bN,.slice c9 eE cZ] Z Y:=
 eD dT (c:=aO) (dH:=[.tmp 8,.tmp 9]) Tryz.func70 (by kernel_rfl) (by kernel_rfl) (by kernel_rfl) (args:=[.slice M a aA,.slice aM aL aK,.slice bO b3 bN,.slice c9 eE cZ]) (by kernel_rfl) (aP.ok Y _ Z (bL rfl (bL rfl (bL rfl (bL rfl (g))))))
end nD
namespace uK
noncomputable def aO:Code:=dY Tryz.f71
def aP.t(Y:aF)(a:Bool)(b:S)(c d:Nat)(aS:Int)(Z:U):Prop:=
 dX Z 82 [.bool a,.slice b c d] fun cQ a=>
 dX a 82 iI.a9 fun a b=>
 cond (decide (aS≥0)) (eT b (cQ.add 0) fun c=>
 dQ b (cQ.add 1) fun d e f=>
 a4 lZ.id #[.agg #[.bool c,.slice d e f],.int .i64 aS] b fun c fV=>
 eQ c fun c=>
 fT c fun c d=>
 cU d fun d e f g=>
 b9 g <| cM fV (a.add 0) (.bool c) fun c=>
 cM c (a.add 1) (.slice d e f) fun c=>
 eT c (a.add 0) fun d=>
 dQ c (a.add 1) fun e f g=>
 Y (.agg #[.bool d,.slice e f g]) c) (eT b (cQ.add 0) fun c=>
 dQ b (cQ.add 1) fun d e f=>
 bB (IntKind.i64.wrap (0 - aS)) fun g=>
 a4 m3.id #[.agg #[.bool c,.slice d e f],.int .i64 g] b fun b c=>
 eQ b fun b=>
 fT b fun b d=>
 cU d fun d e f g=>
 b9 g <| cM c (a.add 0) (.bool b) fun b=>
 cM b (a.add 1) (.slice d e f) fun b=>
 eT b (a.add 0) fun c=>
 dQ b (a.add 1) fun a d e=>
 Y (.agg #[.bool c,.slice a d e]) b)
def aP.g(Y:aF)(X:Fr)(Z:U):Prop:=eQ (X 0) fun a=>cV a fun a b=>eU a fun a=>cV b fun b c=>aR b fun b d e=>b9 c <| a0 .i64 (X 1) fun aS=>aP.t Y a b d e aS Z
theorem aP.ok(Y:aF)(X:Fr)(Z:U)(g:aP.g Y X Z):den prog E aO (bC E [.cell 4 82] Y) X Z:=by
 obtain⟨m,a,b⟩:=j4 g
 obtain⟨n,o,rfl,c⟩:=gG b
 obtain⟨d,rfl,e⟩:=jH c
 obtain⟨p,q,rfl,f⟩:=gG e
 obtain⟨h,i,j,rfl,k⟩:=b2 f
 obtain⟨rfl,g⟩:=iT k
 obtain⟨aS,l,g⟩:=bT g
 exact bV [(0,.agg #[.bool d,.slice h i j]),(1,.int .i64 aS)] ⟨a,l,trivial⟩ (by kernel_rfl) g
def t(a:Bool)(b:S)(c d:Nat)(aS:Int)(Z:U)(Y:aF):Prop:=aP.t Y a b c d aS Z
theorem ok{a:Bool}{b:S}{d:Nat}{e:Nat}{aS:Int}{Z:U}{Y:aF}(g:t a b d e aS Z Y):a4 id #[.agg #[.bool a,.slice b d e],.int .i64 aS] Z Y:=
 eD dT (c:=aO) (dH:=[.cell 4 82]) Tryz.func71 (by kernel_rfl) (by kernel_rfl) (by kernel_rfl) (args:=[.agg #[.bool a,.slice b d e],.int .i64 aS]) (by kernel_rfl) (aP.ok Y _ Z (fH rfl (cS (dB rfl (cS (bL rfl (eG (b0 rfl (g)))))))))
end uK
namespace m2
noncomputable def aO:Code:=dY Tryz.f72
def aP.t(Y:aF)(a:Bool)(b:S)(c d:Nat)(e:Bool)(f:S)(g h:Nat)(Z:U):Prop:=
 dX Z 82 [.bool a,.slice b c d] fun cQ a=>
 dX a 82 [.bool e,.slice f g h] fun a b=>
 eT b (cQ.add 0) fun c=>
 dQ b (cQ.add 1) fun d e f=>
 eT b (a.add 0) fun g=>
 dQ b (a.add 1) fun a h i=>
 a4 l0.id #[.agg #[.bool c,.slice d e f],.agg #[.bool g,.slice a h i]] b fun a b=>
 eQ a fun a=>
 fT a fun a c=>
 cU c fun c d e f=>
 b9 f <| a4 lD.id #[.agg #[.bool a,.slice c d e]] b fun a b=>
 a0 .i64 a fun a=>
 Y (.int .i64 a) b
def aP.g(Y:aF)(X:Fr)(Z:U):Prop:=eQ (X 0) fun a=>cV a fun a b=>eU a fun a=>cV b fun b c=>aR b fun b d e=>b9 c <| eQ (X 1) fun c=>cV c fun c f=>eU c fun c=>cV f fun f h=>aR f fun f i j=>b9 h <| aP.t Y a b d e c f i j Z
theorem aP.ok(Y:aF)(X:Fr)(Z:U)(g:aP.g Y X Z):den prog E aO (bC E [.tmp 4] Y) X Z:=by
 obtain⟨v,a,b⟩:=j4 g
 obtain⟨w,x,rfl,c⟩:=gG b
 obtain⟨d,rfl,e⟩:=jH c
 obtain⟨y,z,rfl,f⟩:=gG e
 obtain⟨h,i,j,rfl,k⟩:=b2 f
 obtain⟨rfl,g⟩:=iT k
 obtain⟨A,l,m⟩:=j4 g
 obtain⟨B,C,rfl,n⟩:=gG m
 obtain⟨o,rfl,p⟩:=jH n
 obtain⟨D,F,rfl,q⟩:=gG p
 obtain⟨r,s,t,rfl,u⟩:=b2 q
 obtain⟨rfl,g⟩:=iT u
 exact bV [(0,.agg #[.bool d,.slice h i j]),(1,.agg #[.bool o,.slice r s t])] ⟨a,l,trivial⟩ (by kernel_rfl) g
def t(a:Bool)(b:S)(c d:Nat)(e:Bool)(f:S)(g h:Nat)(Z:U)(Y:aF):Prop:=aP.t Y a b c d e f g h Z
theorem ok{a:Bool}{b:S}{d:Nat}{e:Nat}{f:Bool}{h:S}{i:Nat}{j:Nat}{Z:U}{Y:aF}(g:t a b d e f h i j Z Y):a4 id #[.agg #[.bool a,.slice b d e],.agg #[.bool f,.slice h i j]] Z Y:=
 eD dT (c:=aO) (dH:=[.tmp 4]) Tryz.func72 (by kernel_rfl) (by kernel_rfl) (by kernel_rfl) (args:=[.agg #[.bool a,.slice b d e],.agg #[.bool f,.slice h i j]]) (by kernel_rfl) (aP.ok Y _ Z (fH rfl (cS (dB rfl (cS (bL rfl (eG (fH rfl (cS (dB rfl (cS (bL rfl (eG (g))))))))))))))
end m2
namespace lZ
noncomputable def aO:Code:=dY Tryz.f73
def aP.t(Y:aF)(a:Bool)(b:S)(c d:Nat)(aS:Int)(Z:U):Prop:=
 dX Z 82 [.bool a,.slice b c d] fun cQ a=>
 dX a 82 iI.a9 fun a b=>
 (cQ.add 0).block < b.size∧eT b (cQ.add 0) fun c=>
 (cQ.add 1).block < b.size∧dQ b (cQ.add 1) fun d e f=>
 a4 lA.id #[.slice d e f,.int .i64 aS] b fun d fV=>
 aR d fun d e f=>
 (e4 b.size b fV)∧a4 gE.id #[.bool c,.slice d e f] fV fun c d=>
 eQ c fun c=>
 fT c fun c e=>
 cU e fun e f g h=>
 b9 h <| (e4 b.size fV d)∧cM d (a.add 0) (.bool c) fun b=>
 cM b (a.add 1) (.slice e f g) fun b=>
 eT b (a.add 0) fun c=>
 dQ b (a.add 1) fun a d e=>
 Y (.agg #[.bool c,.slice a d e]) b
def aP.g(Y:aF)(X:Fr)(Z:U):Prop:=eQ (X 0) fun a=>cV a fun a b=>eU a fun a=>cV b fun b c=>aR b fun b d e=>b9 c <| a0 .i64 (X 1) fun aS=>aP.t Y a b d e aS Z
theorem aP.ok(Y:aF)(X:Fr)(Z:U)(g:aP.g Y X Z):den prog E aO (bC E [.cell 4 82] Y) X Z:=by
 obtain⟨m,a,b⟩:=j4 g
 obtain⟨n,o,rfl,c⟩:=gG b
 obtain⟨d,rfl,e⟩:=jH c
 obtain⟨p,q,rfl,f⟩:=gG e
 obtain⟨h,i,j,rfl,k⟩:=b2 f
 obtain⟨rfl,g⟩:=iT k
 obtain⟨aS,l,g⟩:=bT g
 exact bV [(0,.agg #[.bool d,.slice h i j]),(1,.int .i64 aS)] ⟨a,l,trivial⟩ (by kernel_rfl) g
def t(a:Bool)(b:S)(c d:Nat)(aS:Int)(Z:U)(Y:aF):Prop:=aP.t Y a b c d aS Z
theorem ok{a:Bool}{b:S}{d:Nat}{e:Nat}{aS:Int}{Z:U}{Y:aF}(g:t a b d e aS Z Y):a4 id #[.agg #[.bool a,.slice b d e],.int .i64 aS] Z Y:=
 eD dT (c:=aO) (dH:=[.cell 4 82]) Tryz.func73 (by kernel_rfl) (by kernel_rfl) (by kernel_rfl) (args:=[.agg #[.bool a,.slice b d e],.int .i64 aS]) (by kernel_rfl) (aP.ok Y _ Z (fH rfl (cS (dB rfl (cS (bL rfl (eG (b0 rfl (g)))))))))
end lZ
namespace v5
noncomputable def aO:Code:=dY Tryz.f74
def aP.t(Y:aF)(a:Bool)(b:S)(c d:Nat)(Z:U):Prop:=
 dX Z 82 [.bool a,.slice b c d] fun cQ a=>
 dX a 82 iI.a9 fun a b=>
 dQ b (cQ.add 1) fun c d e=>
 a4 gE.id #[.bool false,.slice c d e] b fun b c=>
 eQ b fun b=>
 fT b fun b d=>
 cU d fun d e f g=>
 b9 g <| cM c (a.add 0) (.bool b) fun b=>
 cM b (a.add 1) (.slice d e f) fun b=>
 eT b (a.add 0) fun c=>
 dQ b (a.add 1) fun a d e=>
 Y (.agg #[.bool c,.slice a d e]) b
def aP.g(Y:aF)(X:Fr)(Z:U):Prop:=eQ (X 0) fun a=>cV a fun a b=>eU a fun a=>cV b fun b c=>aR b fun b d e=>b9 c <| aP.t Y a b d e Z
theorem aP.ok(Y:aF)(X:Fr)(Z:U)(g:aP.g Y X Z):den prog E aO (bC E [.cell 2 82] Y) X Z:=by
 obtain⟨l,a,b⟩:=j4 g
 obtain⟨m,n,rfl,c⟩:=gG b
 obtain⟨d,rfl,e⟩:=jH c
 obtain⟨o,p,rfl,f⟩:=gG e
 obtain⟨h,i,j,rfl,k⟩:=b2 f
 obtain⟨rfl,g⟩:=iT k
 exact bV [(0,.agg #[.bool d,.slice h i j])] ⟨a,trivial⟩ (by kernel_rfl) g
def t(a:Bool)(b:S)(c d:Nat)(Z:U)(Y:aF):Prop:=aP.t Y a b c d Z
theorem ok{a:Bool}{b:S}{d:Nat}{e:Nat}{Z:U}{Y:aF}(g:t a b d e Z Y):a4 id #[.agg #[.bool a,.slice b d e]] Z Y:=
 eD dT (c:=aO) (dH:=[.cell 2 82]) Tryz.func74 (by kernel_rfl) (by kernel_rfl) (by kernel_rfl) (args:=[.agg #[.bool a,.slice b d e]]) (by kernel_rfl) (aP.ok Y _ Z (fH rfl (cS (dB rfl (cS (bL rfl (eG (g))))))))
end v5
namespace k9
noncomputable def aO:Code:=dY Tryz.f75
def a5.t(Y:aF)(bX:S)(a bY:Nat)(b:Int)(Z:U):Prop:=
 bB (IntKind.u32.wrap b) fun b=>
 dX Z 89 [.int .u32 b] fun b c=>
 g3 c 89 iW bX a bY (.slice (some b) 1 1) fun a b c d=>
 a4 g6.id #[.slice a b c] d fun a fV=>
 aR a fun a b c=>
 Y (.slice a b c) fV
def a5.g(Y:aF)(X:Fr)(Z:U):Prop:=aR (X 7) fun bX a bY=>a0 .u64 (X 8) fun b=>a5.t Y bX a bY b Z
theorem a5.ok(Y:aF)(X:Fr)(Z:U)(g:a5.g Y X Z):den prog E (a6 aO [W,W,W,W]) (bC E [.tmp 6] Y) X Z:=
 bF g fun bX a bY b g=>bJ g fun c d g=>bV [(7,.slice bX a bY),(8,.int .u64 c)] ⟨b,d,trivial⟩ (by kernel_rfl) g
def bU.g(bP:S→Nat→Nat→Int→S→Nat→Nat→Int→Int→U→Prop)(X:Fr)(Z:U):Prop:=aR (X 0) fun M a aA=>a0 .u32 (X 1) fun aS=>aR (X 7) fun bX b bY=>a0 .u64 (X 8) fun c=>a0 .i64 (X 9) fun d=>bP M a aA aS bX b bY c d Z
def cH.t(Y:aF)(a:S→Nat→Nat→Int→S→Nat→Nat→Int→Int→U→Prop)(M:S)(b aA:Nat)(aS:Int)(bX:S)(c bY:Nat)(d e:Int)(Z:U):Prop:=
 cond (decide (e < (((b:Nat):Int)))) (c6 M b e 1 fun f=>
 eO Z .u32 f fun f=>
 bB (IntKind.u64.wrap f) fun f=>
 bB (IntKind.u64.wrap aS) fun g=>
 bB (IntKind.u64.wrap (f*g)) fun f=>
 bB (IntKind.u64.wrap (d+f)) fun f=>
 bB (j1 .u64 f 4294967295) fun g=>
 bB (IntKind.u32.wrap g) fun g=>
 dX Z 89 [.int .u32 g] fun g h=>
 g3 h 89 iW bX c bY (.slice (some g) 1 1) fun g h i j=>
 0≤(32:Int)∧bB (hG .u64 f 32) fun f=>
 bB (IntKind.i64.wrap (e+1)) fun e=>
 a M b aA aS g h i f e j) (a5.t Y bX c bY d Z)
def cH.g(Y:aF)(a:S→Nat→Nat→Int→S→Nat→Nat→Int→Int→U→Prop)(X:Fr)(Z:U):Prop:=aR (X 0) fun M b aA=>a0 .u32 (X 1) fun aS=>aR (X 7) fun bX c bY=>a0 .u64 (X 8) fun d=>a0 .i64 (X 9) fun e=>cH.t Y a M b aA aS bX c bY d e Z
theorem cH.ok(Y:aF)(a:S→Nat→Nat→Int→S→Nat→Nat→Int→Int→U→Prop)(X:Fr)(Z:U)(g:cH.g Y a X Z):den prog E (a6 aO [W,W,W,aJ,W,aJ,aJ]) (aV.then (bU.g a) (aV.inBlock 0 (aV.then (a5.g Y) (bC E [.tmp 6] Y)))) X Z:=
 bF g fun M a aA b g=>bJ g fun aS c g=>bF g fun bX d bY e g=>bJ g fun f h g=>bJ g fun i j g=>bV [(0,.slice M a aA),(1,.int .u32 aS),(7,.slice bX d bY),(8,.int .u64 f),(9,.int .i64 i)] ⟨b,c,e,h,j,trivial⟩ (by kernel_rfl) g
def bU.t(Y:aF):Nat→S→Nat→Nat→Int→S→Nat→Nat→Int→Int→U→Prop
 | 0=>fun _ _ _ _ _ _ _ _ _ _=>False
 | n+1=>fun M a aA aS bX b bY c d Z=>cH.t Y (bU.t Y n) M a aA aS bX b bY c d Z
theorem bU.ok(Y:aF)(X:Fr)(Z:U)(g:bU.g (fun M a aA aS bX b bY c d Z=>∃ n,bU.t Y n M a aA aS bX b bY c d Z) X Z):den prog E (a6 aO [W,W,W,aJ,W,aJ]) (aV.inBlock 0 (aV.then (a5.g Y) (bC E [.tmp 6] Y))) X Z:=by
 obtain⟨M,a,aA,e,g⟩:=b2 g
 obtain⟨aS,f,g⟩:=bT g
 obtain⟨bX,b,bY,h,g⟩:=b2 g
 obtain⟨c,i,g⟩:=bT g
 obtain⟨d,j,g⟩:=bT g
 obtain⟨n,g⟩:=g
 refine fF (fun n=>bU.g (bU.t Y n)) (K:=(a6 aO [W,W,W,aJ,W,aJ,aJ])) (by kernel_rfl) (fun X Z g=>?_) (fun n=>cH.ok Y (bU.t Y n)) n X Z (bL e (b0 f (bL h (b0 i (b0 j (g))))))
 obtain⟨M,a,aA,e,g⟩:=b2 g
 obtain⟨aS,f,g⟩:=bT g
 obtain⟨bX,b,bY,h,g⟩:=b2 g
 obtain⟨c,i,g⟩:=bT g
 obtain⟨d,j,g⟩:=bT g
 exact g
theorem hM.ok(Y:aF)(X:Fr)(Z:U)(g:bU.g (fun M a aA aS bX b bY c d Z=>∃ n,bU.t Y n M a aA aS bX b bY c d Z) X Z):den prog E (a6 aO [W,W,W,aJ,W]) (aV.then (a5.g Y) (bC E [.tmp 6] Y)) X Z:=
 e3 (by kernel_rfl) (bU.ok Y X Z g)
def bM.t(Y:aF)(M:S)(a aA:Nat)(aS:Int)(bX:S)(b bY:Nat)(c:Int)(Z:U):Prop:=
 (∃ n,bU.t Y n M a aA aS bX b bY c 0 Z)
def bM.g(Y:aF)(X:Fr)(Z:U):Prop:=aR (X 0) fun M a aA=>a0 .u32 (X 1) fun aS=>aR (X 7) fun bX b bY=>a0 .u64 (X 8) fun c=>bM.t Y M a aA aS bX b bY c Z
theorem bM.ok(Y:aF)(X:Fr)(Z:U)(g:bM.g Y X Z):den prog E (a6 aO [W,W,W,aJ]) (aV.then (a5.g Y) (bC E [.tmp 6] Y)) X Z:=
 bF g fun M a aA b g=>bJ g fun aS c g=>bF g fun bX d bY e g=>bJ g fun f h g=>c5 1 (r:=(a6 aO [W,W,W,aJ,W])) (by kernel_rfl) (hM.ok Y) (bV [(0,.slice M a aA),(1,.int .u32 aS),(7,.slice bX d bY),(8,.int .u64 f)] ⟨b,c,e,h,trivial⟩ (by kernel_rfl) g)
theorem hN.ok(Y:aF)(X:Fr)(Z:U)(g:bM.g Y X Z):den prog E (a6 aO [W,W,W]) (bC E [.tmp 6] Y) X Z:=
 fP (by kernel_rfl) (a5.ok Y) (bM.ok Y X Z g)
def aP.t(Y:aF)(M:S)(a aA:Nat)(aS b:Int)(Z:U):Prop:=
 bB (IntKind.i64.wrap ((((a:Nat):Int))+1)) fun eF=>
 iS Z 89 iW 0 eF fun e7 c=>
 bB (IntKind.u64.wrap b) fun b=>
 bM.t Y M a aA aS (some e7) ((0:Int).toNat) eF.toNat b c
def aP.g(Y:aF)(X:Fr)(Z:U):Prop:=aR (X 0) fun M a aA=>a0 .u32 (X 1) fun aS=>a0 .u32 (X 2) fun b=>aP.t Y M a aA aS b Z
theorem aP.ok(Y:aF)(X:Fr)(Z:U)(g:aP.g Y X Z):den prog E aO (bC E [.tmp 6] Y) X Z:=
 bF g fun M a aA b g=>bJ g fun aS c g=>bJ g fun d e g=>c5 3 (r:=(a6 aO [W,W,W])) (by kernel_rfl) (hN.ok Y) (bV [(0,.slice M a aA),(1,.int .u32 aS),(2,.int .u32 d)] ⟨b,c,e,trivial⟩ (by kernel_rfl) g)
def t(M:S)(a aA:Nat)(aS b:Int)(Z:U)(Y:aF):Prop:=aP.t Y M a aA aS b Z
theorem ok{M:S}{a:Nat}{aA:Nat}{aS:Int}{b:Int}{Z:U}{Y:aF}(g:t M a aA aS b Z Y):a4 id #[.slice M a aA,.int .u32 aS,.int .u32 b] Z Y:=
 eD dT (c:=aO) (dH:=[.tmp 6]) Tryz.func75 (by kernel_rfl) (by kernel_rfl) (by kernel_rfl) (args:=[.slice M a aA,.int .u32 aS,.int .u32 b]) (by kernel_rfl) (aP.ok Y _ Z (bL rfl (b0 rfl (b0 rfl (g)))))
end k9
namespace mJ
noncomputable def aO:Code:=dY Tryz.f76
def a5.t(Y:aF)(e7 a eH:Addr)(Z:U):Prop:=
 eT Z (e7.add 0) fun b=>
 dQ Z (e7.add 1) fun c d e=>
 eT Z (a.add 0) fun f=>
 dQ Z (a.add 1) fun a g h=>
 a4 pD.id #[.agg #[.bool b,.slice c d e],.agg #[.bool f,.slice a g h]] Z fun a b=>
 eQ a fun a=>
 fT a fun a c=>
 cU c fun c d e f=>
 b9 f <| cM b (eH.add 0) (.bool a) fun a=>
 cM a (eH.add 1) (.slice c d e) fun a=>
 eT a (eH.add 0) fun b=>
 dQ a (eH.add 1) fun c d e=>
 Y (.agg #[.bool b,.slice c d e]) a
def a5.g(Y:aF)(X:Fr)(Z:U):Prop:=gW (X 2) fun e7=>gW (X 3) fun a=>gW (X 4) fun eH=>a5.t Y e7 a eH Z
theorem a5.ok(Y:aF)(X:Fr)(Z:U)(g:a5.g Y X Z):den prog E (a6 aO [W,W]) (bC E [.cell 4 82] Y) X Z:=
 iE g fun e7 a g=>iE g fun b c g=>iE g fun eH d g=>bV [(2,.pointer (some e7)),(3,.pointer (some b)),(4,.pointer (some eH))] ⟨a,c,d,trivial⟩ (by kernel_rfl) g
def aP.t(Y:aF)(a:Bool)(b:S)(c d:Nat)(e:Bool)(f:S)(g h:Nat)(Z:U):Prop:=
 dX Z 82 [.bool a,.slice b c d] fun cQ a=>
 dX a 82 [.bool e,.slice f g h] fun a b=>
 dX b 82 iI.a9 fun b c=>
 eT c (a.add 0) fun d=>
 cond d (cQ.block < c.size∧eT c (cQ.add 0) fun d=>
 dQ c (cQ.add 1) fun e f g=>
 a4 nQ.id #[.agg #[.bool d,.slice e f g]] c fun d e=>
 eQ d fun d=>
 fT d fun d f=>
 cU f fun f g h i=>
 b9 i <| (e4 c.size c e)∧a.block < c.size∧eT e (a.add 0) fun i=>
 dQ e (a.add 1) fun j k l=>
 a4 nQ.id #[.agg #[.bool i,.slice j k l]] e fun i j=>
 eQ i fun i=>
 fT i fun i k=>
 cU k fun k l m n=>
 b9 n <| (e4 c.size e j)∧cM j (cQ.add 0) (.bool d) fun d=>
 cM d (cQ.add 1) (.slice f g h) fun d=>
 cM d (a.add 0) (.bool i) fun d=>
 cM d (a.add 1) (.slice k l m) fun d=>
 a5.t Y cQ a b d) (a5.t Y cQ a b c)
def aP.g(Y:aF)(X:Fr)(Z:U):Prop:=eQ (X 0) fun a=>cV a fun a b=>eU a fun a=>cV b fun b c=>aR b fun b d e=>b9 c <| eQ (X 1) fun c=>cV c fun c f=>eU c fun c=>cV f fun f h=>aR f fun f i j=>b9 h <| aP.t Y a b d e c f i j Z
theorem aP.ok(Y:aF)(X:Fr)(Z:U)(g:aP.g Y X Z):den prog E aO (bC E [.cell 4 82] Y) X Z:=by
 obtain⟨w,a,b⟩:=j4 g
 obtain⟨x,y,rfl,c⟩:=gG b
 obtain⟨d,rfl,e⟩:=jH c
 obtain⟨z,A,rfl,f⟩:=gG e
 obtain⟨h,i,j,rfl,k⟩:=b2 f
 obtain⟨rfl,g⟩:=iT k
 obtain⟨B,l,m⟩:=j4 g
 obtain⟨C,D,rfl,n⟩:=gG m
 obtain⟨o,rfl,p⟩:=jH n
 obtain⟨F,G,rfl,q⟩:=gG p
 obtain⟨s,t,u,rfl,v⟩:=b2 q
 obtain⟨rfl,g⟩:=iT v
 exact c5 2 (r:=(a6 aO [W,W])) (by kernel_rfl) (a5.ok Y) (bV [(0,.agg #[.bool d,.slice h i j]),(1,.agg #[.bool o,.slice s t u])] ⟨a,l,trivial⟩ (by kernel_rfl) g)
def t(a:Bool)(b:S)(c d:Nat)(e:Bool)(f:S)(g h:Nat)(Z:U)(Y:aF):Prop:=aP.t Y a b c d e f g h Z
theorem ok{a:Bool}{b:S}{d:Nat}{e:Nat}{f:Bool}{h:S}{i:Nat}{j:Nat}{Z:U}{Y:aF}(g:t a b d e f h i j Z Y):a4 id #[.agg #[.bool a,.slice b d e],.agg #[.bool f,.slice h i j]] Z Y:=
 eD dT (c:=aO) (dH:=[.cell 4 82]) Tryz.func76 (by kernel_rfl) (by kernel_rfl) (by kernel_rfl) (args:=[.agg #[.bool a,.slice b d e],.agg #[.bool f,.slice h i j]]) (by kernel_rfl) (aP.ok Y _ Z (fH rfl (cS (dB rfl (cS (bL rfl (eG (fH rfl (cS (dB rfl (cS (bL rfl (eG (g))))))))))))))
end mJ
namespace m3
noncomputable def aO:Code:=dY Tryz.f77
def a5.t(Y:aF)(aS:Int)(e7 eH a:Addr)(Z:U):Prop:=
 eT Z (e7.add 0) fun b=>
 cond b (dQ Z (e7.add 1) fun b c d=>
 a4 kG.id #[.slice b c d,.int .i64 aS] Z fun b c=>
 aR b fun b b d=>
 cond (decide ((((b:Nat):Int)) > 0)) (a.block < c.size∧eT c (a.add 0) fun b=>
 dQ c (a.add 1) fun d e f=>
 a4 oL.id #[.int .i64 1] c fun g h=>
 eQ g fun g=>
 fT g fun g i=>
 cU i fun i j k l=>
 b9 l <| (e4 c.size c h)∧a4 l0.id #[.agg #[.bool b,.slice d e f],.agg #[.bool g,.slice i j k]] h fun b d=>
 eQ b fun b=>
 fT b fun b e=>
 cU e fun e f g i=>
 b9 i <| (e4 c.size h d)∧cM d (eH.add 0) (.bool b) fun b=>
 cM b (eH.add 1) (.slice e f g) fun b=>
 eT b (eH.add 0) fun d=>
 dQ b (eH.add 1) fun e f g=>
 Y (.agg #[.bool d,.slice e f g]) b) (eT c (a.add 0) fun b=>
 dQ c (a.add 1) fun d e f=>
 cM c (eH.add 0) (.bool b) fun b=>
 cM b (eH.add 1) (.slice d e f) fun b=>
 eT b (eH.add 0) fun c=>
 dQ b (eH.add 1) fun d e f=>
 Y (.agg #[.bool c,.slice d e f]) b)) (eT Z (a.add 0) fun b=>
 dQ Z (a.add 1) fun a c d=>
 cM Z (eH.add 0) (.bool b) fun b=>
 cM b (eH.add 1) (.slice a c d) fun a=>
 eT a (eH.add 0) fun b=>
 dQ a (eH.add 1) fun c d e=>
 Y (.agg #[.bool b,.slice c d e]) a)
def a5.g(Y:aF)(X:Fr)(Z:U):Prop:=a0 .i64 (X 1) fun aS=>gW (X 2) fun e7=>gW (X 4) fun eH=>gW (X 5) fun a=>a5.t Y aS e7 eH a Z
theorem a5.ok(Y:aF)(X:Fr)(Z:U)(g:a5.g Y X Z):den prog E (a6 aO [W,W,W]) (bC E [.cell 4 82] Y) X Z:=
 bJ g fun aS a g=>iE g fun e7 b g=>iE g fun eH c g=>iE g fun d e g=>bV [(1,.int .i64 aS),(2,.pointer (some e7)),(4,.pointer (some eH)),(5,.pointer (some d))] ⟨a,b,c,e,trivial⟩ (by kernel_rfl) g
def aP.t(Y:aF)(a:Bool)(b:S)(c d:Nat)(aS:Int)(Z:U):Prop:=
 dX Z 82 [.bool a,.slice b c d] fun cQ a=>
 dX a 82 iI.a9 fun a b=>
 cond (decide (aS≤0)) (eT b (cQ.add 0) fun c=>
 dQ b (cQ.add 1) fun d e f=>
 a4 gE.id #[.bool c,.slice d e f] b fun c fV=>
 eQ c fun c=>
 fT c fun c d=>
 cU d fun d e f g=>
 b9 g <| cM fV (a.add 0) (.bool c) fun c=>
 cM c (a.add 1) (.slice d e f) fun c=>
 eT c (a.add 0) fun d=>
 dQ c (a.add 1) fun e f g=>
 Y (.agg #[.bool d,.slice e f g]) c) ((cQ.add 0).block < b.size∧eT b (cQ.add 0) fun c=>
 (cQ.add 1).block < b.size∧dQ b (cQ.add 1) fun d e f=>
 (a4 lK.id #[.slice d e f,.int .i64 aS] b fun g h=>
 aR g fun g i j=>
 (e4 b.size b h)∧(a4 gE.id #[.bool c,.slice g i j] h fun k l=>
 eQ k fun k=>
 fT k fun k m=>
 cU m fun m n o p=>
 b9 p <| (e4 b.size h l)∧dX l 82 iI.a9 fun p q=>
 (e4 b.size l q)∧cM q (p.add 0) (.bool k) fun k=>
 cM k (p.add 1) (.slice m n o) fun k=>
 a5.t Y aS cQ a p k)∧(dX h 82 iI.a9 fun k l=>
 (e4 b.size h l)∧a4 gE.id #[.bool c,.slice g i j] l fun g h=>
 eQ g fun g=>
 fT g fun g i=>
 cU i fun i j m n=>
 b9 n <| (e4 b.size l h)∧cM h (k.add 0) (.bool g) fun g=>
 cM g (k.add 1) (.slice i j m) fun g=>
 a5.t Y aS cQ a k g))∧(dX b 82 iI.a9 fun g h=>
 (e4 b.size b h)∧a4 lK.id #[.slice d e f,.int .i64 aS] h fun d e=>
 aR d fun d f i=>
 (e4 b.size h e)∧a4 gE.id #[.bool c,.slice d f i] e fun c d=>
 eQ c fun c=>
 fT c fun c f=>
 cU f fun f h i j=>
 b9 j <| (e4 b.size e d)∧cM d (g.add 0) (.bool c) fun b=>
 cM b (g.add 1) (.slice f h i) fun b=>
 a5.t Y aS cQ a g b))
def aP.g(Y:aF)(X:Fr)(Z:U):Prop:=eQ (X 0) fun a=>cV a fun a b=>eU a fun a=>cV b fun b c=>aR b fun b d e=>b9 c <| a0 .i64 (X 1) fun aS=>aP.t Y a b d e aS Z
theorem aP.ok(Y:aF)(X:Fr)(Z:U)(g:aP.g Y X Z):den prog E aO (bC E [.cell 4 82] Y) X Z:=by
 obtain⟨m,a,b⟩:=j4 g
 obtain⟨n,o,rfl,c⟩:=gG b
 obtain⟨d,rfl,e⟩:=jH c
 obtain⟨p,q,rfl,f⟩:=gG e
 obtain⟨h,i,j,rfl,k⟩:=b2 f
 obtain⟨rfl,g⟩:=iT k
 obtain⟨aS,l,g⟩:=bT g
 exact c5 3 (r:=(a6 aO [W,W,W])) (by kernel_rfl) (a5.ok Y) (bV [(0,.agg #[.bool d,.slice h i j]),(1,.int .i64 aS)] ⟨a,l,trivial⟩ (by kernel_rfl) g)
def t(a:Bool)(b:S)(c d:Nat)(aS:Int)(Z:U)(Y:aF):Prop:=aP.t Y a b c d aS Z
theorem ok{a:Bool}{b:S}{d:Nat}{e:Nat}{aS:Int}{Z:U}{Y:aF}(g:t a b d e aS Z Y):a4 id #[.agg #[.bool a,.slice b d e],.int .i64 aS] Z Y:=
 eD dT (c:=aO) (dH:=[.cell 4 82]) Tryz.func77 (by kernel_rfl) (by kernel_rfl) (by kernel_rfl) (args:=[.agg #[.bool a,.slice b d e],.int .i64 aS]) (by kernel_rfl) (aP.ok Y _ Z (fH rfl (cS (dB rfl (cS (bL rfl (eG (b0 rfl (g)))))))))
end m3
namespace l0
noncomputable def aO:Code:=dY Tryz.f78
def aP.t(Y:aF)(a:Bool)(b:S)(c d:Nat)(e:Bool)(f:S)(g h:Nat)(Z:U):Prop:=
 dX Z 82 [.bool a,.slice b c d] fun cQ a=>
 dX a 82 [.bool e,.slice f g h] fun a b=>
 dX b 82 iI.a9 fun b c=>
 cQ.block < c.size∧eT c (cQ.add 0) fun d=>
 dQ c (cQ.add 1) fun e f g=>
 a.block < c.size∧eT c (a.add 0) fun h=>
 dQ c (a.add 1) fun a i j=>
 a4 nQ.id #[.agg #[.bool h,.slice a i j]] c fun a h=>
 eQ a fun a=>
 fT a fun a i=>
 cU i fun i j k l=>
 b9 l <| (e4 c.size c h)∧a4 mI.id #[.agg #[.bool d,.slice e f g],.agg #[.bool a,.slice i j k]] h fun a d=>
 eQ a fun a=>
 fT a fun a e=>
 cU e fun e f g i=>
 b9 i <| (e4 c.size h d)∧cM d (b.add 0) (.bool a) fun a=>
 cM a (b.add 1) (.slice e f g) fun a=>
 eT a (b.add 0) fun c=>
 dQ a (b.add 1) fun b d e=>
 Y (.agg #[.bool c,.slice b d e]) a
def aP.g(Y:aF)(X:Fr)(Z:U):Prop:=eQ (X 0) fun a=>cV a fun a b=>eU a fun a=>cV b fun b c=>aR b fun b d e=>b9 c <| eQ (X 1) fun c=>cV c fun c f=>eU c fun c=>cV f fun f h=>aR f fun f i j=>b9 h <| aP.t Y a b d e c f i j Z
theorem aP.ok(Y:aF)(X:Fr)(Z:U)(g:aP.g Y X Z):den prog E aO (bC E [.cell 4 82] Y) X Z:=by
 obtain⟨v,a,b⟩:=j4 g
 obtain⟨w,x,rfl,c⟩:=gG b
 obtain⟨d,rfl,e⟩:=jH c
 obtain⟨y,z,rfl,f⟩:=gG e
 obtain⟨h,i,j,rfl,k⟩:=b2 f
 obtain⟨rfl,g⟩:=iT k
 obtain⟨A,l,m⟩:=j4 g
 obtain⟨B,C,rfl,n⟩:=gG m
 obtain⟨o,rfl,p⟩:=jH n
 obtain⟨D,F,rfl,q⟩:=gG p
 obtain⟨r,s,t,rfl,u⟩:=b2 q
 obtain⟨rfl,g⟩:=iT u
 exact bV [(0,.agg #[.bool d,.slice h i j]),(1,.agg #[.bool o,.slice r s t])] ⟨a,l,trivial⟩ (by kernel_rfl) g
def t(a:Bool)(b:S)(c d:Nat)(e:Bool)(f:S)(g h:Nat)(Z:U)(Y:aF):Prop:=aP.t Y a b c d e f g h Z
theorem ok{a:Bool}{b:S}{d:Nat}{e:Nat}{f:Bool}{h:S}{i:Nat}{j:Nat}{Z:U}{Y:aF}(g:t a b d e f h i j Z Y):a4 id #[.agg #[.bool a,.slice b d e],.agg #[.bool f,.slice h i j]] Z Y:=
 eD dT (c:=aO) (dH:=[.cell 4 82]) Tryz.func78 (by kernel_rfl) (by kernel_rfl) (by kernel_rfl) (args:=[.agg #[.bool a,.slice b d e],.agg #[.bool f,.slice h i j]]) (by kernel_rfl) (aP.ok Y _ Z (fH rfl (cS (dB rfl (cS (bL rfl (eG (fH rfl (cS (dB rfl (cS (bL rfl (eG (g))))))))))))))
end l0
namespace p0
noncomputable def aO:Code:=dY Tryz.f79
def aP.t(Y:aF)(a:Bool)(b:S)(c d:Nat)(e:Bool)(f:S)(g h:Nat)(Z:U):Prop:=
 dX Z 82 [.bool a,.slice b c d] fun cQ a=>
 dX a 82 [.bool e,.slice f g h] fun a b=>
 dX b 82 iI.a9 fun b c=>
 (cQ.add 0).block < c.size∧eT c (cQ.add 0) fun d=>
 (a.add 0).block < c.size∧eT c (a.add 0) fun e=>
 (cQ.add 1).block < c.size∧dQ c (cQ.add 1) fun f g h=>
 (a.add 1).block < c.size∧dQ c (a.add 1) fun a i j=>
 a4 hS.id #[.slice f g h,.slice a i j] c fun a f=>
 aR a fun a g h=>
 (e4 c.size c f)∧a4 gE.id #[.bool (!(d == e)),.slice a g h] f fun a d=>
 eQ a fun a=>
 fT a fun a e=>
 cU e fun e g h i=>
 b9 i <| (e4 c.size f d)∧cM d (b.add 0) (.bool a) fun a=>
 cM a (b.add 1) (.slice e g h) fun a=>
 eT a (b.add 0) fun c=>
 dQ a (b.add 1) fun b d e=>
 Y (.agg #[.bool c,.slice b d e]) a
def aP.g(Y:aF)(X:Fr)(Z:U):Prop:=eQ (X 0) fun a=>cV a fun a b=>eU a fun a=>cV b fun b c=>aR b fun b d e=>b9 c <| eQ (X 1) fun c=>cV c fun c f=>eU c fun c=>cV f fun f h=>aR f fun f i j=>b9 h <| aP.t Y a b d e c f i j Z
theorem aP.ok(Y:aF)(X:Fr)(Z:U)(g:aP.g Y X Z):den prog E aO (bC E [.cell 4 82] Y) X Z:=by
 obtain⟨v,a,b⟩:=j4 g
 obtain⟨w,x,rfl,c⟩:=gG b
 obtain⟨d,rfl,e⟩:=jH c
 obtain⟨y,z,rfl,f⟩:=gG e
 obtain⟨h,i,j,rfl,k⟩:=b2 f
 obtain⟨rfl,g⟩:=iT k
 obtain⟨A,l,m⟩:=j4 g
 obtain⟨B,C,rfl,n⟩:=gG m
 obtain⟨o,rfl,p⟩:=jH n
 obtain⟨D,F,rfl,q⟩:=gG p
 obtain⟨r,s,t,rfl,u⟩:=b2 q
 obtain⟨rfl,g⟩:=iT u
 exact bV [(0,.agg #[.bool d,.slice h i j]),(1,.agg #[.bool o,.slice r s t])] ⟨a,l,trivial⟩ (by kernel_rfl) g
def t(a:Bool)(b:S)(c d:Nat)(e:Bool)(f:S)(g h:Nat)(Z:U)(Y:aF):Prop:=aP.t Y a b c d e f g h Z
theorem ok{a:Bool}{b:S}{d:Nat}{e:Nat}{f:Bool}{h:S}{i:Nat}{j:Nat}{Z:U}{Y:aF}(g:t a b d e f h i j Z Y):a4 id #[.agg #[.bool a,.slice b d e],.agg #[.bool f,.slice h i j]] Z Y:=
 eD dT (c:=aO) (dH:=[.cell 4 82]) Tryz.func79 (by kernel_rfl) (by kernel_rfl) (by kernel_rfl) (args:=[.agg #[.bool a,.slice b d e],.agg #[.bool f,.slice h i j]]) (by kernel_rfl) (aP.ok Y _ Z (fH rfl (cS (dB rfl (cS (bL rfl (eG (fH rfl (cS (dB rfl (cS (bL rfl (eG (g))))))))))))))
end p0
namespace j9
noncomputable def aO:Code:=dY Tryz.f80
def a5.t(Y:aF)(bG:S)(a bI:Nat)(b:Int)(Z:U):Prop:=
 a4 g6.id #[.slice bG a bI] Z fun a c=>
 aR a fun a d e=>
 bB (IntKind.u32.wrap b) fun b=>
 Y (.tuple #[.slice a d e,.int .u32 b]) c
def a5.g(Y:aF)(X:Fr)(Z:U):Prop:=aR (X 6) fun bG a bI=>a0 .u64 (X 7) fun b=>a5.t Y bG a bI b Z
theorem a5.ok(Y:aF)(X:Fr)(Z:U)(g:a5.g Y X Z):den prog E (a6 aO [W,W,W,W,W]) (bC E [.tmp 4,.tmp 5] Y) X Z:=
 bF g fun bG a bI b g=>bJ g fun c d g=>bV [(6,.slice bG a bI),(7,.int .u64 c)] ⟨b,d,trivial⟩ (by kernel_rfl) g
def bU.g(bP:S→Nat→Nat→Int→S→Nat→Nat→Int→Int→U→Prop)(X:Fr)(Z:U):Prop:=aR (X 0) fun M a aA=>a0 .u32 (X 1) fun aS=>aR (X 6) fun bG b bI=>a0 .u64 (X 7) fun c=>a0 .i64 (X 8) fun d=>bP M a aA aS bG b bI c d Z
def cH.t(Y:aF)(a:S→Nat→Nat→Int→S→Nat→Nat→Int→Int→U→Prop)(M:S)(b aA:Nat)(aS:Int)(bG:S)(c bI:Nat)(d e:Int)(Z:U):Prop:=
 cond (decide (e≥0)) (0≤(32:Int)∧bB (iQ .u64 d 32) fun f=>
 c6 M b e 1 fun g=>
 eO Z .u32 g fun g=>
 bB (IntKind.u64.wrap g) fun g=>
 bB (IntKind.u64.wrap (f+g)) fun f=>
 bB (IntKind.u64.wrap aS) fun g=>
 g ≠ 0∧bB (IntKind.u64.wrap (Int.tdiv f g)) fun g=>
 bB (IntKind.u32.wrap g) fun g=>
 c6 bG c e 1 fun h=>
 cM Z h (.int .u32 g) fun g=>
 bB (IntKind.u64.wrap aS) fun h=>
 h ≠ 0∧bB (Int.tmod f h) fun f=>
 bB (IntKind.i64.wrap (e - 1)) fun e=>
 a M b aA aS bG c bI f e g) (a5.t Y bG c bI d Z)
def cH.g(Y:aF)(a:S→Nat→Nat→Int→S→Nat→Nat→Int→Int→U→Prop)(X:Fr)(Z:U):Prop:=aR (X 0) fun M b aA=>a0 .u32 (X 1) fun aS=>aR (X 6) fun bG c bI=>a0 .u64 (X 7) fun d=>a0 .i64 (X 8) fun e=>cH.t Y a M b aA aS bG c bI d e Z
theorem cH.ok(Y:aF)(a:S→Nat→Nat→Int→S→Nat→Nat→Int→Int→U→Prop)(X:Fr)(Z:U)(g:cH.g Y a X Z):den prog E (a6 aO [W,W,W,W,aJ,W,aJ,aJ]) (aV.then (bU.g a) (aV.inBlock 0 (aV.then (a5.g Y) (bC E [.tmp 4,.tmp 5] Y)))) X Z:=
 bF g fun M a aA b g=>bJ g fun aS c g=>bF g fun bG d bI e g=>bJ g fun f h g=>bJ g fun i j g=>bV [(0,.slice M a aA),(1,.int .u32 aS),(6,.slice bG d bI),(7,.int .u64 f),(8,.int .i64 i)] ⟨b,c,e,h,j,trivial⟩ (by kernel_rfl) g
def bU.t(Y:aF):Nat→S→Nat→Nat→Int→S→Nat→Nat→Int→Int→U→Prop
 | 0=>fun _ _ _ _ _ _ _ _ _ _=>False
 | n+1=>fun M a aA aS bG b bI c d Z=>cH.t Y (bU.t Y n) M a aA aS bG b bI c d Z
theorem bU.ok(Y:aF)(X:Fr)(Z:U)(g:bU.g (fun M a aA aS bG b bI c d Z=>∃ n,bU.t Y n M a aA aS bG b bI c d Z) X Z):den prog E (a6 aO [W,W,W,W,aJ,W,aJ]) (aV.inBlock 0 (aV.then (a5.g Y) (bC E [.tmp 4,.tmp 5] Y))) X Z:=by
 obtain⟨M,a,aA,e,g⟩:=b2 g
 obtain⟨aS,f,g⟩:=bT g
 obtain⟨bG,b,bI,h,g⟩:=b2 g
 obtain⟨c,i,g⟩:=bT g
 obtain⟨d,j,g⟩:=bT g
 obtain⟨n,g⟩:=g
 refine fF (fun n=>bU.g (bU.t Y n)) (K:=(a6 aO [W,W,W,W,aJ,W,aJ,aJ])) (by kernel_rfl) (fun X Z g=>?_) (fun n=>cH.ok Y (bU.t Y n)) n X Z (bL e (b0 f (bL h (b0 i (b0 j (g))))))
 obtain⟨M,a,aA,e,g⟩:=b2 g
 obtain⟨aS,f,g⟩:=bT g
 obtain⟨bG,b,bI,h,g⟩:=b2 g
 obtain⟨c,i,g⟩:=bT g
 obtain⟨d,j,g⟩:=bT g
 exact g
theorem hM.ok(Y:aF)(X:Fr)(Z:U)(g:bU.g (fun M a aA aS bG b bI c d Z=>∃ n,bU.t Y n M a aA aS bG b bI c d Z) X Z):den prog E (a6 aO [W,W,W,W,aJ,W]) (aV.then (a5.g Y) (bC E [.tmp 4,.tmp 5] Y)) X Z:=
 e3 (by kernel_rfl) (bU.ok Y X Z g)
def bM.t(Y:aF)(M:S)(a aA:Nat)(aS:Int)(bG:S)(b bI:Nat)(c:Int)(Z:U):Prop:=
 bB (IntKind.i64.wrap ((((a:Nat):Int)) - 1)) fun d=>(∃ n,bU.t Y n M a aA aS bG b bI c d Z)
def bM.g(Y:aF)(X:Fr)(Z:U):Prop:=aR (X 0) fun M a aA=>a0 .u32 (X 1) fun aS=>aR (X 6) fun bG b bI=>a0 .u64 (X 7) fun c=>bM.t Y M a aA aS bG b bI c Z
theorem bM.ok(Y:aF)(X:Fr)(Z:U)(g:bM.g Y X Z):den prog E (a6 aO [W,W,W,W,aJ]) (aV.then (a5.g Y) (bC E [.tmp 4,.tmp 5] Y)) X Z:=
 bF g fun M a aA b g=>bJ g fun aS c g=>bF g fun bG d bI e g=>bJ g fun f h g=>c5 1 (r:=(a6 aO [W,W,W,W,aJ,W])) (by kernel_rfl) (hM.ok Y) (bV [(0,.slice M a aA),(1,.int .u32 aS),(6,.slice bG d bI),(7,.int .u64 f)] ⟨b,c,e,h,trivial⟩ (by kernel_rfl) g)
theorem hN.ok(Y:aF)(X:Fr)(Z:U)(g:bM.g Y X Z):den prog E (a6 aO [W,W,W,W]) (bC E [.tmp 4,.tmp 5] Y) X Z:=
 fP (by kernel_rfl) (a5.ok Y) (bM.ok Y X Z g)
def aP.t(Y:aF)(M:S)(a aA:Nat)(aS:Int)(Z:U):Prop:=
 cond (aS == 0) (a4 gN.id #[.int .u64 0] Z fun b c=>
 aR b fun b d e=>
 Y (.tuple #[.slice b d e,.int .u32 0]) c) (iS Z 89 iW (((a:Nat):Int)) (((a:Nat):Int)) fun eH b=>
 bM.t Y M a aA aS (some eH) ((((a:Nat):Int)).toNat) ((((a:Nat):Int)).toNat) 0 b)
def aP.g(Y:aF)(X:Fr)(Z:U):Prop:=aR (X 0) fun M a aA=>a0 .u32 (X 1) fun aS=>aP.t Y M a aA aS Z
theorem aP.ok(Y:aF)(X:Fr)(Z:U)(g:aP.g Y X Z):den prog E aO (bC E [.tmp 4,.tmp 5] Y) X Z:=
 bF g fun M a aA b g=>bJ g fun aS c g=>c5 4 (r:=(a6 aO [W,W,W,W])) (by kernel_rfl) (hN.ok Y) (bV [(0,.slice M a aA),(1,.int .u32 aS)] ⟨b,c,trivial⟩ (by kernel_rfl) g)
def t(M:S)(a aA:Nat)(aS:Int)(Z:U)(Y:aF):Prop:=aP.t Y M a aA aS Z
theorem ok{M:S}{a:Nat}{aA:Nat}{aS:Int}{Z:U}{Y:aF}(g:t M a aA aS Z Y):a4 id #[.slice M a aA,.int .u32 aS] Z Y:=
 eD dT (c:=aO) (dH:=[.tmp 4,.tmp 5]) Tryz.func80 (by kernel_rfl) (by kernel_rfl) (by kernel_rfl) (args:=[.slice M a aA,.int .u32 aS]) (by kernel_rfl) (aP.ok Y _ Z (bL rfl (b0 rfl (g))))
end j9
namespace m4
noncomputable def aO:Code:=dY Tryz.f81
def a5.t(Y:aF)(b6:S)(a b7:Nat)(b:S)(c d:Nat)(e:Int)(Z:U):Prop:=
 a4 hE.id #[.slice b6 a b7,.slice b c d] Z fun a b=>
 aR a fun a c d=>
 Y (.tuple #[.slice a c d,.int .i64 e]) b
def a5.g(Y:aF)(X:Fr)(Z:U):Prop:=aR (X 8) fun b6 a b7=>aR (X 9) fun b c d=>a0 .i64 (X 10) fun e=>a5.t Y b6 a b7 b c d e Z
theorem a5.ok(Y:aF)(X:Fr)(Z:U)(g:a5.g Y X Z):den prog E (a6 aO [W,W,W,W,W]) (bC E [.tmp 4,.tmp 5] Y) X Z:=
 bF g fun b6 a b7 b g=>bF g fun c d e f g=>bJ g fun h i g=>bV [(8,.slice b6 a b7),(9,.slice c d e),(10,.int .i64 h)] ⟨b,f,i,trivial⟩ (by kernel_rfl) g
def bU.g(bP:Int→S→Nat→Nat→S→Nat→Nat→S→Nat→Nat→Int→Int→U→Prop)(X:Fr)(Z:U):Prop:=a0 .u32 (X 0) fun aY=>aR (X 6) fun bG a bI=>aR (X 8) fun b6 b b7=>aR (X 9) fun c d e=>a0 .i64 (X 10) fun f=>a0 .u32 (X 11) fun h=>bP aY bG a bI b6 b b7 c d e f h Z
def cH.t(Y:aF)(a:Int→S→Nat→Nat→S→Nat→Nat→S→Nat→Nat→Int→Int→U→Prop)(aY:Int)(bG:S)(b bI:Nat)(b6:S)(c b7:Nat)(d:S)(e f:Nat)(g h:Int)(Z:U):Prop:=
 cond (decide ((((b:Nat):Int)) > 0)) (a4 j9.id #[.slice bG b bI,.int .u32 h] Z fun i j=>
 cW i fun i=>
 cU i fun i k l m=>
 dP m .u32 fun m m=>
 b9 m <| (4:Int) ≠ 0∧bB (Int.tmod h 4) fun m=>
 cond (m == 1) (a4 g0.id #[.slice b6 c b7,.slice i k l] j fun m n=>
 aR m fun m o p=>
 a4 j9.id #[.slice bG b bI,.int .u32 aY] n fun n q=>
 cW n fun n=>
 cU n fun n r s u=>
 dP u .u32 fun u u=>
 b9 u <| a4 j9.id #[.slice n r s,.int .u32 aY] q fun n q=>
 cW n fun n=>
 cU n fun n r s u=>
 dP u .u32 fun u u=>
 b9 u <| bB (IntKind.i64.wrap (g+1)) fun u=>
 bB (IntKind.u32.wrap (h+2)) fun v=>
 a aY n r s m o p d e f u v q) (a4 g0.id #[.slice d e f,.slice i k l] j fun i j=>
 aR i fun i k l=>
 a4 j9.id #[.slice bG b bI,.int .u32 aY] j fun b j=>
 cW b fun b=>
 cU b fun b m n o=>
 dP o .u32 fun o o=>
 b9 o <| a4 j9.id #[.slice b m n,.int .u32 aY] j fun b j=>
 cW b fun b=>
 cU b fun b m n o=>
 dP o .u32 fun o o=>
 b9 o <| bB (IntKind.i64.wrap (g+1)) fun o=>
 bB (IntKind.u32.wrap (h+2)) fun h=>
 a aY b m n b6 c b7 i k l o h j)) (a5.t Y b6 c b7 d e f g Z)
def cH.g(Y:aF)(a:Int→S→Nat→Nat→S→Nat→Nat→S→Nat→Nat→Int→Int→U→Prop)(X:Fr)(Z:U):Prop:=a0 .u32 (X 0) fun aY=>aR (X 6) fun bG b bI=>aR (X 8) fun b6 c b7=>aR (X 9) fun d e f=>a0 .i64 (X 10) fun h=>a0 .u32 (X 11) fun i=>cH.t Y a aY bG b bI b6 c b7 d e f h i Z
theorem cH.ok(Y:aF)(a:Int→S→Nat→Nat→S→Nat→Nat→S→Nat→Nat→Int→Int→U→Prop)(X:Fr)(Z:U)(g:cH.g Y a X Z):den prog E (a6 aO [W,W,W,W,aJ,W,aJ,aJ]) (aV.then (bU.g a) (aV.inBlock 0 (aV.then (a5.g Y) (bC E [.tmp 4,.tmp 5] Y)))) X Z:=
 bJ g fun aY a g=>bF g fun bG b bI c g=>bF g fun b6 d b7 e g=>bF g fun f h i j g=>bJ g fun k l g=>bJ g fun m n g=>bV [(0,.int .u32 aY),(6,.slice bG b bI),(8,.slice b6 d b7),(9,.slice f h i),(10,.int .i64 k),(11,.int .u32 m)] ⟨a,c,e,j,l,n,trivial⟩ (by kernel_rfl) g
def bU.t(Y:aF):Nat→Int→S→Nat→Nat→S→Nat→Nat→S→Nat→Nat→Int→Int→U→Prop
 | 0=>fun _ _ _ _ _ _ _ _ _ _ _ _ _=>False
 | n+1=>fun aY bG a bI b6 b b7 c d e f g Z=>cH.t Y (bU.t Y n) aY bG a bI b6 b b7 c d e f g Z
theorem bU.ok(Y:aF)(X:Fr)(Z:U)(g:bU.g (fun aY bG a bI b6 b b7 c d e f h Z=>∃ n,bU.t Y n aY bG a bI b6 b b7 c d e f h Z) X Z):den prog E (a6 aO [W,W,W,W,aJ,W,aJ]) (aV.inBlock 0 (aV.then (a5.g Y) (bC E [.tmp 4,.tmp 5] Y))) X Z:=by
 obtain⟨aY,i,g⟩:=bT g
 obtain⟨bG,a,bI,j,g⟩:=b2 g
 obtain⟨b6,b,b7,k,g⟩:=b2 g
 obtain⟨c,d,e,l,g⟩:=b2 g
 obtain⟨f,m,g⟩:=bT g
 obtain⟨h,o,g⟩:=bT g
 obtain⟨n,g⟩:=g
 refine fF (fun n=>bU.g (bU.t Y n)) (K:=(a6 aO [W,W,W,W,aJ,W,aJ,aJ])) (by kernel_rfl) (fun X Z g=>?_) (fun n=>cH.ok Y (bU.t Y n)) n X Z (b0 i (bL j (bL k (bL l (b0 m (b0 o (g)))))))
 obtain⟨aY,i,g⟩:=bT g
 obtain⟨bG,a,bI,j,g⟩:=b2 g
 obtain⟨b6,b,b7,k,g⟩:=b2 g
 obtain⟨c,d,e,l,g⟩:=b2 g
 obtain⟨f,m,g⟩:=bT g
 obtain⟨h,o,g⟩:=bT g
 exact g
theorem hM.ok(Y:aF)(X:Fr)(Z:U)(g:bU.g (fun aY bG a bI b6 b b7 c d e f h Z=>∃ n,bU.t Y n aY bG a bI b6 b b7 c d e f h Z) X Z):den prog E (a6 aO [W,W,W,W,aJ,W]) (aV.then (a5.g Y) (bC E [.tmp 4,.tmp 5] Y)) X Z:=
 e3 (by kernel_rfl) (bU.ok Y X Z g)
def bM.t(Y:aF)(aY:Int)(bG:S)(a bI:Nat)(b6:S)(b b7:Nat)(c:S)(d e:Nat)(f:Int)(Z:U):Prop:=
 (∃ n,bU.t Y n aY bG a bI b6 b b7 c d e f 1 Z)
def bM.g(Y:aF)(X:Fr)(Z:U):Prop:=a0 .u32 (X 0) fun aY=>aR (X 6) fun bG a bI=>aR (X 8) fun b6 b b7=>aR (X 9) fun c d e=>a0 .i64 (X 10) fun f=>bM.t Y aY bG a bI b6 b b7 c d e f Z
theorem bM.ok(Y:aF)(X:Fr)(Z:U)(g:bM.g Y X Z):den prog E (a6 aO [W,W,W,W,aJ]) (aV.then (a5.g Y) (bC E [.tmp 4,.tmp 5] Y)) X Z:=
 bJ g fun aY a g=>bF g fun bG b bI c g=>bF g fun b6 d b7 e g=>bF g fun f h i j g=>bJ g fun k l g=>c5 1 (r:=(a6 aO [W,W,W,W,aJ,W])) (by kernel_rfl) (hM.ok Y) (bV [(0,.int .u32 aY),(6,.slice bG b bI),(8,.slice b6 d b7),(9,.slice f h i),(10,.int .i64 k)] ⟨a,c,e,j,l,trivial⟩ (by kernel_rfl) g)
theorem hN.ok(Y:aF)(X:Fr)(Z:U)(g:bM.g Y X Z):den prog E (a6 aO [W,W,W,W]) (bC E [.tmp 4,.tmp 5] Y) X Z:=
 fP (by kernel_rfl) (a5.ok Y) (bM.ok Y X Z g)
def aP.t(Y:aF)(aY aS:Int)(Z:U):Prop:=
 a4 oO.id #[.int .i64 aS] Z fun a b=>
 aR a fun a c d=>
 a4 j9.id #[.slice a c d,.int .u32 aY] b fun a b=>
 cW a fun a=>
 cU a fun a c d e=>
 dP e .u32 fun e e=>
 b9 e <| a4 gN.id #[.int .u64 0] b fun b e=>
 aR b fun b f g=>
 a4 gN.id #[.int .u64 0] e fun e h=>
 aR e fun e i j=>
 bM.t Y aY a c d b f g e i j 0 h
def aP.g(Y:aF)(X:Fr)(Z:U):Prop:=a0 .u32 (X 0) fun aY=>a0 .i64 (X 1) fun aS=>aP.t Y aY aS Z
theorem aP.ok(Y:aF)(X:Fr)(Z:U)(g:aP.g Y X Z):den prog E aO (bC E [.tmp 4,.tmp 5] Y) X Z:=
 bJ g fun aY a g=>bJ g fun aS b g=>c5 4 (r:=(a6 aO [W,W,W,W])) (by kernel_rfl) (hN.ok Y) (bV [(0,.int .u32 aY),(1,.int .i64 aS)] ⟨a,b,trivial⟩ (by kernel_rfl) g)
def t(aY aS:Int)(Z:U)(Y:aF):Prop:=aP.t Y aY aS Z
theorem ok{aY:Int}{aS:Int}{Z:U}{Y:aF}(g:t aY aS Z Y):a4 id #[.int .u32 aY,.int .i64 aS] Z Y:=
 eD dT (c:=aO) (dH:=[.tmp 4,.tmp 5]) Tryz.func81 (by kernel_rfl) (by kernel_rfl) (by kernel_rfl) (args:=[.int .u32 aY,.int .i64 aS]) (by kernel_rfl) (aP.ok Y _ Z (b0 rfl (b0 rfl (g))))
end m4
namespace vR
noncomputable def aO:Code:=dY Tryz.f82
def aP.t(Y:aF)(aY:Int)(Z:U):Prop:=
 cond (decide (aY < 0)) (a4 gN.id #[.int .u64 0] Z fun a b=>
 aR a fun a c d=>
 Y (.slice a c d) b) (bB (IntKind.u64.wrap aY) fun a=>
 a4 gN.id #[.int .u64 a] Z fun a b=>
 aR a fun a c d=>
 Y (.slice a c d) b)
def aP.g(Y:aF)(X:Fr)(Z:U):Prop:=a0 .i64 (X 0) fun aY=>aP.t Y aY Z
theorem aP.ok(Y:aF)(X:Fr)(Z:U)(g:aP.g Y X Z):den prog E aO (bC E [.tmp 2] Y) X Z:=
 bJ g fun aY a g=>bV [(0,.int .i64 aY)] ⟨a,trivial⟩ (by kernel_rfl) g
def t(aY:Int)(Z:U)(Y:aF):Prop:=aP.t Y aY Z
theorem ok{aY:Int}{Z:U}{Y:aF}(g:t aY Z Y):a4 id #[.int .i64 aY] Z Y:=
 eD dT (c:=aO) (dH:=[.tmp 2]) Tryz.func82 (by kernel_rfl) (by kernel_rfl) (by kernel_rfl) (args:=[.int .i64 aY]) (by kernel_rfl) (aP.ok Y _ Z (b0 rfl (g)))
end vR
namespace k4
noncomputable def aO:Code:=dY Tryz.f85
def aP.t(Y:aF)(M:S)(a aA:Nat)(Z:U):Prop:=
 cond (decide ((((a:Nat):Int))≤8192)) (cond ((((a:Nat):Int)) == 0) (Y (.bool true) Z) (bB (IntKind.i64.wrap ((((a:Nat):Int)) - 1)) fun eF=>
 c6 M a eF 1 fun e7=>
 eO Z .u64 e7 fun a=>
 Y (.bool (a != 0)) Z)) (Y (.bool false) Z)
def aP.g(Y:aF)(X:Fr)(Z:U):Prop:=aR (X 0) fun M a aA=>aP.t Y M a aA Z
theorem aP.ok(Y:aF)(X:Fr)(Z:U)(g:aP.g Y X Z):den prog E aO (bC E [.tmp 2] Y) X Z:=
 bF g fun M a aA b g=>bV [(0,.slice M a aA)] ⟨b,trivial⟩ (by kernel_rfl) g
def t(M:S)(a aA:Nat)(Z:U)(Y:aF):Prop:=aP.t Y M a aA Z
theorem ok{M:S}{a:Nat}{aA:Nat}{Z:U}{Y:aF}(g:t M a aA Z Y):a4 id #[.slice M a aA] Z Y:=
 eD dT (c:=aO) (dH:=[.tmp 2]) Tryz.func85 (by kernel_rfl) (by kernel_rfl) (by kernel_rfl) (args:=[.slice M a aA]) (by kernel_rfl) (aP.ok Y _ Z (bL rfl (g)))
end k4
namespace rO
noncomputable def aO:Code:=dY Tryz.f86
def aP.t(Y:aF)(aY aS:Int)(Z:U):Prop:=
 bB (j1 .u64 aY 4294967295) fun eF=>
 0≤(32:Int)∧bB (hG .u64 aY 32) fun a=>
 bB (j1 .u64 aS 4294967295) fun b=>
 0≤(32:Int)∧bB (hG .u64 aS 32) fun c=>
 bB (IntKind.u64.wrap (eF*b)) fun d=>
 bB (IntKind.u64.wrap (a*b)) fun b=>
 0≤(32:Int)∧bB (hG .u64 d 32) fun d=>
 bB (IntKind.u64.wrap (b+d)) fun b=>
 bB (j1 .u64 b 4294967295) fun d=>
 0≤(32:Int)∧bB (hG .u64 b 32) fun b=>
 bB (IntKind.u64.wrap (eF*c)) fun e=>
 bB (IntKind.u64.wrap (d+e)) fun d=>
 bB (IntKind.u64.wrap (a*c)) fun a=>
 bB (IntKind.u64.wrap (a+b)) fun a=>
 0≤(32:Int)∧bB (hG .u64 d 32) fun b=>
 bB (IntKind.u64.wrap (a+b)) fun a=>
 bB (IntKind.u64.wrap (aY*aS)) fun b=>
 Y (.tuple #[.int .u64 a,.int .u64 b]) Z
def aP.g(Y:aF)(X:Fr)(Z:U):Prop:=a0 .u64 (X 0) fun aY=>a0 .u64 (X 1) fun aS=>aP.t Y aY aS Z
theorem aP.ok(Y:aF)(X:Fr)(Z:U)(g:aP.g Y X Z):den prog E aO (bC E [.tmp 4,.tmp 5] Y) X Z:=
 bJ g fun aY a g=>bJ g fun aS b g=>bV [(0,.int .u64 aY),(1,.int .u64 aS)] ⟨a,b,trivial⟩ (by kernel_rfl) g
def t(aY aS:Int)(Z:U)(Y:aF):Prop:=aP.t Y aY aS Z
theorem ok{aY:Int}{aS:Int}{Z:U}{Y:aF}(g:t aY aS Z Y):a4 id #[.int .u64 aY,.int .u64 aS] Z Y:=
 eD dT (c:=aO) (dH:=[.tmp 4,.tmp 5]) Tryz.func86 (by kernel_rfl) (by kernel_rfl) (by kernel_rfl) (args:=[.int .u64 aY,.int .u64 aS]) (by kernel_rfl) (aP.ok Y _ Z (b0 rfl (b0 rfl (g))))
end rO
namespace oB
noncomputable def aO:Code:=dY Tryz.f88
def aP.t(Y:aF)(M:S)(a aA:Nat)(Z:U):Prop:=
 a4 mW.id #[.slice M a aA] Z fun a b=>
 aR a fun a c d=>
 cond (decide ((((c:Nat):Int)) > 8192)) (Y (.tuple #[.slice none 0 0,.int .i64 5]) b) (Y (.tuple #[.slice a c d,.int .i64 0]) b)
def aP.g(Y:aF)(X:Fr)(Z:U):Prop:=aR (X 0) fun M a aA=>aP.t Y M a aA Z
theorem aP.ok(Y:aF)(X:Fr)(Z:U)(g:aP.g Y X Z):den prog E aO (bC E [.tmp 2,.tmp 3] Y) X Z:=
 bF g fun M a aA b g=>bV [(0,.slice M a aA)] ⟨b,trivial⟩ (by kernel_rfl) g
def t(M:S)(a aA:Nat)(Z:U)(Y:aF):Prop:=aP.t Y M a aA Z
theorem ok{M:S}{a:Nat}{aA:Nat}{Z:U}{Y:aF}(g:t M a aA Z Y):a4 id #[.slice M a aA] Z Y:=
 eD dT (c:=aO) (dH:=[.tmp 2,.tmp 3]) Tryz.func88 (by kernel_rfl) (by kernel_rfl) (by kernel_rfl) (args:=[.slice M a aA]) (by kernel_rfl) (aP.ok Y _ Z (bL rfl (g)))
end oB
namespace tC
noncomputable def aO:Code:=dY Tryz.f89
def aP.t(Y:aF)(aY:Int)(Z:U):Prop:=
 a4 nT.id #[.int .u64 5,.int .i64 aY] Z fun a b=>
 cW a fun a=>
 cU a fun a c d e=>
 dP e .u64 fun e f=>
 b9 f <| a4 nT.id #[.int .u64 239,.int .i64 aY] b fun b f=>
 cW b fun b=>
 cU b fun b g h i=>
 dP i .u64 fun i j=>
 b9 j <| a4 kI.id #[.slice a c d,.int .u64 16] f fun a c=>
 cW a fun a=>
 cU a fun a d f j=>
 dP j .i64 fun j j=>
 b9 j <| a4 kI.id #[.slice b g h,.int .u64 4] c fun b c=>
 cW b fun b=>
 cU b fun b g h j=>
 dP j .i64 fun j j=>
 b9 j <| a4 kH.id #[.slice a d f,.slice b g h] c fun a b=>
 cW a fun a=>
 cU a fun a c d f=>
 dP f .i64 fun f f=>
 b9 f <| bB (IntKind.u64.wrap (16*e)) fun e=>
 bB (IntKind.u64.wrap (4*i)) fun f=>
 bB (IntKind.u64.wrap (e+f)) fun e=>
 a4 vP.id #[.slice a c d,.int .u64 e] b fun a b=>
 cW a fun a=>
 cU a fun a c d e=>
 cU e fun e f g h=>
 b9 h <| Y (.tuple #[.slice a c d,.slice e f g]) b
def aP.g(Y:aF)(X:Fr)(Z:U):Prop:=a0 .i64 (X 0) fun aY=>aP.t Y aY Z
theorem aP.ok(Y:aF)(X:Fr)(Z:U)(g:aP.g Y X Z):den prog E aO (bC E [.tmp 2,.tmp 3] Y) X Z:=
 bJ g fun aY a g=>bV [(0,.int .i64 aY)] ⟨a,trivial⟩ (by kernel_rfl) g
def t(aY:Int)(Z:U)(Y:aF):Prop:=aP.t Y aY Z
theorem ok{aY:Int}{Z:U}{Y:aF}(g:t aY Z Y):a4 id #[.int .i64 aY] Z Y:=
 eD dT (c:=aO) (dH:=[.tmp 2,.tmp 3]) Tryz.func89 (by kernel_rfl) (by kernel_rfl) (by kernel_rfl) (args:=[.int .i64 aY]) (by kernel_rfl) (aP.ok Y _ Z (b0 rfl (g)))
end tC
namespace nP
noncomputable def aO:Code:=dY Tryz.f90
def a5.t(Y:aF)(M:S)(a aA:Nat)(aM:S)(aL aK:Nat)(Z:U):Prop:=
 cond ((((aL:Nat):Int)) == 0) (Y (.tuple #[.slice none 0 0,.slice none 0 0,.int .i64 4]) Z) (a4 jO.id #[.slice M a aA,.slice aM aL aK] Z fun b c=>
 a0 .i64 b fun b=>
 cond (decide (b < 0)) (a4 rK.id #[.slice M a aA] c fun b d=>
 cW b fun b=>
 cU b fun b e f g=>
 dP g .i64 fun g g=>
 b9 g <| Y (.tuple #[.slice none 0 0,.slice b e f,.int .i64 0]) d) (cond ((((aL:Nat):Int)) == 1) (c6 aM aL 0 1 fun b=>
 eO c .u64 b fun b=>
 a4 kW.id #[.slice M a aA,.int .u64 b] c fun b d=>
 cW b fun b=>
 cU b fun b e f g=>
 dP g .u64 fun g h=>
 dP h .i64 fun h h=>
 b9 h <| a4 kV.id #[.int .u64 g] d fun d g=>
 aR d fun d h i=>
 Y (.tuple #[.slice b e f,.slice d h i,.int .i64 0]) g) (bB (IntKind.i64.wrap ((((aL:Nat):Int)) - 1)) fun b=>
 c6 aM aL b 1 fun b=>
 eO c .u64 b fun b=>
 a4 s0.id #[.int .u64 b] c fun b c=>
 a0 .i64 b fun b=>
 bB (IntKind.i64.wrap ((((a:Nat):Int))+1)) fun d=>
 a4 mZ.id #[.slice M a aA,.int .i64 b,.int .i64 d] c fun a c=>
 aR a fun a d e=>
 a4 mZ.id #[.slice aM aL aK,.int .i64 b,.int .i64 (((aL:Nat):Int))] c fun c f=>
 aR c fun c g h=>
 a4 jQ.id #[.slice a d e,.slice c g h] f fun c f=>
 aR c fun c h i=>
 iR 1 a d e none (some (.int .i64 (((g:Nat):Int)))) none fun a d e=>
 a4 rK.id #[.slice a d e] f fun a d=>
 cW a fun a=>
 cU a fun a e f g=>
 dP g .i64 fun g g=>
 b9 g <| a4 lM.id #[.slice a e f,.int .i64 b] d fun a b=>
 cW a fun a=>
 cU a fun a d e f=>
 dP f .i64 fun f f=>
 b9 f <| a4 rK.id #[.slice c h i] b fun b c=>
 cW b fun b=>
 cU b fun b f g h=>
 dP h .i64 fun h h=>
 b9 h <| Y (.tuple #[.slice b f g,.slice a d e,.int .i64 0]) c)))
def a5.g(Y:aF)(X:Fr)(Z:U):Prop:=aR (X 0) fun M a aA=>aR (X 1) fun aM aL aK=>a5.t Y M a aA aM aL aK Z
theorem a5.ok(Y:aF)(X:Fr)(Z:U)(g:a5.g Y X Z):den prog E (a6 aO [W,W]) (bC E [.tmp 4,.tmp 5,.tmp 6] Y) X Z:=
 bF g fun M a aA b g=>bF g fun aM aL aK c g=>bV [(0,.slice M a aA),(1,.slice aM aL aK)] ⟨b,c,trivial⟩ (by kernel_rfl) g
def aP.t(Y:aF)(M:S)(a aA:Nat)(aM:S)(aL aK:Nat)(Z:U):Prop:=
 a4 k4.id #[.slice M a aA] Z fun b c=>
 eU b fun b=>
 cond (!b) (Y (.tuple #[.slice none 0 0,.slice none 0 0,.int .i64 2]) c) (a4 k4.id #[.slice aM aL aK] c fun b c=>
 eU b fun b=>
 cond (!b) (Y (.tuple #[.slice none 0 0,.slice none 0 0,.int .i64 2]) c) (a5.t Y M a aA aM aL aK c))
def aP.g(Y:aF)(X:Fr)(Z:U):Prop:=aR (X 0) fun M a aA=>aR (X 1) fun aM aL aK=>aP.t Y M a aA aM aL aK Z
theorem aP.ok(Y:aF)(X:Fr)(Z:U)(g:aP.g Y X Z):den prog E aO (bC E [.tmp 4,.tmp 5,.tmp 6] Y) X Z:=
 bF g fun M a aA b g=>bF g fun aM aL aK c g=>c5 2 (r:=(a6 aO [W,W])) (by kernel_rfl) (a5.ok Y) (bV [(0,.slice M a aA),(1,.slice aM aL aK)] ⟨b,c,trivial⟩ (by kernel_rfl) g)
def t(M:S)(a aA:Nat)(aM:S)(aL aK:Nat)(Z:U)(Y:aF):Prop:=aP.t Y M a aA aM aL aK Z
theorem ok{M:S}{a:Nat}{aA:Nat}{aM:S}{aL:Nat}{aK:Nat}{Z:U}{Y:aF}(g:t M a aA aM aL aK Z Y):a4 id #[.slice M a aA,.slice aM aL aK] Z Y:=
 eD dT (c:=aO) (dH:=[.tmp 4,.tmp 5,.tmp 6]) Tryz.func90 (by kernel_rfl) (by kernel_rfl) (by kernel_rfl) (args:=[.slice M a aA,.slice aM aL aK]) (by kernel_rfl) (aP.ok Y _ Z (bL rfl (bL rfl (g))))
end nP
namespace p3
noncomputable def aO:Code:=dY Tryz.f91
def aP.t(Y:aF)(M:S)(a aA:Nat)(aM:S)(aL aK:Nat)(b:Int)(Z:U):Prop:=
 a4 kI.id #[.slice aM aL aK,.int .u64 b] Z fun b c=>
 cW b fun b=>
 cU b fun b d e f=>
 dP f .i64 fun f f=>
 b9 f <| a4 kH.id #[.slice M a aA,.slice b d e] c fun a b=>
 cW a fun a=>
 cU a fun a c d e=>
 dP e .i64 fun e e=>
 b9 e <| Y (.slice a c d) b
def aP.g(Y:aF)(X:Fr)(Z:U):Prop:=aR (X 0) fun M a aA=>aR (X 1) fun aM aL aK=>a0 .u64 (X 2) fun b=>aP.t Y M a aA aM aL aK b Z
theorem aP.ok(Y:aF)(X:Fr)(Z:U)(g:aP.g Y X Z):den prog E aO (bC E [.tmp 6] Y) X Z:=
 bF g fun M a aA b g=>bF g fun aM aL aK c g=>bJ g fun d e g=>bV [(0,.slice M a aA),(1,.slice aM aL aK),(2,.int .u64 d)] ⟨b,c,e,trivial⟩ (by kernel_rfl) g
def t(M:S)(a aA:Nat)(aM:S)(aL aK:Nat)(b:Int)(Z:U)(Y:aF):Prop:=aP.t Y M a aA aM aL aK b Z
theorem ok{M:S}{a:Nat}{aA:Nat}{aM:S}{aL:Nat}{aK:Nat}{b:Int}{Z:U}{Y:aF}(g:t M a aA aM aL aK b Z Y):a4 id #[.slice M a aA,.slice aM aL aK,.int .u64 b] Z Y:=
 eD dT (c:=aO) (dH:=[.tmp 6]) Tryz.func91 (by kernel_rfl) (by kernel_rfl) (by kernel_rfl) (args:=[.slice M a aA,.slice aM aL aK,.int .u64 b]) (by kernel_rfl) (aP.ok Y _ Z (bL rfl (bL rfl (b0 rfl (g)))))
end p3
namespace tI
noncomputable def aO:Code:=dY Tryz.f92
def aP.t(Y:aF)(Z:U):Prop:=
 a4 kV.id #[.int .u64 1] Z fun a b=>
 aR a fun a c d=>
 a4 lB.id #[.slice a c d,.int .i64 320] b fun a b=>
 cW a fun a=>
 cU a fun a c d e=>
 dP e .i64 fun e e=>
 b9 e <| Y (.slice a c d) b
def aP.g(Y:aF)(X:Fr)(Z:U):Prop:=aP.t Y  Z
theorem aP.ok(Y:aF)(X:Fr)(Z:U)(g:aP.g Y X Z):den prog E aO (bC E [.tmp 0] Y) X Z:=
 bV [] trivial (by kernel_rfl) g
def t(Z:U)(Y:aF):Prop:=aP.t Y Z
theorem ok{Z:U}{Y:aF}(g:t  Z Y):a4 id #[] Z Y:=
 eD dT (c:=aO) (dH:=[.tmp 0]) Tryz.func92 (by kernel_rfl) (by kernel_rfl) (by kernel_rfl) (args:=[]) (by kernel_rfl) (aP.ok Y _ Z (g))
end tI
namespace p4
noncomputable def aO:Code:=dY Tryz.f93
def a5.t(Y:aF)(bX:S)(a bY:Nat)(Z:U):Prop:=
 c6 bX a 0 1 fun a=>fZ Z a fun a=>a0 .u64 a fun a=>Y (.int .u64 a) Z
def a5.g(Y:aF)(X:Fr)(Z:U):Prop:=aR (X 7) fun bX a bY=>a5.t Y bX a bY Z
theorem a5.ok(Y:aF)(X:Fr)(Z:U)(g:a5.g Y X Z):den prog E (a6 aO [W,W,W,W]) (bC E [.tmp 6] Y) X Z:=
 bF g fun bX a bY b g=>bV [(7,.slice bX a bY)] ⟨b,trivial⟩ (by kernel_rfl) g
def aP.t(Y:aF)(M:S)(a aA:Nat)(aM:S)(aL aK:Nat)(b:Int)(Z:U):Prop:=
 a4 nP.id #[.slice M a aA,.slice aM aL aK] Z fun a c=>
 cW a fun a=>
 cU a fun a d e f=>
 cU f fun f f f f=>
 dP f .i64 fun f f=>
 b9 f <| cond ((((d:Nat):Int)) == 0) (Y (.int .u64 0) c) (cond (decide ((((d:Nat):Int)) > 1)) (Y (.int .u64 b) c) (c6 a d 0 1 fun f=>
 eO c .u64 f fun f=>
 cond (decide (f > b)) (Y (.int .u64 b) c) (a5.t Y a d e c)))
def aP.g(Y:aF)(X:Fr)(Z:U):Prop:=aR (X 0) fun M a aA=>aR (X 1) fun aM aL aK=>a0 .u64 (X 2) fun b=>aP.t Y M a aA aM aL aK b Z
theorem aP.ok(Y:aF)(X:Fr)(Z:U)(g:aP.g Y X Z):den prog E aO (bC E [.tmp 6] Y) X Z:=
 bF g fun M a aA b g=>bF g fun aM aL aK c g=>bJ g fun d e g=>c5 4 (r:=(a6 aO [W,W,W,W])) (by kernel_rfl) (a5.ok Y) (bV [(0,.slice M a aA),(1,.slice aM aL aK),(2,.int .u64 d)] ⟨b,c,e,trivial⟩ (by kernel_rfl) g)
def t(M:S)(a aA:Nat)(aM:S)(aL aK:Nat)(b:Int)(Z:U)(Y:aF):Prop:=aP.t Y M a aA aM aL aK b Z
theorem ok{M:S}{a:Nat}{aA:Nat}{aM:S}{aL:Nat}{aK:Nat}{b:Int}{Z:U}{Y:aF}(g:t M a aA aM aL aK b Z Y):a4 id #[.slice M a aA,.slice aM aL aK,.int .u64 b] Z Y:=
 eD dT (c:=aO) (dH:=[.tmp 6]) Tryz.func93 (by kernel_rfl) (by kernel_rfl) (by kernel_rfl) (args:=[.slice M a aA,.slice aM aL aK,.int .u64 b]) (by kernel_rfl) (aP.ok Y _ Z (bL rfl (bL rfl (b0 rfl (g)))))
end p4
namespace rX
noncomputable def aO:Code:=dY Tryz.f94
def a5.t(Y:aF)(aY aS:Int)(a b:Int)(Z:U):Prop:=
 bB (IntKind.u64.wrap (aS*a)) fun a=>
 bB (IntKind.u64.wrap (aY+a)) fun a=>
 bB (IntKind.u64.wrap (b+1)) fun b=>
 Y (.int .u64 (if b < a then b else a)) Z
def a5.g(Y:aF)(X:Fr)(Z:U):Prop:=a0 .u64 (X 0) fun aY=>a0 .u64 (X 1) fun aS=>a0 .u64 (X 2) fun a=>a0 .u64 (X 3) fun b=>a5.t Y aY aS a b Z
theorem a5.ok(Y:aF)(X:Fr)(Z:U)(g:a5.g Y X Z):den prog E (a6 aO [W,W]) (bC E [.tmp 8] Y) X Z:=
 bJ g fun aY a g=>bJ g fun aS b g=>bJ g fun c d g=>bJ g fun e f g=>bV [(0,.int .u64 aY),(1,.int .u64 aS),(2,.int .u64 c),(3,.int .u64 e)] ⟨a,b,d,f,trivial⟩ (by kernel_rfl) g
def aP.t(Y:aF)(aY aS:Int)(a b:Int)(Z:U):Prop:=
 cond (decide (a > b)) (bB (IntKind.u64.wrap (b+1)) fun eF=>
 Y (.int .u64 eF) Z) ((if 1 > a then 1 else a) ≠ 0∧bB (IntKind.u64.wrap (Int.tdiv b (if 1 > a then 1 else a))) fun c=>
 bB (IntKind.u64.wrap (c+1)) fun c=>
 cond (decide (aS > c)) (bB (IntKind.u64.wrap (b+1)) fun c=>
 Y (.int .u64 c) Z) (a5.t Y aY aS a b Z))
def aP.g(Y:aF)(X:Fr)(Z:U):Prop:=a0 .u64 (X 0) fun aY=>a0 .u64 (X 1) fun aS=>a0 .u64 (X 2) fun a=>a0 .u64 (X 3) fun b=>aP.t Y aY aS a b Z
theorem aP.ok(Y:aF)(X:Fr)(Z:U)(g:aP.g Y X Z):den prog E aO (bC E [.tmp 8] Y) X Z:=
 bJ g fun aY a g=>bJ g fun aS b g=>bJ g fun c d g=>bJ g fun e f g=>c5 2 (r:=(a6 aO [W,W])) (by kernel_rfl) (a5.ok Y) (bV [(0,.int .u64 aY),(1,.int .u64 aS),(2,.int .u64 c),(3,.int .u64 e)] ⟨a,b,d,f,trivial⟩ (by kernel_rfl) g)
def t(aY aS:Int)(a b:Int)(Z:U)(Y:aF):Prop:=aP.t Y aY aS a b Z
theorem ok{aY:Int}{aS:Int}{a:Int}{b:Int}{Z:U}{Y:aF}(g:t aY aS a b Z Y):a4 id #[.int .u64 aY,.int .u64 aS,.int .u64 a,.int .u64 b] Z Y:=
 eD dT (c:=aO) (dH:=[.tmp 8]) Tryz.func94 (by kernel_rfl) (by kernel_rfl) (by kernel_rfl) (args:=[.int .u64 aY,.int .u64 aS,.int .u64 a,.int .u64 b]) (by kernel_rfl) (aP.ok Y _ Z (b0 rfl (b0 rfl (b0 rfl (b0 rfl (g))))))
end rX
namespace kH
noncomputable def aO:Code:=dY Tryz.f95
def bM.t(Y:aF)(bG:S)(a bI:Nat)(Z:U):Prop:=
 a4 oB.id #[.slice bG a bI] Z fun a b=>
 cW a fun a=>
 cU a fun a c d e=>
 dP e .i64 fun e f=>
 b9 f <| Y (.tuple #[.slice a c d,.int .i64 e]) b
def bM.g(Y:aF)(X:Fr)(Z:U):Prop:=aR (X 6) fun bG a bI=>bM.t Y bG a bI Z
theorem bM.ok(Y:aF)(X:Fr)(Z:U)(g:bM.g Y X Z):den prog E (a6 aO [W,W,W,W,W,W]) (bC E [.tmp 4,.tmp 5] Y) X Z:=
 bF g fun bG a bI b g=>bV [(6,.slice bG a bI)] ⟨b,trivial⟩ (by kernel_rfl) g
def dS.g(bP:S→Nat→Nat→S→Nat→Nat→S→Nat→Nat→Int→Int→Int→U→Prop)(X:Fr)(Z:U):Prop:=aR (X 0) fun M a aA=>aR (X 1) fun aM aL aK=>aR (X 6) fun bG b bI=>a0 .u64 (X 7) fun c=>a0 .i64 (X 26) fun d=>a0 .i64 (X 27) fun e=>bP M a aA aM aL aK bG b bI c d e Z
def dD.t(Y:aF)(a:S→Nat→Nat→S→Nat→Nat→S→Nat→Nat→Int→Int→Int→U→Prop)(M:S)(b aA:Nat)(aM:S)(aL aK:Nat)(bG:S)(c bI:Nat)(d e f:Int)(Z:U):Prop:=
 cond (decide (f < e)) (cond (decide (f < (((aL:Nat):Int)))) (c6 aM aL f 1 fun g=>
 eO Z .u64 g fun g=>
 c6 M b f 1 fun h=>
 eO Z .u64 h fun h=>
 sL h g d fun g h=>
 c6 bG c f 1 fun i=>
 cM Z i (.int .u64 g) fun g=>
 bB (IntKind.i64.wrap (f+1)) fun i=>
 a M b aA aM aL aK bG c bI h e i g) (c6 M b f 1 fun g=>
 eO Z .u64 g fun g=>
 sL g 0 d fun d m32=>
 c6 bG c f 1 fun g=>
 cM Z g (.int .u64 d) fun d=>
 bB (IntKind.i64.wrap (f+1)) fun f=>
 a M b aA aM aL aK bG c bI m32 e f d)) (bM.t Y bG c bI Z)
def dD.g(Y:aF)(a:S→Nat→Nat→S→Nat→Nat→S→Nat→Nat→Int→Int→Int→U→Prop)(X:Fr)(Z:U):Prop:=aR (X 0) fun M b aA=>aR (X 1) fun aM aL aK=>aR (X 6) fun bG c bI=>a0 .u64 (X 7) fun d=>a0 .i64 (X 26) fun e=>a0 .i64 (X 27) fun f=>dD.t Y a M b aA aM aL aK bG c bI d e f Z
theorem dD.ok(Y:aF)(a:S→Nat→Nat→S→Nat→Nat→S→Nat→Nat→Int→Int→Int→U→Prop)(X:Fr)(Z:U)(g:dD.g Y a X Z):den prog E (a6 aO [W,W,W,W,W,aJ,W,aJ,aJ]) (aV.then (dS.g a) (aV.inBlock 0 (aV.then (bM.g Y) (bC E [.tmp 4,.tmp 5] Y)))) X Z:=
 bF g fun M a aA b g=>bF g fun aM aL aK c g=>bF g fun bG d bI e g=>bJ g fun f h g=>bJ g fun i j g=>bJ g fun k l g=>bV [(0,.slice M a aA),(1,.slice aM aL aK),(6,.slice bG d bI),(7,.int .u64 f),(26,.int .i64 i),(27,.int .i64 k)] ⟨b,c,e,h,j,l,trivial⟩ (by kernel_rfl) g
def dS.t(Y:aF):Nat→S→Nat→Nat→S→Nat→Nat→S→Nat→Nat→Int→Int→Int→U→Prop
 | 0=>fun _ _ _ _ _ _ _ _ _ _ _ _ _=>False
 | n+1=>fun M a aA aM aL aK bG b bI c d e Z=>dD.t Y (dS.t Y n) M a aA aM aL aK bG b bI c d e Z
theorem dS.ok(Y:aF)(X:Fr)(Z:U)(g:dS.g (fun M a aA aM aL aK bG b bI c d e Z=>∃ n,dS.t Y n M a aA aM aL aK bG b bI c d e Z) X Z):den prog E (a6 aO [W,W,W,W,W,aJ,W,aJ]) (aV.inBlock 0 (aV.then (bM.g Y) (bC E [.tmp 4,.tmp 5] Y))) X Z:=by
 obtain⟨M,a,aA,f,g⟩:=b2 g
 obtain⟨aM,aL,aK,h,g⟩:=b2 g
 obtain⟨bG,b,bI,i,g⟩:=b2 g
 obtain⟨c,j,g⟩:=bT g
 obtain⟨d,k,g⟩:=bT g
 obtain⟨e,l,g⟩:=bT g
 obtain⟨n,g⟩:=g
 refine fF (fun n=>dS.g (dS.t Y n)) (K:=(a6 aO [W,W,W,W,W,aJ,W,aJ,aJ])) (by kernel_rfl) (fun X Z g=>?_) (fun n=>dD.ok Y (dS.t Y n)) n X Z (bL f (bL h (bL i (b0 j (b0 k (b0 l (g)))))))
 obtain⟨M,a,aA,f,g⟩:=b2 g
 obtain⟨aM,aL,aK,h,g⟩:=b2 g
 obtain⟨bG,b,bI,i,g⟩:=b2 g
 obtain⟨c,j,g⟩:=bT g
 obtain⟨d,k,g⟩:=bT g
 obtain⟨e,l,g⟩:=bT g
 exact g
theorem sF.ok(Y:aF)(X:Fr)(Z:U)(g:dS.g (fun M a aA aM aL aK bG b bI c d e Z=>∃ n,dS.t Y n M a aA aM aL aK bG b bI c d e Z) X Z):den prog E (a6 aO [W,W,W,W,W,aJ,W]) (aV.then (bM.g Y) (bC E [.tmp 4,.tmp 5] Y)) X Z:=
 e3 (by kernel_rfl) (dS.ok Y X Z g)
def cF.t(Y:aF)(M:S)(a aA:Nat)(aM:S)(aL aK:Nat)(bG:S)(b bI:Nat)(c:Int)(Z:U):Prop:=
 (∃ n,dS.t Y n M a aA aM aL aK bG b bI c (((a:Nat):Int)) 0 Z)
def cF.g(Y:aF)(X:Fr)(Z:U):Prop:=aR (X 0) fun M a aA=>aR (X 1) fun aM aL aK=>aR (X 6) fun bG b bI=>a0 .u64 (X 7) fun c=>cF.t Y M a aA aM aL aK bG b bI c Z
theorem cF.ok(Y:aF)(X:Fr)(Z:U)(g:cF.g Y X Z):den prog E (a6 aO [W,W,W,W,W,aJ]) (aV.then (bM.g Y) (bC E [.tmp 4,.tmp 5] Y)) X Z:=
 bF g fun M a aA b g=>bF g fun aM aL aK c g=>bF g fun bG d bI e g=>bJ g fun f h g=>c5 1 (r:=(a6 aO [W,W,W,W,W,aJ,W])) (by kernel_rfl) (sF.ok Y) (bV [(0,.slice M a aA),(1,.slice aM aL aK),(6,.slice bG d bI),(7,.int .u64 f)] ⟨b,c,e,h,trivial⟩ (by kernel_rfl) g)
theorem sG.ok(Y:aF)(X:Fr)(Z:U)(g:cF.g Y X Z):den prog E (a6 aO [W,W,W,W,W]) (bC E [.tmp 4,.tmp 5] Y) X Z:=
 fP (by kernel_rfl) (bM.ok Y) (cF.ok Y X Z g)
def a5.t(Y:aF)(M:S)(a aA:Nat)(aM:S)(aL aK:Nat)(Z:U):Prop:=
 a4 jO.id #[.slice M a aA,.slice aM aL aK] Z fun b c=>
 a0 .i64 b fun b=>
 cond (decide (b < 0)) (Y (.tuple #[.slice none 0 0,.int .i64 3]) c) (iS c 35 j6 (((a:Nat):Int)) (((a:Nat):Int)) fun b c=>
 cF.t Y M a aA aM aL aK (some b) ((((a:Nat):Int)).toNat) ((((a:Nat):Int)).toNat) 0 c)
def a5.g(Y:aF)(X:Fr)(Z:U):Prop:=aR (X 0) fun M a aA=>aR (X 1) fun aM aL aK=>a5.t Y M a aA aM aL aK Z
theorem a5.ok(Y:aF)(X:Fr)(Z:U)(g:a5.g Y X Z):den prog E (a6 aO [W,W]) (bC E [.tmp 4,.tmp 5] Y) X Z:=
 bF g fun M a aA b g=>bF g fun aM aL aK c g=>c5 3 (r:=(a6 aO [W,W,W,W,W])) (by kernel_rfl) (sG.ok Y) (bV [(0,.slice M a aA),(1,.slice aM aL aK)] ⟨b,c,trivial⟩ (by kernel_rfl) g)
def aP.t(Y:aF)(M:S)(a aA:Nat)(aM:S)(aL aK:Nat)(Z:U):Prop:=
 a4 k4.id #[.slice M a aA] Z fun b c=>
 eU b fun b=>
 cond (!b) (Y (.tuple #[.slice none 0 0,.int .i64 2]) c) (a4 k4.id #[.slice aM aL aK] c fun b c=>
 eU b fun b=>
 cond (!b) (Y (.tuple #[.slice none 0 0,.int .i64 2]) c) (a5.t Y M a aA aM aL aK c))
def aP.g(Y:aF)(X:Fr)(Z:U):Prop:=aR (X 0) fun M a aA=>aR (X 1) fun aM aL aK=>aP.t Y M a aA aM aL aK Z
theorem aP.ok(Y:aF)(X:Fr)(Z:U)(g:aP.g Y X Z):den prog E aO (bC E [.tmp 4,.tmp 5] Y) X Z:=
 bF g fun M a aA b g=>bF g fun aM aL aK c g=>c5 2 (r:=(a6 aO [W,W])) (by kernel_rfl) (a5.ok Y) (bV [(0,.slice M a aA),(1,.slice aM aL aK)] ⟨b,c,trivial⟩ (by kernel_rfl) g)
def t(M:S)(a aA:Nat)(aM:S)(aL aK:Nat)(Z:U)(Y:aF):Prop:=aP.t Y M a aA aM aL aK Z
theorem ok{M:S}{a:Nat}{aA:Nat}{aM:S}{aL:Nat}{aK:Nat}{Z:U}{Y:aF}(g:t M a aA aM aL aK Z Y):a4 id #[.slice M a aA,.slice aM aL aK] Z Y:=
 eD dT (c:=aO) (dH:=[.tmp 4,.tmp 5]) Tryz.func95 (by kernel_rfl) (by kernel_rfl) (by kernel_rfl) (args:=[.slice M a aA,.slice aM aL aK]) (by kernel_rfl) (aP.ok Y _ Z (bL rfl (bL rfl (g))))
end kH
namespace vK
noncomputable def aO:Code:=dY Tryz.f96
def aP.t(Y:aF)(M:S)(a aA:Nat)(Z:U):Prop:=
 cond (decide ((((a:Nat):Int)) > 8192)) (Y (.tuple #[.slice none 0 0,.int .i64 5]) Z) (Y (.tuple #[.slice M a aA,.int .i64 0]) Z)
def aP.g(Y:aF)(X:Fr)(Z:U):Prop:=aR (X 0) fun M a aA=>aP.t Y M a aA Z
theorem aP.ok(Y:aF)(X:Fr)(Z:U)(g:aP.g Y X Z):den prog E aO (bC E [.tmp 2,.tmp 3] Y) X Z:=
 bF g fun M a aA b g=>bV [(0,.slice M a aA)] ⟨b,trivial⟩ (by kernel_rfl) g
def t(M:S)(a aA:Nat)(Z:U)(Y:aF):Prop:=aP.t Y M a aA Z
theorem ok{M:S}{a:Nat}{aA:Nat}{Z:U}{Y:aF}(g:t M a aA Z Y):a4 id #[.slice M a aA] Z Y:=
 eD dT (c:=aO) (dH:=[.tmp 2,.tmp 3]) Tryz.func96 (by kernel_rfl) (by kernel_rfl) (by kernel_rfl) (args:=[.slice M a aA]) (by kernel_rfl) (aP.ok Y _ Z (bL rfl (g)))
end vK
namespace o8
noncomputable def aO:Code:=dY Tryz.f97
def aP.t(Y:aF)(M:S)(a aA:Nat)(aM:S)(aL aK:Nat)(Z:U):Prop:=
 bB (IntKind.i64.wrap ((((a:Nat):Int))+(((aL:Nat):Int)))) fun eF=>
 iS Z 35 j6 eF eF fun e7 b=>
 a4 rQ.id #[.slice (some e7) eF.toNat eF.toNat,.slice M a aA,.slice aM aL aK] b fun a b=>
 cW a fun a=>
 b9 a <| a4 m1.id #[.slice (some e7) eF.toNat eF.toNat] b fun a b=>
 aR a fun a c d=>
 Y (.slice a c d) b
def aP.g(Y:aF)(X:Fr)(Z:U):Prop:=aR (X 0) fun M a aA=>aR (X 1) fun aM aL aK=>aP.t Y M a aA aM aL aK Z
theorem aP.ok(Y:aF)(X:Fr)(Z:U)(g:aP.g Y X Z):den prog E aO (bC E [.tmp 4] Y) X Z:=
 bF g fun M a aA b g=>bF g fun aM aL aK c g=>bV [(0,.slice M a aA),(1,.slice aM aL aK)] ⟨b,c,trivial⟩ (by kernel_rfl) g
def t(M:S)(a aA:Nat)(aM:S)(aL aK:Nat)(Z:U)(Y:aF):Prop:=aP.t Y M a aA aM aL aK Z
theorem ok{M:S}{a:Nat}{aA:Nat}{aM:S}{aL:Nat}{aK:Nat}{Z:U}{Y:aF}(g:t M a aA aM aL aK Z Y):a4 id #[.slice M a aA,.slice aM aL aK] Z Y:=
 eD dT (c:=aO) (dH:=[.tmp 4]) Tryz.func97 (by kernel_rfl) (by kernel_rfl) (by kernel_rfl) (args:=[.slice M a aA,.slice aM aL aK]) (by kernel_rfl) (aP.ok Y _ Z (bL rfl (bL rfl (g))))
end o8
namespace nL
noncomputable def aO:Code:=dY Tryz.f98
def cF.t(Y:aF)(aY a:Int)(Z:U):Prop:=
 bB (IntKind.u8.wrap aY) fun b=>
 x8 (⟨#[0,1,2,2,3,3,3,3,4,4,4,4,4,4,4,4,5,5,5,5,5,5,5,5,5,5,5,5,5,5,5,5,6,6,6,6,6,6,6,6,6,6,6,6,6,6,6,6,6,6,6,6,6,6,6,6,6,6,6,6,6,6,6,6,7,7,7,7,7,7,7,7,7,7,7,7,7,7,7,7,7,7,7,7,7,7,7,7,7,7,7,7,7,7,7,7,7,7,7,7,7,7,7,7,7,7,7,7,7,7,7,7,7,7,7,7,7,7,7,7,7,7,7,7,7,7,7,7,8,8,8,8,8,8,8,8,8,8,8,8,8,8,8,8,8,8,8,8,8,8,8,8,8,8,8,8,8,8,8,8,8,8,8,8,8,8,8,8,8,8,8,8,8,8,8,8,8,8,8,8,8,8,8,8,8,8,8,8,8,8,8,8,8,8,8,8,8,8,8,8,8,8,8,8,8,8,8,8,8,8,8,8,8,8,8,8,8,8,8,8,8,8,8,8,8,8,8,8,8,8,8,8,8,8,8,8,8,8,8,8,8,8,8,8,8,8,8,8,8,8,8,8,8,8,8,8]⟩:ByteArray) b fun b=>
 bB (IntKind.i64.wrap b) fun b=>
 bB (IntKind.i64.wrap (a+b)) fun a=>
 Y (.int .i64 a) Z
def cF.g(Y:aF)(X:Fr)(Z:U):Prop:=a0 .u64 (X 0) fun aY=>a0 .i64 (X 2) fun a=>cF.t Y aY a Z
theorem cF.ok(Y:aF)(X:Fr)(Z:U)(g:cF.g Y X Z):den prog E (a6 aO [W,W,W,W]) (bC E [.tmp 2] Y) X Z:=
 bJ g fun aY a g=>bJ g fun b c g=>bV [(0,.int .u64 aY),(2,.int .i64 b)] ⟨a,c,trivial⟩ (by kernel_rfl) g
def bM.t(Y:aF)(aY a:Int)(Z:U):Prop:=
 cond (decide (aY≥256)) (0≤(8:Int)∧bB (hG .u64 aY 8) fun b=>
 bB (IntKind.i64.wrap (a+8)) fun c=>
 cF.t Y b c Z) (cF.t Y aY a Z)
def bM.g(Y:aF)(X:Fr)(Z:U):Prop:=a0 .u64 (X 0) fun aY=>a0 .i64 (X 2) fun a=>bM.t Y aY a Z
theorem bM.ok(Y:aF)(X:Fr)(Z:U)(g:bM.g Y X Z):den prog E (a6 aO [W,W,W]) (bC E [.tmp 2] Y) X Z:=
 bJ g fun aY a g=>bJ g fun b c g=>c5 1 (r:=(a6 aO [W,W,W,W])) (by kernel_rfl) (cF.ok Y) (bV [(0,.int .u64 aY),(2,.int .i64 b)] ⟨a,c,trivial⟩ (by kernel_rfl) g)
def a5.t(Y:aF)(aY a:Int)(Z:U):Prop:=
 cond (decide (aY≥65536)) (0≤(16:Int)∧bB (hG .u64 aY 16) fun b=>
 bB (IntKind.i64.wrap (a+16)) fun c=>
 bM.t Y b c Z) (bM.t Y aY a Z)
def a5.g(Y:aF)(X:Fr)(Z:U):Prop:=a0 .u64 (X 0) fun aY=>a0 .i64 (X 2) fun a=>a5.t Y aY a Z
theorem a5.ok(Y:aF)(X:Fr)(Z:U)(g:a5.g Y X Z):den prog E (a6 aO [W,W]) (bC E [.tmp 2] Y) X Z:=
 bJ g fun aY a g=>bJ g fun b c g=>c5 1 (r:=(a6 aO [W,W,W])) (by kernel_rfl) (bM.ok Y) (bV [(0,.int .u64 aY),(2,.int .i64 b)] ⟨a,c,trivial⟩ (by kernel_rfl) g)
def aP.t(Y:aF)(aY:Int)(Z:U):Prop:=
 cond (decide (aY≥4294967296)) (0≤(32:Int)∧bB (hG .u64 aY 32) fun eF=>
 a5.t Y eF 32 Z) (a5.t Y aY 0 Z)
def aP.g(Y:aF)(X:Fr)(Z:U):Prop:=a0 .u64 (X 0) fun aY=>aP.t Y aY Z
theorem aP.ok(Y:aF)(X:Fr)(Z:U)(g:aP.g Y X Z):den prog E aO (bC E [.tmp 2] Y) X Z:=
 bJ g fun aY a g=>c5 2 (r:=(a6 aO [W,W])) (by kernel_rfl) (a5.ok Y) (bV [(0,.int .u64 aY)] ⟨a,trivial⟩ (by kernel_rfl) g)
def t(aY:Int)(Z:U)(Y:aF):Prop:=aP.t Y aY Z
theorem ok{aY:Int}{Z:U}{Y:aF}(g:t aY Z Y):a4 id #[.int .u64 aY] Z Y:=
 eD dT (c:=aO) (dH:=[.tmp 2]) Tryz.func98 (by kernel_rfl) (by kernel_rfl) (by kernel_rfl) (args:=[.int .u64 aY]) (by kernel_rfl) (aP.ok Y _ Z (b0 rfl (g)))
end nL
namespace h1
noncomputable def aO:Code:=dY Tryz.f99
def a5.t(Y:aF)(a:Int)(Z:U):Prop:=
 bB (IntKind.u32.wrap a) fun a=>Y (.int .u32 a) Z
def a5.g(Y:aF)(X:Fr)(Z:U):Prop:=a0 .u64 (X 7) fun a=>a5.t Y a Z
theorem a5.ok(Y:aF)(X:Fr)(Z:U)(g:a5.g Y X Z):den prog E (a6 aO [W,W,W,W,W,W,W]) (bC E [.tmp 4] Y) X Z:=
 bJ g fun a b g=>bV [(7,.int .u64 a)] ⟨b,trivial⟩ (by kernel_rfl) g
def cP.g(bP:S→Nat→Nat→S→Nat→Nat→Int→Int→Int→U→Prop)(X:Fr)(Z:U):Prop:=aR (X 0) fun M a aA=>aR (X 1) fun aM aL aK=>a0 .i64 (X 5) fun b=>a0 .u64 (X 7) fun c=>a0 .u64 (X 9) fun d=>bP M a aA aM aL aK b c d Z
def dD.t(Y:aF)(a:S→Nat→Nat→S→Nat→Nat→Int→Int→Int→U→Prop)(M:S)(b aA:Nat)(aM:S)(aL aK:Nat)(c d:Int)(e f:Int)(Z:U):Prop:=
 bB (IntKind.u64.wrap (f - (if e < f then e else f))) fun e=>a M b aA aM aL aK c d e Z
def dD.g(Y:aF)(a:S→Nat→Nat→S→Nat→Nat→Int→Int→Int→U→Prop)(X:Fr)(Z:U):Prop:=aR (X 0) fun M b aA=>aR (X 1) fun aM aL aK=>a0 .i64 (X 5) fun c=>a0 .u64 (X 7) fun d=>a0 .u64 (X 8) fun e=>a0 .u64 (X 9) fun f=>dD.t Y a M b aA aM aL aK c d e f Z
theorem dD.ok(Y:aF)(a:S→Nat→Nat→S→Nat→Nat→Int→Int→Int→U→Prop)(X:Fr)(Z:U)(g:dD.g Y a X Z):den prog E (a6 aO [W,W,W,W,W,W,aJ,aJ,aJ,W,aJ,W,W,W]) (aV.inBlock 3 (aV.then (cP.g a) (aV.inBlock 2 (aV.then (a5.g Y) (bC E [.tmp 4] Y))))) X Z:=
 bF g fun M a aA b g=>bF g fun aM aL aK c g=>bJ g fun d e g=>bJ g fun f h g=>bJ g fun i j g=>bJ g fun k l g=>bV [(0,.slice M a aA),(1,.slice aM aL aK),(5,.int .i64 d),(7,.int .u64 f),(8,.int .u64 i),(9,.int .u64 k)] ⟨b,c,e,h,j,l,trivial⟩ (by kernel_rfl) g
def hT.g(bP:S→Nat→Nat→S→Nat→Nat→Int→Int→Int→Int→Int→U→Prop)(X:Fr)(Z:U):Prop:=aR (X 0) fun M a aA=>aR (X 1) fun aM aL aK=>a0 .i64 (X 5) fun b=>a0 .u64 (X 7) fun c=>a0 .u64 (X 8) fun d=>a0 .u64 (X 9) fun e=>a0 .i64 (X 13) fun f=>bP M a aA aM aL aK b c d e f Z
def gS.t(Y:aF)(a:S→Nat→Nat→S→Nat→Nat→Int→Int→Int→U→Prop)(b:S→Nat→Nat→S→Nat→Nat→Int→Int→Int→Int→Int→U→Prop)(M:S)(c aA:Nat)(aM:S)(aL aK:Nat)(d e:Int)(f g h:Int)(Z:U):Prop:=
 cond (decide (h≤d)) (c6 M c h 1 fun i=>
 eO Z .u32 i fun i=>
 bB (IntKind.u64.wrap i) fun i=>
 bB (IntKind.u64.wrap (f+i)) fun i=>
 cond (decide (h < d)) (c6 aM aL h 1 fun j=>
 eO Z .u32 j fun j=>
 bB (IntKind.u64.wrap j) fun j=>
 bB (IntKind.u64.wrap (i+j)) fun j=>
 bB (j1 .u64 j 4294967295) fun k=>
 bB (IntKind.u32.wrap k) fun k=>
 c6 M c h 1 fun l=>
 cM Z l (.int .u32 k) fun k=>
 0≤(32:Int)∧bB (hG .u64 j 32) fun j=>
 bB (IntKind.i64.wrap (h+1)) fun l=>
 b M c aA aM aL aK d e j g l k) (bB (j1 .u64 i 4294967295) fun j=>
 bB (IntKind.u32.wrap j) fun j=>
 c6 M c h 1 fun k=>
 cM Z k (.int .u32 j) fun j=>
 0≤(32:Int)∧bB (hG .u64 i 32) fun i=>
 bB (IntKind.i64.wrap (h+1)) fun h=>
 b M c aA aM aL aK d e i g h j)) (dD.t Y a M c aA aM aL aK d e f g Z)
def gS.g(Y:aF)(a:S→Nat→Nat→S→Nat→Nat→Int→Int→Int→U→Prop)(b:S→Nat→Nat→S→Nat→Nat→Int→Int→Int→Int→Int→U→Prop)(X:Fr)(Z:U):Prop:=aR (X 0) fun M c aA=>aR (X 1) fun aM aL aK=>a0 .i64 (X 5) fun d=>a0 .u64 (X 7) fun e=>a0 .u64 (X 8) fun f=>a0 .u64 (X 9) fun h=>a0 .i64 (X 13) fun i=>gS.t Y a b M c aA aM aL aK d e f h i Z
theorem gS.ok(Y:aF)(a:S→Nat→Nat→S→Nat→Nat→Int→Int→Int→U→Prop)(b:S→Nat→Nat→S→Nat→Nat→Int→Int→Int→Int→Int→U→Prop)(X:Fr)(Z:U)(g:gS.g Y a b X Z):den prog E (a6 aO [W,W,W,W,W,W,aJ,aJ,aJ,W,aJ,W,W,aJ,W,aJ,aJ]) (aV.then (hT.g b) (aV.inBlock 4 (aV.then (dD.g Y a) (aV.inBlock 3 (aV.then (cP.g a) (aV.inBlock 2 (aV.then (a5.g Y) (bC E [.tmp 4] Y)))))))) X Z:=
 bF g fun M a aA b g=>bF g fun aM aL aK c g=>bJ g fun d e g=>bJ g fun f h g=>bJ g fun i j g=>bJ g fun k l g=>bJ g fun m n g=>bV [(0,.slice M a aA),(1,.slice aM aL aK),(5,.int .i64 d),(7,.int .u64 f),(8,.int .u64 i),(9,.int .u64 k),(13,.int .i64 m)] ⟨b,c,e,h,j,l,n,trivial⟩ (by kernel_rfl) g
def hT.t(Y:aF)(a:S→Nat→Nat→S→Nat→Nat→Int→Int→Int→U→Prop):Nat→S→Nat→Nat→S→Nat→Nat→Int→Int→Int→Int→Int→U→Prop
 | 0=>fun _ _ _ _ _ _ _ _ _ _ _ _=>False
 | n+1=>fun M b aA aM aL aK c d e f g Z=>gS.t Y a (hT.t Y a n) M b aA aM aL aK c d e f g Z
theorem hT.ok(Y:aF)(a:S→Nat→Nat→S→Nat→Nat→Int→Int→Int→U→Prop)(X:Fr)(Z:U)(g:hT.g (fun M b aA aM aL aK c d e f h Z=>∃ n,hT.t Y a n M b aA aM aL aK c d e f h Z) X Z):den prog E (a6 aO [W,W,W,W,W,W,aJ,aJ,aJ,W,aJ,W,W,aJ,W,aJ]) (aV.inBlock 4 (aV.then (dD.g Y a) (aV.inBlock 3 (aV.then (cP.g a) (aV.inBlock 2 (aV.then (a5.g Y) (bC E [.tmp 4] Y))))))) X Z:=by
 obtain⟨M,b,aA,i,g⟩:=b2 g
 obtain⟨aM,aL,aK,j,g⟩:=b2 g
 obtain⟨c,k,g⟩:=bT g
 obtain⟨d,l,g⟩:=bT g
 obtain⟨e,m,g⟩:=bT g
 obtain⟨f,o,g⟩:=bT g
 obtain⟨h,p,g⟩:=bT g
 obtain⟨n,g⟩:=g
 refine fF (fun n=>hT.g (hT.t Y a n)) (K:=(a6 aO [W,W,W,W,W,W,aJ,aJ,aJ,W,aJ,W,W,aJ,W,aJ,aJ])) (by kernel_rfl) (fun X Z g=>?_) (fun n=>gS.ok Y a (hT.t Y a n)) n X Z (bL i (bL j (b0 k (b0 l (b0 m (b0 o (b0 p (g))))))))
 obtain⟨M,b,aA,i,g⟩:=b2 g
 obtain⟨aM,aL,aK,j,g⟩:=b2 g
 obtain⟨c,k,g⟩:=bT g
 obtain⟨d,l,g⟩:=bT g
 obtain⟨e,m,g⟩:=bT g
 obtain⟨f,o,g⟩:=bT g
 obtain⟨h,p,g⟩:=bT g
 exact g
theorem z3.ok(Y:aF)(a:S→Nat→Nat→S→Nat→Nat→Int→Int→Int→U→Prop)(X:Fr)(Z:U)(g:hT.g (fun M b aA aM aL aK c d e f h Z=>∃ n,hT.t Y a n M b aA aM aL aK c d e f h Z) X Z):den prog E (a6 aO [W,W,W,W,W,W,aJ,aJ,aJ,W,aJ,W,W,aJ,W]) (aV.then (dD.g Y a) (aV.inBlock 3 (aV.then (cP.g a) (aV.inBlock 2 (aV.then (a5.g Y) (bC E [.tmp 4] Y)))))) X Z:=
 e3 (by kernel_rfl) (hT.ok Y a X Z g)
def eX.t(Y:aF)(a:S→Nat→Nat→S→Nat→Nat→Int→Int→Int→U→Prop)(M:S)(b aA:Nat)(aM:S)(aL aK:Nat)(c d:Int)(e f:Int)(Z:U):Prop:=
 (∃ n,hT.t Y a n M b aA aM aL aK c d e f 0 Z)
def eX.g(Y:aF)(a:S→Nat→Nat→S→Nat→Nat→Int→Int→Int→U→Prop)(X:Fr)(Z:U):Prop:=aR (X 0) fun M b aA=>aR (X 1) fun aM aL aK=>a0 .i64 (X 5) fun c=>a0 .u64 (X 7) fun d=>a0 .u64 (X 8) fun e=>a0 .u64 (X 9) fun f=>eX.t Y a M b aA aM aL aK c d e f Z
theorem eX.ok(Y:aF)(a:S→Nat→Nat→S→Nat→Nat→Int→Int→Int→U→Prop)(X:Fr)(Z:U)(g:eX.g Y a X Z):den prog E (a6 aO [W,W,W,W,W,W,aJ,aJ,aJ,W,aJ,W,W,aJ]) (aV.then (dD.g Y a) (aV.inBlock 3 (aV.then (cP.g a) (aV.inBlock 2 (aV.then (a5.g Y) (bC E [.tmp 4] Y)))))) X Z:=
 bF g fun M b aA c g=>bF g fun aM aL aK d g=>bJ g fun e f g=>bJ g fun h i g=>bJ g fun j k g=>bJ g fun l m g=>c5 1 (r:=(a6 aO [W,W,W,W,W,W,aJ,aJ,aJ,W,aJ,W,W,aJ,W])) (by kernel_rfl) (z3.ok Y a) (bV [(0,.slice M b aA),(1,.slice aM aL aK),(5,.int .i64 e),(7,.int .u64 h),(8,.int .u64 j),(9,.int .u64 l)] ⟨c,d,f,i,k,m,trivial⟩ (by kernel_rfl) g)
theorem z4.ok(Y:aF)(a:S→Nat→Nat→S→Nat→Nat→Int→Int→Int→U→Prop)(X:Fr)(Z:U)(g:eX.g Y a X Z):den prog E (a6 aO [W,W,W,W,W,W,aJ,aJ,aJ,W,aJ,W,W]) (aV.inBlock 3 (aV.then (cP.g a) (aV.inBlock 2 (aV.then (a5.g Y) (bC E [.tmp 4] Y))))) X Z:=
 fP (by kernel_rfl) (dD.ok Y a) (eX.ok Y a X Z g)
def cH.t(Y:aF)(a:S→Nat→Nat→S→Nat→Nat→Int→Int→Int→U→Prop)(M:S)(b aA:Nat)(aM:S)(aL aK:Nat)(c d e:Int)(Z:U):Prop:=
 bB (IntKind.u64.wrap (d - 1)) fun d=>eX.t Y a M b aA aM aL aK c d 0 e Z
def cH.g(Y:aF)(a:S→Nat→Nat→S→Nat→Nat→Int→Int→Int→U→Prop)(X:Fr)(Z:U):Prop:=aR (X 0) fun M b aA=>aR (X 1) fun aM aL aK=>a0 .i64 (X 5) fun c=>a0 .u64 (X 7) fun d=>a0 .u64 (X 9) fun e=>cH.t Y a M b aA aM aL aK c d e Z
theorem cH.ok(Y:aF)(a:S→Nat→Nat→S→Nat→Nat→Int→Int→Int→U→Prop)(X:Fr)(Z:U)(g:cH.g Y a X Z):den prog E (a6 aO [W,W,W,W,W,W,aJ,aJ,aJ,W,aJ]) (aV.inBlock 3 (aV.then (cP.g a) (aV.inBlock 2 (aV.then (a5.g Y) (bC E [.tmp 4] Y))))) X Z:=
 bF g fun M b aA c g=>bF g fun aM aL aK d g=>bJ g fun e f g=>bJ g fun h i g=>bJ g fun j k g=>c5 2 (r:=(a6 aO [W,W,W,W,W,W,aJ,aJ,aJ,W,aJ,W,W])) (by kernel_rfl) (z4.ok Y a) (bV [(0,.slice M b aA),(1,.slice aM aL aK),(5,.int .i64 e),(7,.int .u64 h),(9,.int .u64 j)] ⟨c,d,f,i,k,trivial⟩ (by kernel_rfl) g)
theorem oT.ok(Y:aF)(a:S→Nat→Nat→S→Nat→Nat→Int→Int→Int→U→Prop)(X:Fr)(Z:U)(g:cH.g Y a X Z):den prog E (a6 aO [W,W,W,W,W,W,aJ,aJ,aJ,W]) (aV.then (cP.g a) (aV.inBlock 2 (aV.then (a5.g Y) (bC E [.tmp 4] Y)))) X Z:=
 e3 (by kernel_rfl) (cH.ok Y a X Z g)
def cF.t(Y:aF)(a:S→Nat→Nat→S→Nat→Nat→Int→Int→Int→U→Prop)(M:S)(b aA:Nat)(aM:S)(aL aK:Nat)(c d e:Int)(Z:U):Prop:=
 cond (decide (e > 0)) (cH.t Y a M b aA aM aL aK c d e Z) (a5.t Y d Z)
def cF.g(Y:aF)(a:S→Nat→Nat→S→Nat→Nat→Int→Int→Int→U→Prop)(X:Fr)(Z:U):Prop:=aR (X 0) fun M b aA=>aR (X 1) fun aM aL aK=>a0 .i64 (X 5) fun c=>a0 .u64 (X 7) fun d=>a0 .u64 (X 9) fun e=>cF.t Y a M b aA aM aL aK c d e Z
theorem cF.ok(Y:aF)(a:S→Nat→Nat→S→Nat→Nat→Int→Int→Int→U→Prop)(X:Fr)(Z:U)(g:cF.g Y a X Z):den prog E (a6 aO [W,W,W,W,W,W,aJ,aJ,aJ]) (aV.then (cP.g a) (aV.inBlock 2 (aV.then (a5.g Y) (bC E [.tmp 4] Y)))) X Z:=
 bF g fun M b aA c g=>bF g fun aM aL aK d g=>bJ g fun e f g=>bJ g fun h i g=>bJ g fun j k g=>c5 1 (r:=(a6 aO [W,W,W,W,W,W,aJ,aJ,aJ,W])) (by kernel_rfl) (oT.ok Y a) (bV [(0,.slice M b aA),(1,.slice aM aL aK),(5,.int .i64 e),(7,.int .u64 h),(9,.int .u64 j)] ⟨c,d,f,i,k,trivial⟩ (by kernel_rfl) g)
def cP.t(Y:aF):Nat→S→Nat→Nat→S→Nat→Nat→Int→Int→Int→U→Prop
 | 0=>fun _ _ _ _ _ _ _ _ _ _=>False
 | n+1=>fun M a aA aM aL aK b c d Z=>cF.t Y (cP.t Y n) M a aA aM aL aK b c d Z
theorem cP.ok(Y:aF)(X:Fr)(Z:U)(g:cP.g (fun M a aA aM aL aK b c d Z=>∃ n,cP.t Y n M a aA aM aL aK b c d Z) X Z):den prog E (a6 aO [W,W,W,W,W,W,aJ,aJ]) (aV.inBlock 2 (aV.then (a5.g Y) (bC E [.tmp 4] Y))) X Z:=by
 obtain⟨M,a,aA,e,g⟩:=b2 g
 obtain⟨aM,aL,aK,f,g⟩:=b2 g
 obtain⟨b,h,g⟩:=bT g
 obtain⟨c,i,g⟩:=bT g
 obtain⟨d,j,g⟩:=bT g
 obtain⟨n,g⟩:=g
 refine fF (fun n=>cP.g (cP.t Y n)) (K:=(a6 aO [W,W,W,W,W,W,aJ,aJ,aJ])) (by kernel_rfl) (fun X Z g=>?_) (fun n=>cF.ok Y (cP.t Y n)) n X Z (bL e (bL f (b0 h (b0 i (b0 j (g))))))
 obtain⟨M,a,aA,e,g⟩:=b2 g
 obtain⟨aM,aL,aK,f,g⟩:=b2 g
 obtain⟨b,h,g⟩:=bT g
 obtain⟨c,i,g⟩:=bT g
 obtain⟨d,j,g⟩:=bT g
 exact g
theorem P8.ok(Y:aF)(X:Fr)(Z:U)(g:cP.g (fun M a aA aM aL aK b c d Z=>∃ n,cP.t Y n M a aA aM aL aK b c d Z) X Z):den prog E (a6 aO [W,W,W,W,W,W,aJ]) (aV.then (a5.g Y) (bC E [.tmp 4] Y)) X Z:=
 e3 (by kernel_rfl) (cP.ok Y X Z g)
theorem P9.ok(Y:aF)(X:Fr)(Z:U)(g:cP.g (fun M a aA aM aL aK b c d Z=>∃ n,cP.t Y n M a aA aM aL aK b c d Z) X Z):den prog E (a6 aO [W,W,W,W,W,W]) (bC E [.tmp 4] Y) X Z:=
 fP (by kernel_rfl) (a5.ok Y) (P8.ok Y X Z g)
def lL.g(bP:S→Nat→Nat→S→Nat→Nat→Int→Int→Int→Int→Int→U→Prop)(X:Fr)(Z:U):Prop:=aR (X 0) fun M a aA=>aR (X 1) fun aM aL aK=>a0 .i64 (X 5) fun b=>a0 .u64 (X 7) fun c=>a0 .u64 (X 8) fun d=>a0 .u64 (X 9) fun e=>a0 .i64 (X 10) fun f=>bP M a aA aM aL aK b c d e f Z
def sW.t(Y:aF)(a:S→Nat→Nat→S→Nat→Nat→Int→Int→Int→Int→Int→U→Prop)(M:S)(b aA:Nat)(aM:S)(aL aK:Nat)(c d:Int)(e f g:Int)(Z:U):Prop:=
 cond (decide (g≤c)) (cond (decide (g < c)) (c6 aM aL g 1 fun h=>
 eO Z .u32 h fun h=>
 bB (IntKind.u64.wrap h) fun h=>
 bB (IntKind.u64.wrap (d*h)) fun h=>
 bB (IntKind.u64.wrap (e+h)) fun h=>
 bB (j1 .u64 h 4294967295) fun i=>
 bB (IntKind.u64.wrap (i+f)) fun i=>
 0≤(32:Int)∧bB (hG .u64 h 32) fun h=>
 c6 M b g 1 fun j=>
 eO Z .u32 j fun j=>
 bB (IntKind.u64.wrap j) fun j=>
 cond (decide (j < i)) (bB (IntKind.u64.wrap (j+4294967296)) fun k=>
 bB (IntKind.u64.wrap (k - i)) fun k=>
 bB (IntKind.u32.wrap k) fun k=>
 c6 M b g 1 fun l=>
 cM Z l (.int .u32 k) fun k=>
 bB (IntKind.i64.wrap (g+1)) fun l=>
 a M b aA aM aL aK c d h 1 l k) (bB (IntKind.u64.wrap (j - i)) fun i=>
 bB (IntKind.u32.wrap i) fun i=>
 c6 M b g 1 fun j=>
 cM Z j (.int .u32 i) fun i=>
 bB (IntKind.i64.wrap (g+1)) fun j=>
 a M b aA aM aL aK c d h 0 j i)) (bB (j1 .u64 e 4294967295) fun h=>
 bB (IntKind.u64.wrap (h+f)) fun h=>
 0≤(32:Int)∧bB (hG .u64 e 32) fun e=>
 c6 M b g 1 fun i=>
 eO Z .u32 i fun i=>
 bB (IntKind.u64.wrap i) fun i=>
 cond (decide (i < h)) (bB (IntKind.u64.wrap (i+4294967296)) fun j=>
 bB (IntKind.u64.wrap (j - h)) fun j=>
 bB (IntKind.u32.wrap j) fun j=>
 c6 M b g 1 fun k=>
 cM Z k (.int .u32 j) fun j=>
 bB (IntKind.i64.wrap (g+1)) fun k=>
 a M b aA aM aL aK c d e 1 k j) (bB (IntKind.u64.wrap (i - h)) fun h=>
 bB (IntKind.u32.wrap h) fun h=>
 c6 M b g 1 fun i=>
 cM Z i (.int .u32 h) fun h=>
 bB (IntKind.i64.wrap (g+1)) fun g=>
 a M b aA aM aL aK c d e 0 g h))) ((∃ n,cP.t Y n M b aA aM aL aK c d f Z))
def sW.g(Y:aF)(a:S→Nat→Nat→S→Nat→Nat→Int→Int→Int→Int→Int→U→Prop)(X:Fr)(Z:U):Prop:=aR (X 0) fun M b aA=>aR (X 1) fun aM aL aK=>a0 .i64 (X 5) fun c=>a0 .u64 (X 7) fun d=>a0 .u64 (X 8) fun e=>a0 .u64 (X 9) fun f=>a0 .i64 (X 10) fun h=>sW.t Y a M b aA aM aL aK c d e f h Z
theorem sW.ok(Y:aF)(a:S→Nat→Nat→S→Nat→Nat→Int→Int→Int→Int→Int→U→Prop)(X:Fr)(Z:U)(g:sW.g Y a X Z):den prog E (a6 aO [W,W,W,W,W,aJ,W,aJ,aJ]) (aV.then (lL.g a) (aV.inBlock 0 (aV.then (cP.g (fun M a aA aM aL aK b c d Z=>∃ n,cP.t Y n M a aA aM aL aK b c d Z)) (bC E [.tmp 4] Y)))) X Z:=
 bF g fun M a aA e g=>bF g fun aM aL aK f g=>bJ g fun b h g=>bJ g fun c i g=>bJ g fun j k g=>bJ g fun d l g=>bJ g fun m o g=>bV [(0,.slice M a aA),(1,.slice aM aL aK),(5,.int .i64 b),(7,.int .u64 c),(8,.int .u64 j),(9,.int .u64 d),(10,.int .i64 m)] ⟨e,f,h,i,k,l,o,trivial⟩ (by kernel_rfl) g
def lL.t(Y:aF):Nat→S→Nat→Nat→S→Nat→Nat→Int→Int→Int→Int→Int→U→Prop
 | 0=>fun _ _ _ _ _ _ _ _ _ _ _ _=>False
 | n+1=>fun M a aA aM aL aK b c d e f Z=>sW.t Y (lL.t Y n) M a aA aM aL aK b c d e f Z
theorem lL.ok(Y:aF)(X:Fr)(Z:U)(g:lL.g (fun M a aA aM aL aK b c e d f Z=>∃ n,lL.t Y n M a aA aM aL aK b c e d f Z) X Z):den prog E (a6 aO [W,W,W,W,W,aJ,W,aJ]) (aV.inBlock 0 (aV.then (cP.g (fun M a aA aM aL aK b c d Z=>∃ n,cP.t Y n M a aA aM aL aK b c d Z)) (bC E [.tmp 4] Y))) X Z:=by
 obtain⟨M,a,aA,h,g⟩:=b2 g
 obtain⟨aM,aL,aK,i,g⟩:=b2 g
 obtain⟨b,j,g⟩:=bT g
 obtain⟨c,k,g⟩:=bT g
 obtain⟨e,l,g⟩:=bT g
 obtain⟨d,m,g⟩:=bT g
 obtain⟨f,o,g⟩:=bT g
 obtain⟨n,g⟩:=g
 refine fF (fun n=>lL.g (lL.t Y n)) (K:=(a6 aO [W,W,W,W,W,aJ,W,aJ,aJ])) (by kernel_rfl) (fun X Z g=>?_) (fun n=>sW.ok Y (lL.t Y n)) n X Z (bL h (bL i (b0 j (b0 k (b0 l (b0 m (b0 o (g))))))))
 obtain⟨M,a,aA,h,g⟩:=b2 g
 obtain⟨aM,aL,aK,i,g⟩:=b2 g
 obtain⟨b,j,g⟩:=bT g
 obtain⟨c,k,g⟩:=bT g
 obtain⟨e,l,g⟩:=bT g
 obtain⟨d,m,g⟩:=bT g
 obtain⟨f,o,g⟩:=bT g
 exact g
theorem Qa.ok(Y:aF)(X:Fr)(Z:U)(g:lL.g (fun M a aA aM aL aK b c d e f Z=>∃ n,lL.t Y n M a aA aM aL aK b c d e f Z) X Z):den prog E (a6 aO [W,W,W,W,W,aJ,W]) (aV.then (cP.g (fun M a aA aM aL aK b c e Z=>∃ n,cP.t Y n M a aA aM aL aK b c e Z)) (bC E [.tmp 4] Y)) X Z:=
 e3 (by kernel_rfl) (lL.ok Y X Z g)
def sX.t(Y:aF)(M:S)(a aA:Nat)(aM:S)(aL aK:Nat)(b c:Int)(d e:Int)(Z:U):Prop:=
 (∃ n,lL.t Y n M a aA aM aL aK b c d e 0 Z)
def sX.g(Y:aF)(X:Fr)(Z:U):Prop:=aR (X 0) fun M a aA=>aR (X 1) fun aM aL aK=>a0 .i64 (X 5) fun b=>a0 .u64 (X 7) fun c=>a0 .u64 (X 8) fun d=>a0 .u64 (X 9) fun e=>sX.t Y M a aA aM aL aK b c d e Z
theorem sX.ok(Y:aF)(X:Fr)(Z:U)(g:sX.g Y X Z):den prog E (a6 aO [W,W,W,W,W,aJ]) (aV.then (cP.g (fun M a aA aM aL aK b c d Z=>∃ n,cP.t Y n M a aA aM aL aK b c d Z)) (bC E [.tmp 4] Y)) X Z:=
 bF g fun M a aA e g=>bF g fun aM aL aK f g=>bJ g fun b h g=>bJ g fun c i g=>bJ g fun j k g=>bJ g fun d l g=>c5 1 (r:=(a6 aO [W,W,W,W,W,aJ,W])) (by kernel_rfl) (Qa.ok Y) (bV [(0,.slice M a aA),(1,.slice aM aL aK),(5,.int .i64 b),(7,.int .u64 c),(8,.int .u64 j),(9,.int .u64 d)] ⟨e,f,h,i,k,l,trivial⟩ (by kernel_rfl) g)
theorem Qb.ok(Y:aF)(X:Fr)(Z:U)(g:sX.g Y X Z):den prog E (a6 aO [W,W,W,W,W]) (bC E [.tmp 4] Y) X Z:=
 fP (by kernel_rfl) (P9.ok Y) (sX.ok Y X Z g)
def aP.t(Y:aF)(M:S)(a aA:Nat)(aM:S)(aL aK:Nat)(Z:U):Prop:=
 c6 M a (((aL:Nat):Int)) 1 fun cQ=>
 eO Z .u32 cQ fun b=>
 bB (IntKind.u64.wrap b) fun b=>
 0≤(32:Int)∧bB (iQ .u64 b 32) fun b=>
 bB (IntKind.i64.wrap ((((aL:Nat):Int)) - 1)) fun c=>
 c6 M a c 1 fun c=>
 eO Z .u32 c fun c=>
 bB (IntKind.u64.wrap c) fun c=>
 bB (IntKind.u64.wrap (b+c)) fun b=>
 bB (IntKind.i64.wrap ((((aL:Nat):Int)) - 1)) fun c=>
 c6 aM aL c 1 fun c=>
 eO Z .u32 c fun c=>
 bB (IntKind.u64.wrap c) fun c=>
 c ≠ 0∧bB (IntKind.u64.wrap (Int.tdiv b c)) fun b=>
 sX.t Y M a aA aM aL aK (((aL:Nat):Int)) (if 4294967295 < b then 4294967295 else b) 0 0 Z
def aP.g(Y:aF)(X:Fr)(Z:U):Prop:=aR (X 0) fun M a aA=>aR (X 1) fun aM aL aK=>aP.t Y M a aA aM aL aK Z
theorem aP.ok(Y:aF)(X:Fr)(Z:U)(g:aP.g Y X Z):den prog E aO (bC E [.tmp 4] Y) X Z:=
 bF g fun M a aA b g=>bF g fun aM aL aK c g=>c5 5 (r:=(a6 aO [W,W,W,W,W])) (by kernel_rfl) (Qb.ok Y) (bV [(0,.slice M a aA),(1,.slice aM aL aK)] ⟨b,c,trivial⟩ (by kernel_rfl) g)
def t(M:S)(a aA:Nat)(aM:S)(aL aK:Nat)(Z:U)(Y:aF):Prop:=aP.t Y M a aA aM aL aK Z
theorem ok{M:S}{a:Nat}{aA:Nat}{aM:S}{aL:Nat}{aK:Nat}{Z:U}{Y:aF}(g:t M a aA aM aL aK Z Y):a4 id #[.slice M a aA,.slice aM aL aK] Z Y:=
 eD dT (c:=aO) (dH:=[.tmp 4]) Tryz.func99 (by kernel_rfl) (by kernel_rfl) (by kernel_rfl) (args:=[.slice M a aA,.slice aM aL aK]) (by kernel_rfl) (aP.ok Y _ Z (bL rfl (bL rfl (g))))
end h1
end Go.Proofs.YtjijdlkpmngolaaGreat.G
