import Derived.Test.YtjijdlkpmngolaaGreatKE
set_option linter.unusedVariables false
namespace Go.Proofs.YtjijdlkpmngolaaGreat.G
open Go.Gv
set_option linter.unusedVariables false
set_option maxRecDepth 100000
namespace nP
noncomputable def aO:Code:=dK Tryz.f44
def bF.t(Y:aD)(a b:Addr)(c:Int)(d e f:Addr)(Z:U):Prop:=
 f.block < Z.size∧eN Z (f.add 0) fun g=>
 dO Z (f.add 1) fun h i j=>
 d.block < Z.size∧eN Z (d.add 0) fun k=>
 dO Z (d.add 1) fun d l m=>
 aY k4.id #[.agg #[.bool k,.slice d l m],.int .i64 1] Z fun d k=>
 eG d fun d=>
 fH d fun d l=>
 cP l fun l m n o=>
 b5 o <| (eT Z.size Z k)∧f.block < Z.size∧eN k (f.add 0) fun o=>
 dO k (f.add 1) fun f p q=>
 e.block < Z.size∧eN k (e.add 0) fun r=>
 dO k (e.add 1) fun e s u=>
 aY oW.id #[.agg #[.bool o,.slice f p q],.agg #[.bool r,.slice e s u]] k fun e f=>
 eG e fun e=>
 fH e fun e o=>
 cP o fun o p q r=>
 b5 r <| (eT Z.size k f)∧aY k5.id #[.agg #[.bool d,.slice l m n],.agg #[.bool e,.slice o p q]] f fun d e=>
 eG d fun d=>
 fH d fun d k=>
 cP k fun k l m n=>
 b5 n <| (eT Z.size f e)∧a5 (IntKind.i64.wrap (c+1)) fun c=>
 aY lZ.id #[.agg #[.bool d,.slice k l m],.int .i64 c] e fun c d=>
 eG c fun c=>
 fH c fun c f=>
 cP f fun f k l m=>
 b5 m <| (eT Z.size e d)∧cC d (a.add 0) (.bool g) fun d=>
 cC d (a.add 1) (.slice h i j) fun d=>
 cC d (b.add 0) (.bool c) fun c=>
 cC c (b.add 1) (.slice f k l) fun c=>
 eN c (a.add 0) fun d=>
 dO c (a.add 1) fun a e f=>
 eN c (b.add 0) fun g=>
 dO c (b.add 1) fun b h i=>
 Y (.tuple #[.agg #[.bool d,.slice a e f],.agg #[.bool g,.slice b h i]]) c
def bF.g(Y:aD)(X:Fr)(Z:U):Prop:=gH (X 6) fun a=>gH (X 7) fun b=>aW .i64 (X 8) fun c=>gH (X 10) fun d=>gH (X 11) fun e=>gH (X 12) fun f=>bF.t Y a b c d e f Z
theorem bF.ok(Y:aD)(X:Fr)(Z:U)(g:bF.g Y X Z):den prog E (a3 aO [W,W,W,W,W,W,W]) (a8 E [.cell 6 82,.cell 7 82] Y) X Z:=
 hW g fun a b g=>hW g fun c d g=>bB g fun e f g=>hW g fun h i g=>hW g fun j k g=>hW g fun l m g=>bS [(6,.pointer (some a)),(7,.pointer (some c)),(8,.int .i64 e),(10,.pointer (some h)),(11,.pointer (some j)),(12,.pointer (some l))] ⟨b,d,f,i,k,m,trivial⟩ (by kernel_rfl) g
def a0.t(Y:aD)(a b:Addr)(c d:Int)(e:Addr)(Z:U):Prop:=
 aY oB.id #[.int .i64 d] Z fun d f=>
 aQ d fun d g h=>
 aY fR.id #[.bool false,.slice d g h] f fun d f=>
 eG d fun d=>
 fH d fun d g=>
 cP g fun g h i j=>
 b5 j <| dN f 82 h3.a6 fun f j=>
 cC j (f.add 0) (.bool d) fun d=>
 cC d (f.add 1) (.slice g h i) fun d=>
 e.block < d.size∧eN d (e.add 0) fun g=>
 dO d (e.add 1) fun h i j=>
 f.block < d.size∧eN d (f.add 0) fun k=>
 dO d (f.add 1) fun l m n=>
 (aY k4.id #[.agg #[.bool g,.slice h i j],.int .i64 1] d fun o p=>
 eG o fun o=>
 fH o fun o q=>
 cP q fun q r s u=>
 b5 u <| (eT d.size d p)∧(aY lK.id #[.agg #[.bool o,.slice q r s],.agg #[.bool k,.slice l m n]] p fun u v=>
 eG u fun u=>
 fH u fun u w=>
 cP w fun w x y z=>
 b5 z <| (eT d.size p v)∧dN v 82 h3.a6 fun z A=>
 (eT d.size v A)∧cC A (z.add 0) (.bool u) fun A=>
 cC A (z.add 1) (.slice w x y) fun A=>
 bF.t Y a b c e f z A)∧(dN p 82 h3.a6 fun A u=>
 (eT d.size p u)∧aY lK.id #[.agg #[.bool o,.slice q r s],.agg #[.bool k,.slice l m n]] u fun o p=>
 eG o fun o=>
 fH o fun o q=>
 cP q fun q r s v=>
 b5 v <| (eT d.size u p)∧cC p (A.add 0) (.bool o) fun o=>
 cC o (A.add 1) (.slice q r s) fun o=>
 bF.t Y a b c e f A o))∧(dN d 82 h3.a6 fun A o=>
 (eT d.size d o)∧aY k4.id #[.agg #[.bool g,.slice h i j],.int .i64 1] o fun g h=>
 eG g fun g=>
 fH g fun g i=>
 cP i fun i j p q=>
 b5 q <| (eT d.size o h)∧aY lK.id #[.agg #[.bool g,.slice i j p],.agg #[.bool k,.slice l m n]] h fun g i=>
 eG g fun g=>
 fH g fun g j=>
 cP j fun j k l m=>
 b5 m <| (eT d.size h i)∧cC i (A.add 0) (.bool g) fun d=>
 cC d (A.add 1) (.slice j k l) fun d=>
 bF.t Y a b c e f A d)
def a0.g(Y:aD)(X:Fr)(Z:U):Prop:=gH (X 6) fun a=>gH (X 7) fun b=>aW .i64 (X 8) fun c=>aW .i64 (X 9) fun d=>gH (X 10) fun e=>a0.t Y a b c d e Z
theorem a0.ok(Y:aD)(X:Fr)(Z:U)(g:a0.g Y X Z):den prog E (a3 aO [W,W,W,W,W]) (a8 E [.cell 6 82,.cell 7 82] Y) X Z:=
 hW g fun a b g=>hW g fun c d g=>bB g fun e f g=>bB g fun h i g=>hW g fun j k g=>c4 2 (r:=(a3 aO [W,W,W,W,W,W,W])) (by kernel_rfl) (bF.ok Y) (bS [(6,.pointer (some a)),(7,.pointer (some c)),(8,.int .i64 e),(9,.int .i64 h),(10,.pointer (some j))] ⟨b,d,f,i,k,trivial⟩ (by kernel_rfl) g)
def aL.t(Y:aD)(a:Bool)(b:M)(c d:Nat)(aM e:Int)(Z:U):Prop:=
 dN Z 82 [.bool a,.slice b c d] fun b8 a=>
 dN a 82 h3.a6 fun a b=>
 dN b 82 h3.a6 fun b c=>
 dO c (b8.add 1) fun d f g=>
 aY kK.id #[.slice d f g] c fun c fM=>
 aW .i64 c fun c=>
 a5 (IntKind.i64.wrap (c+aM)) fun c=>
 a5 (IntKind.i64.wrap ((if c > 0 then c else 0)+4)) fun c=>
 a5 (IntKind.i64.wrap (e+c)) fun d=>
 eN fM (b8.add 0) fun f=>
 dO fM (b8.add 1) fun g h i=>
 a5 (IntKind.i64.wrap (aM+d)) fun j=>
 aY sL.id #[.agg #[.bool f,.slice g h i],.int .i64 j] fM fun f g=>
 eG f fun f=>
 fH f fun f h=>
 cP h fun h i j k=>
 b5 k <| dN g 82 h3.a6 fun g k=>
 cC k (g.add 0) (.bool f) fun f=>
 cC f (g.add 1) (.slice h i j) fun f=>
 cond (c == 4) (eN f (g.add 0) fun h=>
 dO f (g.add 1) fun i j k=>
 aY uF.id #[.agg #[.bool h,.slice i j k]] f fun h i=>
 eG h fun h=>
 fH h fun h j=>
 cP j fun j k l m=>
 b5 m <| aY k4.id #[.agg #[.bool h,.slice j k l],.int .i64 2] i fun h i=>
 eG h fun h=>
 fH h fun h j=>
 cP j fun j k l m=>
 b5 m <| aY lL.id #[.int .i64 d] i fun i m=>
 aQ i fun i n o=>
 aY kL.id #[.slice i n o,.int .u32 3,.int .u32 0] m fun i m=>
 aQ i fun i n o=>
 aY fR.id #[.bool false,.slice i n o] m fun i m=>
 eG i fun i=>
 fH i fun i n=>
 cP n fun n o p q=>
 b5 q <| aY lY.id #[.agg #[.bool h,.slice j k l],.agg #[.bool i,.slice n o p]] m fun h i=>
 aW .i64 h fun h=>
 cond (decide (h≤0)) (eN i (b8.add 0) fun h=>
 dO i (b8.add 1) fun j k l=>
 a5 (IntKind.i64.wrap (aM+e)) fun e=>
 aY sL.id #[.agg #[.bool h,.slice j k l],.int .i64 e] i fun e h=>
 eG e fun e=>
 fH e fun e j=>
 cP j fun j k l m=>
 b5 m <| cC h (a.add 0) (.bool false) fun h=>
 cC h (a.add 1) (.slice none 0 0) fun h=>
 cC h (b.add 0) (.bool e) fun e=>
 cC e (b.add 1) (.slice j k l) fun e=>
 eN e (a.add 0) fun h=>
 dO e (a.add 1) fun j k l=>
 eN e (b.add 0) fun m=>
 dO e (b.add 1) fun n o p=>
 Y (.tuple #[.agg #[.bool h,.slice j k l],.agg #[.bool m,.slice n o p]]) e) (a0.t Y a b c d g i)) (a0.t Y a b c d g f)
def aL.g(Y:aD)(X:Fr)(Z:U):Prop:=eG (X 0) fun a=>cQ a fun a b=>eS a fun a=>cQ b fun b c=>aQ b fun b d e=>b5 c <| aW .i64 (X 1) fun aM=>aW .i64 (X 2) fun c=>aL.t Y a b d e aM c Z
theorem aL.ok(Y:aD)(X:Fr)(Z:U)(g:aL.g Y X Z):den prog E aO (a8 E [.cell 6 82,.cell 7 82] Y) X Z:=by
 obtain⟨o,a,b⟩:=iJ g
 obtain⟨p,q,rfl,c⟩:=e7 b
 obtain⟨d,rfl,e⟩:=iP c
 obtain⟨s,t,rfl,f⟩:=e7 e
 obtain⟨h,i,j,rfl,k⟩:=b4 f
 obtain⟨rfl,g⟩:=hU k
 obtain⟨aM,l,g⟩:=bN g
 obtain⟨m,n,g⟩:=bN g
 exact c4 5 (r:=(a3 aO [W,W,W,W,W])) (by kernel_rfl) (a0.ok Y) (bS [(0,.agg #[.bool d,.slice h i j]),(1,.int .i64 aM),(2,.int .i64 m)] ⟨a,l,n,trivial⟩ (by kernel_rfl) g)
def t(a:Bool)(b:M)(c d:Nat)(aM e:Int)(Z:U)(Y:aD):Prop:=aL.t Y a b c d aM e Z
theorem ok{a:Bool}{b:M}{d:Nat}{e:Nat}{aM:Int}{f:Int}{Z:U}{Y:aD}(g:t a b d e aM f Z Y):aY id #[.agg #[.bool a,.slice b d e],.int .i64 aM,.int .i64 f] Z Y:=
 dL dI (c:=aO) (dC:=[.cell 6 82,.cell 7 82]) Tryz.func44 (by kernel_rfl) (by kernel_rfl) (by kernel_rfl) (args:=[.agg #[.bool a,.slice b d e],.int .i64 aM,.int .i64 f]) (by kernel_rfl) (aL.ok Y _ Z (e5 rfl (cF (c5 rfl (cF (bE rfl (dR (bQ rfl (bQ rfl (g))))))))))
end nP
namespace fR
noncomputable def aO:Code:=dK Tryz.f45
def aL.t(Y:aD)(a:Bool)(aJ:M)(aI aG:Nat)(Z:U):Prop:=
 dN Z 82 h3.a6 fun b8 b=>
 aY gV.id #[.slice aJ aI aG] b fun b c=>
 aQ b fun b d e=>
 cond a (cC c (b8.add 0) (.bool (decide ((((d:Nat):Int)) > 0))) fun a=>
 cC a (b8.add 1) (.slice b d e) fun a=>
 eN a (b8.add 0) fun f=>
 dO a (b8.add 1) fun g h i=>
 Y (.agg #[.bool f,.slice g h i]) a) (cC c (b8.add 0) (.bool false) fun a=>
 cC a (b8.add 1) (.slice b d e) fun a=>
 eN a (b8.add 0) fun b=>
 dO a (b8.add 1) fun c d e=>
 Y (.agg #[.bool b,.slice c d e]) a)
def aL.g(Y:aD)(X:Fr)(Z:U):Prop:=eS (X 0) fun a=>aQ (X 1) fun aJ aI aG=>aL.t Y a aJ aI aG Z
theorem aL.ok(Y:aD)(X:Fr)(Z:U)(g:aL.g Y X Z):den prog E aO (a8 E [.cell 4 82] Y) X Z:=
 w4 g fun a b g=>bD g fun aJ aI aG c g=>bS [(0,.bool a),(1,.slice aJ aI aG)] ⟨b,c,trivial⟩ (by kernel_rfl) g
def t(a:Bool)(aJ:M)(aI aG:Nat)(Z:U)(Y:aD):Prop:=aL.t Y a aJ aI aG Z
theorem ok{a:Bool}{aJ:M}{aI:Nat}{aG:Nat}{Z:U}{Y:aD}(g:t a aJ aI aG Z Y):aY id #[.bool a,.slice aJ aI aG] Z Y:=
 dL dI (c:=aO) (dC:=[.cell 4 82]) Tryz.func45 (by kernel_rfl) (by kernel_rfl) (by kernel_rfl) (args:=[.bool a,.slice aJ aI aG]) (by kernel_rfl) (aL.ok Y _ Z (c5 rfl (bE rfl (g))))
end fR
namespace kP
noncomputable def aO:Code:=dK Tryz.f46
def aL.t(Y:aD)(a:Bool)(b:M)(c d:Nat)(Z:U):Prop:=
 dN Z 82 [.bool a,.slice b c d] fun b8 a=>
 dO a (b8.add 1) fun b b c=>
 cond ((((b:Nat):Int)) == 0) (Y (.int .i64 0) a) (eN a (b8.add 0) fun b=>
 cond b (Y (.int .i64 (-1)) a) (Y (.int .i64 1) a))
def aL.g(Y:aD)(X:Fr)(Z:U):Prop:=eG (X 0) fun a=>cQ a fun a b=>eS a fun a=>cQ b fun b c=>aQ b fun b d e=>b5 c <| aL.t Y a b d e Z
theorem aL.ok(Y:aD)(X:Fr)(Z:U)(g:aL.g Y X Z):den prog E aO (a8 E [.tmp 2] Y) X Z:=by
 obtain⟨l,a,b⟩:=iJ g
 obtain⟨m,n,rfl,c⟩:=e7 b
 obtain⟨d,rfl,e⟩:=iP c
 obtain⟨o,p,rfl,f⟩:=e7 e
 obtain⟨h,i,j,rfl,k⟩:=b4 f
 obtain⟨rfl,g⟩:=hU k
 exact bS [(0,.agg #[.bool d,.slice h i j])] ⟨a,trivial⟩ (by kernel_rfl) g
def t(a:Bool)(b:M)(c d:Nat)(Z:U)(Y:aD):Prop:=aL.t Y a b c d Z
theorem ok{a:Bool}{b:M}{d:Nat}{e:Nat}{Z:U}{Y:aD}(g:t a b d e Z Y):aY id #[.agg #[.bool a,.slice b d e]] Z Y:=
 dL dI (c:=aO) (dC:=[.tmp 2]) Tryz.func46 (by kernel_rfl) (by kernel_rfl) (by kernel_rfl) (args:=[.agg #[.bool a,.slice b d e]]) (by kernel_rfl) (aL.ok Y _ Z (e5 rfl (cF (c5 rfl (cF (bE rfl (dR (g))))))))
end kP
namespace kT
noncomputable def aO:Code:=dK Tryz.f47
def aL.t(Y:aD)(a:M)(b c:Nat)(aM:Int)(Z:U):Prop:=
 cond (decide (aM≤0)) (aY gV.id #[.slice a b c] Z fun d e=>
 aQ d fun d f g=>
 Y (.slice d f g) e) ((32:Int) ≠ 0∧a5 (IntKind.i64.wrap (Int.tdiv aM 32)) fun d=>
 cond (decide (d≥(((b:Nat):Int)))) (aY gF.id #[.int .u64 0] Z fun d e=>
 aQ d fun d f g=>
 Y (.slice d f g) e) ((32:Int) ≠ 0∧a5 (IntKind.i64.wrap (Int.tdiv aM 32)) fun d=>
 iD 1 a b c (some (.int .i64 d)) none none fun a b c=>
 (32:Int) ≠ 0∧a5 (Int.tmod aM 32) fun d=>
 0≤d∧a5 (h4 .u32 1 d) fun d=>
 aY jM.id #[.slice a b c,.int .u32 d] Z fun a b=>
 cT a fun a=>
 cP a fun a c d e=>
 dJ e .u32 fun e e=>
 b5 e <| Y (.slice a c d) b))
def aL.g(Y:aD)(X:Fr)(Z:U):Prop:=aQ (X 0) fun a b c=>aW .i64 (X 1) fun aM=>aL.t Y a b c aM Z
theorem aL.ok(Y:aD)(X:Fr)(Z:U)(g:aL.g Y X Z):den prog E aO (a8 E [.tmp 4] Y) X Z:=
 bD g fun a b c d g=>bB g fun aM e g=>bS [(0,.slice a b c),(1,.int .i64 aM)] ⟨d,e,trivial⟩ (by kernel_rfl) g
def t(a:M)(b c:Nat)(aM:Int)(Z:U)(Y:aD):Prop:=aL.t Y a b c aM Z
theorem ok{a:M}{b:Nat}{d:Nat}{aM:Int}{Z:U}{Y:aD}(g:t a b d aM Z Y):aY id #[.slice a b d,.int .i64 aM] Z Y:=
 dL dI (c:=aO) (dC:=[.tmp 4]) Tryz.func47 (by kernel_rfl) (by kernel_rfl) (by kernel_rfl) (args:=[.slice a b d,.int .i64 aM]) (by kernel_rfl) (aL.ok Y _ Z (bE rfl (bQ rfl (g))))
end kT
namespace oB
noncomputable def aO:Code:=dK Tryz.f48
def dA.g(a:Int→Int→U→Prop)(X:Fr)(Z:U):Prop:=aW .i64 (X 0) fun aS=>aW .i64 (X 3) fun b=>a aS b Z
def bF.t(Y:aD)(bX:Int→Int→U→Prop)(aS a:Int)(Z:U):Prop:=
 a5 (IntKind.i64.wrap (aS+a)) fun dY=>
 aY l0.id #[.int .u32 18,.int .i64 dY] Z fun b c=>
 cT b fun b=>
 cP b fun b d e f=>
 dJ f .i64 fun f g=>
 b5 g <| a5 (IntKind.i64.wrap (aS+a)) fun g=>
 aY l0.id #[.int .u32 57,.int .i64 g] c fun c g=>
 cT c fun c=>
 cP c fun c h i j=>
 dJ j .i64 fun j k=>
 b5 k <| a5 (IntKind.i64.wrap (aS+a)) fun k=>
 aY l0.id #[.int .u32 239,.int .i64 k] g fun g k=>
 cT g fun g=>
 cP g fun g l m n=>
 dJ n .i64 fun n o=>
 b5 o <| aY kL.id #[.slice b d e,.int .u32 48,.int .u32 0] k fun b d=>
 aQ b fun b e k=>
 aY kL.id #[.slice c h i,.int .u32 32,.int .u32 0] d fun c d=>
 aQ c fun c h i=>
 aY gS.id #[.slice b e k,.slice c h i] d fun b c=>
 aQ b fun b d e=>
 aY kL.id #[.slice g l m,.int .u32 20,.int .u32 0] c fun c g=>
 aQ c fun c h i=>
 aY g1.id #[.slice b d e,.slice c h i] g fun b c=>
 aQ b fun b d e=>
 a5 (IntKind.i64.wrap (f+2)) fun f=>
 a5 (IntKind.i64.wrap (48*f)) fun f=>
 a5 (IntKind.i64.wrap (j+2)) fun g=>
 a5 (IntKind.i64.wrap (32*g)) fun g=>
 a5 (IntKind.i64.wrap (f+g)) fun f=>
 a5 (IntKind.i64.wrap (n+2)) fun g=>
 a5 (IntKind.i64.wrap (20*g)) fun g=>
 a5 (IntKind.i64.wrap (f+g)) fun f=>
 a5 (IntKind.i64.wrap (4*f)) fun f=>
 aY tV.id #[.int .i64 f] c fun c f=>
 aQ c fun c g h=>
 aY g1.id #[.slice b d e,.slice c g h] f fun f i=>
 aQ f fun f j k=>
 aY kT.id #[.slice f j k,.int .i64 a] i fun f i=>
 aQ f fun f j k=>
 aY gS.id #[.slice b d e,.slice c g h] i fun b c=>
 aQ b fun b d e=>
 aY kT.id #[.slice b d e,.int .i64 a] c fun b c=>
 aQ b fun b d e=>
 aY hZ.id #[.slice f j k,.slice b d e] c fun b c=>
 aW .i64 b fun b=>
 cond (b == 0) (Y (.slice f j k) c) (a5 (IntKind.i64.wrap (a*2)) fun a=>
 bX aS a c)
def bF.g(Y:aD)(bX:Int→Int→U→Prop)(X:Fr)(Z:U):Prop:=aW .i64 (X 0) fun aS=>aW .i64 (X 3) fun a=>bF.t Y bX aS a Z
theorem bF.ok(Y:aD)(bX:Int→Int→U→Prop)(X:Fr)(Z:U)(g:bF.g Y bX X Z):den prog E (a3 aO [W,W,W,aT,aT]) (a1.then (dA.g bX) (a1.inBlock 0 (a8 E [.tmp 2] Y))) X Z:=
 bB g fun aS a g=>bB g fun b c g=>bS [(0,.int .i64 aS),(3,.int .i64 b)] ⟨a,c,trivial⟩ (by kernel_rfl) g
def dA.t(Y:aD):Nat→Int→Int→U→Prop
 | 0=>fun _ _ _=>False
 | n+1=>fun aS a Z=>bF.t Y (dA.t Y n) aS a Z
theorem dA.ok(Y:aD)(X:Fr)(Z:U)(g:dA.g (fun aS a Z=>∃ n,dA.t Y n aS a Z) X Z):den prog E (a3 aO [W,W,W,aT]) (a1.inBlock 0 (a8 E [.tmp 2] Y)) X Z:=by
 obtain⟨aS,b,g⟩:=bN g
 obtain⟨a,c,g⟩:=bN g
 obtain⟨n,g⟩:=g
 refine fK (fun n=>dA.g (dA.t Y n)) (L:=(a3 aO [W,W,W,aT,aT])) (by kernel_rfl) (fun X Z g=>?_) (fun n=>bF.ok Y (dA.t Y n)) n X Z (bQ b (bQ c (g)))
 obtain⟨aS,b,g⟩:=bN g
 obtain⟨a,c,g⟩:=bN g
 exact g
theorem fN.ok(Y:aD)(X:Fr)(Z:U)(g:dA.g (fun aS a Z=>∃ n,dA.t Y n aS a Z) X Z):den prog E (a3 aO [W,W,W]) (a8 E [.tmp 2] Y) X Z:=
 fC (by kernel_rfl) (dA.ok Y X Z g)
def aL.t(Y:aD)(aS:Int)(Z:U):Prop:=
 (∃ n,dA.t Y n (if 0 > aS then 0 else aS) 64 Z)
def aL.g(Y:aD)(X:Fr)(Z:U):Prop:=aW .i64 (X 0) fun aS=>aL.t Y aS Z
theorem aL.ok(Y:aD)(X:Fr)(Z:U)(g:aL.g Y X Z):den prog E aO (a8 E [.tmp 2] Y) X Z:=
 bB g fun aS a g=>c4 3 (r:=(a3 aO [W,W,W])) (by kernel_rfl) (fN.ok Y) (bS [(0,.int .i64 aS)] ⟨a,trivial⟩ (by kernel_rfl) g)
def t(aS:Int)(Z:U)(Y:aD):Prop:=aL.t Y aS Z
theorem ok{aS:Int}{Z:U}{Y:aD}(g:t aS Z Y):aY id #[.int .i64 aS] Z Y:=
 dL dI (c:=aO) (dC:=[.tmp 2]) Tryz.func48 (by kernel_rfl) (by kernel_rfl) (by kernel_rfl) (args:=[.int .i64 aS]) (by kernel_rfl) (aL.ok Y _ Z (bQ rfl (g)))
end oB
namespace g1
noncomputable def aO:Code:=dK Tryz.f49
def a0.t(Y:aD)(bP:M)(a bO:Nat)(Z:U):Prop:=
 aY gV.id #[.slice bP a bO] Z fun a fM=>
 aQ a fun a b c=>
 Y (.slice a b c) fM
def a0.g(Y:aD)(X:Fr)(Z:U):Prop:=aQ (X 5) fun bP a bO=>a0.t Y bP a bO Z
theorem a0.ok(Y:aD)(X:Fr)(Z:U)(g:a0.g Y X Z):den prog E (a3 aO [W,W,W,W,W]) (a8 E [.tmp 4] Y) X Z:=
 bD g fun bP a bO b g=>bS [(5,.slice bP a bO)] ⟨b,trivial⟩ (by kernel_rfl) g
def bL.g(a:M→Nat→Nat→M→Nat→Nat→M→Nat→Nat→Int→Int→U→Prop)(X:Fr)(Z:U):Prop:=aQ (X 0) fun b c d=>aQ (X 1) fun aJ aI aG=>aQ (X 5) fun bP e bO=>aW .u64 (X 6) fun f=>aW .i64 (X 7) fun h=>a b c d aJ aI aG bP e bO f h Z
def b7.t(Y:aD)(a:M→Nat→Nat→M→Nat→Nat→M→Nat→Nat→Int→Int→U→Prop)(b:M)(c d:Nat)(aJ:M)(aI aG:Nat)(bP:M)(e bO:Nat)(f g:Int)(Z:U):Prop:=
 cond (decide (g < (((c:Nat):Int)))) (cond (decide (g < (((aI:Nat):Int)))) (c7 aJ aI g 1 fun h=>
 cY Z .u32 h fun h=>
 a5 (IntKind.u64.wrap h) fun h=>
 a5 (IntKind.u64.wrap (f+h)) fun h=>
 c7 b c g 1 fun i=>
 cY Z .u32 i fun i=>
 a5 (IntKind.u64.wrap i) fun i=>
 cond (decide (i < h)) (a5 (IntKind.u64.wrap (i+4294967296)) fun j=>
 a5 (IntKind.u64.wrap (j - h)) fun j=>
 a5 (IntKind.u32.wrap j) fun j=>
 dN Z 89 [.int .u32 j] fun j k=>
 hF k 89 iG bP e bO (.slice (some j) 1 1) fun j k l m=>
 a5 (IntKind.i64.wrap (g+1)) fun n=>
 a b c d aJ aI aG j k l 1 n m) (a5 (IntKind.u64.wrap (i - h)) fun h=>
 a5 (IntKind.u32.wrap h) fun h=>
 dN Z 89 [.int .u32 h] fun h i=>
 hF i 89 iG bP e bO (.slice (some h) 1 1) fun h i j k=>
 a5 (IntKind.i64.wrap (g+1)) fun l=>
 a b c d aJ aI aG h i j 0 l k)) (c7 b c g 1 fun h=>
 cY Z .u32 h fun h=>
 a5 (IntKind.u64.wrap h) fun h=>
 cond (decide (h < f)) (a5 (IntKind.u64.wrap (h+4294967296)) fun i=>
 a5 (IntKind.u64.wrap (i - f)) fun i=>
 a5 (IntKind.u32.wrap i) fun i=>
 dN Z 89 [.int .u32 i] fun i j=>
 hF j 89 iG bP e bO (.slice (some i) 1 1) fun i j k l=>
 a5 (IntKind.i64.wrap (g+1)) fun m=>
 a b c d aJ aI aG i j k 1 m l) (a5 (IntKind.u64.wrap (h - f)) fun f=>
 a5 (IntKind.u32.wrap f) fun f=>
 dN Z 89 [.int .u32 f] fun f h=>
 hF h 89 iG bP e bO (.slice (some f) 1 1) fun f h i j=>
 a5 (IntKind.i64.wrap (g+1)) fun g=>
 a b c d aJ aI aG f h i 0 g j))) (a0.t Y bP e bO Z)
def b7.g(Y:aD)(a:M→Nat→Nat→M→Nat→Nat→M→Nat→Nat→Int→Int→U→Prop)(X:Fr)(Z:U):Prop:=aQ (X 0) fun b c d=>aQ (X 1) fun aJ aI aG=>aQ (X 5) fun bP e bO=>aW .u64 (X 6) fun f=>aW .i64 (X 7) fun h=>b7.t Y a b c d aJ aI aG bP e bO f h Z
theorem b7.ok(Y:aD)(a:M→Nat→Nat→M→Nat→Nat→M→Nat→Nat→Int→Int→U→Prop)(X:Fr)(Z:U)(g:b7.g Y a X Z):den prog E (a3 aO [W,W,W,W,aT,W,aT,aT]) (a1.then (bL.g a) (a1.inBlock 0 (a1.then (a0.g Y) (a8 E [.tmp 4] Y)))) X Z:=
 bD g fun a b c d g=>bD g fun aJ aI aG e g=>bD g fun bP f bO h g=>bB g fun i j g=>bB g fun k l g=>bS [(0,.slice a b c),(1,.slice aJ aI aG),(5,.slice bP f bO),(6,.int .u64 i),(7,.int .i64 k)] ⟨d,e,h,j,l,trivial⟩ (by kernel_rfl) g
def bL.t(Y:aD):Nat→M→Nat→Nat→M→Nat→Nat→M→Nat→Nat→Int→Int→U→Prop
 | 0=>fun _ _ _ _ _ _ _ _ _ _ _ _=>False
 | n+1=>fun a b c aJ aI aG bP d bO e f Z=>b7.t Y (bL.t Y n) a b c aJ aI aG bP d bO e f Z
theorem bL.ok(Y:aD)(X:Fr)(Z:U)(g:bL.g (fun a b c aJ aI aG bP d bO e f Z=>∃ n,bL.t Y n a b c aJ aI aG bP d bO e f Z) X Z):den prog E (a3 aO [W,W,W,W,aT,W,aT]) (a1.inBlock 0 (a1.then (a0.g Y) (a8 E [.tmp 4] Y))) X Z:=by
 obtain⟨a,b,c,h,g⟩:=b4 g
 obtain⟨aJ,aI,aG,i,g⟩:=b4 g
 obtain⟨bP,d,bO,j,g⟩:=b4 g
 obtain⟨e,k,g⟩:=bN g
 obtain⟨f,l,g⟩:=bN g
 obtain⟨n,g⟩:=g
 refine fK (fun n=>bL.g (bL.t Y n)) (L:=(a3 aO [W,W,W,W,aT,W,aT,aT])) (by kernel_rfl) (fun X Z g=>?_) (fun n=>b7.ok Y (bL.t Y n)) n X Z (bE h (bE i (bE j (bQ k (bQ l (g))))))
 obtain⟨a,b,c,h,g⟩:=b4 g
 obtain⟨aJ,aI,aG,i,g⟩:=b4 g
 obtain⟨bP,d,bO,j,g⟩:=b4 g
 obtain⟨e,k,g⟩:=bN g
 obtain⟨f,l,g⟩:=bN g
 exact g
theorem g3.ok(Y:aD)(X:Fr)(Z:U)(g:bL.g (fun a b c aJ aI aG bP d bO e f Z=>∃ n,bL.t Y n a b c aJ aI aG bP d bO e f Z) X Z):den prog E (a3 aO [W,W,W,W,aT,W]) (a1.then (a0.g Y) (a8 E [.tmp 4] Y)) X Z:=
 fC (by kernel_rfl) (bL.ok Y X Z g)
def bF.t(Y:aD)(a:M)(b c:Nat)(aJ:M)(aI aG:Nat)(bP:M)(d bO:Nat)(e:Int)(Z:U):Prop:=
 (∃ n,bL.t Y n a b c aJ aI aG bP d bO e 0 Z)
def bF.g(Y:aD)(X:Fr)(Z:U):Prop:=aQ (X 0) fun a b c=>aQ (X 1) fun aJ aI aG=>aQ (X 5) fun bP d bO=>aW .u64 (X 6) fun e=>bF.t Y a b c aJ aI aG bP d bO e Z
theorem bF.ok(Y:aD)(X:Fr)(Z:U)(g:bF.g Y X Z):den prog E (a3 aO [W,W,W,W,aT]) (a1.then (a0.g Y) (a8 E [.tmp 4] Y)) X Z:=
 bD g fun a b c d g=>bD g fun aJ aI aG e g=>bD g fun bP f bO h g=>bB g fun i j g=>c4 1 (r:=(a3 aO [W,W,W,W,aT,W])) (by kernel_rfl) (g3.ok Y) (bS [(0,.slice a b c),(1,.slice aJ aI aG),(5,.slice bP f bO),(6,.int .u64 i)] ⟨d,e,h,j,trivial⟩ (by kernel_rfl) g)
theorem g4.ok(Y:aD)(X:Fr)(Z:U)(g:bF.g Y X Z):den prog E (a3 aO [W,W,W,W]) (a8 E [.tmp 4] Y) X Z:=
 gA (by kernel_rfl) (a0.ok Y) (bF.ok Y X Z g)
def aL.t(Y:aD)(a:M)(b c:Nat)(aJ:M)(aI aG:Nat)(Z:U):Prop:=
 aY hZ.id #[.slice a b c,.slice aJ aI aG] Z fun d e=>
 aW .i64 d fun d=>
 cond (decide (d≤0)) (aY gF.id #[.int .u64 0] e fun d f=>
 aQ d fun d g h=>
 Y (.slice d g h) f) (iI e 89 iG 0 (((b:Nat):Int)) fun d e=>
 bF.t Y a b c aJ aI aG (some d) ((0:Int).toNat) ((((b:Nat):Int)).toNat) 0 e)
def aL.g(Y:aD)(X:Fr)(Z:U):Prop:=aQ (X 0) fun a b c=>aQ (X 1) fun aJ aI aG=>aL.t Y a b c aJ aI aG Z
theorem aL.ok(Y:aD)(X:Fr)(Z:U)(g:aL.g Y X Z):den prog E aO (a8 E [.tmp 4] Y) X Z:=
 bD g fun a b c d g=>bD g fun aJ aI aG e g=>c4 4 (r:=(a3 aO [W,W,W,W])) (by kernel_rfl) (g4.ok Y) (bS [(0,.slice a b c),(1,.slice aJ aI aG)] ⟨d,e,trivial⟩ (by kernel_rfl) g)
def t(a:M)(b c:Nat)(aJ:M)(aI aG:Nat)(Z:U)(Y:aD):Prop:=aL.t Y a b c aJ aI aG Z
theorem ok{a:M}{b:Nat}{d:Nat}{aJ:M}{aI:Nat}{aG:Nat}{Z:U}{Y:aD}(g:t a b d aJ aI aG Z Y):aY id #[.slice a b d,.slice aJ aI aG] Z Y:=
 dL dI (c:=aO) (dC:=[.tmp 4]) Tryz.func49 (by kernel_rfl) (by kernel_rfl) (by kernel_rfl) (args:=[.slice a b d,.slice aJ aI aG]) (by kernel_rfl) (aL.ok Y _ Z (bE rfl (bE rfl (g))))
end g1
namespace gV
noncomputable def aO:Code:=dK Tryz.f50
def a0.t(Y:aD)(a:M)(b c:Nat)(d:Int)(Z:U):Prop:=
 iI Z 89 iG d d fun b8 e=>
 iD 1 a b c none (some (.int .i64 d)) none fun a b c=>
 m3 e 1 (some b8) d.toNat (.slice a b c) fun a a=>
 Y (.slice (some b8) d.toNat d.toNat) a
def a0.g(Y:aD)(X:Fr)(Z:U):Prop:=aQ (X 0) fun a b c=>aW .i64 (X 3) fun d=>a0.t Y a b c d Z
theorem a0.ok(Y:aD)(X:Fr)(Z:U)(g:a0.g Y X Z):den prog E (a3 aO [W,W,W]) (a8 E [.tmp 2] Y) X Z:=
 bD g fun a b c d g=>bB g fun e f g=>bS [(0,.slice a b c),(3,.int .i64 e)] ⟨d,f,trivial⟩ (by kernel_rfl) g
def cK.g(a:M→Nat→Nat→Int→U→Prop)(X:Fr)(Z:U):Prop:=aQ (X 0) fun b c d=>aW .i64 (X 3) fun e=>a b c d e Z
def cE.t(Y:aD)(a:M→Nat→Nat→Int→U→Prop)(b:M)(c d:Nat)(e:Int)(Z:U):Prop:=
 cond (decide (e > 0)) (a5 (IntKind.i64.wrap (e - 1)) fun f=>
 c7 b c f 1 fun f=>
 cY Z .u32 f fun f=>
 cond (f == 0) (a5 (IntKind.i64.wrap (e - 1)) fun f=>
 a b c d f Z) (a0.t Y b c d e Z)) (a0.t Y b c d e Z)
def cE.g(Y:aD)(a:M→Nat→Nat→Int→U→Prop)(X:Fr)(Z:U):Prop:=aQ (X 0) fun b c d=>aW .i64 (X 3) fun e=>cE.t Y a b c d e Z
theorem cE.ok(Y:aD)(a:M→Nat→Nat→Int→U→Prop)(X:Fr)(Z:U)(g:cE.g Y a X Z):den prog E (a3 aO [W,W,aT,aT,aT]) (a1.then (cK.g a) (a1.inBlock 0 (a1.then (a0.g Y) (a8 E [.tmp 2] Y)))) X Z:=
 bD g fun a b c d g=>bB g fun e f g=>bS [(0,.slice a b c),(3,.int .i64 e)] ⟨d,f,trivial⟩ (by kernel_rfl) g
def cK.t(Y:aD):Nat→M→Nat→Nat→Int→U→Prop
 | 0=>fun _ _ _ _ _=>False
 | n+1=>fun a b c d Z=>cE.t Y (cK.t Y n) a b c d Z
theorem cK.ok(Y:aD)(X:Fr)(Z:U)(g:cK.g (fun a b c d Z=>∃ n,cK.t Y n a b c d Z) X Z):den prog E (a3 aO [W,W,aT,aT]) (a1.inBlock 0 (a1.then (a0.g Y) (a8 E [.tmp 2] Y))) X Z:=by
 obtain⟨a,b,c,e,g⟩:=b4 g
 obtain⟨d,f,g⟩:=bN g
 obtain⟨n,g⟩:=g
 refine fK (fun n=>cK.g (cK.t Y n)) (L:=(a3 aO [W,W,aT,aT,aT])) (by kernel_rfl) (fun X Z g=>?_) (fun n=>cE.ok Y (cK.t Y n)) n X Z (bE e (bQ f (g)))
 obtain⟨a,b,c,e,g⟩:=b4 g
 obtain⟨d,f,g⟩:=bN g
 exact g
theorem hR.ok(Y:aD)(X:Fr)(Z:U)(g:cK.g (fun a b c d Z=>∃ n,cK.t Y n a b c d Z) X Z):den prog E (a3 aO [W,W,aT]) (a1.then (a0.g Y) (a8 E [.tmp 2] Y)) X Z:=
 fC (by kernel_rfl) (cK.ok Y X Z g)
theorem q9.ok(Y:aD)(X:Fr)(Z:U)(g:cK.g (fun a b c d Z=>∃ n,cK.t Y n a b c d Z) X Z):den prog E (a3 aO [W,W]) (a8 E [.tmp 2] Y) X Z:=
 gA (by kernel_rfl) (a0.ok Y) (hR.ok Y X Z g)
def aL.t(Y:aD)(a:M)(b c:Nat)(Z:U):Prop:=
 (∃ n,cK.t Y n a b c (((b:Nat):Int)) Z)
def aL.g(Y:aD)(X:Fr)(Z:U):Prop:=aQ (X 0) fun a b c=>aL.t Y a b c Z
theorem aL.ok(Y:aD)(X:Fr)(Z:U)(g:aL.g Y X Z):den prog E aO (a8 E [.tmp 2] Y) X Z:=
 bD g fun a b c d g=>c4 2 (r:=(a3 aO [W,W])) (by kernel_rfl) (q9.ok Y) (bS [(0,.slice a b c)] ⟨d,trivial⟩ (by kernel_rfl) g)
def t(a:M)(b c:Nat)(Z:U)(Y:aD):Prop:=aL.t Y a b c Z
theorem ok{a:M}{b:Nat}{d:Nat}{Z:U}{Y:aD}(g:t a b d Z Y):aY id #[.slice a b d] Z Y:=
 dL dI (c:=aO) (dC:=[.tmp 2]) Tryz.func50 (by kernel_rfl) (by kernel_rfl) (by kernel_rfl) (args:=[.slice a b d]) (by kernel_rfl) (aL.ok Y _ Z (bE rfl (g)))
end gV
namespace kM
noncomputable def aO:Code:=dK Tryz.f51
def a0.t(Y:aD)(a:M)(b c:Nat)(aM:Int)(Z:U):Prop:=
 (32:Int) ≠ 0∧a5 (IntKind.i64.wrap (Int.tdiv aM 32)) fun d=>
 (32:Int) ≠ 0∧a5 (IntKind.i64.wrap (Int.tdiv aM 32)) fun e=>
 a5 (IntKind.i64.wrap (e+(((b:Nat):Int)))) fun e=>
 a5 (IntKind.i64.wrap (e+1)) fun e=>
 iI Z 89 iG d e fun f g=>
 (32:Int) ≠ 0∧a5 (Int.tmod aM 32) fun h=>
 0≤h∧a5 (h4 .u32 1 h) fun h=>
 aY kL.id #[.slice a b c,.int .u32 h,.int .u32 0] g fun a b=>
 aQ a fun a c g=>
 hF b 89 iG (some f) d.toNat e.toNat (.slice a c g) fun a b c d=>
 aY gV.id #[.slice a b c] d fun a b=>
 aQ a fun a c d=>
 Y (.slice a c d) b
def a0.g(Y:aD)(X:Fr)(Z:U):Prop:=aQ (X 0) fun a b c=>aW .i64 (X 1) fun aM=>a0.t Y a b c aM Z
theorem a0.ok(Y:aD)(X:Fr)(Z:U)(g:a0.g Y X Z):den prog E (a3 aO [W,W]) (a8 E [.tmp 4] Y) X Z:=
 bD g fun a b c d g=>bB g fun aM e g=>bS [(0,.slice a b c),(1,.int .i64 aM)] ⟨d,e,trivial⟩ (by kernel_rfl) g
def aL.t(Y:aD)(a:M)(b c:Nat)(aM:Int)(Z:U):Prop:=
 cond (decide (aM≤0)) (aY gV.id #[.slice a b c] Z fun d e=>
 aQ d fun d f g=>
 Y (.slice d f g) e) (cond ((((b:Nat):Int)) == 0) (aY gV.id #[.slice a b c] Z fun d e=>
 aQ d fun d f g=>
 Y (.slice d f g) e) (a0.t Y a b c aM Z))
def aL.g(Y:aD)(X:Fr)(Z:U):Prop:=aQ (X 0) fun a b c=>aW .i64 (X 1) fun aM=>aL.t Y a b c aM Z
theorem aL.ok(Y:aD)(X:Fr)(Z:U)(g:aL.g Y X Z):den prog E aO (a8 E [.tmp 4] Y) X Z:=
 bD g fun a b c d g=>bB g fun aM e g=>c4 2 (r:=(a3 aO [W,W])) (by kernel_rfl) (a0.ok Y) (bS [(0,.slice a b c),(1,.int .i64 aM)] ⟨d,e,trivial⟩ (by kernel_rfl) g)
def t(a:M)(b c:Nat)(aM:Int)(Z:U)(Y:aD):Prop:=aL.t Y a b c aM Z
theorem ok{a:M}{b:Nat}{d:Nat}{aM:Int}{Z:U}{Y:aD}(g:t a b d aM Z Y):aY id #[.slice a b d,.int .i64 aM] Z Y:=
 dL dI (c:=aO) (dC:=[.tmp 4]) Tryz.func51 (by kernel_rfl) (by kernel_rfl) (by kernel_rfl) (args:=[.slice a b d,.int .i64 aM]) (by kernel_rfl) (aL.ok Y _ Z (bE rfl (bQ rfl (g))))
end kM
namespace jT
noncomputable def aO:Code:=dK Tryz.f53
def a0.t(Y:aD)(a:M)(a b:Nat)(a7:M)(b a9:Nat)(c:Int)(Z:U):Prop:=
 c7 a7 b (((a:Nat):Int)) 1 fun a=>
 cC Z a (.int .u64 c) fun a=>
 aY m9.id #[.slice a7 b a9] a fun a fM=>
 cT a fun a=>
 cP a fun a b c d=>
 dJ d .i64 fun d e=>
 b5 e <| Y (.tuple #[.slice a b c,.int .i64 d]) fM
def a0.g(Y:aD)(X:Fr)(Z:U):Prop:=aQ (X 0) fun a b c=>aQ (X 6) fun a7 d a9=>aW .u64 (X 7) fun e=>a0.t Y a b c a7 d a9 e Z
theorem a0.ok(Y:aD)(X:Fr)(Z:U)(g:a0.g Y X Z):den prog E (a3 aO [W,W,W,W,W]) (a8 E [.tmp 4,.tmp 5] Y) X Z:=
 bD g fun a b c d g=>bD g fun a7 e a9 f g=>bB g fun h i g=>bS [(0,.slice a b c),(6,.slice a7 e a9),(7,.int .u64 h)] ⟨d,f,i,trivial⟩ (by kernel_rfl) g
def bL.g(a:M→Nat→Nat→Int→M→Nat→Nat→Int→Int→Int→U→Prop)(X:Fr)(Z:U):Prop:=aQ (X 0) fun b c d=>aW .u64 (X 1) fun aM=>aQ (X 6) fun a7 e a9=>aW .u64 (X 7) fun f=>aW .i64 (X 20) fun h=>aW .i64 (X 21) fun i=>a b c d aM a7 e a9 f h i Z
def b7.t(Y:aD)(a:M→Nat→Nat→Int→M→Nat→Nat→Int→Int→Int→U→Prop)(b:M)(c d:Nat)(aM:Int)(a7:M)(e a9:Nat)(f g h:Int)(Z:U):Prop:=
 cond (decide (h < g)) (c7 b c h 1 fun i=>
 cY Z .u64 i fun i=>
 aY qN.id #[.int .u64 i,.int .u64 aM] Z fun i j=>
 cT i fun i=>
 dJ i .u64 fun i k=>
 dJ k .u64 fun k l=>
 b5 l <| nS k f 0 fun k l=>
 c7 a7 e h 1 fun m=>
 cC j m (.int .u64 k) fun j=>
 a5 (IntKind.u64.wrap (i+l)) fun i=>
 a5 (IntKind.i64.wrap (h+1)) fun h=>
 a b c d aM a7 e a9 i g h j) (a0.t Y b c d a7 e a9 f Z)
def b7.g(Y:aD)(a:M→Nat→Nat→Int→M→Nat→Nat→Int→Int→Int→U→Prop)(X:Fr)(Z:U):Prop:=aQ (X 0) fun b c d=>aW .u64 (X 1) fun aM=>aQ (X 6) fun a7 e a9=>aW .u64 (X 7) fun f=>aW .i64 (X 20) fun h=>aW .i64 (X 21) fun i=>b7.t Y a b c d aM a7 e a9 f h i Z
theorem b7.ok(Y:aD)(a:M→Nat→Nat→Int→M→Nat→Nat→Int→Int→Int→U→Prop)(X:Fr)(Z:U)(g:b7.g Y a X Z):den prog E (a3 aO [W,W,W,W,aT,W,aT,aT]) (a1.then (bL.g a) (a1.inBlock 0 (a1.then (a0.g Y) (a8 E [.tmp 4,.tmp 5] Y)))) X Z:=
 bD g fun a b c d g=>bB g fun aM e g=>bD g fun a7 f a9 h g=>bB g fun i j g=>bB g fun k l g=>bB g fun m n g=>bS [(0,.slice a b c),(1,.int .u64 aM),(6,.slice a7 f a9),(7,.int .u64 i),(20,.int .i64 k),(21,.int .i64 m)] ⟨d,e,h,j,l,n,trivial⟩ (by kernel_rfl) g
def bL.t(Y:aD):Nat→M→Nat→Nat→Int→M→Nat→Nat→Int→Int→Int→U→Prop
 | 0=>fun _ _ _ _ _ _ _ _ _ _ _=>False
 | n+1=>fun a b c aM a7 d a9 e f g Z=>b7.t Y (bL.t Y n) a b c aM a7 d a9 e f g Z
theorem bL.ok(Y:aD)(X:Fr)(Z:U)(g:bL.g (fun a b c aM a7 d a9 e f h Z=>∃ n,bL.t Y n a b c aM a7 d a9 e f h Z) X Z):den prog E (a3 aO [W,W,W,W,aT,W,aT]) (a1.inBlock 0 (a1.then (a0.g Y) (a8 E [.tmp 4,.tmp 5] Y))) X Z:=by
 obtain⟨a,b,c,i,g⟩:=b4 g
 obtain⟨aM,j,g⟩:=bN g
 obtain⟨a7,d,a9,k,g⟩:=b4 g
 obtain⟨e,l,g⟩:=bN g
 obtain⟨f,m,g⟩:=bN g
 obtain⟨h,o,g⟩:=bN g
 obtain⟨n,g⟩:=g
 refine fK (fun n=>bL.g (bL.t Y n)) (L:=(a3 aO [W,W,W,W,aT,W,aT,aT])) (by kernel_rfl) (fun X Z g=>?_) (fun n=>b7.ok Y (bL.t Y n)) n X Z (bE i (bQ j (bE k (bQ l (bQ m (bQ o (g)))))))
 obtain⟨a,b,c,i,g⟩:=b4 g
 obtain⟨aM,j,g⟩:=bN g
 obtain⟨a7,d,a9,k,g⟩:=b4 g
 obtain⟨e,l,g⟩:=bN g
 obtain⟨f,m,g⟩:=bN g
 obtain⟨h,o,g⟩:=bN g
 exact g
theorem g3.ok(Y:aD)(X:Fr)(Z:U)(g:bL.g (fun a b c aM a7 d a9 e f h Z=>∃ n,bL.t Y n a b c aM a7 d a9 e f h Z) X Z):den prog E (a3 aO [W,W,W,W,aT,W]) (a1.then (a0.g Y) (a8 E [.tmp 4,.tmp 5] Y)) X Z:=
 fC (by kernel_rfl) (bL.ok Y X Z g)
def bF.t(Y:aD)(a:M)(b c:Nat)(aM:Int)(a7:M)(d a9:Nat)(e:Int)(Z:U):Prop:=
 (∃ n,bL.t Y n a b c aM a7 d a9 e (((b:Nat):Int)) 0 Z)
def bF.g(Y:aD)(X:Fr)(Z:U):Prop:=aQ (X 0) fun a b c=>aW .u64 (X 1) fun aM=>aQ (X 6) fun a7 d a9=>aW .u64 (X 7) fun e=>bF.t Y a b c aM a7 d a9 e Z
theorem bF.ok(Y:aD)(X:Fr)(Z:U)(g:bF.g Y X Z):den prog E (a3 aO [W,W,W,W,aT]) (a1.then (a0.g Y) (a8 E [.tmp 4,.tmp 5] Y)) X Z:=
 bD g fun a b c d g=>bB g fun aM e g=>bD g fun a7 f a9 h g=>bB g fun i j g=>c4 1 (r:=(a3 aO [W,W,W,W,aT,W])) (by kernel_rfl) (g3.ok Y) (bS [(0,.slice a b c),(1,.int .u64 aM),(6,.slice a7 f a9),(7,.int .u64 i)] ⟨d,e,h,j,trivial⟩ (by kernel_rfl) g)
theorem g4.ok(Y:aD)(X:Fr)(Z:U)(g:bF.g Y X Z):den prog E (a3 aO [W,W,W,W]) (a8 E [.tmp 4,.tmp 5] Y) X Z:=
 gA (by kernel_rfl) (a0.ok Y) (bF.ok Y X Z g)
def aL.t(Y:aD)(a:M)(b c:Nat)(aM:Int)(Z:U):Prop:=
 aY kH.id #[.slice a b c] Z fun d e=>
 eS d fun d=>
 cond (!d) (Y (.tuple #[.slice none 0 0,.int .i64 2]) e) (a5 (IntKind.i64.wrap ((((b:Nat):Int))+1)) fun d=>
 iI e 35 j6 d d fun e f=>
 bF.t Y a b c aM (some e) d.toNat d.toNat 0 f)
def aL.g(Y:aD)(X:Fr)(Z:U):Prop:=aQ (X 0) fun a b c=>aW .u64 (X 1) fun aM=>aL.t Y a b c aM Z
theorem aL.ok(Y:aD)(X:Fr)(Z:U)(g:aL.g Y X Z):den prog E aO (a8 E [.tmp 4,.tmp 5] Y) X Z:=
 bD g fun a b c d g=>bB g fun aM e g=>c4 4 (r:=(a3 aO [W,W,W,W])) (by kernel_rfl) (g4.ok Y) (bS [(0,.slice a b c),(1,.int .u64 aM)] ⟨d,e,trivial⟩ (by kernel_rfl) g)
def t(a:M)(b c:Nat)(aM:Int)(Z:U)(Y:aD):Prop:=aL.t Y a b c aM Z
theorem ok{a:M}{b:Nat}{d:Nat}{aM:Int}{Z:U}{Y:aD}(g:t a b d aM Z Y):aY id #[.slice a b d,.int .u64 aM] Z Y:=
 dL dI (c:=aO) (dC:=[.tmp 4,.tmp 5]) Tryz.func53 (by kernel_rfl) (by kernel_rfl) (by kernel_rfl) (args:=[.slice a b d,.int .u64 aM]) (by kernel_rfl) (aL.ok Y _ Z (bE rfl (bQ rfl (g))))
end jT
namespace iZ
noncomputable def aO:Code:=dK Tryz.f54
def cE.t(Y:aD)(a:M)(a b:Nat)(a7:M)(b a9:Nat)(c:Int)(Z:U):Prop:=
 c7 a7 b (((a:Nat):Int)) 1 fun a=>
 cC Z a (.int .u64 c) fun a=>
 aY m9.id #[.slice a7 b a9] a fun a b=>
 cT a fun a=>
 cP a fun a c d e=>
 dJ e .i64 fun e f=>
 b5 f <| Y (.tuple #[.slice a c d,.int .i64 e]) b
def cE.g(Y:aD)(X:Fr)(Z:U):Prop:=aQ (X 0) fun a b c=>aQ (X 6) fun a7 d a9=>aW .u64 (X 7) fun e=>cE.t Y a b c a7 d a9 e Z
theorem cE.ok(Y:aD)(X:Fr)(Z:U)(g:cE.g Y X Z):den prog E (a3 aO [W,W,W,W,W,W]) (a8 E [.tmp 4,.tmp 5] Y) X Z:=
 bD g fun a b c d g=>bD g fun a7 e a9 f g=>bB g fun h i g=>bS [(0,.slice a b c),(6,.slice a7 e a9),(7,.int .u64 h)] ⟨d,f,i,trivial⟩ (by kernel_rfl) g
def gX.g(a:M→Nat→Nat→M→Nat→Nat→M→Nat→Nat→Int→Int→Int→U→Prop)(X:Fr)(Z:U):Prop:=aQ (X 0) fun b c d=>aQ (X 1) fun aJ aI aG=>aQ (X 6) fun a7 e a9=>aW .u64 (X 7) fun f=>aW .i64 (X 30) fun h=>aW .i64 (X 31) fun i=>a b c d aJ aI aG a7 e a9 f h i Z
def e0.t(Y:aD)(a:M→Nat→Nat→M→Nat→Nat→M→Nat→Nat→Int→Int→Int→U→Prop)(b:M)(c d:Nat)(aJ:M)(aI aG:Nat)(a7:M)(e a9:Nat)(f g h:Int)(Z:U):Prop:=
 cond (decide (h < g)) (cond (decide (h < (((aI:Nat):Int)))) (c7 aJ aI h 1 fun i=>
 cY Z .u64 i fun i=>
 c7 b c h 1 fun j=>
 cY Z .u64 j fun j=>
 nS j i f fun i j=>
 c7 a7 e h 1 fun k=>
 cC Z k (.int .u64 i) fun i=>
 a5 (IntKind.i64.wrap (h+1)) fun k=>
 a b c d aJ aI aG a7 e a9 j g k i) (c7 b c h 1 fun i=>
 cY Z .u64 i fun i=>
 nS i 0 f fun i m32=>
 c7 a7 e h 1 fun j=>
 cC Z j (.int .u64 i) fun i=>
 a5 (IntKind.i64.wrap (h+1)) fun h=>
 a b c d aJ aI aG a7 e a9 m32 g h i)) (cE.t Y b c d a7 e a9 f Z)
def e0.g(Y:aD)(a:M→Nat→Nat→M→Nat→Nat→M→Nat→Nat→Int→Int→Int→U→Prop)(X:Fr)(Z:U):Prop:=aQ (X 0) fun b c d=>aQ (X 1) fun aJ aI aG=>aQ (X 6) fun a7 e a9=>aW .u64 (X 7) fun f=>aW .i64 (X 30) fun h=>aW .i64 (X 31) fun i=>e0.t Y a b c d aJ aI aG a7 e a9 f h i Z
theorem e0.ok(Y:aD)(a:M→Nat→Nat→M→Nat→Nat→M→Nat→Nat→Int→Int→Int→U→Prop)(X:Fr)(Z:U)(g:e0.g Y a X Z):den prog E (a3 aO [W,W,W,W,W,aT,W,aT,aT]) (a1.then (gX.g a) (a1.inBlock 0 (a1.then (cE.g Y) (a8 E [.tmp 4,.tmp 5] Y)))) X Z:=
 bD g fun a b c d g=>bD g fun aJ aI aG e g=>bD g fun a7 f a9 h g=>bB g fun i j g=>bB g fun k l g=>bB g fun m n g=>bS [(0,.slice a b c),(1,.slice aJ aI aG),(6,.slice a7 f a9),(7,.int .u64 i),(30,.int .i64 k),(31,.int .i64 m)] ⟨d,e,h,j,l,n,trivial⟩ (by kernel_rfl) g
def gX.t(Y:aD):Nat→M→Nat→Nat→M→Nat→Nat→M→Nat→Nat→Int→Int→Int→U→Prop
 | 0=>fun _ _ _ _ _ _ _ _ _ _ _ _ _=>False
 | n+1=>fun a b c aJ aI aG a7 d a9 e f g Z=>e0.t Y (gX.t Y n) a b c aJ aI aG a7 d a9 e f g Z
theorem gX.ok(Y:aD)(X:Fr)(Z:U)(g:gX.g (fun a b c aJ aI aG a7 d a9 e f h Z=>∃ n,gX.t Y n a b c aJ aI aG a7 d a9 e f h Z) X Z):den prog E (a3 aO [W,W,W,W,W,aT,W,aT]) (a1.inBlock 0 (a1.then (cE.g Y) (a8 E [.tmp 4,.tmp 5] Y))) X Z:=by
 obtain⟨a,b,c,i,g⟩:=b4 g
 obtain⟨aJ,aI,aG,j,g⟩:=b4 g
 obtain⟨a7,d,a9,k,g⟩:=b4 g
 obtain⟨e,l,g⟩:=bN g
 obtain⟨f,m,g⟩:=bN g
 obtain⟨h,o,g⟩:=bN g
 obtain⟨n,g⟩:=g
 refine fK (fun n=>gX.g (gX.t Y n)) (L:=(a3 aO [W,W,W,W,W,aT,W,aT,aT])) (by kernel_rfl) (fun X Z g=>?_) (fun n=>e0.ok Y (gX.t Y n)) n X Z (bE i (bE j (bE k (bQ l (bQ m (bQ o (g)))))))
 obtain⟨a,b,c,i,g⟩:=b4 g
 obtain⟨aJ,aI,aG,j,g⟩:=b4 g
 obtain⟨a7,d,a9,k,g⟩:=b4 g
 obtain⟨e,l,g⟩:=bN g
 obtain⟨f,m,g⟩:=bN g
 obtain⟨h,o,g⟩:=bN g
 exact g
theorem OX.ok(Y:aD)(X:Fr)(Z:U)(g:gX.g (fun a b c aJ aI aG a7 d a9 e f h Z=>∃ n,gX.t Y n a b c aJ aI aG a7 d a9 e f h Z) X Z):den prog E (a3 aO [W,W,W,W,W,aT,W]) (a1.then (cE.g Y) (a8 E [.tmp 4,.tmp 5] Y)) X Z:=
 fC (by kernel_rfl) (gX.ok Y X Z g)
def b7.t(Y:aD)(a:M)(b c:Nat)(aJ:M)(aI aG:Nat)(a7:M)(d a9:Nat)(e:Int)(Z:U):Prop:=
 (∃ n,gX.t Y n a b c aJ aI aG a7 d a9 e (((b:Nat):Int)) 0 Z)
def b7.g(Y:aD)(X:Fr)(Z:U):Prop:=aQ (X 0) fun a b c=>aQ (X 1) fun aJ aI aG=>aQ (X 6) fun a7 d a9=>aW .u64 (X 7) fun e=>b7.t Y a b c aJ aI aG a7 d a9 e Z
theorem b7.ok(Y:aD)(X:Fr)(Z:U)(g:b7.g Y X Z):den prog E (a3 aO [W,W,W,W,W,aT]) (a1.then (cE.g Y) (a8 E [.tmp 4,.tmp 5] Y)) X Z:=
 bD g fun a b c d g=>bD g fun aJ aI aG e g=>bD g fun a7 f a9 h g=>bB g fun i j g=>c4 1 (r:=(a3 aO [W,W,W,W,W,aT,W])) (by kernel_rfl) (OX.ok Y) (bS [(0,.slice a b c),(1,.slice aJ aI aG),(6,.slice a7 f a9),(7,.int .u64 i)] ⟨d,e,h,j,trivial⟩ (by kernel_rfl) g)
theorem OY.ok(Y:aD)(X:Fr)(Z:U)(g:b7.g Y X Z):den prog E (a3 aO [W,W,W,W,W]) (a8 E [.tmp 4,.tmp 5] Y) X Z:=
 gA (by kernel_rfl) (cE.ok Y) (b7.ok Y X Z g)
def bF.t(Y:aD)(a:M)(b c:Nat)(aJ:M)(aI aG:Nat)(Z:U):Prop:=
 a5 (IntKind.i64.wrap ((((b:Nat):Int))+1)) fun d=>
 iI Z 35 j6 d d fun e f=>
 b7.t Y a b c aJ aI aG (some e) d.toNat d.toNat 0 f
def bF.g(Y:aD)(X:Fr)(Z:U):Prop:=aQ (X 0) fun a b c=>aQ (X 1) fun aJ aI aG=>bF.t Y a b c aJ aI aG Z
theorem bF.ok(Y:aD)(X:Fr)(Z:U)(g:bF.g Y X Z):den prog E (a3 aO [W,W,W]) (a8 E [.tmp 4,.tmp 5] Y) X Z:=
 bD g fun a b c d g=>bD g fun aJ aI aG e g=>c4 2 (r:=(a3 aO [W,W,W,W,W])) (by kernel_rfl) (OY.ok Y) (bS [(0,.slice a b c),(1,.slice aJ aI aG)] ⟨d,e,trivial⟩ (by kernel_rfl) g)
def a0.t(Y:aD)(a:M)(b c:Nat)(aJ:M)(aI aG:Nat)(Z:U):Prop:=
 cond (decide ((((b:Nat):Int)) < (((aI:Nat):Int)))) (bF.t Y aJ aI aG a b c Z) (bF.t Y a b c aJ aI aG Z)
def a0.g(Y:aD)(X:Fr)(Z:U):Prop:=aQ (X 0) fun a b c=>aQ (X 1) fun aJ aI aG=>a0.t Y a b c aJ aI aG Z
theorem a0.ok(Y:aD)(X:Fr)(Z:U)(g:a0.g Y X Z):den prog E (a3 aO [W,W]) (a8 E [.tmp 4,.tmp 5] Y) X Z:=
 bD g fun a b c d g=>bD g fun aJ aI aG e g=>c4 1 (r:=(a3 aO [W,W,W])) (by kernel_rfl) (bF.ok Y) (bS [(0,.slice a b c),(1,.slice aJ aI aG)] ⟨d,e,trivial⟩ (by kernel_rfl) g)
def aL.t(Y:aD)(a:M)(b c:Nat)(aJ:M)(aI aG:Nat)(Z:U):Prop:=
 aY kH.id #[.slice a b c] Z fun d e=>
 eS d fun d=>
 cond (!d) (Y (.tuple #[.slice none 0 0,.int .i64 2]) e) (aY kH.id #[.slice aJ aI aG] e fun d e=>
 eS d fun d=>
 cond (!d) (Y (.tuple #[.slice none 0 0,.int .i64 2]) e) (a0.t Y a b c aJ aI aG e))
def aL.g(Y:aD)(X:Fr)(Z:U):Prop:=aQ (X 0) fun a b c=>aQ (X 1) fun aJ aI aG=>aL.t Y a b c aJ aI aG Z
theorem aL.ok(Y:aD)(X:Fr)(Z:U)(g:aL.g Y X Z):den prog E aO (a8 E [.tmp 4,.tmp 5] Y) X Z:=
 bD g fun a b c d g=>bD g fun aJ aI aG e g=>c4 2 (r:=(a3 aO [W,W])) (by kernel_rfl) (a0.ok Y) (bS [(0,.slice a b c),(1,.slice aJ aI aG)] ⟨d,e,trivial⟩ (by kernel_rfl) g)
def t(a:M)(b c:Nat)(aJ:M)(aI aG:Nat)(Z:U)(Y:aD):Prop:=aL.t Y a b c aJ aI aG Z
theorem ok{a:M}{b:Nat}{d:Nat}{aJ:M}{aI:Nat}{aG:Nat}{Z:U}{Y:aD}(g:t a b d aJ aI aG Z Y):aY id #[.slice a b d,.slice aJ aI aG] Z Y:=
 dL dI (c:=aO) (dC:=[.tmp 4,.tmp 5]) Tryz.func54 (by kernel_rfl) (by kernel_rfl) (by kernel_rfl) (args:=[.slice a b d,.slice aJ aI aG]) (by kernel_rfl) (aL.ok Y _ Z (bE rfl (bE rfl (g))))
end iZ
namespace pZ
noncomputable def aO:Code:=dK Tryz.f55
def cK.g(a:Int→Int→U→Prop)(X:Fr)(Z:U):Prop:=aW .i64 (X 0) fun aS=>aW .i64 (X 4) fun b=>a aS b Z
def cE.t(Y:aD)(a:Int→Int→U→Prop)(aS b:Int)(Z:U):Prop:=
 a5 (IntKind.i64.wrap (aS+b)) fun dY=>
 aY r3.id #[.int .i64 dY] Z fun c d=>
 cT c fun c=>
 cP c fun c e f g=>
 cP g fun g h i j=>
 b5 j <| aY j8.id #[.int .u64 1] d fun d fM=>
 aQ d fun d j k=>
 a5 (IntKind.i64.wrap (2*aS)) fun l=>
 a5 (IntKind.i64.wrap (l+b)) fun l=>
 a5 (IntKind.i64.wrap (l+1)) fun l=>
 aY kN.id #[.slice d j k,.int .i64 l] fM fun d j=>
 cT d fun d=>
 cP d fun d k l m=>
 dJ m .i64 fun m m=>
 b5 m <| aY mM.id #[.slice d k l,.slice g h i] j fun g h=>
 cT g fun g=>
 cP g fun g i j m=>
 cP m fun m m m m=>
 dJ m .i64 fun m m=>
 b5 m <| aY mM.id #[.slice d k l,.slice c e f] h fun c d=>
 cT c fun c=>
 cP c fun c e f h=>
 cP h fun h h h h=>
 dJ h .i64 fun h h=>
 b5 h <| aY iU.id #[.slice g i j,.slice c e f] d fun c d=>
 aW .i64 c fun c=>
 cond (c == 0) (Y (.tuple #[.slice g i j,.int .i64 0]) d) (a5 (IntKind.i64.wrap (b*2)) fun b=>
 a aS b d)
def cE.g(Y:aD)(a:Int→Int→U→Prop)(X:Fr)(Z:U):Prop:=aW .i64 (X 0) fun aS=>aW .i64 (X 4) fun b=>cE.t Y a aS b Z
theorem cE.ok(Y:aD)(a:Int→Int→U→Prop)(X:Fr)(Z:U)(g:cE.g Y a X Z):den prog E (a3 aO [W,W,W,aT,aT]) (a1.then (cK.g a) (a1.inBlock 0 (a8 E [.tmp 2,.tmp 3] Y))) X Z:=
 bB g fun aS a g=>bB g fun b c g=>bS [(0,.int .i64 aS),(4,.int .i64 b)] ⟨a,c,trivial⟩ (by kernel_rfl) g
def cK.t(Y:aD):Nat→Int→Int→U→Prop
 | 0=>fun _ _ _=>False
 | n+1=>fun aS a Z=>cE.t Y (cK.t Y n) aS a Z
theorem cK.ok(Y:aD)(X:Fr)(Z:U)(g:cK.g (fun aS a Z=>∃ n,cK.t Y n aS a Z) X Z):den prog E (a3 aO [W,W,W,aT]) (a1.inBlock 0 (a8 E [.tmp 2,.tmp 3] Y)) X Z:=by
 obtain⟨aS,b,g⟩:=bN g
 obtain⟨a,c,g⟩:=bN g
 obtain⟨n,g⟩:=g
 refine fK (fun n=>cK.g (cK.t Y n)) (L:=(a3 aO [W,W,W,aT,aT])) (by kernel_rfl) (fun X Z g=>?_) (fun n=>cE.ok Y (cK.t Y n)) n X Z (bQ b (bQ c (g)))
 obtain⟨aS,b,g⟩:=bN g
 obtain⟨a,c,g⟩:=bN g
 exact g
theorem hR.ok(Y:aD)(X:Fr)(Z:U)(g:cK.g (fun aS a Z=>∃ n,cK.t Y n aS a Z) X Z):den prog E (a3 aO [W,W,W]) (a8 E [.tmp 2,.tmp 3] Y) X Z:=
 fC (by kernel_rfl) (cK.ok Y X Z g)
def a0.t(Y:aD)(aS:Int)(Z:U):Prop:=
 (∃ n,cK.t Y n aS 48 Z)
def a0.g(Y:aD)(X:Fr)(Z:U):Prop:=aW .i64 (X 0) fun aS=>a0.t Y aS Z
theorem a0.ok(Y:aD)(X:Fr)(Z:U)(g:a0.g Y X Z):den prog E (a3 aO [W,W]) (a8 E [.tmp 2,.tmp 3] Y) X Z:=
 bB g fun aS a g=>c4 1 (r:=(a3 aO [W,W,W])) (by kernel_rfl) (hR.ok Y) (bS [(0,.int .i64 aS)] ⟨a,trivial⟩ (by kernel_rfl) g)
def aL.t(Y:aD)(aS:Int)(Z:U):Prop:=
 cond (decide (aS < 1)) (Y (.tuple #[.slice none 0 0,.int .i64 1]) Z) (cond (decide (aS > 70000)) (Y (.tuple #[.slice none 0 0,.int .i64 1]) Z) (a0.t Y aS Z))
def aL.g(Y:aD)(X:Fr)(Z:U):Prop:=aW .i64 (X 0) fun aS=>aL.t Y aS Z
theorem aL.ok(Y:aD)(X:Fr)(Z:U)(g:aL.g Y X Z):den prog E aO (a8 E [.tmp 2,.tmp 3] Y) X Z:=
 bB g fun aS a g=>c4 2 (r:=(a3 aO [W,W])) (by kernel_rfl) (a0.ok Y) (bS [(0,.int .i64 aS)] ⟨a,trivial⟩ (by kernel_rfl) g)
def t(aS:Int)(Z:U)(Y:aD):Prop:=aL.t Y aS Z
theorem ok{aS:Int}{Z:U}{Y:aD}(g:t aS Z Y):aY id #[.int .i64 aS] Z Y:=
 dL dI (c:=aO) (dC:=[.tmp 2,.tmp 3]) Tryz.func55 (by kernel_rfl) (by kernel_rfl) (by kernel_rfl) (args:=[.int .i64 aS]) (by kernel_rfl) (aL.ok Y _ Z (bQ rfl (g)))
end pZ
namespace oS
noncomputable def aO:Code:=dK Tryz.f56
def a0.t(Y:aD)(bR:M)(a bT:Nat)(Z:U):Prop:=
 aY m9.id #[.slice bR a bT] Z fun a b=>
 cT a fun a=>
 cP a fun a c d e=>
 dJ e .i64 fun e f=>
 b5 f <| Y (.tuple #[.slice a c d,.int .i64 e]) b
def a0.g(Y:aD)(X:Fr)(Z:U):Prop:=aQ (X 8) fun bR a bT=>a0.t Y bR a bT Z
theorem a0.ok(Y:aD)(X:Fr)(Z:U)(g:a0.g Y X Z):den prog E (a3 aO [W,W,W,W,W,W,W]) (a8 E [.tmp 4,.tmp 5] Y) X Z:=
 bD g fun bR a bT b g=>bS [(8,.slice bR a bT)] ⟨b,trivial⟩ (by kernel_rfl) g
def aL.t(Y:aD)(a:M)(b c:Nat)(aM:Int)(Z:U):Prop:=
 cond (decide (aM < 0)) (Y (.tuple #[.slice none 0 0,.int .i64 1]) Z) (aY kH.id #[.slice a b c] Z fun d e=>
 eS d fun d=>
 cond (!d) (Y (.tuple #[.slice none 0 0,.int .i64 2]) e) ((64:Int) ≠ 0∧a5 (IntKind.i64.wrap (Int.tdiv aM 64)) fun d=>
 (64:Int) ≠ 0∧a5 (Int.tmod aM 64) fun f=>
 iI e 35 j6 (((b:Nat):Int)) (((b:Nat):Int)) fun e g=>
 m3 g 1 (some e) ((((b:Nat):Int)).toNat) (.slice a b c) fun a a=>
 cond (decide (d < (((b:Nat):Int)))) (c7 (some e) ((((b:Nat):Int)).toNat) d 1 fun c=>
 cY a .u64 c fun c=>
 0≤f∧a5 (h4 .u64 1 f) fun f=>
 a5 (IntKind.u64.wrap (f - 1)) fun f=>
 a5 (jE .u64 c f) fun c=>
 c7 (some e) ((((b:Nat):Int)).toNat) d 1 fun f=>
 cC a f (.int .u64 c) fun c=>
 a5 (IntKind.i64.wrap (d+1)) fun d=>
 iD 1 (some e) ((((b:Nat):Int)).toNat) ((((b:Nat):Int)).toNat) none (some (.int .i64 d)) none fun d f g=>
 a0.t Y d f g c) (a0.t Y (some e) ((((b:Nat):Int)).toNat) ((((b:Nat):Int)).toNat) a)))
def aL.g(Y:aD)(X:Fr)(Z:U):Prop:=aQ (X 0) fun a b c=>aW .i64 (X 1) fun aM=>aL.t Y a b c aM Z
theorem aL.ok(Y:aD)(X:Fr)(Z:U)(g:aL.g Y X Z):den prog E aO (a8 E [.tmp 4,.tmp 5] Y) X Z:=
 bD g fun a b c d g=>bB g fun aM e g=>c4 7 (r:=(a3 aO [W,W,W,W,W,W,W])) (by kernel_rfl) (a0.ok Y) (bS [(0,.slice a b c),(1,.int .i64 aM)] ⟨d,e,trivial⟩ (by kernel_rfl) g)
def t(a:M)(b c:Nat)(aM:Int)(Z:U)(Y:aD):Prop:=aL.t Y a b c aM Z
theorem ok{a:M}{b:Nat}{d:Nat}{aM:Int}{Z:U}{Y:aD}(g:t a b d aM Z Y):aY id #[.slice a b d,.int .i64 aM] Z Y:=
 dL dI (c:=aO) (dC:=[.tmp 4,.tmp 5]) Tryz.func56 (by kernel_rfl) (by kernel_rfl) (by kernel_rfl) (args:=[.slice a b d,.int .i64 aM]) (by kernel_rfl) (aL.ok Y _ Z (bE rfl (bQ rfl (g))))
end oS
namespace r9
noncomputable def aO:Code:=dK Tryz.f57
def aL.t(Y:aD)(a:M)(b c:Nat)(Z:U):Prop:=
 cond ((((b:Nat):Int)) == 0) (Y (.slice none 0 0) Z) (aY r8.id #[] Z fun d e=>
 aQ d fun d f g=>
 aY oZ.id #[.slice d f g,.slice a b c,.int .u64 1] e fun a b=>
 aQ a fun a c d=>
 Y (.slice a c d) b)
def aL.g(Y:aD)(X:Fr)(Z:U):Prop:=aQ (X 0) fun a b c=>aL.t Y a b c Z
theorem aL.ok(Y:aD)(X:Fr)(Z:U)(g:aL.g Y X Z):den prog E aO (a8 E [.tmp 2] Y) X Z:=
 bD g fun a b c d g=>bS [(0,.slice a b c)] ⟨d,trivial⟩ (by kernel_rfl) g
def t(a:M)(b c:Nat)(Z:U)(Y:aD):Prop:=aL.t Y a b c Z
theorem ok{a:M}{b:Nat}{d:Nat}{Z:U}{Y:aD}(g:t a b d Z Y):aY id #[.slice a b d] Z Y:=
 dL dI (c:=aO) (dC:=[.tmp 2]) Tryz.func57 (by kernel_rfl) (by kernel_rfl) (by kernel_rfl) (args:=[.slice a b d]) (by kernel_rfl) (aL.ok Y _ Z (bE rfl (g)))
end r9
namespace jX
noncomputable def aO:Code:=dK Tryz.f58
def dA.g(a:Int→M→Nat→Nat→Int→M→Nat→Nat→Int→M→Nat→Nat→Int→U→Prop)(X:Fr)(Z:U):Prop:=aW .u64 (X 1) fun aM=>aQ (X 6) fun a7 b a9=>aW .u64 (X 7) fun c=>aQ (X 8) fun bR d bT=>aW .u64 (X 9) fun e=>aQ (X 10) fun f h i=>aW .u64 (X 11) fun j=>a aM a7 b a9 c bR d bT e f h i j Z
def iL.t(Y:aD)(bX:Int→M→Nat→Nat→Int→M→Nat→Nat→Int→M→Nat→Nat→Int→U→Prop)(aM:Int)(a7:M)(a a9:Nat)(b:Int)(bR:M)(c bT:Nat)(d:Int)(e:M)(f g:Nat)(h:Int)(i:Bool)(Z:U):Prop:=
 cond i (Y (.tuple #[.int .u64 b,.slice a7 a a9]) Z) (bX aM a7 a a9 b bR c bT d e f g h Z)
def iL.g(Y:aD)(bX:Int→M→Nat→Nat→Int→M→Nat→Nat→Int→M→Nat→Nat→Int→U→Prop)(X:Fr)(Z:U):Prop:=aW .u64 (X 1) fun aM=>aQ (X 6) fun a7 a a9=>aW .u64 (X 7) fun b=>aQ (X 8) fun bR c bT=>aW .u64 (X 9) fun d=>aQ (X 10) fun e f h=>aW .u64 (X 11) fun i=>eS (X 144) fun j=>iL.t Y bX aM a7 a a9 b bR c bT d e f h i j Z
theorem iL.ok(Y:aD)(bX:Int→M→Nat→Nat→Int→M→Nat→Nat→Int→M→Nat→Nat→Int→U→Prop)(X:Fr)(Z:U)(g:iL.g Y bX X Z):den prog E (a3 aO [W,W,W,W,W,aT,aT,aT,W,W,W,W,W,W,W,W,W,W,W]) (a1.inBlock 1 (a1.then (dA.g bX) (a1.inBlock 0 (a8 E [.tmp 4,.tmp 5] Y)))) X Z:=
 bB g fun aM a g=>bD g fun a7 b a9 c g=>bB g fun d e g=>bD g fun bR f bT h g=>bB g fun i j g=>bD g fun k l m n g=>bB g fun o p g=>w4 g fun q r g=>bS [(1,.int .u64 aM),(6,.slice a7 b a9),(7,.int .u64 d),(8,.slice bR f bT),(9,.int .u64 i),(10,.slice k l m),(11,.int .u64 o),(144,.bool q)] ⟨a,c,e,h,j,n,p,r,trivial⟩ (by kernel_rfl) g
def gK.t(Y:aD)(bX:Int→M→Nat→Nat→Int→M→Nat→Nat→Int→M→Nat→Nat→Int→U→Prop)(aM:Int)(a7:M)(a a9:Nat)(b:Int)(bR:M)(c bT:Nat)(d:Int)(e:M)(f g:Nat)(h i:Int)(Z:U):Prop:=
 cond (i == 0) (Y (.tuple #[.int .u64 b,.slice a7 a a9]) Z) (aY oZ.id #[.slice bR c bT,.slice e f g,.int .u64 i] Z fun c j=>
 aQ c fun c k l=>
 aY qW.id #[.int .u64 d,.int .u64 i,.int .u64 h,.int .u64 aM] j fun d i=>
 aW .u64 d fun d=>
 cond ((((k:Nat):Int)) == 0) (iL.t Y bX aM a7 a a9 b c k l d e f g h true i) (iL.t Y bX aM a7 a a9 b c k l d e f g h (decide (d > aM)) i))
def gK.g(Y:aD)(bX:Int→M→Nat→Nat→Int→M→Nat→Nat→Int→M→Nat→Nat→Int→U→Prop)(X:Fr)(Z:U):Prop:=aW .u64 (X 1) fun aM=>aQ (X 6) fun a7 a a9=>aW .u64 (X 7) fun b=>aQ (X 8) fun bR c bT=>aW .u64 (X 9) fun d=>aQ (X 10) fun e f h=>aW .u64 (X 11) fun i=>aW .u64 (X 16) fun j=>gK.t Y bX aM a7 a a9 b bR c bT d e f h i j Z
theorem gK.ok(Y:aD)(bX:Int→M→Nat→Nat→Int→M→Nat→Nat→Int→M→Nat→Nat→Int→U→Prop)(X:Fr)(Z:U)(g:gK.g Y bX X Z):den prog E (a3 aO [W,W,W,W,W,aT,aT,aT,W,W,W,W,W,W,W,W]) (a1.inBlock 1 (a1.then (dA.g bX) (a1.inBlock 0 (a8 E [.tmp 4,.tmp 5] Y)))) X Z:=
 bB g fun aM a g=>bD g fun a7 b a9 c g=>bB g fun d e g=>bD g fun bR f bT h g=>bB g fun i j g=>bD g fun k l m n g=>bB g fun o p g=>bB g fun q s g=>c4 3 (r:=(a3 aO [W,W,W,W,W,aT,aT,aT,W,W,W,W,W,W,W,W,W,W,W])) (by kernel_rfl) (iL.ok Y bX) (bS [(1,.int .u64 aM),(6,.slice a7 b a9),(7,.int .u64 d),(8,.slice bR f bT),(9,.int .u64 i),(10,.slice k l m),(11,.int .u64 o),(16,.int .u64 q)] ⟨a,c,e,h,j,n,p,s,trivial⟩ (by kernel_rfl) g)
def eW.t(Y:aD)(bX:Int→M→Nat→Nat→Int→M→Nat→Nat→Int→M→Nat→Nat→Int→U→Prop)(aM:Int)(a7:M)(a a9:Nat)(b:Int)(bR:M)(c bT:Nat)(d:Int)(e:M)(f g:Nat)(h i:Int)(Z:U):Prop:=
 aY o0.id #[.slice bR c bT,.slice e f g,.int .u64 aM] Z fun j k=>
 aW .u64 j fun j=>
 cond (decide (i > j)) (gK.t Y bX aM a7 a a9 b bR c bT d e f g h j k) (gK.t Y bX aM a7 a a9 b bR c bT d e f g h i k)
def eW.g(Y:aD)(bX:Int→M→Nat→Nat→Int→M→Nat→Nat→Int→M→Nat→Nat→Int→U→Prop)(X:Fr)(Z:U):Prop:=aW .u64 (X 1) fun aM=>aQ (X 6) fun a7 a a9=>aW .u64 (X 7) fun b=>aQ (X 8) fun bR c bT=>aW .u64 (X 9) fun d=>aQ (X 10) fun e f h=>aW .u64 (X 11) fun i=>aW .u64 (X 16) fun j=>eW.t Y bX aM a7 a a9 b bR c bT d e f h i j Z
theorem eW.ok(Y:aD)(bX:Int→M→Nat→Nat→Int→M→Nat→Nat→Int→M→Nat→Nat→Int→U→Prop)(X:Fr)(Z:U)(g:eW.g Y bX X Z):den prog E (a3 aO [W,W,W,W,W,aT,aT,aT,W,W,W,W,W,W,W]) (a1.inBlock 1 (a1.then (dA.g bX) (a1.inBlock 0 (a8 E [.tmp 4,.tmp 5] Y)))) X Z:=
 bB g fun aM a g=>bD g fun a7 b a9 c g=>bB g fun d e g=>bD g fun bR f bT h g=>bB g fun i j g=>bD g fun k l m n g=>bB g fun o p g=>bB g fun q s g=>c4 1 (r:=(a3 aO [W,W,W,W,W,aT,aT,aT,W,W,W,W,W,W,W,W])) (by kernel_rfl) (gK.ok Y bX) (bS [(1,.int .u64 aM),(6,.slice a7 b a9),(7,.int .u64 d),(8,.slice bR f bT),(9,.int .u64 i),(10,.slice k l m),(11,.int .u64 o),(16,.int .u64 q)] ⟨a,c,e,h,j,n,p,s,trivial⟩ (by kernel_rfl) g)
def e0.t(Y:aD)(bX:Int→M→Nat→Nat→Int→M→Nat→Nat→Int→M→Nat→Nat→Int→U→Prop)(aM:Int)(a7:M)(a a9:Nat)(b:Int)(bR:M)(c bT:Nat)(d:Int)(e:M)(f g:Nat)(h:Int)(Z:U):Prop:=
 aY jS.id #[.slice bR c bT,.slice a7 a a9] Z fun i j=>
 cT i fun i=>
 cP i fun i k l m=>
 dJ m .i64 fun m m=>
 b5 m <| aY o0.id #[.slice i k l,.slice e f g,.int .u64 aM] j fun j m=>
 aW .u64 j fun j=>
 aY jT.id #[.slice e f g,.int .u64 j] m fun m n=>
 cT m fun m=>
 cP m fun m o p q=>
 dJ q .i64 fun q q=>
 b5 q <| aY iU.id #[.slice m o p,.slice i k l] n fun i k=>
 aW .i64 i fun i=>
 cond (decide (i < 0)) (a5 (IntKind.u64.wrap (j+1)) fun i=>
 eW.t Y bX aM a7 a a9 b bR c bT d e f g h i k) (eW.t Y bX aM a7 a a9 b bR c bT d e f g h j k)
def e0.g(Y:aD)(bX:Int→M→Nat→Nat→Int→M→Nat→Nat→Int→M→Nat→Nat→Int→U→Prop)(X:Fr)(Z:U):Prop:=aW .u64 (X 1) fun aM=>aQ (X 6) fun a7 a a9=>aW .u64 (X 7) fun b=>aQ (X 8) fun bR c bT=>aW .u64 (X 9) fun d=>aQ (X 10) fun e f h=>aW .u64 (X 11) fun i=>e0.t Y bX aM a7 a a9 b bR c bT d e f h i Z
theorem e0.ok(Y:aD)(bX:Int→M→Nat→Nat→Int→M→Nat→Nat→Int→M→Nat→Nat→Int→U→Prop)(X:Fr)(Z:U)(g:e0.g Y bX X Z):den prog E (a3 aO [W,W,W,W,W,aT,aT,aT,W,W,W,W]) (a1.inBlock 1 (a1.then (dA.g bX) (a1.inBlock 0 (a8 E [.tmp 4,.tmp 5] Y)))) X Z:=
 bB g fun aM a g=>bD g fun a7 b a9 c g=>bB g fun d e g=>bD g fun bR f bT h g=>bB g fun i j g=>bD g fun k l m n g=>bB g fun o p g=>c4 3 (r:=(a3 aO [W,W,W,W,W,aT,aT,aT,W,W,W,W,W,W,W])) (by kernel_rfl) (eW.ok Y bX) (bS [(1,.int .u64 aM),(6,.slice a7 b a9),(7,.int .u64 d),(8,.slice bR f bT),(9,.int .u64 i),(10,.slice k l m),(11,.int .u64 o)] ⟨a,c,e,h,j,n,p,trivial⟩ (by kernel_rfl) g)
def c8.t(Y:aD)(bX:Int→M→Nat→Nat→Int→M→Nat→Nat→Int→M→Nat→Nat→Int→U→Prop)(aM:Int)(a7:M)(a a9:Nat)(b:Int)(bR:M)(c bT:Nat)(d:Int)(e:M)(f g:Nat)(h:Int)(Z:U):Prop:=
 cond ((((f:Nat):Int)) == 0) (Y (.tuple #[.int .u64 b,.slice a7 a a9]) Z) (cond (decide (h > aM)) (Y (.tuple #[.int .u64 b,.slice a7 a a9]) Z) (e0.t Y bX aM a7 a a9 b bR c bT d e f g h Z))
def c8.g(Y:aD)(bX:Int→M→Nat→Nat→Int→M→Nat→Nat→Int→M→Nat→Nat→Int→U→Prop)(X:Fr)(Z:U):Prop:=aW .u64 (X 1) fun aM=>aQ (X 6) fun a7 a a9=>aW .u64 (X 7) fun b=>aQ (X 8) fun bR c bT=>aW .u64 (X 9) fun d=>aQ (X 10) fun e f h=>aW .u64 (X 11) fun i=>c8.t Y bX aM a7 a a9 b bR c bT d e f h i Z
theorem c8.ok(Y:aD)(bX:Int→M→Nat→Nat→Int→M→Nat→Nat→Int→M→Nat→Nat→Int→U→Prop)(X:Fr)(Z:U)(g:c8.g Y bX X Z):den prog E (a3 aO [W,W,W,W,W,aT,aT,aT,W,W,W]) (a1.inBlock 1 (a1.then (dA.g bX) (a1.inBlock 0 (a8 E [.tmp 4,.tmp 5] Y)))) X Z:=
 bB g fun aM a g=>bD g fun a7 b a9 c g=>bB g fun d e g=>bD g fun bR f bT h g=>bB g fun i j g=>bD g fun k l m n g=>bB g fun o p g=>c4 1 (r:=(a3 aO [W,W,W,W,W,aT,aT,aT,W,W,W,W])) (by kernel_rfl) (e0.ok Y bX) (bS [(1,.int .u64 aM),(6,.slice a7 b a9),(7,.int .u64 d),(8,.slice bR f bT),(9,.int .u64 i),(10,.slice k l m),(11,.int .u64 o)] ⟨a,c,e,h,j,n,p,trivial⟩ (by kernel_rfl) g)
def b7.t(Y:aD)(bX:Int→M→Nat→Nat→Int→M→Nat→Nat→Int→M→Nat→Nat→Int→U→Prop)(aM:Int)(a7:M)(a a9:Nat)(b:Int)(bR:M)(c bT:Nat)(d:Int)(e:M)(f g:Nat)(h:Int)(Z:U):Prop:=
 aY o0.id #[.slice e f g,.slice bR c bT,.int .u64 aM] Z fun i j=>
 aW .u64 i fun i=>
 cond (decide (i > 0)) (aY oZ.id #[.slice e f g,.slice bR c bT,.int .u64 i] j fun k l=>
 aQ k fun k m n=>
 aY qW.id #[.int .u64 h,.int .u64 i,.int .u64 d,.int .u64 aM] l fun i l=>
 aW .u64 i fun i=>
 c8.t Y bX aM a7 a a9 b bR c bT d k m n i l) (c8.t Y bX aM a7 a a9 b bR c bT d e f g h j)
def b7.g(Y:aD)(bX:Int→M→Nat→Nat→Int→M→Nat→Nat→Int→M→Nat→Nat→Int→U→Prop)(X:Fr)(Z:U):Prop:=aW .u64 (X 1) fun aM=>aQ (X 6) fun a7 a a9=>aW .u64 (X 7) fun b=>aQ (X 8) fun bR c bT=>aW .u64 (X 9) fun d=>aQ (X 10) fun e f h=>aW .u64 (X 11) fun i=>b7.t Y bX aM a7 a a9 b bR c bT d e f h i Z
theorem b7.ok(Y:aD)(bX:Int→M→Nat→Nat→Int→M→Nat→Nat→Int→M→Nat→Nat→Int→U→Prop)(X:Fr)(Z:U)(g:b7.g Y bX X Z):den prog E (a3 aO [W,W,W,W,W,aT,aT,aT,W,W]) (a1.inBlock 1 (a1.then (dA.g bX) (a1.inBlock 0 (a8 E [.tmp 4,.tmp 5] Y)))) X Z:=
 bB g fun aM a g=>bD g fun a7 b a9 c g=>bB g fun d e g=>bD g fun bR f bT h g=>bB g fun i j g=>bD g fun k l m n g=>bB g fun o p g=>c4 1 (r:=(a3 aO [W,W,W,W,W,aT,aT,aT,W,W,W])) (by kernel_rfl) (c8.ok Y bX) (bS [(1,.int .u64 aM),(6,.slice a7 b a9),(7,.int .u64 d),(8,.slice bR f bT),(9,.int .u64 i),(10,.slice k l m),(11,.int .u64 o)] ⟨a,c,e,h,j,n,p,trivial⟩ (by kernel_rfl) g)
def cE.t(Y:aD)(bX:Int→M→Nat→Nat→Int→M→Nat→Nat→Int→M→Nat→Nat→Int→U→Prop)(aM:Int)(a7:M)(a a9:Nat)(b:Int)(bR:M)(c bT:Nat)(d:Int)(e:M)(f g:Nat)(h:Int)(Z:U):Prop:=
 a5 (IntKind.u64.wrap (b+d)) fun i=>
 a5 (IntKind.u64.wrap (aM - 1)) fun j=>
 cond (decide (i > j)) (Y (.tuple #[.int .u64 b,.slice a7 a a9]) Z) (cond ((((a:Nat):Int)) == 0) (Y (.tuple #[.int .u64 b,.slice a7 a a9]) Z) (aY iU.id #[.slice bR c bT,.slice a7 a a9] Z fun i j=>
 aW .i64 i fun i=>
 cond (decide (i≤0)) (Y (.tuple #[.int .u64 b,.slice a7 a a9]) j) (b7.t Y bX aM a7 a a9 b bR c bT d e f g h j)))
def cE.g(Y:aD)(bX:Int→M→Nat→Nat→Int→M→Nat→Nat→Int→M→Nat→Nat→Int→U→Prop)(X:Fr)(Z:U):Prop:=aW .u64 (X 1) fun aM=>aQ (X 6) fun a7 a a9=>aW .u64 (X 7) fun b=>aQ (X 8) fun bR c bT=>aW .u64 (X 9) fun d=>aQ (X 10) fun e f h=>aW .u64 (X 11) fun i=>cE.t Y bX aM a7 a a9 b bR c bT d e f h i Z
theorem cE.ok(Y:aD)(bX:Int→M→Nat→Nat→Int→M→Nat→Nat→Int→M→Nat→Nat→Int→U→Prop)(X:Fr)(Z:U)(g:cE.g Y bX X Z):den prog E (a3 aO [W,W,W,W,W,aT,aT,aT,W]) (a1.inBlock 1 (a1.then (dA.g bX) (a1.inBlock 0 (a8 E [.tmp 4,.tmp 5] Y)))) X Z:=
 bB g fun aM a g=>bD g fun a7 b a9 c g=>bB g fun d e g=>bD g fun bR f bT h g=>bB g fun i j g=>bD g fun k l m n g=>bB g fun o p g=>c4 1 (r:=(a3 aO [W,W,W,W,W,aT,aT,aT,W,W])) (by kernel_rfl) (b7.ok Y bX) (bS [(1,.int .u64 aM),(6,.slice a7 b a9),(7,.int .u64 d),(8,.slice bR f bT),(9,.int .u64 i),(10,.slice k l m),(11,.int .u64 o)] ⟨a,c,e,h,j,n,p,trivial⟩ (by kernel_rfl) g)
def bF.t(Y:aD)(bX:Int→M→Nat→Nat→Int→M→Nat→Nat→Int→M→Nat→Nat→Int→U→Prop)(aM:Int)(a7:M)(a a9:Nat)(b:Int)(bR:M)(c bT:Nat)(d:Int)(e:M)(f g:Nat)(h:Int)(Z:U):Prop:=
 aY o0.id #[.slice a7 a a9,.slice bR c bT,.int .u64 aM] Z fun i j=>
 aW .u64 i fun i=>
 a5 (IntKind.u64.wrap (aM - 1)) fun k=>
 a5 (IntKind.u64.wrap (k - b)) fun k=>
 d ≠ 0∧a5 (IntKind.u64.wrap (Int.tdiv k d)) fun k=>
 cond (decide ((if k < i then k else i) > 0)) (aY oZ.id #[.slice a7 a a9,.slice bR c bT,.int .u64 (if k < i then k else i)] j fun l m=>
 aQ l fun l n o=>
 a5 (IntKind.u64.wrap ((if k < i then k else i)*d)) fun i=>
 a5 (IntKind.u64.wrap (b+i)) fun i=>
 cE.t Y bX aM l n o i bR c bT d e f g h m) (cE.t Y bX aM a7 a a9 b bR c bT d e f g h j)
def bF.g(Y:aD)(bX:Int→M→Nat→Nat→Int→M→Nat→Nat→Int→M→Nat→Nat→Int→U→Prop)(X:Fr)(Z:U):Prop:=aW .u64 (X 1) fun aM=>aQ (X 6) fun a7 a a9=>aW .u64 (X 7) fun b=>aQ (X 8) fun bR c bT=>aW .u64 (X 9) fun d=>aQ (X 10) fun e f h=>aW .u64 (X 11) fun i=>bF.t Y bX aM a7 a a9 b bR c bT d e f h i Z
theorem bF.ok(Y:aD)(bX:Int→M→Nat→Nat→Int→M→Nat→Nat→Int→M→Nat→Nat→Int→U→Prop)(X:Fr)(Z:U)(g:bF.g Y bX X Z):den prog E (a3 aO [W,W,W,W,W,aT,aT,aT]) (a1.inBlock 1 (a1.then (dA.g bX) (a1.inBlock 0 (a8 E [.tmp 4,.tmp 5] Y)))) X Z:=
 bB g fun aM a g=>bD g fun a7 b a9 c g=>bB g fun d e g=>bD g fun bR f bT h g=>bB g fun i j g=>bD g fun k l m n g=>bB g fun o p g=>c4 1 (r:=(a3 aO [W,W,W,W,W,aT,aT,aT,W])) (by kernel_rfl) (cE.ok Y bX) (bS [(1,.int .u64 aM),(6,.slice a7 b a9),(7,.int .u64 d),(8,.slice bR f bT),(9,.int .u64 i),(10,.slice k l m),(11,.int .u64 o)] ⟨a,c,e,h,j,n,p,trivial⟩ (by kernel_rfl) g)
theorem yM.ok(Y:aD)(bX:Int→M→Nat→Nat→Int→M→Nat→Nat→Int→M→Nat→Nat→Int→U→Prop)(X:Fr)(Z:U)(g:bF.g Y bX X Z):den prog E (a3 aO [W,W,W,W,W,aT,aT]) (a1.then (dA.g bX) (a1.inBlock 0 (a8 E [.tmp 4,.tmp 5] Y))) X Z:=
 fC (by kernel_rfl) (bF.ok Y bX X Z g)
def dA.t(Y:aD):Nat→Int→M→Nat→Nat→Int→M→Nat→Nat→Int→M→Nat→Nat→Int→U→Prop
 | 0=>fun _ _ _ _ _ _ _ _ _ _ _ _ _ _=>False
 | n+1=>fun aM a7 a a9 b bR c bT d e f g h Z=>bF.t Y (dA.t Y n) aM a7 a a9 b bR c bT d e f g h Z
theorem dA.ok(Y:aD)(X:Fr)(Z:U)(g:dA.g (fun aM a7 a a9 b bR c bT d e f h i Z=>∃ n,dA.t Y n aM a7 a a9 b bR c bT d e f h i Z) X Z):den prog E (a3 aO [W,W,W,W,W,aT]) (a1.inBlock 0 (a8 E [.tmp 4,.tmp 5] Y)) X Z:=by
 obtain⟨aM,j,g⟩:=bN g
 obtain⟨a7,a,a9,k,g⟩:=b4 g
 obtain⟨b,l,g⟩:=bN g
 obtain⟨bR,c,bT,m,g⟩:=b4 g
 obtain⟨d,o,g⟩:=bN g
 obtain⟨e,f,h,p,g⟩:=b4 g
 obtain⟨i,q,g⟩:=bN g
 obtain⟨n,g⟩:=g
 refine fK (fun n=>dA.g (dA.t Y n)) (L:=(a3 aO [W,W,W,W,W,aT,aT])) (by kernel_rfl) (fun X Z g=>?_) (fun n=>yM.ok Y (dA.t Y n)) n X Z (bQ j (bE k (bQ l (bE m (bQ o (bE p (bQ q (g))))))))
 obtain⟨aM,j,g⟩:=bN g
 obtain⟨a7,a,a9,k,g⟩:=b4 g
 obtain⟨b,l,g⟩:=bN g
 obtain⟨bR,c,bT,m,g⟩:=b4 g
 obtain⟨d,o,g⟩:=bN g
 obtain⟨e,f,h,p,g⟩:=b4 g
 obtain⟨i,q,g⟩:=bN g
 exact g
theorem o9.ok(Y:aD)(X:Fr)(Z:U)(g:dA.g (fun aM a7 a a9 b bR c bT d e f h i Z=>∃ n,dA.t Y n aM a7 a a9 b bR c bT d e f h i Z) X Z):den prog E (a3 aO [W,W,W,W,W]) (a8 E [.tmp 4,.tmp 5] Y) X Z:=
 fC (by kernel_rfl) (dA.ok Y X Z g)
def aL.t(Y:aD)(a:M)(b c:Nat)(d:M)(e f:Nat)(aM:Int)(Z:U):Prop:=
 dN Z 99 [.slice a b c,.slice d e f] fun b8 a=>
 dO a (b8.add 0) fun b c d=>
 aY r8.id #[] a fun e f=>
 aQ e fun e g h=>
 (eT a.size a f)∧(b8.add 1).block < a.size∧dO f (b8.add 1) fun i j k=>
 aY oZ.id #[.slice e g h,.slice i j k,.int .u64 1] f fun e g=>
 aQ e fun e h i=>
 (eT a.size f g)∧dO g (b8.add 1) fun a f j=>
 (∃ n,dA.t Y n aM b c d 0 e h i 1 a f j 1 g)
def aL.g(Y:aD)(X:Fr)(Z:U):Prop:=eG (X 0) fun a=>cQ a fun a b=>aQ a fun a c d=>cQ b fun b e=>aQ b fun b f h=>b5 e <| aW .u64 (X 1) fun aM=>aL.t Y a c d b f h aM Z
theorem aL.ok(Y:aD)(X:Fr)(Z:U)(g:aL.g Y X Z):den prog E aO (a8 E [.tmp 4,.tmp 5] Y) X Z:=by
 obtain⟨o,a,b⟩:=iJ g
 obtain⟨p,q,rfl,c⟩:=e7 b
 obtain⟨d,e,f,rfl,h⟩:=b4 c
 obtain⟨s,t,rfl,i⟩:=e7 h
 obtain⟨j,k,l,rfl,m⟩:=b4 i
 obtain⟨rfl,g⟩:=hU m
 obtain⟨aM,n,g⟩:=bN g
 exact c4 5 (r:=(a3 aO [W,W,W,W,W])) (by kernel_rfl) (o9.ok Y) (bS [(0,.agg #[.slice d e f,.slice j k l]),(1,.int .u64 aM)] ⟨a,n,trivial⟩ (by kernel_rfl) g)
def t(a:M)(b c:Nat)(d:M)(e f:Nat)(aM:Int)(Z:U)(Y:aD):Prop:=aL.t Y a b c d e f aM Z
theorem ok{a:M}{b:Nat}{d:Nat}{e:M}{f:Nat}{h:Nat}{aM:Int}{Z:U}{Y:aD}(g:t a b d e f h aM Z Y):aY id #[.agg #[.slice a b d,.slice e f h],.int .u64 aM] Z Y:=
 dL dI (c:=aO) (dC:=[.tmp 4,.tmp 5]) Tryz.func58 (by kernel_rfl) (by kernel_rfl) (by kernel_rfl) (args:=[.agg #[.slice a b d,.slice e f h],.int .u64 aM]) (by kernel_rfl) (aL.ok Y _ Z (e5 rfl (cF (bE rfl (cF (bE rfl (dR (bQ rfl (g)))))))))
end jX
namespace lT
noncomputable def aO:Code:=dK Tryz.f59
def a0.t(Y:aD)(a:M)(b c:Nat)(d:Int)(Z:U):Prop:=
 iD 1 a b c none (some (.int .i64 d)) none fun a b c=>Y (.slice a b c) Z
def a0.g(Y:aD)(X:Fr)(Z:U):Prop:=aQ (X 0) fun a b c=>aW .i64 (X 3) fun d=>a0.t Y a b c d Z
theorem a0.ok(Y:aD)(X:Fr)(Z:U)(g:a0.g Y X Z):den prog E (a3 aO [W,W,W]) (a8 E [.tmp 2] Y) X Z:=
 bD g fun a b c d g=>bB g fun e f g=>bS [(0,.slice a b c),(3,.int .i64 e)] ⟨d,f,trivial⟩ (by kernel_rfl) g
def cK.g(a:M→Nat→Nat→Int→U→Prop)(X:Fr)(Z:U):Prop:=aQ (X 0) fun b c d=>aW .i64 (X 3) fun e=>a b c d e Z
def cE.t(Y:aD)(a:M→Nat→Nat→Int→U→Prop)(b:M)(c d:Nat)(e:Int)(Z:U):Prop:=
 cond (decide (e > 0)) (a5 (IntKind.i64.wrap (e - 1)) fun f=>
 c7 b c f 1 fun f=>
 cY Z .u64 f fun f=>
 cond (f == 0) (a5 (IntKind.i64.wrap (e - 1)) fun f=>
 a b c d f Z) (a0.t Y b c d e Z)) (a0.t Y b c d e Z)
def cE.g(Y:aD)(a:M→Nat→Nat→Int→U→Prop)(X:Fr)(Z:U):Prop:=aQ (X 0) fun b c d=>aW .i64 (X 3) fun e=>cE.t Y a b c d e Z
theorem cE.ok(Y:aD)(a:M→Nat→Nat→Int→U→Prop)(X:Fr)(Z:U)(g:cE.g Y a X Z):den prog E (a3 aO [W,W,aT,aT,aT]) (a1.then (cK.g a) (a1.inBlock 0 (a1.then (a0.g Y) (a8 E [.tmp 2] Y)))) X Z:=
 bD g fun a b c d g=>bB g fun e f g=>bS [(0,.slice a b c),(3,.int .i64 e)] ⟨d,f,trivial⟩ (by kernel_rfl) g
def cK.t(Y:aD):Nat→M→Nat→Nat→Int→U→Prop
 | 0=>fun _ _ _ _ _=>False
 | n+1=>fun a b c d Z=>cE.t Y (cK.t Y n) a b c d Z
theorem cK.ok(Y:aD)(X:Fr)(Z:U)(g:cK.g (fun a b c d Z=>∃ n,cK.t Y n a b c d Z) X Z):den prog E (a3 aO [W,W,aT,aT]) (a1.inBlock 0 (a1.then (a0.g Y) (a8 E [.tmp 2] Y))) X Z:=by
 obtain⟨a,b,c,e,g⟩:=b4 g
 obtain⟨d,f,g⟩:=bN g
 obtain⟨n,g⟩:=g
 refine fK (fun n=>cK.g (cK.t Y n)) (L:=(a3 aO [W,W,aT,aT,aT])) (by kernel_rfl) (fun X Z g=>?_) (fun n=>cE.ok Y (cK.t Y n)) n X Z (bE e (bQ f (g)))
 obtain⟨a,b,c,e,g⟩:=b4 g
 obtain⟨d,f,g⟩:=bN g
 exact g
theorem hR.ok(Y:aD)(X:Fr)(Z:U)(g:cK.g (fun a b c d Z=>∃ n,cK.t Y n a b c d Z) X Z):den prog E (a3 aO [W,W,aT]) (a1.then (a0.g Y) (a8 E [.tmp 2] Y)) X Z:=
 fC (by kernel_rfl) (cK.ok Y X Z g)
theorem q9.ok(Y:aD)(X:Fr)(Z:U)(g:cK.g (fun a b c d Z=>∃ n,cK.t Y n a b c d Z) X Z):den prog E (a3 aO [W,W]) (a8 E [.tmp 2] Y) X Z:=
 gA (by kernel_rfl) (a0.ok Y) (hR.ok Y X Z g)
def aL.t(Y:aD)(a:M)(b c:Nat)(Z:U):Prop:=
 (∃ n,cK.t Y n a b c (((b:Nat):Int)) Z)
def aL.g(Y:aD)(X:Fr)(Z:U):Prop:=aQ (X 0) fun a b c=>aL.t Y a b c Z
theorem aL.ok(Y:aD)(X:Fr)(Z:U)(g:aL.g Y X Z):den prog E aO (a8 E [.tmp 2] Y) X Z:=
 bD g fun a b c d g=>c4 2 (r:=(a3 aO [W,W])) (by kernel_rfl) (q9.ok Y) (bS [(0,.slice a b c)] ⟨d,trivial⟩ (by kernel_rfl) g)
def t(a:M)(b c:Nat)(Z:U)(Y:aD):Prop:=aL.t Y a b c Z
theorem ok{a:M}{b:Nat}{d:Nat}{Z:U}{Y:aD}(g:t a b d Z Y):aY id #[.slice a b d] Z Y:=
 dL dI (c:=aO) (dC:=[.tmp 2]) Tryz.func59 (by kernel_rfl) (by kernel_rfl) (by kernel_rfl) (args:=[.slice a b d]) (by kernel_rfl) (aL.ok Y _ Z (bE rfl (g)))
end lT
namespace kV
noncomputable def aO:Code:=dK Tryz.f60
def a0.t(Y:aD)(bR:M)(a bT:Nat)(Z:U):Prop:=
 aY m9.id #[.slice bR a bT] Z fun a fM=>
 cT a fun a=>
 cP a fun a b c d=>
 dJ d .i64 fun d e=>
 b5 e <| Y (.tuple #[.slice a b c,.int .i64 d]) fM
def a0.g(Y:aD)(X:Fr)(Z:U):Prop:=aQ (X 8) fun bR a bT=>a0.t Y bR a bT Z
theorem a0.ok(Y:aD)(X:Fr)(Z:U)(g:a0.g Y X Z):den prog E (a3 aO [W,W,W,W,W,W,W]) (a8 E [.tmp 4,.tmp 5] Y) X Z:=
 bD g fun bR a bT b g=>bS [(8,.slice bR a bT)] ⟨b,trivial⟩ (by kernel_rfl) g
def bL.g(a:M→Nat→Nat→Int→Int→M→Nat→Nat→Int→Int→U→Prop)(X:Fr)(Z:U):Prop:=aQ (X 0) fun b c d=>aW .i64 (X 6) fun e=>aW .i64 (X 7) fun f=>aQ (X 8) fun bR h bT=>aW .i64 (X 29) fun i=>aW .i64 (X 30) fun j=>a b c d e f bR h bT i j Z
def b7.t(Y:aD)(a:M→Nat→Nat→Int→Int→M→Nat→Nat→Int→Int→U→Prop)(b:M)(c d:Nat)(e f:Int)(bR:M)(g bT:Nat)(h i:Int)(Z:U):Prop:=
 cond (decide (i < h)) (a5 (IntKind.i64.wrap (e+i)) fun j=>
 c7 b c j 1 fun j=>
 cY Z .u64 j fun j=>
 0≤f∧a5 (g6 .u64 j f) fun j=>
 c7 bR g i 1 fun k=>
 cC Z k (.int .u64 j) fun j=>
 a5 (IntKind.i64.wrap (e+i)) fun k=>
 a5 (IntKind.i64.wrap (k+1)) fun k=>
 cond (decide (k < (((c:Nat):Int)))) (c7 bR g i 1 fun k=>
 cY j .u64 k fun k=>
 a5 (IntKind.i64.wrap (e+i)) fun l=>
 a5 (IntKind.i64.wrap (l+1)) fun l=>
 c7 b c l 1 fun l=>
 cY j .u64 l fun l=>
 0≤(1:Int)∧a5 (h4 .u64 l 1) fun l=>
 a5 (IntKind.i64.wrap (63 - f)) fun m=>
 0≤m∧a5 (h4 .u64 l m) fun l=>
 a5 (uR .u64 k l) fun k=>
 c7 bR g i 1 fun l=>
 cC j l (.int .u64 k) fun k=>
 a5 (IntKind.i64.wrap (i+1)) fun l=>
 a b c d e f bR g bT h l k) (a5 (IntKind.i64.wrap (i+1)) fun i=>
 a b c d e f bR g bT h i j)) (a0.t Y bR g bT Z)
def b7.g(Y:aD)(a:M→Nat→Nat→Int→Int→M→Nat→Nat→Int→Int→U→Prop)(X:Fr)(Z:U):Prop:=aQ (X 0) fun b c d=>aW .i64 (X 6) fun e=>aW .i64 (X 7) fun f=>aQ (X 8) fun bR h bT=>aW .i64 (X 29) fun i=>aW .i64 (X 30) fun j=>b7.t Y a b c d e f bR h bT i j Z
theorem b7.ok(Y:aD)(a:M→Nat→Nat→Int→Int→M→Nat→Nat→Int→Int→U→Prop)(X:Fr)(Z:U)(g:b7.g Y a X Z):den prog E (a3 aO [W,W,W,W,W,W,aT,W,aT,aT]) (a1.then (bL.g a) (a1.inBlock 0 (a1.then (a0.g Y) (a8 E [.tmp 4,.tmp 5] Y)))) X Z:=
 bD g fun a b c d g=>bB g fun e f g=>bB g fun h i g=>bD g fun bR j bT k g=>bB g fun l m g=>bB g fun n o g=>bS [(0,.slice a b c),(6,.int .i64 e),(7,.int .i64 h),(8,.slice bR j bT),(29,.int .i64 l),(30,.int .i64 n)] ⟨d,f,i,k,m,o,trivial⟩ (by kernel_rfl) g
def bL.t(Y:aD):Nat→M→Nat→Nat→Int→Int→M→Nat→Nat→Int→Int→U→Prop
 | 0=>fun _ _ _ _ _ _ _ _ _ _ _=>False
 | n+1=>fun a b c d e bR f bT g h Z=>b7.t Y (bL.t Y n) a b c d e bR f bT g h Z
theorem bL.ok(Y:aD)(X:Fr)(Z:U)(g:bL.g (fun a b c d e bR f bT h i Z=>∃ n,bL.t Y n a b c d e bR f bT h i Z) X Z):den prog E (a3 aO [W,W,W,W,W,W,aT,W,aT]) (a1.inBlock 0 (a1.then (a0.g Y) (a8 E [.tmp 4,.tmp 5] Y))) X Z:=by
 obtain⟨a,b,c,j,g⟩:=b4 g
 obtain⟨d,k,g⟩:=bN g
 obtain⟨e,l,g⟩:=bN g
 obtain⟨bR,f,bT,m,g⟩:=b4 g
 obtain⟨h,o,g⟩:=bN g
 obtain⟨i,p,g⟩:=bN g
 obtain⟨n,g⟩:=g
 refine fK (fun n=>bL.g (bL.t Y n)) (L:=(a3 aO [W,W,W,W,W,W,aT,W,aT,aT])) (by kernel_rfl) (fun X Z g=>?_) (fun n=>b7.ok Y (bL.t Y n)) n X Z (bE j (bQ k (bQ l (bE m (bQ o (bQ p (g)))))))
 obtain⟨a,b,c,j,g⟩:=b4 g
 obtain⟨d,k,g⟩:=bN g
 obtain⟨e,l,g⟩:=bN g
 obtain⟨bR,f,bT,m,g⟩:=b4 g
 obtain⟨h,o,g⟩:=bN g
 obtain⟨i,p,g⟩:=bN g
 exact g
theorem g3.ok(Y:aD)(X:Fr)(Z:U)(g:bL.g (fun a b c d e bR f bT h i Z=>∃ n,bL.t Y n a b c d e bR f bT h i Z) X Z):den prog E (a3 aO [W,W,W,W,W,W,aT,W]) (a1.then (a0.g Y) (a8 E [.tmp 4,.tmp 5] Y)) X Z:=
 fC (by kernel_rfl) (bL.ok Y X Z g)
def bF.t(Y:aD)(a:M)(b c:Nat)(d e:Int)(bR:M)(f bT:Nat)(Z:U):Prop:=
 (∃ n,bL.t Y n a b c d e bR f bT (((f:Nat):Int)) 0 Z)
def bF.g(Y:aD)(X:Fr)(Z:U):Prop:=aQ (X 0) fun a b c=>aW .i64 (X 6) fun d=>aW .i64 (X 7) fun e=>aQ (X 8) fun bR f bT=>bF.t Y a b c d e bR f bT Z
theorem bF.ok(Y:aD)(X:Fr)(Z:U)(g:bF.g Y X Z):den prog E (a3 aO [W,W,W,W,W,W,aT]) (a1.then (a0.g Y) (a8 E [.tmp 4,.tmp 5] Y)) X Z:=
 bD g fun a b c d g=>bB g fun e f g=>bB g fun h i g=>bD g fun bR j bT k g=>c4 1 (r:=(a3 aO [W,W,W,W,W,W,aT,W])) (by kernel_rfl) (g3.ok Y) (bS [(0,.slice a b c),(6,.int .i64 e),(7,.int .i64 h),(8,.slice bR j bT)] ⟨d,f,i,k,trivial⟩ (by kernel_rfl) g)
theorem g4.ok(Y:aD)(X:Fr)(Z:U)(g:bF.g Y X Z):den prog E (a3 aO [W,W,W,W,W,W]) (a8 E [.tmp 4,.tmp 5] Y) X Z:=
 gA (by kernel_rfl) (a0.ok Y) (bF.ok Y X Z g)
def aL.t(Y:aD)(a:M)(b c:Nat)(aM:Int)(Z:U):Prop:=
 cond (decide (aM < 0)) (Y (.tuple #[.slice none 0 0,.int .i64 1]) Z) (aY kH.id #[.slice a b c] Z fun d e=>
 eS d fun d=>
 cond (!d) (Y (.tuple #[.slice none 0 0,.int .i64 2]) e) ((64:Int) ≠ 0∧a5 (IntKind.i64.wrap (Int.tdiv aM 64)) fun d=>
 (64:Int) ≠ 0∧a5 (Int.tmod aM 64) fun f=>
 cond (decide (d≥(((b:Nat):Int)))) (Y (.tuple #[.slice none 0 0,.int .i64 0]) e) (a5 (IntKind.i64.wrap ((((b:Nat):Int)) - d)) fun g=>
 iI e 35 j6 g g fun e h=>
 bF.t Y a b c d f (some e) g.toNat g.toNat h)))
def aL.g(Y:aD)(X:Fr)(Z:U):Prop:=aQ (X 0) fun a b c=>aW .i64 (X 1) fun aM=>aL.t Y a b c aM Z
theorem aL.ok(Y:aD)(X:Fr)(Z:U)(g:aL.g Y X Z):den prog E aO (a8 E [.tmp 4,.tmp 5] Y) X Z:=
 bD g fun a b c d g=>bB g fun aM e g=>c4 6 (r:=(a3 aO [W,W,W,W,W,W])) (by kernel_rfl) (g4.ok Y) (bS [(0,.slice a b c),(1,.int .i64 aM)] ⟨d,e,trivial⟩ (by kernel_rfl) g)
def t(a:M)(b c:Nat)(aM:Int)(Z:U)(Y:aD):Prop:=aL.t Y a b c aM Z
theorem ok{a:M}{b:Nat}{d:Nat}{aM:Int}{Z:U}{Y:aD}(g:t a b d aM Z Y):aY id #[.slice a b d,.int .i64 aM] Z Y:=
 dL dI (c:=aO) (dC:=[.tmp 4,.tmp 5]) Tryz.func60 (by kernel_rfl) (by kernel_rfl) (by kernel_rfl) (args:=[.slice a b d,.int .i64 aM]) (by kernel_rfl) (aL.ok Y _ Z (bE rfl (bQ rfl (g))))
end kV
namespace oY
noncomputable def aO:Code:=dK Tryz.f61
def cK.g(a:Int→Int→U→Prop)(X:Fr)(Z:U):Prop:=aW .i64 (X 0) fun aS=>aW .i64 (X 4) fun b=>a aS b Z
def cE.t(Y:aD)(a:Int→Int→U→Prop)(aS b:Int)(Z:U):Prop:=
 a5 (IntKind.i64.wrap (aS+b)) fun dY=>
 aY r3.id #[.int .i64 dY] Z fun c d=>
 cT c fun c=>
 cP c fun c e f g=>
 cP g fun g h i j=>
 b5 j <| aY kV.id #[.slice c e f,.int .i64 b] d fun c fM=>
 cT c fun c=>
 cP c fun c d e f=>
 dJ f .i64 fun f f=>
 b5 f <| aY kV.id #[.slice g h i,.int .i64 b] fM fun f g=>
 cT f fun f=>
 cP f fun f h i j=>
 dJ j .i64 fun j j=>
 b5 j <| aY iU.id #[.slice c d e,.slice f h i] g fun f g=>
 aW .i64 f fun f=>
 cond (f == 0) (Y (.tuple #[.slice c d e,.int .i64 0]) g) (a5 (IntKind.i64.wrap (b*2)) fun b=>
 a aS b g)
def cE.g(Y:aD)(a:Int→Int→U→Prop)(X:Fr)(Z:U):Prop:=aW .i64 (X 0) fun aS=>aW .i64 (X 4) fun b=>cE.t Y a aS b Z
theorem cE.ok(Y:aD)(a:Int→Int→U→Prop)(X:Fr)(Z:U)(g:cE.g Y a X Z):den prog E (a3 aO [W,W,W,aT,aT]) (a1.then (cK.g a) (a1.inBlock 0 (a8 E [.tmp 2,.tmp 3] Y))) X Z:=
 bB g fun aS a g=>bB g fun b c g=>bS [(0,.int .i64 aS),(4,.int .i64 b)] ⟨a,c,trivial⟩ (by kernel_rfl) g
def cK.t(Y:aD):Nat→Int→Int→U→Prop
 | 0=>fun _ _ _=>False
 | n+1=>fun aS a Z=>cE.t Y (cK.t Y n) aS a Z
theorem cK.ok(Y:aD)(X:Fr)(Z:U)(g:cK.g (fun aS a Z=>∃ n,cK.t Y n aS a Z) X Z):den prog E (a3 aO [W,W,W,aT]) (a1.inBlock 0 (a8 E [.tmp 2,.tmp 3] Y)) X Z:=by
 obtain⟨aS,b,g⟩:=bN g
 obtain⟨a,c,g⟩:=bN g
 obtain⟨n,g⟩:=g
 refine fK (fun n=>cK.g (cK.t Y n)) (L:=(a3 aO [W,W,W,aT,aT])) (by kernel_rfl) (fun X Z g=>?_) (fun n=>cE.ok Y (cK.t Y n)) n X Z (bQ b (bQ c (g)))
 obtain⟨aS,b,g⟩:=bN g
 obtain⟨a,c,g⟩:=bN g
 exact g
theorem hR.ok(Y:aD)(X:Fr)(Z:U)(g:cK.g (fun aS a Z=>∃ n,cK.t Y n aS a Z) X Z):den prog E (a3 aO [W,W,W]) (a8 E [.tmp 2,.tmp 3] Y) X Z:=
 fC (by kernel_rfl) (cK.ok Y X Z g)
def a0.t(Y:aD)(aS:Int)(Z:U):Prop:=
 (∃ n,cK.t Y n aS 48 Z)
def a0.g(Y:aD)(X:Fr)(Z:U):Prop:=aW .i64 (X 0) fun aS=>a0.t Y aS Z
theorem a0.ok(Y:aD)(X:Fr)(Z:U)(g:a0.g Y X Z):den prog E (a3 aO [W,W]) (a8 E [.tmp 2,.tmp 3] Y) X Z:=
 bB g fun aS a g=>c4 1 (r:=(a3 aO [W,W,W])) (by kernel_rfl) (hR.ok Y) (bS [(0,.int .i64 aS)] ⟨a,trivial⟩ (by kernel_rfl) g)
def aL.t(Y:aD)(aS:Int)(Z:U):Prop:=
 cond (decide (aS < 1)) (Y (.tuple #[.slice none 0 0,.int .i64 1]) Z) (cond (decide (aS > 70000)) (Y (.tuple #[.slice none 0 0,.int .i64 1]) Z) (a0.t Y aS Z))
def aL.g(Y:aD)(X:Fr)(Z:U):Prop:=aW .i64 (X 0) fun aS=>aL.t Y aS Z
theorem aL.ok(Y:aD)(X:Fr)(Z:U)(g:aL.g Y X Z):den prog E aO (a8 E [.tmp 2,.tmp 3] Y) X Z:=
 bB g fun aS a g=>c4 2 (r:=(a3 aO [W,W])) (by kernel_rfl) (a0.ok Y) (bS [(0,.int .i64 aS)] ⟨a,trivial⟩ (by kernel_rfl) g)
def t(aS:Int)(Z:U)(Y:aD):Prop:=aL.t Y aS Z
theorem ok{aS:Int}{Z:U}{Y:aD}(g:t aS Z Y):aY id #[.int .i64 aS] Z Y:=
 dL dI (c:=aO) (dC:=[.tmp 2,.tmp 3]) Tryz.func61 (by kernel_rfl) (by kernel_rfl) (by kernel_rfl) (args:=[.int .i64 aS]) (by kernel_rfl) (aL.ok Y _ Z (bQ rfl (g)))
end oY
namespace qQ
noncomputable def aO:Code:=dK Tryz.f62
def a0.t(Y:aD)(a:M)(b c:Nat)(aJ:M)(aI aG:Nat)(Z:U):Prop:=
 aY n4.id #[.slice a b c,.slice aJ aI aG] Z fun a b=>
 aQ a fun a c d=>
 aY tP.id #[.slice a c d] b fun a b=>
 cT a fun a=>
 cP a fun a c d e=>
 dJ e .i64 fun e f=>
 b5 f <| Y (.tuple #[.slice a c d,.int .i64 e]) b
def a0.g(Y:aD)(X:Fr)(Z:U):Prop:=aQ (X 0) fun a b c=>aQ (X 1) fun aJ aI aG=>a0.t Y a b c aJ aI aG Z
theorem a0.ok(Y:aD)(X:Fr)(Z:U)(g:a0.g Y X Z):den prog E (a3 aO [W,W]) (a8 E [.tmp 4,.tmp 5] Y) X Z:=
 bD g fun a b c d g=>bD g fun aJ aI aG e g=>bS [(0,.slice a b c),(1,.slice aJ aI aG)] ⟨d,e,trivial⟩ (by kernel_rfl) g
def aL.t(Y:aD)(a:M)(b c:Nat)(aJ:M)(aI aG:Nat)(Z:U):Prop:=
 aY kH.id #[.slice a b c] Z fun d e=>
 eS d fun d=>
 cond (!d) (Y (.tuple #[.slice none 0 0,.int .i64 2]) e) (aY kH.id #[.slice aJ aI aG] e fun d e=>
 eS d fun d=>
 cond (!d) (Y (.tuple #[.slice none 0 0,.int .i64 2]) e) (a0.t Y a b c aJ aI aG e))
def aL.g(Y:aD)(X:Fr)(Z:U):Prop:=aQ (X 0) fun a b c=>aQ (X 1) fun aJ aI aG=>aL.t Y a b c aJ aI aG Z
theorem aL.ok(Y:aD)(X:Fr)(Z:U)(g:aL.g Y X Z):den prog E aO (a8 E [.tmp 4,.tmp 5] Y) X Z:=
 bD g fun a b c d g=>bD g fun aJ aI aG e g=>c4 2 (r:=(a3 aO [W,W])) (by kernel_rfl) (a0.ok Y) (bS [(0,.slice a b c),(1,.slice aJ aI aG)] ⟨d,e,trivial⟩ (by kernel_rfl) g)
def t(a:M)(b c:Nat)(aJ:M)(aI aG:Nat)(Z:U)(Y:aD):Prop:=aL.t Y a b c aJ aI aG Z
theorem ok{a:M}{b:Nat}{d:Nat}{aJ:M}{aI:Nat}{aG:Nat}{Z:U}{Y:aD}(g:t a b d aJ aI aG Z Y):aY id #[.slice a b d,.slice aJ aI aG] Z Y:=
 dL dI (c:=aO) (dC:=[.tmp 4,.tmp 5]) Tryz.func62 (by kernel_rfl) (by kernel_rfl) (by kernel_rfl) (args:=[.slice a b d,.slice aJ aI aG]) (by kernel_rfl) (aL.ok Y _ Z (bE rfl (bE rfl (g))))
end qQ
namespace kN
noncomputable def aO:Code:=dK Tryz.f63
def a0.t(Y:aD)(bR:M)(a bT:Nat)(Z:U):Prop:=
 aY m9.id #[.slice bR a bT] Z fun a b=>
 cT a fun a=>
 cP a fun a c d e=>
 dJ e .i64 fun e f=>
 b5 f <| Y (.tuple #[.slice a c d,.int .i64 e]) b
def a0.g(Y:aD)(X:Fr)(Z:U):Prop:=aQ (X 8) fun bR a bT=>a0.t Y bR a bT Z
theorem a0.ok(Y:aD)(X:Fr)(Z:U)(g:a0.g Y X Z):den prog E (a3 aO [W,W,W,W,W,W,W,W]) (a8 E [.tmp 4,.tmp 5] Y) X Z:=
 bD g fun bR a bT b g=>bS [(8,.slice bR a bT)] ⟨b,trivial⟩ (by kernel_rfl) g
def bL.g(a:M→Nat→Nat→Int→Int→M→Nat→Nat→Int→Int→U→Prop)(X:Fr)(Z:U):Prop:=aQ (X 0) fun b c d=>aW .i64 (X 6) fun e=>aW .i64 (X 7) fun f=>aQ (X 8) fun bR h bT=>aW .i64 (X 34) fun i=>aW .i64 (X 35) fun j=>a b c d e f bR h bT i j Z
def b7.t(Y:aD)(a:M→Nat→Nat→Int→Int→M→Nat→Nat→Int→Int→U→Prop)(b:M)(c d:Nat)(e f:Int)(bR:M)(g bT:Nat)(h i:Int)(Z:U):Prop:=
 cond (decide (i < h)) (a5 (IntKind.i64.wrap (e+i)) fun j=>
 c7 bR g j 1 fun k=>
 cY Z .u64 k fun k=>
 c7 b c i 1 fun l=>
 cY Z .u64 l fun l=>
 0≤f∧a5 (h4 .u64 l f) fun l=>
 a5 (uR .u64 k l) fun k=>
 c7 bR g j 1 fun j=>
 cC Z j (.int .u64 k) fun j=>
 a5 (IntKind.i64.wrap (e+i)) fun k=>
 a5 (IntKind.i64.wrap (k+1)) fun k=>
 c7 b c i 1 fun l=>
 cY j .u64 l fun l=>
 0≤(1:Int)∧a5 (g6 .u64 l 1) fun l=>
 a5 (IntKind.i64.wrap (63 - f)) fun m=>
 0≤m∧a5 (g6 .u64 l m) fun l=>
 c7 bR g k 1 fun k=>
 cC j k (.int .u64 l) fun j=>
 a5 (IntKind.i64.wrap (i+1)) fun i=>
 a b c d e f bR g bT h i j) (a0.t Y bR g bT Z)
def b7.g(Y:aD)(a:M→Nat→Nat→Int→Int→M→Nat→Nat→Int→Int→U→Prop)(X:Fr)(Z:U):Prop:=aQ (X 0) fun b c d=>aW .i64 (X 6) fun e=>aW .i64 (X 7) fun f=>aQ (X 8) fun bR h bT=>aW .i64 (X 34) fun i=>aW .i64 (X 35) fun j=>b7.t Y a b c d e f bR h bT i j Z
theorem b7.ok(Y:aD)(a:M→Nat→Nat→Int→Int→M→Nat→Nat→Int→Int→U→Prop)(X:Fr)(Z:U)(g:b7.g Y a X Z):den prog E (a3 aO [W,W,W,W,W,W,W,aT,W,aT,aT]) (a1.then (bL.g a) (a1.inBlock 0 (a1.then (a0.g Y) (a8 E [.tmp 4,.tmp 5] Y)))) X Z:=
 bD g fun a b c d g=>bB g fun e f g=>bB g fun h i g=>bD g fun bR j bT k g=>bB g fun l m g=>bB g fun n o g=>bS [(0,.slice a b c),(6,.int .i64 e),(7,.int .i64 h),(8,.slice bR j bT),(34,.int .i64 l),(35,.int .i64 n)] ⟨d,f,i,k,m,o,trivial⟩ (by kernel_rfl) g
def bL.t(Y:aD):Nat→M→Nat→Nat→Int→Int→M→Nat→Nat→Int→Int→U→Prop
 | 0=>fun _ _ _ _ _ _ _ _ _ _ _=>False
 | n+1=>fun a b c d e bR f bT g h Z=>b7.t Y (bL.t Y n) a b c d e bR f bT g h Z
theorem bL.ok(Y:aD)(X:Fr)(Z:U)(g:bL.g (fun a b c d e bR f bT h i Z=>∃ n,bL.t Y n a b c d e bR f bT h i Z) X Z):den prog E (a3 aO [W,W,W,W,W,W,W,aT,W,aT]) (a1.inBlock 0 (a1.then (a0.g Y) (a8 E [.tmp 4,.tmp 5] Y))) X Z:=by
 obtain⟨a,b,c,j,g⟩:=b4 g
 obtain⟨d,k,g⟩:=bN g
 obtain⟨e,l,g⟩:=bN g
 obtain⟨bR,f,bT,m,g⟩:=b4 g
 obtain⟨h,o,g⟩:=bN g
 obtain⟨i,p,g⟩:=bN g
 obtain⟨n,g⟩:=g
 refine fK (fun n=>bL.g (bL.t Y n)) (L:=(a3 aO [W,W,W,W,W,W,W,aT,W,aT,aT])) (by kernel_rfl) (fun X Z g=>?_) (fun n=>b7.ok Y (bL.t Y n)) n X Z (bE j (bQ k (bQ l (bE m (bQ o (bQ p (g)))))))
 obtain⟨a,b,c,j,g⟩:=b4 g
 obtain⟨d,k,g⟩:=bN g
 obtain⟨e,l,g⟩:=bN g
 obtain⟨bR,f,bT,m,g⟩:=b4 g
 obtain⟨h,o,g⟩:=bN g
 obtain⟨i,p,g⟩:=bN g
 exact g
theorem g3.ok(Y:aD)(X:Fr)(Z:U)(g:bL.g (fun a b c d e bR f bT h i Z=>∃ n,bL.t Y n a b c d e bR f bT h i Z) X Z):den prog E (a3 aO [W,W,W,W,W,W,W,aT,W]) (a1.then (a0.g Y) (a8 E [.tmp 4,.tmp 5] Y)) X Z:=
 fC (by kernel_rfl) (bL.ok Y X Z g)
def bF.t(Y:aD)(a:M)(b c:Nat)(d e:Int)(bR:M)(f bT:Nat)(Z:U):Prop:=
 (∃ n,bL.t Y n a b c d e bR f bT (((b:Nat):Int)) 0 Z)
def bF.g(Y:aD)(X:Fr)(Z:U):Prop:=aQ (X 0) fun a b c=>aW .i64 (X 6) fun d=>aW .i64 (X 7) fun e=>aQ (X 8) fun bR f bT=>bF.t Y a b c d e bR f bT Z
theorem bF.ok(Y:aD)(X:Fr)(Z:U)(g:bF.g Y X Z):den prog E (a3 aO [W,W,W,W,W,W,W,aT]) (a1.then (a0.g Y) (a8 E [.tmp 4,.tmp 5] Y)) X Z:=
 bD g fun a b c d g=>bB g fun e f g=>bB g fun h i g=>bD g fun bR j bT k g=>c4 1 (r:=(a3 aO [W,W,W,W,W,W,W,aT,W])) (by kernel_rfl) (g3.ok Y) (bS [(0,.slice a b c),(6,.int .i64 e),(7,.int .i64 h),(8,.slice bR j bT)] ⟨d,f,i,k,trivial⟩ (by kernel_rfl) g)
theorem g4.ok(Y:aD)(X:Fr)(Z:U)(g:bF.g Y X Z):den prog E (a3 aO [W,W,W,W,W,W,W]) (a8 E [.tmp 4,.tmp 5] Y) X Z:=
 gA (by kernel_rfl) (a0.ok Y) (bF.ok Y X Z g)
def aL.t(Y:aD)(a:M)(b c:Nat)(aM:Int)(Z:U):Prop:=
 cond (decide (aM < 0)) (Y (.tuple #[.slice none 0 0,.int .i64 1]) Z) (aY kH.id #[.slice a b c] Z fun d e=>
 eS d fun d=>
 cond (!d) (Y (.tuple #[.slice none 0 0,.int .i64 2]) e) (cond ((((b:Nat):Int)) == 0) (Y (.tuple #[.slice none 0 0,.int .i64 0]) e) (aY oN.id #[.slice a b c] e fun d e=>
 aW .i64 d fun d=>
 a5 (IntKind.i64.wrap (524288 - d)) fun d=>
 cond (decide (aM > d)) (Y (.tuple #[.slice none 0 0,.int .i64 5]) e) ((64:Int) ≠ 0∧a5 (IntKind.i64.wrap (Int.tdiv aM 64)) fun d=>
 (64:Int) ≠ 0∧a5 (Int.tmod aM 64) fun f=>
 a5 (IntKind.i64.wrap (d+(((b:Nat):Int)))) fun g=>
 a5 (IntKind.i64.wrap (g+1)) fun g=>
 iI e 35 j6 g g fun e h=>
 bF.t Y a b c d f (some e) g.toNat g.toNat h))))
def aL.g(Y:aD)(X:Fr)(Z:U):Prop:=aQ (X 0) fun a b c=>aW .i64 (X 1) fun aM=>aL.t Y a b c aM Z
theorem aL.ok(Y:aD)(X:Fr)(Z:U)(g:aL.g Y X Z):den prog E aO (a8 E [.tmp 4,.tmp 5] Y) X Z:=
 bD g fun a b c d g=>bB g fun aM e g=>c4 7 (r:=(a3 aO [W,W,W,W,W,W,W])) (by kernel_rfl) (g4.ok Y) (bS [(0,.slice a b c),(1,.int .i64 aM)] ⟨d,e,trivial⟩ (by kernel_rfl) g)
def t(a:M)(b c:Nat)(aM:Int)(Z:U)(Y:aD):Prop:=aL.t Y a b c aM Z
theorem ok{a:M}{b:Nat}{d:Nat}{aM:Int}{Z:U}{Y:aD}(g:t a b d aM Z Y):aY id #[.slice a b d,.int .i64 aM] Z Y:=
 dL dI (c:=aO) (dC:=[.tmp 4,.tmp 5]) Tryz.func63 (by kernel_rfl) (by kernel_rfl) (by kernel_rfl) (args:=[.slice a b d,.int .i64 aM]) (by kernel_rfl) (aL.ok Y _ Z (bE rfl (bQ rfl (g))))
end kN
namespace p5
noncomputable def aO:Code:=dK Tryz.f64
def a0.t(Y:aD)(a:M)(b c:Nat)(aJ:M)(aI aG:Nat)(Z:U):Prop:=
 aY jS.id #[.slice a b c,.slice aJ aI aG] Z fun a b=>
 cT a fun a=>
 cP a fun a c d e=>
 dJ e .i64 fun e e=>
 b5 e <| Y (.slice a c d) b
def a0.g(Y:aD)(X:Fr)(Z:U):Prop:=aQ (X 0) fun a b c=>aQ (X 1) fun aJ aI aG=>a0.t Y a b c aJ aI aG Z
theorem a0.ok(Y:aD)(X:Fr)(Z:U)(g:a0.g Y X Z):den prog E (a3 aO [W,W]) (a8 E [.tmp 4] Y) X Z:=
 bD g fun a b c d g=>bD g fun aJ aI aG e g=>bS [(0,.slice a b c),(1,.slice aJ aI aG)] ⟨d,e,trivial⟩ (by kernel_rfl) g
def aL.t(Y:aD)(a:M)(b c:Nat)(aJ:M)(aI aG:Nat)(Z:U):Prop:=
 aY iU.id #[.slice a b c,.slice aJ aI aG] Z fun d e=>
 aW .i64 d fun d=>
 cond (decide (d < 0)) (a0.t Y aJ aI aG a b c e) (a0.t Y a b c aJ aI aG e)
def aL.g(Y:aD)(X:Fr)(Z:U):Prop:=aQ (X 0) fun a b c=>aQ (X 1) fun aJ aI aG=>aL.t Y a b c aJ aI aG Z
theorem aL.ok(Y:aD)(X:Fr)(Z:U)(g:aL.g Y X Z):den prog E aO (a8 E [.tmp 4] Y) X Z:=
 bD g fun a b c d g=>bD g fun aJ aI aG e g=>c4 2 (r:=(a3 aO [W,W])) (by kernel_rfl) (a0.ok Y) (bS [(0,.slice a b c),(1,.slice aJ aI aG)] ⟨d,e,trivial⟩ (by kernel_rfl) g)
def t(a:M)(b c:Nat)(aJ:M)(aI aG:Nat)(Z:U)(Y:aD):Prop:=aL.t Y a b c aJ aI aG Z
theorem ok{a:M}{b:Nat}{d:Nat}{aJ:M}{aI:Nat}{aG:Nat}{Z:U}{Y:aD}(g:t a b d aJ aI aG Z Y):aY id #[.slice a b d,.slice aJ aI aG] Z Y:=
 dL dI (c:=aO) (dC:=[.tmp 4]) Tryz.func64 (by kernel_rfl) (by kernel_rfl) (by kernel_rfl) (args:=[.slice a b d,.slice aJ aI aG]) (by kernel_rfl) (aL.ok Y _ Z (bE rfl (bE rfl (g))))
end p5
namespace oN
noncomputable def aO:Code:=dK Tryz.f65
def aL.t(Y:aD)(a:M)(b c:Nat)(Z:U):Prop:=
 aY lT.id #[.slice a b c] Z fun a b=>
 aQ a fun a c d=>
 cond ((((c:Nat):Int)) == 0) (Y (.int .i64 0) b) (a5 (IntKind.i64.wrap ((((c:Nat):Int)) - 1)) fun d=>
 a5 (IntKind.i64.wrap (64*d)) fun d=>
 a5 (IntKind.i64.wrap ((((c:Nat):Int)) - 1)) fun e=>
 c7 a c e 1 fun a=>
 cY b .u64 a fun a=>
 aY mH.id #[.int .u64 a] b fun a b=>
 aW .i64 a fun a=>
 a5 (IntKind.i64.wrap (d+a)) fun a=>
 Y (.int .i64 a) b)
def aL.g(Y:aD)(X:Fr)(Z:U):Prop:=aQ (X 0) fun a b c=>aL.t Y a b c Z
theorem aL.ok(Y:aD)(X:Fr)(Z:U)(g:aL.g Y X Z):den prog E aO (a8 E [.tmp 2] Y) X Z:=
 bD g fun a b c d g=>bS [(0,.slice a b c)] ⟨d,trivial⟩ (by kernel_rfl) g
def t(a:M)(b c:Nat)(Z:U)(Y:aD):Prop:=aL.t Y a b c Z
theorem ok{a:M}{b:Nat}{d:Nat}{Z:U}{Y:aD}(g:t a b d Z Y):aY id #[.slice a b d] Z Y:=
 dL dI (c:=aO) (dC:=[.tmp 2]) Tryz.func65 (by kernel_rfl) (by kernel_rfl) (by kernel_rfl) (args:=[.slice a b d]) (by kernel_rfl) (aL.ok Y _ Z (bE rfl (g)))
end oN
namespace lC
noncomputable def aO:Code:=dK Tryz.f66
def a0.t(Y:aD)(b0:M)(a b2:Nat)(Z:U):Prop:=
 Y (.slice b0 a b2) Z
def a0.g(Y:aD)(X:Fr)(Z:U):Prop:=aQ (X 7) fun b0 a b2=>a0.t Y b0 a b2 Z
theorem a0.ok(Y:aD)(X:Fr)(Z:U)(g:a0.g Y X Z):den prog E (a3 aO [W,W,W]) (a8 E [.tmp 6] Y) X Z:=
 bD g fun b0 a b2 b g=>bS [(7,.slice b0 a b2)] ⟨b,trivial⟩ (by kernel_rfl) g
def cK.g(a:M→Nat→Nat→M→Nat→Nat→Int→M→Nat→Nat→U→Prop)(X:Fr)(Z:U):Prop:=aQ (X 0) fun b c d=>aQ (X 1) fun aJ aI aG=>aW .i64 (X 2) fun e=>aQ (X 7) fun b0 f b2=>a b c d aJ aI aG e b0 f b2 Z
def b7.t(Y:aD)(a:M→Nat→Nat→M→Nat→Nat→Int→M→Nat→Nat→U→Prop)(b:M)(c d:Nat)(aJ:M)(aI aG:Nat)(e:Int)(b0:M)(f b2:Nat)(Z:U):Prop:=
 aY hK.id #[.slice b c d,.slice aJ aI aG] Z fun b c=>
 cT b fun b=>
 cP b fun b d g h=>
 cP h fun h i j k=>
 b5 k <| dN c 51 [.slice b d g] fun b c=>
 hF c 51 Hh b0 f b2 (.slice (some b) 1 1) fun b c d fM=>
 a aJ aI aG h i j e b c d fM
def b7.g(Y:aD)(a:M→Nat→Nat→M→Nat→Nat→Int→M→Nat→Nat→U→Prop)(X:Fr)(Z:U):Prop:=aQ (X 0) fun b c d=>aQ (X 1) fun aJ aI aG=>aW .i64 (X 2) fun e=>aQ (X 7) fun b0 f b2=>b7.t Y a b c d aJ aI aG e b0 f b2 Z
theorem b7.ok(Y:aD)(a:M→Nat→Nat→M→Nat→Nat→Int→M→Nat→Nat→U→Prop)(X:Fr)(Z:U)(g:b7.g Y a X Z):den prog E (a3 aO [W,W,aT,aT,aT,W]) (a1.then (cK.g a) (a1.inBlock 0 (a1.then (a0.g Y) (a8 E [.tmp 6] Y)))) X Z:=
 bD g fun a b c d g=>bD g fun aJ aI aG e g=>bB g fun f h g=>bD g fun b0 i b2 j g=>bS [(0,.slice a b c),(1,.slice aJ aI aG),(2,.int .i64 f),(7,.slice b0 i b2)] ⟨d,e,h,j,trivial⟩ (by kernel_rfl) g
def cE.t(Y:aD)(a:M→Nat→Nat→M→Nat→Nat→Int→M→Nat→Nat→U→Prop)(b:M)(c d:Nat)(aJ:M)(aI aG:Nat)(e:Int)(b0:M)(f b2:Nat)(Z:U):Prop:=
 cond (decide ((((aI:Nat):Int)) > 0)) (cond (decide ((((f:Nat):Int)) < e)) (b7.t Y a b c d aJ aI aG e b0 f b2 Z) (a0.t Y b0 f b2 Z)) (a0.t Y b0 f b2 Z)
def cE.g(Y:aD)(a:M→Nat→Nat→M→Nat→Nat→Int→M→Nat→Nat→U→Prop)(X:Fr)(Z:U):Prop:=aQ (X 0) fun b c d=>aQ (X 1) fun aJ aI aG=>aW .i64 (X 2) fun e=>aQ (X 7) fun b0 f b2=>cE.t Y a b c d aJ aI aG e b0 f b2 Z
theorem cE.ok(Y:aD)(a:M→Nat→Nat→M→Nat→Nat→Int→M→Nat→Nat→U→Prop)(X:Fr)(Z:U)(g:cE.g Y a X Z):den prog E (a3 aO [W,W,aT,aT,aT]) (a1.then (cK.g a) (a1.inBlock 0 (a1.then (a0.g Y) (a8 E [.tmp 6] Y)))) X Z:=
 bD g fun b c d e g=>bD g fun aJ aI aG f g=>bB g fun h i g=>bD g fun b0 j b2 k g=>c4 1 (r:=(a3 aO [W,W,aT,aT,aT,W])) (by kernel_rfl) (b7.ok Y a) (bS [(0,.slice b c d),(1,.slice aJ aI aG),(2,.int .i64 h),(7,.slice b0 j b2)] ⟨e,f,i,k,trivial⟩ (by kernel_rfl) g)
def cK.t(Y:aD):Nat→M→Nat→Nat→M→Nat→Nat→Int→M→Nat→Nat→U→Prop
 | 0=>fun _ _ _ _ _ _ _ _ _ _ _=>False
 | n+1=>fun a b c aJ aI aG d b0 e b2 Z=>cE.t Y (cK.t Y n) a b c aJ aI aG d b0 e b2 Z
theorem cK.ok(Y:aD)(X:Fr)(Z:U)(g:cK.g (fun a b c aJ aI aG d b0 e b2 Z=>∃ n,cK.t Y n a b c aJ aI aG d b0 e b2 Z) X Z):den prog E (a3 aO [W,W,aT,aT]) (a1.inBlock 0 (a1.then (a0.g Y) (a8 E [.tmp 6] Y))) X Z:=by
 obtain⟨a,b,c,f,g⟩:=b4 g
 obtain⟨aJ,aI,aG,h,g⟩:=b4 g
 obtain⟨d,i,g⟩:=bN g
 obtain⟨b0,e,b2,j,g⟩:=b4 g
 obtain⟨n,g⟩:=g
 refine fK (fun n=>cK.g (cK.t Y n)) (L:=(a3 aO [W,W,aT,aT,aT])) (by kernel_rfl) (fun X Z g=>?_) (fun n=>cE.ok Y (cK.t Y n)) n X Z (bE f (bE h (bQ i (bE j (g)))))
 obtain⟨a,b,c,f,g⟩:=b4 g
 obtain⟨aJ,aI,aG,h,g⟩:=b4 g
 obtain⟨d,i,g⟩:=bN g
 obtain⟨b0,e,b2,j,g⟩:=b4 g
 exact g
theorem g3.ok(Y:aD)(X:Fr)(Z:U)(g:cK.g (fun a b c aJ aI aG d b0 e b2 Z=>∃ n,cK.t Y n a b c aJ aI aG d b0 e b2 Z) X Z):den prog E (a3 aO [W,W,aT]) (a1.then (a0.g Y) (a8 E [.tmp 6] Y)) X Z:=
 fC (by kernel_rfl) (cK.ok Y X Z g)
theorem g4.ok(Y:aD)(X:Fr)(Z:U)(g:cK.g (fun a b c aJ aI aG d b0 e b2 Z=>∃ n,cK.t Y n a b c aJ aI aG d b0 e b2 Z) X Z):den prog E (a3 aO [W,W]) (a8 E [.tmp 6] Y) X Z:=
 gA (by kernel_rfl) (a0.ok Y) (g3.ok Y X Z g)
def aL.t(Y:aD)(a:M)(b c:Nat)(aJ:M)(aI aG:Nat)(d:Int)(Z:U):Prop:=
 (∃ n,cK.t Y n a b c aJ aI aG d none 0 0 Z)
def aL.g(Y:aD)(X:Fr)(Z:U):Prop:=aQ (X 0) fun a b c=>aQ (X 1) fun aJ aI aG=>aW .i64 (X 2) fun d=>aL.t Y a b c aJ aI aG d Z
theorem aL.ok(Y:aD)(X:Fr)(Z:U)(g:aL.g Y X Z):den prog E aO (a8 E [.tmp 6] Y) X Z:=
 bD g fun a b c d g=>bD g fun aJ aI aG e g=>bB g fun f h g=>c4 2 (r:=(a3 aO [W,W])) (by kernel_rfl) (g4.ok Y) (bS [(0,.slice a b c),(1,.slice aJ aI aG),(2,.int .i64 f)] ⟨d,e,h,trivial⟩ (by kernel_rfl) g)
def t(a:M)(b c:Nat)(aJ:M)(aI aG:Nat)(d:Int)(Z:U)(Y:aD):Prop:=aL.t Y a b c aJ aI aG d Z
theorem ok{a:M}{b:Nat}{d:Nat}{aJ:M}{aI:Nat}{aG:Nat}{e:Int}{Z:U}{Y:aD}(g:t a b d aJ aI aG e Z Y):aY id #[.slice a b d,.slice aJ aI aG,.int .i64 e] Z Y:=
 dL dI (c:=aO) (dC:=[.tmp 6]) Tryz.func66 (by kernel_rfl) (by kernel_rfl) (by kernel_rfl) (args:=[.slice a b d,.slice aJ aI aG,.int .i64 e]) (by kernel_rfl) (aL.ok Y _ Z (bE rfl (bE rfl (bQ rfl (g)))))
end lC
namespace qL
noncomputable def aO:Code:=dK Tryz.f67
def aL.t(Y:aD)(a:M)(b c:Nat)(Z:U):Prop:=
 aY j7.id #[.slice a b c] Z fun a b=>
 aQ a fun a c d=>
 cond ((((c:Nat):Int)) == 0) (Y (.tuple #[.int .u64 0,.bool true]) b) (cond ((((c:Nat):Int)) == 1) (c7 a c 0 1 fun eD=>
 cY b .u64 eD fun a=>
 Y (.tuple #[.int .u64 a,.bool true]) b) (Y (.tuple #[.int .u64 0,.bool false]) b))
def aL.g(Y:aD)(X:Fr)(Z:U):Prop:=aQ (X 0) fun a b c=>aL.t Y a b c Z
theorem aL.ok(Y:aD)(X:Fr)(Z:U)(g:aL.g Y X Z):den prog E aO (a8 E [.tmp 2,.tmp 3] Y) X Z:=
 bD g fun a b c d g=>bS [(0,.slice a b c)] ⟨d,trivial⟩ (by kernel_rfl) g
def t(a:M)(b c:Nat)(Z:U)(Y:aD):Prop:=aL.t Y a b c Z
theorem ok{a:M}{b:Nat}{d:Nat}{Z:U}{Y:aD}(g:t a b d Z Y):aY id #[.slice a b d] Z Y:=
 dL dI (c:=aO) (dC:=[.tmp 2,.tmp 3]) Tryz.func67 (by kernel_rfl) (by kernel_rfl) (by kernel_rfl) (args:=[.slice a b d]) (by kernel_rfl) (aL.ok Y _ Z (bE rfl (g)))
end qL
namespace hK
noncomputable def aO:Code:=dK Tryz.f68
def bF.t(Y:aD)(a:Int)(b:M)(c d:Nat)(e:Int)(f:M)(g h:Nat)(Z:U):Prop:=
 aY gV.id #[.slice f g h] Z fun f g=>
 aQ f fun f h i=>
 iD 1 b c d none (some (.int .i64 e)) none fun b c d=>
 aY gV.id #[.slice b c d] g fun b c=>
 aQ b fun b d e=>
 aY kT.id #[.slice b d e,.int .i64 a] c fun a b=>
 aQ a fun a c d=>
 Y (.tuple #[.slice f h i,.slice a c d]) b
def bF.g(Y:aD)(X:Fr)(Z:U):Prop:=aW .i64 (X 8) fun a=>aQ (X 10) fun b c d=>aW .i64 (X 11) fun e=>aQ (X 12) fun f h i=>bF.t Y a b c d e f h i Z
theorem bF.ok(Y:aD)(X:Fr)(Z:U)(g:bF.g Y X Z):den prog E (a3 aO [W,W,W,W,W,W,W,W,W,W,W]) (a8 E [.tmp 4,.tmp 5] Y) X Z:=
 bB g fun a b g=>bD g fun c d e f g=>bB g fun h i g=>bD g fun j k l m g=>bS [(8,.int .i64 a),(10,.slice c d e),(11,.int .i64 h),(12,.slice j k l)] ⟨b,f,i,m,trivial⟩ (by kernel_rfl) g
def dW.g(a:Int→M→Nat→Nat→M→Nat→Nat→Int→M→Nat→Nat→Int→U→Prop)(X:Fr)(Z:U):Prop:=aW .i64 (X 8) fun b=>aQ (X 9) fun c d e=>aQ (X 10) fun f h i=>aW .i64 (X 11) fun j=>aQ (X 12) fun k l m=>aW .i64 (X 13) fun n=>a b c d e f h i j k l m n Z
def c8.t(Y:aD)(a:Int→M→Nat→Nat→M→Nat→Nat→Int→M→Nat→Nat→Int→U→Prop)(b:Int)(c:M)(d e:Nat)(f:M)(g h:Nat)(i:Int)(j:M)(k l:Nat)(m:Int)(Z:U):Prop:=
 cond (decide (m≥0)) (a5 (IntKind.i64.wrap (m+i)) fun n=>
 a5 (IntKind.i64.wrap (n+1)) fun n=>
 iD 1 f g h (some (.int .i64 m)) (some (.int .i64 n)) none fun n o p=>
 aY hO.id #[.slice n o p,.slice c d e] Z fun n o=>
 aW .u32 n fun n=>
 c7 j k m 1 fun p=>
 cC o p (.int .u32 n) fun n=>
 a5 (IntKind.i64.wrap (m - 1)) fun m=>
 a b c d e f g h i j k l m n) (bF.t Y b f g h i j k l Z)
def c8.g(Y:aD)(a:Int→M→Nat→Nat→M→Nat→Nat→Int→M→Nat→Nat→Int→U→Prop)(X:Fr)(Z:U):Prop:=aW .i64 (X 8) fun b=>aQ (X 9) fun c d e=>aQ (X 10) fun f h i=>aW .i64 (X 11) fun j=>aQ (X 12) fun k l m=>aW .i64 (X 13) fun n=>c8.t Y a b c d e f h i j k l m n Z
theorem c8.ok(Y:aD)(a:Int→M→Nat→Nat→M→Nat→Nat→Int→M→Nat→Nat→Int→U→Prop)(X:Fr)(Z:U)(g:c8.g Y a X Z):den prog E (a3 aO [W,W,W,W,W,W,W,W,W,W,aT,W,aT,aT]) (a1.then (dW.g a) (a1.inBlock 2 (a1.then (bF.g Y) (a8 E [.tmp 4,.tmp 5] Y)))) X Z:=
 bB g fun a b g=>bD g fun c d e f g=>bD g fun h i j k g=>bB g fun l m g=>bD g fun n o p q g=>bB g fun r s g=>bS [(8,.int .i64 a),(9,.slice c d e),(10,.slice h i j),(11,.int .i64 l),(12,.slice n o p),(13,.int .i64 r)] ⟨b,f,k,m,q,s,trivial⟩ (by kernel_rfl) g
def dW.t(Y:aD):Nat→Int→M→Nat→Nat→M→Nat→Nat→Int→M→Nat→Nat→Int→U→Prop
 | 0=>fun _ _ _ _ _ _ _ _ _ _ _ _ _=>False
 | n+1=>fun a b c d e f g h i j k l Z=>c8.t Y (dW.t Y n) a b c d e f g h i j k l Z
theorem dW.ok(Y:aD)(X:Fr)(Z:U)(g:dW.g (fun a b c d e f h i j k l m Z=>∃ n,dW.t Y n a b c d e f h i j k l m Z) X Z):den prog E (a3 aO [W,W,W,W,W,W,W,W,W,W,aT,W,aT]) (a1.inBlock 2 (a1.then (bF.g Y) (a8 E [.tmp 4,.tmp 5] Y))) X Z:=by
 obtain⟨a,o,g⟩:=bN g
 obtain⟨b,c,d,p,g⟩:=b4 g
 obtain⟨e,f,h,q,g⟩:=b4 g
 obtain⟨i,r,g⟩:=bN g
 obtain⟨j,k,l,s,g⟩:=b4 g
 obtain⟨m,u,g⟩:=bN g
 obtain⟨n,g⟩:=g
 refine fK (fun n=>dW.g (dW.t Y n)) (L:=(a3 aO [W,W,W,W,W,W,W,W,W,W,aT,W,aT,aT])) (by kernel_rfl) (fun X Z g=>?_) (fun n=>c8.ok Y (dW.t Y n)) n X Z (bQ o (bE p (bE q (bQ r (bE s (bQ u (g)))))))
 obtain⟨a,o,g⟩:=bN g
 obtain⟨b,c,d,p,g⟩:=b4 g
 obtain⟨e,f,h,q,g⟩:=b4 g
 obtain⟨i,r,g⟩:=bN g
 obtain⟨j,k,l,s,g⟩:=b4 g
 obtain⟨m,u,g⟩:=bN g
 exact g
theorem o7.ok(Y:aD)(X:Fr)(Z:U)(g:dW.g (fun a b c d e f h i j k l m Z=>∃ n,dW.t Y n a b c d e f h i j k l m Z) X Z):den prog E (a3 aO [W,W,W,W,W,W,W,W,W,W,aT,W]) (a1.then (bF.g Y) (a8 E [.tmp 4,.tmp 5] Y)) X Z:=
 fC (by kernel_rfl) (dW.ok Y X Z g)
def cE.t(Y:aD)(a:Int)(b:M)(c d:Nat)(e:M)(f g:Nat)(h:Int)(i:M)(j k:Nat)(Z:U):Prop:=
 a5 (IntKind.i64.wrap ((((f:Nat):Int)) - h)) fun l=>
 a5 (IntKind.i64.wrap (l - 1)) fun l=>
 (∃ n,dW.t Y n a b c d e f g h i j k l Z)
def cE.g(Y:aD)(X:Fr)(Z:U):Prop:=aW .i64 (X 8) fun a=>aQ (X 9) fun b c d=>aQ (X 10) fun e f h=>aW .i64 (X 11) fun i=>aQ (X 12) fun j k l=>cE.t Y a b c d e f h i j k l Z
theorem cE.ok(Y:aD)(X:Fr)(Z:U)(g:cE.g Y X Z):den prog E (a3 aO [W,W,W,W,W,W,W,W,W,W,aT]) (a1.then (bF.g Y) (a8 E [.tmp 4,.tmp 5] Y)) X Z:=
 bB g fun a b g=>bD g fun c d e f g=>bD g fun h i j k g=>bB g fun l m g=>bD g fun n o p q g=>c4 1 (r:=(a3 aO [W,W,W,W,W,W,W,W,W,W,aT,W])) (by kernel_rfl) (o7.ok Y) (bS [(8,.int .i64 a),(9,.slice c d e),(10,.slice h i j),(11,.int .i64 l),(12,.slice n o p)] ⟨b,f,k,m,q,trivial⟩ (by kernel_rfl) g)
theorem o8.ok(Y:aD)(X:Fr)(Z:U)(g:cE.g Y X Z):den prog E (a3 aO [W,W,W,W,W,W,W,W,W,W]) (a8 E [.tmp 4,.tmp 5] Y) X Z:=
 gA (by kernel_rfl) (bF.ok Y) (cE.ok Y X Z g)
def a0.t(Y:aD)(a:Int)(b:M)(c d:Nat)(e:M)(f g:Nat)(Z:U):Prop:=
 a5 (IntKind.i64.wrap ((((f:Nat):Int)) - (((c:Nat):Int)))) fun h=>
 iI Z 89 iG h h fun i j=>
 cE.t Y a b c d e f g (((c:Nat):Int)) (some i) h.toNat h.toNat j
def a0.g(Y:aD)(X:Fr)(Z:U):Prop:=aW .i64 (X 8) fun a=>aQ (X 9) fun b c d=>aQ (X 10) fun e f h=>a0.t Y a b c d e f h Z
theorem a0.ok(Y:aD)(X:Fr)(Z:U)(g:a0.g Y X Z):den prog E (a3 aO [W,W,W,W,W,W,W,W]) (a8 E [.tmp 4,.tmp 5] Y) X Z:=
 bB g fun a b g=>bD g fun c d e f g=>bD g fun h i j k g=>c4 2 (r:=(a3 aO [W,W,W,W,W,W,W,W,W,W])) (by kernel_rfl) (o8.ok Y) (bS [(8,.int .i64 a),(9,.slice c d e),(10,.slice h i j)] ⟨b,f,k,trivial⟩ (by kernel_rfl) g)
def g8.g(a:M→Nat→Nat→Int→M→Nat→Nat→M→Nat→Nat→U→Prop)(X:Fr)(Z:U):Prop:=aQ (X 0) fun b c d=>aW .i64 (X 8) fun e=>aQ (X 9) fun f h i=>aQ (X 10) fun j k l=>a b c d e f h i j k l Z
def iL.t(Y:aD)(a:M→Nat→Nat→Int→M→Nat→Nat→M→Nat→Nat→U→Prop)(b:M)(c d:Nat)(e:Int)(f:M)(g h:Nat)(i:M)(j k:Nat)(Z:U):Prop:=
 cond (decide ((((j:Nat):Int))≤(((c:Nat):Int)))) (dN Z 89 [.int .u32 0] fun l m=>
 hF m 89 iG i j k (.slice (some l) 1 1) fun l m n o=>
 a b c d e f g h l m n o) (a0.t Y e f g h i j k Z)
def iL.g(Y:aD)(a:M→Nat→Nat→Int→M→Nat→Nat→M→Nat→Nat→U→Prop)(X:Fr)(Z:U):Prop:=aQ (X 0) fun b c d=>aW .i64 (X 8) fun e=>aQ (X 9) fun f h i=>aQ (X 10) fun j k l=>iL.t Y a b c d e f h i j k l Z
theorem iL.ok(Y:aD)(a:M→Nat→Nat→Int→M→Nat→Nat→M→Nat→Nat→U→Prop)(X:Fr)(Z:U)(g:iL.g Y a X Z):den prog E (a3 aO [W,W,W,W,W,W,W,aT,aT,aT]) (a1.then (g8.g a) (a1.inBlock 0 (a1.then (a0.g Y) (a8 E [.tmp 4,.tmp 5] Y)))) X Z:=
 bD g fun a b c d g=>bB g fun e f g=>bD g fun h i j k g=>bD g fun l m n o g=>bS [(0,.slice a b c),(8,.int .i64 e),(9,.slice h i j),(10,.slice l m n)] ⟨d,f,k,o,trivial⟩ (by kernel_rfl) g
def g8.t(Y:aD):Nat→M→Nat→Nat→Int→M→Nat→Nat→M→Nat→Nat→U→Prop
 | 0=>fun _ _ _ _ _ _ _ _ _ _ _=>False
 | n+1=>fun a b c d e f g h i j Z=>iL.t Y (g8.t Y n) a b c d e f g h i j Z
theorem g8.ok(Y:aD)(X:Fr)(Z:U)(g:g8.g (fun a b c d e f h i j k Z=>∃ n,g8.t Y n a b c d e f h i j k Z) X Z):den prog E (a3 aO [W,W,W,W,W,W,W,aT,aT]) (a1.inBlock 0 (a1.then (a0.g Y) (a8 E [.tmp 4,.tmp 5] Y))) X Z:=by
 obtain⟨a,b,c,l,g⟩:=b4 g
 obtain⟨d,m,g⟩:=bN g
 obtain⟨e,f,h,o,g⟩:=b4 g
 obtain⟨i,j,k,p,g⟩:=b4 g
 obtain⟨n,g⟩:=g
 refine fK (fun n=>g8.g (g8.t Y n)) (L:=(a3 aO [W,W,W,W,W,W,W,aT,aT,aT])) (by kernel_rfl) (fun X Z g=>?_) (fun n=>iL.ok Y (g8.t Y n)) n X Z (bE l (bQ m (bE o (bE p (g)))))
 obtain⟨a,b,c,l,g⟩:=b4 g
 obtain⟨d,m,g⟩:=bN g
 obtain⟨e,f,h,o,g⟩:=b4 g
 obtain⟨i,j,k,p,g⟩:=b4 g
 exact g
theorem yM.ok(Y:aD)(X:Fr)(Z:U)(g:g8.g (fun a b c d e f h i j k Z=>∃ n,g8.t Y n a b c d e f h i j k Z) X Z):den prog E (a3 aO [W,W,W,W,W,W,W,aT]) (a1.then (a0.g Y) (a8 E [.tmp 4,.tmp 5] Y)) X Z:=
 fC (by kernel_rfl) (g8.ok Y X Z g)
theorem OZ.ok(Y:aD)(X:Fr)(Z:U)(g:g8.g (fun a b c d e f h i j k Z=>∃ n,g8.t Y n a b c d e f h i j k Z) X Z):den prog E (a3 aO [W,W,W,W,W,W,W]) (a8 E [.tmp 4,.tmp 5] Y) X Z:=
 gA (by kernel_rfl) (a0.ok Y) (yM.ok Y X Z g)
def aL.t(Y:aD)(a:M)(b c:Nat)(aJ:M)(aI aG:Nat)(Z:U):Prop:=
 cond ((((aI:Nat):Int)) == 0) (aY gF.id #[.int .u64 0] Z fun d e=>
 aQ d fun d f g=>
 aY gF.id #[.int .u64 0] e fun e h=>
 aQ e fun e i j=>
 Y (.tuple #[.slice d f g,.slice e i j]) h) (aY hZ.id #[.slice a b c,.slice aJ aI aG] Z fun d e=>
 aW .i64 d fun d=>
 cond (decide (d < 0)) (aY gF.id #[.int .u64 0] e fun d f=>
 aQ d fun d g h=>
 aY gV.id #[.slice a b c] f fun f i=>
 aQ f fun f j k=>
 Y (.tuple #[.slice d g h,.slice f j k]) i) (cond ((((aI:Nat):Int)) == 1) (c7 aJ aI 0 1 fun d=>
 cY e .u32 d fun d=>
 aY jM.id #[.slice a b c,.int .u32 d] e fun d f=>
 cT d fun d=>
 cP d fun d g h i=>
 dJ i .u32 fun i j=>
 b5 j <| a5 (IntKind.u64.wrap i) fun i=>
 aY gF.id #[.int .u64 i] f fun f i=>
 aQ f fun f j k=>
 Y (.tuple #[.slice d g h,.slice f j k]) i) (a5 (IntKind.i64.wrap ((((aI:Nat):Int)) - 1)) fun d=>
 iD 1 aJ aI aG (some (.int .i64 d)) none none fun d f g=>
 aY kK.id #[.slice d f g] e fun d e=>
 aW .i64 d fun d=>
 a5 (IntKind.i64.wrap (32 - d)) fun d=>
 aY kM.id #[.slice aJ aI aG,.int .i64 d] e fun e f=>
 aQ e fun e g h=>
 aY kM.id #[.slice a b c,.int .i64 d] f fun f i=>
 aQ f fun f j k=>
 (∃ n,g8.t Y n a b c d e g h f j k i))))
def aL.g(Y:aD)(X:Fr)(Z:U):Prop:=aQ (X 0) fun a b c=>aQ (X 1) fun aJ aI aG=>aL.t Y a b c aJ aI aG Z
theorem aL.ok(Y:aD)(X:Fr)(Z:U)(g:aL.g Y X Z):den prog E aO (a8 E [.tmp 4,.tmp 5] Y) X Z:=
 bD g fun a b c d g=>bD g fun aJ aI aG e g=>c4 7 (r:=(a3 aO [W,W,W,W,W,W,W])) (by kernel_rfl) (OZ.ok Y) (bS [(0,.slice a b c),(1,.slice aJ aI aG)] ⟨d,e,trivial⟩ (by kernel_rfl) g)
def t(a:M)(b c:Nat)(aJ:M)(aI aG:Nat)(Z:U)(Y:aD):Prop:=aL.t Y a b c aJ aI aG Z
theorem ok{a:M}{b:Nat}{d:Nat}{aJ:M}{aI:Nat}{aG:Nat}{Z:U}{Y:aD}(g:t a b d aJ aI aG Z Y):aY id #[.slice a b d,.slice aJ aI aG] Z Y:=
 dL dI (c:=aO) (dC:=[.tmp 4,.tmp 5]) Tryz.func68 (by kernel_rfl) (by kernel_rfl) (by kernel_rfl) (args:=[.slice a b d,.slice aJ aI aG]) (by kernel_rfl) (aL.ok Y _ Z (bE rfl (bE rfl (g))))
end hK
namespace jR
noncomputable def aO:Code:=dK Tryz.f69
def a0.t(Y:aD)(a:M)(b c:Nat)(aM:Int)(bP:M)(c bO:Nat)(Z:U):Prop:=
 (32:Int) ≠ 0∧a5 (IntKind.i64.wrap (Int.tdiv aM 32)) fun d=>
 c7 a b d 1 fun a=>
 cY Z .u32 a fun a=>
 (32:Int) ≠ 0∧a5 (Int.tmod aM 32) fun b=>
 0≤b∧a5 (h4 .u32 1 b) fun b=>
 b ≠ 0∧a5 (Int.tmod a b) fun a=>
 dN Z 89 [.int .u32 a] fun a b=>
 hF b 89 iG bP c bO (.slice (some a) 1 1) fun a b c d=>
 aY gV.id #[.slice a b c] d fun a b=>
 aQ a fun a c d=>
 Y (.slice a c d) b
def a0.g(Y:aD)(X:Fr)(Z:U):Prop:=aQ (X 0) fun a b c=>aW .i64 (X 1) fun aM=>aQ (X 5) fun bP d bO=>a0.t Y a b c aM bP d bO Z
theorem a0.ok(Y:aD)(X:Fr)(Z:U)(g:a0.g Y X Z):den prog E (a3 aO [W,W,W,W,W]) (a8 E [.tmp 4] Y) X Z:=
 bD g fun a b c d g=>bB g fun aM e g=>bD g fun bP f bO h g=>bS [(0,.slice a b c),(1,.int .i64 aM),(5,.slice bP f bO)] ⟨d,e,h,trivial⟩ (by kernel_rfl) g
def cK.g(a:M→Nat→Nat→Int→M→Nat→Nat→U→Prop)(X:Fr)(Z:U):Prop:=aQ (X 0) fun b c d=>aW .i64 (X 1) fun aM=>aQ (X 5) fun bP e bO=>a b c d aM bP e bO Z
def cE.t(Y:aD)(a:M→Nat→Nat→Int→M→Nat→Nat→U→Prop)(b:M)(c d:Nat)(aM:Int)(bP:M)(e bO:Nat)(Z:U):Prop:=
 (32:Int) ≠ 0∧a5 (IntKind.i64.wrap (Int.tdiv aM 32)) fun f=>
 cond (decide ((((e:Nat):Int)) < f)) (dN Z 89 [.int .u32 0] fun f g=>
 hF g 89 iG bP e bO (.slice (some f) 1 1) fun f g h i=>
 a b c d aM f g h i) (a0.t Y b c d aM bP e bO Z)
def cE.g(Y:aD)(a:M→Nat→Nat→Int→M→Nat→Nat→U→Prop)(X:Fr)(Z:U):Prop:=aQ (X 0) fun b c d=>aW .i64 (X 1) fun aM=>aQ (X 5) fun bP e bO=>cE.t Y a b c d aM bP e bO Z
theorem cE.ok(Y:aD)(a:M→Nat→Nat→Int→M→Nat→Nat→U→Prop)(X:Fr)(Z:U)(g:cE.g Y a X Z):den prog E (a3 aO [W,W,W,W,aT,aT,aT]) (a1.then (cK.g a) (a1.inBlock 0 (a1.then (a0.g Y) (a8 E [.tmp 4] Y)))) X Z:=
 bD g fun a b c d g=>bB g fun aM e g=>bD g fun bP f bO h g=>bS [(0,.slice a b c),(1,.int .i64 aM),(5,.slice bP f bO)] ⟨d,e,h,trivial⟩ (by kernel_rfl) g
def cK.t(Y:aD):Nat→M→Nat→Nat→Int→M→Nat→Nat→U→Prop
 | 0=>fun _ _ _ _ _ _ _ _=>False
 | n+1=>fun a b c aM bP d bO Z=>cE.t Y (cK.t Y n) a b c aM bP d bO Z
theorem cK.ok(Y:aD)(X:Fr)(Z:U)(g:cK.g (fun a b c aM bP d bO Z=>∃ n,cK.t Y n a b c aM bP d bO Z) X Z):den prog E (a3 aO [W,W,W,W,aT,aT]) (a1.inBlock 0 (a1.then (a0.g Y) (a8 E [.tmp 4] Y))) X Z:=by
 obtain⟨a,b,c,e,g⟩:=b4 g
 obtain⟨aM,f,g⟩:=bN g
 obtain⟨bP,d,bO,h,g⟩:=b4 g
 obtain⟨n,g⟩:=g
 refine fK (fun n=>cK.g (cK.t Y n)) (L:=(a3 aO [W,W,W,W,aT,aT,aT])) (by kernel_rfl) (fun X Z g=>?_) (fun n=>cE.ok Y (cK.t Y n)) n X Z (bE e (bQ f (bE h (g))))
 obtain⟨a,b,c,e,g⟩:=b4 g
 obtain⟨aM,f,g⟩:=bN g
 obtain⟨bP,d,bO,h,g⟩:=b4 g
 exact g
theorem hR.ok(Y:aD)(X:Fr)(Z:U)(g:cK.g (fun a b c aM bP d bO Z=>∃ n,cK.t Y n a b c aM bP d bO Z) X Z):den prog E (a3 aO [W,W,W,W,aT]) (a1.then (a0.g Y) (a8 E [.tmp 4] Y)) X Z:=
 fC (by kernel_rfl) (cK.ok Y X Z g)
theorem q9.ok(Y:aD)(X:Fr)(Z:U)(g:cK.g (fun a b c aM bP d bO Z=>∃ n,cK.t Y n a b c aM bP d bO Z) X Z):den prog E (a3 aO [W,W,W,W]) (a8 E [.tmp 4] Y) X Z:=
 gA (by kernel_rfl) (a0.ok Y) (hR.ok Y X Z g)
def aL.t(Y:aD)(a:M)(b c:Nat)(aM:Int)(Z:U):Prop:=
 cond (decide (aM≤0)) (aY gF.id #[.int .u64 0] Z fun d e=>
 aQ d fun d f g=>
 Y (.slice d f g) e) ((32:Int) ≠ 0∧a5 (IntKind.i64.wrap (Int.tdiv aM 32)) fun d=>
 cond (decide (d≥(((b:Nat):Int)))) (aY gV.id #[.slice a b c] Z fun d e=>
 aQ d fun d f g=>
 Y (.slice d f g) e) ((32:Int) ≠ 0∧a5 (IntKind.i64.wrap (Int.tdiv aM 32)) fun d=>
 iD 1 a b c none (some (.int .i64 d)) none fun d e f=>
 aY gV.id #[.slice d e f] Z fun d e=>
 aQ d fun d f g=>
 (∃ n,cK.t Y n a b c aM d f g e)))
def aL.g(Y:aD)(X:Fr)(Z:U):Prop:=aQ (X 0) fun a b c=>aW .i64 (X 1) fun aM=>aL.t Y a b c aM Z
theorem aL.ok(Y:aD)(X:Fr)(Z:U)(g:aL.g Y X Z):den prog E aO (a8 E [.tmp 4] Y) X Z:=
 bD g fun a b c d g=>bB g fun aM e g=>c4 4 (r:=(a3 aO [W,W,W,W])) (by kernel_rfl) (q9.ok Y) (bS [(0,.slice a b c),(1,.int .i64 aM)] ⟨d,e,trivial⟩ (by kernel_rfl) g)
def t(a:M)(b c:Nat)(aM:Int)(Z:U)(Y:aD):Prop:=aL.t Y a b c aM Z
theorem ok{a:M}{b:Nat}{d:Nat}{aM:Int}{Z:U}{Y:aD}(g:t a b d aM Z Y):aY id #[.slice a b d,.int .i64 aM] Z Y:=
 dL dI (c:=aO) (dC:=[.tmp 4]) Tryz.func69 (by kernel_rfl) (by kernel_rfl) (by kernel_rfl) (args:=[.slice a b d,.int .i64 aM]) (by kernel_rfl) (aL.ok Y _ Z (bE rfl (bQ rfl (g))))
end jR
namespace mA
noncomputable def aO:Code:=dK Tryz.f70
def bF.t(Y:aD)(a:M)(b c:Nat)(d:M)(e f:Nat)(Z:U):Prop:=
 Y (.tuple #[.slice a b c,.slice d e f]) Z
def bF.g(Y:aD)(X:Fr)(Z:U):Prop:=aQ (X 21) fun a b c=>aQ (X 24) fun d e f=>bF.t Y a b c d e f Z
theorem bF.ok(Y:aD)(X:Fr)(Z:U)(g:bF.g Y X Z):den prog E (a3 aO [W,W,W,W,W,W,W,W,W,W,W,W,W,W]) (a8 E [.tmp 8,.tmp 9] Y) X Z:=
 bD g fun a b c d g=>bD g fun e f h i g=>bS [(21,.slice a b c),(24,.slice e f h)] ⟨d,i,trivial⟩ (by kernel_rfl) g
def a0.t(Y:aD)(aJ:M)(aI aG:Nat)(bJ:M)(bZ bG:Nat)(c3:M)(dV cR:Nat)(a:M)(b c:Nat)(d:M)(e f:Nat)(Z:U):Prop:=
 aY gS.id #[.slice c3 dV cR,.slice d e f] Z fun g h=>
 aQ g fun g i j=>
 aY hK.id #[.slice g i j,.slice bJ bZ bG] h fun g h=>
 cT g fun g=>
 cP g fun g g g g=>
 cP g fun g i j k=>
 b5 k <| aY gF.id #[.int .u64 1] h fun h k=>
 aQ h fun h l m=>
 aY g1.id #[.slice a b c,.slice h l m] k fun a b=>
 aQ a fun a c h=>
 aY mA.id #[.slice a c h,.slice bJ bZ bG,.slice d e f,.slice g i j] b fun a b=>
 cT a fun a=>
 cP a fun a c d e=>
 cP e fun e f g h=>
 b5 h <| aY hZ.id #[.slice c3 dV cR,.slice a c d] b fun b h=>
 aW .i64 b fun b=>
 cond (decide (b≤0)) (aY gV.id #[.slice c3 dV cR] h fun b i=>
 aQ b fun b j k=>
 aY gF.id #[.int .u64 0] i fun i l=>
 aQ i fun i m n=>
 Y (.tuple #[.slice b j k,.slice i m n]) l) (aY gF.id #[.int .u64 1] h fun b h=>
 aQ b fun b i j=>
 aY gS.id #[.slice e f g,.slice b i j] h fun b e=>
 aQ b fun b f g=>
 aY hG.id #[.slice b f g,.slice aJ aI aG] e fun b e=>
 aQ b fun b f g=>
 aY g1.id #[.slice b f g,.slice c3 dV cR] e fun b e=>
 aQ b fun b f g=>
 aY hK.id #[.slice b f g,.slice bJ bZ bG] e fun b e=>
 cT b fun b=>
 cP b fun b f g h=>
 cP h fun h h i i=>
 b5 i <| cond (decide ((((h:Nat):Int)) > 0)) (aY gF.id #[.int .u64 1] e fun h i=>
 aQ h fun h j k=>
 aY gS.id #[.slice b f g,.slice h j k] i fun h i=>
 aQ h fun h j k=>
 bF.t Y a c d h j k i) (bF.t Y a c d b f g e))
def a0.g(Y:aD)(X:Fr)(Z:U):Prop:=aQ (X 1) fun aJ aI aG=>aQ (X 2) fun bJ bZ bG=>aQ (X 3) fun c3 dV cR=>aQ (X 14) fun a b c=>aQ (X 18) fun d e f=>a0.t Y aJ aI aG bJ bZ bG c3 dV cR a b c d e f Z
theorem a0.ok(Y:aD)(X:Fr)(Z:U)(g:a0.g Y X Z):den prog E (a3 aO [W,W,W,W,W,W,W,W]) (a8 E [.tmp 8,.tmp 9] Y) X Z:=
 bD g fun aJ aI aG a g=>bD g fun bJ bZ bG b g=>bD g fun c3 dV cR c g=>bD g fun d e f h g=>bD g fun i j k l g=>c4 6 (r:=(a3 aO [W,W,W,W,W,W,W,W,W,W,W,W,W,W])) (by kernel_rfl) (bF.ok Y) (bS [(1,.slice aJ aI aG),(2,.slice bJ bZ bG),(3,.slice c3 dV cR),(14,.slice d e f),(18,.slice i j k)] ⟨a,b,c,h,l,trivial⟩ (by kernel_rfl) g)
def aL.t(Y:aD)(a:M)(b c:Nat)(aJ:M)(aI aG:Nat)(bJ:M)(bZ bG:Nat)(c3:M)(dV cR:Nat)(Z:U):Prop:=
 cond ((((bZ:Nat):Int)) == 0) (aY gV.id #[.slice c3 dV cR] Z fun d e=>
 aQ d fun d f g=>
 aY gF.id #[.int .u64 0] e fun e h=>
 aQ e fun e i j=>
 Y (.tuple #[.slice d f g,.slice e i j]) h) (aY kM.id #[.slice bJ bZ bG,.int .i64 1] Z fun d e=>
 aQ d fun d f g=>
 aY hZ.id #[.slice d f g,.slice aJ aI aG] e fun d e=>
 aW .i64 d fun d=>
 cond (decide (d > 0)) (aY hG.id #[.slice bJ bZ bG,.slice a b c] e fun d f=>
 aQ d fun d g h=>
 aY gS.id #[.slice c3 dV cR,.slice d g h] f fun d f=>
 aQ d fun d g h=>
 aY hK.id #[.slice d g h,.slice aJ aI aG] f fun d f=>
 cT d fun d=>
 cP d fun d d d d=>
 cP d fun d g h i=>
 b5 i <| aY g1.id #[.slice aJ aI aG,.slice bJ bZ bG] f fun f i=>
 aQ f fun f j k=>
 aY mA.id #[.slice a b c,.slice aJ aI aG,.slice f j k,.slice d g h] i fun d f=>
 cT d fun d=>
 cP d fun d g h i=>
 cP i fun i j k l=>
 b5 l <| aY g1.id #[.slice a b c,.slice i j k] f fun f i=>
 aQ f fun f j k=>
 Y (.tuple #[.slice d g h,.slice f j k]) i) (aY hG.id #[.slice bJ bZ bG,.slice a b c] e fun a b=>
 aQ a fun a c d=>
 aY gS.id #[.slice a c d,.slice c3 dV cR] b fun a b=>
 aQ a fun a c d=>
 aY hK.id #[.slice a c d,.slice aJ aI aG] b fun a b=>
 cT a fun a=>
 cP a fun a c d e=>
 cP e fun e e e e=>
 b5 e <| cond ((((c:Nat):Int)) == 0) (aY gV.id #[.slice c3 dV cR] b fun e f=>
 aQ e fun e g h=>
 aY gF.id #[.int .u64 0] f fun f i=>
 aQ f fun f j k=>
 Y (.tuple #[.slice e g h,.slice f j k]) i) (aY hK.id #[.slice aJ aI aG,.slice bJ bZ bG] b fun b e=>
 cT b fun b=>
 cP b fun b b b b=>
 cP b fun b f g h=>
 b5 h <| aY g1.id #[.slice bJ bZ bG,.slice b f g] e fun b e=>
 aQ b fun b g h=>
 cond ((((f:Nat):Int)) == 0) (aY gF.id #[.int .u64 0] e fun f i=>
 aQ f fun f j k=>
 a0.t Y aJ aI aG bJ bZ bG c3 dV cR a c d f j k i) (a0.t Y aJ aI aG bJ bZ bG c3 dV cR a c d b g h e))))
def aL.g(Y:aD)(X:Fr)(Z:U):Prop:=aQ (X 0) fun a b c=>aQ (X 1) fun aJ aI aG=>aQ (X 2) fun bJ bZ bG=>aQ (X 3) fun c3 dV cR=>aL.t Y a b c aJ aI aG bJ bZ bG c3 dV cR Z
theorem aL.ok(Y:aD)(X:Fr)(Z:U)(g:aL.g Y X Z):den prog E aO (a8 E [.tmp 8,.tmp 9] Y) X Z:=
 bD g fun a b c d g=>bD g fun aJ aI aG e g=>bD g fun bJ bZ bG f g=>bD g fun c3 dV cR h g=>c4 8 (r:=(a3 aO [W,W,W,W,W,W,W,W])) (by kernel_rfl) (a0.ok Y) (bS [(0,.slice a b c),(1,.slice aJ aI aG),(2,.slice bJ bZ bG),(3,.slice c3 dV cR)] ⟨d,e,f,h,trivial⟩ (by kernel_rfl) g)
def t(a:M)(b c:Nat)(aJ:M)(aI aG:Nat)(bJ:M)(bZ bG:Nat)(c3:M)(dV cR:Nat)(Z:U)(Y:aD):Prop:=aL.t Y a b c aJ aI aG bJ bZ bG c3 dV cR Z
theorem ok{a:M}{b:Nat}{d:Nat}{aJ:M}{aI:Nat}{aG:Nat}{bJ:M}{bZ:Nat}{bG:Nat}{c3:M}{dV:Nat}{cR:Nat}{Z:U}{Y:aD}(g:t a b d aJ aI aG bJ bZ bG c3 dV cR Z Y):aY id #[.slice a b d,.slice aJ aI aG,.slice bJ bZ bG,.slice c3 dV cR] Z Y:=
 dL dI (c:=aO) (dC:=[.tmp 8,.tmp 9]) Tryz.func70 (by kernel_rfl) (by kernel_rfl) (by kernel_rfl) (args:=[.slice a b d,.slice aJ aI aG,.slice bJ bZ bG,.slice c3 dV cR]) (by kernel_rfl) (aL.ok Y _ Z (bE rfl (bE rfl (bE rfl (bE rfl (g))))))
end mA
namespace sL
noncomputable def aO:Code:=dK Tryz.f71
def aL.t(Y:aD)(a:Bool)(b:M)(c d:Nat)(aM:Int)(Z:U):Prop:=
 dN Z 82 [.bool a,.slice b c d] fun b8 a=>
 dN a 82 h3.a6 fun a b=>
 cond (decide (aM≥0)) (eN b (b8.add 0) fun c=>
 dO b (b8.add 1) fun d e f=>
 aY k4.id #[.agg #[.bool c,.slice d e f],.int .i64 aM] b fun c fM=>
 eG c fun c=>
 fH c fun c d=>
 cP d fun d e f g=>
 b5 g <| cC fM (a.add 0) (.bool c) fun c=>
 cC c (a.add 1) (.slice d e f) fun c=>
 eN c (a.add 0) fun d=>
 dO c (a.add 1) fun e f g=>
 Y (.agg #[.bool d,.slice e f g]) c) (eN b (b8.add 0) fun c=>
 dO b (b8.add 1) fun d e f=>
 a5 (IntKind.i64.wrap (0 - aM)) fun g=>
 aY lZ.id #[.agg #[.bool c,.slice d e f],.int .i64 g] b fun b c=>
 eG b fun b=>
 fH b fun b d=>
 cP d fun d e f g=>
 b5 g <| cC c (a.add 0) (.bool b) fun b=>
 cC b (a.add 1) (.slice d e f) fun b=>
 eN b (a.add 0) fun c=>
 dO b (a.add 1) fun a d e=>
 Y (.agg #[.bool c,.slice a d e]) b)
def aL.g(Y:aD)(X:Fr)(Z:U):Prop:=eG (X 0) fun a=>cQ a fun a b=>eS a fun a=>cQ b fun b c=>aQ b fun b d e=>b5 c <| aW .i64 (X 1) fun aM=>aL.t Y a b d e aM Z
theorem aL.ok(Y:aD)(X:Fr)(Z:U)(g:aL.g Y X Z):den prog E aO (a8 E [.cell 4 82] Y) X Z:=by
 obtain⟨m,a,b⟩:=iJ g
 obtain⟨n,o,rfl,c⟩:=e7 b
 obtain⟨d,rfl,e⟩:=iP c
 obtain⟨p,q,rfl,f⟩:=e7 e
 obtain⟨h,i,j,rfl,k⟩:=b4 f
 obtain⟨rfl,g⟩:=hU k
 obtain⟨aM,l,g⟩:=bN g
 exact bS [(0,.agg #[.bool d,.slice h i j]),(1,.int .i64 aM)] ⟨a,l,trivial⟩ (by kernel_rfl) g
def t(a:Bool)(b:M)(c d:Nat)(aM:Int)(Z:U)(Y:aD):Prop:=aL.t Y a b c d aM Z
theorem ok{a:Bool}{b:M}{d:Nat}{e:Nat}{aM:Int}{Z:U}{Y:aD}(g:t a b d e aM Z Y):aY id #[.agg #[.bool a,.slice b d e],.int .i64 aM] Z Y:=
 dL dI (c:=aO) (dC:=[.cell 4 82]) Tryz.func71 (by kernel_rfl) (by kernel_rfl) (by kernel_rfl) (args:=[.agg #[.bool a,.slice b d e],.int .i64 aM]) (by kernel_rfl) (aL.ok Y _ Z (e5 rfl (cF (c5 rfl (cF (bE rfl (dR (bQ rfl (g)))))))))
end sL
namespace lY
noncomputable def aO:Code:=dK Tryz.f72
def aL.t(Y:aD)(a:Bool)(b:M)(c d:Nat)(e:Bool)(f:M)(g h:Nat)(Z:U):Prop:=
 dN Z 82 [.bool a,.slice b c d] fun b8 a=>
 dN a 82 [.bool e,.slice f g h] fun a b=>
 eN b (b8.add 0) fun c=>
 dO b (b8.add 1) fun d e f=>
 eN b (a.add 0) fun g=>
 dO b (a.add 1) fun a h i=>
 aY k5.id #[.agg #[.bool c,.slice d e f],.agg #[.bool g,.slice a h i]] b fun a b=>
 eG a fun a=>
 fH a fun a c=>
 cP c fun c d e f=>
 b5 f <| aY kP.id #[.agg #[.bool a,.slice c d e]] b fun a b=>
 aW .i64 a fun a=>
 Y (.int .i64 a) b
def aL.g(Y:aD)(X:Fr)(Z:U):Prop:=eG (X 0) fun a=>cQ a fun a b=>eS a fun a=>cQ b fun b c=>aQ b fun b d e=>b5 c <| eG (X 1) fun c=>cQ c fun c f=>eS c fun c=>cQ f fun f h=>aQ f fun f i j=>b5 h <| aL.t Y a b d e c f i j Z
theorem aL.ok(Y:aD)(X:Fr)(Z:U)(g:aL.g Y X Z):den prog E aO (a8 E [.tmp 4] Y) X Z:=by
 obtain⟨v,a,b⟩:=iJ g
 obtain⟨w,x,rfl,c⟩:=e7 b
 obtain⟨d,rfl,e⟩:=iP c
 obtain⟨y,z,rfl,f⟩:=e7 e
 obtain⟨h,i,j,rfl,k⟩:=b4 f
 obtain⟨rfl,g⟩:=hU k
 obtain⟨A,l,m⟩:=iJ g
 obtain⟨B,C,rfl,n⟩:=e7 m
 obtain⟨o,rfl,p⟩:=iP n
 obtain⟨D,F,rfl,q⟩:=e7 p
 obtain⟨r,s,t,rfl,u⟩:=b4 q
 obtain⟨rfl,g⟩:=hU u
 exact bS [(0,.agg #[.bool d,.slice h i j]),(1,.agg #[.bool o,.slice r s t])] ⟨a,l,trivial⟩ (by kernel_rfl) g
def t(a:Bool)(b:M)(c d:Nat)(e:Bool)(f:M)(g h:Nat)(Z:U)(Y:aD):Prop:=aL.t Y a b c d e f g h Z
theorem ok{a:Bool}{b:M}{d:Nat}{e:Nat}{f:Bool}{h:M}{i:Nat}{j:Nat}{Z:U}{Y:aD}(g:t a b d e f h i j Z Y):aY id #[.agg #[.bool a,.slice b d e],.agg #[.bool f,.slice h i j]] Z Y:=
 dL dI (c:=aO) (dC:=[.tmp 4]) Tryz.func72 (by kernel_rfl) (by kernel_rfl) (by kernel_rfl) (args:=[.agg #[.bool a,.slice b d e],.agg #[.bool f,.slice h i j]]) (by kernel_rfl) (aL.ok Y _ Z (e5 rfl (cF (c5 rfl (cF (bE rfl (dR (e5 rfl (cF (c5 rfl (cF (bE rfl (dR (g))))))))))))))
end lY
namespace k4
noncomputable def aO:Code:=dK Tryz.f73
def aL.t(Y:aD)(a:Bool)(b:M)(c d:Nat)(aM:Int)(Z:U):Prop:=
 dN Z 82 [.bool a,.slice b c d] fun b8 a=>
 dN a 82 h3.a6 fun a b=>
 (b8.add 0).block < b.size∧eN b (b8.add 0) fun c=>
 (b8.add 1).block < b.size∧dO b (b8.add 1) fun d e f=>
 aY kM.id #[.slice d e f,.int .i64 aM] b fun d fM=>
 aQ d fun d e f=>
 (eT b.size b fM)∧aY fR.id #[.bool c,.slice d e f] fM fun c d=>
 eG c fun c=>
 fH c fun c e=>
 cP e fun e f g h=>
 b5 h <| (eT b.size fM d)∧cC d (a.add 0) (.bool c) fun b=>
 cC b (a.add 1) (.slice e f g) fun b=>
 eN b (a.add 0) fun c=>
 dO b (a.add 1) fun a d e=>
 Y (.agg #[.bool c,.slice a d e]) b
def aL.g(Y:aD)(X:Fr)(Z:U):Prop:=eG (X 0) fun a=>cQ a fun a b=>eS a fun a=>cQ b fun b c=>aQ b fun b d e=>b5 c <| aW .i64 (X 1) fun aM=>aL.t Y a b d e aM Z
theorem aL.ok(Y:aD)(X:Fr)(Z:U)(g:aL.g Y X Z):den prog E aO (a8 E [.cell 4 82] Y) X Z:=by
 obtain⟨m,a,b⟩:=iJ g
 obtain⟨n,o,rfl,c⟩:=e7 b
 obtain⟨d,rfl,e⟩:=iP c
 obtain⟨p,q,rfl,f⟩:=e7 e
 obtain⟨h,i,j,rfl,k⟩:=b4 f
 obtain⟨rfl,g⟩:=hU k
 obtain⟨aM,l,g⟩:=bN g
 exact bS [(0,.agg #[.bool d,.slice h i j]),(1,.int .i64 aM)] ⟨a,l,trivial⟩ (by kernel_rfl) g
def t(a:Bool)(b:M)(c d:Nat)(aM:Int)(Z:U)(Y:aD):Prop:=aL.t Y a b c d aM Z
theorem ok{a:Bool}{b:M}{d:Nat}{e:Nat}{aM:Int}{Z:U}{Y:aD}(g:t a b d e aM Z Y):aY id #[.agg #[.bool a,.slice b d e],.int .i64 aM] Z Y:=
 dL dI (c:=aO) (dC:=[.cell 4 82]) Tryz.func73 (by kernel_rfl) (by kernel_rfl) (by kernel_rfl) (args:=[.agg #[.bool a,.slice b d e],.int .i64 aM]) (by kernel_rfl) (aL.ok Y _ Z (e5 rfl (cF (c5 rfl (cF (bE rfl (dR (bQ rfl (g)))))))))
end k4
namespace uF
noncomputable def aO:Code:=dK Tryz.f74
def aL.t(Y:aD)(a:Bool)(b:M)(c d:Nat)(Z:U):Prop:=
 dN Z 82 [.bool a,.slice b c d] fun b8 a=>
 dN a 82 h3.a6 fun a b=>
 dO b (b8.add 1) fun c d e=>
 aY fR.id #[.bool false,.slice c d e] b fun b c=>
 eG b fun b=>
 fH b fun b d=>
 cP d fun d e f g=>
 b5 g <| cC c (a.add 0) (.bool b) fun b=>
 cC b (a.add 1) (.slice d e f) fun b=>
 eN b (a.add 0) fun c=>
 dO b (a.add 1) fun a d e=>
 Y (.agg #[.bool c,.slice a d e]) b
def aL.g(Y:aD)(X:Fr)(Z:U):Prop:=eG (X 0) fun a=>cQ a fun a b=>eS a fun a=>cQ b fun b c=>aQ b fun b d e=>b5 c <| aL.t Y a b d e Z
theorem aL.ok(Y:aD)(X:Fr)(Z:U)(g:aL.g Y X Z):den prog E aO (a8 E [.cell 2 82] Y) X Z:=by
 obtain⟨l,a,b⟩:=iJ g
 obtain⟨m,n,rfl,c⟩:=e7 b
 obtain⟨d,rfl,e⟩:=iP c
 obtain⟨o,p,rfl,f⟩:=e7 e
 obtain⟨h,i,j,rfl,k⟩:=b4 f
 obtain⟨rfl,g⟩:=hU k
 exact bS [(0,.agg #[.bool d,.slice h i j])] ⟨a,trivial⟩ (by kernel_rfl) g
def t(a:Bool)(b:M)(c d:Nat)(Z:U)(Y:aD):Prop:=aL.t Y a b c d Z
theorem ok{a:Bool}{b:M}{d:Nat}{e:Nat}{Z:U}{Y:aD}(g:t a b d e Z Y):aY id #[.agg #[.bool a,.slice b d e]] Z Y:=
 dL dI (c:=aO) (dC:=[.cell 2 82]) Tryz.func74 (by kernel_rfl) (by kernel_rfl) (by kernel_rfl) (args:=[.agg #[.bool a,.slice b d e]]) (by kernel_rfl) (aL.ok Y _ Z (e5 rfl (cF (c5 rfl (cF (bE rfl (dR (g))))))))
end uF
namespace kL
noncomputable def aO:Code:=dK Tryz.f75
def a0.t(Y:aD)(b0:M)(a b2:Nat)(b:Int)(Z:U):Prop:=
 a5 (IntKind.u32.wrap b) fun b=>
 dN Z 89 [.int .u32 b] fun b c=>
 hF c 89 iG b0 a b2 (.slice (some b) 1 1) fun a b c d=>
 aY gV.id #[.slice a b c] d fun a fM=>
 aQ a fun a b c=>
 Y (.slice a b c) fM
def a0.g(Y:aD)(X:Fr)(Z:U):Prop:=aQ (X 7) fun b0 a b2=>aW .u64 (X 8) fun b=>a0.t Y b0 a b2 b Z
theorem a0.ok(Y:aD)(X:Fr)(Z:U)(g:a0.g Y X Z):den prog E (a3 aO [W,W,W,W]) (a8 E [.tmp 6] Y) X Z:=
 bD g fun b0 a b2 b g=>bB g fun c d g=>bS [(7,.slice b0 a b2),(8,.int .u64 c)] ⟨b,d,trivial⟩ (by kernel_rfl) g
def bL.g(a:M→Nat→Nat→Int→M→Nat→Nat→Int→Int→U→Prop)(X:Fr)(Z:U):Prop:=aQ (X 0) fun b c d=>aW .u32 (X 1) fun aM=>aQ (X 7) fun b0 e b2=>aW .u64 (X 8) fun f=>aW .i64 (X 9) fun h=>a b c d aM b0 e b2 f h Z
def b7.t(Y:aD)(a:M→Nat→Nat→Int→M→Nat→Nat→Int→Int→U→Prop)(b:M)(c d:Nat)(aM:Int)(b0:M)(e b2:Nat)(f g:Int)(Z:U):Prop:=
 cond (decide (g < (((c:Nat):Int)))) (c7 b c g 1 fun h=>
 cY Z .u32 h fun h=>
 a5 (IntKind.u64.wrap h) fun h=>
 a5 (IntKind.u64.wrap aM) fun i=>
 a5 (IntKind.u64.wrap (h*i)) fun h=>
 a5 (IntKind.u64.wrap (f+h)) fun h=>
 a5 (jE .u64 h 4294967295) fun i=>
 a5 (IntKind.u32.wrap i) fun i=>
 dN Z 89 [.int .u32 i] fun i j=>
 hF j 89 iG b0 e b2 (.slice (some i) 1 1) fun i j k l=>
 0≤(32:Int)∧a5 (g6 .u64 h 32) fun h=>
 a5 (IntKind.i64.wrap (g+1)) fun g=>
 a b c d aM i j k h g l) (a0.t Y b0 e b2 f Z)
def b7.g(Y:aD)(a:M→Nat→Nat→Int→M→Nat→Nat→Int→Int→U→Prop)(X:Fr)(Z:U):Prop:=aQ (X 0) fun b c d=>aW .u32 (X 1) fun aM=>aQ (X 7) fun b0 e b2=>aW .u64 (X 8) fun f=>aW .i64 (X 9) fun h=>b7.t Y a b c d aM b0 e b2 f h Z
theorem b7.ok(Y:aD)(a:M→Nat→Nat→Int→M→Nat→Nat→Int→Int→U→Prop)(X:Fr)(Z:U)(g:b7.g Y a X Z):den prog E (a3 aO [W,W,W,aT,W,aT,aT]) (a1.then (bL.g a) (a1.inBlock 0 (a1.then (a0.g Y) (a8 E [.tmp 6] Y)))) X Z:=
 bD g fun a b c d g=>bB g fun aM e g=>bD g fun b0 f b2 h g=>bB g fun i j g=>bB g fun k l g=>bS [(0,.slice a b c),(1,.int .u32 aM),(7,.slice b0 f b2),(8,.int .u64 i),(9,.int .i64 k)] ⟨d,e,h,j,l,trivial⟩ (by kernel_rfl) g
def bL.t(Y:aD):Nat→M→Nat→Nat→Int→M→Nat→Nat→Int→Int→U→Prop
 | 0=>fun _ _ _ _ _ _ _ _ _ _=>False
 | n+1=>fun a b c aM b0 d b2 e f Z=>b7.t Y (bL.t Y n) a b c aM b0 d b2 e f Z
theorem bL.ok(Y:aD)(X:Fr)(Z:U)(g:bL.g (fun a b c aM b0 d b2 e f Z=>∃ n,bL.t Y n a b c aM b0 d b2 e f Z) X Z):den prog E (a3 aO [W,W,W,aT,W,aT]) (a1.inBlock 0 (a1.then (a0.g Y) (a8 E [.tmp 6] Y))) X Z:=by
 obtain⟨a,b,c,h,g⟩:=b4 g
 obtain⟨aM,i,g⟩:=bN g
 obtain⟨b0,d,b2,j,g⟩:=b4 g
 obtain⟨e,k,g⟩:=bN g
 obtain⟨f,l,g⟩:=bN g
 obtain⟨n,g⟩:=g
 refine fK (fun n=>bL.g (bL.t Y n)) (L:=(a3 aO [W,W,W,aT,W,aT,aT])) (by kernel_rfl) (fun X Z g=>?_) (fun n=>b7.ok Y (bL.t Y n)) n X Z (bE h (bQ i (bE j (bQ k (bQ l (g))))))
 obtain⟨a,b,c,h,g⟩:=b4 g
 obtain⟨aM,i,g⟩:=bN g
 obtain⟨b0,d,b2,j,g⟩:=b4 g
 obtain⟨e,k,g⟩:=bN g
 obtain⟨f,l,g⟩:=bN g
 exact g
theorem g3.ok(Y:aD)(X:Fr)(Z:U)(g:bL.g (fun a b c aM b0 d b2 e f Z=>∃ n,bL.t Y n a b c aM b0 d b2 e f Z) X Z):den prog E (a3 aO [W,W,W,aT,W]) (a1.then (a0.g Y) (a8 E [.tmp 6] Y)) X Z:=
 fC (by kernel_rfl) (bL.ok Y X Z g)
def bF.t(Y:aD)(a:M)(b c:Nat)(aM:Int)(b0:M)(d b2:Nat)(e:Int)(Z:U):Prop:=
 (∃ n,bL.t Y n a b c aM b0 d b2 e 0 Z)
def bF.g(Y:aD)(X:Fr)(Z:U):Prop:=aQ (X 0) fun a b c=>aW .u32 (X 1) fun aM=>aQ (X 7) fun b0 d b2=>aW .u64 (X 8) fun e=>bF.t Y a b c aM b0 d b2 e Z
theorem bF.ok(Y:aD)(X:Fr)(Z:U)(g:bF.g Y X Z):den prog E (a3 aO [W,W,W,aT]) (a1.then (a0.g Y) (a8 E [.tmp 6] Y)) X Z:=
 bD g fun a b c d g=>bB g fun aM e g=>bD g fun b0 f b2 h g=>bB g fun i j g=>c4 1 (r:=(a3 aO [W,W,W,aT,W])) (by kernel_rfl) (g3.ok Y) (bS [(0,.slice a b c),(1,.int .u32 aM),(7,.slice b0 f b2),(8,.int .u64 i)] ⟨d,e,h,j,trivial⟩ (by kernel_rfl) g)
theorem g4.ok(Y:aD)(X:Fr)(Z:U)(g:bF.g Y X Z):den prog E (a3 aO [W,W,W]) (a8 E [.tmp 6] Y) X Z:=
 gA (by kernel_rfl) (a0.ok Y) (bF.ok Y X Z g)
def aL.t(Y:aD)(a:M)(b c:Nat)(aM d:Int)(Z:U):Prop:=
 a5 (IntKind.i64.wrap ((((b:Nat):Int))+1)) fun dY=>
 iI Z 89 iG 0 dY fun e8 e=>
 a5 (IntKind.u64.wrap d) fun d=>
 bF.t Y a b c aM (some e8) ((0:Int).toNat) dY.toNat d e
def aL.g(Y:aD)(X:Fr)(Z:U):Prop:=aQ (X 0) fun a b c=>aW .u32 (X 1) fun aM=>aW .u32 (X 2) fun d=>aL.t Y a b c aM d Z
theorem aL.ok(Y:aD)(X:Fr)(Z:U)(g:aL.g Y X Z):den prog E aO (a8 E [.tmp 6] Y) X Z:=
 bD g fun a b c d g=>bB g fun aM e g=>bB g fun f h g=>c4 3 (r:=(a3 aO [W,W,W])) (by kernel_rfl) (g4.ok Y) (bS [(0,.slice a b c),(1,.int .u32 aM),(2,.int .u32 f)] ⟨d,e,h,trivial⟩ (by kernel_rfl) g)
def t(a:M)(b c:Nat)(aM d:Int)(Z:U)(Y:aD):Prop:=aL.t Y a b c aM d Z
theorem ok{a:M}{b:Nat}{d:Nat}{aM:Int}{e:Int}{Z:U}{Y:aD}(g:t a b d aM e Z Y):aY id #[.slice a b d,.int .u32 aM,.int .u32 e] Z Y:=
 dL dI (c:=aO) (dC:=[.tmp 6]) Tryz.func75 (by kernel_rfl) (by kernel_rfl) (by kernel_rfl) (args:=[.slice a b d,.int .u32 aM,.int .u32 e]) (by kernel_rfl) (aL.ok Y _ Z (bE rfl (bQ rfl (bQ rfl (g)))))
end kL
namespace lK
noncomputable def aO:Code:=dK Tryz.f76
def a0.t(Y:aD)(e8 a eD:Addr)(Z:U):Prop:=
 eN Z (e8.add 0) fun b=>
 dO Z (e8.add 1) fun c d e=>
 eN Z (a.add 0) fun f=>
 dO Z (a.add 1) fun a g h=>
 aY n9.id #[.agg #[.bool b,.slice c d e],.agg #[.bool f,.slice a g h]] Z fun a b=>
 eG a fun a=>
 fH a fun a c=>
 cP c fun c d e f=>
 b5 f <| cC b (eD.add 0) (.bool a) fun a=>
 cC a (eD.add 1) (.slice c d e) fun a=>
 eN a (eD.add 0) fun b=>
 dO a (eD.add 1) fun c d e=>
 Y (.agg #[.bool b,.slice c d e]) a
def a0.g(Y:aD)(X:Fr)(Z:U):Prop:=gH (X 2) fun e8=>gH (X 3) fun a=>gH (X 4) fun eD=>a0.t Y e8 a eD Z
theorem a0.ok(Y:aD)(X:Fr)(Z:U)(g:a0.g Y X Z):den prog E (a3 aO [W,W]) (a8 E [.cell 4 82] Y) X Z:=
 hW g fun e8 a g=>hW g fun b c g=>hW g fun eD d g=>bS [(2,.pointer (some e8)),(3,.pointer (some b)),(4,.pointer (some eD))] ⟨a,c,d,trivial⟩ (by kernel_rfl) g
def aL.t(Y:aD)(a:Bool)(b:M)(c d:Nat)(e:Bool)(f:M)(g h:Nat)(Z:U):Prop:=
 dN Z 82 [.bool a,.slice b c d] fun b8 a=>
 dN a 82 [.bool e,.slice f g h] fun a b=>
 dN b 82 h3.a6 fun b c=>
 eN c (a.add 0) fun d=>
 cond d (b8.block < c.size∧eN c (b8.add 0) fun d=>
 dO c (b8.add 1) fun e f g=>
 aY mN.id #[.agg #[.bool d,.slice e f g]] c fun d e=>
 eG d fun d=>
 fH d fun d f=>
 cP f fun f g h i=>
 b5 i <| (eT c.size c e)∧a.block < c.size∧eN e (a.add 0) fun i=>
 dO e (a.add 1) fun j k l=>
 aY mN.id #[.agg #[.bool i,.slice j k l]] e fun i j=>
 eG i fun i=>
 fH i fun i k=>
 cP k fun k l m n=>
 b5 n <| (eT c.size e j)∧cC j (b8.add 0) (.bool d) fun d=>
 cC d (b8.add 1) (.slice f g h) fun d=>
 cC d (a.add 0) (.bool i) fun d=>
 cC d (a.add 1) (.slice k l m) fun d=>
 a0.t Y b8 a b d) (a0.t Y b8 a b c)
def aL.g(Y:aD)(X:Fr)(Z:U):Prop:=eG (X 0) fun a=>cQ a fun a b=>eS a fun a=>cQ b fun b c=>aQ b fun b d e=>b5 c <| eG (X 1) fun c=>cQ c fun c f=>eS c fun c=>cQ f fun f h=>aQ f fun f i j=>b5 h <| aL.t Y a b d e c f i j Z
theorem aL.ok(Y:aD)(X:Fr)(Z:U)(g:aL.g Y X Z):den prog E aO (a8 E [.cell 4 82] Y) X Z:=by
 obtain⟨w,a,b⟩:=iJ g
 obtain⟨x,y,rfl,c⟩:=e7 b
 obtain⟨d,rfl,e⟩:=iP c
 obtain⟨z,A,rfl,f⟩:=e7 e
 obtain⟨h,i,j,rfl,k⟩:=b4 f
 obtain⟨rfl,g⟩:=hU k
 obtain⟨B,l,m⟩:=iJ g
 obtain⟨C,D,rfl,n⟩:=e7 m
 obtain⟨o,rfl,p⟩:=iP n
 obtain⟨F,G,rfl,q⟩:=e7 p
 obtain⟨s,t,u,rfl,v⟩:=b4 q
 obtain⟨rfl,g⟩:=hU v
 exact c4 2 (r:=(a3 aO [W,W])) (by kernel_rfl) (a0.ok Y) (bS [(0,.agg #[.bool d,.slice h i j]),(1,.agg #[.bool o,.slice s t u])] ⟨a,l,trivial⟩ (by kernel_rfl) g)
def t(a:Bool)(b:M)(c d:Nat)(e:Bool)(f:M)(g h:Nat)(Z:U)(Y:aD):Prop:=aL.t Y a b c d e f g h Z
theorem ok{a:Bool}{b:M}{d:Nat}{e:Nat}{f:Bool}{h:M}{i:Nat}{j:Nat}{Z:U}{Y:aD}(g:t a b d e f h i j Z Y):aY id #[.agg #[.bool a,.slice b d e],.agg #[.bool f,.slice h i j]] Z Y:=
 dL dI (c:=aO) (dC:=[.cell 4 82]) Tryz.func76 (by kernel_rfl) (by kernel_rfl) (by kernel_rfl) (args:=[.agg #[.bool a,.slice b d e],.agg #[.bool f,.slice h i j]]) (by kernel_rfl) (aL.ok Y _ Z (e5 rfl (cF (c5 rfl (cF (bE rfl (dR (e5 rfl (cF (c5 rfl (cF (bE rfl (dR (g))))))))))))))
end lK
namespace lZ
noncomputable def aO:Code:=dK Tryz.f77
def a0.t(Y:aD)(aM:Int)(e8 eD a:Addr)(Z:U):Prop:=
 eN Z (e8.add 0) fun b=>
 cond b (dO Z (e8.add 1) fun b c d=>
 aY jR.id #[.slice b c d,.int .i64 aM] Z fun b c=>
 aQ b fun b b d=>
 cond (decide ((((b:Nat):Int)) > 0)) (a.block < c.size∧eN c (a.add 0) fun b=>
 dO c (a.add 1) fun d e f=>
 aY nI.id #[.int .i64 1] c fun g h=>
 eG g fun g=>
 fH g fun g i=>
 cP i fun i j k l=>
 b5 l <| (eT c.size c h)∧aY k5.id #[.agg #[.bool b,.slice d e f],.agg #[.bool g,.slice i j k]] h fun b d=>
 eG b fun b=>
 fH b fun b e=>
 cP e fun e f g i=>
 b5 i <| (eT c.size h d)∧cC d (eD.add 0) (.bool b) fun b=>
 cC b (eD.add 1) (.slice e f g) fun b=>
 eN b (eD.add 0) fun d=>
 dO b (eD.add 1) fun e f g=>
 Y (.agg #[.bool d,.slice e f g]) b) (eN c (a.add 0) fun b=>
 dO c (a.add 1) fun d e f=>
 cC c (eD.add 0) (.bool b) fun b=>
 cC b (eD.add 1) (.slice d e f) fun b=>
 eN b (eD.add 0) fun c=>
 dO b (eD.add 1) fun d e f=>
 Y (.agg #[.bool c,.slice d e f]) b)) (eN Z (a.add 0) fun b=>
 dO Z (a.add 1) fun a c d=>
 cC Z (eD.add 0) (.bool b) fun b=>
 cC b (eD.add 1) (.slice a c d) fun a=>
 eN a (eD.add 0) fun b=>
 dO a (eD.add 1) fun c d e=>
 Y (.agg #[.bool b,.slice c d e]) a)
def a0.g(Y:aD)(X:Fr)(Z:U):Prop:=aW .i64 (X 1) fun aM=>gH (X 2) fun e8=>gH (X 4) fun eD=>gH (X 5) fun a=>a0.t Y aM e8 eD a Z
theorem a0.ok(Y:aD)(X:Fr)(Z:U)(g:a0.g Y X Z):den prog E (a3 aO [W,W,W]) (a8 E [.cell 4 82] Y) X Z:=
 bB g fun aM a g=>hW g fun e8 b g=>hW g fun eD c g=>hW g fun d e g=>bS [(1,.int .i64 aM),(2,.pointer (some e8)),(4,.pointer (some eD)),(5,.pointer (some d))] ⟨a,b,c,e,trivial⟩ (by kernel_rfl) g
def aL.t(Y:aD)(a:Bool)(b:M)(c d:Nat)(aM:Int)(Z:U):Prop:=
 dN Z 82 [.bool a,.slice b c d] fun b8 a=>
 dN a 82 h3.a6 fun a b=>
 cond (decide (aM≤0)) (eN b (b8.add 0) fun c=>
 dO b (b8.add 1) fun d e f=>
 aY fR.id #[.bool c,.slice d e f] b fun c fM=>
 eG c fun c=>
 fH c fun c d=>
 cP d fun d e f g=>
 b5 g <| cC fM (a.add 0) (.bool c) fun c=>
 cC c (a.add 1) (.slice d e f) fun c=>
 eN c (a.add 0) fun d=>
 dO c (a.add 1) fun e f g=>
 Y (.agg #[.bool d,.slice e f g]) c) ((b8.add 0).block < b.size∧eN b (b8.add 0) fun c=>
 (b8.add 1).block < b.size∧dO b (b8.add 1) fun d e f=>
 (aY kT.id #[.slice d e f,.int .i64 aM] b fun g h=>
 aQ g fun g i j=>
 (eT b.size b h)∧(aY fR.id #[.bool c,.slice g i j] h fun k l=>
 eG k fun k=>
 fH k fun k m=>
 cP m fun m n o p=>
 b5 p <| (eT b.size h l)∧dN l 82 h3.a6 fun p q=>
 (eT b.size l q)∧cC q (p.add 0) (.bool k) fun k=>
 cC k (p.add 1) (.slice m n o) fun k=>
 a0.t Y aM b8 a p k)∧(dN h 82 h3.a6 fun k l=>
 (eT b.size h l)∧aY fR.id #[.bool c,.slice g i j] l fun g h=>
 eG g fun g=>
 fH g fun g i=>
 cP i fun i j m n=>
 b5 n <| (eT b.size l h)∧cC h (k.add 0) (.bool g) fun g=>
 cC g (k.add 1) (.slice i j m) fun g=>
 a0.t Y aM b8 a k g))∧(dN b 82 h3.a6 fun g h=>
 (eT b.size b h)∧aY kT.id #[.slice d e f,.int .i64 aM] h fun d e=>
 aQ d fun d f i=>
 (eT b.size h e)∧aY fR.id #[.bool c,.slice d f i] e fun c d=>
 eG c fun c=>
 fH c fun c f=>
 cP f fun f h i j=>
 b5 j <| (eT b.size e d)∧cC d (g.add 0) (.bool c) fun b=>
 cC b (g.add 1) (.slice f h i) fun b=>
 a0.t Y aM b8 a g b))
def aL.g(Y:aD)(X:Fr)(Z:U):Prop:=eG (X 0) fun a=>cQ a fun a b=>eS a fun a=>cQ b fun b c=>aQ b fun b d e=>b5 c <| aW .i64 (X 1) fun aM=>aL.t Y a b d e aM Z
theorem aL.ok(Y:aD)(X:Fr)(Z:U)(g:aL.g Y X Z):den prog E aO (a8 E [.cell 4 82] Y) X Z:=by
 obtain⟨m,a,b⟩:=iJ g
 obtain⟨n,o,rfl,c⟩:=e7 b
 obtain⟨d,rfl,e⟩:=iP c
 obtain⟨p,q,rfl,f⟩:=e7 e
 obtain⟨h,i,j,rfl,k⟩:=b4 f
 obtain⟨rfl,g⟩:=hU k
 obtain⟨aM,l,g⟩:=bN g
 exact c4 3 (r:=(a3 aO [W,W,W])) (by kernel_rfl) (a0.ok Y) (bS [(0,.agg #[.bool d,.slice h i j]),(1,.int .i64 aM)] ⟨a,l,trivial⟩ (by kernel_rfl) g)
def t(a:Bool)(b:M)(c d:Nat)(aM:Int)(Z:U)(Y:aD):Prop:=aL.t Y a b c d aM Z
theorem ok{a:Bool}{b:M}{d:Nat}{e:Nat}{aM:Int}{Z:U}{Y:aD}(g:t a b d e aM Z Y):aY id #[.agg #[.bool a,.slice b d e],.int .i64 aM] Z Y:=
 dL dI (c:=aO) (dC:=[.cell 4 82]) Tryz.func77 (by kernel_rfl) (by kernel_rfl) (by kernel_rfl) (args:=[.agg #[.bool a,.slice b d e],.int .i64 aM]) (by kernel_rfl) (aL.ok Y _ Z (e5 rfl (cF (c5 rfl (cF (bE rfl (dR (bQ rfl (g)))))))))
end lZ
namespace k5
noncomputable def aO:Code:=dK Tryz.f78
def aL.t(Y:aD)(a:Bool)(b:M)(c d:Nat)(e:Bool)(f:M)(g h:Nat)(Z:U):Prop:=
 dN Z 82 [.bool a,.slice b c d] fun b8 a=>
 dN a 82 [.bool e,.slice f g h] fun a b=>
 dN b 82 h3.a6 fun b c=>
 b8.block < c.size∧eN c (b8.add 0) fun d=>
 dO c (b8.add 1) fun e f g=>
 a.block < c.size∧eN c (a.add 0) fun h=>
 dO c (a.add 1) fun a i j=>
 aY mN.id #[.agg #[.bool h,.slice a i j]] c fun a h=>
 eG a fun a=>
 fH a fun a i=>
 cP i fun i j k l=>
 b5 l <| (eT c.size c h)∧aY lJ.id #[.agg #[.bool d,.slice e f g],.agg #[.bool a,.slice i j k]] h fun a d=>
 eG a fun a=>
 fH a fun a e=>
 cP e fun e f g i=>
 b5 i <| (eT c.size h d)∧cC d (b.add 0) (.bool a) fun a=>
 cC a (b.add 1) (.slice e f g) fun a=>
 eN a (b.add 0) fun c=>
 dO a (b.add 1) fun b d e=>
 Y (.agg #[.bool c,.slice b d e]) a
def aL.g(Y:aD)(X:Fr)(Z:U):Prop:=eG (X 0) fun a=>cQ a fun a b=>eS a fun a=>cQ b fun b c=>aQ b fun b d e=>b5 c <| eG (X 1) fun c=>cQ c fun c f=>eS c fun c=>cQ f fun f h=>aQ f fun f i j=>b5 h <| aL.t Y a b d e c f i j Z
theorem aL.ok(Y:aD)(X:Fr)(Z:U)(g:aL.g Y X Z):den prog E aO (a8 E [.cell 4 82] Y) X Z:=by
 obtain⟨v,a,b⟩:=iJ g
 obtain⟨w,x,rfl,c⟩:=e7 b
 obtain⟨d,rfl,e⟩:=iP c
 obtain⟨y,z,rfl,f⟩:=e7 e
 obtain⟨h,i,j,rfl,k⟩:=b4 f
 obtain⟨rfl,g⟩:=hU k
 obtain⟨A,l,m⟩:=iJ g
 obtain⟨B,C,rfl,n⟩:=e7 m
 obtain⟨o,rfl,p⟩:=iP n
 obtain⟨D,F,rfl,q⟩:=e7 p
 obtain⟨r,s,t,rfl,u⟩:=b4 q
 obtain⟨rfl,g⟩:=hU u
 exact bS [(0,.agg #[.bool d,.slice h i j]),(1,.agg #[.bool o,.slice r s t])] ⟨a,l,trivial⟩ (by kernel_rfl) g
def t(a:Bool)(b:M)(c d:Nat)(e:Bool)(f:M)(g h:Nat)(Z:U)(Y:aD):Prop:=aL.t Y a b c d e f g h Z
theorem ok{a:Bool}{b:M}{d:Nat}{e:Nat}{f:Bool}{h:M}{i:Nat}{j:Nat}{Z:U}{Y:aD}(g:t a b d e f h i j Z Y):aY id #[.agg #[.bool a,.slice b d e],.agg #[.bool f,.slice h i j]] Z Y:=
 dL dI (c:=aO) (dC:=[.cell 4 82]) Tryz.func78 (by kernel_rfl) (by kernel_rfl) (by kernel_rfl) (args:=[.agg #[.bool a,.slice b d e],.agg #[.bool f,.slice h i j]]) (by kernel_rfl) (aL.ok Y _ Z (e5 rfl (cF (c5 rfl (cF (bE rfl (dR (e5 rfl (cF (c5 rfl (cF (bE rfl (dR (g))))))))))))))
end k5
namespace oW
noncomputable def aO:Code:=dK Tryz.f79
def aL.t(Y:aD)(a:Bool)(b:M)(c d:Nat)(e:Bool)(f:M)(g h:Nat)(Z:U):Prop:=
 dN Z 82 [.bool a,.slice b c d] fun b8 a=>
 dN a 82 [.bool e,.slice f g h] fun a b=>
 dN b 82 h3.a6 fun b c=>
 (b8.add 0).block < c.size∧eN c (b8.add 0) fun d=>
 (a.add 0).block < c.size∧eN c (a.add 0) fun e=>
 (b8.add 1).block < c.size∧dO c (b8.add 1) fun f g h=>
 (a.add 1).block < c.size∧dO c (a.add 1) fun a i j=>
 aY hG.id #[.slice f g h,.slice a i j] c fun a f=>
 aQ a fun a g h=>
 (eT c.size c f)∧aY fR.id #[.bool (!(d == e)),.slice a g h] f fun a d=>
 eG a fun a=>
 fH a fun a e=>
 cP e fun e g h i=>
 b5 i <| (eT c.size f d)∧cC d (b.add 0) (.bool a) fun a=>
 cC a (b.add 1) (.slice e g h) fun a=>
 eN a (b.add 0) fun c=>
 dO a (b.add 1) fun b d e=>
 Y (.agg #[.bool c,.slice b d e]) a
def aL.g(Y:aD)(X:Fr)(Z:U):Prop:=eG (X 0) fun a=>cQ a fun a b=>eS a fun a=>cQ b fun b c=>aQ b fun b d e=>b5 c <| eG (X 1) fun c=>cQ c fun c f=>eS c fun c=>cQ f fun f h=>aQ f fun f i j=>b5 h <| aL.t Y a b d e c f i j Z
theorem aL.ok(Y:aD)(X:Fr)(Z:U)(g:aL.g Y X Z):den prog E aO (a8 E [.cell 4 82] Y) X Z:=by
 obtain⟨v,a,b⟩:=iJ g
 obtain⟨w,x,rfl,c⟩:=e7 b
 obtain⟨d,rfl,e⟩:=iP c
 obtain⟨y,z,rfl,f⟩:=e7 e
 obtain⟨h,i,j,rfl,k⟩:=b4 f
 obtain⟨rfl,g⟩:=hU k
 obtain⟨A,l,m⟩:=iJ g
 obtain⟨B,C,rfl,n⟩:=e7 m
 obtain⟨o,rfl,p⟩:=iP n
 obtain⟨D,F,rfl,q⟩:=e7 p
 obtain⟨r,s,t,rfl,u⟩:=b4 q
 obtain⟨rfl,g⟩:=hU u
 exact bS [(0,.agg #[.bool d,.slice h i j]),(1,.agg #[.bool o,.slice r s t])] ⟨a,l,trivial⟩ (by kernel_rfl) g
def t(a:Bool)(b:M)(c d:Nat)(e:Bool)(f:M)(g h:Nat)(Z:U)(Y:aD):Prop:=aL.t Y a b c d e f g h Z
theorem ok{a:Bool}{b:M}{d:Nat}{e:Nat}{f:Bool}{h:M}{i:Nat}{j:Nat}{Z:U}{Y:aD}(g:t a b d e f h i j Z Y):aY id #[.agg #[.bool a,.slice b d e],.agg #[.bool f,.slice h i j]] Z Y:=
 dL dI (c:=aO) (dC:=[.cell 4 82]) Tryz.func79 (by kernel_rfl) (by kernel_rfl) (by kernel_rfl) (args:=[.agg #[.bool a,.slice b d e],.agg #[.bool f,.slice h i j]]) (by kernel_rfl) (aL.ok Y _ Z (e5 rfl (cF (c5 rfl (cF (bE rfl (dR (e5 rfl (cF (c5 rfl (cF (bE rfl (dR (g))))))))))))))
end oW
namespace jM
noncomputable def aO:Code:=dK Tryz.f80
def a0.t(Y:aD)(a7:M)(a a9:Nat)(b:Int)(Z:U):Prop:=
 aY gV.id #[.slice a7 a a9] Z fun a c=>
 aQ a fun a d e=>
 a5 (IntKind.u32.wrap b) fun b=>
 Y (.tuple #[.slice a d e,.int .u32 b]) c
def a0.g(Y:aD)(X:Fr)(Z:U):Prop:=aQ (X 6) fun a7 a a9=>aW .u64 (X 7) fun b=>a0.t Y a7 a a9 b Z
theorem a0.ok(Y:aD)(X:Fr)(Z:U)(g:a0.g Y X Z):den prog E (a3 aO [W,W,W,W,W]) (a8 E [.tmp 4,.tmp 5] Y) X Z:=
 bD g fun a7 a a9 b g=>bB g fun c d g=>bS [(6,.slice a7 a a9),(7,.int .u64 c)] ⟨b,d,trivial⟩ (by kernel_rfl) g
def bL.g(a:M→Nat→Nat→Int→M→Nat→Nat→Int→Int→U→Prop)(X:Fr)(Z:U):Prop:=aQ (X 0) fun b c d=>aW .u32 (X 1) fun aM=>aQ (X 6) fun a7 e a9=>aW .u64 (X 7) fun f=>aW .i64 (X 8) fun h=>a b c d aM a7 e a9 f h Z
def b7.t(Y:aD)(a:M→Nat→Nat→Int→M→Nat→Nat→Int→Int→U→Prop)(b:M)(c d:Nat)(aM:Int)(a7:M)(e a9:Nat)(f g:Int)(Z:U):Prop:=
 cond (decide (g≥0)) (0≤(32:Int)∧a5 (h4 .u64 f 32) fun h=>
 c7 b c g 1 fun i=>
 cY Z .u32 i fun i=>
 a5 (IntKind.u64.wrap i) fun i=>
 a5 (IntKind.u64.wrap (h+i)) fun h=>
 a5 (IntKind.u64.wrap aM) fun i=>
 i ≠ 0∧a5 (IntKind.u64.wrap (Int.tdiv h i)) fun i=>
 a5 (IntKind.u32.wrap i) fun i=>
 c7 a7 e g 1 fun j=>
 cC Z j (.int .u32 i) fun i=>
 a5 (IntKind.u64.wrap aM) fun j=>
 j ≠ 0∧a5 (Int.tmod h j) fun h=>
 a5 (IntKind.i64.wrap (g - 1)) fun g=>
 a b c d aM a7 e a9 h g i) (a0.t Y a7 e a9 f Z)
def b7.g(Y:aD)(a:M→Nat→Nat→Int→M→Nat→Nat→Int→Int→U→Prop)(X:Fr)(Z:U):Prop:=aQ (X 0) fun b c d=>aW .u32 (X 1) fun aM=>aQ (X 6) fun a7 e a9=>aW .u64 (X 7) fun f=>aW .i64 (X 8) fun h=>b7.t Y a b c d aM a7 e a9 f h Z
theorem b7.ok(Y:aD)(a:M→Nat→Nat→Int→M→Nat→Nat→Int→Int→U→Prop)(X:Fr)(Z:U)(g:b7.g Y a X Z):den prog E (a3 aO [W,W,W,W,aT,W,aT,aT]) (a1.then (bL.g a) (a1.inBlock 0 (a1.then (a0.g Y) (a8 E [.tmp 4,.tmp 5] Y)))) X Z:=
 bD g fun a b c d g=>bB g fun aM e g=>bD g fun a7 f a9 h g=>bB g fun i j g=>bB g fun k l g=>bS [(0,.slice a b c),(1,.int .u32 aM),(6,.slice a7 f a9),(7,.int .u64 i),(8,.int .i64 k)] ⟨d,e,h,j,l,trivial⟩ (by kernel_rfl) g
def bL.t(Y:aD):Nat→M→Nat→Nat→Int→M→Nat→Nat→Int→Int→U→Prop
 | 0=>fun _ _ _ _ _ _ _ _ _ _=>False
 | n+1=>fun a b c aM a7 d a9 e f Z=>b7.t Y (bL.t Y n) a b c aM a7 d a9 e f Z
theorem bL.ok(Y:aD)(X:Fr)(Z:U)(g:bL.g (fun a b c aM a7 d a9 e f Z=>∃ n,bL.t Y n a b c aM a7 d a9 e f Z) X Z):den prog E (a3 aO [W,W,W,W,aT,W,aT]) (a1.inBlock 0 (a1.then (a0.g Y) (a8 E [.tmp 4,.tmp 5] Y))) X Z:=by
 obtain⟨a,b,c,h,g⟩:=b4 g
 obtain⟨aM,i,g⟩:=bN g
 obtain⟨a7,d,a9,j,g⟩:=b4 g
 obtain⟨e,k,g⟩:=bN g
 obtain⟨f,l,g⟩:=bN g
 obtain⟨n,g⟩:=g
 refine fK (fun n=>bL.g (bL.t Y n)) (L:=(a3 aO [W,W,W,W,aT,W,aT,aT])) (by kernel_rfl) (fun X Z g=>?_) (fun n=>b7.ok Y (bL.t Y n)) n X Z (bE h (bQ i (bE j (bQ k (bQ l (g))))))
 obtain⟨a,b,c,h,g⟩:=b4 g
 obtain⟨aM,i,g⟩:=bN g
 obtain⟨a7,d,a9,j,g⟩:=b4 g
 obtain⟨e,k,g⟩:=bN g
 obtain⟨f,l,g⟩:=bN g
 exact g
theorem g3.ok(Y:aD)(X:Fr)(Z:U)(g:bL.g (fun a b c aM a7 d a9 e f Z=>∃ n,bL.t Y n a b c aM a7 d a9 e f Z) X Z):den prog E (a3 aO [W,W,W,W,aT,W]) (a1.then (a0.g Y) (a8 E [.tmp 4,.tmp 5] Y)) X Z:=
 fC (by kernel_rfl) (bL.ok Y X Z g)
def bF.t(Y:aD)(a:M)(b c:Nat)(aM:Int)(a7:M)(d a9:Nat)(e:Int)(Z:U):Prop:=
 a5 (IntKind.i64.wrap ((((b:Nat):Int)) - 1)) fun f=>(∃ n,bL.t Y n a b c aM a7 d a9 e f Z)
def bF.g(Y:aD)(X:Fr)(Z:U):Prop:=aQ (X 0) fun a b c=>aW .u32 (X 1) fun aM=>aQ (X 6) fun a7 d a9=>aW .u64 (X 7) fun e=>bF.t Y a b c aM a7 d a9 e Z
theorem bF.ok(Y:aD)(X:Fr)(Z:U)(g:bF.g Y X Z):den prog E (a3 aO [W,W,W,W,aT]) (a1.then (a0.g Y) (a8 E [.tmp 4,.tmp 5] Y)) X Z:=
 bD g fun a b c d g=>bB g fun aM e g=>bD g fun a7 f a9 h g=>bB g fun i j g=>c4 1 (r:=(a3 aO [W,W,W,W,aT,W])) (by kernel_rfl) (g3.ok Y) (bS [(0,.slice a b c),(1,.int .u32 aM),(6,.slice a7 f a9),(7,.int .u64 i)] ⟨d,e,h,j,trivial⟩ (by kernel_rfl) g)
theorem g4.ok(Y:aD)(X:Fr)(Z:U)(g:bF.g Y X Z):den prog E (a3 aO [W,W,W,W]) (a8 E [.tmp 4,.tmp 5] Y) X Z:=
 gA (by kernel_rfl) (a0.ok Y) (bF.ok Y X Z g)
def aL.t(Y:aD)(a:M)(b c:Nat)(aM:Int)(Z:U):Prop:=
 cond (aM == 0) (aY gF.id #[.int .u64 0] Z fun d e=>
 aQ d fun d f g=>
 Y (.tuple #[.slice d f g,.int .u32 0]) e) (iI Z 89 iG (((b:Nat):Int)) (((b:Nat):Int)) fun eD d=>
 bF.t Y a b c aM (some eD) ((((b:Nat):Int)).toNat) ((((b:Nat):Int)).toNat) 0 d)
def aL.g(Y:aD)(X:Fr)(Z:U):Prop:=aQ (X 0) fun a b c=>aW .u32 (X 1) fun aM=>aL.t Y a b c aM Z
theorem aL.ok(Y:aD)(X:Fr)(Z:U)(g:aL.g Y X Z):den prog E aO (a8 E [.tmp 4,.tmp 5] Y) X Z:=
 bD g fun a b c d g=>bB g fun aM e g=>c4 4 (r:=(a3 aO [W,W,W,W])) (by kernel_rfl) (g4.ok Y) (bS [(0,.slice a b c),(1,.int .u32 aM)] ⟨d,e,trivial⟩ (by kernel_rfl) g)
def t(a:M)(b c:Nat)(aM:Int)(Z:U)(Y:aD):Prop:=aL.t Y a b c aM Z
theorem ok{a:M}{b:Nat}{d:Nat}{aM:Int}{Z:U}{Y:aD}(g:t a b d aM Z Y):aY id #[.slice a b d,.int .u32 aM] Z Y:=
 dL dI (c:=aO) (dC:=[.tmp 4,.tmp 5]) Tryz.func80 (by kernel_rfl) (by kernel_rfl) (by kernel_rfl) (args:=[.slice a b d,.int .u32 aM]) (by kernel_rfl) (aL.ok Y _ Z (bE rfl (bQ rfl (g))))
end jM
namespace l0
noncomputable def aO:Code:=dK Tryz.f81
def a0.t(Y:aD)(bR:M)(a bT:Nat)(b:M)(c d:Nat)(e:Int)(Z:U):Prop:=
 aY g1.id #[.slice bR a bT,.slice b c d] Z fun a b=>
 aQ a fun a c d=>
 Y (.tuple #[.slice a c d,.int .i64 e]) b
def a0.g(Y:aD)(X:Fr)(Z:U):Prop:=aQ (X 8) fun bR a bT=>aQ (X 9) fun b c d=>aW .i64 (X 10) fun e=>a0.t Y bR a bT b c d e Z
theorem a0.ok(Y:aD)(X:Fr)(Z:U)(g:a0.g Y X Z):den prog E (a3 aO [W,W,W,W,W]) (a8 E [.tmp 4,.tmp 5] Y) X Z:=
 bD g fun bR a bT b g=>bD g fun c d e f g=>bB g fun h i g=>bS [(8,.slice bR a bT),(9,.slice c d e),(10,.int .i64 h)] ⟨b,f,i,trivial⟩ (by kernel_rfl) g
def bL.g(a:Int→M→Nat→Nat→M→Nat→Nat→M→Nat→Nat→Int→Int→U→Prop)(X:Fr)(Z:U):Prop:=aW .u32 (X 0) fun aS=>aQ (X 6) fun a7 b a9=>aQ (X 8) fun bR c bT=>aQ (X 9) fun d e f=>aW .i64 (X 10) fun h=>aW .u32 (X 11) fun i=>a aS a7 b a9 bR c bT d e f h i Z
def b7.t(Y:aD)(a:Int→M→Nat→Nat→M→Nat→Nat→M→Nat→Nat→Int→Int→U→Prop)(aS:Int)(a7:M)(b a9:Nat)(bR:M)(c bT:Nat)(d:M)(e f:Nat)(g h:Int)(Z:U):Prop:=
 cond (decide ((((b:Nat):Int)) > 0)) (aY jM.id #[.slice a7 b a9,.int .u32 h] Z fun i j=>
 cT i fun i=>
 cP i fun i k l m=>
 dJ m .u32 fun m m=>
 b5 m <| (4:Int) ≠ 0∧a5 (Int.tmod h 4) fun m=>
 cond (m == 1) (aY gS.id #[.slice bR c bT,.slice i k l] j fun m n=>
 aQ m fun m o p=>
 aY jM.id #[.slice a7 b a9,.int .u32 aS] n fun n q=>
 cT n fun n=>
 cP n fun n r s u=>
 dJ u .u32 fun u u=>
 b5 u <| aY jM.id #[.slice n r s,.int .u32 aS] q fun n q=>
 cT n fun n=>
 cP n fun n r s u=>
 dJ u .u32 fun u u=>
 b5 u <| a5 (IntKind.i64.wrap (g+1)) fun u=>
 a5 (IntKind.u32.wrap (h+2)) fun v=>
 a aS n r s m o p d e f u v q) (aY gS.id #[.slice d e f,.slice i k l] j fun i j=>
 aQ i fun i k l=>
 aY jM.id #[.slice a7 b a9,.int .u32 aS] j fun b j=>
 cT b fun b=>
 cP b fun b m n o=>
 dJ o .u32 fun o o=>
 b5 o <| aY jM.id #[.slice b m n,.int .u32 aS] j fun b j=>
 cT b fun b=>
 cP b fun b m n o=>
 dJ o .u32 fun o o=>
 b5 o <| a5 (IntKind.i64.wrap (g+1)) fun o=>
 a5 (IntKind.u32.wrap (h+2)) fun h=>
 a aS b m n bR c bT i k l o h j)) (a0.t Y bR c bT d e f g Z)
def b7.g(Y:aD)(a:Int→M→Nat→Nat→M→Nat→Nat→M→Nat→Nat→Int→Int→U→Prop)(X:Fr)(Z:U):Prop:=aW .u32 (X 0) fun aS=>aQ (X 6) fun a7 b a9=>aQ (X 8) fun bR c bT=>aQ (X 9) fun d e f=>aW .i64 (X 10) fun h=>aW .u32 (X 11) fun i=>b7.t Y a aS a7 b a9 bR c bT d e f h i Z
theorem b7.ok(Y:aD)(a:Int→M→Nat→Nat→M→Nat→Nat→M→Nat→Nat→Int→Int→U→Prop)(X:Fr)(Z:U)(g:b7.g Y a X Z):den prog E (a3 aO [W,W,W,W,aT,W,aT,aT]) (a1.then (bL.g a) (a1.inBlock 0 (a1.then (a0.g Y) (a8 E [.tmp 4,.tmp 5] Y)))) X Z:=
 bB g fun aS a g=>bD g fun a7 b a9 c g=>bD g fun bR d bT e g=>bD g fun f h i j g=>bB g fun k l g=>bB g fun m n g=>bS [(0,.int .u32 aS),(6,.slice a7 b a9),(8,.slice bR d bT),(9,.slice f h i),(10,.int .i64 k),(11,.int .u32 m)] ⟨a,c,e,j,l,n,trivial⟩ (by kernel_rfl) g
def bL.t(Y:aD):Nat→Int→M→Nat→Nat→M→Nat→Nat→M→Nat→Nat→Int→Int→U→Prop
 | 0=>fun _ _ _ _ _ _ _ _ _ _ _ _ _=>False
 | n+1=>fun aS a7 a a9 bR b bT c d e f g Z=>b7.t Y (bL.t Y n) aS a7 a a9 bR b bT c d e f g Z
theorem bL.ok(Y:aD)(X:Fr)(Z:U)(g:bL.g (fun aS a7 a a9 bR b bT c d e f h Z=>∃ n,bL.t Y n aS a7 a a9 bR b bT c d e f h Z) X Z):den prog E (a3 aO [W,W,W,W,aT,W,aT]) (a1.inBlock 0 (a1.then (a0.g Y) (a8 E [.tmp 4,.tmp 5] Y))) X Z:=by
 obtain⟨aS,i,g⟩:=bN g
 obtain⟨a7,a,a9,j,g⟩:=b4 g
 obtain⟨bR,b,bT,k,g⟩:=b4 g
 obtain⟨c,d,e,l,g⟩:=b4 g
 obtain⟨f,m,g⟩:=bN g
 obtain⟨h,o,g⟩:=bN g
 obtain⟨n,g⟩:=g
 refine fK (fun n=>bL.g (bL.t Y n)) (L:=(a3 aO [W,W,W,W,aT,W,aT,aT])) (by kernel_rfl) (fun X Z g=>?_) (fun n=>b7.ok Y (bL.t Y n)) n X Z (bQ i (bE j (bE k (bE l (bQ m (bQ o (g)))))))
 obtain⟨aS,i,g⟩:=bN g
 obtain⟨a7,a,a9,j,g⟩:=b4 g
 obtain⟨bR,b,bT,k,g⟩:=b4 g
 obtain⟨c,d,e,l,g⟩:=b4 g
 obtain⟨f,m,g⟩:=bN g
 obtain⟨h,o,g⟩:=bN g
 exact g
theorem g3.ok(Y:aD)(X:Fr)(Z:U)(g:bL.g (fun aS a7 a a9 bR b bT c d e f h Z=>∃ n,bL.t Y n aS a7 a a9 bR b bT c d e f h Z) X Z):den prog E (a3 aO [W,W,W,W,aT,W]) (a1.then (a0.g Y) (a8 E [.tmp 4,.tmp 5] Y)) X Z:=
 fC (by kernel_rfl) (bL.ok Y X Z g)
def bF.t(Y:aD)(aS:Int)(a7:M)(a a9:Nat)(bR:M)(b bT:Nat)(c:M)(d e:Nat)(f:Int)(Z:U):Prop:=
 (∃ n,bL.t Y n aS a7 a a9 bR b bT c d e f 1 Z)
def bF.g(Y:aD)(X:Fr)(Z:U):Prop:=aW .u32 (X 0) fun aS=>aQ (X 6) fun a7 a a9=>aQ (X 8) fun bR b bT=>aQ (X 9) fun c d e=>aW .i64 (X 10) fun f=>bF.t Y aS a7 a a9 bR b bT c d e f Z
theorem bF.ok(Y:aD)(X:Fr)(Z:U)(g:bF.g Y X Z):den prog E (a3 aO [W,W,W,W,aT]) (a1.then (a0.g Y) (a8 E [.tmp 4,.tmp 5] Y)) X Z:=
 bB g fun aS a g=>bD g fun a7 b a9 c g=>bD g fun bR d bT e g=>bD g fun f h i j g=>bB g fun k l g=>c4 1 (r:=(a3 aO [W,W,W,W,aT,W])) (by kernel_rfl) (g3.ok Y) (bS [(0,.int .u32 aS),(6,.slice a7 b a9),(8,.slice bR d bT),(9,.slice f h i),(10,.int .i64 k)] ⟨a,c,e,j,l,trivial⟩ (by kernel_rfl) g)
theorem g4.ok(Y:aD)(X:Fr)(Z:U)(g:bF.g Y X Z):den prog E (a3 aO [W,W,W,W]) (a8 E [.tmp 4,.tmp 5] Y) X Z:=
 gA (by kernel_rfl) (a0.ok Y) (bF.ok Y X Z g)
def aL.t(Y:aD)(aS aM:Int)(Z:U):Prop:=
 aY lL.id #[.int .i64 aM] Z fun a b=>
 aQ a fun a c d=>
 aY jM.id #[.slice a c d,.int .u32 aS] b fun a b=>
 cT a fun a=>
 cP a fun a c d e=>
 dJ e .u32 fun e e=>
 b5 e <| aY gF.id #[.int .u64 0] b fun b e=>
 aQ b fun b f g=>
 aY gF.id #[.int .u64 0] e fun e h=>
 aQ e fun e i j=>
 bF.t Y aS a c d b f g e i j 0 h
def aL.g(Y:aD)(X:Fr)(Z:U):Prop:=aW .u32 (X 0) fun aS=>aW .i64 (X 1) fun aM=>aL.t Y aS aM Z
theorem aL.ok(Y:aD)(X:Fr)(Z:U)(g:aL.g Y X Z):den prog E aO (a8 E [.tmp 4,.tmp 5] Y) X Z:=
 bB g fun aS a g=>bB g fun aM b g=>c4 4 (r:=(a3 aO [W,W,W,W])) (by kernel_rfl) (g4.ok Y) (bS [(0,.int .u32 aS),(1,.int .i64 aM)] ⟨a,b,trivial⟩ (by kernel_rfl) g)
def t(aS aM:Int)(Z:U)(Y:aD):Prop:=aL.t Y aS aM Z
theorem ok{aS:Int}{aM:Int}{Z:U}{Y:aD}(g:t aS aM Z Y):aY id #[.int .u32 aS,.int .i64 aM] Z Y:=
 dL dI (c:=aO) (dC:=[.tmp 4,.tmp 5]) Tryz.func81 (by kernel_rfl) (by kernel_rfl) (by kernel_rfl) (args:=[.int .u32 aS,.int .i64 aM]) (by kernel_rfl) (aL.ok Y _ Z (bQ rfl (bQ rfl (g))))
end l0
namespace tV
noncomputable def aO:Code:=dK Tryz.f82
def aL.t(Y:aD)(aS:Int)(Z:U):Prop:=
 cond (decide (aS < 0)) (aY gF.id #[.int .u64 0] Z fun a b=>
 aQ a fun a c d=>
 Y (.slice a c d) b) (a5 (IntKind.u64.wrap aS) fun a=>
 aY gF.id #[.int .u64 a] Z fun a b=>
 aQ a fun a c d=>
 Y (.slice a c d) b)
def aL.g(Y:aD)(X:Fr)(Z:U):Prop:=aW .i64 (X 0) fun aS=>aL.t Y aS Z
theorem aL.ok(Y:aD)(X:Fr)(Z:U)(g:aL.g Y X Z):den prog E aO (a8 E [.tmp 2] Y) X Z:=
 bB g fun aS a g=>bS [(0,.int .i64 aS)] ⟨a,trivial⟩ (by kernel_rfl) g
def t(aS:Int)(Z:U)(Y:aD):Prop:=aL.t Y aS Z
theorem ok{aS:Int}{Z:U}{Y:aD}(g:t aS Z Y):aY id #[.int .i64 aS] Z Y:=
 dL dI (c:=aO) (dC:=[.tmp 2]) Tryz.func82 (by kernel_rfl) (by kernel_rfl) (by kernel_rfl) (args:=[.int .i64 aS]) (by kernel_rfl) (aL.ok Y _ Z (bQ rfl (g)))
end tV
namespace kH
noncomputable def aO:Code:=dK Tryz.f85
def aL.t(Y:aD)(a:M)(b c:Nat)(Z:U):Prop:=
 cond (decide ((((b:Nat):Int))≤8192)) (cond ((((b:Nat):Int)) == 0) (Y (.bool true) Z) (a5 (IntKind.i64.wrap ((((b:Nat):Int)) - 1)) fun dY=>
 c7 a b dY 1 fun e8=>
 cY Z .u64 e8 fun a=>
 Y (.bool (a != 0)) Z)) (Y (.bool false) Z)
def aL.g(Y:aD)(X:Fr)(Z:U):Prop:=aQ (X 0) fun a b c=>aL.t Y a b c Z
theorem aL.ok(Y:aD)(X:Fr)(Z:U)(g:aL.g Y X Z):den prog E aO (a8 E [.tmp 2] Y) X Z:=
 bD g fun a b c d g=>bS [(0,.slice a b c)] ⟨d,trivial⟩ (by kernel_rfl) g
def t(a:M)(b c:Nat)(Z:U)(Y:aD):Prop:=aL.t Y a b c Z
theorem ok{a:M}{b:Nat}{d:Nat}{Z:U}{Y:aD}(g:t a b d Z Y):aY id #[.slice a b d] Z Y:=
 dL dI (c:=aO) (dC:=[.tmp 2]) Tryz.func85 (by kernel_rfl) (by kernel_rfl) (by kernel_rfl) (args:=[.slice a b d]) (by kernel_rfl) (aL.ok Y _ Z (bE rfl (g)))
end kH
namespace qN
noncomputable def aO:Code:=dK Tryz.f86
def aL.t(Y:aD)(aS aM:Int)(Z:U):Prop:=
 a5 (jE .u64 aS 4294967295) fun dY=>
 0≤(32:Int)∧a5 (g6 .u64 aS 32) fun a=>
 a5 (jE .u64 aM 4294967295) fun b=>
 0≤(32:Int)∧a5 (g6 .u64 aM 32) fun c=>
 a5 (IntKind.u64.wrap (dY*b)) fun d=>
 a5 (IntKind.u64.wrap (a*b)) fun b=>
 0≤(32:Int)∧a5 (g6 .u64 d 32) fun d=>
 a5 (IntKind.u64.wrap (b+d)) fun b=>
 a5 (jE .u64 b 4294967295) fun d=>
 0≤(32:Int)∧a5 (g6 .u64 b 32) fun b=>
 a5 (IntKind.u64.wrap (dY*c)) fun e=>
 a5 (IntKind.u64.wrap (d+e)) fun d=>
 a5 (IntKind.u64.wrap (a*c)) fun a=>
 a5 (IntKind.u64.wrap (a+b)) fun a=>
 0≤(32:Int)∧a5 (g6 .u64 d 32) fun b=>
 a5 (IntKind.u64.wrap (a+b)) fun a=>
 a5 (IntKind.u64.wrap (aS*aM)) fun b=>
 Y (.tuple #[.int .u64 a,.int .u64 b]) Z
def aL.g(Y:aD)(X:Fr)(Z:U):Prop:=aW .u64 (X 0) fun aS=>aW .u64 (X 1) fun aM=>aL.t Y aS aM Z
theorem aL.ok(Y:aD)(X:Fr)(Z:U)(g:aL.g Y X Z):den prog E aO (a8 E [.tmp 4,.tmp 5] Y) X Z:=
 bB g fun aS a g=>bB g fun aM b g=>bS [(0,.int .u64 aS),(1,.int .u64 aM)] ⟨a,b,trivial⟩ (by kernel_rfl) g
def t(aS aM:Int)(Z:U)(Y:aD):Prop:=aL.t Y aS aM Z
theorem ok{aS:Int}{aM:Int}{Z:U}{Y:aD}(g:t aS aM Z Y):aY id #[.int .u64 aS,.int .u64 aM] Z Y:=
 dL dI (c:=aO) (dC:=[.tmp 4,.tmp 5]) Tryz.func86 (by kernel_rfl) (by kernel_rfl) (by kernel_rfl) (args:=[.int .u64 aS,.int .u64 aM]) (by kernel_rfl) (aL.ok Y _ Z (bQ rfl (bQ rfl (g))))
end qN
namespace m9
noncomputable def aO:Code:=dK Tryz.f88
def aL.t(Y:aD)(a:M)(b c:Nat)(Z:U):Prop:=
 aY lT.id #[.slice a b c] Z fun a b=>
 aQ a fun a c d=>
 cond (decide ((((c:Nat):Int)) > 8192)) (Y (.tuple #[.slice none 0 0,.int .i64 5]) b) (Y (.tuple #[.slice a c d,.int .i64 0]) b)
def aL.g(Y:aD)(X:Fr)(Z:U):Prop:=aQ (X 0) fun a b c=>aL.t Y a b c Z
theorem aL.ok(Y:aD)(X:Fr)(Z:U)(g:aL.g Y X Z):den prog E aO (a8 E [.tmp 2,.tmp 3] Y) X Z:=
 bD g fun a b c d g=>bS [(0,.slice a b c)] ⟨d,trivial⟩ (by kernel_rfl) g
def t(a:M)(b c:Nat)(Z:U)(Y:aD):Prop:=aL.t Y a b c Z
theorem ok{a:M}{b:Nat}{d:Nat}{Z:U}{Y:aD}(g:t a b d Z Y):aY id #[.slice a b d] Z Y:=
 dL dI (c:=aO) (dC:=[.tmp 2,.tmp 3]) Tryz.func88 (by kernel_rfl) (by kernel_rfl) (by kernel_rfl) (args:=[.slice a b d]) (by kernel_rfl) (aL.ok Y _ Z (bE rfl (g)))
end m9
namespace r3
noncomputable def aO:Code:=dK Tryz.f89
def aL.t(Y:aD)(aS:Int)(Z:U):Prop:=
 aY mQ.id #[.int .u64 5,.int .i64 aS] Z fun a b=>
 cT a fun a=>
 cP a fun a c d e=>
 dJ e .u64 fun e f=>
 b5 f <| aY mQ.id #[.int .u64 239,.int .i64 aS] b fun b f=>
 cT b fun b=>
 cP b fun b g h i=>
 dJ i .u64 fun i j=>
 b5 j <| aY jT.id #[.slice a c d,.int .u64 16] f fun a c=>
 cT a fun a=>
 cP a fun a d f j=>
 dJ j .i64 fun j j=>
 b5 j <| aY jT.id #[.slice b g h,.int .u64 4] c fun b c=>
 cT b fun b=>
 cP b fun b g h j=>
 dJ j .i64 fun j j=>
 b5 j <| aY jS.id #[.slice a d f,.slice b g h] c fun a b=>
 cT a fun a=>
 cP a fun a c d f=>
 dJ f .i64 fun f f=>
 b5 f <| a5 (IntKind.u64.wrap (16*e)) fun e=>
 a5 (IntKind.u64.wrap (4*i)) fun f=>
 a5 (IntKind.u64.wrap (e+f)) fun e=>
 aY tU.id #[.slice a c d,.int .u64 e] b fun a b=>
 cT a fun a=>
 cP a fun a c d e=>
 cP e fun e f g h=>
 b5 h <| Y (.tuple #[.slice a c d,.slice e f g]) b
def aL.g(Y:aD)(X:Fr)(Z:U):Prop:=aW .i64 (X 0) fun aS=>aL.t Y aS Z
theorem aL.ok(Y:aD)(X:Fr)(Z:U)(g:aL.g Y X Z):den prog E aO (a8 E [.tmp 2,.tmp 3] Y) X Z:=
 bB g fun aS a g=>bS [(0,.int .i64 aS)] ⟨a,trivial⟩ (by kernel_rfl) g
def t(aS:Int)(Z:U)(Y:aD):Prop:=aL.t Y aS Z
theorem ok{aS:Int}{Z:U}{Y:aD}(g:t aS Z Y):aY id #[.int .i64 aS] Z Y:=
 dL dI (c:=aO) (dC:=[.tmp 2,.tmp 3]) Tryz.func89 (by kernel_rfl) (by kernel_rfl) (by kernel_rfl) (args:=[.int .i64 aS]) (by kernel_rfl) (aL.ok Y _ Z (bQ rfl (g)))
end r3
namespace mM
noncomputable def aO:Code:=dK Tryz.f90
def a0.t(Y:aD)(a:M)(b c:Nat)(aJ:M)(aI aG:Nat)(Z:U):Prop:=
 cond ((((aI:Nat):Int)) == 0) (Y (.tuple #[.slice none 0 0,.slice none 0 0,.int .i64 4]) Z) (aY iU.id #[.slice a b c,.slice aJ aI aG] Z fun d e=>
 aW .i64 d fun d=>
 cond (decide (d < 0)) (aY qJ.id #[.slice a b c] e fun d f=>
 cT d fun d=>
 cP d fun d g h i=>
 dJ i .i64 fun i i=>
 b5 i <| Y (.tuple #[.slice none 0 0,.slice d g h,.int .i64 0]) f) (cond ((((aI:Nat):Int)) == 1) (c7 aJ aI 0 1 fun d=>
 cY e .u64 d fun d=>
 aY j9.id #[.slice a b c,.int .u64 d] e fun d f=>
 cT d fun d=>
 cP d fun d g h i=>
 dJ i .u64 fun i j=>
 dJ j .i64 fun j j=>
 b5 j <| aY j8.id #[.int .u64 i] f fun f i=>
 aQ f fun f j k=>
 Y (.tuple #[.slice d g h,.slice f j k,.int .i64 0]) i) (a5 (IntKind.i64.wrap ((((aI:Nat):Int)) - 1)) fun d=>
 c7 aJ aI d 1 fun d=>
 cY e .u64 d fun d=>
 aY rT.id #[.int .u64 d] e fun d e=>
 aW .i64 d fun d=>
 a5 (IntKind.i64.wrap ((((b:Nat):Int))+1)) fun f=>
 aY lV.id #[.slice a b c,.int .i64 d,.int .i64 f] e fun a b=>
 aQ a fun a c e=>
 aY lV.id #[.slice aJ aI aG,.int .i64 d,.int .i64 (((aI:Nat):Int))] b fun b f=>
 aQ b fun b g h=>
 aY iW.id #[.slice a c e,.slice b g h] f fun b f=>
 aQ b fun b h i=>
 iD 1 a c e none (some (.int .i64 (((g:Nat):Int)))) none fun a c e=>
 aY qJ.id #[.slice a c e] f fun a c=>
 cT a fun a=>
 cP a fun a e f g=>
 dJ g .i64 fun g g=>
 b5 g <| aY kV.id #[.slice a e f,.int .i64 d] c fun a c=>
 cT a fun a=>
 cP a fun a d e f=>
 dJ f .i64 fun f f=>
 b5 f <| aY qJ.id #[.slice b h i] c fun b c=>
 cT b fun b=>
 cP b fun b f g h=>
 dJ h .i64 fun h h=>
 b5 h <| Y (.tuple #[.slice b f g,.slice a d e,.int .i64 0]) c)))
def a0.g(Y:aD)(X:Fr)(Z:U):Prop:=aQ (X 0) fun a b c=>aQ (X 1) fun aJ aI aG=>a0.t Y a b c aJ aI aG Z
theorem a0.ok(Y:aD)(X:Fr)(Z:U)(g:a0.g Y X Z):den prog E (a3 aO [W,W]) (a8 E [.tmp 4,.tmp 5,.tmp 6] Y) X Z:=
 bD g fun a b c d g=>bD g fun aJ aI aG e g=>bS [(0,.slice a b c),(1,.slice aJ aI aG)] ⟨d,e,trivial⟩ (by kernel_rfl) g
def aL.t(Y:aD)(a:M)(b c:Nat)(aJ:M)(aI aG:Nat)(Z:U):Prop:=
 aY kH.id #[.slice a b c] Z fun d e=>
 eS d fun d=>
 cond (!d) (Y (.tuple #[.slice none 0 0,.slice none 0 0,.int .i64 2]) e) (aY kH.id #[.slice aJ aI aG] e fun d e=>
 eS d fun d=>
 cond (!d) (Y (.tuple #[.slice none 0 0,.slice none 0 0,.int .i64 2]) e) (a0.t Y a b c aJ aI aG e))
def aL.g(Y:aD)(X:Fr)(Z:U):Prop:=aQ (X 0) fun a b c=>aQ (X 1) fun aJ aI aG=>aL.t Y a b c aJ aI aG Z
theorem aL.ok(Y:aD)(X:Fr)(Z:U)(g:aL.g Y X Z):den prog E aO (a8 E [.tmp 4,.tmp 5,.tmp 6] Y) X Z:=
 bD g fun a b c d g=>bD g fun aJ aI aG e g=>c4 2 (r:=(a3 aO [W,W])) (by kernel_rfl) (a0.ok Y) (bS [(0,.slice a b c),(1,.slice aJ aI aG)] ⟨d,e,trivial⟩ (by kernel_rfl) g)
def t(a:M)(b c:Nat)(aJ:M)(aI aG:Nat)(Z:U)(Y:aD):Prop:=aL.t Y a b c aJ aI aG Z
theorem ok{a:M}{b:Nat}{d:Nat}{aJ:M}{aI:Nat}{aG:Nat}{Z:U}{Y:aD}(g:t a b d aJ aI aG Z Y):aY id #[.slice a b d,.slice aJ aI aG] Z Y:=
 dL dI (c:=aO) (dC:=[.tmp 4,.tmp 5,.tmp 6]) Tryz.func90 (by kernel_rfl) (by kernel_rfl) (by kernel_rfl) (args:=[.slice a b d,.slice aJ aI aG]) (by kernel_rfl) (aL.ok Y _ Z (bE rfl (bE rfl (g))))
end mM
namespace oZ
noncomputable def aO:Code:=dK Tryz.f91
def aL.t(Y:aD)(a:M)(b c:Nat)(aJ:M)(aI aG:Nat)(d:Int)(Z:U):Prop:=
 aY jT.id #[.slice aJ aI aG,.int .u64 d] Z fun d e=>
 cT d fun d=>
 cP d fun d f g h=>
 dJ h .i64 fun h h=>
 b5 h <| aY jS.id #[.slice a b c,.slice d f g] e fun a b=>
 cT a fun a=>
 cP a fun a c d e=>
 dJ e .i64 fun e e=>
 b5 e <| Y (.slice a c d) b
def aL.g(Y:aD)(X:Fr)(Z:U):Prop:=aQ (X 0) fun a b c=>aQ (X 1) fun aJ aI aG=>aW .u64 (X 2) fun d=>aL.t Y a b c aJ aI aG d Z
theorem aL.ok(Y:aD)(X:Fr)(Z:U)(g:aL.g Y X Z):den prog E aO (a8 E [.tmp 6] Y) X Z:=
 bD g fun a b c d g=>bD g fun aJ aI aG e g=>bB g fun f h g=>bS [(0,.slice a b c),(1,.slice aJ aI aG),(2,.int .u64 f)] ⟨d,e,h,trivial⟩ (by kernel_rfl) g
def t(a:M)(b c:Nat)(aJ:M)(aI aG:Nat)(d:Int)(Z:U)(Y:aD):Prop:=aL.t Y a b c aJ aI aG d Z
theorem ok{a:M}{b:Nat}{d:Nat}{aJ:M}{aI:Nat}{aG:Nat}{e:Int}{Z:U}{Y:aD}(g:t a b d aJ aI aG e Z Y):aY id #[.slice a b d,.slice aJ aI aG,.int .u64 e] Z Y:=
 dL dI (c:=aO) (dC:=[.tmp 6]) Tryz.func91 (by kernel_rfl) (by kernel_rfl) (by kernel_rfl) (args:=[.slice a b d,.slice aJ aI aG,.int .u64 e]) (by kernel_rfl) (aL.ok Y _ Z (bE rfl (bE rfl (bQ rfl (g)))))
end oZ
namespace r8
noncomputable def aO:Code:=dK Tryz.f92
def aL.t(Y:aD)(Z:U):Prop:=
 aY j8.id #[.int .u64 1] Z fun a b=>
 aQ a fun a c d=>
 aY kN.id #[.slice a c d,.int .i64 320] b fun a b=>
 cT a fun a=>
 cP a fun a c d e=>
 dJ e .i64 fun e e=>
 b5 e <| Y (.slice a c d) b
def aL.g(Y:aD)(X:Fr)(Z:U):Prop:=aL.t Y  Z
theorem aL.ok(Y:aD)(X:Fr)(Z:U)(g:aL.g Y X Z):den prog E aO (a8 E [.tmp 0] Y) X Z:=
 bS [] trivial (by kernel_rfl) g
def t(Z:U)(Y:aD):Prop:=aL.t Y Z
theorem ok{Z:U}{Y:aD}(g:t  Z Y):aY id #[] Z Y:=
 dL dI (c:=aO) (dC:=[.tmp 0]) Tryz.func92 (by kernel_rfl) (by kernel_rfl) (by kernel_rfl) (args:=[]) (by kernel_rfl) (aL.ok Y _ Z (g))
end r8
namespace o0
noncomputable def aO:Code:=dK Tryz.f93
def a0.t(Y:aD)(b0:M)(a b2:Nat)(Z:U):Prop:=
 c7 b0 a 0 1 fun a=>fG Z a fun a=>aW .u64 a fun a=>Y (.int .u64 a) Z
def a0.g(Y:aD)(X:Fr)(Z:U):Prop:=aQ (X 7) fun b0 a b2=>a0.t Y b0 a b2 Z
theorem a0.ok(Y:aD)(X:Fr)(Z:U)(g:a0.g Y X Z):den prog E (a3 aO [W,W,W,W]) (a8 E [.tmp 6] Y) X Z:=
 bD g fun b0 a b2 b g=>bS [(7,.slice b0 a b2)] ⟨b,trivial⟩ (by kernel_rfl) g
def aL.t(Y:aD)(a:M)(b c:Nat)(aJ:M)(aI aG:Nat)(d:Int)(Z:U):Prop:=
 aY mM.id #[.slice a b c,.slice aJ aI aG] Z fun a b=>
 cT a fun a=>
 cP a fun a c e f=>
 cP f fun f f f f=>
 dJ f .i64 fun f f=>
 b5 f <| cond ((((c:Nat):Int)) == 0) (Y (.int .u64 0) b) (cond (decide ((((c:Nat):Int)) > 1)) (Y (.int .u64 d) b) (c7 a c 0 1 fun f=>
 cY b .u64 f fun f=>
 cond (decide (f > d)) (Y (.int .u64 d) b) (a0.t Y a c e b)))
def aL.g(Y:aD)(X:Fr)(Z:U):Prop:=aQ (X 0) fun a b c=>aQ (X 1) fun aJ aI aG=>aW .u64 (X 2) fun d=>aL.t Y a b c aJ aI aG d Z
theorem aL.ok(Y:aD)(X:Fr)(Z:U)(g:aL.g Y X Z):den prog E aO (a8 E [.tmp 6] Y) X Z:=
 bD g fun a b c d g=>bD g fun aJ aI aG e g=>bB g fun f h g=>c4 4 (r:=(a3 aO [W,W,W,W])) (by kernel_rfl) (a0.ok Y) (bS [(0,.slice a b c),(1,.slice aJ aI aG),(2,.int .u64 f)] ⟨d,e,h,trivial⟩ (by kernel_rfl) g)
def t(a:M)(b c:Nat)(aJ:M)(aI aG:Nat)(d:Int)(Z:U)(Y:aD):Prop:=aL.t Y a b c aJ aI aG d Z
theorem ok{a:M}{b:Nat}{d:Nat}{aJ:M}{aI:Nat}{aG:Nat}{e:Int}{Z:U}{Y:aD}(g:t a b d aJ aI aG e Z Y):aY id #[.slice a b d,.slice aJ aI aG,.int .u64 e] Z Y:=
 dL dI (c:=aO) (dC:=[.tmp 6]) Tryz.func93 (by kernel_rfl) (by kernel_rfl) (by kernel_rfl) (args:=[.slice a b d,.slice aJ aI aG,.int .u64 e]) (by kernel_rfl) (aL.ok Y _ Z (bE rfl (bE rfl (bQ rfl (g)))))
end o0
namespace qW
noncomputable def aO:Code:=dK Tryz.f94
def a0.t(Y:aD)(aS aM:Int)(a b:Int)(Z:U):Prop:=
 a5 (IntKind.u64.wrap (aM*a)) fun a=>
 a5 (IntKind.u64.wrap (aS+a)) fun a=>
 a5 (IntKind.u64.wrap (b+1)) fun b=>
 Y (.int .u64 (if b < a then b else a)) Z
def a0.g(Y:aD)(X:Fr)(Z:U):Prop:=aW .u64 (X 0) fun aS=>aW .u64 (X 1) fun aM=>aW .u64 (X 2) fun a=>aW .u64 (X 3) fun b=>a0.t Y aS aM a b Z
theorem a0.ok(Y:aD)(X:Fr)(Z:U)(g:a0.g Y X Z):den prog E (a3 aO [W,W]) (a8 E [.tmp 8] Y) X Z:=
 bB g fun aS a g=>bB g fun aM b g=>bB g fun c d g=>bB g fun e f g=>bS [(0,.int .u64 aS),(1,.int .u64 aM),(2,.int .u64 c),(3,.int .u64 e)] ⟨a,b,d,f,trivial⟩ (by kernel_rfl) g
def aL.t(Y:aD)(aS aM:Int)(a b:Int)(Z:U):Prop:=
 cond (decide (a > b)) (a5 (IntKind.u64.wrap (b+1)) fun dY=>
 Y (.int .u64 dY) Z) ((if 1 > a then 1 else a) ≠ 0∧a5 (IntKind.u64.wrap (Int.tdiv b (if 1 > a then 1 else a))) fun c=>
 a5 (IntKind.u64.wrap (c+1)) fun c=>
 cond (decide (aM > c)) (a5 (IntKind.u64.wrap (b+1)) fun c=>
 Y (.int .u64 c) Z) (a0.t Y aS aM a b Z))
def aL.g(Y:aD)(X:Fr)(Z:U):Prop:=aW .u64 (X 0) fun aS=>aW .u64 (X 1) fun aM=>aW .u64 (X 2) fun a=>aW .u64 (X 3) fun b=>aL.t Y aS aM a b Z
theorem aL.ok(Y:aD)(X:Fr)(Z:U)(g:aL.g Y X Z):den prog E aO (a8 E [.tmp 8] Y) X Z:=
 bB g fun aS a g=>bB g fun aM b g=>bB g fun c d g=>bB g fun e f g=>c4 2 (r:=(a3 aO [W,W])) (by kernel_rfl) (a0.ok Y) (bS [(0,.int .u64 aS),(1,.int .u64 aM),(2,.int .u64 c),(3,.int .u64 e)] ⟨a,b,d,f,trivial⟩ (by kernel_rfl) g)
def t(aS aM:Int)(a b:Int)(Z:U)(Y:aD):Prop:=aL.t Y aS aM a b Z
theorem ok{aS:Int}{aM:Int}{a:Int}{b:Int}{Z:U}{Y:aD}(g:t aS aM a b Z Y):aY id #[.int .u64 aS,.int .u64 aM,.int .u64 a,.int .u64 b] Z Y:=
 dL dI (c:=aO) (dC:=[.tmp 8]) Tryz.func94 (by kernel_rfl) (by kernel_rfl) (by kernel_rfl) (args:=[.int .u64 aS,.int .u64 aM,.int .u64 a,.int .u64 b]) (by kernel_rfl) (aL.ok Y _ Z (bQ rfl (bQ rfl (bQ rfl (bQ rfl (g))))))
end qW
namespace jS
noncomputable def aO:Code:=dK Tryz.f95
def bF.t(Y:aD)(a7:M)(a a9:Nat)(Z:U):Prop:=
 aY m9.id #[.slice a7 a a9] Z fun a b=>
 cT a fun a=>
 cP a fun a c d e=>
 dJ e .i64 fun e f=>
 b5 f <| Y (.tuple #[.slice a c d,.int .i64 e]) b
def bF.g(Y:aD)(X:Fr)(Z:U):Prop:=aQ (X 6) fun a7 a a9=>bF.t Y a7 a a9 Z
theorem bF.ok(Y:aD)(X:Fr)(Z:U)(g:bF.g Y X Z):den prog E (a3 aO [W,W,W,W,W,W]) (a8 E [.tmp 4,.tmp 5] Y) X Z:=
 bD g fun a7 a a9 b g=>bS [(6,.slice a7 a a9)] ⟨b,trivial⟩ (by kernel_rfl) g
def dW.g(a:M→Nat→Nat→M→Nat→Nat→M→Nat→Nat→Int→Int→Int→U→Prop)(X:Fr)(Z:U):Prop:=aQ (X 0) fun b c d=>aQ (X 1) fun aJ aI aG=>aQ (X 6) fun a7 e a9=>aW .u64 (X 7) fun f=>aW .i64 (X 26) fun h=>aW .i64 (X 27) fun i=>a b c d aJ aI aG a7 e a9 f h i Z
def c8.t(Y:aD)(a:M→Nat→Nat→M→Nat→Nat→M→Nat→Nat→Int→Int→Int→U→Prop)(b:M)(c d:Nat)(aJ:M)(aI aG:Nat)(a7:M)(e a9:Nat)(f g h:Int)(Z:U):Prop:=
 cond (decide (h < g)) (cond (decide (h < (((aI:Nat):Int)))) (c7 aJ aI h 1 fun i=>
 cY Z .u64 i fun i=>
 c7 b c h 1 fun j=>
 cY Z .u64 j fun j=>
 rD j i f fun i j=>
 c7 a7 e h 1 fun k=>
 cC Z k (.int .u64 i) fun i=>
 a5 (IntKind.i64.wrap (h+1)) fun k=>
 a b c d aJ aI aG a7 e a9 j g k i) (c7 b c h 1 fun i=>
 cY Z .u64 i fun i=>
 rD i 0 f fun f m32=>
 c7 a7 e h 1 fun i=>
 cC Z i (.int .u64 f) fun f=>
 a5 (IntKind.i64.wrap (h+1)) fun h=>
 a b c d aJ aI aG a7 e a9 m32 g h f)) (bF.t Y a7 e a9 Z)
def c8.g(Y:aD)(a:M→Nat→Nat→M→Nat→Nat→M→Nat→Nat→Int→Int→Int→U→Prop)(X:Fr)(Z:U):Prop:=aQ (X 0) fun b c d=>aQ (X 1) fun aJ aI aG=>aQ (X 6) fun a7 e a9=>aW .u64 (X 7) fun f=>aW .i64 (X 26) fun h=>aW .i64 (X 27) fun i=>c8.t Y a b c d aJ aI aG a7 e a9 f h i Z
theorem c8.ok(Y:aD)(a:M→Nat→Nat→M→Nat→Nat→M→Nat→Nat→Int→Int→Int→U→Prop)(X:Fr)(Z:U)(g:c8.g Y a X Z):den prog E (a3 aO [W,W,W,W,W,aT,W,aT,aT]) (a1.then (dW.g a) (a1.inBlock 0 (a1.then (bF.g Y) (a8 E [.tmp 4,.tmp 5] Y)))) X Z:=
 bD g fun a b c d g=>bD g fun aJ aI aG e g=>bD g fun a7 f a9 h g=>bB g fun i j g=>bB g fun k l g=>bB g fun m n g=>bS [(0,.slice a b c),(1,.slice aJ aI aG),(6,.slice a7 f a9),(7,.int .u64 i),(26,.int .i64 k),(27,.int .i64 m)] ⟨d,e,h,j,l,n,trivial⟩ (by kernel_rfl) g
def dW.t(Y:aD):Nat→M→Nat→Nat→M→Nat→Nat→M→Nat→Nat→Int→Int→Int→U→Prop
 | 0=>fun _ _ _ _ _ _ _ _ _ _ _ _ _=>False
 | n+1=>fun a b c aJ aI aG a7 d a9 e f g Z=>c8.t Y (dW.t Y n) a b c aJ aI aG a7 d a9 e f g Z
theorem dW.ok(Y:aD)(X:Fr)(Z:U)(g:dW.g (fun a b c aJ aI aG a7 d a9 e f h Z=>∃ n,dW.t Y n a b c aJ aI aG a7 d a9 e f h Z) X Z):den prog E (a3 aO [W,W,W,W,W,aT,W,aT]) (a1.inBlock 0 (a1.then (bF.g Y) (a8 E [.tmp 4,.tmp 5] Y))) X Z:=by
 obtain⟨a,b,c,i,g⟩:=b4 g
 obtain⟨aJ,aI,aG,j,g⟩:=b4 g
 obtain⟨a7,d,a9,k,g⟩:=b4 g
 obtain⟨e,l,g⟩:=bN g
 obtain⟨f,m,g⟩:=bN g
 obtain⟨h,o,g⟩:=bN g
 obtain⟨n,g⟩:=g
 refine fK (fun n=>dW.g (dW.t Y n)) (L:=(a3 aO [W,W,W,W,W,aT,W,aT,aT])) (by kernel_rfl) (fun X Z g=>?_) (fun n=>c8.ok Y (dW.t Y n)) n X Z (bE i (bE j (bE k (bQ l (bQ m (bQ o (g)))))))
 obtain⟨a,b,c,i,g⟩:=b4 g
 obtain⟨aJ,aI,aG,j,g⟩:=b4 g
 obtain⟨a7,d,a9,k,g⟩:=b4 g
 obtain⟨e,l,g⟩:=bN g
 obtain⟨f,m,g⟩:=bN g
 obtain⟨h,o,g⟩:=bN g
 exact g
theorem o7.ok(Y:aD)(X:Fr)(Z:U)(g:dW.g (fun a b c aJ aI aG a7 d a9 e f h Z=>∃ n,dW.t Y n a b c aJ aI aG a7 d a9 e f h Z) X Z):den prog E (a3 aO [W,W,W,W,W,aT,W]) (a1.then (bF.g Y) (a8 E [.tmp 4,.tmp 5] Y)) X Z:=
 fC (by kernel_rfl) (dW.ok Y X Z g)
def cE.t(Y:aD)(a:M)(b c:Nat)(aJ:M)(aI aG:Nat)(a7:M)(d a9:Nat)(e:Int)(Z:U):Prop:=
 (∃ n,dW.t Y n a b c aJ aI aG a7 d a9 e (((b:Nat):Int)) 0 Z)
def cE.g(Y:aD)(X:Fr)(Z:U):Prop:=aQ (X 0) fun a b c=>aQ (X 1) fun aJ aI aG=>aQ (X 6) fun a7 d a9=>aW .u64 (X 7) fun e=>cE.t Y a b c aJ aI aG a7 d a9 e Z
theorem cE.ok(Y:aD)(X:Fr)(Z:U)(g:cE.g Y X Z):den prog E (a3 aO [W,W,W,W,W,aT]) (a1.then (bF.g Y) (a8 E [.tmp 4,.tmp 5] Y)) X Z:=
 bD g fun a b c d g=>bD g fun aJ aI aG e g=>bD g fun a7 f a9 h g=>bB g fun i j g=>c4 1 (r:=(a3 aO [W,W,W,W,W,aT,W])) (by kernel_rfl) (o7.ok Y) (bS [(0,.slice a b c),(1,.slice aJ aI aG),(6,.slice a7 f a9),(7,.int .u64 i)] ⟨d,e,h,j,trivial⟩ (by kernel_rfl) g)
theorem o8.ok(Y:aD)(X:Fr)(Z:U)(g:cE.g Y X Z):den prog E (a3 aO [W,W,W,W,W]) (a8 E [.tmp 4,.tmp 5] Y) X Z:=
 gA (by kernel_rfl) (bF.ok Y) (cE.ok Y X Z g)
def a0.t(Y:aD)(a:M)(b c:Nat)(aJ:M)(aI aG:Nat)(Z:U):Prop:=
 aY iU.id #[.slice a b c,.slice aJ aI aG] Z fun d e=>
 aW .i64 d fun d=>
 cond (decide (d < 0)) (Y (.tuple #[.slice none 0 0,.int .i64 3]) e) (iI e 35 j6 (((b:Nat):Int)) (((b:Nat):Int)) fun d e=>
 cE.t Y a b c aJ aI aG (some d) ((((b:Nat):Int)).toNat) ((((b:Nat):Int)).toNat) 0 e)
def a0.g(Y:aD)(X:Fr)(Z:U):Prop:=aQ (X 0) fun a b c=>aQ (X 1) fun aJ aI aG=>a0.t Y a b c aJ aI aG Z
theorem a0.ok(Y:aD)(X:Fr)(Z:U)(g:a0.g Y X Z):den prog E (a3 aO [W,W]) (a8 E [.tmp 4,.tmp 5] Y) X Z:=
 bD g fun a b c d g=>bD g fun aJ aI aG e g=>c4 3 (r:=(a3 aO [W,W,W,W,W])) (by kernel_rfl) (o8.ok Y) (bS [(0,.slice a b c),(1,.slice aJ aI aG)] ⟨d,e,trivial⟩ (by kernel_rfl) g)
def aL.t(Y:aD)(a:M)(b c:Nat)(aJ:M)(aI aG:Nat)(Z:U):Prop:=
 aY kH.id #[.slice a b c] Z fun d e=>
 eS d fun d=>
 cond (!d) (Y (.tuple #[.slice none 0 0,.int .i64 2]) e) (aY kH.id #[.slice aJ aI aG] e fun d e=>
 eS d fun d=>
 cond (!d) (Y (.tuple #[.slice none 0 0,.int .i64 2]) e) (a0.t Y a b c aJ aI aG e))
def aL.g(Y:aD)(X:Fr)(Z:U):Prop:=aQ (X 0) fun a b c=>aQ (X 1) fun aJ aI aG=>aL.t Y a b c aJ aI aG Z
theorem aL.ok(Y:aD)(X:Fr)(Z:U)(g:aL.g Y X Z):den prog E aO (a8 E [.tmp 4,.tmp 5] Y) X Z:=
 bD g fun a b c d g=>bD g fun aJ aI aG e g=>c4 2 (r:=(a3 aO [W,W])) (by kernel_rfl) (a0.ok Y) (bS [(0,.slice a b c),(1,.slice aJ aI aG)] ⟨d,e,trivial⟩ (by kernel_rfl) g)
def t(a:M)(b c:Nat)(aJ:M)(aI aG:Nat)(Z:U)(Y:aD):Prop:=aL.t Y a b c aJ aI aG Z
theorem ok{a:M}{b:Nat}{d:Nat}{aJ:M}{aI:Nat}{aG:Nat}{Z:U}{Y:aD}(g:t a b d aJ aI aG Z Y):aY id #[.slice a b d,.slice aJ aI aG] Z Y:=
 dL dI (c:=aO) (dC:=[.tmp 4,.tmp 5]) Tryz.func95 (by kernel_rfl) (by kernel_rfl) (by kernel_rfl) (args:=[.slice a b d,.slice aJ aI aG]) (by kernel_rfl) (aL.ok Y _ Z (bE rfl (bE rfl (g))))
end jS
namespace tP
noncomputable def aO:Code:=dK Tryz.f96
def aL.t(Y:aD)(a:M)(b c:Nat)(Z:U):Prop:=
 cond (decide ((((b:Nat):Int)) > 8192)) (Y (.tuple #[.slice none 0 0,.int .i64 5]) Z) (Y (.tuple #[.slice a b c,.int .i64 0]) Z)
def aL.g(Y:aD)(X:Fr)(Z:U):Prop:=aQ (X 0) fun a b c=>aL.t Y a b c Z
theorem aL.ok(Y:aD)(X:Fr)(Z:U)(g:aL.g Y X Z):den prog E aO (a8 E [.tmp 2,.tmp 3] Y) X Z:=
 bD g fun a b c d g=>bS [(0,.slice a b c)] ⟨d,trivial⟩ (by kernel_rfl) g
def t(a:M)(b c:Nat)(Z:U)(Y:aD):Prop:=aL.t Y a b c Z
theorem ok{a:M}{b:Nat}{d:Nat}{Z:U}{Y:aD}(g:t a b d Z Y):aY id #[.slice a b d] Z Y:=
 dL dI (c:=aO) (dC:=[.tmp 2,.tmp 3]) Tryz.func96 (by kernel_rfl) (by kernel_rfl) (by kernel_rfl) (args:=[.slice a b d]) (by kernel_rfl) (aL.ok Y _ Z (bE rfl (g)))
end tP
namespace n4
noncomputable def aO:Code:=dK Tryz.f97
def aL.t(Y:aD)(a:M)(b c:Nat)(aJ:M)(aI aG:Nat)(Z:U):Prop:=
 a5 (IntKind.i64.wrap ((((b:Nat):Int))+(((aI:Nat):Int)))) fun dY=>
 iI Z 35 j6 dY dY fun e8 d=>
 aY qP.id #[.slice (some e8) dY.toNat dY.toNat,.slice a b c,.slice aJ aI aG] d fun a b=>
 cT a fun a=>
 b5 a <| aY lX.id #[.slice (some e8) dY.toNat dY.toNat] b fun a b=>
 aQ a fun a c d=>
 Y (.slice a c d) b
def aL.g(Y:aD)(X:Fr)(Z:U):Prop:=aQ (X 0) fun a b c=>aQ (X 1) fun aJ aI aG=>aL.t Y a b c aJ aI aG Z
theorem aL.ok(Y:aD)(X:Fr)(Z:U)(g:aL.g Y X Z):den prog E aO (a8 E [.tmp 4] Y) X Z:=
 bD g fun a b c d g=>bD g fun aJ aI aG e g=>bS [(0,.slice a b c),(1,.slice aJ aI aG)] ⟨d,e,trivial⟩ (by kernel_rfl) g
def t(a:M)(b c:Nat)(aJ:M)(aI aG:Nat)(Z:U)(Y:aD):Prop:=aL.t Y a b c aJ aI aG Z
theorem ok{a:M}{b:Nat}{d:Nat}{aJ:M}{aI:Nat}{aG:Nat}{Z:U}{Y:aD}(g:t a b d aJ aI aG Z Y):aY id #[.slice a b d,.slice aJ aI aG] Z Y:=
 dL dI (c:=aO) (dC:=[.tmp 4]) Tryz.func97 (by kernel_rfl) (by kernel_rfl) (by kernel_rfl) (args:=[.slice a b d,.slice aJ aI aG]) (by kernel_rfl) (aL.ok Y _ Z (bE rfl (bE rfl (g))))
end n4
namespace mH
noncomputable def aO:Code:=dK Tryz.f98
def cE.t(Y:aD)(aS a:Int)(Z:U):Prop:=
 a5 (IntKind.u8.wrap aS) fun b=>
 wQ (⟨#[0,1,2,2,3,3,3,3,4,4,4,4,4,4,4,4,5,5,5,5,5,5,5,5,5,5,5,5,5,5,5,5,6,6,6,6,6,6,6,6,6,6,6,6,6,6,6,6,6,6,6,6,6,6,6,6,6,6,6,6,6,6,6,6,7,7,7,7,7,7,7,7,7,7,7,7,7,7,7,7,7,7,7,7,7,7,7,7,7,7,7,7,7,7,7,7,7,7,7,7,7,7,7,7,7,7,7,7,7,7,7,7,7,7,7,7,7,7,7,7,7,7,7,7,7,7,7,7,8,8,8,8,8,8,8,8,8,8,8,8,8,8,8,8,8,8,8,8,8,8,8,8,8,8,8,8,8,8,8,8,8,8,8,8,8,8,8,8,8,8,8,8,8,8,8,8,8,8,8,8,8,8,8,8,8,8,8,8,8,8,8,8,8,8,8,8,8,8,8,8,8,8,8,8,8,8,8,8,8,8,8,8,8,8,8,8,8,8,8,8,8,8,8,8,8,8,8,8,8,8,8,8,8,8,8,8,8,8,8,8,8,8,8,8,8,8,8,8,8,8,8,8,8,8,8,8]⟩:ByteArray) b fun b=>
 a5 (IntKind.i64.wrap b) fun b=>
 a5 (IntKind.i64.wrap (a+b)) fun a=>
 Y (.int .i64 a) Z
def cE.g(Y:aD)(X:Fr)(Z:U):Prop:=aW .u64 (X 0) fun aS=>aW .i64 (X 2) fun a=>cE.t Y aS a Z
theorem cE.ok(Y:aD)(X:Fr)(Z:U)(g:cE.g Y X Z):den prog E (a3 aO [W,W,W,W]) (a8 E [.tmp 2] Y) X Z:=
 bB g fun aS a g=>bB g fun b c g=>bS [(0,.int .u64 aS),(2,.int .i64 b)] ⟨a,c,trivial⟩ (by kernel_rfl) g
def bF.t(Y:aD)(aS a:Int)(Z:U):Prop:=
 cond (decide (aS≥256)) (0≤(8:Int)∧a5 (g6 .u64 aS 8) fun b=>
 a5 (IntKind.i64.wrap (a+8)) fun c=>
 cE.t Y b c Z) (cE.t Y aS a Z)
def bF.g(Y:aD)(X:Fr)(Z:U):Prop:=aW .u64 (X 0) fun aS=>aW .i64 (X 2) fun a=>bF.t Y aS a Z
theorem bF.ok(Y:aD)(X:Fr)(Z:U)(g:bF.g Y X Z):den prog E (a3 aO [W,W,W]) (a8 E [.tmp 2] Y) X Z:=
 bB g fun aS a g=>bB g fun b c g=>c4 1 (r:=(a3 aO [W,W,W,W])) (by kernel_rfl) (cE.ok Y) (bS [(0,.int .u64 aS),(2,.int .i64 b)] ⟨a,c,trivial⟩ (by kernel_rfl) g)
def a0.t(Y:aD)(aS a:Int)(Z:U):Prop:=
 cond (decide (aS≥65536)) (0≤(16:Int)∧a5 (g6 .u64 aS 16) fun b=>
 a5 (IntKind.i64.wrap (a+16)) fun c=>
 bF.t Y b c Z) (bF.t Y aS a Z)
def a0.g(Y:aD)(X:Fr)(Z:U):Prop:=aW .u64 (X 0) fun aS=>aW .i64 (X 2) fun a=>a0.t Y aS a Z
theorem a0.ok(Y:aD)(X:Fr)(Z:U)(g:a0.g Y X Z):den prog E (a3 aO [W,W]) (a8 E [.tmp 2] Y) X Z:=
 bB g fun aS a g=>bB g fun b c g=>c4 1 (r:=(a3 aO [W,W,W])) (by kernel_rfl) (bF.ok Y) (bS [(0,.int .u64 aS),(2,.int .i64 b)] ⟨a,c,trivial⟩ (by kernel_rfl) g)
def aL.t(Y:aD)(aS:Int)(Z:U):Prop:=
 cond (decide (aS≥4294967296)) (0≤(32:Int)∧a5 (g6 .u64 aS 32) fun dY=>
 a0.t Y dY 32 Z) (a0.t Y aS 0 Z)
def aL.g(Y:aD)(X:Fr)(Z:U):Prop:=aW .u64 (X 0) fun aS=>aL.t Y aS Z
theorem aL.ok(Y:aD)(X:Fr)(Z:U)(g:aL.g Y X Z):den prog E aO (a8 E [.tmp 2] Y) X Z:=
 bB g fun aS a g=>c4 2 (r:=(a3 aO [W,W])) (by kernel_rfl) (a0.ok Y) (bS [(0,.int .u64 aS)] ⟨a,trivial⟩ (by kernel_rfl) g)
def t(aS:Int)(Z:U)(Y:aD):Prop:=aL.t Y aS Z
theorem ok{aS:Int}{Z:U}{Y:aD}(g:t aS Z Y):aY id #[.int .u64 aS] Z Y:=
 dL dI (c:=aO) (dC:=[.tmp 2]) Tryz.func98 (by kernel_rfl) (by kernel_rfl) (by kernel_rfl) (args:=[.int .u64 aS]) (by kernel_rfl) (aL.ok Y _ Z (bQ rfl (g)))
end mH
namespace hO
noncomputable def aO:Code:=dK Tryz.f99
def a0.t(Y:aD)(a:Int)(Z:U):Prop:=
 a5 (IntKind.u32.wrap a) fun a=>Y (.int .u32 a) Z
def a0.g(Y:aD)(X:Fr)(Z:U):Prop:=aW .u64 (X 7) fun a=>a0.t Y a Z
theorem a0.ok(Y:aD)(X:Fr)(Z:U)(g:a0.g Y X Z):den prog E (a3 aO [W,W,W,W,W,W,W]) (a8 E [.tmp 4] Y) X Z:=
 bB g fun a b g=>bS [(7,.int .u64 a)] ⟨b,trivial⟩ (by kernel_rfl) g
def cK.g(a:M→Nat→Nat→M→Nat→Nat→Int→Int→Int→U→Prop)(X:Fr)(Z:U):Prop:=aQ (X 0) fun b c d=>aQ (X 1) fun aJ aI aG=>aW .i64 (X 5) fun e=>aW .u64 (X 7) fun f=>aW .u64 (X 9) fun h=>a b c d aJ aI aG e f h Z
def c8.t(Y:aD)(a:M→Nat→Nat→M→Nat→Nat→Int→Int→Int→U→Prop)(b:M)(c d:Nat)(aJ:M)(aI aG:Nat)(e f:Int)(g h:Int)(Z:U):Prop:=
 a5 (IntKind.u64.wrap (h - (if g < h then g else h))) fun g=>a b c d aJ aI aG e f g Z
def c8.g(Y:aD)(a:M→Nat→Nat→M→Nat→Nat→Int→Int→Int→U→Prop)(X:Fr)(Z:U):Prop:=aQ (X 0) fun b c d=>aQ (X 1) fun aJ aI aG=>aW .i64 (X 5) fun e=>aW .u64 (X 7) fun f=>aW .u64 (X 8) fun h=>aW .u64 (X 9) fun i=>c8.t Y a b c d aJ aI aG e f h i Z
theorem c8.ok(Y:aD)(a:M→Nat→Nat→M→Nat→Nat→Int→Int→Int→U→Prop)(X:Fr)(Z:U)(g:c8.g Y a X Z):den prog E (a3 aO [W,W,W,W,W,W,aT,aT,aT,W,aT,W,W,W]) (a1.inBlock 3 (a1.then (cK.g a) (a1.inBlock 2 (a1.then (a0.g Y) (a8 E [.tmp 4] Y))))) X Z:=
 bD g fun a b c d g=>bD g fun aJ aI aG e g=>bB g fun f h g=>bB g fun i j g=>bB g fun k l g=>bB g fun m n g=>bS [(0,.slice a b c),(1,.slice aJ aI aG),(5,.int .i64 f),(7,.int .u64 i),(8,.int .u64 k),(9,.int .u64 m)] ⟨d,e,h,j,l,n,trivial⟩ (by kernel_rfl) g
def hH.g(a:M→Nat→Nat→M→Nat→Nat→Int→Int→Int→Int→Int→U→Prop)(X:Fr)(Z:U):Prop:=aQ (X 0) fun b c d=>aQ (X 1) fun aJ aI aG=>aW .i64 (X 5) fun e=>aW .u64 (X 7) fun f=>aW .u64 (X 8) fun h=>aW .u64 (X 9) fun i=>aW .i64 (X 13) fun j=>a b c d aJ aI aG e f h i j Z
def gK.t(Y:aD)(a:M→Nat→Nat→M→Nat→Nat→Int→Int→Int→U→Prop)(b:M→Nat→Nat→M→Nat→Nat→Int→Int→Int→Int→Int→U→Prop)(c:M)(d e:Nat)(aJ:M)(aI aG:Nat)(f g:Int)(h i j:Int)(Z:U):Prop:=
 cond (decide (j≤f)) (c7 c d j 1 fun k=>
 cY Z .u32 k fun k=>
 a5 (IntKind.u64.wrap k) fun k=>
 a5 (IntKind.u64.wrap (h+k)) fun k=>
 cond (decide (j < f)) (c7 aJ aI j 1 fun l=>
 cY Z .u32 l fun l=>
 a5 (IntKind.u64.wrap l) fun l=>
 a5 (IntKind.u64.wrap (k+l)) fun l=>
 a5 (jE .u64 l 4294967295) fun m=>
 a5 (IntKind.u32.wrap m) fun m=>
 c7 c d j 1 fun n=>
 cC Z n (.int .u32 m) fun m=>
 0≤(32:Int)∧a5 (g6 .u64 l 32) fun l=>
 a5 (IntKind.i64.wrap (j+1)) fun n=>
 b c d e aJ aI aG f g l i n m) (a5 (jE .u64 k 4294967295) fun l=>
 a5 (IntKind.u32.wrap l) fun l=>
 c7 c d j 1 fun m=>
 cC Z m (.int .u32 l) fun l=>
 0≤(32:Int)∧a5 (g6 .u64 k 32) fun k=>
 a5 (IntKind.i64.wrap (j+1)) fun j=>
 b c d e aJ aI aG f g k i j l)) (c8.t Y a c d e aJ aI aG f g h i Z)
def gK.g(Y:aD)(a:M→Nat→Nat→M→Nat→Nat→Int→Int→Int→U→Prop)(b:M→Nat→Nat→M→Nat→Nat→Int→Int→Int→Int→Int→U→Prop)(X:Fr)(Z:U):Prop:=aQ (X 0) fun c d e=>aQ (X 1) fun aJ aI aG=>aW .i64 (X 5) fun f=>aW .u64 (X 7) fun h=>aW .u64 (X 8) fun i=>aW .u64 (X 9) fun j=>aW .i64 (X 13) fun k=>gK.t Y a b c d e aJ aI aG f h i j k Z
theorem gK.ok(Y:aD)(a:M→Nat→Nat→M→Nat→Nat→Int→Int→Int→U→Prop)(b:M→Nat→Nat→M→Nat→Nat→Int→Int→Int→Int→Int→U→Prop)(X:Fr)(Z:U)(g:gK.g Y a b X Z):den prog E (a3 aO [W,W,W,W,W,W,aT,aT,aT,W,aT,W,W,aT,W,aT,aT]) (a1.then (hH.g b) (a1.inBlock 4 (a1.then (c8.g Y a) (a1.inBlock 3 (a1.then (cK.g a) (a1.inBlock 2 (a1.then (a0.g Y) (a8 E [.tmp 4] Y)))))))) X Z:=
 bD g fun a b c d g=>bD g fun aJ aI aG e g=>bB g fun f h g=>bB g fun i j g=>bB g fun k l g=>bB g fun m n g=>bB g fun o p g=>bS [(0,.slice a b c),(1,.slice aJ aI aG),(5,.int .i64 f),(7,.int .u64 i),(8,.int .u64 k),(9,.int .u64 m),(13,.int .i64 o)] ⟨d,e,h,j,l,n,p,trivial⟩ (by kernel_rfl) g
def hH.t(Y:aD)(a:M→Nat→Nat→M→Nat→Nat→Int→Int→Int→U→Prop):Nat→M→Nat→Nat→M→Nat→Nat→Int→Int→Int→Int→Int→U→Prop
 | 0=>fun _ _ _ _ _ _ _ _ _ _ _ _=>False
 | n+1=>fun b c d aJ aI aG e f g h i Z=>gK.t Y a (hH.t Y a n) b c d aJ aI aG e f g h i Z
theorem hH.ok(Y:aD)(a:M→Nat→Nat→M→Nat→Nat→Int→Int→Int→U→Prop)(X:Fr)(Z:U)(g:hH.g (fun b c d aJ aI aG e f h i j Z=>∃ n,hH.t Y a n b c d aJ aI aG e f h i j Z) X Z):den prog E (a3 aO [W,W,W,W,W,W,aT,aT,aT,W,aT,W,W,aT,W,aT]) (a1.inBlock 4 (a1.then (c8.g Y a) (a1.inBlock 3 (a1.then (cK.g a) (a1.inBlock 2 (a1.then (a0.g Y) (a8 E [.tmp 4] Y))))))) X Z:=by
 obtain⟨b,c,d,k,g⟩:=b4 g
 obtain⟨aJ,aI,aG,l,g⟩:=b4 g
 obtain⟨e,m,g⟩:=bN g
 obtain⟨f,o,g⟩:=bN g
 obtain⟨h,p,g⟩:=bN g
 obtain⟨i,q,g⟩:=bN g
 obtain⟨j,r,g⟩:=bN g
 obtain⟨n,g⟩:=g
 refine fK (fun n=>hH.g (hH.t Y a n)) (L:=(a3 aO [W,W,W,W,W,W,aT,aT,aT,W,aT,W,W,aT,W,aT,aT])) (by kernel_rfl) (fun X Z g=>?_) (fun n=>gK.ok Y a (hH.t Y a n)) n X Z (bE k (bE l (bQ m (bQ o (bQ p (bQ q (bQ r (g))))))))
 obtain⟨b,c,d,k,g⟩:=b4 g
 obtain⟨aJ,aI,aG,l,g⟩:=b4 g
 obtain⟨e,m,g⟩:=bN g
 obtain⟨f,o,g⟩:=bN g
 obtain⟨h,p,g⟩:=bN g
 obtain⟨i,q,g⟩:=bN g
 obtain⟨j,r,g⟩:=bN g
 exact g
theorem yJ.ok(Y:aD)(a:M→Nat→Nat→M→Nat→Nat→Int→Int→Int→U→Prop)(X:Fr)(Z:U)(g:hH.g (fun b c d aJ aI aG e f h i j Z=>∃ n,hH.t Y a n b c d aJ aI aG e f h i j Z) X Z):den prog E (a3 aO [W,W,W,W,W,W,aT,aT,aT,W,aT,W,W,aT,W]) (a1.then (c8.g Y a) (a1.inBlock 3 (a1.then (cK.g a) (a1.inBlock 2 (a1.then (a0.g Y) (a8 E [.tmp 4] Y)))))) X Z:=
 fC (by kernel_rfl) (hH.ok Y a X Z g)
def e0.t(Y:aD)(a:M→Nat→Nat→M→Nat→Nat→Int→Int→Int→U→Prop)(b:M)(c d:Nat)(aJ:M)(aI aG:Nat)(e f:Int)(g h:Int)(Z:U):Prop:=
 (∃ n,hH.t Y a n b c d aJ aI aG e f g h 0 Z)
def e0.g(Y:aD)(a:M→Nat→Nat→M→Nat→Nat→Int→Int→Int→U→Prop)(X:Fr)(Z:U):Prop:=aQ (X 0) fun b c d=>aQ (X 1) fun aJ aI aG=>aW .i64 (X 5) fun e=>aW .u64 (X 7) fun f=>aW .u64 (X 8) fun h=>aW .u64 (X 9) fun i=>e0.t Y a b c d aJ aI aG e f h i Z
theorem e0.ok(Y:aD)(a:M→Nat→Nat→M→Nat→Nat→Int→Int→Int→U→Prop)(X:Fr)(Z:U)(g:e0.g Y a X Z):den prog E (a3 aO [W,W,W,W,W,W,aT,aT,aT,W,aT,W,W,aT]) (a1.then (c8.g Y a) (a1.inBlock 3 (a1.then (cK.g a) (a1.inBlock 2 (a1.then (a0.g Y) (a8 E [.tmp 4] Y)))))) X Z:=
 bD g fun b c d e g=>bD g fun aJ aI aG f g=>bB g fun h i g=>bB g fun j k g=>bB g fun l m g=>bB g fun n o g=>c4 1 (r:=(a3 aO [W,W,W,W,W,W,aT,aT,aT,W,aT,W,W,aT,W])) (by kernel_rfl) (yJ.ok Y a) (bS [(0,.slice b c d),(1,.slice aJ aI aG),(5,.int .i64 h),(7,.int .u64 j),(8,.int .u64 l),(9,.int .u64 n)] ⟨e,f,i,k,m,o,trivial⟩ (by kernel_rfl) g)
theorem yK.ok(Y:aD)(a:M→Nat→Nat→M→Nat→Nat→Int→Int→Int→U→Prop)(X:Fr)(Z:U)(g:e0.g Y a X Z):den prog E (a3 aO [W,W,W,W,W,W,aT,aT,aT,W,aT,W,W]) (a1.inBlock 3 (a1.then (cK.g a) (a1.inBlock 2 (a1.then (a0.g Y) (a8 E [.tmp 4] Y))))) X Z:=
 gA (by kernel_rfl) (c8.ok Y a) (e0.ok Y a X Z g)
def b7.t(Y:aD)(a:M→Nat→Nat→M→Nat→Nat→Int→Int→Int→U→Prop)(b:M)(c d:Nat)(aJ:M)(aI aG:Nat)(e f g:Int)(Z:U):Prop:=
 a5 (IntKind.u64.wrap (f - 1)) fun f=>e0.t Y a b c d aJ aI aG e f 0 g Z
def b7.g(Y:aD)(a:M→Nat→Nat→M→Nat→Nat→Int→Int→Int→U→Prop)(X:Fr)(Z:U):Prop:=aQ (X 0) fun b c d=>aQ (X 1) fun aJ aI aG=>aW .i64 (X 5) fun e=>aW .u64 (X 7) fun f=>aW .u64 (X 9) fun h=>b7.t Y a b c d aJ aI aG e f h Z
theorem b7.ok(Y:aD)(a:M→Nat→Nat→M→Nat→Nat→Int→Int→Int→U→Prop)(X:Fr)(Z:U)(g:b7.g Y a X Z):den prog E (a3 aO [W,W,W,W,W,W,aT,aT,aT,W,aT]) (a1.inBlock 3 (a1.then (cK.g a) (a1.inBlock 2 (a1.then (a0.g Y) (a8 E [.tmp 4] Y))))) X Z:=
 bD g fun b c d e g=>bD g fun aJ aI aG f g=>bB g fun h i g=>bB g fun j k g=>bB g fun l m g=>c4 2 (r:=(a3 aO [W,W,W,W,W,W,aT,aT,aT,W,aT,W,W])) (by kernel_rfl) (yK.ok Y a) (bS [(0,.slice b c d),(1,.slice aJ aI aG),(5,.int .i64 h),(7,.int .u64 j),(9,.int .u64 l)] ⟨e,f,i,k,m,trivial⟩ (by kernel_rfl) g)
theorem o9.ok(Y:aD)(a:M→Nat→Nat→M→Nat→Nat→Int→Int→Int→U→Prop)(X:Fr)(Z:U)(g:b7.g Y a X Z):den prog E (a3 aO [W,W,W,W,W,W,aT,aT,aT,W]) (a1.then (cK.g a) (a1.inBlock 2 (a1.then (a0.g Y) (a8 E [.tmp 4] Y)))) X Z:=
 fC (by kernel_rfl) (b7.ok Y a X Z g)
def cE.t(Y:aD)(a:M→Nat→Nat→M→Nat→Nat→Int→Int→Int→U→Prop)(b:M)(c d:Nat)(aJ:M)(aI aG:Nat)(e f g:Int)(Z:U):Prop:=
 cond (decide (g > 0)) (b7.t Y a b c d aJ aI aG e f g Z) (a0.t Y f Z)
def cE.g(Y:aD)(a:M→Nat→Nat→M→Nat→Nat→Int→Int→Int→U→Prop)(X:Fr)(Z:U):Prop:=aQ (X 0) fun b c d=>aQ (X 1) fun aJ aI aG=>aW .i64 (X 5) fun e=>aW .u64 (X 7) fun f=>aW .u64 (X 9) fun h=>cE.t Y a b c d aJ aI aG e f h Z
theorem cE.ok(Y:aD)(a:M→Nat→Nat→M→Nat→Nat→Int→Int→Int→U→Prop)(X:Fr)(Z:U)(g:cE.g Y a X Z):den prog E (a3 aO [W,W,W,W,W,W,aT,aT,aT]) (a1.then (cK.g a) (a1.inBlock 2 (a1.then (a0.g Y) (a8 E [.tmp 4] Y)))) X Z:=
 bD g fun b c d e g=>bD g fun aJ aI aG f g=>bB g fun h i g=>bB g fun j k g=>bB g fun l m g=>c4 1 (r:=(a3 aO [W,W,W,W,W,W,aT,aT,aT,W])) (by kernel_rfl) (o9.ok Y a) (bS [(0,.slice b c d),(1,.slice aJ aI aG),(5,.int .i64 h),(7,.int .u64 j),(9,.int .u64 l)] ⟨e,f,i,k,m,trivial⟩ (by kernel_rfl) g)
def cK.t(Y:aD):Nat→M→Nat→Nat→M→Nat→Nat→Int→Int→Int→U→Prop
 | 0=>fun _ _ _ _ _ _ _ _ _ _=>False
 | n+1=>fun a b c aJ aI aG d e f Z=>cE.t Y (cK.t Y n) a b c aJ aI aG d e f Z
theorem cK.ok(Y:aD)(X:Fr)(Z:U)(g:cK.g (fun a b c aJ aI aG d e f Z=>∃ n,cK.t Y n a b c aJ aI aG d e f Z) X Z):den prog E (a3 aO [W,W,W,W,W,W,aT,aT]) (a1.inBlock 2 (a1.then (a0.g Y) (a8 E [.tmp 4] Y))) X Z:=by
 obtain⟨a,b,c,h,g⟩:=b4 g
 obtain⟨aJ,aI,aG,i,g⟩:=b4 g
 obtain⟨d,j,g⟩:=bN g
 obtain⟨e,k,g⟩:=bN g
 obtain⟨f,l,g⟩:=bN g
 obtain⟨n,g⟩:=g
 refine fK (fun n=>cK.g (cK.t Y n)) (L:=(a3 aO [W,W,W,W,W,W,aT,aT,aT])) (by kernel_rfl) (fun X Z g=>?_) (fun n=>cE.ok Y (cK.t Y n)) n X Z (bE h (bE i (bQ j (bQ k (bQ l (g))))))
 obtain⟨a,b,c,h,g⟩:=b4 g
 obtain⟨aJ,aI,aG,i,g⟩:=b4 g
 obtain⟨d,j,g⟩:=bN g
 obtain⟨e,k,g⟩:=bN g
 obtain⟨f,l,g⟩:=bN g
 exact g
theorem O0.ok(Y:aD)(X:Fr)(Z:U)(g:cK.g (fun a b c aJ aI aG d e f Z=>∃ n,cK.t Y n a b c aJ aI aG d e f Z) X Z):den prog E (a3 aO [W,W,W,W,W,W,aT]) (a1.then (a0.g Y) (a8 E [.tmp 4] Y)) X Z:=
 fC (by kernel_rfl) (cK.ok Y X Z g)
theorem O1.ok(Y:aD)(X:Fr)(Z:U)(g:cK.g (fun a b c aJ aI aG d e f Z=>∃ n,cK.t Y n a b c aJ aI aG d e f Z) X Z):den prog E (a3 aO [W,W,W,W,W,W]) (a8 E [.tmp 4] Y) X Z:=
 gA (by kernel_rfl) (a0.ok Y) (O0.ok Y X Z g)
def kU.g(a:M→Nat→Nat→M→Nat→Nat→Int→Int→Int→Int→Int→U→Prop)(X:Fr)(Z:U):Prop:=aQ (X 0) fun b c d=>aQ (X 1) fun aJ aI aG=>aW .i64 (X 5) fun e=>aW .u64 (X 7) fun f=>aW .u64 (X 8) fun h=>aW .u64 (X 9) fun i=>aW .i64 (X 10) fun j=>a b c d aJ aI aG e f h i j Z
def rP.t(Y:aD)(a:M→Nat→Nat→M→Nat→Nat→Int→Int→Int→Int→Int→U→Prop)(b:M)(c d:Nat)(aJ:M)(aI aG:Nat)(e f:Int)(g h i:Int)(Z:U):Prop:=
 cond (decide (i≤e)) (cond (decide (i < e)) (c7 aJ aI i 1 fun j=>
 cY Z .u32 j fun j=>
 a5 (IntKind.u64.wrap j) fun j=>
 a5 (IntKind.u64.wrap (f*j)) fun j=>
 a5 (IntKind.u64.wrap (g+j)) fun j=>
 a5 (jE .u64 j 4294967295) fun k=>
 a5 (IntKind.u64.wrap (k+h)) fun k=>
 0≤(32:Int)∧a5 (g6 .u64 j 32) fun j=>
 c7 b c i 1 fun l=>
 cY Z .u32 l fun l=>
 a5 (IntKind.u64.wrap l) fun l=>
 cond (decide (l < k)) (a5 (IntKind.u64.wrap (l+4294967296)) fun m=>
 a5 (IntKind.u64.wrap (m - k)) fun m=>
 a5 (IntKind.u32.wrap m) fun m=>
 c7 b c i 1 fun o=>
 cC Z o (.int .u32 m) fun m=>
 a5 (IntKind.i64.wrap (i+1)) fun o=>
 a b c d aJ aI aG e f j 1 o m) (a5 (IntKind.u64.wrap (l - k)) fun k=>
 a5 (IntKind.u32.wrap k) fun k=>
 c7 b c i 1 fun l=>
 cC Z l (.int .u32 k) fun k=>
 a5 (IntKind.i64.wrap (i+1)) fun l=>
 a b c d aJ aI aG e f j 0 l k)) (a5 (jE .u64 g 4294967295) fun j=>
 a5 (IntKind.u64.wrap (j+h)) fun j=>
 0≤(32:Int)∧a5 (g6 .u64 g 32) fun g=>
 c7 b c i 1 fun k=>
 cY Z .u32 k fun k=>
 a5 (IntKind.u64.wrap k) fun k=>
 cond (decide (k < j)) (a5 (IntKind.u64.wrap (k+4294967296)) fun l=>
 a5 (IntKind.u64.wrap (l - j)) fun l=>
 a5 (IntKind.u32.wrap l) fun l=>
 c7 b c i 1 fun m=>
 cC Z m (.int .u32 l) fun l=>
 a5 (IntKind.i64.wrap (i+1)) fun m=>
 a b c d aJ aI aG e f g 1 m l) (a5 (IntKind.u64.wrap (k - j)) fun j=>
 a5 (IntKind.u32.wrap j) fun j=>
 c7 b c i 1 fun k=>
 cC Z k (.int .u32 j) fun j=>
 a5 (IntKind.i64.wrap (i+1)) fun i=>
 a b c d aJ aI aG e f g 0 i j))) ((∃ n,cK.t Y n b c d aJ aI aG e f h Z))
def rP.g(Y:aD)(a:M→Nat→Nat→M→Nat→Nat→Int→Int→Int→Int→Int→U→Prop)(X:Fr)(Z:U):Prop:=aQ (X 0) fun b c d=>aQ (X 1) fun aJ aI aG=>aW .i64 (X 5) fun e=>aW .u64 (X 7) fun f=>aW .u64 (X 8) fun h=>aW .u64 (X 9) fun i=>aW .i64 (X 10) fun j=>rP.t Y a b c d aJ aI aG e f h i j Z
theorem rP.ok(Y:aD)(a:M→Nat→Nat→M→Nat→Nat→Int→Int→Int→Int→Int→U→Prop)(X:Fr)(Z:U)(g:rP.g Y a X Z):den prog E (a3 aO [W,W,W,W,W,aT,W,aT,aT]) (a1.then (kU.g a) (a1.inBlock 0 (a1.then (cK.g (fun a b c aJ aI aG d e f Z=>∃ n,cK.t Y n a b c aJ aI aG d e f Z)) (a8 E [.tmp 4] Y)))) X Z:=
 bD g fun a b c h g=>bD g fun aJ aI aG i g=>bB g fun d j g=>bB g fun e k g=>bB g fun l m g=>bB g fun f o g=>bB g fun p q g=>bS [(0,.slice a b c),(1,.slice aJ aI aG),(5,.int .i64 d),(7,.int .u64 e),(8,.int .u64 l),(9,.int .u64 f),(10,.int .i64 p)] ⟨h,i,j,k,m,o,q,trivial⟩ (by kernel_rfl) g
def kU.t(Y:aD):Nat→M→Nat→Nat→M→Nat→Nat→Int→Int→Int→Int→Int→U→Prop
 | 0=>fun _ _ _ _ _ _ _ _ _ _ _ _=>False
 | n+1=>fun a b c aJ aI aG d e f g h Z=>rP.t Y (kU.t Y n) a b c aJ aI aG d e f g h Z
theorem kU.ok(Y:aD)(X:Fr)(Z:U)(g:kU.g (fun a b c aJ aI aG d e h f i Z=>∃ n,kU.t Y n a b c aJ aI aG d e h f i Z) X Z):den prog E (a3 aO [W,W,W,W,W,aT,W,aT]) (a1.inBlock 0 (a1.then (cK.g (fun a b c aJ aI aG d e f Z=>∃ n,cK.t Y n a b c aJ aI aG d e f Z)) (a8 E [.tmp 4] Y))) X Z:=by
 obtain⟨a,b,c,j,g⟩:=b4 g
 obtain⟨aJ,aI,aG,k,g⟩:=b4 g
 obtain⟨d,l,g⟩:=bN g
 obtain⟨e,m,g⟩:=bN g
 obtain⟨h,o,g⟩:=bN g
 obtain⟨f,p,g⟩:=bN g
 obtain⟨i,q,g⟩:=bN g
 obtain⟨n,g⟩:=g
 refine fK (fun n=>kU.g (kU.t Y n)) (L:=(a3 aO [W,W,W,W,W,aT,W,aT,aT])) (by kernel_rfl) (fun X Z g=>?_) (fun n=>rP.ok Y (kU.t Y n)) n X Z (bE j (bE k (bQ l (bQ m (bQ o (bQ p (bQ q (g))))))))
 obtain⟨a,b,c,j,g⟩:=b4 g
 obtain⟨aJ,aI,aG,k,g⟩:=b4 g
 obtain⟨d,l,g⟩:=bN g
 obtain⟨e,m,g⟩:=bN g
 obtain⟨h,o,g⟩:=bN g
 obtain⟨f,p,g⟩:=bN g
 obtain⟨i,q,g⟩:=bN g
 exact g
theorem O2.ok(Y:aD)(X:Fr)(Z:U)(g:kU.g (fun a b c aJ aI aG d e f h i Z=>∃ n,kU.t Y n a b c aJ aI aG d e f h i Z) X Z):den prog E (a3 aO [W,W,W,W,W,aT,W]) (a1.then (cK.g (fun a b c aJ aI aG d e h Z=>∃ n,cK.t Y n a b c aJ aI aG d e h Z)) (a8 E [.tmp 4] Y)) X Z:=
 fC (by kernel_rfl) (kU.ok Y X Z g)
def rQ.t(Y:aD)(a:M)(b c:Nat)(aJ:M)(aI aG:Nat)(d e:Int)(f g:Int)(Z:U):Prop:=
 (∃ n,kU.t Y n a b c aJ aI aG d e f g 0 Z)
def rQ.g(Y:aD)(X:Fr)(Z:U):Prop:=aQ (X 0) fun a b c=>aQ (X 1) fun aJ aI aG=>aW .i64 (X 5) fun d=>aW .u64 (X 7) fun e=>aW .u64 (X 8) fun f=>aW .u64 (X 9) fun h=>rQ.t Y a b c aJ aI aG d e f h Z
theorem rQ.ok(Y:aD)(X:Fr)(Z:U)(g:rQ.g Y X Z):den prog E (a3 aO [W,W,W,W,W,aT]) (a1.then (cK.g (fun a b c aJ aI aG d e f Z=>∃ n,cK.t Y n a b c aJ aI aG d e f Z)) (a8 E [.tmp 4] Y)) X Z:=
 bD g fun a b c h g=>bD g fun aJ aI aG i g=>bB g fun d j g=>bB g fun e k g=>bB g fun l m g=>bB g fun f o g=>c4 1 (r:=(a3 aO [W,W,W,W,W,aT,W])) (by kernel_rfl) (O2.ok Y) (bS [(0,.slice a b c),(1,.slice aJ aI aG),(5,.int .i64 d),(7,.int .u64 e),(8,.int .u64 l),(9,.int .u64 f)] ⟨h,i,j,k,m,o,trivial⟩ (by kernel_rfl) g)
theorem O3.ok(Y:aD)(X:Fr)(Z:U)(g:rQ.g Y X Z):den prog E (a3 aO [W,W,W,W,W]) (a8 E [.tmp 4] Y) X Z:=
 gA (by kernel_rfl) (O1.ok Y) (rQ.ok Y X Z g)
def aL.t(Y:aD)(a:M)(b c:Nat)(aJ:M)(aI aG:Nat)(Z:U):Prop:=
 c7 a b (((aI:Nat):Int)) 1 fun b8=>
 cY Z .u32 b8 fun d=>
 a5 (IntKind.u64.wrap d) fun d=>
 0≤(32:Int)∧a5 (h4 .u64 d 32) fun d=>
 a5 (IntKind.i64.wrap ((((aI:Nat):Int)) - 1)) fun e=>
 c7 a b e 1 fun e=>
 cY Z .u32 e fun e=>
 a5 (IntKind.u64.wrap e) fun e=>
 a5 (IntKind.u64.wrap (d+e)) fun d=>
 a5 (IntKind.i64.wrap ((((aI:Nat):Int)) - 1)) fun e=>
 c7 aJ aI e 1 fun e=>
 cY Z .u32 e fun e=>
 a5 (IntKind.u64.wrap e) fun e=>
 e ≠ 0∧a5 (IntKind.u64.wrap (Int.tdiv d e)) fun d=>
 rQ.t Y a b c aJ aI aG (((aI:Nat):Int)) (if 4294967295 < d then 4294967295 else d) 0 0 Z
def aL.g(Y:aD)(X:Fr)(Z:U):Prop:=aQ (X 0) fun a b c=>aQ (X 1) fun aJ aI aG=>aL.t Y a b c aJ aI aG Z
theorem aL.ok(Y:aD)(X:Fr)(Z:U)(g:aL.g Y X Z):den prog E aO (a8 E [.tmp 4] Y) X Z:=
 bD g fun a b c d g=>bD g fun aJ aI aG e g=>c4 5 (r:=(a3 aO [W,W,W,W,W])) (by kernel_rfl) (O3.ok Y) (bS [(0,.slice a b c),(1,.slice aJ aI aG)] ⟨d,e,trivial⟩ (by kernel_rfl) g)
def t(a:M)(b c:Nat)(aJ:M)(aI aG:Nat)(Z:U)(Y:aD):Prop:=aL.t Y a b c aJ aI aG Z
theorem ok{a:M}{b:Nat}{d:Nat}{aJ:M}{aI:Nat}{aG:Nat}{Z:U}{Y:aD}(g:t a b d aJ aI aG Z Y):aY id #[.slice a b d,.slice aJ aI aG] Z Y:=
 dL dI (c:=aO) (dC:=[.tmp 4]) Tryz.func99 (by kernel_rfl) (by kernel_rfl) (by kernel_rfl) (args:=[.slice a b d,.slice aJ aI aG]) (by kernel_rfl) (aL.ok Y _ Z (bE rfl (bE rfl (g))))
end hO
end Go.Proofs.YtjijdlkpmngolaaGreat.G
