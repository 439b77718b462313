import Derived.Test.YtjijdlkpmngolaaGreatKE
set_option linter.unusedVariables false
namespace Go.Proofs.YtjijdlkpmngolaaGreat.G
open Go.Gv
set_option linter.unusedVariables false
set_option maxRecDepth 100000
namespace mN
noncomputable def aO:Code:=dK Tryz.f100
def aL.t(Y:aD)(a:Bool)(b:M)(c d:Nat)(Z:U):Prop:=
 dN Z 82 [.bool a,.slice b c d] fun b8 a=>
 dN a 82 h3.a6 fun a b=>
 eN b (b8.add 0) fun c=>
 dO b (b8.add 1) fun d e f=>
 aY fR.id #[.bool (!c),.slice d e f] b fun b fM=>
 eG b fun b=>
 fH b fun b c=>
 cP c fun c d e f=>
 b5 f <| cC fM (a.add 0) (.bool b) fun b=>
 cC b (a.add 1) (.slice c d e) fun b=>
 eN b (a.add 0) fun c=>
 dO b (a.add 1) fun a d e=>
 Y (.agg #[.bool c,.slice a d e]) b
def aL.g(Y:aD)(X:Fr)(Z:U):Prop:=eG (X 0) fun a=>cQ a fun a b=>eS a fun a=>cQ b fun b c=>aQ b fun b d e=>b5 c <| aL.t Y a b d e Z
theorem aL.ok(Y:aD)(X:Fr)(Z:U)(g:aL.g Y X Z):den prog E aO (a8 E [.cell 2 82] Y) X Z:=by
 obtain⟨l,a,b⟩:=iJ g
 obtain⟨m,n,rfl,c⟩:=e7 b
 obtain⟨d,rfl,e⟩:=iP c
 obtain⟨o,p,rfl,f⟩:=e7 e
 obtain⟨h,i,j,rfl,k⟩:=b4 f
 obtain⟨rfl,g⟩:=hU k
 exact bS [(0,.agg #[.bool d,.slice h i j])] ⟨a,trivial⟩ (by kernel_rfl) g
def t(a:Bool)(b:M)(c d:Nat)(Z:U)(Y:aD):Prop:=aL.t Y a b c d Z
theorem ok{a:Bool}{b:M}{d:Nat}{e:Nat}{Z:U}{Y:aD}(g:t a b d e Z Y):aY id #[.agg #[.bool a,.slice b d e]] Z Y:=
 dL dI (c:=aO) (dC:=[.cell 2 82]) Tryz.func100 (by kernel_rfl) (by kernel_rfl) (by kernel_rfl) (args:=[.agg #[.bool a,.slice b d e]]) (by kernel_rfl) (aL.ok Y _ Z (e5 rfl (cF (c5 rfl (cF (bE rfl (dR (g))))))))
end mN
namespace n9
noncomputable def aO:Code:=dK Tryz.f101
def aL.t(Y:aD)(a:Bool)(b:M)(c d:Nat)(e:Bool)(f:M)(g h:Nat)(Z:U):Prop:=
 dN Z 82 [.bool a,.slice b c d] fun b8 a=>
 dN a 82 [.bool e,.slice f g h] fun a b=>
 dN b 82 h3.a6 fun b c=>
 eN c (b8.add 0) fun d=>
 dO c (b8.add 1) fun e f g=>
 eN c (a.add 0) fun h=>
 dO c (a.add 1) fun i j k=>
 aY n7.id #[.agg #[.bool d,.slice e f g],.agg #[.bool h,.slice i j k]] c fun c d=>
 cT c fun c=>
 cQ c fun c e=>
 eG c fun c=>
 fH c fun c f=>
 cP f fun f g h i=>
 b5 i <| cQ e fun e i=>
 eG e fun e=>
 fH e fun e j=>
 cP j fun j k l m=>
 b5 m <| b5 i <| dN d 82 h3.a6 fun d i=>
 dN i 82 h3.a6 fun i m=>
 cC m (d.add 0) (.bool c) fun c=>
 cC c (d.add 1) (.slice f g h) fun c=>
 cC c (i.add 0) (.bool e) fun c=>
 cC c (i.add 1) (.slice j k l) fun c=>
 i.block < c.size∧eN c (i.add 0) fun e=>
 dO c (i.add 1) fun f g h=>
 aY k4.id #[.agg #[.bool e,.slice f g h],.int .i64 1] c fun e f=>
 eG e fun e=>
 fH e fun e g=>
 cP g fun g h i j=>
 b5 j <| (eT c.size c f)∧a.block < c.size∧eN f (a.add 0) fun j=>
 dO f (a.add 1) fun a k l=>
 aY lY.id #[.agg #[.bool e,.slice g h i],.agg #[.bool j,.slice a k l]] f fun a e=>
 aW .i64 a fun a=>
 (eT c.size f e)∧cond (decide (a > 0)) (d.block < e.size∧eN e (d.add 0) fun c=>
 dO e (d.add 1) fun f g h=>
 aY nI.id #[.int .i64 1] e fun i j=>
 eG i fun i=>
 fH i fun i k=>
 cP k fun k l m n=>
 b5 n <| (eT e.size e j)∧aY lJ.id #[.agg #[.bool c,.slice f g h],.agg #[.bool i,.slice k l m]] j fun c f=>
 eG c fun c=>
 fH c fun c g=>
 cP g fun g h i k=>
 b5 k <| (eT e.size j f)∧cC f (b.add 0) (.bool c) fun c=>
 cC c (b.add 1) (.slice g h i) fun c=>
 eN c (b.add 0) fun f=>
 dO c (b.add 1) fun g h i=>
 Y (.agg #[.bool f,.slice g h i]) c) (cond (a == 0) (eN e (d.add 0) fun a=>
 dO e (d.add 1) fun c f g=>
 aY n8.id #[.agg #[.bool a,.slice c f g]] e fun a c=>
 eS a fun a=>
 cond (!a) (d.block < c.size∧eN c (d.add 0) fun a=>
 dO c (d.add 1) fun f g h=>
 aY nI.id #[.int .i64 1] c fun i j=>
 eG i fun i=>
 fH i fun i k=>
 cP k fun k l m n=>
 b5 n <| (eT c.size c j)∧aY lJ.id #[.agg #[.bool a,.slice f g h],.agg #[.bool i,.slice k l m]] j fun a f=>
 eG a fun a=>
 fH a fun a g=>
 cP g fun g h i k=>
 b5 k <| (eT c.size j f)∧cC f (b.add 0) (.bool a) fun a=>
 cC a (b.add 1) (.slice g h i) fun a=>
 eN a (b.add 0) fun f=>
 dO a (b.add 1) fun g h i=>
 Y (.agg #[.bool f,.slice g h i]) a) (eN c (d.add 0) fun a=>
 dO c (d.add 1) fun f g h=>
 cC c (b.add 0) (.bool a) fun a=>
 cC a (b.add 1) (.slice f g h) fun a=>
 eN a (b.add 0) fun c=>
 dO a (b.add 1) fun f g h=>
 Y (.agg #[.bool c,.slice f g h]) a)) (eN e (d.add 0) fun a=>
 dO e (d.add 1) fun c d f=>
 cC e (b.add 0) (.bool a) fun a=>
 cC a (b.add 1) (.slice c d f) fun a=>
 eN a (b.add 0) fun c=>
 dO a (b.add 1) fun b d e=>
 Y (.agg #[.bool c,.slice b d e]) a))
def aL.g(Y:aD)(X:Fr)(Z:U):Prop:=eG (X 0) fun a=>cQ a fun a b=>eS a fun a=>cQ b fun b c=>aQ b fun b d e=>b5 c <| eG (X 1) fun c=>cQ c fun c f=>eS c fun c=>cQ f fun f h=>aQ f fun f i j=>b5 h <| aL.t Y a b d e c f i j Z
theorem aL.ok(Y:aD)(X:Fr)(Z:U)(g:aL.g Y X Z):den prog E aO (a8 E [.cell 4 82] Y) X Z:=by
 obtain⟨v,a,b⟩:=iJ g
 obtain⟨w,x,rfl,c⟩:=e7 b
 obtain⟨d,rfl,e⟩:=iP c
 obtain⟨y,z,rfl,f⟩:=e7 e
 obtain⟨h,i,j,rfl,k⟩:=b4 f
 obtain⟨rfl,g⟩:=hU k
 obtain⟨A,l,m⟩:=iJ g
 obtain⟨B,C,rfl,n⟩:=e7 m
 obtain⟨o,rfl,p⟩:=iP n
 obtain⟨D,F,rfl,q⟩:=e7 p
 obtain⟨r,s,t,rfl,u⟩:=b4 q
 obtain⟨rfl,g⟩:=hU u
 exact bS [(0,.agg #[.bool d,.slice h i j]),(1,.agg #[.bool o,.slice r s t])] ⟨a,l,trivial⟩ (by kernel_rfl) g
def t(a:Bool)(b:M)(c d:Nat)(e:Bool)(f:M)(g h:Nat)(Z:U)(Y:aD):Prop:=aL.t Y a b c d e f g h Z
theorem ok{a:Bool}{b:M}{d:Nat}{e:Nat}{f:Bool}{h:M}{i:Nat}{j:Nat}{Z:U}{Y:aD}(g:t a b d e f h i j Z Y):aY id #[.agg #[.bool a,.slice b d e],.agg #[.bool f,.slice h i j]] Z Y:=
 dL dI (c:=aO) (dC:=[.cell 4 82]) Tryz.func101 (by kernel_rfl) (by kernel_rfl) (by kernel_rfl) (args:=[.agg #[.bool a,.slice b d e],.agg #[.bool f,.slice h i j]]) (by kernel_rfl) (aL.ok Y _ Z (e5 rfl (cF (c5 rfl (cF (bE rfl (dR (e5 rfl (cF (c5 rfl (cF (bE rfl (dR (g))))))))))))))
end n9
namespace nI
noncomputable def aO:Code:=dK Tryz.f102
def aL.t(Y:aD)(aS:Int)(Z:U):Prop:=
 dN Z 82 h3.a6 fun b8 a=>
 cond (decide (aS < 0)) (a5 (IntKind.i64.wrap (aS+1)) fun b=>
 a5 (IntKind.i64.wrap (0 - b)) fun b=>
 a5 (IntKind.u64.wrap b) fun b=>
 aY gF.id #[.int .u64 b] a fun b c=>
 aQ b fun b d e=>
 aY gF.id #[.int .u64 1] c fun c fM=>
 aQ c fun c f g=>
 aY gS.id #[.slice b d e,.slice c f g] fM fun b c=>
 aQ b fun b d e=>
 aY fR.id #[.bool true,.slice b d e] c fun b c=>
 eG b fun b=>
 fH b fun b d=>
 cP d fun d e f g=>
 b5 g <| cC c (b8.add 0) (.bool b) fun b=>
 cC b (b8.add 1) (.slice d e f) fun b=>
 eN b (b8.add 0) fun c=>
 dO b (b8.add 1) fun d e f=>
 Y (.agg #[.bool c,.slice d e f]) b) (a5 (IntKind.u64.wrap aS) fun b=>
 aY gF.id #[.int .u64 b] a fun a b=>
 aQ a fun a c d=>
 aY fR.id #[.bool false,.slice a c d] b fun a b=>
 eG a fun a=>
 fH a fun a c=>
 cP c fun c d e f=>
 b5 f <| cC b (b8.add 0) (.bool a) fun a=>
 cC a (b8.add 1) (.slice c d e) fun a=>
 eN a (b8.add 0) fun b=>
 dO a (b8.add 1) fun c d e=>
 Y (.agg #[.bool b,.slice c d e]) a)
def aL.g(Y:aD)(X:Fr)(Z:U):Prop:=aW .i64 (X 0) fun aS=>aL.t Y aS Z
theorem aL.ok(Y:aD)(X:Fr)(Z:U)(g:aL.g Y X Z):den prog E aO (a8 E [.cell 2 82] Y) X Z:=
 bB g fun aS a g=>bS [(0,.int .i64 aS)] ⟨a,trivial⟩ (by kernel_rfl) g
def t(aS:Int)(Z:U)(Y:aD):Prop:=aL.t Y aS Z
theorem ok{aS:Int}{Z:U}{Y:aD}(g:t aS Z Y):aY id #[.int .i64 aS] Z Y:=
 dL dI (c:=aO) (dC:=[.cell 2 82]) Tryz.func102 (by kernel_rfl) (by kernel_rfl) (by kernel_rfl) (args:=[.int .i64 aS]) (by kernel_rfl) (aL.ok Y _ Z (bQ rfl (g)))
end nI
namespace lJ
noncomputable def aO:Code:=dK Tryz.f103
def aL.t(Y:aD)(a:Bool)(b:M)(c d:Nat)(e:Bool)(f:M)(g h:Nat)(Z:U):Prop:=
 dN Z 82 [.bool a,.slice b c d] fun b8 a=>
 dN a 82 [.bool e,.slice f g h] fun a b=>
 dN b 82 h3.a6 fun b c=>
 eN c (b8.add 0) fun d=>
 eN c (a.add 0) fun e=>
 cond (d == e) ((b8.add 0).block < c.size∧eN c (b8.add 0) fun d=>
 (b8.add 1).block < c.size∧dO c (b8.add 1) fun e f g=>
 (a.add 1).block < c.size∧dO c (a.add 1) fun h i j=>
 aY gS.id #[.slice e f g,.slice h i j] c fun e f=>
 aQ e fun e g h=>
 (eT c.size c f)∧aY fR.id #[.bool d,.slice e g h] f fun d e=>
 eG d fun d=>
 fH d fun d g=>
 cP g fun g h i j=>
 b5 j <| (eT c.size f e)∧cC e (b.add 0) (.bool d) fun d=>
 cC d (b.add 1) (.slice g h i) fun d=>
 eN d (b.add 0) fun e=>
 dO d (b.add 1) fun f g h=>
 Y (.agg #[.bool e,.slice f g h]) d) (dO c (b8.add 1) fun d e f=>
 dO c (a.add 1) fun g h i=>
 aY hZ.id #[.slice d e f,.slice g h i] c fun c d=>
 aW .i64 c fun c=>
 cond (decide (c≥0)) ((b8.add 0).block < d.size∧eN d (b8.add 0) fun c=>
 (b8.add 1).block < d.size∧dO d (b8.add 1) fun e f g=>
 (a.add 1).block < d.size∧dO d (a.add 1) fun h i j=>
 aY g1.id #[.slice e f g,.slice h i j] d fun e f=>
 aQ e fun e g h=>
 (eT d.size d f)∧aY fR.id #[.bool c,.slice e g h] f fun c e=>
 eG c fun c=>
 fH c fun c g=>
 cP g fun g h i j=>
 b5 j <| (eT d.size f e)∧cC e (b.add 0) (.bool c) fun c=>
 cC c (b.add 1) (.slice g h i) fun c=>
 eN c (b.add 0) fun e=>
 dO c (b.add 1) fun f g h=>
 Y (.agg #[.bool e,.slice f g h]) c) ((a.add 0).block < d.size∧eN d (a.add 0) fun c=>
 (a.add 1).block < d.size∧dO d (a.add 1) fun a e f=>
 (b8.add 1).block < d.size∧dO d (b8.add 1) fun g h i=>
 aY g1.id #[.slice a e f,.slice g h i] d fun a e=>
 aQ a fun a f g=>
 (eT d.size d e)∧aY fR.id #[.bool c,.slice a f g] e fun a c=>
 eG a fun a=>
 fH a fun a f=>
 cP f fun f g h i=>
 b5 i <| (eT d.size e c)∧cC c (b.add 0) (.bool a) fun a=>
 cC a (b.add 1) (.slice f g h) fun a=>
 eN a (b.add 0) fun c=>
 dO a (b.add 1) fun b d e=>
 Y (.agg #[.bool c,.slice b d e]) a))
def aL.g(Y:aD)(X:Fr)(Z:U):Prop:=eG (X 0) fun a=>cQ a fun a b=>eS a fun a=>cQ b fun b c=>aQ b fun b d e=>b5 c <| eG (X 1) fun c=>cQ c fun c f=>eS c fun c=>cQ f fun f h=>aQ f fun f i j=>b5 h <| aL.t Y a b d e c f i j Z
theorem aL.ok(Y:aD)(X:Fr)(Z:U)(g:aL.g Y X Z):den prog E aO (a8 E [.cell 4 82] Y) X Z:=by
 obtain⟨v,a,b⟩:=iJ g
 obtain⟨w,x,rfl,c⟩:=e7 b
 obtain⟨d,rfl,e⟩:=iP c
 obtain⟨y,z,rfl,f⟩:=e7 e
 obtain⟨h,i,j,rfl,k⟩:=b4 f
 obtain⟨rfl,g⟩:=hU k
 obtain⟨A,l,m⟩:=iJ g
 obtain⟨B,C,rfl,n⟩:=e7 m
 obtain⟨o,rfl,p⟩:=iP n
 obtain⟨D,F,rfl,q⟩:=e7 p
 obtain⟨r,s,t,rfl,u⟩:=b4 q
 obtain⟨rfl,g⟩:=hU u
 exact bS [(0,.agg #[.bool d,.slice h i j]),(1,.agg #[.bool o,.slice r s t])] ⟨a,l,trivial⟩ (by kernel_rfl) g
def t(a:Bool)(b:M)(c d:Nat)(e:Bool)(f:M)(g h:Nat)(Z:U)(Y:aD):Prop:=aL.t Y a b c d e f g h Z
theorem ok{a:Bool}{b:M}{d:Nat}{e:Nat}{f:Bool}{h:M}{i:Nat}{j:Nat}{Z:U}{Y:aD}(g:t a b d e f h i j Z Y):aY id #[.agg #[.bool a,.slice b d e],.agg #[.bool f,.slice h i j]] Z Y:=
 dL dI (c:=aO) (dC:=[.cell 4 82]) Tryz.func103 (by kernel_rfl) (by kernel_rfl) (by kernel_rfl) (args:=[.agg #[.bool a,.slice b d e],.agg #[.bool f,.slice h i j]]) (by kernel_rfl) (aL.ok Y _ Z (e5 rfl (cF (c5 rfl (cF (bE rfl (dR (e5 rfl (cF (c5 rfl (cF (bE rfl (dR (g))))))))))))))
end lJ
namespace mQ
noncomputable def aO:Code:=dK Tryz.f105
def a0.t(Y:aD)(bR:M)(a bT:Nat)(b:M)(c d:Nat)(e:Int)(Z:U):Prop:=
 aY jS.id #[.slice bR a bT,.slice b c d] Z fun a b=>
 cT a fun a=>
 cP a fun a c d f=>
 dJ f .i64 fun f f=>
 b5 f <| Y (.tuple #[.slice a c d,.int .u64 e]) b
def a0.g(Y:aD)(X:Fr)(Z:U):Prop:=aQ (X 8) fun bR a bT=>aQ (X 9) fun b c d=>aW .u64 (X 10) fun e=>a0.t Y bR a bT b c d e Z
theorem a0.ok(Y:aD)(X:Fr)(Z:U)(g:a0.g Y X Z):den prog E (a3 aO [W,W,W,W,W,W]) (a8 E [.tmp 4,.tmp 5] Y) X Z:=
 bD g fun bR a bT b g=>bD g fun c d e f g=>bB g fun h i g=>bS [(8,.slice bR a bT),(9,.slice c d e),(10,.int .u64 h)] ⟨b,f,i,trivial⟩ (by kernel_rfl) g
def bL.g(a:Int→M→Nat→Nat→M→Nat→Nat→M→Nat→Nat→Int→Int→U→Prop)(X:Fr)(Z:U):Prop:=aW .u64 (X 0) fun aS=>aQ (X 6) fun a7 b a9=>aQ (X 8) fun bR c bT=>aQ (X 9) fun d e f=>aW .u64 (X 10) fun h=>aW .u64 (X 11) fun i=>a aS a7 b a9 bR c bT d e f h i Z
def b7.t(Y:aD)(a:Int→M→Nat→Nat→M→Nat→Nat→M→Nat→Nat→Int→Int→U→Prop)(aS:Int)(a7:M)(b a9:Nat)(bR:M)(c bT:Nat)(d:M)(e f:Nat)(g h:Int)(Z:U):Prop:=
 cond (decide ((((b:Nat):Int)) > 0)) (aY j9.id #[.slice a7 b a9,.int .u64 h] Z fun i j=>
 cT i fun i=>
 cP i fun i k l m=>
 dJ m .u64 fun m m=>
 dJ m .i64 fun m m=>
 b5 m <| (4:Int) ≠ 0∧a5 (Int.tmod h 4) fun m=>
 cond (m == 1) (aY iZ.id #[.slice bR c bT,.slice i k l] j fun m n=>
 cT m fun m=>
 cP m fun m o p q=>
 dJ q .i64 fun q q=>
 b5 q <| aY qU.id #[.slice a7 b a9,.int .u64 aS] n fun n q=>
 aQ n fun n r s=>
 a5 (IntKind.u64.wrap (g+3)) fun u=>
 a5 (IntKind.u64.wrap (h+2)) fun v=>
 a aS n r s m o p d e f u v q) (aY iZ.id #[.slice d e f,.slice i k l] j fun i j=>
 cT i fun i=>
 cP i fun i k l m=>
 dJ m .i64 fun m m=>
 b5 m <| aY qU.id #[.slice a7 b a9,.int .u64 aS] j fun b j=>
 aQ b fun b m n=>
 a5 (IntKind.u64.wrap (g+3)) fun o=>
 a5 (IntKind.u64.wrap (h+2)) fun h=>
 a aS b m n bR c bT i k l o h j)) (a0.t Y bR c bT d e f g Z)
def b7.g(Y:aD)(a:Int→M→Nat→Nat→M→Nat→Nat→M→Nat→Nat→Int→Int→U→Prop)(X:Fr)(Z:U):Prop:=aW .u64 (X 0) fun aS=>aQ (X 6) fun a7 b a9=>aQ (X 8) fun bR c bT=>aQ (X 9) fun d e f=>aW .u64 (X 10) fun h=>aW .u64 (X 11) fun i=>b7.t Y a aS a7 b a9 bR c bT d e f h i Z
theorem b7.ok(Y:aD)(a:Int→M→Nat→Nat→M→Nat→Nat→M→Nat→Nat→Int→Int→U→Prop)(X:Fr)(Z:U)(g:b7.g Y a X Z):den prog E (a3 aO [W,W,W,W,W,aT,W,aT,aT]) (a1.then (bL.g a) (a1.inBlock 0 (a1.then (a0.g Y) (a8 E [.tmp 4,.tmp 5] Y)))) X Z:=
 bB g fun aS a g=>bD g fun a7 b a9 c g=>bD g fun bR d bT e g=>bD g fun f h i j g=>bB g fun k l g=>bB g fun m n g=>bS [(0,.int .u64 aS),(6,.slice a7 b a9),(8,.slice bR d bT),(9,.slice f h i),(10,.int .u64 k),(11,.int .u64 m)] ⟨a,c,e,j,l,n,trivial⟩ (by kernel_rfl) g
def bL.t(Y:aD):Nat→Int→M→Nat→Nat→M→Nat→Nat→M→Nat→Nat→Int→Int→U→Prop
 | 0=>fun _ _ _ _ _ _ _ _ _ _ _ _ _=>False
 | n+1=>fun aS a7 a a9 bR b bT c d e f g Z=>b7.t Y (bL.t Y n) aS a7 a a9 bR b bT c d e f g Z
theorem bL.ok(Y:aD)(X:Fr)(Z:U)(g:bL.g (fun aS a7 a a9 bR b bT c d e f h Z=>∃ n,bL.t Y n aS a7 a a9 bR b bT c d e f h Z) X Z):den prog E (a3 aO [W,W,W,W,W,aT,W,aT]) (a1.inBlock 0 (a1.then (a0.g Y) (a8 E [.tmp 4,.tmp 5] Y))) X Z:=by
 obtain⟨aS,i,g⟩:=bN g
 obtain⟨a7,a,a9,j,g⟩:=b4 g
 obtain⟨bR,b,bT,k,g⟩:=b4 g
 obtain⟨c,d,e,l,g⟩:=b4 g
 obtain⟨f,m,g⟩:=bN g
 obtain⟨h,o,g⟩:=bN g
 obtain⟨n,g⟩:=g
 refine fK (fun n=>bL.g (bL.t Y n)) (L:=(a3 aO [W,W,W,W,W,aT,W,aT,aT])) (by kernel_rfl) (fun X Z g=>?_) (fun n=>b7.ok Y (bL.t Y n)) n X Z (bQ i (bE j (bE k (bE l (bQ m (bQ o (g)))))))
 obtain⟨aS,i,g⟩:=bN g
 obtain⟨a7,a,a9,j,g⟩:=b4 g
 obtain⟨bR,b,bT,k,g⟩:=b4 g
 obtain⟨c,d,e,l,g⟩:=b4 g
 obtain⟨f,m,g⟩:=bN g
 obtain⟨h,o,g⟩:=bN g
 exact g
theorem g3.ok(Y:aD)(X:Fr)(Z:U)(g:bL.g (fun aS a7 a a9 bR b bT c d e f h Z=>∃ n,bL.t Y n aS a7 a a9 bR b bT c d e f h Z) X Z):den prog E (a3 aO [W,W,W,W,W,aT,W]) (a1.then (a0.g Y) (a8 E [.tmp 4,.tmp 5] Y)) X Z:=
 fC (by kernel_rfl) (bL.ok Y X Z g)
def bF.t(Y:aD)(aS:Int)(a7:M)(a a9:Nat)(bR:M)(b bT:Nat)(c:M)(d e:Nat)(f:Int)(Z:U):Prop:=
 (∃ n,bL.t Y n aS a7 a a9 bR b bT c d e f 1 Z)
def bF.g(Y:aD)(X:Fr)(Z:U):Prop:=aW .u64 (X 0) fun aS=>aQ (X 6) fun a7 a a9=>aQ (X 8) fun bR b bT=>aQ (X 9) fun c d e=>aW .u64 (X 10) fun f=>bF.t Y aS a7 a a9 bR b bT c d e f Z
theorem bF.ok(Y:aD)(X:Fr)(Z:U)(g:bF.g Y X Z):den prog E (a3 aO [W,W,W,W,W,aT]) (a1.then (a0.g Y) (a8 E [.tmp 4,.tmp 5] Y)) X Z:=
 bB g fun aS a g=>bD g fun a7 b a9 c g=>bD g fun bR d bT e g=>bD g fun f h i j g=>bB g fun k l g=>c4 1 (r:=(a3 aO [W,W,W,W,W,aT,W])) (by kernel_rfl) (g3.ok Y) (bS [(0,.int .u64 aS),(6,.slice a7 b a9),(8,.slice bR d bT),(9,.slice f h i),(10,.int .u64 k)] ⟨a,c,e,j,l,trivial⟩ (by kernel_rfl) g)
theorem g4.ok(Y:aD)(X:Fr)(Z:U)(g:bF.g Y X Z):den prog E (a3 aO [W,W,W,W,W]) (a8 E [.tmp 4,.tmp 5] Y) X Z:=
 gA (by kernel_rfl) (a0.ok Y) (bF.ok Y X Z g)
def aL.t(Y:aD)(aS aM:Int)(Z:U):Prop:=
 aY j8.id #[.int .u64 1] Z fun a b=>
 aQ a fun a c d=>
 aY kN.id #[.slice a c d,.int .i64 aM] b fun a b=>
 cT a fun a=>
 cP a fun a c d e=>
 dJ e .i64 fun e e=>
 b5 e <| aY j9.id #[.slice a c d,.int .u64 aS] b fun a b=>
 cT a fun a=>
 cP a fun a c d e=>
 dJ e .u64 fun e e=>
 dJ e .i64 fun e e=>
 b5 e <| dN b 35 [] fun b e=>
 dN e 35 [] fun e f=>
 bF.t Y aS a c d (some b) 0 0 (some e) 0 0 2 f
def aL.g(Y:aD)(X:Fr)(Z:U):Prop:=aW .u64 (X 0) fun aS=>aW .i64 (X 1) fun aM=>aL.t Y aS aM Z
theorem aL.ok(Y:aD)(X:Fr)(Z:U)(g:aL.g Y X Z):den prog E aO (a8 E [.tmp 4,.tmp 5] Y) X Z:=
 bB g fun aS a g=>bB g fun aM b g=>c4 5 (r:=(a3 aO [W,W,W,W,W])) (by kernel_rfl) (g4.ok Y) (bS [(0,.int .u64 aS),(1,.int .i64 aM)] ⟨a,b,trivial⟩ (by kernel_rfl) g)
def t(aS aM:Int)(Z:U)(Y:aD):Prop:=aL.t Y aS aM Z
theorem ok{aS:Int}{aM:Int}{Z:U}{Y:aD}(g:t aS aM Z Y):aY id #[.int .u64 aS,.int .i64 aM] Z Y:=
 dL dI (c:=aO) (dC:=[.tmp 4,.tmp 5]) Tryz.func105 (by kernel_rfl) (by kernel_rfl) (by kernel_rfl) (args:=[.int .u64 aS,.int .i64 aM]) (by kernel_rfl) (aL.ok Y _ Z (bQ rfl (bQ rfl (g))))
end mQ
namespace tU
noncomputable def aO:Code:=dK Tryz.f106
def aL.t(Y:aD)(a:M)(b c:Nat)(aM:Int)(Z:U):Prop:=
 aY j8.id #[.int .u64 aM] Z fun d e=>
 aQ d fun d f g=>
 aY jS.id #[.slice a b c,.slice d f g] e fun d e=>
 cT d fun d=>
 cP d fun d f g h=>
 dJ h .i64 fun h h=>
 b5 h <| aY j8.id #[.int .u64 aM] e fun e h=>
 aQ e fun e i j=>
 aY iZ.id #[.slice a b c,.slice e i j] h fun a b=>
 cT a fun a=>
 cP a fun a c e h=>
 dJ h .i64 fun h h=>
 b5 h <| Y (.tuple #[.slice d f g,.slice a c e]) b
def aL.g(Y:aD)(X:Fr)(Z:U):Prop:=aQ (X 0) fun a b c=>aW .u64 (X 1) fun aM=>aL.t Y a b c aM Z
theorem aL.ok(Y:aD)(X:Fr)(Z:U)(g:aL.g Y X Z):den prog E aO (a8 E [.tmp 4,.tmp 5] Y) X Z:=
 bD g fun a b c d g=>bB g fun aM e g=>bS [(0,.slice a b c),(1,.int .u64 aM)] ⟨d,e,trivial⟩ (by kernel_rfl) g
def t(a:M)(b c:Nat)(aM:Int)(Z:U)(Y:aD):Prop:=aL.t Y a b c aM Z
theorem ok{a:M}{b:Nat}{d:Nat}{aM:Int}{Z:U}{Y:aD}(g:t a b d aM Z Y):aY id #[.slice a b d,.int .u64 aM] Z Y:=
 dL dI (c:=aO) (dC:=[.tmp 4,.tmp 5]) Tryz.func106 (by kernel_rfl) (by kernel_rfl) (by kernel_rfl) (args:=[.slice a b d,.int .u64 aM]) (by kernel_rfl) (aL.ok Y _ Z (bE rfl (bQ rfl (g))))
end tU
namespace qJ
noncomputable def aO:Code:=dK Tryz.f107
def aL.t(Y:aD)(a:M)(b c:Nat)(Z:U):Prop:=
 aY lT.id #[.slice a b c] Z fun a b=>
 aQ a fun a c d=>
 cond (decide ((((c:Nat):Int)) > 8192)) (Y (.tuple #[.slice none 0 0,.int .i64 5]) b) (iI b 35 j6 (((c:Nat):Int)) (((c:Nat):Int)) fun eD b=>
 m3 b 1 (some eD) ((((c:Nat):Int)).toNat) (.slice a c d) fun a a=>
 Y (.tuple #[.slice (some eD) ((((c:Nat):Int)).toNat) ((((c:Nat):Int)).toNat),.int .i64 0]) a)
def aL.g(Y:aD)(X:Fr)(Z:U):Prop:=aQ (X 0) fun a b c=>aL.t Y a b c Z
theorem aL.ok(Y:aD)(X:Fr)(Z:U)(g:aL.g Y X Z):den prog E aO (a8 E [.tmp 2,.tmp 3] Y) X Z:=
 bD g fun a b c d g=>bS [(0,.slice a b c)] ⟨d,trivial⟩ (by kernel_rfl) g
def t(a:M)(b c:Nat)(Z:U)(Y:aD):Prop:=aL.t Y a b c Z
theorem ok{a:M}{b:Nat}{d:Nat}{Z:U}{Y:aD}(g:t a b d Z Y):aY id #[.slice a b d] Z Y:=
 dL dI (c:=aO) (dC:=[.tmp 2,.tmp 3]) Tryz.func107 (by kernel_rfl) (by kernel_rfl) (by kernel_rfl) (args:=[.slice a b d]) (by kernel_rfl) (aL.ok Y _ Z (bE rfl (g)))
end qJ
namespace j9
noncomputable def aO:Code:=dK Tryz.f108
def a0.t(Y:aD)(b0:M)(a b2:Nat)(b:Int)(Z:U):Prop:=
 aY m9.id #[.slice b0 a b2] Z fun a c=>
 cT a fun a=>
 cP a fun a d e f=>
 dJ f .i64 fun f f=>
 b5 f <| Y (.tuple #[.slice a d e,.int .u64 b,.int .i64 0]) c
def a0.g(Y:aD)(X:Fr)(Z:U):Prop:=aQ (X 7) fun b0 a b2=>aW .u64 (X 8) fun b=>a0.t Y b0 a b2 b Z
theorem a0.ok(Y:aD)(X:Fr)(Z:U)(g:a0.g Y X Z):den prog E (a3 aO [W,W,W,W,W,W]) (a8 E [.tmp 4,.tmp 5,.tmp 6] Y) X Z:=
 bD g fun b0 a b2 b g=>bB g fun c d g=>bS [(7,.slice b0 a b2),(8,.int .u64 c)] ⟨b,d,trivial⟩ (by kernel_rfl) g
def bL.g(a:M→Nat→Nat→Int→M→Nat→Nat→Int→Int→U→Prop)(X:Fr)(Z:U):Prop:=aQ (X 0) fun b c d=>aW .u64 (X 1) fun aM=>aQ (X 7) fun b0 e b2=>aW .u64 (X 8) fun f=>aW .i64 (X 9) fun h=>a b c d aM b0 e b2 f h Z
def b7.t(Y:aD)(a:M→Nat→Nat→Int→M→Nat→Nat→Int→Int→U→Prop)(b:M)(c d:Nat)(aM:Int)(b0:M)(e b2:Nat)(f g:Int)(Z:U):Prop:=
 cond (decide (g≥0)) (c7 b c g 1 fun h=>
 cY Z .u64 h fun h=>
 aY g2.id #[.int .u64 f,.int .u64 h,.int .u64 aM] Z fun h i=>
 cT h fun h=>
 dJ h .u64 fun h j=>
 dJ j .u64 fun j k=>
 b5 k <| c7 b0 e g 1 fun k=>
 cC i k (.int .u64 h) fun h=>
 a5 (IntKind.i64.wrap (g - 1)) fun g=>
 a b c d aM b0 e b2 j g h) (a0.t Y b0 e b2 f Z)
def b7.g(Y:aD)(a:M→Nat→Nat→Int→M→Nat→Nat→Int→Int→U→Prop)(X:Fr)(Z:U):Prop:=aQ (X 0) fun b c d=>aW .u64 (X 1) fun aM=>aQ (X 7) fun b0 e b2=>aW .u64 (X 8) fun f=>aW .i64 (X 9) fun h=>b7.t Y a b c d aM b0 e b2 f h Z
theorem b7.ok(Y:aD)(a:M→Nat→Nat→Int→M→Nat→Nat→Int→Int→U→Prop)(X:Fr)(Z:U)(g:b7.g Y a X Z):den prog E (a3 aO [W,W,W,W,W,aT,W,aT,aT]) (a1.then (bL.g a) (a1.inBlock 0 (a1.then (a0.g Y) (a8 E [.tmp 4,.tmp 5,.tmp 6] Y)))) X Z:=
 bD g fun a b c d g=>bB g fun aM e g=>bD g fun b0 f b2 h g=>bB g fun i j g=>bB g fun k l g=>bS [(0,.slice a b c),(1,.int .u64 aM),(7,.slice b0 f b2),(8,.int .u64 i),(9,.int .i64 k)] ⟨d,e,h,j,l,trivial⟩ (by kernel_rfl) g
def bL.t(Y:aD):Nat→M→Nat→Nat→Int→M→Nat→Nat→Int→Int→U→Prop
 | 0=>fun _ _ _ _ _ _ _ _ _ _=>False
 | n+1=>fun a b c aM b0 d b2 e f Z=>b7.t Y (bL.t Y n) a b c aM b0 d b2 e f Z
theorem bL.ok(Y:aD)(X:Fr)(Z:U)(g:bL.g (fun a b c aM b0 d b2 e f Z=>∃ n,bL.t Y n a b c aM b0 d b2 e f Z) X Z):den prog E (a3 aO [W,W,W,W,W,aT,W,aT]) (a1.inBlock 0 (a1.then (a0.g Y) (a8 E [.tmp 4,.tmp 5,.tmp 6] Y))) X Z:=by
 obtain⟨a,b,c,h,g⟩:=b4 g
 obtain⟨aM,i,g⟩:=bN g
 obtain⟨b0,d,b2,j,g⟩:=b4 g
 obtain⟨e,k,g⟩:=bN g
 obtain⟨f,l,g⟩:=bN g
 obtain⟨n,g⟩:=g
 refine fK (fun n=>bL.g (bL.t Y n)) (L:=(a3 aO [W,W,W,W,W,aT,W,aT,aT])) (by kernel_rfl) (fun X Z g=>?_) (fun n=>b7.ok Y (bL.t Y n)) n X Z (bE h (bQ i (bE j (bQ k (bQ l (g))))))
 obtain⟨a,b,c,h,g⟩:=b4 g
 obtain⟨aM,i,g⟩:=bN g
 obtain⟨b0,d,b2,j,g⟩:=b4 g
 obtain⟨e,k,g⟩:=bN g
 obtain⟨f,l,g⟩:=bN g
 exact g
theorem g3.ok(Y:aD)(X:Fr)(Z:U)(g:bL.g (fun a b c aM b0 d b2 e f Z=>∃ n,bL.t Y n a b c aM b0 d b2 e f Z) X Z):den prog E (a3 aO [W,W,W,W,W,aT,W]) (a1.then (a0.g Y) (a8 E [.tmp 4,.tmp 5,.tmp 6] Y)) X Z:=
 fC (by kernel_rfl) (bL.ok Y X Z g)
def bF.t(Y:aD)(a:M)(b c:Nat)(aM:Int)(b0:M)(d b2:Nat)(e:Int)(Z:U):Prop:=
 a5 (IntKind.i64.wrap ((((b:Nat):Int)) - 1)) fun f=>(∃ n,bL.t Y n a b c aM b0 d b2 e f Z)
def bF.g(Y:aD)(X:Fr)(Z:U):Prop:=aQ (X 0) fun a b c=>aW .u64 (X 1) fun aM=>aQ (X 7) fun b0 d b2=>aW .u64 (X 8) fun e=>bF.t Y a b c aM b0 d b2 e Z
theorem bF.ok(Y:aD)(X:Fr)(Z:U)(g:bF.g Y X Z):den prog E (a3 aO [W,W,W,W,W,aT]) (a1.then (a0.g Y) (a8 E [.tmp 4,.tmp 5,.tmp 6] Y)) X Z:=
 bD g fun a b c d g=>bB g fun aM e g=>bD g fun b0 f b2 h g=>bB g fun i j g=>c4 1 (r:=(a3 aO [W,W,W,W,W,aT,W])) (by kernel_rfl) (g3.ok Y) (bS [(0,.slice a b c),(1,.int .u64 aM),(7,.slice b0 f b2),(8,.int .u64 i)] ⟨d,e,h,j,trivial⟩ (by kernel_rfl) g)
theorem g4.ok(Y:aD)(X:Fr)(Z:U)(g:bF.g Y X Z):den prog E (a3 aO [W,W,W,W,W]) (a8 E [.tmp 4,.tmp 5,.tmp 6] Y) X Z:=
 gA (by kernel_rfl) (a0.ok Y) (bF.ok Y X Z g)
def aL.t(Y:aD)(a:M)(b c:Nat)(aM:Int)(Z:U):Prop:=
 aY kH.id #[.slice a b c] Z fun d e=>
 eS d fun d=>
 cond (!d) (Y (.tuple #[.slice none 0 0,.int .u64 0,.int .i64 2]) e) (cond (aM == 0) (Y (.tuple #[.slice none 0 0,.int .u64 0,.int .i64 4]) e) (iI e 35 j6 (((b:Nat):Int)) (((b:Nat):Int)) fun eD d=>
 bF.t Y a b c aM (some eD) ((((b:Nat):Int)).toNat) ((((b:Nat):Int)).toNat) 0 d))
def aL.g(Y:aD)(X:Fr)(Z:U):Prop:=aQ (X 0) fun a b c=>aW .u64 (X 1) fun aM=>aL.t Y a b c aM Z
theorem aL.ok(Y:aD)(X:Fr)(Z:U)(g:aL.g Y X Z):den prog E aO (a8 E [.tmp 4,.tmp 5,.tmp 6] Y) X Z:=
 bD g fun a b c d g=>bB g fun aM e g=>c4 5 (r:=(a3 aO [W,W,W,W,W])) (by kernel_rfl) (g4.ok Y) (bS [(0,.slice a b c),(1,.int .u64 aM)] ⟨d,e,trivial⟩ (by kernel_rfl) g)
def t(a:M)(b c:Nat)(aM:Int)(Z:U)(Y:aD):Prop:=aL.t Y a b c aM Z
theorem ok{a:M}{b:Nat}{d:Nat}{aM:Int}{Z:U}{Y:aD}(g:t a b d aM Z Y):aY id #[.slice a b d,.int .u64 aM] Z Y:=
 dL dI (c:=aO) (dC:=[.tmp 4,.tmp 5,.tmp 6]) Tryz.func108 (by kernel_rfl) (by kernel_rfl) (by kernel_rfl) (args:=[.slice a b d,.int .u64 aM]) (by kernel_rfl) (aL.ok Y _ Z (bE rfl (bQ rfl (g))))
end j9
namespace rT
noncomputable def aO:Code:=dK Tryz.f109
def aL.t(Y:aD)(aS:Int)(Z:U):Prop:=
 aY mH.id #[.int .u64 aS] Z fun a b=>
 aW .i64 a fun a=>
 a5 (IntKind.i64.wrap (64 - a)) fun a=>
 Y (.int .i64 a) b
def aL.g(Y:aD)(X:Fr)(Z:U):Prop:=aW .u64 (X 0) fun aS=>aL.t Y aS Z
theorem aL.ok(Y:aD)(X:Fr)(Z:U)(g:aL.g Y X Z):den prog E aO (a8 E [.tmp 2] Y) X Z:=
 bB g fun aS a g=>bS [(0,.int .u64 aS)] ⟨a,trivial⟩ (by kernel_rfl) g
def t(aS:Int)(Z:U)(Y:aD):Prop:=aL.t Y aS Z
theorem ok{aS:Int}{Z:U}{Y:aD}(g:t aS Z Y):aY id #[.int .u64 aS] Z Y:=
 dL dI (c:=aO) (dC:=[.tmp 2]) Tryz.func109 (by kernel_rfl) (by kernel_rfl) (by kernel_rfl) (args:=[.int .u64 aS]) (by kernel_rfl) (aL.ok Y _ Z (bQ rfl (g)))
end rT
namespace lV
noncomputable def aO:Code:=dK Tryz.f110
def a0.t(Y:aD)(b0:M)(a b2:Nat)(Z:U):Prop:=
 Y (.slice b0 a b2) Z
def a0.g(Y:aD)(X:Fr)(Z:U):Prop:=aQ (X 7) fun b0 a b2=>a0.t Y b0 a b2 Z
theorem a0.ok(Y:aD)(X:Fr)(Z:U)(g:a0.g Y X Z):den prog E (a3 aO [W,W,W,W,W,W]) (a8 E [.tmp 6] Y) X Z:=
 bD g fun b0 a b2 b g=>bS [(7,.slice b0 a b2)] ⟨b,trivial⟩ (by kernel_rfl) g
def bL.g(a:Int→M→Nat→Nat→Int→Int→Int→U→Prop)(X:Fr)(Z:U):Prop:=aW .i64 (X 1) fun aM=>aQ (X 7) fun b0 b b2=>aW .u64 (X 8) fun c=>aW .i64 (X 19) fun d=>aW .i64 (X 20) fun e=>a aM b0 b b2 c d e Z
def b7.t(Y:aD)(a:Int→M→Nat→Nat→Int→Int→Int→U→Prop)(aM:Int)(b0:M)(b b2:Nat)(c d e:Int)(Z:U):Prop:=
 cond (decide (e < d)) (c7 b0 b e 1 fun eD=>
 cY Z .u64 eD fun f=>
 0≤aM∧a5 (h4 .u64 f aM) fun f=>
 a5 (uR .u64 f c) fun c=>
 c7 b0 b e 1 fun f=>
 cY Z .u64 f fun f=>
 a5 (IntKind.i64.wrap (64 - aM)) fun g=>
 0≤g∧a5 (g6 .u64 f g) fun f=>
 c7 b0 b e 1 fun g=>
 cC Z g (.int .u64 c) fun c=>
 a5 (IntKind.i64.wrap (e+1)) fun e=>
 a aM b0 b b2 f d e c) (a0.t Y b0 b b2 Z)
def b7.g(Y:aD)(a:Int→M→Nat→Nat→Int→Int→Int→U→Prop)(X:Fr)(Z:U):Prop:=aW .i64 (X 1) fun aM=>aQ (X 7) fun b0 b b2=>aW .u64 (X 8) fun c=>aW .i64 (X 19) fun d=>aW .i64 (X 20) fun e=>b7.t Y a aM b0 b b2 c d e Z
theorem b7.ok(Y:aD)(a:Int→M→Nat→Nat→Int→Int→Int→U→Prop)(X:Fr)(Z:U)(g:b7.g Y a X Z):den prog E (a3 aO [W,W,W,W,W,aT,W,aT,aT]) (a1.then (bL.g a) (a1.inBlock 0 (a1.then (a0.g Y) (a8 E [.tmp 6] Y)))) X Z:=
 bB g fun aM a g=>bD g fun b0 b b2 c g=>bB g fun d e g=>bB g fun f h g=>bB g fun i j g=>bS [(1,.int .i64 aM),(7,.slice b0 b b2),(8,.int .u64 d),(19,.int .i64 f),(20,.int .i64 i)] ⟨a,c,e,h,j,trivial⟩ (by kernel_rfl) g
def bL.t(Y:aD):Nat→Int→M→Nat→Nat→Int→Int→Int→U→Prop
 | 0=>fun _ _ _ _ _ _ _ _=>False
 | n+1=>fun aM b0 a b2 b c d Z=>b7.t Y (bL.t Y n) aM b0 a b2 b c d Z
theorem bL.ok(Y:aD)(X:Fr)(Z:U)(g:bL.g (fun aM b0 a b2 b c d Z=>∃ n,bL.t Y n aM b0 a b2 b c d Z) X Z):den prog E (a3 aO [W,W,W,W,W,aT,W,aT]) (a1.inBlock 0 (a1.then (a0.g Y) (a8 E [.tmp 6] Y))) X Z:=by
 obtain⟨aM,e,g⟩:=bN g
 obtain⟨b0,a,b2,f,g⟩:=b4 g
 obtain⟨b,h,g⟩:=bN g
 obtain⟨c,i,g⟩:=bN g
 obtain⟨d,j,g⟩:=bN g
 obtain⟨n,g⟩:=g
 refine fK (fun n=>bL.g (bL.t Y n)) (L:=(a3 aO [W,W,W,W,W,aT,W,aT,aT])) (by kernel_rfl) (fun X Z g=>?_) (fun n=>b7.ok Y (bL.t Y n)) n X Z (bQ e (bE f (bQ h (bQ i (bQ j (g))))))
 obtain⟨aM,e,g⟩:=bN g
 obtain⟨b0,a,b2,f,g⟩:=b4 g
 obtain⟨b,h,g⟩:=bN g
 obtain⟨c,i,g⟩:=bN g
 obtain⟨d,j,g⟩:=bN g
 exact g
theorem g3.ok(Y:aD)(X:Fr)(Z:U)(g:bL.g (fun aM b0 a b2 b c d Z=>∃ n,bL.t Y n aM b0 a b2 b c d Z) X Z):den prog E (a3 aO [W,W,W,W,W,aT,W]) (a1.then (a0.g Y) (a8 E [.tmp 6] Y)) X Z:=
 fC (by kernel_rfl) (bL.ok Y X Z g)
def bF.t(Y:aD)(aM:Int)(b0:M)(a b2:Nat)(b:Int)(Z:U):Prop:=
 (∃ n,bL.t Y n aM b0 a b2 b (((a:Nat):Int)) 0 Z)
def bF.g(Y:aD)(X:Fr)(Z:U):Prop:=aW .i64 (X 1) fun aM=>aQ (X 7) fun b0 a b2=>aW .u64 (X 8) fun b=>bF.t Y aM b0 a b2 b Z
theorem bF.ok(Y:aD)(X:Fr)(Z:U)(g:bF.g Y X Z):den prog E (a3 aO [W,W,W,W,W,aT]) (a1.then (a0.g Y) (a8 E [.tmp 6] Y)) X Z:=
 bB g fun aM a g=>bD g fun b0 b b2 c g=>bB g fun d e g=>c4 1 (r:=(a3 aO [W,W,W,W,W,aT,W])) (by kernel_rfl) (g3.ok Y) (bS [(1,.int .i64 aM),(7,.slice b0 b b2),(8,.int .u64 d)] ⟨a,c,e,trivial⟩ (by kernel_rfl) g)
theorem g4.ok(Y:aD)(X:Fr)(Z:U)(g:bF.g Y X Z):den prog E (a3 aO [W,W,W,W,W]) (a8 E [.tmp 6] Y) X Z:=
 gA (by kernel_rfl) (a0.ok Y) (bF.ok Y X Z g)
def aL.t(Y:aD)(a:M)(b c:Nat)(aM d:Int)(Z:U):Prop:=
 iI Z 35 j6 d d fun b8 e=>
 m3 e 1 (some b8) d.toNat (.slice a b c) fun a a=>
 cond (aM == 0) (Y (.slice (some b8) d.toNat d.toNat) a) (bF.t Y aM (some b8) d.toNat d.toNat 0 a)
def aL.g(Y:aD)(X:Fr)(Z:U):Prop:=aQ (X 0) fun a b c=>aW .i64 (X 1) fun aM=>aW .i64 (X 2) fun d=>aL.t Y a b c aM d Z
theorem aL.ok(Y:aD)(X:Fr)(Z:U)(g:aL.g Y X Z):den prog E aO (a8 E [.tmp 6] Y) X Z:=
 bD g fun a b c d g=>bB g fun aM e g=>bB g fun f h g=>c4 5 (r:=(a3 aO [W,W,W,W,W])) (by kernel_rfl) (g4.ok Y) (bS [(0,.slice a b c),(1,.int .i64 aM),(2,.int .i64 f)] ⟨d,e,h,trivial⟩ (by kernel_rfl) g)
def t(a:M)(b c:Nat)(aM d:Int)(Z:U)(Y:aD):Prop:=aL.t Y a b c aM d Z
theorem ok{a:M}{b:Nat}{d:Nat}{aM:Int}{e:Int}{Z:U}{Y:aD}(g:t a b d aM e Z Y):aY id #[.slice a b d,.int .i64 aM,.int .i64 e] Z Y:=
 dL dI (c:=aO) (dC:=[.tmp 6]) Tryz.func110 (by kernel_rfl) (by kernel_rfl) (by kernel_rfl) (args:=[.slice a b d,.int .i64 aM,.int .i64 e]) (by kernel_rfl) (aL.ok Y _ Z (bE rfl (bQ rfl (bQ rfl (g)))))
end lV
namespace iW
noncomputable def aO:Code:=dK Tryz.f111
def bF.t(Y:aD)(a7:M)(a a9:Nat)(Z:U):Prop:=
 Y (.slice a7 a a9) Z
def bF.g(Y:aD)(X:Fr)(Z:U):Prop:=aQ (X 6) fun a7 a a9=>bF.t Y a7 a a9 Z
theorem bF.ok(Y:aD)(X:Fr)(Z:U)(g:bF.g Y X Z):den prog E (a3 aO [W,aT,W,W,W,W]) (a8 E [.tmp 4] Y) X Z:=
 bD g fun a7 a a9 b g=>bS [(6,.slice a7 a a9)] ⟨b,trivial⟩ (by kernel_rfl) g
def dW.g(a:M→Nat→Nat→M→Nat→Nat→Int→M→Nat→Nat→Int→U→Prop)(X:Fr)(Z:U):Prop:=aQ (X 0) fun b c d=>aQ (X 1) fun aJ aI aG=>aW .i64 (X 5) fun e=>aQ (X 6) fun a7 f a9=>aW .i64 (X 7) fun h=>a b c d aJ aI aG e a7 f a9 h Z
def e0.t(Y:aD)(a:M→Nat→Nat→M→Nat→Nat→Int→M→Nat→Nat→Int→U→Prop)(b:M)(c d:Nat)(aJ:M)(aI aG:Nat)(e:Int)(a7:M)(f a9:Nat)(g:Int)(Z:U):Prop:=
 a5 (IntKind.i64.wrap (g - 1)) fun g=>a b c d aJ aI aG e a7 f a9 g Z
def e0.g(Y:aD)(a:M→Nat→Nat→M→Nat→Nat→Int→M→Nat→Nat→Int→U→Prop)(X:Fr)(Z:U):Prop:=aQ (X 0) fun b c d=>aQ (X 1) fun aJ aI aG=>aW .i64 (X 5) fun e=>aQ (X 6) fun a7 f a9=>aW .i64 (X 7) fun h=>e0.t Y a b c d aJ aI aG e a7 f a9 h Z
theorem e0.ok(Y:aD)(a:M→Nat→Nat→M→Nat→Nat→Int→M→Nat→Nat→Int→U→Prop)(X:Fr)(Z:U)(g:e0.g Y a X Z):den prog E (a3 aO [W,aT,W,W,W,aT,W,aT,aT,W,W]) (a1.then (dW.g a) (a1.inBlock 0 (a1.then (bF.g Y) (a8 E [.tmp 4] Y)))) X Z:=
 bD g fun a b c d g=>bD g fun aJ aI aG e g=>bB g fun f h g=>bD g fun a7 i a9 j g=>bB g fun k l g=>bS [(0,.slice a b c),(1,.slice aJ aI aG),(5,.int .i64 f),(6,.slice a7 i a9),(7,.int .i64 k)] ⟨d,e,h,j,l,trivial⟩ (by kernel_rfl) g
def g8.g(a:M→Nat→Nat→M→Nat→Nat→Int→M→Nat→Nat→Int→Int→M→Nat→Nat→U→Prop)(X:Fr)(Z:U):Prop:=aQ (X 0) fun b c d=>aQ (X 1) fun aJ aI aG=>aW .i64 (X 5) fun e=>aQ (X 6) fun a7 f a9=>aW .i64 (X 7) fun h=>aW .u64 (X 8) fun i=>aQ (X 9) fun j k l=>a b c d aJ aI aG e a7 f a9 h i j k l Z
def iL.t(Y:aD)(a:M→Nat→Nat→M→Nat→Nat→Int→M→Nat→Nat→Int→U→Prop)(b:M→Nat→Nat→M→Nat→Nat→Int→M→Nat→Nat→Int→Int→M→Nat→Nat→U→Prop)(c:M)(d e:Nat)(aJ:M)(aI aG:Nat)(f:Int)(a7:M)(g a9:Nat)(h i:Int)(j:M)(k l:Nat)(Z:U):Prop:=
 a5 (IntKind.u64.wrap (i - 1)) fun i=>
 aY mL.id #[.slice j k l,.slice aJ aI aG] Z fun m n=>
 aW .u64 m fun m=>
 cond (m == 1) (c7 a7 g h 1 fun m=>
 cC n m (.int .u64 i) fun m=>
 e0.t Y a c d e aJ aI aG f a7 g a9 h m) (b c d e aJ aI aG f a7 g a9 h i j k l n)
def iL.g(Y:aD)(a:M→Nat→Nat→M→Nat→Nat→Int→M→Nat→Nat→Int→U→Prop)(b:M→Nat→Nat→M→Nat→Nat→Int→M→Nat→Nat→Int→Int→M→Nat→Nat→U→Prop)(X:Fr)(Z:U):Prop:=aQ (X 0) fun c d e=>aQ (X 1) fun aJ aI aG=>aW .i64 (X 5) fun f=>aQ (X 6) fun a7 h a9=>aW .i64 (X 7) fun i=>aW .u64 (X 8) fun j=>aQ (X 9) fun k l m=>iL.t Y a b c d e aJ aI aG f a7 h a9 i j k l m Z
theorem iL.ok(Y:aD)(a:M→Nat→Nat→M→Nat→Nat→Int→M→Nat→Nat→Int→U→Prop)(b:M→Nat→Nat→M→Nat→Nat→Int→M→Nat→Nat→Int→Int→M→Nat→Nat→U→Prop)(X:Fr)(Z:U)(g:iL.g Y a b X Z):den prog E (a3 aO [W,aT,W,W,W,aT,W,aT,aT,W,aT,aT,W,W,W,aT,aT]) (a1.then (g8.g b) (a1.inBlock 2 (a1.inBlock 1 (a1.then (e0.g Y a) (a1.then (dW.g a) (a1.inBlock 0 (a1.then (bF.g Y) (a8 E [.tmp 4] Y)))))))) X Z:=
 bD g fun a b c d g=>bD g fun aJ aI aG e g=>bB g fun f h g=>bD g fun a7 i a9 j g=>bB g fun k l g=>bB g fun m n g=>bD g fun o p q r g=>bS [(0,.slice a b c),(1,.slice aJ aI aG),(5,.int .i64 f),(6,.slice a7 i a9),(7,.int .i64 k),(8,.int .u64 m),(9,.slice o p q)] ⟨d,e,h,j,l,n,r,trivial⟩ (by kernel_rfl) g
def g8.t(Y:aD)(a:M→Nat→Nat→M→Nat→Nat→Int→M→Nat→Nat→Int→U→Prop):Nat→M→Nat→Nat→M→Nat→Nat→Int→M→Nat→Nat→Int→Int→M→Nat→Nat→U→Prop
 | 0=>fun _ _ _ _ _ _ _ _ _ _ _ _ _ _ _ _=>False
 | n+1=>fun b c d aJ aI aG e a7 f a9 g h i j k Z=>iL.t Y a (g8.t Y a n) b c d aJ aI aG e a7 f a9 g h i j k Z
theorem g8.ok(Y:aD)(a:M→Nat→Nat→M→Nat→Nat→Int→M→Nat→Nat→Int→U→Prop)(X:Fr)(Z:U)(g:g8.g (fun b c d aJ aI aG e a7 f a9 h i j k l Z=>∃ n,g8.t Y a n b c d aJ aI aG e a7 f a9 h i j k l Z) X Z):den prog E (a3 aO [W,aT,W,W,W,aT,W,aT,aT,W,aT,aT,W,W,W,aT]) (a1.inBlock 2 (a1.inBlock 1 (a1.then (e0.g Y a) (a1.then (dW.g a) (a1.inBlock 0 (a1.then (bF.g Y) (a8 E [.tmp 4] Y))))))) X Z:=by
 obtain⟨b,c,d,m,g⟩:=b4 g
 obtain⟨aJ,aI,aG,o,g⟩:=b4 g
 obtain⟨e,p,g⟩:=bN g
 obtain⟨a7,f,a9,q,g⟩:=b4 g
 obtain⟨h,r,g⟩:=bN g
 obtain⟨i,s,g⟩:=bN g
 obtain⟨j,k,l,u,g⟩:=b4 g
 obtain⟨n,g⟩:=g
 refine fK (fun n=>g8.g (g8.t Y a n)) (L:=(a3 aO [W,aT,W,W,W,aT,W,aT,aT,W,aT,aT,W,W,W,aT,aT])) (by kernel_rfl) (fun X Z g=>?_) (fun n=>iL.ok Y a (g8.t Y a n)) n X Z (bE m (bE o (bQ p (bE q (bQ r (bQ s (bE u (g))))))))
 obtain⟨b,c,d,m,g⟩:=b4 g
 obtain⟨aJ,aI,aG,o,g⟩:=b4 g
 obtain⟨e,p,g⟩:=bN g
 obtain⟨a7,f,a9,q,g⟩:=b4 g
 obtain⟨h,r,g⟩:=bN g
 obtain⟨i,s,g⟩:=bN g
 obtain⟨j,k,l,u,g⟩:=b4 g
 exact g
theorem yM.ok(Y:aD)(a:M→Nat→Nat→M→Nat→Nat→Int→M→Nat→Nat→Int→U→Prop)(X:Fr)(Z:U)(g:g8.g (fun b c d aJ aI aG e a7 f a9 h i j k l Z=>∃ n,g8.t Y a n b c d aJ aI aG e a7 f a9 h i j k l Z) X Z):den prog E (a3 aO [W,aT,W,W,W,aT,W,aT,aT,W,aT,aT,W,W,W]) (a1.inBlock 1 (a1.then (e0.g Y a) (a1.then (dW.g a) (a1.inBlock 0 (a1.then (bF.g Y) (a8 E [.tmp 4] Y)))))) X Z:=
 fC (by kernel_rfl) (g8.ok Y a X Z g)
def eW.t(Y:aD)(a:M→Nat→Nat→M→Nat→Nat→Int→M→Nat→Nat→Int→U→Prop)(b:M)(c d:Nat)(aJ:M)(aI aG:Nat)(e:Int)(a7:M)(f a9:Nat)(g:Int)(Z:U):Prop:=
 a5 (IntKind.i64.wrap (g+e)) fun h=>
 c7 b c h 1 fun h=>
 cY Z .u64 h fun h=>
 a5 (IntKind.i64.wrap (g+e)) fun i=>
 a5 (IntKind.i64.wrap (i - 1)) fun i=>
 c7 b c i 1 fun i=>
 cY Z .u64 i fun i=>
 a5 (IntKind.i64.wrap (e - 1)) fun j=>
 c7 aJ aI j 1 fun j=>
 cY Z .u64 j fun j=>
 aY tG.id #[.int .u64 h,.int .u64 i,.int .u64 j] Z fun h i=>
 aW .u64 h fun h=>
 a5 (IntKind.i64.wrap (g+e)) fun j=>
 a5 (IntKind.i64.wrap (j+1)) fun j=>
 iD 1 b c d (some (.int .i64 g)) (some (.int .i64 j)) none fun j k l=>
 aY mK.id #[.slice j k l,.slice aJ aI aG,.int .u64 h] i fun i m=>
 aW .u64 i fun i=>
 cond (i == 0) (c7 a7 f g 1 fun i=>
 cC m i (.int .u64 h) fun i=>
 e0.t Y a b c d aJ aI aG e a7 f a9 g i) ((∃ n,g8.t Y a n b c d aJ aI aG e a7 f a9 g h j k l m))
def eW.g(Y:aD)(a:M→Nat→Nat→M→Nat→Nat→Int→M→Nat→Nat→Int→U→Prop)(X:Fr)(Z:U):Prop:=aQ (X 0) fun b c d=>aQ (X 1) fun aJ aI aG=>aW .i64 (X 5) fun e=>aQ (X 6) fun a7 f a9=>aW .i64 (X 7) fun h=>eW.t Y a b c d aJ aI aG e a7 f a9 h Z
theorem eW.ok(Y:aD)(a:M→Nat→Nat→M→Nat→Nat→Int→M→Nat→Nat→Int→U→Prop)(X:Fr)(Z:U)(g:eW.g Y a X Z):den prog E (a3 aO [W,aT,W,W,W,aT,W,aT,aT,W,aT,aT]) (a1.inBlock 1 (a1.then (e0.g Y a) (a1.then (dW.g a) (a1.inBlock 0 (a1.then (bF.g Y) (a8 E [.tmp 4] Y)))))) X Z:=
 bD g fun b c d e g=>bD g fun aJ aI aG f g=>bB g fun h i g=>bD g fun a7 j a9 k g=>bB g fun l m g=>c4 3 (r:=(a3 aO [W,aT,W,W,W,aT,W,aT,aT,W,aT,aT,W,W,W])) (by kernel_rfl) (yM.ok Y a) (bS [(0,.slice b c d),(1,.slice aJ aI aG),(5,.int .i64 h),(6,.slice a7 j a9),(7,.int .i64 l)] ⟨e,f,i,k,m,trivial⟩ (by kernel_rfl) g)
theorem o9.ok(Y:aD)(a:M→Nat→Nat→M→Nat→Nat→Int→M→Nat→Nat→Int→U→Prop)(X:Fr)(Z:U)(g:eW.g Y a X Z):den prog E (a3 aO [W,aT,W,W,W,aT,W,aT,aT,W,aT]) (a1.then (e0.g Y a) (a1.then (dW.g a) (a1.inBlock 0 (a1.then (bF.g Y) (a8 E [.tmp 4] Y))))) X Z:=
 fC (by kernel_rfl) (eW.ok Y a X Z g)
theorem uN.ok(Y:aD)(a:M→Nat→Nat→M→Nat→Nat→Int→M→Nat→Nat→Int→U→Prop)(X:Fr)(Z:U)(g:eW.g Y a X Z):den prog E (a3 aO [W,aT,W,W,W,aT,W,aT,aT,W]) (a1.then (dW.g a) (a1.inBlock 0 (a1.then (bF.g Y) (a8 E [.tmp 4] Y)))) X Z:=
 gA (by kernel_rfl) (e0.ok Y a) (o9.ok Y a X Z g)
def c8.t(Y:aD)(a:M→Nat→Nat→M→Nat→Nat→Int→M→Nat→Nat→Int→U→Prop)(b:M)(c d:Nat)(aJ:M)(aI aG:Nat)(e:Int)(a7:M)(f a9:Nat)(g:Int)(Z:U):Prop:=
 cond (decide (g≥0)) (eW.t Y a b c d aJ aI aG e a7 f a9 g Z) (bF.t Y a7 f a9 Z)
def c8.g(Y:aD)(a:M→Nat→Nat→M→Nat→Nat→Int→M→Nat→Nat→Int→U→Prop)(X:Fr)(Z:U):Prop:=aQ (X 0) fun b c d=>aQ (X 1) fun aJ aI aG=>aW .i64 (X 5) fun e=>aQ (X 6) fun a7 f a9=>aW .i64 (X 7) fun h=>c8.t Y a b c d aJ aI aG e a7 f a9 h Z
theorem c8.ok(Y:aD)(a:M→Nat→Nat→M→Nat→Nat→Int→M→Nat→Nat→Int→U→Prop)(X:Fr)(Z:U)(g:c8.g Y a X Z):den prog E (a3 aO [W,aT,W,W,W,aT,W,aT,aT]) (a1.then (dW.g a) (a1.inBlock 0 (a1.then (bF.g Y) (a8 E [.tmp 4] Y)))) X Z:=
 bD g fun b c d e g=>bD g fun aJ aI aG f g=>bB g fun h i g=>bD g fun a7 j a9 k g=>bB g fun l m g=>c4 1 (r:=(a3 aO [W,aT,W,W,W,aT,W,aT,aT,W])) (by kernel_rfl) (uN.ok Y a) (bS [(0,.slice b c d),(1,.slice aJ aI aG),(5,.int .i64 h),(6,.slice a7 j a9),(7,.int .i64 l)] ⟨e,f,i,k,m,trivial⟩ (by kernel_rfl) g)
def dW.t(Y:aD):Nat→M→Nat→Nat→M→Nat→Nat→Int→M→Nat→Nat→Int→U→Prop
 | 0=>fun _ _ _ _ _ _ _ _ _ _ _ _=>False
 | n+1=>fun a b c aJ aI aG d a7 e a9 f Z=>c8.t Y (dW.t Y n) a b c aJ aI aG d a7 e a9 f Z
theorem dW.ok(Y:aD)(X:Fr)(Z:U)(g:dW.g (fun a b c aJ aI aG d a7 e a9 f Z=>∃ n,dW.t Y n a b c aJ aI aG d a7 e a9 f Z) X Z):den prog E (a3 aO [W,aT,W,W,W,aT,W,aT]) (a1.inBlock 0 (a1.then (bF.g Y) (a8 E [.tmp 4] Y))) X Z:=by
 obtain⟨a,b,c,h,g⟩:=b4 g
 obtain⟨aJ,aI,aG,i,g⟩:=b4 g
 obtain⟨d,j,g⟩:=bN g
 obtain⟨a7,e,a9,k,g⟩:=b4 g
 obtain⟨f,l,g⟩:=bN g
 obtain⟨n,g⟩:=g
 refine fK (fun n=>dW.g (dW.t Y n)) (L:=(a3 aO [W,aT,W,W,W,aT,W,aT,aT])) (by kernel_rfl) (fun X Z g=>?_) (fun n=>c8.ok Y (dW.t Y n)) n X Z (bE h (bE i (bQ j (bE k (bQ l (g))))))
 obtain⟨a,b,c,h,g⟩:=b4 g
 obtain⟨aJ,aI,aG,i,g⟩:=b4 g
 obtain⟨d,j,g⟩:=bN g
 obtain⟨a7,e,a9,k,g⟩:=b4 g
 obtain⟨f,l,g⟩:=bN g
 exact g
theorem rA.ok(Y:aD)(X:Fr)(Z:U)(g:dW.g (fun a b c aJ aI aG d a7 e a9 f Z=>∃ n,dW.t Y n a b c aJ aI aG d a7 e a9 f Z) X Z):den prog E (a3 aO [W,aT,W,W,W,aT,W]) (a1.then (bF.g Y) (a8 E [.tmp 4] Y)) X Z:=
 fC (by kernel_rfl) (dW.ok Y X Z g)
def cE.t(Y:aD)(a:M)(b c:Nat)(aJ:M)(aI aG:Nat)(d:Int)(a7:M)(e a9:Nat)(Z:U):Prop:=
 a5 (IntKind.i64.wrap ((((b:Nat):Int)) - d)) fun f=>
 a5 (IntKind.i64.wrap (f - 1)) fun f=>
 (∃ n,dW.t Y n a b c aJ aI aG d a7 e a9 f Z)
def cE.g(Y:aD)(X:Fr)(Z:U):Prop:=aQ (X 0) fun a b c=>aQ (X 1) fun aJ aI aG=>aW .i64 (X 5) fun d=>aQ (X 6) fun a7 e a9=>cE.t Y a b c aJ aI aG d a7 e a9 Z
theorem cE.ok(Y:aD)(X:Fr)(Z:U)(g:cE.g Y X Z):den prog E (a3 aO [W,aT,W,W,W,aT]) (a1.then (bF.g Y) (a8 E [.tmp 4] Y)) X Z:=
 bD g fun a b c d g=>bD g fun aJ aI aG e g=>bB g fun f h g=>bD g fun a7 i a9 j g=>c4 1 (r:=(a3 aO [W,aT,W,W,W,aT,W])) (by kernel_rfl) (rA.ok Y) (bS [(0,.slice a b c),(1,.slice aJ aI aG),(5,.int .i64 f),(6,.slice a7 i a9)] ⟨d,e,h,j,trivial⟩ (by kernel_rfl) g)
theorem yL.ok(Y:aD)(X:Fr)(Z:U)(g:cE.g Y X Z):den prog E (a3 aO [W,aT,W,W,W]) (a8 E [.tmp 4] Y) X Z:=
 gA (by kernel_rfl) (bF.ok Y) (cE.ok Y X Z g)
def a0.t(Y:aD)(a:M)(b c:Nat)(aJ:M)(aI aG:Nat)(Z:U):Prop:=
 a5 (IntKind.i64.wrap ((((b:Nat):Int)) - (((aI:Nat):Int)))) fun dY=>
 iI Z 35 j6 dY dY fun e8 d=>
 cE.t Y a b c aJ aI aG (((aI:Nat):Int)) (some e8) dY.toNat dY.toNat d
def a0.g(Y:aD)(X:Fr)(Z:U):Prop:=aQ (X 0) fun a b c=>aQ (X 1) fun aJ aI aG=>a0.t Y a b c aJ aI aG Z
theorem a0.ok(Y:aD)(X:Fr)(Z:U)(g:a0.g Y X Z):den prog E (a3 aO [W,aT]) (a8 E [.tmp 4] Y) X Z:=
 bD g fun a b c d g=>bD g fun aJ aI aG e g=>c4 3 (r:=(a3 aO [W,aT,W,W,W])) (by kernel_rfl) (yL.ok Y) (bS [(0,.slice a b c),(1,.slice aJ aI aG)] ⟨d,e,trivial⟩ (by kernel_rfl) g)
theorem CX.ok(Y:aD)(X:Fr)(Z:U)(g:a0.g Y X Z):den prog E (a3 aO [W]) (a8 E [.tmp 4] Y) X Z:=
 IB (by kernel_rfl) (a0.ok Y X Z g)
def aL.t(Y:aD)(a:M)(b c:Nat)(aJ:M)(aI aG:Nat)(Z:U):Prop:=
 a0.t Y a b c aJ aI aG Z
def aL.g(Y:aD)(X:Fr)(Z:U):Prop:=aQ (X 0) fun a b c=>aQ (X 1) fun aJ aI aG=>aL.t Y a b c aJ aI aG Z
theorem aL.ok(Y:aD)(X:Fr)(Z:U)(g:aL.g Y X Z):den prog E aO (a8 E [.tmp 4] Y) X Z:=
 bD g fun a b c d g=>bD g fun aJ aI aG e g=>c4 1 (r:=(a3 aO [W])) (by kernel_rfl) (CX.ok Y) (bS [(0,.slice a b c),(1,.slice aJ aI aG)] ⟨d,e,trivial⟩ (by kernel_rfl) g)
def t(a:M)(b c:Nat)(aJ:M)(aI aG:Nat)(Z:U)(Y:aD):Prop:=aL.t Y a b c aJ aI aG Z
theorem ok{a:M}{b:Nat}{d:Nat}{aJ:M}{aI:Nat}{aG:Nat}{Z:U}{Y:aD}(g:t a b d aJ aI aG Z Y):aY id #[.slice a b d,.slice aJ aI aG] Z Y:=
 dL dI (c:=aO) (dC:=[.tmp 4]) Tryz.func111 (by kernel_rfl) (by kernel_rfl) (by kernel_rfl) (args:=[.slice a b d,.slice aJ aI aG]) (by kernel_rfl) (aL.ok Y _ Z (bE rfl (bE rfl (g))))
end iW
namespace qP
noncomputable def aO:Code:=dK Tryz.f113
def a0.t(Y:aD)(a:M)(b c:Nat)(aJ:M)(aI aG:Nat)(bJ:M)(bZ bG:Nat)(Z:U):Prop:=
 cond (decide ((((bZ:Nat):Int)) < 40)) (aY jW.id #[.slice a b c,.slice aJ aI aG,.slice bJ bZ bG] Z fun d e=>
 cT d fun d=>
 b5 d <| Y (.tuple #[]) e) (a5 (IntKind.i64.wrap (2*(((bZ:Nat):Int)))) fun d=>
 cond (decide ((((aI:Nat):Int))≥d)) (aY n5.id #[.slice a b c,.slice aJ aI aG,.slice bJ bZ bG] Z fun d e=>
 cT d fun d=>
 b5 d <| Y (.tuple #[]) e) (aY tO.id #[.slice a b c,.slice aJ aI aG,.slice bJ bZ bG] Z fun a b=>
 cT a fun a=>
 b5 a <| Y (.tuple #[]) b))
def a0.g(Y:aD)(X:Fr)(Z:U):Prop:=aQ (X 0) fun a b c=>aQ (X 1) fun aJ aI aG=>aQ (X 2) fun bJ bZ bG=>a0.t Y a b c aJ aI aG bJ bZ bG Z
theorem a0.ok(Y:aD)(X:Fr)(Z:U)(g:a0.g Y X Z):den prog E (a3 aO [W]) (a8 E [] Y) X Z:=
 bD g fun a b c d g=>bD g fun aJ aI aG e g=>bD g fun bJ bZ bG f g=>bS [(0,.slice a b c),(1,.slice aJ aI aG),(2,.slice bJ bZ bG)] ⟨d,e,f,trivial⟩ (by kernel_rfl) g
def aL.t(Y:aD)(a:M)(b c:Nat)(aJ:M)(aI aG:Nat)(bJ:M)(bZ bG:Nat)(Z:U):Prop:=
 cond (decide ((((aI:Nat):Int)) < (((bZ:Nat):Int)))) (a0.t Y a b c bJ bZ bG aJ aI aG Z) (a0.t Y a b c aJ aI aG bJ bZ bG Z)
def aL.g(Y:aD)(X:Fr)(Z:U):Prop:=aQ (X 0) fun a b c=>aQ (X 1) fun aJ aI aG=>aQ (X 2) fun bJ bZ bG=>aL.t Y a b c aJ aI aG bJ bZ bG Z
theorem aL.ok(Y:aD)(X:Fr)(Z:U)(g:aL.g Y X Z):den prog E aO (a8 E [] Y) X Z:=
 bD g fun a b c d g=>bD g fun aJ aI aG e g=>bD g fun bJ bZ bG f g=>c4 1 (r:=(a3 aO [W])) (by kernel_rfl) (a0.ok Y) (bS [(0,.slice a b c),(1,.slice aJ aI aG),(2,.slice bJ bZ bG)] ⟨d,e,f,trivial⟩ (by kernel_rfl) g)
def t(a:M)(b c:Nat)(aJ:M)(aI aG:Nat)(bJ:M)(bZ bG:Nat)(Z:U)(Y:aD):Prop:=aL.t Y a b c aJ aI aG bJ bZ bG Z
theorem ok{a:M}{b:Nat}{d:Nat}{aJ:M}{aI:Nat}{aG:Nat}{bJ:M}{bZ:Nat}{bG:Nat}{Z:U}{Y:aD}(g:t a b d aJ aI aG bJ bZ bG Z Y):aY id #[.slice a b d,.slice aJ aI aG,.slice bJ bZ bG] Z Y:=
 dL dI (c:=aO) (dC:=[]) Tryz.func113 (by kernel_rfl) (by kernel_rfl) (by kernel_rfl) (args:=[.slice a b d,.slice aJ aI aG,.slice bJ bZ bG]) (by kernel_rfl) (aL.ok Y _ Z (bE rfl (bE rfl (bE rfl (g)))))
end qP
namespace lX
noncomputable def aO:Code:=dK Tryz.f114
def a0.t(Y:aD)(a:M)(b c:Nat)(d:Int)(Z:U):Prop:=
 iD 1 a b c none (some (.int .i64 d)) (some (.int .i64 d)) fun a b c=>Y (.slice a b c) Z
def a0.g(Y:aD)(X:Fr)(Z:U):Prop:=aQ (X 0) fun a b c=>aW .i64 (X 3) fun d=>a0.t Y a b c d Z
theorem a0.ok(Y:aD)(X:Fr)(Z:U)(g:a0.g Y X Z):den prog E (a3 aO [W,W,W]) (a8 E [.tmp 2] Y) X Z:=
 bD g fun a b c d g=>bB g fun e f g=>bS [(0,.slice a b c),(3,.int .i64 e)] ⟨d,f,trivial⟩ (by kernel_rfl) g
def cK.g(a:M→Nat→Nat→Int→U→Prop)(X:Fr)(Z:U):Prop:=aQ (X 0) fun b c d=>aW .i64 (X 3) fun e=>a b c d e Z
def cE.t(Y:aD)(a:M→Nat→Nat→Int→U→Prop)(b:M)(c d:Nat)(e:Int)(Z:U):Prop:=
 cond (decide (e > 0)) (a5 (IntKind.i64.wrap (e - 1)) fun f=>
 c7 b c f 1 fun f=>
 cY Z .u64 f fun f=>
 cond (f == 0) (a5 (IntKind.i64.wrap (e - 1)) fun f=>
 a b c d f Z) (a0.t Y b c d e Z)) (a0.t Y b c d e Z)
def cE.g(Y:aD)(a:M→Nat→Nat→Int→U→Prop)(X:Fr)(Z:U):Prop:=aQ (X 0) fun b c d=>aW .i64 (X 3) fun e=>cE.t Y a b c d e Z
theorem cE.ok(Y:aD)(a:M→Nat→Nat→Int→U→Prop)(X:Fr)(Z:U)(g:cE.g Y a X Z):den prog E (a3 aO [W,W,aT,aT,aT]) (a1.then (cK.g a) (a1.inBlock 0 (a1.then (a0.g Y) (a8 E [.tmp 2] Y)))) X Z:=
 bD g fun a b c d g=>bB g fun e f g=>bS [(0,.slice a b c),(3,.int .i64 e)] ⟨d,f,trivial⟩ (by kernel_rfl) g
def cK.t(Y:aD):Nat→M→Nat→Nat→Int→U→Prop
 | 0=>fun _ _ _ _ _=>False
 | n+1=>fun a b c d Z=>cE.t Y (cK.t Y n) a b c d Z
theorem cK.ok(Y:aD)(X:Fr)(Z:U)(g:cK.g (fun a b c d Z=>∃ n,cK.t Y n a b c d Z) X Z):den prog E (a3 aO [W,W,aT,aT]) (a1.inBlock 0 (a1.then (a0.g Y) (a8 E [.tmp 2] Y))) X Z:=by
 obtain⟨a,b,c,e,g⟩:=b4 g
 obtain⟨d,f,g⟩:=bN g
 obtain⟨n,g⟩:=g
 refine fK (fun n=>cK.g (cK.t Y n)) (L:=(a3 aO [W,W,aT,aT,aT])) (by kernel_rfl) (fun X Z g=>?_) (fun n=>cE.ok Y (cK.t Y n)) n X Z (bE e (bQ f (g)))
 obtain⟨a,b,c,e,g⟩:=b4 g
 obtain⟨d,f,g⟩:=bN g
 exact g
theorem hR.ok(Y:aD)(X:Fr)(Z:U)(g:cK.g (fun a b c d Z=>∃ n,cK.t Y n a b c d Z) X Z):den prog E (a3 aO [W,W,aT]) (a1.then (a0.g Y) (a8 E [.tmp 2] Y)) X Z:=
 fC (by kernel_rfl) (cK.ok Y X Z g)
theorem q9.ok(Y:aD)(X:Fr)(Z:U)(g:cK.g (fun a b c d Z=>∃ n,cK.t Y n a b c d Z) X Z):den prog E (a3 aO [W,W]) (a8 E [.tmp 2] Y) X Z:=
 gA (by kernel_rfl) (a0.ok Y) (hR.ok Y X Z g)
def aL.t(Y:aD)(a:M)(b c:Nat)(Z:U):Prop:=
 (∃ n,cK.t Y n a b c (((b:Nat):Int)) Z)
def aL.g(Y:aD)(X:Fr)(Z:U):Prop:=aQ (X 0) fun a b c=>aL.t Y a b c Z
theorem aL.ok(Y:aD)(X:Fr)(Z:U)(g:aL.g Y X Z):den prog E aO (a8 E [.tmp 2] Y) X Z:=
 bD g fun a b c d g=>c4 2 (r:=(a3 aO [W,W])) (by kernel_rfl) (q9.ok Y) (bS [(0,.slice a b c)] ⟨d,trivial⟩ (by kernel_rfl) g)
def t(a:M)(b c:Nat)(Z:U)(Y:aD):Prop:=aL.t Y a b c Z
theorem ok{a:M}{b:Nat}{d:Nat}{Z:U}{Y:aD}(g:t a b d Z Y):aY id #[.slice a b d] Z Y:=
 dL dI (c:=aO) (dC:=[.tmp 2]) Tryz.func114 (by kernel_rfl) (by kernel_rfl) (by kernel_rfl) (args:=[.slice a b d]) (by kernel_rfl) (aL.ok Y _ Z (bE rfl (g)))
end lX
namespace n7
noncomputable def aO:Code:=dK Tryz.f115
def a0.t(Y:aD)(a eD b:Addr)(a7:M)(c a9:Nat)(b0:M)(d b2:Nat)(Z:U):Prop:=
 aY gF.id #[.int .u64 1] Z fun e f=>
 aQ e fun e g h=>
 (eT Z.size Z f)∧aY gS.id #[.slice a7 c a9,.slice e g h] f fun c e=>
 aQ c fun c g h=>
 (eT Z.size f e)∧aY fR.id #[.bool true,.slice c g h] e fun c f=>
 eG c fun c=>
 fH c fun c g=>
 cP g fun g h i j=>
 b5 j <| (eT Z.size e f)∧(a.add 1).block < Z.size∧dO f (a.add 1) fun a e j=>
 aY g1.id #[.slice a e j,.slice b0 d b2] f fun a d=>
 aQ a fun a e j=>
 (eT Z.size f d)∧aY fR.id #[.bool false,.slice a e j] d fun a e=>
 eG a fun a=>
 fH a fun a f=>
 cP f fun f j k l=>
 b5 l <| (eT Z.size d e)∧cC e (eD.add 0) (.bool c) fun c=>
 cC c (eD.add 1) (.slice g h i) fun c=>
 cC c (b.add 0) (.bool a) fun a=>
 cC a (b.add 1) (.slice f j k) fun a=>
 eN a (eD.add 0) fun c=>
 dO a (eD.add 1) fun d e f=>
 eN a (b.add 0) fun g=>
 dO a (b.add 1) fun b h i=>
 Y (.tuple #[.agg #[.bool c,.slice d e f],.agg #[.bool g,.slice b h i]]) a
def a0.g(Y:aD)(X:Fr)(Z:U):Prop:=gH (X 3) fun a=>gH (X 4) fun eD=>gH (X 5) fun b=>aQ (X 6) fun a7 c a9=>aQ (X 7) fun b0 d b2=>a0.t Y a eD b a7 c a9 b0 d b2 Z
theorem a0.ok(Y:aD)(X:Fr)(Z:U)(g:a0.g Y X Z):den prog E (a3 aO [W,W,W,W]) (a8 E [.cell 4 82,.cell 5 82] Y) X Z:=
 hW g fun a b g=>hW g fun eD c g=>hW g fun d e g=>bD g fun a7 f a9 h g=>bD g fun b0 i b2 j g=>bS [(3,.pointer (some a)),(4,.pointer (some eD)),(5,.pointer (some d)),(6,.slice a7 f a9),(7,.slice b0 i b2)] ⟨b,c,e,h,j,trivial⟩ (by kernel_rfl) g
def aL.t(Y:aD)(a:Bool)(b:M)(c d:Nat)(e:Bool)(f:M)(g h:Nat)(Z:U):Prop:=
 dN Z 82 [.bool a,.slice b c d] fun b8 a=>
 dN a 82 [.bool e,.slice f g h] fun a b=>
 dN b 82 h3.a6 fun b c=>
 dN c 82 h3.a6 fun c d=>
 eN d (a.add 0) fun e=>
 dO d (a.add 1) fun f g h=>
 aY kP.id #[.agg #[.bool e,.slice f g h]] d fun d e=>
 aW .i64 d fun d=>
 cond (decide (d≤0)) (cC e (b.add 0) (.bool false) fun d=>
 cC d (b.add 1) (.slice none 0 0) fun d=>
 cC d (c.add 0) (.bool false) fun d=>
 cC d (c.add 1) (.slice none 0 0) fun d=>
 eN d (b.add 0) fun f=>
 dO d (b.add 1) fun g h i=>
 eN d (c.add 0) fun j=>
 dO d (c.add 1) fun k l m=>
 Y (.tuple #[.agg #[.bool f,.slice g h i],.agg #[.bool j,.slice k l m]]) d) (dO e (b8.add 1) fun d f g=>
 dO e (a.add 1) fun h i j=>
 aY hK.id #[.slice d f g,.slice h i j] e fun d e=>
 cT d fun d=>
 cP d fun d f g h=>
 cP h fun h i j k=>
 b5 k <| eN e (b8.add 0) fun k=>
 cond (!k) (eN e (b8.add 0) fun k=>
 aY fR.id #[.bool k,.slice d f g] e fun k l=>
 eG k fun k=>
 fH k fun k m=>
 cP m fun m n o p=>
 b5 p <| aY fR.id #[.bool false,.slice h i j] l fun l p=>
 eG l fun l=>
 fH l fun l q=>
 cP q fun q r s u=>
 b5 u <| cC p (b.add 0) (.bool k) fun k=>
 cC k (b.add 1) (.slice m n o) fun k=>
 cC k (c.add 0) (.bool l) fun k=>
 cC k (c.add 1) (.slice q r s) fun k=>
 eN k (b.add 0) fun l=>
 dO k (b.add 1) fun m n o=>
 eN k (c.add 0) fun p=>
 dO k (c.add 1) fun q r s=>
 Y (.tuple #[.agg #[.bool l,.slice m n o],.agg #[.bool p,.slice q r s]]) k) (cond ((((i:Nat):Int)) == 0) (eN e (b8.add 0) fun k=>
 aY fR.id #[.bool k,.slice d f g] e fun k l=>
 eG k fun k=>
 fH k fun k m=>
 cP m fun m n o p=>
 b5 p <| aY fR.id #[.bool false,.slice h i j] l fun l p=>
 eG l fun l=>
 fH l fun l q=>
 cP q fun q r s u=>
 b5 u <| cC p (b.add 0) (.bool k) fun k=>
 cC k (b.add 1) (.slice m n o) fun k=>
 cC k (c.add 0) (.bool l) fun k=>
 cC k (c.add 1) (.slice q r s) fun k=>
 eN k (b.add 0) fun l=>
 dO k (b.add 1) fun m n o=>
 eN k (c.add 0) fun p=>
 dO k (c.add 1) fun q r s=>
 Y (.tuple #[.agg #[.bool l,.slice m n o],.agg #[.bool p,.slice q r s]]) k) (a0.t Y a b c d f g h i j e)))
def aL.g(Y:aD)(X:Fr)(Z:U):Prop:=eG (X 0) fun a=>cQ a fun a b=>eS a fun a=>cQ b fun b c=>aQ b fun b d e=>b5 c <| eG (X 1) fun c=>cQ c fun c f=>eS c fun c=>cQ f fun f h=>aQ f fun f i j=>b5 h <| aL.t Y a b d e c f i j Z
theorem aL.ok(Y:aD)(X:Fr)(Z:U)(g:aL.g Y X Z):den prog E aO (a8 E [.cell 4 82,.cell 5 82] Y) X Z:=by
 obtain⟨w,a,b⟩:=iJ g
 obtain⟨x,y,rfl,c⟩:=e7 b
 obtain⟨d,rfl,e⟩:=iP c
 obtain⟨z,A,rfl,f⟩:=e7 e
 obtain⟨h,i,j,rfl,k⟩:=b4 f
 obtain⟨rfl,g⟩:=hU k
 obtain⟨B,l,m⟩:=iJ g
 obtain⟨C,D,rfl,n⟩:=e7 m
 obtain⟨o,rfl,p⟩:=iP n
 obtain⟨F,G,rfl,q⟩:=e7 p
 obtain⟨s,t,u,rfl,v⟩:=b4 q
 obtain⟨rfl,g⟩:=hU v
 exact c4 4 (r:=(a3 aO [W,W,W,W])) (by kernel_rfl) (a0.ok Y) (bS [(0,.agg #[.bool d,.slice h i j]),(1,.agg #[.bool o,.slice s t u])] ⟨a,l,trivial⟩ (by kernel_rfl) g)
def t(a:Bool)(b:M)(c d:Nat)(e:Bool)(f:M)(g h:Nat)(Z:U)(Y:aD):Prop:=aL.t Y a b c d e f g h Z
theorem ok{a:Bool}{b:M}{d:Nat}{e:Nat}{f:Bool}{h:M}{i:Nat}{j:Nat}{Z:U}{Y:aD}(g:t a b d e f h i j Z Y):aY id #[.agg #[.bool a,.slice b d e],.agg #[.bool f,.slice h i j]] Z Y:=
 dL dI (c:=aO) (dC:=[.cell 4 82,.cell 5 82]) Tryz.func115 (by kernel_rfl) (by kernel_rfl) (by kernel_rfl) (args:=[.agg #[.bool a,.slice b d e],.agg #[.bool f,.slice h i j]]) (by kernel_rfl) (aL.ok Y _ Z (e5 rfl (cF (c5 rfl (cF (bE rfl (dR (e5 rfl (cF (c5 rfl (cF (bE rfl (dR (g))))))))))))))
end n7
namespace n8
noncomputable def aO:Code:=dK Tryz.f116
def aL.t(Y:aD)(a:Bool)(b:M)(c d:Nat)(Z:U):Prop:=
 dN Z 82 [.bool a,.slice b c d] fun b8 a=>
 dO a (b8.add 1) fun b c d=>
 aY oP.id #[.slice b c d,.int .i64 0] a fun a b=>
 aW .i64 a fun a=>
 Y (.bool (a == 0)) b
def aL.g(Y:aD)(X:Fr)(Z:U):Prop:=eG (X 0) fun a=>cQ a fun a b=>eS a fun a=>cQ b fun b c=>aQ b fun b d e=>b5 c <| aL.t Y a b d e Z
theorem aL.ok(Y:aD)(X:Fr)(Z:U)(g:aL.g Y X Z):den prog E aO (a8 E [.tmp 2] Y) X Z:=by
 obtain⟨l,a,b⟩:=iJ g
 obtain⟨m,n,rfl,c⟩:=e7 b
 obtain⟨d,rfl,e⟩:=iP c
 obtain⟨o,p,rfl,f⟩:=e7 e
 obtain⟨h,i,j,rfl,k⟩:=b4 f
 obtain⟨rfl,g⟩:=hU k
 exact bS [(0,.agg #[.bool d,.slice h i j])] ⟨a,trivial⟩ (by kernel_rfl) g
def t(a:Bool)(b:M)(c d:Nat)(Z:U)(Y:aD):Prop:=aL.t Y a b c d Z
theorem ok{a:Bool}{b:M}{d:Nat}{e:Nat}{Z:U}{Y:aD}(g:t a b d e Z Y):aY id #[.agg #[.bool a,.slice b d e]] Z Y:=
 dL dI (c:=aO) (dC:=[.tmp 2]) Tryz.func116 (by kernel_rfl) (by kernel_rfl) (by kernel_rfl) (args:=[.agg #[.bool a,.slice b d e]]) (by kernel_rfl) (aL.ok Y _ Z (e5 rfl (cF (c5 rfl (cF (bE rfl (dR (g))))))))
end n8
namespace qU
noncomputable def aO:Code:=dK Tryz.f117
def aL.t(Y:aD)(a:M)(b c:Nat)(aM:Int)(Z:U):Prop:=
 cond (decide (aM < 4294967296)) (a5 (IntKind.u64.wrap (aM*aM)) fun dY=>
 aY j9.id #[.slice a b c,.int .u64 dY] Z fun d e=>
 cT d fun d=>
 cP d fun d f g h=>
 dJ h .u64 fun h h=>
 dJ h .i64 fun h h=>
 b5 h <| Y (.slice d f g) e) (aY j9.id #[.slice a b c,.int .u64 aM] Z fun a b=>
 cT a fun a=>
 cP a fun a c d e=>
 dJ e .u64 fun e e=>
 dJ e .i64 fun e e=>
 b5 e <| aY j9.id #[.slice a c d,.int .u64 aM] b fun a b=>
 cT a fun a=>
 cP a fun a c d e=>
 dJ e .u64 fun e e=>
 dJ e .i64 fun e e=>
 b5 e <| Y (.slice a c d) b)
def aL.g(Y:aD)(X:Fr)(Z:U):Prop:=aQ (X 0) fun a b c=>aW .u64 (X 1) fun aM=>aL.t Y a b c aM Z
theorem aL.ok(Y:aD)(X:Fr)(Z:U)(g:aL.g Y X Z):den prog E aO (a8 E [.tmp 4] Y) X Z:=
 bD g fun a b c d g=>bB g fun aM e g=>bS [(0,.slice a b c),(1,.int .u64 aM)] ⟨d,e,trivial⟩ (by kernel_rfl) g
def t(a:M)(b c:Nat)(aM:Int)(Z:U)(Y:aD):Prop:=aL.t Y a b c aM Z
theorem ok{a:M}{b:Nat}{d:Nat}{aM:Int}{Z:U}{Y:aD}(g:t a b d aM Z Y):aY id #[.slice a b d,.int .u64 aM] Z Y:=
 dL dI (c:=aO) (dC:=[.tmp 4]) Tryz.func117 (by kernel_rfl) (by kernel_rfl) (by kernel_rfl) (args:=[.slice a b d,.int .u64 aM]) (by kernel_rfl) (aL.ok Y _ Z (bE rfl (bQ rfl (g))))
end qU
namespace g2
noncomputable def aO:Code:=dK Tryz.f118
def b7.t(Y:aD)(a b:Int)(c d:Int)(e f:Int)(Z:U):Prop:=
 a5 (IntKind.u64.wrap (d*4294967296)) fun d=>
 a5 (IntKind.u64.wrap (d+f)) fun d=>
 a5 (IntKind.u64.wrap (e*4294967296)) fun e=>
 a5 (IntKind.u64.wrap (e+c)) fun c=>
 a5 (IntKind.u64.wrap (f*a)) fun a=>
 a5 (IntKind.u64.wrap (c - a)) fun a=>
 0≤b∧a5 (g6 .u64 a b) fun a=>
 Y (.tuple #[.int .u64 d,.int .u64 a]) Z
def b7.g(Y:aD)(X:Fr)(Z:U):Prop:=aW .u64 (X 2) fun a=>aW .u64 (X 8) fun b=>aW .u64 (X 14) fun c=>aW .u64 (X 15) fun d=>aW .u64 (X 17) fun e=>aW .u64 (X 18) fun f=>b7.t Y a b c d e f Z
theorem b7.ok(Y:aD)(X:Fr)(Z:U)(g:b7.g Y X Z):den prog E (a3 aO [W,W,W,W,W,W,W,W,W,W,W,W,W,W,W,W,W,W,W]) (a8 E [.tmp 6,.tmp 7] Y) X Z:=
 bB g fun a b g=>bB g fun c d g=>bB g fun e f g=>bB g fun h i g=>bB g fun j k g=>bB g fun l m g=>bS [(2,.int .u64 a),(8,.int .u64 c),(14,.int .u64 e),(15,.int .u64 h),(17,.int .u64 j),(18,.int .u64 l)] ⟨b,d,f,i,k,m,trivial⟩ (by kernel_rfl) g
def gX.g(a:Int→Int→Int→Int→Int→Int→Int→Int→Int→U→Prop)(X:Fr)(Z:U):Prop:=aW .u64 (X 2) fun b=>aW .u64 (X 8) fun c=>aW .u64 (X 9) fun d=>aW .u64 (X 10) fun e=>aW .u64 (X 14) fun f=>aW .u64 (X 15) fun h=>aW .u64 (X 16) fun i=>aW .u64 (X 17) fun j=>aW .u64 (X 18) fun k=>a b c d e f h i j k Z
def eW.t(Y:aD)(a:Int→Int→Int→Int→Int→Int→Int→Int→Int→U→Prop)(b c:Int)(d e:Int)(f g:Int)(h i j:Int)(Z:U):Prop:=
 a5 (IntKind.u64.wrap (j - 1)) fun j=>
 a5 (IntKind.u64.wrap (h+d)) fun h=>
 cond (decide (h≥4294967296)) (b7.t Y b c f g i j Z) (a b c d e f g h i j Z)
def eW.g(Y:aD)(a:Int→Int→Int→Int→Int→Int→Int→Int→Int→U→Prop)(X:Fr)(Z:U):Prop:=aW .u64 (X 2) fun b=>aW .u64 (X 8) fun c=>aW .u64 (X 9) fun d=>aW .u64 (X 10) fun e=>aW .u64 (X 14) fun f=>aW .u64 (X 15) fun h=>aW .u64 (X 16) fun i=>aW .u64 (X 17) fun j=>aW .u64 (X 18) fun k=>eW.t Y a b c d e f h i j k Z
theorem eW.ok(Y:aD)(a:Int→Int→Int→Int→Int→Int→Int→Int→Int→U→Prop)(X:Fr)(Z:U)(g:eW.g Y a X Z):den prog E (a3 aO [W,W,W,W,W,W,W,W,W,W,W,W,W,W,W,W,W,W,aT,aT,aT,W]) (a1.then (gX.g a) (a1.inBlock 2 (a1.then (b7.g Y) (a8 E [.tmp 6,.tmp 7] Y)))) X Z:=
 bB g fun a b g=>bB g fun c d g=>bB g fun e f g=>bB g fun h i g=>bB g fun j k g=>bB g fun l m g=>bB g fun n o g=>bB g fun p q g=>bB g fun r s g=>bS [(2,.int .u64 a),(8,.int .u64 c),(9,.int .u64 e),(10,.int .u64 h),(14,.int .u64 j),(15,.int .u64 l),(16,.int .u64 n),(17,.int .u64 p),(18,.int .u64 r)] ⟨b,d,f,i,k,m,o,q,s,trivial⟩ (by kernel_rfl) g
def e0.t(Y:aD)(a:Int→Int→Int→Int→Int→Int→Int→Int→Int→U→Prop)(b c:Int)(d e:Int)(f g:Int)(h i j:Int)(Z:U):Prop:=
 cond (decide (j≥4294967296)) (eW.t Y a b c d e f g h i j Z) (a5 (IntKind.u64.wrap (j*e)) fun k=>
 a5 (IntKind.u64.wrap (4294967296*h)) fun l=>
 a5 (IntKind.u64.wrap (l+f)) fun l=>
 cond (decide (k > l)) (eW.t Y a b c d e f g h i j Z) (b7.t Y b c f g i j Z))
def e0.g(Y:aD)(a:Int→Int→Int→Int→Int→Int→Int→Int→Int→U→Prop)(X:Fr)(Z:U):Prop:=aW .u64 (X 2) fun b=>aW .u64 (X 8) fun c=>aW .u64 (X 9) fun d=>aW .u64 (X 10) fun e=>aW .u64 (X 14) fun f=>aW .u64 (X 15) fun h=>aW .u64 (X 16) fun i=>aW .u64 (X 17) fun j=>aW .u64 (X 18) fun k=>e0.t Y a b c d e f h i j k Z
theorem e0.ok(Y:aD)(a:Int→Int→Int→Int→Int→Int→Int→Int→Int→U→Prop)(X:Fr)(Z:U)(g:e0.g Y a X Z):den prog E (a3 aO [W,W,W,W,W,W,W,W,W,W,W,W,W,W,W,W,W,W,aT,aT,aT]) (a1.then (gX.g a) (a1.inBlock 2 (a1.then (b7.g Y) (a8 E [.tmp 6,.tmp 7] Y)))) X Z:=
 bB g fun b c g=>bB g fun d e g=>bB g fun f h g=>bB g fun i j g=>bB g fun k l g=>bB g fun m n g=>bB g fun o p g=>bB g fun q s g=>bB g fun t u g=>c4 1 (r:=(a3 aO [W,W,W,W,W,W,W,W,W,W,W,W,W,W,W,W,W,W,aT,aT,aT,W])) (by kernel_rfl) (eW.ok Y a) (bS [(2,.int .u64 b),(8,.int .u64 d),(9,.int .u64 f),(10,.int .u64 i),(14,.int .u64 k),(15,.int .u64 m),(16,.int .u64 o),(17,.int .u64 q),(18,.int .u64 t)] ⟨c,e,h,j,l,n,p,s,u,trivial⟩ (by kernel_rfl) g)
def gX.t(Y:aD):Nat→Int→Int→Int→Int→Int→Int→Int→Int→Int→U→Prop
 | 0=>fun _ _ _ _ _ _ _ _ _ _=>False
 | n+1=>fun a b c d e f g h i Z=>e0.t Y (gX.t Y n) a b c d e f g h i Z
theorem gX.ok(Y:aD)(X:Fr)(Z:U)(g:gX.g (fun a b c d e f h i j Z=>∃ n,gX.t Y n a b c d e f h i j Z) X Z):den prog E (a3 aO [W,W,W,W,W,W,W,W,W,W,W,W,W,W,W,W,W,W,aT,aT]) (a1.inBlock 2 (a1.then (b7.g Y) (a8 E [.tmp 6,.tmp 7] Y))) X Z:=by
 obtain⟨a,k,g⟩:=bN g
 obtain⟨b,l,g⟩:=bN g
 obtain⟨c,m,g⟩:=bN g
 obtain⟨d,o,g⟩:=bN g
 obtain⟨e,p,g⟩:=bN g
 obtain⟨f,q,g⟩:=bN g
 obtain⟨h,r,g⟩:=bN g
 obtain⟨i,s,g⟩:=bN g
 obtain⟨j,u,g⟩:=bN g
 obtain⟨n,g⟩:=g
 refine fK (fun n=>gX.g (gX.t Y n)) (L:=(a3 aO [W,W,W,W,W,W,W,W,W,W,W,W,W,W,W,W,W,W,aT,aT,aT])) (by kernel_rfl) (fun X Z g=>?_) (fun n=>e0.ok Y (gX.t Y n)) n X Z (bQ k (bQ l (bQ m (bQ o (bQ p (bQ q (bQ r (bQ s (bQ u (g))))))))))
 obtain⟨a,k,g⟩:=bN g
 obtain⟨b,l,g⟩:=bN g
 obtain⟨c,m,g⟩:=bN g
 obtain⟨d,o,g⟩:=bN g
 obtain⟨e,p,g⟩:=bN g
 obtain⟨f,q,g⟩:=bN g
 obtain⟨h,r,g⟩:=bN g
 obtain⟨i,s,g⟩:=bN g
 obtain⟨j,u,g⟩:=bN g
 exact g
theorem yN.ok(Y:aD)(X:Fr)(Z:U)(g:gX.g (fun a b c d e f h i j Z=>∃ n,gX.t Y n a b c d e f h i j Z) X Z):den prog E (a3 aO [W,W,W,W,W,W,W,W,W,W,W,W,W,W,W,W,W,W,aT]) (a1.then (b7.g Y) (a8 E [.tmp 6,.tmp 7] Y)) X Z:=
 fC (by kernel_rfl) (gX.ok Y X Z g)
theorem yO.ok(Y:aD)(X:Fr)(Z:U)(g:gX.g (fun a b c d e f h i j Z=>∃ n,gX.t Y n a b c d e f h i j Z) X Z):den prog E (a3 aO [W,W,W,W,W,W,W,W,W,W,W,W,W,W,W,W,W,W]) (a8 E [.tmp 6,.tmp 7] Y) X Z:=
 gA (by kernel_rfl) (b7.ok Y) (yN.ok Y X Z g)
def cE.t(Y:aD)(a b:Int)(c d:Int)(e f:Int)(g h:Int)(Z:U):Prop:=
 a5 (IntKind.u64.wrap (e*4294967296)) fun e=>
 a5 (IntKind.u64.wrap (e+f)) fun e=>
 a5 (IntKind.u64.wrap (h*a)) fun f=>
 a5 (IntKind.u64.wrap (e - f)) fun e=>
 c ≠ 0∧a5 (IntKind.u64.wrap (Int.tdiv e c)) fun f=>
 a5 (IntKind.u64.wrap (f*c)) fun i=>
 a5 (IntKind.u64.wrap (e - i)) fun i=>
 (∃ n,gX.t Y n a b c d g h i e f Z)
def cE.g(Y:aD)(X:Fr)(Z:U):Prop:=aW .u64 (X 2) fun a=>aW .u64 (X 8) fun b=>aW .u64 (X 9) fun c=>aW .u64 (X 10) fun d=>aW .u64 (X 11) fun e=>aW .u64 (X 13) fun f=>aW .u64 (X 14) fun h=>aW .u64 (X 15) fun i=>cE.t Y a b c d e f h i Z
theorem cE.ok(Y:aD)(X:Fr)(Z:U)(g:cE.g Y X Z):den prog E (a3 aO [W,W,W,W,W,W,W,W,W,W,W,W,W,W,W]) (a8 E [.tmp 6,.tmp 7] Y) X Z:=
 bB g fun a b g=>bB g fun c d g=>bB g fun e f g=>bB g fun h i g=>bB g fun j k g=>bB g fun l m g=>bB g fun n o g=>bB g fun p q g=>c4 3 (r:=(a3 aO [W,W,W,W,W,W,W,W,W,W,W,W,W,W,W,W,W,W])) (by kernel_rfl) (yO.ok Y) (bS [(2,.int .u64 a),(8,.int .u64 c),(9,.int .u64 e),(10,.int .u64 h),(11,.int .u64 j),(13,.int .u64 l),(14,.int .u64 n),(15,.int .u64 p)] ⟨b,d,f,i,k,m,o,q,trivial⟩ (by kernel_rfl) g)
def jU.g(a:Int→Int→Int→Int→Int→Int→Int→Int→Int→U→Prop)(X:Fr)(Z:U):Prop:=aW .u64 (X 2) fun b=>aW .u64 (X 8) fun c=>aW .u64 (X 9) fun d=>aW .u64 (X 10) fun e=>aW .u64 (X 11) fun f=>aW .u64 (X 13) fun h=>aW .u64 (X 14) fun i=>aW .u64 (X 15) fun j=>aW .u64 (X 16) fun k=>a b c d e f h i j k Z
def oU.t(Y:aD)(a:Int→Int→Int→Int→Int→Int→Int→Int→Int→U→Prop)(b c:Int)(d e:Int)(f g:Int)(h i j:Int)(Z:U):Prop:=
 a5 (IntKind.u64.wrap (i - 1)) fun i=>
 a5 (IntKind.u64.wrap (j+d)) fun j=>
 cond (decide (j≥4294967296)) (cE.t Y b c d e f g h i Z) (a b c d e f g h i j Z)
def oU.g(Y:aD)(a:Int→Int→Int→Int→Int→Int→Int→Int→Int→U→Prop)(X:Fr)(Z:U):Prop:=aW .u64 (X 2) fun b=>aW .u64 (X 8) fun c=>aW .u64 (X 9) fun d=>aW .u64 (X 10) fun e=>aW .u64 (X 11) fun f=>aW .u64 (X 13) fun h=>aW .u64 (X 14) fun i=>aW .u64 (X 15) fun j=>aW .u64 (X 16) fun k=>oU.t Y a b c d e f h i j k Z
theorem oU.ok(Y:aD)(a:Int→Int→Int→Int→Int→Int→Int→Int→Int→U→Prop)(X:Fr)(Z:U)(g:oU.g Y a X Z):den prog E (a3 aO [W,W,W,W,W,W,W,W,W,W,W,W,W,W,aT,aT,aT,W]) (a1.then (jU.g a) (a1.inBlock 0 (a1.then (cE.g Y) (a8 E [.tmp 6,.tmp 7] Y)))) X Z:=
 bB g fun a b g=>bB g fun c d g=>bB g fun e f g=>bB g fun h i g=>bB g fun j k g=>bB g fun l m g=>bB g fun n o g=>bB g fun p q g=>bB g fun r s g=>bS [(2,.int .u64 a),(8,.int .u64 c),(9,.int .u64 e),(10,.int .u64 h),(11,.int .u64 j),(13,.int .u64 l),(14,.int .u64 n),(15,.int .u64 p),(16,.int .u64 r)] ⟨b,d,f,i,k,m,o,q,s,trivial⟩ (by kernel_rfl) g
def rU.t(Y:aD)(a:Int→Int→Int→Int→Int→Int→Int→Int→Int→U→Prop)(b c:Int)(d e:Int)(f g:Int)(h i j:Int)(Z:U):Prop:=
 cond (decide (i≥4294967296)) (oU.t Y a b c d e f g h i j Z) (a5 (IntKind.u64.wrap (i*e)) fun k=>
 a5 (IntKind.u64.wrap (4294967296*j)) fun l=>
 a5 (IntKind.u64.wrap (l+g)) fun l=>
 cond (decide (k > l)) (oU.t Y a b c d e f g h i j Z) (cE.t Y b c d e f g h i Z))
def rU.g(Y:aD)(a:Int→Int→Int→Int→Int→Int→Int→Int→Int→U→Prop)(X:Fr)(Z:U):Prop:=aW .u64 (X 2) fun b=>aW .u64 (X 8) fun c=>aW .u64 (X 9) fun d=>aW .u64 (X 10) fun e=>aW .u64 (X 11) fun f=>aW .u64 (X 13) fun h=>aW .u64 (X 14) fun i=>aW .u64 (X 15) fun j=>aW .u64 (X 16) fun k=>rU.t Y a b c d e f h i j k Z
theorem rU.ok(Y:aD)(a:Int→Int→Int→Int→Int→Int→Int→Int→Int→U→Prop)(X:Fr)(Z:U)(g:rU.g Y a X Z):den prog E (a3 aO [W,W,W,W,W,W,W,W,W,W,W,W,W,W,aT,aT,aT]) (a1.then (jU.g a) (a1.inBlock 0 (a1.then (cE.g Y) (a8 E [.tmp 6,.tmp 7] Y)))) X Z:=
 bB g fun b c g=>bB g fun d e g=>bB g fun f h g=>bB g fun i j g=>bB g fun k l g=>bB g fun m n g=>bB g fun o p g=>bB g fun q s g=>bB g fun t u g=>c4 1 (r:=(a3 aO [W,W,W,W,W,W,W,W,W,W,W,W,W,W,aT,aT,aT,W])) (by kernel_rfl) (oU.ok Y a) (bS [(2,.int .u64 b),(8,.int .u64 d),(9,.int .u64 f),(10,.int .u64 i),(11,.int .u64 k),(13,.int .u64 m),(14,.int .u64 o),(15,.int .u64 q),(16,.int .u64 t)] ⟨c,e,h,j,l,n,p,s,u,trivial⟩ (by kernel_rfl) g)
def jU.t(Y:aD):Nat→Int→Int→Int→Int→Int→Int→Int→Int→Int→U→Prop
 | 0=>fun _ _ _ _ _ _ _ _ _ _=>False
 | n+1=>fun a b c d e f g h i Z=>rU.t Y (jU.t Y n) a b c d e f g h i Z
theorem jU.ok(Y:aD)(X:Fr)(Z:U)(g:jU.g (fun a b c d e f h i j Z=>∃ n,jU.t Y n a b c d e f h i j Z) X Z):den prog E (a3 aO [W,W,W,W,W,W,W,W,W,W,W,W,W,W,aT,aT]) (a1.inBlock 0 (a1.then (cE.g Y) (a8 E [.tmp 6,.tmp 7] Y))) X Z:=by
 obtain⟨a,k,g⟩:=bN g
 obtain⟨b,l,g⟩:=bN g
 obtain⟨c,m,g⟩:=bN g
 obtain⟨d,o,g⟩:=bN g
 obtain⟨e,p,g⟩:=bN g
 obtain⟨f,q,g⟩:=bN g
 obtain⟨h,r,g⟩:=bN g
 obtain⟨i,s,g⟩:=bN g
 obtain⟨j,u,g⟩:=bN g
 obtain⟨n,g⟩:=g
 refine fK (fun n=>jU.g (jU.t Y n)) (L:=(a3 aO [W,W,W,W,W,W,W,W,W,W,W,W,W,W,aT,aT,aT])) (by kernel_rfl) (fun X Z g=>?_) (fun n=>rU.ok Y (jU.t Y n)) n X Z (bQ k (bQ l (bQ m (bQ o (bQ p (bQ q (bQ r (bQ s (bQ u (g))))))))))
 obtain⟨a,k,g⟩:=bN g
 obtain⟨b,l,g⟩:=bN g
 obtain⟨c,m,g⟩:=bN g
 obtain⟨d,o,g⟩:=bN g
 obtain⟨e,p,g⟩:=bN g
 obtain⟨f,q,g⟩:=bN g
 obtain⟨h,r,g⟩:=bN g
 obtain⟨i,s,g⟩:=bN g
 obtain⟨j,u,g⟩:=bN g
 exact g
theorem rA.ok(Y:aD)(X:Fr)(Z:U)(g:jU.g (fun a b c d e f h i j Z=>∃ n,jU.t Y n a b c d e f h i j Z) X Z):den prog E (a3 aO [W,W,W,W,W,W,W,W,W,W,W,W,W,W,aT]) (a1.then (cE.g Y) (a8 E [.tmp 6,.tmp 7] Y)) X Z:=
 fC (by kernel_rfl) (jU.ok Y X Z g)
theorem yL.ok(Y:aD)(X:Fr)(Z:U)(g:jU.g (fun a b c d e f h i j Z=>∃ n,jU.t Y n a b c d e f h i j Z) X Z):den prog E (a3 aO [W,W,W,W,W,W,W,W,W,W,W,W,W,W]) (a8 E [.tmp 6,.tmp 7] Y) X Z:=
 gA (by kernel_rfl) (cE.ok Y) (rA.ok Y X Z g)
def bF.t(Y:aD)(aS aM a:Int)(Z:U):Prop:=
 cond (aS == 0) (a ≠ 0∧a5 (IntKind.u64.wrap (Int.tdiv aM a)) fun dY=>
 a ≠ 0∧a5 (Int.tmod aM a) fun b=>
 Y (.tuple #[.int .u64 dY,.int .u64 b]) Z) (aY rT.id #[.int .u64 a] Z fun b c=>
 aW .i64 b fun b=>
 a5 (IntKind.u64.wrap b) fun b=>
 0≤b∧a5 (h4 .u64 a b) fun a=>
 0≤(32:Int)∧a5 (g6 .u64 a 32) fun d=>
 a5 (jE .u64 a 4294967295) fun e=>
 0≤b∧a5 (h4 .u64 aS b) fun f=>
 a5 (IntKind.u64.wrap (64 - b)) fun g=>
 0≤g∧a5 (g6 .u64 aM g) fun g=>
 a5 (uR .u64 f g) fun f=>
 0≤b∧a5 (h4 .u64 aM b) fun g=>
 0≤(32:Int)∧a5 (g6 .u64 g 32) fun h=>
 a5 (jE .u64 g 4294967295) fun g=>
 d ≠ 0∧a5 (IntKind.u64.wrap (Int.tdiv f d)) fun i=>
 a5 (IntKind.u64.wrap (i*d)) fun j=>
 a5 (IntKind.u64.wrap (f - j)) fun j=>
 (∃ n,jU.t Y n a b d e f h g i j c))
def bF.g(Y:aD)(X:Fr)(Z:U):Prop:=aW .u64 (X 0) fun aS=>aW .u64 (X 1) fun aM=>aW .u64 (X 2) fun a=>bF.t Y aS aM a Z
theorem bF.ok(Y:aD)(X:Fr)(Z:U)(g:bF.g Y X Z):den prog E (a3 aO [W,W,W]) (a8 E [.tmp 6,.tmp 7] Y) X Z:=
 bB g fun aS a g=>bB g fun aM b g=>bB g fun c d g=>c4 11 (r:=(a3 aO [W,W,W,W,W,W,W,W,W,W,W,W,W,W])) (by kernel_rfl) (yL.ok Y) (bS [(0,.int .u64 aS),(1,.int .u64 aM),(2,.int .u64 c)] ⟨a,b,d,trivial⟩ (by kernel_rfl) g)
def a0.t(Y:aD)(aS aM a:Int)(Z:U):Prop:=
 cond (decide (a≤aS)) (False) (bF.t Y aS aM a Z)
def a0.g(Y:aD)(X:Fr)(Z:U):Prop:=aW .u64 (X 0) fun aS=>aW .u64 (X 1) fun aM=>aW .u64 (X 2) fun a=>a0.t Y aS aM a Z
theorem a0.ok(Y:aD)(X:Fr)(Z:U)(g:a0.g Y X Z):den prog E (a3 aO [W,W]) (a8 E [.tmp 6,.tmp 7] Y) X Z:=
 bB g fun aS a g=>bB g fun aM b g=>bB g fun c d g=>c4 1 (r:=(a3 aO [W,W,W])) (by kernel_rfl) (bF.ok Y) (bS [(0,.int .u64 aS),(1,.int .u64 aM),(2,.int .u64 c)] ⟨a,b,d,trivial⟩ (by kernel_rfl) g)
def aL.t(Y:aD)(aS aM a:Int)(Z:U):Prop:=
 cond (a == 0) (False) (a0.t Y aS aM a Z)
def aL.g(Y:aD)(X:Fr)(Z:U):Prop:=aW .u64 (X 0) fun aS=>aW .u64 (X 1) fun aM=>aW .u64 (X 2) fun a=>aL.t Y aS aM a Z
theorem aL.ok(Y:aD)(X:Fr)(Z:U)(g:aL.g Y X Z):den prog E aO (a8 E [.tmp 6,.tmp 7] Y) X Z:=
 bB g fun aS a g=>bB g fun aM b g=>bB g fun c d g=>c4 2 (r:=(a3 aO [W,W])) (by kernel_rfl) (a0.ok Y) (bS [(0,.int .u64 aS),(1,.int .u64 aM),(2,.int .u64 c)] ⟨a,b,d,trivial⟩ (by kernel_rfl) g)
def t(aS aM a:Int)(Z:U)(Y:aD):Prop:=aL.t Y aS aM a Z
theorem ok{aS:Int}{aM:Int}{a:Int}{Z:U}{Y:aD}(g:t aS aM a Z Y):aY id #[.int .u64 aS,.int .u64 aM,.int .u64 a] Z Y:=
 dL dI (c:=aO) (dC:=[.tmp 6,.tmp 7]) Tryz.func118 (by kernel_rfl) (by kernel_rfl) (by kernel_rfl) (args:=[.int .u64 aS,.int .u64 aM,.int .u64 a]) (by kernel_rfl) (aL.ok Y _ Z (bQ rfl (bQ rfl (bQ rfl (g)))))
end g2
namespace tG
noncomputable def aO:Code:=dK Tryz.f119
def aL.t(Y:aD)(aS aM a:Int)(Z:U):Prop:=
 cond (decide (aS≥a)) (Y (.int .u64 18446744073709551615) Z) (aY g2.id #[.int .u64 aS,.int .u64 aM,.int .u64 a] Z fun a b=>
 cT a fun a=>
 dJ a .u64 fun a c=>
 dJ c .u64 fun c c=>
 b5 c <| Y (.int .u64 a) b)
def aL.g(Y:aD)(X:Fr)(Z:U):Prop:=aW .u64 (X 0) fun aS=>aW .u64 (X 1) fun aM=>aW .u64 (X 2) fun a=>aL.t Y aS aM a Z
theorem aL.ok(Y:aD)(X:Fr)(Z:U)(g:aL.g Y X Z):den prog E aO (a8 E [.tmp 6] Y) X Z:=
 bB g fun aS a g=>bB g fun aM b g=>bB g fun c d g=>bS [(0,.int .u64 aS),(1,.int .u64 aM),(2,.int .u64 c)] ⟨a,b,d,trivial⟩ (by kernel_rfl) g
def t(aS aM a:Int)(Z:U)(Y:aD):Prop:=aL.t Y aS aM a Z
theorem ok{aS:Int}{aM:Int}{a:Int}{Z:U}{Y:aD}(g:t aS aM a Z Y):aY id #[.int .u64 aS,.int .u64 aM,.int .u64 a] Z Y:=
 dL dI (c:=aO) (dC:=[.tmp 6]) Tryz.func119 (by kernel_rfl) (by kernel_rfl) (by kernel_rfl) (args:=[.int .u64 aS,.int .u64 aM,.int .u64 a]) (by kernel_rfl) (aL.ok Y _ Z (bQ rfl (bQ rfl (bQ rfl (g)))))
end tG
namespace mK
noncomputable def aO:Code:=dK Tryz.f120
def a0.t(Y:aD)(a:M)(b c:Nat)(aJ:M)(aI aG:Nat)(c d:Int)(Z:U):Prop:=
 c7 a b (((aI:Nat):Int)) 1 fun b8=>
 cY Z .u64 b8 fun e=>
 rD e c d fun c d=>
 c7 a b (((aI:Nat):Int)) 1 fun a=>
 cC Z a (.int .u64 c) fun a=>
 Y (.int .u64 d) a
def a0.g(Y:aD)(X:Fr)(Z:U):Prop:=aQ (X 0) fun a b c=>aQ (X 1) fun aJ aI aG=>aW .u64 (X 7) fun d=>aW .u64 (X 8) fun e=>a0.t Y a b c aJ aI aG d e Z
theorem a0.ok(Y:aD)(X:Fr)(Z:U)(g:a0.g Y X Z):den prog E (a3 aO [W,W,W]) (a8 E [.tmp 6] Y) X Z:=
 bD g fun a b c d g=>bD g fun aJ aI aG e g=>bB g fun f h g=>bB g fun i j g=>bS [(0,.slice a b c),(1,.slice aJ aI aG),(7,.int .u64 f),(8,.int .u64 i)] ⟨d,e,h,j,trivial⟩ (by kernel_rfl) g
def bL.g(a:M→Nat→Nat→M→Nat→Nat→Int→Int→Int→Int→Int→U→Prop)(X:Fr)(Z:U):Prop:=aQ (X 0) fun b c d=>aQ (X 1) fun aJ aI aG=>aW .u64 (X 2) fun e=>aW .u64 (X 7) fun f=>aW .u64 (X 8) fun h=>aW .i64 (X 14) fun i=>aW .i64 (X 15) fun j=>a b c d aJ aI aG e f h i j Z
def b7.t(Y:aD)(a:M→Nat→Nat→M→Nat→Nat→Int→Int→Int→Int→Int→U→Prop)(b:M)(c d:Nat)(aJ:M)(aI aG:Nat)(e f:Int)(g h i:Int)(Z:U):Prop:=
 cond (decide (i < h)) (c7 aJ aI i 1 fun j=>
 cY Z .u64 j fun j=>
 aY qN.id #[.int .u64 j,.int .u64 e] Z fun j k=>
 cT j fun j=>
 dJ j .u64 fun j l=>
 dJ l .u64 fun l m=>
 b5 m <| nS l f 0 fun l m=>
 a5 (IntKind.u64.wrap (j+m)) fun j=>
 c7 b c i 1 fun m=>
 cY k .u64 m fun m=>
 rD m l g fun l m=>
 c7 b c i 1 fun n=>
 cC k n (.int .u64 l) fun k=>
 a5 (IntKind.i64.wrap (i+1)) fun i=>
 a b c d aJ aI aG e j m h i k) (a0.t Y b c d aJ aI aG f g Z)
def b7.g(Y:aD)(a:M→Nat→Nat→M→Nat→Nat→Int→Int→Int→Int→Int→U→Prop)(X:Fr)(Z:U):Prop:=aQ (X 0) fun b c d=>aQ (X 1) fun aJ aI aG=>aW .u64 (X 2) fun e=>aW .u64 (X 7) fun f=>aW .u64 (X 8) fun h=>aW .i64 (X 14) fun i=>aW .i64 (X 15) fun j=>b7.t Y a b c d aJ aI aG e f h i j Z
theorem b7.ok(Y:aD)(a:M→Nat→Nat→M→Nat→Nat→Int→Int→Int→Int→Int→U→Prop)(X:Fr)(Z:U)(g:b7.g Y a X Z):den prog E (a3 aO [W,W,aT,W,aT,aT]) (a1.then (bL.g a) (a1.inBlock 0 (a1.then (a0.g Y) (a8 E [.tmp 6] Y)))) X Z:=
 bD g fun a b c d g=>bD g fun aJ aI aG e g=>bB g fun f h g=>bB g fun i j g=>bB g fun k l g=>bB g fun m n g=>bB g fun o p g=>bS [(0,.slice a b c),(1,.slice aJ aI aG),(2,.int .u64 f),(7,.int .u64 i),(8,.int .u64 k),(14,.int .i64 m),(15,.int .i64 o)] ⟨d,e,h,j,l,n,p,trivial⟩ (by kernel_rfl) g
def bL.t(Y:aD):Nat→M→Nat→Nat→M→Nat→Nat→Int→Int→Int→Int→Int→U→Prop
 | 0=>fun _ _ _ _ _ _ _ _ _ _ _ _=>False
 | n+1=>fun a b c aJ aI aG d e f g h Z=>b7.t Y (bL.t Y n) a b c aJ aI aG d e f g h Z
theorem bL.ok(Y:aD)(X:Fr)(Z:U)(g:bL.g (fun a b c aJ aI aG d e f h i Z=>∃ n,bL.t Y n a b c aJ aI aG d e f h i Z) X Z):den prog E (a3 aO [W,W,aT,W,aT]) (a1.inBlock 0 (a1.then (a0.g Y) (a8 E [.tmp 6] Y))) X Z:=by
 obtain⟨a,b,c,j,g⟩:=b4 g
 obtain⟨aJ,aI,aG,k,g⟩:=b4 g
 obtain⟨d,l,g⟩:=bN g
 obtain⟨e,m,g⟩:=bN g
 obtain⟨f,o,g⟩:=bN g
 obtain⟨h,p,g⟩:=bN g
 obtain⟨i,q,g⟩:=bN g
 obtain⟨n,g⟩:=g
 refine fK (fun n=>bL.g (bL.t Y n)) (L:=(a3 aO [W,W,aT,W,aT,aT])) (by kernel_rfl) (fun X Z g=>?_) (fun n=>b7.ok Y (bL.t Y n)) n X Z (bE j (bE k (bQ l (bQ m (bQ o (bQ p (bQ q (g))))))))
 obtain⟨a,b,c,j,g⟩:=b4 g
 obtain⟨aJ,aI,aG,k,g⟩:=b4 g
 obtain⟨d,l,g⟩:=bN g
 obtain⟨e,m,g⟩:=bN g
 obtain⟨f,o,g⟩:=bN g
 obtain⟨h,p,g⟩:=bN g
 obtain⟨i,q,g⟩:=bN g
 exact g
theorem g3.ok(Y:aD)(X:Fr)(Z:U)(g:bL.g (fun a b c aJ aI aG d e f h i Z=>∃ n,bL.t Y n a b c aJ aI aG d e f h i Z) X Z):den prog E (a3 aO [W,W,aT,W]) (a1.then (a0.g Y) (a8 E [.tmp 6] Y)) X Z:=
 fC (by kernel_rfl) (bL.ok Y X Z g)
def bF.t(Y:aD)(a:M)(b c:Nat)(aJ:M)(aI aG:Nat)(d e f:Int)(Z:U):Prop:=
 (∃ n,bL.t Y n a b c aJ aI aG d e f (((aI:Nat):Int)) 0 Z)
def bF.g(Y:aD)(X:Fr)(Z:U):Prop:=aQ (X 0) fun a b c=>aQ (X 1) fun aJ aI aG=>aW .u64 (X 2) fun d=>aW .u64 (X 7) fun e=>aW .u64 (X 8) fun f=>bF.t Y a b c aJ aI aG d e f Z
theorem bF.ok(Y:aD)(X:Fr)(Z:U)(g:bF.g Y X Z):den prog E (a3 aO [W,W,aT]) (a1.then (a0.g Y) (a8 E [.tmp 6] Y)) X Z:=
 bD g fun a b c d g=>bD g fun aJ aI aG e g=>bB g fun f h g=>bB g fun i j g=>bB g fun k l g=>c4 1 (r:=(a3 aO [W,W,aT,W])) (by kernel_rfl) (g3.ok Y) (bS [(0,.slice a b c),(1,.slice aJ aI aG),(2,.int .u64 f),(7,.int .u64 i),(8,.int .u64 k)] ⟨d,e,h,j,l,trivial⟩ (by kernel_rfl) g)
theorem g4.ok(Y:aD)(X:Fr)(Z:U)(g:bF.g Y X Z):den prog E (a3 aO [W,W]) (a8 E [.tmp 6] Y) X Z:=
 gA (by kernel_rfl) (a0.ok Y) (bF.ok Y X Z g)
def aL.t(Y:aD)(a:M)(b c:Nat)(aJ:M)(aI aG:Nat)(d:Int)(Z:U):Prop:=
 bF.t Y a b c aJ aI aG d 0 0 Z
def aL.g(Y:aD)(X:Fr)(Z:U):Prop:=aQ (X 0) fun a b c=>aQ (X 1) fun aJ aI aG=>aW .u64 (X 2) fun d=>aL.t Y a b c aJ aI aG d Z
theorem aL.ok(Y:aD)(X:Fr)(Z:U)(g:aL.g Y X Z):den prog E aO (a8 E [.tmp 6] Y) X Z:=
 bD g fun a b c d g=>bD g fun aJ aI aG e g=>bB g fun f h g=>c4 2 (r:=(a3 aO [W,W])) (by kernel_rfl) (g4.ok Y) (bS [(0,.slice a b c),(1,.slice aJ aI aG),(2,.int .u64 f)] ⟨d,e,h,trivial⟩ (by kernel_rfl) g)
def t(a:M)(b c:Nat)(aJ:M)(aI aG:Nat)(d:Int)(Z:U)(Y:aD):Prop:=aL.t Y a b c aJ aI aG d Z
theorem ok{a:M}{b:Nat}{d:Nat}{aJ:M}{aI:Nat}{aG:Nat}{e:Int}{Z:U}{Y:aD}(g:t a b d aJ aI aG e Z Y):aY id #[.slice a b d,.slice aJ aI aG,.int .u64 e] Z Y:=
 dL dI (c:=aO) (dC:=[.tmp 6]) Tryz.func120 (by kernel_rfl) (by kernel_rfl) (by kernel_rfl) (args:=[.slice a b d,.slice aJ aI aG,.int .u64 e]) (by kernel_rfl) (aL.ok Y _ Z (bE rfl (bE rfl (bQ rfl (g)))))
end mK
namespace mL
noncomputable def aO:Code:=dK Tryz.f121
def a0.t(Y:aD)(a:M)(b c:Nat)(aJ:M)(aI aG:Nat)(c:Int)(Z:U):Prop:=
 c7 a b (((aI:Nat):Int)) 1 fun b8=>
 cY Z .u64 b8 fun d=>
 nS d 0 c fun c d=>
 c7 a b (((aI:Nat):Int)) 1 fun a=>
 cC Z a (.int .u64 c) fun a=>
 Y (.int .u64 d) a
def a0.g(Y:aD)(X:Fr)(Z:U):Prop:=aQ (X 0) fun a b c=>aQ (X 1) fun aJ aI aG=>aW .u64 (X 5) fun d=>a0.t Y a b c aJ aI aG d Z
theorem a0.ok(Y:aD)(X:Fr)(Z:U)(g:a0.g Y X Z):den prog E (a3 aO [W,W,W]) (a8 E [.tmp 4] Y) X Z:=
 bD g fun a b c d g=>bD g fun aJ aI aG e g=>bB g fun f h g=>bS [(0,.slice a b c),(1,.slice aJ aI aG),(5,.int .u64 f)] ⟨d,e,h,trivial⟩ (by kernel_rfl) g
def bL.g(a:M→Nat→Nat→M→Nat→Nat→Int→Int→Int→U→Prop)(X:Fr)(Z:U):Prop:=aQ (X 0) fun b c d=>aQ (X 1) fun aJ aI aG=>aW .u64 (X 5) fun e=>aW .i64 (X 8) fun f=>aW .i64 (X 9) fun h=>a b c d aJ aI aG e f h Z
def b7.t(Y:aD)(a:M→Nat→Nat→M→Nat→Nat→Int→Int→Int→U→Prop)(b:M)(c d:Nat)(aJ:M)(aI aG:Nat)(e f g:Int)(Z:U):Prop:=
 cond (decide (g < f)) (c7 b c g 1 fun h=>
 cY Z .u64 h fun h=>
 c7 aJ aI g 1 fun i=>
 cY Z .u64 i fun i=>
 nS h i e fun h i=>
 c7 b c g 1 fun j=>
 cC Z j (.int .u64 h) fun h=>
 a5 (IntKind.i64.wrap (g+1)) fun g=>
 a b c d aJ aI aG i f g h) (a0.t Y b c d aJ aI aG e Z)
def b7.g(Y:aD)(a:M→Nat→Nat→M→Nat→Nat→Int→Int→Int→U→Prop)(X:Fr)(Z:U):Prop:=aQ (X 0) fun b c d=>aQ (X 1) fun aJ aI aG=>aW .u64 (X 5) fun e=>aW .i64 (X 8) fun f=>aW .i64 (X 9) fun h=>b7.t Y a b c d aJ aI aG e f h Z
theorem b7.ok(Y:aD)(a:M→Nat→Nat→M→Nat→Nat→Int→Int→Int→U→Prop)(X:Fr)(Z:U)(g:b7.g Y a X Z):den prog E (a3 aO [W,W,aT,W,aT,aT]) (a1.then (bL.g a) (a1.inBlock 0 (a1.then (a0.g Y) (a8 E [.tmp 4] Y)))) X Z:=
 bD g fun a b c d g=>bD g fun aJ aI aG e g=>bB g fun f h g=>bB g fun i j g=>bB g fun k l g=>bS [(0,.slice a b c),(1,.slice aJ aI aG),(5,.int .u64 f),(8,.int .i64 i),(9,.int .i64 k)] ⟨d,e,h,j,l,trivial⟩ (by kernel_rfl) g
def bL.t(Y:aD):Nat→M→Nat→Nat→M→Nat→Nat→Int→Int→Int→U→Prop
 | 0=>fun _ _ _ _ _ _ _ _ _ _=>False
 | n+1=>fun a b c aJ aI aG d e f Z=>b7.t Y (bL.t Y n) a b c aJ aI aG d e f Z
theorem bL.ok(Y:aD)(X:Fr)(Z:U)(g:bL.g (fun a b c aJ aI aG d e f Z=>∃ n,bL.t Y n a b c aJ aI aG d e f Z) X Z):den prog E (a3 aO [W,W,aT,W,aT]) (a1.inBlock 0 (a1.then (a0.g Y) (a8 E [.tmp 4] Y))) X Z:=by
 obtain⟨a,b,c,h,g⟩:=b4 g
 obtain⟨aJ,aI,aG,i,g⟩:=b4 g
 obtain⟨d,j,g⟩:=bN g
 obtain⟨e,k,g⟩:=bN g
 obtain⟨f,l,g⟩:=bN g
 obtain⟨n,g⟩:=g
 refine fK (fun n=>bL.g (bL.t Y n)) (L:=(a3 aO [W,W,aT,W,aT,aT])) (by kernel_rfl) (fun X Z g=>?_) (fun n=>b7.ok Y (bL.t Y n)) n X Z (bE h (bE i (bQ j (bQ k (bQ l (g))))))
 obtain⟨a,b,c,h,g⟩:=b4 g
 obtain⟨aJ,aI,aG,i,g⟩:=b4 g
 obtain⟨d,j,g⟩:=bN g
 obtain⟨e,k,g⟩:=bN g
 obtain⟨f,l,g⟩:=bN g
 exact g
theorem g3.ok(Y:aD)(X:Fr)(Z:U)(g:bL.g (fun a b c aJ aI aG d e f Z=>∃ n,bL.t Y n a b c aJ aI aG d e f Z) X Z):den prog E (a3 aO [W,W,aT,W]) (a1.then (a0.g Y) (a8 E [.tmp 4] Y)) X Z:=
 fC (by kernel_rfl) (bL.ok Y X Z g)
def bF.t(Y:aD)(a:M)(b c:Nat)(aJ:M)(aI aG:Nat)(d:Int)(Z:U):Prop:=
 (∃ n,bL.t Y n a b c aJ aI aG d (((aI:Nat):Int)) 0 Z)
def bF.g(Y:aD)(X:Fr)(Z:U):Prop:=aQ (X 0) fun a b c=>aQ (X 1) fun aJ aI aG=>aW .u64 (X 5) fun d=>bF.t Y a b c aJ aI aG d Z
theorem bF.ok(Y:aD)(X:Fr)(Z:U)(g:bF.g Y X Z):den prog E (a3 aO [W,W,aT]) (a1.then (a0.g Y) (a8 E [.tmp 4] Y)) X Z:=
 bD g fun a b c d g=>bD g fun aJ aI aG e g=>bB g fun f h g=>c4 1 (r:=(a3 aO [W,W,aT,W])) (by kernel_rfl) (g3.ok Y) (bS [(0,.slice a b c),(1,.slice aJ aI aG),(5,.int .u64 f)] ⟨d,e,h,trivial⟩ (by kernel_rfl) g)
theorem g4.ok(Y:aD)(X:Fr)(Z:U)(g:bF.g Y X Z):den prog E (a3 aO [W,W]) (a8 E [.tmp 4] Y) X Z:=
 gA (by kernel_rfl) (a0.ok Y) (bF.ok Y X Z g)
def aL.t(Y:aD)(a:M)(b c:Nat)(aJ:M)(aI aG:Nat)(Z:U):Prop:=
 bF.t Y a b c aJ aI aG 0 Z
def aL.g(Y:aD)(X:Fr)(Z:U):Prop:=aQ (X 0) fun a b c=>aQ (X 1) fun aJ aI aG=>aL.t Y a b c aJ aI aG Z
theorem aL.ok(Y:aD)(X:Fr)(Z:U)(g:aL.g Y X Z):den prog E aO (a8 E [.tmp 4] Y) X Z:=
 bD g fun a b c d g=>bD g fun aJ aI aG e g=>c4 2 (r:=(a3 aO [W,W])) (by kernel_rfl) (g4.ok Y) (bS [(0,.slice a b c),(1,.slice aJ aI aG)] ⟨d,e,trivial⟩ (by kernel_rfl) g)
def t(a:M)(b c:Nat)(aJ:M)(aI aG:Nat)(Z:U)(Y:aD):Prop:=aL.t Y a b c aJ aI aG Z
theorem ok{a:M}{b:Nat}{d:Nat}{aJ:M}{aI:Nat}{aG:Nat}{Z:U}{Y:aD}(g:t a b d aJ aI aG Z Y):aY id #[.slice a b d,.slice aJ aI aG] Z Y:=
 dL dI (c:=aO) (dC:=[.tmp 4]) Tryz.func121 (by kernel_rfl) (by kernel_rfl) (by kernel_rfl) (args:=[.slice a b d,.slice aJ aI aG]) (by kernel_rfl) (aL.ok Y _ Z (bE rfl (bE rfl (g))))
end mL
namespace jW
noncomputable def aO:Code:=dK Tryz.f122
def dA.g(a:M→Nat→Nat→M→Nat→Nat→M→Nat→Nat→Int→Int→U→Prop)(X:Fr)(Z:U):Prop:=aQ (X 0) fun b c d=>aQ (X 1) fun aJ aI aG=>aQ (X 2) fun bJ bZ bG=>aW .i64 (X 13) fun e=>aW .i64 (X 14) fun f=>a b c d aJ aI aG bJ bZ bG e f Z
def cE.t(Y:aD)(bX:M→Nat→Nat→M→Nat→Nat→M→Nat→Nat→Int→Int→U→Prop)(a:M)(b c:Nat)(aJ:M)(aI aG:Nat)(bJ:M)(bZ bG:Nat)(d e:Int)(Z:U):Prop:=
 a5 (IntKind.i64.wrap (e+1)) fun dY=>bX a b c aJ aI aG bJ bZ bG d dY Z
def cE.g(Y:aD)(bX:M→Nat→Nat→M→Nat→Nat→M→Nat→Nat→Int→Int→U→Prop)(X:Fr)(Z:U):Prop:=aQ (X 0) fun a b c=>aQ (X 1) fun aJ aI aG=>aQ (X 2) fun bJ bZ bG=>aW .i64 (X 13) fun d=>aW .i64 (X 14) fun e=>cE.t Y bX a b c aJ aI aG bJ bZ bG d e Z
theorem cE.ok(Y:aD)(bX:M→Nat→Nat→M→Nat→Nat→M→Nat→Nat→Int→Int→U→Prop)(X:Fr)(Z:U)(g:cE.g Y bX X Z):den prog E (a3 aO [W,aT,aT,W,W,W]) (a1.then (dA.g bX) (a1.inBlock 0 (a8 E [] Y))) X Z:=
 bD g fun a b c d g=>bD g fun aJ aI aG e g=>bD g fun bJ bZ bG f g=>bB g fun h i g=>bB g fun j k g=>bS [(0,.slice a b c),(1,.slice aJ aI aG),(2,.slice bJ bZ bG),(13,.int .i64 h),(14,.int .i64 j)] ⟨d,e,f,i,k,trivial⟩ (by kernel_rfl) g
def c8.t(Y:aD)(bX:M→Nat→Nat→M→Nat→Nat→M→Nat→Nat→Int→Int→U→Prop)(a:M)(b c:Nat)(aJ:M)(aI aG:Nat)(bJ:M)(bZ bG:Nat)(d e:Int)(f g:Int)(Z:U):Prop:=
 a5 (IntKind.i64.wrap (d+(((aI:Nat):Int)))) fun d=>
 c7 a b d 1 fun d=>
 cC Z d (.int .u64 e) fun d=>
 cE.t Y bX a b c aJ aI aG bJ bZ bG f g d
def c8.g(Y:aD)(bX:M→Nat→Nat→M→Nat→Nat→M→Nat→Nat→Int→Int→U→Prop)(X:Fr)(Z:U):Prop:=aQ (X 0) fun a b c=>aQ (X 1) fun aJ aI aG=>aQ (X 2) fun bJ bZ bG=>aW .i64 (X 6) fun d=>aW .u64 (X 7) fun e=>aW .i64 (X 13) fun f=>aW .i64 (X 14) fun h=>c8.t Y bX a b c aJ aI aG bJ bZ bG d e f h Z
theorem c8.ok(Y:aD)(bX:M→Nat→Nat→M→Nat→Nat→M→Nat→Nat→Int→Int→U→Prop)(X:Fr)(Z:U)(g:c8.g Y bX X Z):den prog E (a3 aO [W,aT,aT,W,W,aT,aT,W,W,W]) (a1.inBlock 1 (a1.then (cE.g Y bX) (a1.then (dA.g bX) (a1.inBlock 0 (a8 E [] Y))))) X Z:=
 bD g fun a b c d g=>bD g fun aJ aI aG e g=>bD g fun bJ bZ bG f g=>bB g fun h i g=>bB g fun j k g=>bB g fun l m g=>bB g fun n o g=>bS [(0,.slice a b c),(1,.slice aJ aI aG),(2,.slice bJ bZ bG),(6,.int .i64 h),(7,.int .u64 j),(13,.int .i64 l),(14,.int .i64 n)] ⟨d,e,f,i,k,m,o,trivial⟩ (by kernel_rfl) g
def hH.g(a:M→Nat→Nat→M→Nat→Nat→M→Nat→Nat→Int→Int→Int→Int→Int→Int→U→Prop)(X:Fr)(Z:U):Prop:=aQ (X 0) fun b c d=>aQ (X 1) fun aJ aI aG=>aQ (X 2) fun bJ bZ bG=>aW .i64 (X 6) fun e=>aW .u64 (X 7) fun f=>aW .i64 (X 13) fun h=>aW .i64 (X 14) fun i=>aW .i64 (X 18) fun j=>aW .i64 (X 19) fun k=>a b c d aJ aI aG bJ bZ bG e f h i j k Z
def gK.t(Y:aD)(bX:M→Nat→Nat→M→Nat→Nat→M→Nat→Nat→Int→Int→U→Prop)(a:M→Nat→Nat→M→Nat→Nat→M→Nat→Nat→Int→Int→Int→Int→Int→Int→U→Prop)(b:M)(c d:Nat)(aJ:M)(aI aG:Nat)(bJ:M)(bZ bG:Nat)(e f:Int)(g h:Int)(i j:Int)(Z:U):Prop:=
 cond (decide (j < i)) (c7 aJ aI j 1 fun k=>
 cY Z .u64 k fun k=>
 c7 bJ bZ e 1 fun l=>
 cY Z .u64 l fun l=>
 aY qN.id #[.int .u64 k,.int .u64 l] Z fun k l=>
 cT k fun k=>
 dJ k .u64 fun k m=>
 dJ m .u64 fun m n=>
 b5 n <| nS m f 0 fun m n=>
 a5 (IntKind.u64.wrap (k+n)) fun k=>
 a5 (IntKind.i64.wrap (j+e)) fun n=>
 a5 (IntKind.i64.wrap (j+e)) fun o=>
 c7 b c o 1 fun o=>
 cY l .u64 o fun o=>
 nS o m 0 fun m o=>
 c7 b c n 1 fun n=>
 cC l n (.int .u64 m) fun l=>
 a5 (IntKind.u64.wrap (k+o)) fun k=>
 a5 (IntKind.i64.wrap (j+1)) fun j=>
 a b c d aJ aI aG bJ bZ bG e k g h i j l) (c8.t Y bX b c d aJ aI aG bJ bZ bG e f g h Z)
def gK.g(Y:aD)(bX:M→Nat→Nat→M→Nat→Nat→M→Nat→Nat→Int→Int→U→Prop)(a:M→Nat→Nat→M→Nat→Nat→M→Nat→Nat→Int→Int→Int→Int→Int→Int→U→Prop)(X:Fr)(Z:U):Prop:=aQ (X 0) fun b c d=>aQ (X 1) fun aJ aI aG=>aQ (X 2) fun bJ bZ bG=>aW .i64 (X 6) fun e=>aW .u64 (X 7) fun f=>aW .i64 (X 13) fun h=>aW .i64 (X 14) fun i=>aW .i64 (X 18) fun j=>aW .i64 (X 19) fun k=>gK.t Y bX a b c d aJ aI aG bJ bZ bG e f h i j k Z
theorem gK.ok(Y:aD)(bX:M→Nat→Nat→M→Nat→Nat→M→Nat→Nat→Int→Int→U→Prop)(a:M→Nat→Nat→M→Nat→Nat→M→Nat→Nat→Int→Int→Int→Int→Int→Int→U→Prop)(X:Fr)(Z:U)(g:gK.g Y bX a X Z):den prog E (a3 aO [W,aT,aT,W,W,aT,aT,W,W,aT,W,aT,aT]) (a1.then (hH.g a) (a1.inBlock 2 (a1.then (c8.g Y bX) (a1.inBlock 1 (a1.then (cE.g Y bX) (a1.then (dA.g bX) (a1.inBlock 0 (a8 E [] Y)))))))) X Z:=
 bD g fun a b c d g=>bD g fun aJ aI aG e g=>bD g fun bJ bZ bG f g=>bB g fun h i g=>bB g fun j k g=>bB g fun l m g=>bB g fun n o g=>bB g fun p q g=>bB g fun r s g=>bS [(0,.slice a b c),(1,.slice aJ aI aG),(2,.slice bJ bZ bG),(6,.int .i64 h),(7,.int .u64 j),(13,.int .i64 l),(14,.int .i64 n),(18,.int .i64 p),(19,.int .i64 r)] ⟨d,e,f,i,k,m,o,q,s,trivial⟩ (by kernel_rfl) g
def hH.t(Y:aD)(bX:M→Nat→Nat→M→Nat→Nat→M→Nat→Nat→Int→Int→U→Prop):Nat→M→Nat→Nat→M→Nat→Nat→M→Nat→Nat→Int→Int→Int→Int→Int→Int→U→Prop
 | 0=>fun _ _ _ _ _ _ _ _ _ _ _ _ _ _ _ _=>False
 | n+1=>fun a b c aJ aI aG bJ bZ bG d e f g h i Z=>gK.t Y bX (hH.t Y bX n) a b c aJ aI aG bJ bZ bG d e f g h i Z
theorem hH.ok(Y:aD)(bX:M→Nat→Nat→M→Nat→Nat→M→Nat→Nat→Int→Int→U→Prop)(X:Fr)(Z:U)(g:hH.g (fun a b c aJ aI aG bJ bZ bG d e f h i j Z=>∃ n,hH.t Y bX n a b c aJ aI aG bJ bZ bG d e f h i j Z) X Z):den prog E (a3 aO [W,aT,aT,W,W,aT,aT,W,W,aT,W,aT]) (a1.inBlock 2 (a1.then (c8.g Y bX) (a1.inBlock 1 (a1.then (cE.g Y bX) (a1.then (dA.g bX) (a1.inBlock 0 (a8 E [] Y))))))) X Z:=by
 obtain⟨a,b,c,k,g⟩:=b4 g
 obtain⟨aJ,aI,aG,l,g⟩:=b4 g
 obtain⟨bJ,bZ,bG,m,g⟩:=b4 g
 obtain⟨d,o,g⟩:=bN g
 obtain⟨e,p,g⟩:=bN g
 obtain⟨f,q,g⟩:=bN g
 obtain⟨h,r,g⟩:=bN g
 obtain⟨i,s,g⟩:=bN g
 obtain⟨j,u,g⟩:=bN g
 obtain⟨n,g⟩:=g
 refine fK (fun n=>hH.g (hH.t Y bX n)) (L:=(a3 aO [W,aT,aT,W,W,aT,aT,W,W,aT,W,aT,aT])) (by kernel_rfl) (fun X Z g=>?_) (fun n=>gK.ok Y bX (hH.t Y bX n)) n X Z (bE k (bE l (bE m (bQ o (bQ p (bQ q (bQ r (bQ s (bQ u (g))))))))))
 obtain⟨a,b,c,k,g⟩:=b4 g
 obtain⟨aJ,aI,aG,l,g⟩:=b4 g
 obtain⟨bJ,bZ,bG,m,g⟩:=b4 g
 obtain⟨d,o,g⟩:=bN g
 obtain⟨e,p,g⟩:=bN g
 obtain⟨f,q,g⟩:=bN g
 obtain⟨h,r,g⟩:=bN g
 obtain⟨i,s,g⟩:=bN g
 obtain⟨j,u,g⟩:=bN g
 exact g
theorem yJ.ok(Y:aD)(bX:M→Nat→Nat→M→Nat→Nat→M→Nat→Nat→Int→Int→U→Prop)(X:Fr)(Z:U)(g:hH.g (fun a b c aJ aI aG bJ bZ bG d e f h i j Z=>∃ n,hH.t Y bX n a b c aJ aI aG bJ bZ bG d e f h i j Z) X Z):den prog E (a3 aO [W,aT,aT,W,W,aT,aT,W,W,aT,W]) (a1.then (c8.g Y bX) (a1.inBlock 1 (a1.then (cE.g Y bX) (a1.then (dA.g bX) (a1.inBlock 0 (a8 E [] Y)))))) X Z:=
 fC (by kernel_rfl) (hH.ok Y bX X Z g)
def e0.t(Y:aD)(bX:M→Nat→Nat→M→Nat→Nat→M→Nat→Nat→Int→Int→U→Prop)(a:M)(b c:Nat)(aJ:M)(aI aG:Nat)(bJ:M)(bZ bG:Nat)(d e:Int)(f g:Int)(Z:U):Prop:=
 (∃ n,hH.t Y bX n a b c aJ aI aG bJ bZ bG d e f g (((aI:Nat):Int)) 0 Z)
def e0.g(Y:aD)(bX:M→Nat→Nat→M→Nat→Nat→M→Nat→Nat→Int→Int→U→Prop)(X:Fr)(Z:U):Prop:=aQ (X 0) fun a b c=>aQ (X 1) fun aJ aI aG=>aQ (X 2) fun bJ bZ bG=>aW .i64 (X 6) fun d=>aW .u64 (X 7) fun e=>aW .i64 (X 13) fun f=>aW .i64 (X 14) fun h=>e0.t Y bX a b c aJ aI aG bJ bZ bG d e f h Z
theorem e0.ok(Y:aD)(bX:M→Nat→Nat→M→Nat→Nat→M→Nat→Nat→Int→Int→U→Prop)(X:Fr)(Z:U)(g:e0.g Y bX X Z):den prog E (a3 aO [W,aT,aT,W,W,aT,aT,W,W,aT]) (a1.then (c8.g Y bX) (a1.inBlock 1 (a1.then (cE.g Y bX) (a1.then (dA.g bX) (a1.inBlock 0 (a8 E [] Y)))))) X Z:=
 bD g fun a b c d g=>bD g fun aJ aI aG e g=>bD g fun bJ bZ bG f g=>bB g fun h i g=>bB g fun j k g=>bB g fun l m g=>bB g fun n o g=>c4 1 (r:=(a3 aO [W,aT,aT,W,W,aT,aT,W,W,aT,W])) (by kernel_rfl) (yJ.ok Y bX) (bS [(0,.slice a b c),(1,.slice aJ aI aG),(2,.slice bJ bZ bG),(6,.int .i64 h),(7,.int .u64 j),(13,.int .i64 l),(14,.int .i64 n)] ⟨d,e,f,i,k,m,o,trivial⟩ (by kernel_rfl) g)
theorem yK.ok(Y:aD)(bX:M→Nat→Nat→M→Nat→Nat→M→Nat→Nat→Int→Int→U→Prop)(X:Fr)(Z:U)(g:e0.g Y bX X Z):den prog E (a3 aO [W,aT,aT,W,W,aT,aT,W,W]) (a1.inBlock 1 (a1.then (cE.g Y bX) (a1.then (dA.g bX) (a1.inBlock 0 (a8 E [] Y))))) X Z:=
 gA (by kernel_rfl) (c8.ok Y bX) (e0.ok Y bX X Z g)
def b7.t(Y:aD)(bX:M→Nat→Nat→M→Nat→Nat→M→Nat→Nat→Int→Int→U→Prop)(a:M)(b c:Nat)(aJ:M)(aI aG:Nat)(bJ:M)(bZ bG:Nat)(d e:Int)(Z:U):Prop:=
 e0.t Y bX a b c aJ aI aG bJ bZ bG e 0 d e Z
def b7.g(Y:aD)(bX:M→Nat→Nat→M→Nat→Nat→M→Nat→Nat→Int→Int→U→Prop)(X:Fr)(Z:U):Prop:=aQ (X 0) fun a b c=>aQ (X 1) fun aJ aI aG=>aQ (X 2) fun bJ bZ bG=>aW .i64 (X 13) fun d=>aW .i64 (X 14) fun e=>b7.t Y bX a b c aJ aI aG bJ bZ bG d e Z
theorem b7.ok(Y:aD)(bX:M→Nat→Nat→M→Nat→Nat→M→Nat→Nat→Int→Int→U→Prop)(X:Fr)(Z:U)(g:b7.g Y bX X Z):den prog E (a3 aO [W,aT,aT,W,W,aT,aT]) (a1.inBlock 1 (a1.then (cE.g Y bX) (a1.then (dA.g bX) (a1.inBlock 0 (a8 E [] Y))))) X Z:=
 bD g fun a b c d g=>bD g fun aJ aI aG e g=>bD g fun bJ bZ bG f g=>bB g fun h i g=>bB g fun j k g=>c4 2 (r:=(a3 aO [W,aT,aT,W,W,aT,aT,W,W])) (by kernel_rfl) (yK.ok Y bX) (bS [(0,.slice a b c),(1,.slice aJ aI aG),(2,.slice bJ bZ bG),(13,.int .i64 h),(14,.int .i64 j)] ⟨d,e,f,i,k,trivial⟩ (by kernel_rfl) g)
theorem o9.ok(Y:aD)(bX:M→Nat→Nat→M→Nat→Nat→M→Nat→Nat→Int→Int→U→Prop)(X:Fr)(Z:U)(g:b7.g Y bX X Z):den prog E (a3 aO [W,aT,aT,W,W,aT]) (a1.then (cE.g Y bX) (a1.then (dA.g bX) (a1.inBlock 0 (a8 E [] Y)))) X Z:=
 fC (by kernel_rfl) (b7.ok Y bX X Z g)
theorem uN.ok(Y:aD)(bX:M→Nat→Nat→M→Nat→Nat→M→Nat→Nat→Int→Int→U→Prop)(X:Fr)(Z:U)(g:b7.g Y bX X Z):den prog E (a3 aO [W,aT,aT,W,W]) (a1.then (dA.g bX) (a1.inBlock 0 (a8 E [] Y))) X Z:=
 gA (by kernel_rfl) (cE.ok Y bX) (o9.ok Y bX X Z g)
def bF.t(Y:aD)(bX:M→Nat→Nat→M→Nat→Nat→M→Nat→Nat→Int→Int→U→Prop)(a:M)(b c:Nat)(aJ:M)(aI aG:Nat)(bJ:M)(bZ bG:Nat)(d e:Int)(Z:U):Prop:=
 cond (decide (e < d)) (b7.t Y bX a b c aJ aI aG bJ bZ bG d e Z) (Y (.tuple #[]) Z)
def bF.g(Y:aD)(bX:M→Nat→Nat→M→Nat→Nat→M→Nat→Nat→Int→Int→U→Prop)(X:Fr)(Z:U):Prop:=aQ (X 0) fun a b c=>aQ (X 1) fun aJ aI aG=>aQ (X 2) fun bJ bZ bG=>aW .i64 (X 13) fun d=>aW .i64 (X 14) fun e=>bF.t Y bX a b c aJ aI aG bJ bZ bG d e Z
theorem bF.ok(Y:aD)(bX:M→Nat→Nat→M→Nat→Nat→M→Nat→Nat→Int→Int→U→Prop)(X:Fr)(Z:U)(g:bF.g Y bX X Z):den prog E (a3 aO [W,aT,aT]) (a1.then (dA.g bX) (a1.inBlock 0 (a8 E [] Y))) X Z:=
 bD g fun a b c d g=>bD g fun aJ aI aG e g=>bD g fun bJ bZ bG f g=>bB g fun h i g=>bB g fun j k g=>c4 2 (r:=(a3 aO [W,aT,aT,W,W])) (by kernel_rfl) (uN.ok Y bX) (bS [(0,.slice a b c),(1,.slice aJ aI aG),(2,.slice bJ bZ bG),(13,.int .i64 h),(14,.int .i64 j)] ⟨d,e,f,i,k,trivial⟩ (by kernel_rfl) g)
def dA.t(Y:aD):Nat→M→Nat→Nat→M→Nat→Nat→M→Nat→Nat→Int→Int→U→Prop
 | 0=>fun _ _ _ _ _ _ _ _ _ _ _ _=>False
 | n+1=>fun a b c aJ aI aG bJ bZ bG d e Z=>bF.t Y (dA.t Y n) a b c aJ aI aG bJ bZ bG d e Z
theorem dA.ok(Y:aD)(X:Fr)(Z:U)(g:dA.g (fun a b c aJ aI aG bJ bZ bG d e Z=>∃ n,dA.t Y n a b c aJ aI aG bJ bZ bG d e Z) X Z):den prog E (a3 aO [W,aT]) (a1.inBlock 0 (a8 E [] Y)) X Z:=by
 obtain⟨a,b,c,f,g⟩:=b4 g
 obtain⟨aJ,aI,aG,h,g⟩:=b4 g
 obtain⟨bJ,bZ,bG,i,g⟩:=b4 g
 obtain⟨d,j,g⟩:=bN g
 obtain⟨e,k,g⟩:=bN g
 obtain⟨n,g⟩:=g
 refine fK (fun n=>dA.g (dA.t Y n)) (L:=(a3 aO [W,aT,aT])) (by kernel_rfl) (fun X Z g=>?_) (fun n=>bF.ok Y (dA.t Y n)) n X Z (bE f (bE h (bE i (bQ j (bQ k (g))))))
 obtain⟨a,b,c,f,g⟩:=b4 g
 obtain⟨aJ,aI,aG,h,g⟩:=b4 g
 obtain⟨bJ,bZ,bG,i,g⟩:=b4 g
 obtain⟨d,j,g⟩:=bN g
 obtain⟨e,k,g⟩:=bN g
 exact g
theorem rA.ok(Y:aD)(X:Fr)(Z:U)(g:dA.g (fun a b c aJ aI aG bJ bZ bG d e Z=>∃ n,dA.t Y n a b c aJ aI aG bJ bZ bG d e Z) X Z):den prog E (a3 aO [W]) (a8 E [] Y) X Z:=
 fC (by kernel_rfl) (dA.ok Y X Z g)
def aL.t(Y:aD)(a:M)(b c:Nat)(aJ:M)(aI aG:Nat)(bJ:M)(bZ bG:Nat)(Z:U):Prop:=
 (∃ n,dA.t Y n a b c aJ aI aG bJ bZ bG (((bZ:Nat):Int)) 0 Z)
def aL.g(Y:aD)(X:Fr)(Z:U):Prop:=aQ (X 0) fun a b c=>aQ (X 1) fun aJ aI aG=>aQ (X 2) fun bJ bZ bG=>aL.t Y a b c aJ aI aG bJ bZ bG Z
theorem aL.ok(Y:aD)(X:Fr)(Z:U)(g:aL.g Y X Z):den prog E aO (a8 E [] Y) X Z:=
 bD g fun a b c d g=>bD g fun aJ aI aG e g=>bD g fun bJ bZ bG f g=>c4 1 (r:=(a3 aO [W])) (by kernel_rfl) (rA.ok Y) (bS [(0,.slice a b c),(1,.slice aJ aI aG),(2,.slice bJ bZ bG)] ⟨d,e,f,trivial⟩ (by kernel_rfl) g)
def t(a:M)(b c:Nat)(aJ:M)(aI aG:Nat)(bJ:M)(bZ bG:Nat)(Z:U)(Y:aD):Prop:=aL.t Y a b c aJ aI aG bJ bZ bG Z
theorem ok{a:M}{b:Nat}{d:Nat}{aJ:M}{aI:Nat}{aG:Nat}{bJ:M}{bZ:Nat}{bG:Nat}{Z:U}{Y:aD}(g:t a b d aJ aI aG bJ bZ bG Z Y):aY id #[.slice a b d,.slice aJ aI aG,.slice bJ bZ bG] Z Y:=
 dL dI (c:=aO) (dC:=[]) Tryz.func122 (by kernel_rfl) (by kernel_rfl) (by kernel_rfl) (args:=[.slice a b d,.slice aJ aI aG,.slice bJ bZ bG]) (by kernel_rfl) (aL.ok Y _ Z (bE rfl (bE rfl (bE rfl (g)))))
end jW
namespace n5
noncomputable def aO:Code:=dK Tryz.f123
def dA.g(a:M→Nat→Nat→M→Nat→Nat→M→Nat→Nat→Int→U→Prop)(X:Fr)(Z:U):Prop:=aQ (X 0) fun b c d=>aQ (X 1) fun aJ aI aG=>aQ (X 2) fun bJ bZ bG=>aW .i64 (X 6) fun e=>a b c d aJ aI aG bJ bZ bG e Z
def bF.t(Y:aD)(bX:M→Nat→Nat→M→Nat→Nat→M→Nat→Nat→Int→U→Prop)(a:M)(b c:Nat)(aJ:M)(aI aG:Nat)(bJ:M)(bZ bG:Nat)(d:Int)(Z:U):Prop:=
 cond (decide (d < (((aI:Nat):Int)))) (a5 (IntKind.i64.wrap (d+(((bZ:Nat):Int)))) fun dY=>
 iD 1 aJ aI aG (some (.int .i64 d)) (some (.int .i64 (if (((aI:Nat):Int)) < dY then(((aI:Nat):Int)) else dY))) (some (.int .i64 (if (((aI:Nat):Int)) < dY then(((aI:Nat):Int)) else dY))) fun e f g=>
 aY lX.id #[.slice e f g] Z fun e f=>
 aQ e fun e g h=>
 aY n4.id #[.slice e g h,.slice bJ bZ bG] f fun e f=>
 aQ e fun e g h=>
 aY jN.id #[.slice a b c,.slice e g h,.int .i64 d] f fun e fM=>
 cT e fun e=>
 b5 e <| a5 (IntKind.i64.wrap (d+(((bZ:Nat):Int)))) fun d=>
 bX a b c aJ aI aG bJ bZ bG d fM) (Y (.tuple #[]) Z)
def bF.g(Y:aD)(bX:M→Nat→Nat→M→Nat→Nat→M→Nat→Nat→Int→U→Prop)(X:Fr)(Z:U):Prop:=aQ (X 0) fun a b c=>aQ (X 1) fun aJ aI aG=>aQ (X 2) fun bJ bZ bG=>aW .i64 (X 6) fun d=>bF.t Y bX a b c aJ aI aG bJ bZ bG d Z
theorem bF.ok(Y:aD)(bX:M→Nat→Nat→M→Nat→Nat→M→Nat→Nat→Int→U→Prop)(X:Fr)(Z:U)(g:bF.g Y bX X Z):den prog E (a3 aO [W,aT,aT]) (a1.then (dA.g bX) (a1.inBlock 0 (a8 E [] Y))) X Z:=
 bD g fun a b c d g=>bD g fun aJ aI aG e g=>bD g fun bJ bZ bG f g=>bB g fun h i g=>bS [(0,.slice a b c),(1,.slice aJ aI aG),(2,.slice bJ bZ bG),(6,.int .i64 h)] ⟨d,e,f,i,trivial⟩ (by kernel_rfl) g
def dA.t(Y:aD):Nat→M→Nat→Nat→M→Nat→Nat→M→Nat→Nat→Int→U→Prop
 | 0=>fun _ _ _ _ _ _ _ _ _ _ _=>False
 | n+1=>fun a b c aJ aI aG bJ bZ bG d Z=>bF.t Y (dA.t Y n) a b c aJ aI aG bJ bZ bG d Z
theorem dA.ok(Y:aD)(X:Fr)(Z:U)(g:dA.g (fun a b c aJ aI aG bJ bZ bG d Z=>∃ n,dA.t Y n a b c aJ aI aG bJ bZ bG d Z) X Z):den prog E (a3 aO [W,aT]) (a1.inBlock 0 (a8 E [] Y)) X Z:=by
 obtain⟨a,b,c,e,g⟩:=b4 g
 obtain⟨aJ,aI,aG,f,g⟩:=b4 g
 obtain⟨bJ,bZ,bG,h,g⟩:=b4 g
 obtain⟨d,i,g⟩:=bN g
 obtain⟨n,g⟩:=g
 refine fK (fun n=>dA.g (dA.t Y n)) (L:=(a3 aO [W,aT,aT])) (by kernel_rfl) (fun X Z g=>?_) (fun n=>bF.ok Y (dA.t Y n)) n X Z (bE e (bE f (bE h (bQ i (g)))))
 obtain⟨a,b,c,e,g⟩:=b4 g
 obtain⟨aJ,aI,aG,f,g⟩:=b4 g
 obtain⟨bJ,bZ,bG,h,g⟩:=b4 g
 obtain⟨d,i,g⟩:=bN g
 exact g
theorem fN.ok(Y:aD)(X:Fr)(Z:U)(g:dA.g (fun a b c aJ aI aG bJ bZ bG d Z=>∃ n,dA.t Y n a b c aJ aI aG bJ bZ bG d Z) X Z):den prog E (a3 aO [W]) (a8 E [] Y) X Z:=
 fC (by kernel_rfl) (dA.ok Y X Z g)
def aL.t(Y:aD)(a:M)(b c:Nat)(aJ:M)(aI aG:Nat)(bJ:M)(bZ bG:Nat)(Z:U):Prop:=
 (∃ n,dA.t Y n a b c aJ aI aG bJ bZ bG 0 Z)
def aL.g(Y:aD)(X:Fr)(Z:U):Prop:=aQ (X 0) fun a b c=>aQ (X 1) fun aJ aI aG=>aQ (X 2) fun bJ bZ bG=>aL.t Y a b c aJ aI aG bJ bZ bG Z
theorem aL.ok(Y:aD)(X:Fr)(Z:U)(g:aL.g Y X Z):den prog E aO (a8 E [] Y) X Z:=
 bD g fun a b c d g=>bD g fun aJ aI aG e g=>bD g fun bJ bZ bG f g=>c4 1 (r:=(a3 aO [W])) (by kernel_rfl) (fN.ok Y) (bS [(0,.slice a b c),(1,.slice aJ aI aG),(2,.slice bJ bZ bG)] ⟨d,e,f,trivial⟩ (by kernel_rfl) g)
def t(a:M)(b c:Nat)(aJ:M)(aI aG:Nat)(bJ:M)(bZ bG:Nat)(Z:U)(Y:aD):Prop:=aL.t Y a b c aJ aI aG bJ bZ bG Z
theorem ok{a:M}{b:Nat}{d:Nat}{aJ:M}{aI:Nat}{aG:Nat}{bJ:M}{bZ:Nat}{bG:Nat}{Z:U}{Y:aD}(g:t a b d aJ aI aG bJ bZ bG Z Y):aY id #[.slice a b d,.slice aJ aI aG,.slice bJ bZ bG] Z Y:=
 dL dI (c:=aO) (dC:=[]) Tryz.func123 (by kernel_rfl) (by kernel_rfl) (by kernel_rfl) (args:=[.slice a b d,.slice aJ aI aG,.slice bJ bZ bG]) (by kernel_rfl) (aL.ok Y _ Z (bE rfl (bE rfl (bE rfl (g)))))
end n5
namespace tO
noncomputable def aO:Code:=dK Tryz.f124
def aL.t(Y:aD)(a:M)(b c:Nat)(aJ:M)(aI aG:Nat)(bJ:M)(bZ bG:Nat)(Z:U):Prop:=
 a5 (IntKind.i64.wrap ((((aI:Nat):Int))+1)) fun dY=>
 (2:Int) ≠ 0∧a5 (IntKind.i64.wrap (Int.tdiv dY 2)) fun d=>
 aY rZ.id #[.slice aJ aI aG,.int .i64 d] Z fun e f=>
 cT e fun e=>
 cP e fun e g h i=>
 cP i fun i j k l=>
 b5 l <| aY rZ.id #[.slice bJ bZ bG,.int .i64 d] f fun f l=>
 cT f fun f=>
 cP f fun f m n o=>
 cP o fun o p q r=>
 b5 r <| aY n4.id #[.slice e g h,.slice f m n] l fun l r=>
 aQ l fun l s u=>
 aY n4.id #[.slice i j k,.slice o p q] r fun r v=>
 aQ r fun r w x=>
 aY pU.id #[.slice e g h,.slice i j k] v fun e g=>
 aQ e fun e h i=>
 aY pU.id #[.slice f m n,.slice o p q] g fun f g=>
 aQ f fun f j k=>
 aY n4.id #[.slice e h i,.slice f j k] g fun e f=>
 aQ e fun e g h=>
 aY kA.id #[.slice e g h,.slice l s u] f fun f i=>
 cT f fun f=>
 b5 f <| aY kA.id #[.slice e g h,.slice r w x] i fun f i=>
 cT f fun f=>
 b5 f <| m3 i 1 a b (.slice l s u) fun f f=>
 aY lX.id #[.slice e g h] f fun e f=>
 aQ e fun e g h=>
 aY jN.id #[.slice a b c,.slice e g h,.int .i64 d] f fun e f=>
 cT e fun e=>
 b5 e <| a5 (IntKind.i64.wrap (2*d)) fun d=>
 aY jN.id #[.slice a b c,.slice r w x,.int .i64 d] f fun a b=>
 cT a fun a=>
 b5 a <| Y (.tuple #[]) b
def aL.g(Y:aD)(X:Fr)(Z:U):Prop:=aQ (X 0) fun a b c=>aQ (X 1) fun aJ aI aG=>aQ (X 2) fun bJ bZ bG=>aL.t Y a b c aJ aI aG bJ bZ bG Z
theorem aL.ok(Y:aD)(X:Fr)(Z:U)(g:aL.g Y X Z):den prog E aO (a8 E [] Y) X Z:=
 bD g fun a b c d g=>bD g fun aJ aI aG e g=>bD g fun bJ bZ bG f g=>bS [(0,.slice a b c),(1,.slice aJ aI aG),(2,.slice bJ bZ bG)] ⟨d,e,f,trivial⟩ (by kernel_rfl) g
def t(a:M)(b c:Nat)(aJ:M)(aI aG:Nat)(bJ:M)(bZ bG:Nat)(Z:U)(Y:aD):Prop:=aL.t Y a b c aJ aI aG bJ bZ bG Z
theorem ok{a:M}{b:Nat}{d:Nat}{aJ:M}{aI:Nat}{aG:Nat}{bJ:M}{bZ:Nat}{bG:Nat}{Z:U}{Y:aD}(g:t a b d aJ aI aG bJ bZ bG Z Y):aY id #[.slice a b d,.slice aJ aI aG,.slice bJ bZ bG] Z Y:=
 dL dI (c:=aO) (dC:=[]) Tryz.func124 (by kernel_rfl) (by kernel_rfl) (by kernel_rfl) (args:=[.slice a b d,.slice aJ aI aG,.slice bJ bZ bG]) (by kernel_rfl) (aL.ok Y _ Z (bE rfl (bE rfl (bE rfl (g)))))
end tO
namespace oP
noncomputable def aO:Code:=dK Tryz.f125
def a0.t(Y:aD)(a:M)(b c:Nat)(aM:Int)(Z:U):Prop:=
 (32:Int) ≠ 0∧a5 (IntKind.i64.wrap (Int.tdiv aM 32)) fun c=>
 c7 a b c 1 fun a=>
 cY Z .u32 a fun a=>
 (32:Int) ≠ 0∧a5 (Int.tmod aM 32) fun b=>
 0≤b∧a5 (g6 .u32 a b) fun a=>
 a5 (jE .u32 a 1) fun a=>
 a5 (IntKind.i64.wrap a) fun a=>
 Y (.int .i64 a) Z
def a0.g(Y:aD)(X:Fr)(Z:U):Prop:=aQ (X 0) fun a b c=>aW .i64 (X 1) fun aM=>a0.t Y a b c aM Z
theorem a0.ok(Y:aD)(X:Fr)(Z:U)(g:a0.g Y X Z):den prog E (a3 aO [W,W]) (a8 E [.tmp 4] Y) X Z:=
 bD g fun a b c d g=>bB g fun aM e g=>bS [(0,.slice a b c),(1,.int .i64 aM)] ⟨d,e,trivial⟩ (by kernel_rfl) g
def aL.t(Y:aD)(a:M)(b c:Nat)(aM:Int)(Z:U):Prop:=
 cond (decide (aM < 0)) (Y (.int .i64 0) Z) ((32:Int) ≠ 0∧a5 (IntKind.i64.wrap (Int.tdiv aM 32)) fun dY=>
 cond (decide (dY≥(((b:Nat):Int)))) (Y (.int .i64 0) Z) (a0.t Y a b c aM Z))
def aL.g(Y:aD)(X:Fr)(Z:U):Prop:=aQ (X 0) fun a b c=>aW .i64 (X 1) fun aM=>aL.t Y a b c aM Z
theorem aL.ok(Y:aD)(X:Fr)(Z:U)(g:aL.g Y X Z):den prog E aO (a8 E [.tmp 4] Y) X Z:=
 bD g fun a b c d g=>bB g fun aM e g=>c4 2 (r:=(a3 aO [W,W])) (by kernel_rfl) (a0.ok Y) (bS [(0,.slice a b c),(1,.int .i64 aM)] ⟨d,e,trivial⟩ (by kernel_rfl) g)
def t(a:M)(b c:Nat)(aM:Int)(Z:U)(Y:aD):Prop:=aL.t Y a b c aM Z
theorem ok{a:M}{b:Nat}{d:Nat}{aM:Int}{Z:U}{Y:aD}(g:t a b d aM Z Y):aY id #[.slice a b d,.int .i64 aM] Z Y:=
 dL dI (c:=aO) (dC:=[.tmp 4]) Tryz.func125 (by kernel_rfl) (by kernel_rfl) (by kernel_rfl) (args:=[.slice a b d,.int .i64 aM]) (by kernel_rfl) (aL.ok Y _ Z (bE rfl (bQ rfl (g))))
end oP
namespace jN
noncomputable def aO:Code:=dK Tryz.f126
def cK.g(a:M→Nat→Nat→Int→Int→U→Prop)(X:Fr)(Z:U):Prop:=aQ (X 0) fun b c d=>aW .u64 (X 6) fun e=>aW .i64 (X 8) fun f=>a b c d e f Z
def cE.t(Y:aD)(a:M→Nat→Nat→Int→Int→U→Prop)(b:M)(c d:Nat)(e f:Int)(Z:U):Prop:=
 cond (decide (e > 0)) (c7 b c f 1 fun e8=>
 cY Z .u64 e8 fun g=>
 nS g 0 e fun e g=>
 c7 b c f 1 fun h=>
 cC Z h (.int .u64 e) fun e=>
 a5 (IntKind.i64.wrap (f+1)) fun f=>
 a b c d g f e) (Y (.tuple #[]) Z)
def cE.g(Y:aD)(a:M→Nat→Nat→Int→Int→U→Prop)(X:Fr)(Z:U):Prop:=aQ (X 0) fun b c d=>aW .u64 (X 6) fun e=>aW .i64 (X 8) fun f=>cE.t Y a b c d e f Z
theorem cE.ok(Y:aD)(a:M→Nat→Nat→Int→Int→U→Prop)(X:Fr)(Z:U)(g:cE.g Y a X Z):den prog E (a3 aO [W,W,W,aT,aT]) (a1.then (cK.g a) (a1.inBlock 2 (a8 E [] Y))) X Z:=
 bD g fun a b c d g=>bB g fun e f g=>bB g fun h i g=>bS [(0,.slice a b c),(6,.int .u64 e),(8,.int .i64 h)] ⟨d,f,i,trivial⟩ (by kernel_rfl) g
def cK.t(Y:aD):Nat→M→Nat→Nat→Int→Int→U→Prop
 | 0=>fun _ _ _ _ _ _=>False
 | n+1=>fun a b c d e Z=>cE.t Y (cK.t Y n) a b c d e Z
theorem cK.ok(Y:aD)(X:Fr)(Z:U)(g:cK.g (fun a b c d e Z=>∃ n,cK.t Y n a b c d e Z) X Z):den prog E (a3 aO [W,W,W,aT]) (a1.inBlock 2 (a8 E [] Y)) X Z:=by
 obtain⟨a,b,c,f,g⟩:=b4 g
 obtain⟨d,h,g⟩:=bN g
 obtain⟨e,i,g⟩:=bN g
 obtain⟨n,g⟩:=g
 refine fK (fun n=>cK.g (cK.t Y n)) (L:=(a3 aO [W,W,W,aT,aT])) (by kernel_rfl) (fun X Z g=>?_) (fun n=>cE.ok Y (cK.t Y n)) n X Z (bE f (bQ h (bQ i (g))))
 obtain⟨a,b,c,f,g⟩:=b4 g
 obtain⟨d,h,g⟩:=bN g
 obtain⟨e,i,g⟩:=bN g
 exact g
theorem hR.ok(Y:aD)(X:Fr)(Z:U)(g:cK.g (fun a b c d e Z=>∃ n,cK.t Y n a b c d e Z) X Z):den prog E (a3 aO [W,W,W]) (a8 E [] Y) X Z:=
 fC (by kernel_rfl) (cK.ok Y X Z g)
def a0.t(Y:aD)(a:M)(b c:Nat)(aJ:M)(aI aG:Nat)(d e:Int)(Z:U):Prop:=
 a5 (IntKind.i64.wrap (d+(((aI:Nat):Int)))) fun dY=>(∃ n,cK.t Y n a b c e dY Z)
def a0.g(Y:aD)(X:Fr)(Z:U):Prop:=aQ (X 0) fun a b c=>aQ (X 1) fun aJ aI aG=>aW .i64 (X 2) fun d=>aW .u64 (X 6) fun e=>a0.t Y a b c aJ aI aG d e Z
theorem a0.ok(Y:aD)(X:Fr)(Z:U)(g:a0.g Y X Z):den prog E (a3 aO [W,W]) (a8 E [] Y) X Z:=
 bD g fun a b c d g=>bD g fun aJ aI aG e g=>bB g fun f h g=>bB g fun i j g=>c4 1 (r:=(a3 aO [W,W,W])) (by kernel_rfl) (hR.ok Y) (bS [(0,.slice a b c),(1,.slice aJ aI aG),(2,.int .i64 f),(6,.int .u64 i)] ⟨d,e,h,j,trivial⟩ (by kernel_rfl) g)
def fS.g(a:M→Nat→Nat→M→Nat→Nat→Int→Int→Int→Int→U→Prop)(X:Fr)(Z:U):Prop:=aQ (X 0) fun b c d=>aQ (X 1) fun aJ aI aG=>aW .i64 (X 2) fun e=>aW .u64 (X 6) fun f=>aW .i64 (X 10) fun h=>aW .i64 (X 11) fun i=>a b c d aJ aI aG e f h i Z
def eW.t(Y:aD)(a:M→Nat→Nat→M→Nat→Nat→Int→Int→Int→Int→U→Prop)(b:M)(c d:Nat)(aJ:M)(aI aG:Nat)(e f:Int)(g h:Int)(Z:U):Prop:=
 cond (decide (h < g)) (a5 (IntKind.i64.wrap (e+h)) fun i=>
 a5 (IntKind.i64.wrap (e+h)) fun j=>
 c7 b c j 1 fun j=>
 cY Z .u64 j fun j=>
 c7 aJ aI h 1 fun k=>
 cY Z .u64 k fun k=>
 nS j k f fun j k=>
 c7 b c i 1 fun i=>
 cC Z i (.int .u64 j) fun i=>
 a5 (IntKind.i64.wrap (h+1)) fun h=>
 a b c d aJ aI aG e k g h i) (a0.t Y b c d aJ aI aG e f Z)
def eW.g(Y:aD)(a:M→Nat→Nat→M→Nat→Nat→Int→Int→Int→Int→U→Prop)(X:Fr)(Z:U):Prop:=aQ (X 0) fun b c d=>aQ (X 1) fun aJ aI aG=>aW .i64 (X 2) fun e=>aW .u64 (X 6) fun f=>aW .i64 (X 10) fun h=>aW .i64 (X 11) fun i=>eW.t Y a b c d aJ aI aG e f h i Z
theorem eW.ok(Y:aD)(a:M→Nat→Nat→M→Nat→Nat→Int→Int→Int→Int→U→Prop)(X:Fr)(Z:U)(g:eW.g Y a X Z):den prog E (a3 aO [W,aT,W,aT,aT]) (a1.then (fS.g a) (a1.inBlock 0 (a1.then (a0.g Y) (a8 E [] Y)))) X Z:=
 bD g fun a b c d g=>bD g fun aJ aI aG e g=>bB g fun f h g=>bB g fun i j g=>bB g fun k l g=>bB g fun m n g=>bS [(0,.slice a b c),(1,.slice aJ aI aG),(2,.int .i64 f),(6,.int .u64 i),(10,.int .i64 k),(11,.int .i64 m)] ⟨d,e,h,j,l,n,trivial⟩ (by kernel_rfl) g
def fS.t(Y:aD):Nat→M→Nat→Nat→M→Nat→Nat→Int→Int→Int→Int→U→Prop
 | 0=>fun _ _ _ _ _ _ _ _ _ _ _=>False
 | n+1=>fun a b c aJ aI aG d e f g Z=>eW.t Y (fS.t Y n) a b c aJ aI aG d e f g Z
theorem fS.ok(Y:aD)(X:Fr)(Z:U)(g:fS.g (fun a b c aJ aI aG d e f h Z=>∃ n,fS.t Y n a b c aJ aI aG d e f h Z) X Z):den prog E (a3 aO [W,aT,W,aT]) (a1.inBlock 0 (a1.then (a0.g Y) (a8 E [] Y))) X Z:=by
 obtain⟨a,b,c,i,g⟩:=b4 g
 obtain⟨aJ,aI,aG,j,g⟩:=b4 g
 obtain⟨d,k,g⟩:=bN g
 obtain⟨e,l,g⟩:=bN g
 obtain⟨f,m,g⟩:=bN g
 obtain⟨h,o,g⟩:=bN g
 obtain⟨n,g⟩:=g
 refine fK (fun n=>fS.g (fS.t Y n)) (L:=(a3 aO [W,aT,W,aT,aT])) (by kernel_rfl) (fun X Z g=>?_) (fun n=>eW.ok Y (fS.t Y n)) n X Z (bE i (bE j (bQ k (bQ l (bQ m (bQ o (g)))))))
 obtain⟨a,b,c,i,g⟩:=b4 g
 obtain⟨aJ,aI,aG,j,g⟩:=b4 g
 obtain⟨d,k,g⟩:=bN g
 obtain⟨e,l,g⟩:=bN g
 obtain⟨f,m,g⟩:=bN g
 obtain⟨h,o,g⟩:=bN g
 exact g
theorem yN.ok(Y:aD)(X:Fr)(Z:U)(g:fS.g (fun a b c aJ aI aG d e f h Z=>∃ n,fS.t Y n a b c aJ aI aG d e f h Z) X Z):den prog E (a3 aO [W,aT,W]) (a1.then (a0.g Y) (a8 E [] Y)) X Z:=
 fC (by kernel_rfl) (fS.ok Y X Z g)
def c8.t(Y:aD)(a:M)(b c:Nat)(aJ:M)(aI aG:Nat)(d e:Int)(Z:U):Prop:=
 (∃ n,fS.t Y n a b c aJ aI aG d e (((aI:Nat):Int)) 0 Z)
def c8.g(Y:aD)(X:Fr)(Z:U):Prop:=aQ (X 0) fun a b c=>aQ (X 1) fun aJ aI aG=>aW .i64 (X 2) fun d=>aW .u64 (X 6) fun e=>c8.t Y a b c aJ aI aG d e Z
theorem c8.ok(Y:aD)(X:Fr)(Z:U)(g:c8.g Y X Z):den prog E (a3 aO [W,aT]) (a1.then (a0.g Y) (a8 E [] Y)) X Z:=
 bD g fun a b c d g=>bD g fun aJ aI aG e g=>bB g fun f h g=>bB g fun i j g=>c4 1 (r:=(a3 aO [W,aT,W])) (by kernel_rfl) (yN.ok Y) (bS [(0,.slice a b c),(1,.slice aJ aI aG),(2,.int .i64 f),(6,.int .u64 i)] ⟨d,e,h,j,trivial⟩ (by kernel_rfl) g)
theorem yO.ok(Y:aD)(X:Fr)(Z:U)(g:c8.g Y X Z):den prog E (a3 aO [W]) (a8 E [] Y) X Z:=
 gA (by kernel_rfl) (a0.ok Y) (c8.ok Y X Z g)
def aL.t(Y:aD)(a:M)(b c:Nat)(aJ:M)(aI aG:Nat)(d:Int)(Z:U):Prop:=
 c8.t Y a b c aJ aI aG d 0 Z
def aL.g(Y:aD)(X:Fr)(Z:U):Prop:=aQ (X 0) fun a b c=>aQ (X 1) fun aJ aI aG=>aW .i64 (X 2) fun d=>aL.t Y a b c aJ aI aG d Z
theorem aL.ok(Y:aD)(X:Fr)(Z:U)(g:aL.g Y X Z):den prog E aO (a8 E [] Y) X Z:=
 bD g fun a b c d g=>bD g fun aJ aI aG e g=>bB g fun f h g=>c4 1 (r:=(a3 aO [W])) (by kernel_rfl) (yO.ok Y) (bS [(0,.slice a b c),(1,.slice aJ aI aG),(2,.int .i64 f)] ⟨d,e,h,trivial⟩ (by kernel_rfl) g)
def t(a:M)(b c:Nat)(aJ:M)(aI aG:Nat)(d:Int)(Z:U)(Y:aD):Prop:=aL.t Y a b c aJ aI aG d Z
theorem ok{a:M}{b:Nat}{d:Nat}{aJ:M}{aI:Nat}{aG:Nat}{e:Int}{Z:U}{Y:aD}(g:t a b d aJ aI aG e Z Y):aY id #[.slice a b d,.slice aJ aI aG,.int .i64 e] Z Y:=
 dL dI (c:=aO) (dC:=[]) Tryz.func126 (by kernel_rfl) (by kernel_rfl) (by kernel_rfl) (args:=[.slice a b d,.slice aJ aI aG,.int .i64 e]) (by kernel_rfl) (aL.ok Y _ Z (bE rfl (bE rfl (bQ rfl (g)))))
end jN
namespace rZ
noncomputable def aO:Code:=dK Tryz.f127
def aL.t(Y:aD)(a:M)(b c:Nat)(aM:Int)(Z:U):Prop:=
 cond (decide (aM≥(((b:Nat):Int)))) (iD 1 a b c none (some (.int .i64 (((b:Nat):Int)))) (some (.int .i64 (((b:Nat):Int)))) fun d e f=>
 aY lX.id #[.slice d e f] Z fun d e=>
 aQ d fun d f g=>
 Y (.tuple #[.slice d f g,.slice none 0 0]) e) (iD 1 a b c none (some (.int .i64 aM)) (some (.int .i64 aM)) fun d e f=>
 aY lX.id #[.slice d e f] Z fun d e=>
 aQ d fun d f g=>
 iD 1 a b c (some (.int .i64 aM)) (some (.int .i64 (((b:Nat):Int)))) (some (.int .i64 (((b:Nat):Int)))) fun a b c=>
 Y (.tuple #[.slice d f g,.slice a b c]) e)
def aL.g(Y:aD)(X:Fr)(Z:U):Prop:=aQ (X 0) fun a b c=>aW .i64 (X 1) fun aM=>aL.t Y a b c aM Z
theorem aL.ok(Y:aD)(X:Fr)(Z:U)(g:aL.g Y X Z):den prog E aO (a8 E [.tmp 4,.tmp 5] Y) X Z:=
 bD g fun a b c d g=>bB g fun aM e g=>bS [(0,.slice a b c),(1,.int .i64 aM)] ⟨d,e,trivial⟩ (by kernel_rfl) g
def t(a:M)(b c:Nat)(aM:Int)(Z:U)(Y:aD):Prop:=aL.t Y a b c aM Z
theorem ok{a:M}{b:Nat}{d:Nat}{aM:Int}{Z:U}{Y:aD}(g:t a b d aM Z Y):aY id #[.slice a b d,.int .i64 aM] Z Y:=
 dL dI (c:=aO) (dC:=[.tmp 4,.tmp 5]) Tryz.func127 (by kernel_rfl) (by kernel_rfl) (by kernel_rfl) (args:=[.slice a b d,.int .i64 aM]) (by kernel_rfl) (aL.ok Y _ Z (bE rfl (bQ rfl (g))))
end rZ
namespace pU
noncomputable def aO:Code:=dK Tryz.f128
def a0.t(Y:aD)(a:M)(b c:Nat)(aJ:M)(aI aG:Nat)(Z:U):Prop:=
 a5 (IntKind.i64.wrap ((((b:Nat):Int))+1)) fun dY=>
 iI Z 35 j6 dY dY fun e8 d=>
 m3 d 1 (some e8) dY.toNat (.slice a b c) fun a a=>
 aY jN.id #[.slice (some e8) dY.toNat dY.toNat,.slice aJ aI aG,.int .i64 0] a fun a b=>
 cT a fun a=>
 b5 a <| aY lX.id #[.slice (some e8) dY.toNat dY.toNat] b fun a b=>
 aQ a fun a c d=>
 Y (.slice a c d) b
def a0.g(Y:aD)(X:Fr)(Z:U):Prop:=aQ (X 0) fun a b c=>aQ (X 1) fun aJ aI aG=>a0.t Y a b c aJ aI aG Z
theorem a0.ok(Y:aD)(X:Fr)(Z:U)(g:a0.g Y X Z):den prog E (a3 aO [W,W]) (a8 E [.tmp 4] Y) X Z:=
 bD g fun a b c d g=>bD g fun aJ aI aG e g=>bS [(0,.slice a b c),(1,.slice aJ aI aG)] ⟨d,e,trivial⟩ (by kernel_rfl) g
def aL.t(Y:aD)(a:M)(b c:Nat)(aJ:M)(aI aG:Nat)(Z:U):Prop:=
 cond (decide ((((b:Nat):Int)) < (((aI:Nat):Int)))) (a0.t Y aJ aI aG a b c Z) (a0.t Y a b c aJ aI aG Z)
def aL.g(Y:aD)(X:Fr)(Z:U):Prop:=aQ (X 0) fun a b c=>aQ (X 1) fun aJ aI aG=>aL.t Y a b c aJ aI aG Z
theorem aL.ok(Y:aD)(X:Fr)(Z:U)(g:aL.g Y X Z):den prog E aO (a8 E [.tmp 4] Y) X Z:=
 bD g fun a b c d g=>bD g fun aJ aI aG e g=>c4 2 (r:=(a3 aO [W,W])) (by kernel_rfl) (a0.ok Y) (bS [(0,.slice a b c),(1,.slice aJ aI aG)] ⟨d,e,trivial⟩ (by kernel_rfl) g)
def t(a:M)(b c:Nat)(aJ:M)(aI aG:Nat)(Z:U)(Y:aD):Prop:=aL.t Y a b c aJ aI aG Z
theorem ok{a:M}{b:Nat}{d:Nat}{aJ:M}{aI:Nat}{aG:Nat}{Z:U}{Y:aD}(g:t a b d aJ aI aG Z Y):aY id #[.slice a b d,.slice aJ aI aG] Z Y:=
 dL dI (c:=aO) (dC:=[.tmp 4]) Tryz.func128 (by kernel_rfl) (by kernel_rfl) (by kernel_rfl) (args:=[.slice a b d,.slice aJ aI aG]) (by kernel_rfl) (aL.ok Y _ Z (bE rfl (bE rfl (g))))
end pU
namespace kA
noncomputable def aO:Code:=dK Tryz.f129
def cK.g(a:M→Nat→Nat→Int→Int→U→Prop)(X:Fr)(Z:U):Prop:=aQ (X 0) fun b c d=>aW .u64 (X 4) fun e=>aW .i64 (X 6) fun f=>a b c d e f Z
def cE.t(Y:aD)(a:M→Nat→Nat→Int→Int→U→Prop)(b:M)(c d:Nat)(e f:Int)(Z:U):Prop:=
 cond (decide (e > 0)) (c7 b c f 1 fun b8=>
 cY Z .u64 b8 fun g=>
 rD g 0 e fun e g=>
 c7 b c f 1 fun h=>
 cC Z h (.int .u64 e) fun e=>
 a5 (IntKind.i64.wrap (f+1)) fun f=>
 a b c d g f e) (Y (.tuple #[]) Z)
def cE.g(Y:aD)(a:M→Nat→Nat→Int→Int→U→Prop)(X:Fr)(Z:U):Prop:=aQ (X 0) fun b c d=>aW .u64 (X 4) fun e=>aW .i64 (X 6) fun f=>cE.t Y a b c d e f Z
theorem cE.ok(Y:aD)(a:M→Nat→Nat→Int→Int→U→Prop)(X:Fr)(Z:U)(g:cE.g Y a X Z):den prog E (a3 aO [W,W,W,aT,aT]) (a1.then (cK.g a) (a1.inBlock 2 (a8 E [] Y))) X Z:=
 bD g fun a b c d g=>bB g fun e f g=>bB g fun h i g=>bS [(0,.slice a b c),(4,.int .u64 e),(6,.int .i64 h)] ⟨d,f,i,trivial⟩ (by kernel_rfl) g
def cK.t(Y:aD):Nat→M→Nat→Nat→Int→Int→U→Prop
 | 0=>fun _ _ _ _ _ _=>False
 | n+1=>fun a b c d e Z=>cE.t Y (cK.t Y n) a b c d e Z
theorem cK.ok(Y:aD)(X:Fr)(Z:U)(g:cK.g (fun a b c d e Z=>∃ n,cK.t Y n a b c d e Z) X Z):den prog E (a3 aO [W,W,W,aT]) (a1.inBlock 2 (a8 E [] Y)) X Z:=by
 obtain⟨a,b,c,f,g⟩:=b4 g
 obtain⟨d,h,g⟩:=bN g
 obtain⟨e,i,g⟩:=bN g
 obtain⟨n,g⟩:=g
 refine fK (fun n=>cK.g (cK.t Y n)) (L:=(a3 aO [W,W,W,aT,aT])) (by kernel_rfl) (fun X Z g=>?_) (fun n=>cE.ok Y (cK.t Y n)) n X Z (bE f (bQ h (bQ i (g))))
 obtain⟨a,b,c,f,g⟩:=b4 g
 obtain⟨d,h,g⟩:=bN g
 obtain⟨e,i,g⟩:=bN g
 exact g
theorem hR.ok(Y:aD)(X:Fr)(Z:U)(g:cK.g (fun a b c d e Z=>∃ n,cK.t Y n a b c d e Z) X Z):den prog E (a3 aO [W,W,W]) (a8 E [] Y) X Z:=
 fC (by kernel_rfl) (cK.ok Y X Z g)
def a0.t(Y:aD)(a:M)(b c:Nat)(aJ:M)(aI aG:Nat)(d:Int)(Z:U):Prop:=
 (∃ n,cK.t Y n a b c d (((aI:Nat):Int)) Z)
def a0.g(Y:aD)(X:Fr)(Z:U):Prop:=aQ (X 0) fun a b c=>aQ (X 1) fun aJ aI aG=>aW .u64 (X 4) fun d=>a0.t Y a b c aJ aI aG d Z
theorem a0.ok(Y:aD)(X:Fr)(Z:U)(g:a0.g Y X Z):den prog E (a3 aO [W,W]) (a8 E [] Y) X Z:=
 bD g fun a b c d g=>bD g fun aJ aI aG e g=>bB g fun f h g=>c4 1 (r:=(a3 aO [W,W,W])) (by kernel_rfl) (hR.ok Y) (bS [(0,.slice a b c),(1,.slice aJ aI aG),(4,.int .u64 f)] ⟨d,e,h,trivial⟩ (by kernel_rfl) g)
def fS.g(a:M→Nat→Nat→M→Nat→Nat→Int→Int→Int→U→Prop)(X:Fr)(Z:U):Prop:=aQ (X 0) fun b c d=>aQ (X 1) fun aJ aI aG=>aW .u64 (X 4) fun e=>aW .i64 (X 8) fun f=>aW .i64 (X 9) fun h=>a b c d aJ aI aG e f h Z
def eW.t(Y:aD)(a:M→Nat→Nat→M→Nat→Nat→Int→Int→Int→U→Prop)(b:M)(c d:Nat)(aJ:M)(aI aG:Nat)(e f g:Int)(Z:U):Prop:=
 cond (decide (g < f)) (c7 b c g 1 fun h=>
 cY Z .u64 h fun h=>
 c7 aJ aI g 1 fun i=>
 cY Z .u64 i fun i=>
 rD h i e fun h i=>
 c7 b c g 1 fun j=>
 cC Z j (.int .u64 h) fun h=>
 a5 (IntKind.i64.wrap (g+1)) fun g=>
 a b c d aJ aI aG i f g h) (a0.t Y b c d aJ aI aG e Z)
def eW.g(Y:aD)(a:M→Nat→Nat→M→Nat→Nat→Int→Int→Int→U→Prop)(X:Fr)(Z:U):Prop:=aQ (X 0) fun b c d=>aQ (X 1) fun aJ aI aG=>aW .u64 (X 4) fun e=>aW .i64 (X 8) fun f=>aW .i64 (X 9) fun h=>eW.t Y a b c d aJ aI aG e f h Z
theorem eW.ok(Y:aD)(a:M→Nat→Nat→M→Nat→Nat→Int→Int→Int→U→Prop)(X:Fr)(Z:U)(g:eW.g Y a X Z):den prog E (a3 aO [W,aT,W,aT,aT]) (a1.then (fS.g a) (a1.inBlock 0 (a1.then (a0.g Y) (a8 E [] Y)))) X Z:=
 bD g fun a b c d g=>bD g fun aJ aI aG e g=>bB g fun f h g=>bB g fun i j g=>bB g fun k l g=>bS [(0,.slice a b c),(1,.slice aJ aI aG),(4,.int .u64 f),(8,.int .i64 i),(9,.int .i64 k)] ⟨d,e,h,j,l,trivial⟩ (by kernel_rfl) g
def fS.t(Y:aD):Nat→M→Nat→Nat→M→Nat→Nat→Int→Int→Int→U→Prop
 | 0=>fun _ _ _ _ _ _ _ _ _ _=>False
 | n+1=>fun a b c aJ aI aG d e f Z=>eW.t Y (fS.t Y n) a b c aJ aI aG d e f Z
theorem fS.ok(Y:aD)(X:Fr)(Z:U)(g:fS.g (fun a b c aJ aI aG d e f Z=>∃ n,fS.t Y n a b c aJ aI aG d e f Z) X Z):den prog E (a3 aO [W,aT,W,aT]) (a1.inBlock 0 (a1.then (a0.g Y) (a8 E [] Y))) X Z:=by
 obtain⟨a,b,c,h,g⟩:=b4 g
 obtain⟨aJ,aI,aG,i,g⟩:=b4 g
 obtain⟨d,j,g⟩:=bN g
 obtain⟨e,k,g⟩:=bN g
 obtain⟨f,l,g⟩:=bN g
 obtain⟨n,g⟩:=g
 refine fK (fun n=>fS.g (fS.t Y n)) (L:=(a3 aO [W,aT,W,aT,aT])) (by kernel_rfl) (fun X Z g=>?_) (fun n=>eW.ok Y (fS.t Y n)) n X Z (bE h (bE i (bQ j (bQ k (bQ l (g))))))
 obtain⟨a,b,c,h,g⟩:=b4 g
 obtain⟨aJ,aI,aG,i,g⟩:=b4 g
 obtain⟨d,j,g⟩:=bN g
 obtain⟨e,k,g⟩:=bN g
 obtain⟨f,l,g⟩:=bN g
 exact g
theorem yN.ok(Y:aD)(X:Fr)(Z:U)(g:fS.g (fun a b c aJ aI aG d e f Z=>∃ n,fS.t Y n a b c aJ aI aG d e f Z) X Z):den prog E (a3 aO [W,aT,W]) (a1.then (a0.g Y) (a8 E [] Y)) X Z:=
 fC (by kernel_rfl) (fS.ok Y X Z g)
def c8.t(Y:aD)(a:M)(b c:Nat)(aJ:M)(aI aG:Nat)(d:Int)(Z:U):Prop:=
 (∃ n,fS.t Y n a b c aJ aI aG d (((aI:Nat):Int)) 0 Z)
def c8.g(Y:aD)(X:Fr)(Z:U):Prop:=aQ (X 0) fun a b c=>aQ (X 1) fun aJ aI aG=>aW .u64 (X 4) fun d=>c8.t Y a b c aJ aI aG d Z
theorem c8.ok(Y:aD)(X:Fr)(Z:U)(g:c8.g Y X Z):den prog E (a3 aO [W,aT]) (a1.then (a0.g Y) (a8 E [] Y)) X Z:=
 bD g fun a b c d g=>bD g fun aJ aI aG e g=>bB g fun f h g=>c4 1 (r:=(a3 aO [W,aT,W])) (by kernel_rfl) (yN.ok Y) (bS [(0,.slice a b c),(1,.slice aJ aI aG),(4,.int .u64 f)] ⟨d,e,h,trivial⟩ (by kernel_rfl) g)
theorem yO.ok(Y:aD)(X:Fr)(Z:U)(g:c8.g Y X Z):den prog E (a3 aO [W]) (a8 E [] Y) X Z:=
 gA (by kernel_rfl) (a0.ok Y) (c8.ok Y X Z g)
def aL.t(Y:aD)(a:M)(b c:Nat)(aJ:M)(aI aG:Nat)(Z:U):Prop:=
 c8.t Y a b c aJ aI aG 0 Z
def aL.g(Y:aD)(X:Fr)(Z:U):Prop:=aQ (X 0) fun a b c=>aQ (X 1) fun aJ aI aG=>aL.t Y a b c aJ aI aG Z
theorem aL.ok(Y:aD)(X:Fr)(Z:U)(g:aL.g Y X Z):den prog E aO (a8 E [] Y) X Z:=
 bD g fun a b c d g=>bD g fun aJ aI aG e g=>c4 1 (r:=(a3 aO [W])) (by kernel_rfl) (yO.ok Y) (bS [(0,.slice a b c),(1,.slice aJ aI aG)] ⟨d,e,trivial⟩ (by kernel_rfl) g)
def t(a:M)(b c:Nat)(aJ:M)(aI aG:Nat)(Z:U)(Y:aD):Prop:=aL.t Y a b c aJ aI aG Z
theorem ok{a:M}{b:Nat}{d:Nat}{aJ:M}{aI:Nat}{aG:Nat}{Z:U}{Y:aD}(g:t a b d aJ aI aG Z Y):aY id #[.slice a b d,.slice aJ aI aG] Z Y:=
 dL dI (c:=aO) (dC:=[]) Tryz.func129 (by kernel_rfl) (by kernel_rfl) (by kernel_rfl) (args:=[.slice a b d,.slice aJ aI aG]) (by kernel_rfl) (aL.ok Y _ Z (bE rfl (bE rfl (g))))
end kA
end Go.Proofs.YtjijdlkpmngolaaGreat.G
