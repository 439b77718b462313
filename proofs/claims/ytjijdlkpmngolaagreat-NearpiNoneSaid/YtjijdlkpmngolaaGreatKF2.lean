import Derived.Test.YtjijdlkpmngolaaGreatKE
namespace Go.Proofs.YtjijdlkpmngolaaGreat.G
open Go.Gv
set_option linter.unusedVariables false
set_option maxRecDepth 100000
namespace l1
noncomputable def aO:Code:=dO Tryz.f100
def aM.t(Y:aD)(a:Bool)(b:M)(c d:Nat)(Z:U):Prop:=
 dN Z 82 [.bool a,.slice b c d] fun b1 a=>
 dN a 82 hP.a3 fun a b=>
 eG b (b1.add 0) fun c=>
 dP b (b1.add 1) fun d e f=>
 a0 fJ.id #[.bool (!c),.slice d e f] b fun b fX=>
 eA b fun b=>
 e9 b fun b c=>
 cR c fun c d e f=>
 b6 f <| b3 fX (a.add 0) (.bool b) fun b=>
 b3 b (a.add 1) (.slice c d e) fun b=>
 eG b (a.add 0) fun c=>
 dP b (a.add 1) fun a d e=>
 Y (.agg #[.bool c,.slice a d e]) b
def aM.g(Y:aD)(X:Fr)(Z:U):Prop:=eA (X 0) fun a=>cW a fun a b=>eS a fun a=>cW b fun b c=>aU b fun b d e=>b6 c <| aM.t Y a b d e Z
theorem aM.ok(Y:aD)(X:Fr)(Z:U)(g:aM.g Y X Z):den prog E aO (a7 E [.cell 2 82] Y) X Z:=by
 obtain⟨l,a,b⟩:=iG g
 obtain⟨m,n,rfl,c⟩:=e1 b
 obtain⟨d,rfl,e⟩:=iE c
 obtain⟨o,p,rfl,f⟩:=e1 e
 obtain⟨h,i,j,rfl,k⟩:=b0 f
 obtain⟨rfl,g⟩:=hK k
 exact bT [(0,.agg #[.bool d,.slice h i j])] ⟨a,trivial⟩ (by kernel_rfl) g
def t(a:Bool)(b:M)(c d:Nat)(Z:U)(Y:aD):Prop:=aM.t Y a b c d Z
theorem ok{a:Bool}{b:M}{d:Nat}{e:Nat}{Z:U}{Y:aD}(g:t a b d e Z Y):a0 id #[.agg #[.bool a,.slice b d e]] Z Y:=
 dQ dH (c:=aO) (dE:=[.cell 2 82]) Tryz.func100 (by kernel_rfl) (by kernel_rfl) (by kernel_rfl) (args:=[.agg #[.bool a,.slice b d e]]) (by kernel_rfl) (aM.ok Y _ Z (eW rfl (cK (cY rfl (cK (bD rfl (dY (g))))))))
end l1
namespace nC
noncomputable def aO:Code:=dO Tryz.f101
def aM.t(Y:aD)(a:Bool)(b:M)(c d:Nat)(e:Bool)(f:M)(g h:Nat)(Z:U):Prop:=
 dN Z 82 [.bool a,.slice b c d] fun b1 a=>
 dN a 82 [.bool e,.slice f g h] fun a b=>
 dN b 82 hP.a3 fun b c=>
 eG c (b1.add 0) fun d=>
 dP c (b1.add 1) fun e f g=>
 eG c (a.add 0) fun h=>
 dP c (a.add 1) fun i j k=>
 a0 nA.id #[.agg #[.bool d,.slice e f g],.agg #[.bool h,.slice i j k]] c fun c d=>
 c1 c fun c=>
 cW c fun c e=>
 eA c fun c=>
 e9 c fun c f=>
 cR f fun f g h i=>
 b6 i <| cW e fun e i=>
 eA e fun e=>
 e9 e fun e j=>
 cR j fun j k l m=>
 b6 m <| b6 i <| dN d 82 hP.a3 fun d i=>
 dN i 82 hP.a3 fun i m=>
 b3 m (d.add 0) (.bool c) fun c=>
 b3 c (d.add 1) (.slice f g h) fun c=>
 b3 c (i.add 0) (.bool e) fun c=>
 b3 c (i.add 1) (.slice j k l) fun c=>
 i.block < c.size∧eG c (i.add 0) fun e=>
 dP c (i.add 1) fun f g h=>
 a0 kM.id #[.agg #[.bool e,.slice f g h],.int .i64 1] c fun e f=>
 eA e fun e=>
 e9 e fun e g=>
 cR g fun g h i j=>
 b6 j <| (eN c.size c f)∧a.block < c.size∧eG f (a.add 0) fun j=>
 dP f (a.add 1) fun a k l=>
 a0 lE.id #[.agg #[.bool e,.slice g h i],.agg #[.bool j,.slice a k l]] f fun a e=>
 aW .i64 a fun a=>
 (eN c.size f e)∧cond (decide (a > 0)) (d.block < e.size∧eG e (d.add 0) fun c=>
 dP e (d.add 1) fun f g h=>
 a0 mP.id #[.int .i64 1] e fun i j=>
 eA i fun i=>
 e9 i fun i k=>
 cR k fun k l m n=>
 b6 n <| (eN e.size e j)∧a0 k3.id #[.agg #[.bool c,.slice f g h],.agg #[.bool i,.slice k l m]] j fun c f=>
 eA c fun c=>
 e9 c fun c g=>
 cR g fun g h i k=>
 b6 k <| (eN e.size j f)∧b3 f (b.add 0) (.bool c) fun c=>
 b3 c (b.add 1) (.slice g h i) fun c=>
 eG c (b.add 0) fun f=>
 dP c (b.add 1) fun g h i=>
 Y (.agg #[.bool f,.slice g h i]) c) (cond (a == 0) (eG e (d.add 0) fun a=>
 dP e (d.add 1) fun c f g=>
 a0 nB.id #[.agg #[.bool a,.slice c f g]] e fun a c=>
 eS a fun a=>
 cond (!a) (d.block < c.size∧eG c (d.add 0) fun a=>
 dP c (d.add 1) fun f g h=>
 a0 mP.id #[.int .i64 1] c fun i j=>
 eA i fun i=>
 e9 i fun i k=>
 cR k fun k l m n=>
 b6 n <| (eN c.size c j)∧a0 k3.id #[.agg #[.bool a,.slice f g h],.agg #[.bool i,.slice k l m]] j fun a f=>
 eA a fun a=>
 e9 a fun a g=>
 cR g fun g h i k=>
 b6 k <| (eN c.size j f)∧b3 f (b.add 0) (.bool a) fun a=>
 b3 a (b.add 1) (.slice g h i) fun a=>
 eG a (b.add 0) fun f=>
 dP a (b.add 1) fun g h i=>
 Y (.agg #[.bool f,.slice g h i]) a) (eG c (d.add 0) fun a=>
 dP c (d.add 1) fun f g h=>
 b3 c (b.add 0) (.bool a) fun a=>
 b3 a (b.add 1) (.slice f g h) fun a=>
 eG a (b.add 0) fun c=>
 dP a (b.add 1) fun f g h=>
 Y (.agg #[.bool c,.slice f g h]) a)) (eG e (d.add 0) fun a=>
 dP e (d.add 1) fun c d f=>
 b3 e (b.add 0) (.bool a) fun a=>
 b3 a (b.add 1) (.slice c d f) fun a=>
 eG a (b.add 0) fun c=>
 dP a (b.add 1) fun b d e=>
 Y (.agg #[.bool c,.slice b d e]) a))
def aM.g(Y:aD)(X:Fr)(Z:U):Prop:=eA (X 0) fun a=>cW a fun a b=>eS a fun a=>cW b fun b c=>aU b fun b d e=>b6 c <| eA (X 1) fun c=>cW c fun c f=>eS c fun c=>cW f fun f h=>aU f fun f i j=>b6 h <| aM.t Y a b d e c f i j Z
theorem aM.ok(Y:aD)(X:Fr)(Z:U)(g:aM.g Y X Z):den prog E aO (a7 E [.cell 4 82] Y) X Z:=by
 obtain⟨v,a,b⟩:=iG g
 obtain⟨w,x,rfl,c⟩:=e1 b
 obtain⟨d,rfl,e⟩:=iE c
 obtain⟨y,z,rfl,f⟩:=e1 e
 obtain⟨h,i,j,rfl,k⟩:=b0 f
 obtain⟨rfl,g⟩:=hK k
 obtain⟨A,l,m⟩:=iG g
 obtain⟨B,C,rfl,n⟩:=e1 m
 obtain⟨o,rfl,p⟩:=iE n
 obtain⟨D,F,rfl,q⟩:=e1 p
 obtain⟨r,s,t,rfl,u⟩:=b0 q
 obtain⟨rfl,g⟩:=hK u
 exact bT [(0,.agg #[.bool d,.slice h i j]),(1,.agg #[.bool o,.slice r s t])] ⟨a,l,trivial⟩ (by kernel_rfl) g
def t(a:Bool)(b:M)(c d:Nat)(e:Bool)(f:M)(g h:Nat)(Z:U)(Y:aD):Prop:=aM.t Y a b c d e f g h Z
theorem ok{a:Bool}{b:M}{d:Nat}{e:Nat}{f:Bool}{h:M}{i:Nat}{j:Nat}{Z:U}{Y:aD}(g:t a b d e f h i j Z Y):a0 id #[.agg #[.bool a,.slice b d e],.agg #[.bool f,.slice h i j]] Z Y:=
 dQ dH (c:=aO) (dE:=[.cell 4 82]) Tryz.func101 (by kernel_rfl) (by kernel_rfl) (by kernel_rfl) (args:=[.agg #[.bool a,.slice b d e],.agg #[.bool f,.slice h i j]]) (by kernel_rfl) (aM.ok Y _ Z (eW rfl (cK (cY rfl (cK (bD rfl (dY (eW rfl (cK (cY rfl (cK (bD rfl (dY (g))))))))))))))
end nC
namespace mP
noncomputable def aO:Code:=dO Tryz.f102
def aM.t(Y:aD)(aX:Int)(Z:U):Prop:=
 dN Z 82 hP.a3 fun b1 a=>
 cond (decide (aX < 0)) (a6 (IntKind.i64.wrap (aX+1)) fun b=>
 a6 (IntKind.i64.wrap (0 - b)) fun b=>
 a6 (IntKind.u64.wrap b) fun b=>
 a0 hM.id #[.int .u64 b] a fun b c=>
 aU b fun b d e=>
 a0 hM.id #[.int .u64 1] c fun c fX=>
 aU c fun c f g=>
 a0 g8.id #[.slice b d e,.slice c f g] fX fun b c=>
 aU b fun b d e=>
 a0 fJ.id #[.bool true,.slice b d e] c fun b c=>
 eA b fun b=>
 e9 b fun b d=>
 cR d fun d e f g=>
 b6 g <| b3 c (b1.add 0) (.bool b) fun b=>
 b3 b (b1.add 1) (.slice d e f) fun b=>
 eG b (b1.add 0) fun c=>
 dP b (b1.add 1) fun d e f=>
 Y (.agg #[.bool c,.slice d e f]) b) (a6 (IntKind.u64.wrap aX) fun b=>
 a0 hM.id #[.int .u64 b] a fun a b=>
 aU a fun a c d=>
 a0 fJ.id #[.bool false,.slice a c d] b fun a b=>
 eA a fun a=>
 e9 a fun a c=>
 cR c fun c d e f=>
 b6 f <| b3 b (b1.add 0) (.bool a) fun a=>
 b3 a (b1.add 1) (.slice c d e) fun a=>
 eG a (b1.add 0) fun b=>
 dP a (b1.add 1) fun c d e=>
 Y (.agg #[.bool b,.slice c d e]) a)
def aM.g(Y:aD)(X:Fr)(Z:U):Prop:=aW .i64 (X 0) fun aX=>aM.t Y aX Z
theorem aM.ok(Y:aD)(X:Fr)(Z:U)(g:aM.g Y X Z):den prog E aO (a7 E [.cell 2 82] Y) X Z:=
 a8 g fun aX a g=>bT [(0,.int .i64 aX)] ⟨a,trivial⟩ (by kernel_rfl) g
def t(aX:Int)(Z:U)(Y:aD):Prop:=aM.t Y aX Z
theorem ok{aX:Int}{Z:U}{Y:aD}(g:t aX Z Y):a0 id #[.int .i64 aX] Z Y:=
 dQ dH (c:=aO) (dE:=[.cell 2 82]) Tryz.func102 (by kernel_rfl) (by kernel_rfl) (by kernel_rfl) (args:=[.int .i64 aX]) (by kernel_rfl) (aM.ok Y _ Z (bR rfl (g)))
end mP
namespace k3
noncomputable def aO:Code:=dO Tryz.f103
def aM.t(Y:aD)(a:Bool)(b:M)(c d:Nat)(e:Bool)(f:M)(g h:Nat)(Z:U):Prop:=
 dN Z 82 [.bool a,.slice b c d] fun b1 a=>
 dN a 82 [.bool e,.slice f g h] fun a b=>
 dN b 82 hP.a3 fun b c=>
 eG c (b1.add 0) fun d=>
 eG c (a.add 0) fun e=>
 cond (d == e) ((b1.add 0).block < c.size∧eG c (b1.add 0) fun d=>
 (b1.add 1).block < c.size∧dP c (b1.add 1) fun e f g=>
 (a.add 1).block < c.size∧dP c (a.add 1) fun h i j=>
 a0 g8.id #[.slice e f g,.slice h i j] c fun e f=>
 aU e fun e g h=>
 (eN c.size c f)∧a0 fJ.id #[.bool d,.slice e g h] f fun d e=>
 eA d fun d=>
 e9 d fun d g=>
 cR g fun g h i j=>
 b6 j <| (eN c.size f e)∧b3 e (b.add 0) (.bool d) fun d=>
 b3 d (b.add 1) (.slice g h i) fun d=>
 eG d (b.add 0) fun e=>
 dP d (b.add 1) fun f g h=>
 Y (.agg #[.bool e,.slice f g h]) d) (dP c (b1.add 1) fun d e f=>
 dP c (a.add 1) fun g h i=>
 a0 h8.id #[.slice d e f,.slice g h i] c fun c d=>
 aW .i64 c fun c=>
 cond (decide (c≥0)) ((b1.add 0).block < d.size∧eG d (b1.add 0) fun c=>
 (b1.add 1).block < d.size∧dP d (b1.add 1) fun e f g=>
 (a.add 1).block < d.size∧dP d (a.add 1) fun h i j=>
 a0 hN.id #[.slice e f g,.slice h i j] d fun e f=>
 aU e fun e g h=>
 (eN d.size d f)∧a0 fJ.id #[.bool c,.slice e g h] f fun c e=>
 eA c fun c=>
 e9 c fun c g=>
 cR g fun g h i j=>
 b6 j <| (eN d.size f e)∧b3 e (b.add 0) (.bool c) fun c=>
 b3 c (b.add 1) (.slice g h i) fun c=>
 eG c (b.add 0) fun e=>
 dP c (b.add 1) fun f g h=>
 Y (.agg #[.bool e,.slice f g h]) c) ((a.add 0).block < d.size∧eG d (a.add 0) fun c=>
 (a.add 1).block < d.size∧dP d (a.add 1) fun a e f=>
 (b1.add 1).block < d.size∧dP d (b1.add 1) fun g h i=>
 a0 hN.id #[.slice a e f,.slice g h i] d fun a e=>
 aU a fun a f g=>
 (eN d.size d e)∧a0 fJ.id #[.bool c,.slice a f g] e fun a c=>
 eA a fun a=>
 e9 a fun a f=>
 cR f fun f g h i=>
 b6 i <| (eN d.size e c)∧b3 c (b.add 0) (.bool a) fun a=>
 b3 a (b.add 1) (.slice f g h) fun a=>
 eG a (b.add 0) fun c=>
 dP a (b.add 1) fun b d e=>
 Y (.agg #[.bool c,.slice b d e]) a))
def aM.g(Y:aD)(X:Fr)(Z:U):Prop:=eA (X 0) fun a=>cW a fun a b=>eS a fun a=>cW b fun b c=>aU b fun b d e=>b6 c <| eA (X 1) fun c=>cW c fun c f=>eS c fun c=>cW f fun f h=>aU f fun f i j=>b6 h <| aM.t Y a b d e c f i j Z
theorem aM.ok(Y:aD)(X:Fr)(Z:U)(g:aM.g Y X Z):den prog E aO (a7 E [.cell 4 82] Y) X Z:=by
 obtain⟨v,a,b⟩:=iG g
 obtain⟨w,x,rfl,c⟩:=e1 b
 obtain⟨d,rfl,e⟩:=iE c
 obtain⟨y,z,rfl,f⟩:=e1 e
 obtain⟨h,i,j,rfl,k⟩:=b0 f
 obtain⟨rfl,g⟩:=hK k
 obtain⟨A,l,m⟩:=iG g
 obtain⟨B,C,rfl,n⟩:=e1 m
 obtain⟨o,rfl,p⟩:=iE n
 obtain⟨D,F,rfl,q⟩:=e1 p
 obtain⟨r,s,t,rfl,u⟩:=b0 q
 obtain⟨rfl,g⟩:=hK u
 exact bT [(0,.agg #[.bool d,.slice h i j]),(1,.agg #[.bool o,.slice r s t])] ⟨a,l,trivial⟩ (by kernel_rfl) g
def t(a:Bool)(b:M)(c d:Nat)(e:Bool)(f:M)(g h:Nat)(Z:U)(Y:aD):Prop:=aM.t Y a b c d e f g h Z
theorem ok{a:Bool}{b:M}{d:Nat}{e:Nat}{f:Bool}{h:M}{i:Nat}{j:Nat}{Z:U}{Y:aD}(g:t a b d e f h i j Z Y):a0 id #[.agg #[.bool a,.slice b d e],.agg #[.bool f,.slice h i j]] Z Y:=
 dQ dH (c:=aO) (dE:=[.cell 4 82]) Tryz.func103 (by kernel_rfl) (by kernel_rfl) (by kernel_rfl) (args:=[.agg #[.bool a,.slice b d e],.agg #[.bool f,.slice h i j]]) (by kernel_rfl) (aM.ok Y _ Z (eW rfl (cK (cY rfl (cK (bD rfl (dY (eW rfl (cK (cY rfl (cK (bD rfl (dY (g))))))))))))))
end k3
namespace l4
noncomputable def aO:Code:=dO Tryz.f105
def aZ.t(Y:aD)(bS:M)(a bU:Nat)(b:M)(c d:Nat)(e:Int)(Z:U):Prop:=
 a0 jH.id #[.slice bS a bU,.slice b c d] Z fun a b=>
 c1 a fun a=>
 cR a fun a c d f=>
 dM f .i64 fun f f=>
 b6 f <| Y (.tuple #[.slice a c d,.int .u64 e]) b
def aZ.g(Y:aD)(X:Fr)(Z:U):Prop:=aU (X 8) fun bS a bU=>aU (X 9) fun b c d=>aW .u64 (X 10) fun e=>aZ.t Y bS a bU b c d e Z
theorem aZ.ok(Y:aD)(X:Fr)(Z:U)(g:aZ.g Y X Z):den prog E (a4 aO [W,W,W,W,W,W]) (a7 E [.tmp 4,.tmp 5] Y) X Z:=
 bE g fun bS a bU b g=>bE g fun c d e f g=>a8 g fun h i g=>bT [(8,.slice bS a bU),(9,.slice c d e),(10,.int .u64 h)] ⟨b,f,i,trivial⟩ (by kernel_rfl) g
def bJ.g(a:Int→M→Nat→Nat→M→Nat→Nat→M→Nat→Nat→Int→Int→U→Prop)(X:Fr)(Z:U):Prop:=aW .u64 (X 0) fun aX=>aU (X 6) fun a9 b bB=>aU (X 8) fun bS c bU=>aU (X 9) fun d e f=>aW .u64 (X 10) fun h=>aW .u64 (X 11) fun i=>a aX a9 b bB bS c bU d e f h i Z
def b9.t(Y:aD)(a:Int→M→Nat→Nat→M→Nat→Nat→M→Nat→Nat→Int→Int→U→Prop)(aX:Int)(a9:M)(b bB:Nat)(bS:M)(c bU:Nat)(d:M)(e f:Nat)(g h:Int)(Z:U):Prop:=
 cond (decide ((((b:Nat):Int)) > 0)) (a0 jU.id #[.slice a9 b bB,.int .u64 h] Z fun i j=>
 c1 i fun i=>
 cR i fun i k l m=>
 dM m .u64 fun m m=>
 dM m .i64 fun m m=>
 b6 m <| (4:Int) ≠ 0∧a6 (Int.tmod h 4) fun m=>
 cond (m == 1) (a0 iS.id #[.slice bS c bU,.slice i k l] j fun m n=>
 c1 m fun m=>
 cR m fun m o p q=>
 dM q .i64 fun q q=>
 b6 q <| a0 pN.id #[.slice a9 b bB,.int .u64 aX] n fun n q=>
 aU n fun n r s=>
 a6 (IntKind.u64.wrap (g+3)) fun u=>
 a6 (IntKind.u64.wrap (h+2)) fun v=>
 a aX n r s m o p d e f u v q) (a0 iS.id #[.slice d e f,.slice i k l] j fun i j=>
 c1 i fun i=>
 cR i fun i k l m=>
 dM m .i64 fun m m=>
 b6 m <| a0 pN.id #[.slice a9 b bB,.int .u64 aX] j fun b j=>
 aU b fun b m n=>
 a6 (IntKind.u64.wrap (g+3)) fun o=>
 a6 (IntKind.u64.wrap (h+2)) fun h=>
 a aX b m n bS c bU i k l o h j)) (aZ.t Y bS c bU d e f g Z)
def b9.g(Y:aD)(a:Int→M→Nat→Nat→M→Nat→Nat→M→Nat→Nat→Int→Int→U→Prop)(X:Fr)(Z:U):Prop:=aW .u64 (X 0) fun aX=>aU (X 6) fun a9 b bB=>aU (X 8) fun bS c bU=>aU (X 9) fun d e f=>aW .u64 (X 10) fun h=>aW .u64 (X 11) fun i=>b9.t Y a aX a9 b bB bS c bU d e f h i Z
theorem b9.ok(Y:aD)(a:Int→M→Nat→Nat→M→Nat→Nat→M→Nat→Nat→Int→Int→U→Prop)(X:Fr)(Z:U)(g:b9.g Y a X Z):den prog E (a4 aO [W,W,W,W,W,aR,W,aR,aR]) (a2.then (bJ.g a) (a2.inBlock 0 (a2.then (aZ.g Y) (a7 E [.tmp 4,.tmp 5] Y)))) X Z:=
 a8 g fun aX a g=>bE g fun a9 b bB c g=>bE g fun bS d bU e g=>bE g fun f h i j g=>a8 g fun k l g=>a8 g fun m n g=>bT [(0,.int .u64 aX),(6,.slice a9 b bB),(8,.slice bS d bU),(9,.slice f h i),(10,.int .u64 k),(11,.int .u64 m)] ⟨a,c,e,j,l,n,trivial⟩ (by kernel_rfl) g
def bJ.t(Y:aD):Nat→Int→M→Nat→Nat→M→Nat→Nat→M→Nat→Nat→Int→Int→U→Prop
 | 0=>fun _ _ _ _ _ _ _ _ _ _ _ _ _=>False
 | n+1=>fun aX a9 a bB bS b bU c d e f g Z=>b9.t Y (bJ.t Y n) aX a9 a bB bS b bU c d e f g Z
theorem bJ.ok(Y:aD)(X:Fr)(Z:U)(g:bJ.g (fun aX a9 a bB bS b bU c d e f h Z=>∃ n,bJ.t Y n aX a9 a bB bS b bU c d e f h Z) X Z):den prog E (a4 aO [W,W,W,W,W,aR,W,aR]) (a2.inBlock 0 (a2.then (aZ.g Y) (a7 E [.tmp 4,.tmp 5] Y))) X Z:=by
 obtain⟨aX,i,g⟩:=bN g
 obtain⟨a9,a,bB,j,g⟩:=b0 g
 obtain⟨bS,b,bU,k,g⟩:=b0 g
 obtain⟨c,d,e,l,g⟩:=b0 g
 obtain⟨f,m,g⟩:=bN g
 obtain⟨h,o,g⟩:=bN g
 obtain⟨n,g⟩:=g
 refine fK (fun n=>bJ.g (bJ.t Y n)) (K:=(a4 aO [W,W,W,W,W,aR,W,aR,aR])) (by kernel_rfl) (fun X Z g=>?_) (fun n=>b9.ok Y (bJ.t Y n)) n X Z (bR i (bD j (bD k (bD l (bR m (bR o (g)))))))
 obtain⟨aX,i,g⟩:=bN g
 obtain⟨a9,a,bB,j,g⟩:=b0 g
 obtain⟨bS,b,bU,k,g⟩:=b0 g
 obtain⟨c,d,e,l,g⟩:=b0 g
 obtain⟨f,m,g⟩:=bN g
 obtain⟨h,o,g⟩:=bN g
 exact g
theorem g2.ok(Y:aD)(X:Fr)(Z:U)(g:bJ.g (fun aX a9 a bB bS b bU c d e f h Z=>∃ n,bJ.t Y n aX a9 a bB bS b bU c d e f h Z) X Z):den prog E (a4 aO [W,W,W,W,W,aR,W]) (a2.then (aZ.g Y) (a7 E [.tmp 4,.tmp 5] Y)) X Z:=
 fA (by kernel_rfl) (bJ.ok Y X Z g)
def bF.t(Y:aD)(aX:Int)(a9:M)(a bB:Nat)(bS:M)(b bU:Nat)(c:M)(d e:Nat)(f:Int)(Z:U):Prop:=
 (∃ n,bJ.t Y n aX a9 a bB bS b bU c d e f 1 Z)
def bF.g(Y:aD)(X:Fr)(Z:U):Prop:=aW .u64 (X 0) fun aX=>aU (X 6) fun a9 a bB=>aU (X 8) fun bS b bU=>aU (X 9) fun c d e=>aW .u64 (X 10) fun f=>bF.t Y aX a9 a bB bS b bU c d e f Z
theorem bF.ok(Y:aD)(X:Fr)(Z:U)(g:bF.g Y X Z):den prog E (a4 aO [W,W,W,W,W,aR]) (a2.then (aZ.g Y) (a7 E [.tmp 4,.tmp 5] Y)) X Z:=
 a8 g fun aX a g=>bE g fun a9 b bB c g=>bE g fun bS d bU e g=>bE g fun f h i j g=>a8 g fun k l g=>c4 1 (r:=(a4 aO [W,W,W,W,W,aR,W])) (by kernel_rfl) (g2.ok Y) (bT [(0,.int .u64 aX),(6,.slice a9 b bB),(8,.slice bS d bU),(9,.slice f h i),(10,.int .u64 k)] ⟨a,c,e,j,l,trivial⟩ (by kernel_rfl) g)
theorem g3.ok(Y:aD)(X:Fr)(Z:U)(g:bF.g Y X Z):den prog E (a4 aO [W,W,W,W,W]) (a7 E [.tmp 4,.tmp 5] Y) X Z:=
 fZ (by kernel_rfl) (aZ.ok Y) (bF.ok Y X Z g)
def aM.t(Y:aD)(aX aK:Int)(Z:U):Prop:=
 a0 jT.id #[.int .u64 1] Z fun a b=>
 aU a fun a c d=>
 a0 j5.id #[.slice a c d,.int .i64 aK] b fun a b=>
 c1 a fun a=>
 cR a fun a c d e=>
 dM e .i64 fun e e=>
 b6 e <| a0 jU.id #[.slice a c d,.int .u64 aX] b fun a b=>
 c1 a fun a=>
 cR a fun a c d e=>
 dM e .u64 fun e e=>
 dM e .i64 fun e e=>
 b6 e <| dN b 35 [] fun b e=>
 dN e 35 [] fun e f=>
 bF.t Y aX a c d (some b) 0 0 (some e) 0 0 2 f
def aM.g(Y:aD)(X:Fr)(Z:U):Prop:=aW .u64 (X 0) fun aX=>aW .i64 (X 1) fun aK=>aM.t Y aX aK Z
theorem aM.ok(Y:aD)(X:Fr)(Z:U)(g:aM.g Y X Z):den prog E aO (a7 E [.tmp 4,.tmp 5] Y) X Z:=
 a8 g fun aX a g=>a8 g fun aK b g=>c4 5 (r:=(a4 aO [W,W,W,W,W])) (by kernel_rfl) (g3.ok Y) (bT [(0,.int .u64 aX),(1,.int .i64 aK)] ⟨a,b,trivial⟩ (by kernel_rfl) g)
def t(aX aK:Int)(Z:U)(Y:aD):Prop:=aM.t Y aX aK Z
theorem ok{aX:Int}{aK:Int}{Z:U}{Y:aD}(g:t aX aK Z Y):a0 id #[.int .u64 aX,.int .i64 aK] Z Y:=
 dQ dH (c:=aO) (dE:=[.tmp 4,.tmp 5]) Tryz.func105 (by kernel_rfl) (by kernel_rfl) (by kernel_rfl) (args:=[.int .u64 aX,.int .i64 aK]) (by kernel_rfl) (aM.ok Y _ Z (bR rfl (bR rfl (g))))
end l4
namespace sJ
noncomputable def aO:Code:=dO Tryz.f106
def aM.t(Y:aD)(a:M)(b c:Nat)(aK:Int)(Z:U):Prop:=
 a0 jT.id #[.int .u64 aK] Z fun d e=>
 aU d fun d f g=>
 a0 jH.id #[.slice a b c,.slice d f g] e fun d e=>
 c1 d fun d=>
 cR d fun d f g h=>
 dM h .i64 fun h h=>
 b6 h <| a0 jT.id #[.int .u64 aK] e fun e h=>
 aU e fun e i j=>
 a0 iS.id #[.slice a b c,.slice e i j] h fun a b=>
 c1 a fun a=>
 cR a fun a c e h=>
 dM h .i64 fun h h=>
 b6 h <| Y (.tuple #[.slice d f g,.slice a c e]) b
def aM.g(Y:aD)(X:Fr)(Z:U):Prop:=aU (X 0) fun a b c=>aW .u64 (X 1) fun aK=>aM.t Y a b c aK Z
theorem aM.ok(Y:aD)(X:Fr)(Z:U)(g:aM.g Y X Z):den prog E aO (a7 E [.tmp 4,.tmp 5] Y) X Z:=
 bE g fun a b c d g=>a8 g fun aK e g=>bT [(0,.slice a b c),(1,.int .u64 aK)] ⟨d,e,trivial⟩ (by kernel_rfl) g
def t(a:M)(b c:Nat)(aK:Int)(Z:U)(Y:aD):Prop:=aM.t Y a b c aK Z
theorem ok{a:M}{b:Nat}{d:Nat}{aK:Int}{Z:U}{Y:aD}(g:t a b d aK Z Y):a0 id #[.slice a b d,.int .u64 aK] Z Y:=
 dQ dH (c:=aO) (dE:=[.tmp 4,.tmp 5]) Tryz.func106 (by kernel_rfl) (by kernel_rfl) (by kernel_rfl) (args:=[.slice a b d,.int .u64 aK]) (by kernel_rfl) (aM.ok Y _ Z (bD rfl (bR rfl (g))))
end sJ
namespace pC
noncomputable def aO:Code:=dO Tryz.f107
def aM.t(Y:aD)(a:M)(b c:Nat)(Z:U):Prop:=
 a0 lA.id #[.slice a b c] Z fun a b=>
 aU a fun a c d=>
 cond (decide ((((c:Nat):Int)) > 8192)) (Y (.tuple #[.slice none 0 0,.int .i64 5]) b) (h5 b 35 j3 (((c:Nat):Int)) (((c:Nat):Int)) fun dX b=>
 mF b 1 (some dX) ((((c:Nat):Int)).toNat) (.slice a c d) fun a a=>
 Y (.tuple #[.slice (some dX) ((((c:Nat):Int)).toNat) ((((c:Nat):Int)).toNat),.int .i64 0]) a)
def aM.g(Y:aD)(X:Fr)(Z:U):Prop:=aU (X 0) fun a b c=>aM.t Y a b c Z
theorem aM.ok(Y:aD)(X:Fr)(Z:U)(g:aM.g Y X Z):den prog E aO (a7 E [.tmp 2,.tmp 3] Y) X Z:=
 bE g fun a b c d g=>bT [(0,.slice a b c)] ⟨d,trivial⟩ (by kernel_rfl) g
def t(a:M)(b c:Nat)(Z:U)(Y:aD):Prop:=aM.t Y a b c Z
theorem ok{a:M}{b:Nat}{d:Nat}{Z:U}{Y:aD}(g:t a b d Z Y):a0 id #[.slice a b d] Z Y:=
 dQ dH (c:=aO) (dE:=[.tmp 2,.tmp 3]) Tryz.func107 (by kernel_rfl) (by kernel_rfl) (by kernel_rfl) (args:=[.slice a b d]) (by kernel_rfl) (aM.ok Y _ Z (bD rfl (g)))
end pC
namespace jU
noncomputable def aO:Code:=dO Tryz.f108
def aZ.t(Y:aD)(cM:M)(a cO:Nat)(b:Int)(Z:U):Prop:=
 a0 mK.id #[.slice cM a cO] Z fun a c=>
 c1 a fun a=>
 cR a fun a d e f=>
 dM f .i64 fun f f=>
 b6 f <| Y (.tuple #[.slice a d e,.int .u64 b,.int .i64 0]) c
def aZ.g(Y:aD)(X:Fr)(Z:U):Prop:=aU (X 7) fun cM a cO=>aW .u64 (X 8) fun b=>aZ.t Y cM a cO b Z
theorem aZ.ok(Y:aD)(X:Fr)(Z:U)(g:aZ.g Y X Z):den prog E (a4 aO [W,W,W,W,W,W]) (a7 E [.tmp 4,.tmp 5,.tmp 6] Y) X Z:=
 bE g fun cM a cO b g=>a8 g fun c d g=>bT [(7,.slice cM a cO),(8,.int .u64 c)] ⟨b,d,trivial⟩ (by kernel_rfl) g
def bJ.g(a:M→Nat→Nat→Int→M→Nat→Nat→Int→Int→U→Prop)(X:Fr)(Z:U):Prop:=aU (X 0) fun b c d=>aW .u64 (X 1) fun aK=>aU (X 7) fun cM e cO=>aW .u64 (X 8) fun f=>aW .i64 (X 9) fun h=>a b c d aK cM e cO f h Z
def b9.t(Y:aD)(a:M→Nat→Nat→Int→M→Nat→Nat→Int→Int→U→Prop)(b:M)(c d:Nat)(aK:Int)(cM:M)(e cO:Nat)(f g:Int)(Z:U):Prop:=
 cond (decide (g≥0)) (c2 b c g 1 fun h=>
 cX Z .u64 h fun h=>
 a0 gJ.id #[.int .u64 f,.int .u64 h,.int .u64 aK] Z fun h i=>
 c1 h fun h=>
 dM h .u64 fun h j=>
 dM j .u64 fun j k=>
 b6 k <| c2 cM e g 1 fun k=>
 b3 i k (.int .u64 h) fun h=>
 a6 (IntKind.i64.wrap (g - 1)) fun g=>
 a b c d aK cM e cO j g h) (aZ.t Y cM e cO f Z)
def b9.g(Y:aD)(a:M→Nat→Nat→Int→M→Nat→Nat→Int→Int→U→Prop)(X:Fr)(Z:U):Prop:=aU (X 0) fun b c d=>aW .u64 (X 1) fun aK=>aU (X 7) fun cM e cO=>aW .u64 (X 8) fun f=>aW .i64 (X 9) fun h=>b9.t Y a b c d aK cM e cO f h Z
theorem b9.ok(Y:aD)(a:M→Nat→Nat→Int→M→Nat→Nat→Int→Int→U→Prop)(X:Fr)(Z:U)(g:b9.g Y a X Z):den prog E (a4 aO [W,W,W,W,W,aR,W,aR,aR]) (a2.then (bJ.g a) (a2.inBlock 0 (a2.then (aZ.g Y) (a7 E [.tmp 4,.tmp 5,.tmp 6] Y)))) X Z:=
 bE g fun a b c d g=>a8 g fun aK e g=>bE g fun cM f cO h g=>a8 g fun i j g=>a8 g fun k l g=>bT [(0,.slice a b c),(1,.int .u64 aK),(7,.slice cM f cO),(8,.int .u64 i),(9,.int .i64 k)] ⟨d,e,h,j,l,trivial⟩ (by kernel_rfl) g
def bJ.t(Y:aD):Nat→M→Nat→Nat→Int→M→Nat→Nat→Int→Int→U→Prop
 | 0=>fun _ _ _ _ _ _ _ _ _ _=>False
 | n+1=>fun a b c aK cM d cO e f Z=>b9.t Y (bJ.t Y n) a b c aK cM d cO e f Z
theorem bJ.ok(Y:aD)(X:Fr)(Z:U)(g:bJ.g (fun a b c aK cM d cO e f Z=>∃ n,bJ.t Y n a b c aK cM d cO e f Z) X Z):den prog E (a4 aO [W,W,W,W,W,aR,W,aR]) (a2.inBlock 0 (a2.then (aZ.g Y) (a7 E [.tmp 4,.tmp 5,.tmp 6] Y))) X Z:=by
 obtain⟨a,b,c,h,g⟩:=b0 g
 obtain⟨aK,i,g⟩:=bN g
 obtain⟨cM,d,cO,j,g⟩:=b0 g
 obtain⟨e,k,g⟩:=bN g
 obtain⟨f,l,g⟩:=bN g
 obtain⟨n,g⟩:=g
 refine fK (fun n=>bJ.g (bJ.t Y n)) (K:=(a4 aO [W,W,W,W,W,aR,W,aR,aR])) (by kernel_rfl) (fun X Z g=>?_) (fun n=>b9.ok Y (bJ.t Y n)) n X Z (bD h (bR i (bD j (bR k (bR l (g))))))
 obtain⟨a,b,c,h,g⟩:=b0 g
 obtain⟨aK,i,g⟩:=bN g
 obtain⟨cM,d,cO,j,g⟩:=b0 g
 obtain⟨e,k,g⟩:=bN g
 obtain⟨f,l,g⟩:=bN g
 exact g
theorem g2.ok(Y:aD)(X:Fr)(Z:U)(g:bJ.g (fun a b c aK cM d cO e f Z=>∃ n,bJ.t Y n a b c aK cM d cO e f Z) X Z):den prog E (a4 aO [W,W,W,W,W,aR,W]) (a2.then (aZ.g Y) (a7 E [.tmp 4,.tmp 5,.tmp 6] Y)) X Z:=
 fA (by kernel_rfl) (bJ.ok Y X Z g)
def bF.t(Y:aD)(a:M)(b c:Nat)(aK:Int)(cM:M)(d cO:Nat)(e:Int)(Z:U):Prop:=
 a6 (IntKind.i64.wrap ((((b:Nat):Int)) - 1)) fun f=>(∃ n,bJ.t Y n a b c aK cM d cO e f Z)
def bF.g(Y:aD)(X:Fr)(Z:U):Prop:=aU (X 0) fun a b c=>aW .u64 (X 1) fun aK=>aU (X 7) fun cM d cO=>aW .u64 (X 8) fun e=>bF.t Y a b c aK cM d cO e Z
theorem bF.ok(Y:aD)(X:Fr)(Z:U)(g:bF.g Y X Z):den prog E (a4 aO [W,W,W,W,W,aR]) (a2.then (aZ.g Y) (a7 E [.tmp 4,.tmp 5,.tmp 6] Y)) X Z:=
 bE g fun a b c d g=>a8 g fun aK e g=>bE g fun cM f cO h g=>a8 g fun i j g=>c4 1 (r:=(a4 aO [W,W,W,W,W,aR,W])) (by kernel_rfl) (g2.ok Y) (bT [(0,.slice a b c),(1,.int .u64 aK),(7,.slice cM f cO),(8,.int .u64 i)] ⟨d,e,h,j,trivial⟩ (by kernel_rfl) g)
theorem g3.ok(Y:aD)(X:Fr)(Z:U)(g:bF.g Y X Z):den prog E (a4 aO [W,W,W,W,W]) (a7 E [.tmp 4,.tmp 5,.tmp 6] Y) X Z:=
 fZ (by kernel_rfl) (aZ.ok Y) (bF.ok Y X Z g)
def aM.t(Y:aD)(a:M)(b c:Nat)(aK:Int)(Z:U):Prop:=
 a0 j1.id #[.slice a b c] Z fun d e=>
 eS d fun d=>
 cond (!d) (Y (.tuple #[.slice none 0 0,.int .u64 0,.int .i64 2]) e) (cond (aK == 0) (Y (.tuple #[.slice none 0 0,.int .u64 0,.int .i64 4]) e) (h5 e 35 j3 (((b:Nat):Int)) (((b:Nat):Int)) fun dX d=>
 bF.t Y a b c aK (some dX) ((((b:Nat):Int)).toNat) ((((b:Nat):Int)).toNat) 0 d))
def aM.g(Y:aD)(X:Fr)(Z:U):Prop:=aU (X 0) fun a b c=>aW .u64 (X 1) fun aK=>aM.t Y a b c aK Z
theorem aM.ok(Y:aD)(X:Fr)(Z:U)(g:aM.g Y X Z):den prog E aO (a7 E [.tmp 4,.tmp 5,.tmp 6] Y) X Z:=
 bE g fun a b c d g=>a8 g fun aK e g=>c4 5 (r:=(a4 aO [W,W,W,W,W])) (by kernel_rfl) (g3.ok Y) (bT [(0,.slice a b c),(1,.int .u64 aK)] ⟨d,e,trivial⟩ (by kernel_rfl) g)
def t(a:M)(b c:Nat)(aK:Int)(Z:U)(Y:aD):Prop:=aM.t Y a b c aK Z
theorem ok{a:M}{b:Nat}{d:Nat}{aK:Int}{Z:U}{Y:aD}(g:t a b d aK Z Y):a0 id #[.slice a b d,.int .u64 aK] Z Y:=
 dQ dH (c:=aO) (dE:=[.tmp 4,.tmp 5,.tmp 6]) Tryz.func108 (by kernel_rfl) (by kernel_rfl) (by kernel_rfl) (args:=[.slice a b d,.int .u64 aK]) (by kernel_rfl) (aM.ok Y _ Z (bD rfl (bR rfl (g))))
end jU
namespace qN
noncomputable def aO:Code:=dO Tryz.f109
def aM.t(Y:aD)(aX:Int)(Z:U):Prop:=
 a0 lV.id #[.int .u64 aX] Z fun a b=>
 aW .i64 a fun a=>
 a6 (IntKind.i64.wrap (64 - a)) fun a=>
 Y (.int .i64 a) b
def aM.g(Y:aD)(X:Fr)(Z:U):Prop:=aW .u64 (X 0) fun aX=>aM.t Y aX Z
theorem aM.ok(Y:aD)(X:Fr)(Z:U)(g:aM.g Y X Z):den prog E aO (a7 E [.tmp 2] Y) X Z:=
 a8 g fun aX a g=>bT [(0,.int .u64 aX)] ⟨a,trivial⟩ (by kernel_rfl) g
def t(aX:Int)(Z:U)(Y:aD):Prop:=aM.t Y aX Z
theorem ok{aX:Int}{Z:U}{Y:aD}(g:t aX Z Y):a0 id #[.int .u64 aX] Z Y:=
 dQ dH (c:=aO) (dE:=[.tmp 2]) Tryz.func109 (by kernel_rfl) (by kernel_rfl) (by kernel_rfl) (args:=[.int .u64 aX]) (by kernel_rfl) (aM.ok Y _ Z (bR rfl (g)))
end qN
namespace lC
noncomputable def aO:Code:=dO Tryz.f110
def aZ.t(Y:aD)(cM:M)(a cO:Nat)(Z:U):Prop:=
 Y (.slice cM a cO) Z
def aZ.g(Y:aD)(X:Fr)(Z:U):Prop:=aU (X 7) fun cM a cO=>aZ.t Y cM a cO Z
theorem aZ.ok(Y:aD)(X:Fr)(Z:U)(g:aZ.g Y X Z):den prog E (a4 aO [W,W,W,W,W,W]) (a7 E [.tmp 6] Y) X Z:=
 bE g fun cM a cO b g=>bT [(7,.slice cM a cO)] ⟨b,trivial⟩ (by kernel_rfl) g
def bJ.g(a:Int→M→Nat→Nat→Int→Int→Int→U→Prop)(X:Fr)(Z:U):Prop:=aW .i64 (X 1) fun aK=>aU (X 7) fun cM b cO=>aW .u64 (X 8) fun c=>aW .i64 (X 19) fun d=>aW .i64 (X 20) fun e=>a aK cM b cO c d e Z
def b9.t(Y:aD)(a:Int→M→Nat→Nat→Int→Int→Int→U→Prop)(aK:Int)(cM:M)(b cO:Nat)(c d e:Int)(Z:U):Prop:=
 cond (decide (e < d)) (c2 cM b e 1 fun dX=>
 cX Z .u64 dX fun f=>
 0≤aK∧a6 (hW .u64 f aK) fun f=>
 a6 (s4 .u64 f c) fun c=>
 c2 cM b e 1 fun f=>
 cX Z .u64 f fun f=>
 a6 (IntKind.i64.wrap (64 - aK)) fun g=>
 0≤g∧a6 (gP .u64 f g) fun f=>
 c2 cM b e 1 fun g=>
 b3 Z g (.int .u64 c) fun c=>
 a6 (IntKind.i64.wrap (e+1)) fun e=>
 a aK cM b cO f d e c) (aZ.t Y cM b cO Z)
def b9.g(Y:aD)(a:Int→M→Nat→Nat→Int→Int→Int→U→Prop)(X:Fr)(Z:U):Prop:=aW .i64 (X 1) fun aK=>aU (X 7) fun cM b cO=>aW .u64 (X 8) fun c=>aW .i64 (X 19) fun d=>aW .i64 (X 20) fun e=>b9.t Y a aK cM b cO c d e Z
theorem b9.ok(Y:aD)(a:Int→M→Nat→Nat→Int→Int→Int→U→Prop)(X:Fr)(Z:U)(g:b9.g Y a X Z):den prog E (a4 aO [W,W,W,W,W,aR,W,aR,aR]) (a2.then (bJ.g a) (a2.inBlock 0 (a2.then (aZ.g Y) (a7 E [.tmp 6] Y)))) X Z:=
 a8 g fun aK a g=>bE g fun cM b cO c g=>a8 g fun d e g=>a8 g fun f h g=>a8 g fun i j g=>bT [(1,.int .i64 aK),(7,.slice cM b cO),(8,.int .u64 d),(19,.int .i64 f),(20,.int .i64 i)] ⟨a,c,e,h,j,trivial⟩ (by kernel_rfl) g
def bJ.t(Y:aD):Nat→Int→M→Nat→Nat→Int→Int→Int→U→Prop
 | 0=>fun _ _ _ _ _ _ _ _=>False
 | n+1=>fun aK cM a cO b c d Z=>b9.t Y (bJ.t Y n) aK cM a cO b c d Z
theorem bJ.ok(Y:aD)(X:Fr)(Z:U)(g:bJ.g (fun aK cM a cO b c d Z=>∃ n,bJ.t Y n aK cM a cO b c d Z) X Z):den prog E (a4 aO [W,W,W,W,W,aR,W,aR]) (a2.inBlock 0 (a2.then (aZ.g Y) (a7 E [.tmp 6] Y))) X Z:=by
 obtain⟨aK,e,g⟩:=bN g
 obtain⟨cM,a,cO,f,g⟩:=b0 g
 obtain⟨b,h,g⟩:=bN g
 obtain⟨c,i,g⟩:=bN g
 obtain⟨d,j,g⟩:=bN g
 obtain⟨n,g⟩:=g
 refine fK (fun n=>bJ.g (bJ.t Y n)) (K:=(a4 aO [W,W,W,W,W,aR,W,aR,aR])) (by kernel_rfl) (fun X Z g=>?_) (fun n=>b9.ok Y (bJ.t Y n)) n X Z (bR e (bD f (bR h (bR i (bR j (g))))))
 obtain⟨aK,e,g⟩:=bN g
 obtain⟨cM,a,cO,f,g⟩:=b0 g
 obtain⟨b,h,g⟩:=bN g
 obtain⟨c,i,g⟩:=bN g
 obtain⟨d,j,g⟩:=bN g
 exact g
theorem g2.ok(Y:aD)(X:Fr)(Z:U)(g:bJ.g (fun aK cM a cO b c d Z=>∃ n,bJ.t Y n aK cM a cO b c d Z) X Z):den prog E (a4 aO [W,W,W,W,W,aR,W]) (a2.then (aZ.g Y) (a7 E [.tmp 6] Y)) X Z:=
 fA (by kernel_rfl) (bJ.ok Y X Z g)
def bF.t(Y:aD)(aK:Int)(cM:M)(a cO:Nat)(b:Int)(Z:U):Prop:=
 (∃ n,bJ.t Y n aK cM a cO b (((a:Nat):Int)) 0 Z)
def bF.g(Y:aD)(X:Fr)(Z:U):Prop:=aW .i64 (X 1) fun aK=>aU (X 7) fun cM a cO=>aW .u64 (X 8) fun b=>bF.t Y aK cM a cO b Z
theorem bF.ok(Y:aD)(X:Fr)(Z:U)(g:bF.g Y X Z):den prog E (a4 aO [W,W,W,W,W,aR]) (a2.then (aZ.g Y) (a7 E [.tmp 6] Y)) X Z:=
 a8 g fun aK a g=>bE g fun cM b cO c g=>a8 g fun d e g=>c4 1 (r:=(a4 aO [W,W,W,W,W,aR,W])) (by kernel_rfl) (g2.ok Y) (bT [(1,.int .i64 aK),(7,.slice cM b cO),(8,.int .u64 d)] ⟨a,c,e,trivial⟩ (by kernel_rfl) g)
theorem g3.ok(Y:aD)(X:Fr)(Z:U)(g:bF.g Y X Z):den prog E (a4 aO [W,W,W,W,W]) (a7 E [.tmp 6] Y) X Z:=
 fZ (by kernel_rfl) (aZ.ok Y) (bF.ok Y X Z g)
def aM.t(Y:aD)(a:M)(b c:Nat)(aK d:Int)(Z:U):Prop:=
 h5 Z 35 j3 d d fun b1 e=>
 mF e 1 (some b1) d.toNat (.slice a b c) fun a a=>
 cond (aK == 0) (Y (.slice (some b1) d.toNat d.toNat) a) (bF.t Y aK (some b1) d.toNat d.toNat 0 a)
def aM.g(Y:aD)(X:Fr)(Z:U):Prop:=aU (X 0) fun a b c=>aW .i64 (X 1) fun aK=>aW .i64 (X 2) fun d=>aM.t Y a b c aK d Z
theorem aM.ok(Y:aD)(X:Fr)(Z:U)(g:aM.g Y X Z):den prog E aO (a7 E [.tmp 6] Y) X Z:=
 bE g fun a b c d g=>a8 g fun aK e g=>a8 g fun f h g=>c4 5 (r:=(a4 aO [W,W,W,W,W])) (by kernel_rfl) (g3.ok Y) (bT [(0,.slice a b c),(1,.int .i64 aK),(2,.int .i64 f)] ⟨d,e,h,trivial⟩ (by kernel_rfl) g)
def t(a:M)(b c:Nat)(aK d:Int)(Z:U)(Y:aD):Prop:=aM.t Y a b c aK d Z
theorem ok{a:M}{b:Nat}{d:Nat}{aK:Int}{e:Int}{Z:U}{Y:aD}(g:t a b d aK e Z Y):a0 id #[.slice a b d,.int .i64 aK,.int .i64 e] Z Y:=
 dQ dH (c:=aO) (dE:=[.tmp 6]) Tryz.func110 (by kernel_rfl) (by kernel_rfl) (by kernel_rfl) (args:=[.slice a b d,.int .i64 aK,.int .i64 e]) (by kernel_rfl) (aM.ok Y _ Z (bD rfl (bR rfl (bR rfl (g)))))
end lC
namespace iN
noncomputable def aO:Code:=dO Tryz.f111
def bF.t(Y:aD)(a9:M)(a bB:Nat)(Z:U):Prop:=
 Y (.slice a9 a bB) Z
def bF.g(Y:aD)(X:Fr)(Z:U):Prop:=aU (X 6) fun a9 a bB=>bF.t Y a9 a bB Z
theorem bF.ok(Y:aD)(X:Fr)(Z:U)(g:bF.g Y X Z):den prog E (a4 aO [W,aR,W,W,W,W]) (a7 E [.tmp 4] Y) X Z:=
 bE g fun a9 a bB b g=>bT [(6,.slice a9 a bB)] ⟨b,trivial⟩ (by kernel_rfl) g
def eC.g(a:M→Nat→Nat→M→Nat→Nat→Int→M→Nat→Nat→Int→U→Prop)(X:Fr)(Z:U):Prop:=aU (X 0) fun b c d=>aU (X 1) fun aJ aH aG=>aW .i64 (X 5) fun e=>aU (X 6) fun a9 f bB=>aW .i64 (X 7) fun h=>a b c d aJ aH aG e a9 f bB h Z
def eR.t(Y:aD)(a:M→Nat→Nat→M→Nat→Nat→Int→M→Nat→Nat→Int→U→Prop)(b:M)(c d:Nat)(aJ:M)(aH aG:Nat)(e:Int)(a9:M)(f bB:Nat)(g:Int)(Z:U):Prop:=
 a6 (IntKind.i64.wrap (g - 1)) fun g=>a b c d aJ aH aG e a9 f bB g Z
def eR.g(Y:aD)(a:M→Nat→Nat→M→Nat→Nat→Int→M→Nat→Nat→Int→U→Prop)(X:Fr)(Z:U):Prop:=aU (X 0) fun b c d=>aU (X 1) fun aJ aH aG=>aW .i64 (X 5) fun e=>aU (X 6) fun a9 f bB=>aW .i64 (X 7) fun h=>eR.t Y a b c d aJ aH aG e a9 f bB h Z
theorem eR.ok(Y:aD)(a:M→Nat→Nat→M→Nat→Nat→Int→M→Nat→Nat→Int→U→Prop)(X:Fr)(Z:U)(g:eR.g Y a X Z):den prog E (a4 aO [W,aR,W,W,W,aR,W,aR,aR,W,W]) (a2.then (eC.g a) (a2.inBlock 0 (a2.then (bF.g Y) (a7 E [.tmp 4] Y)))) X Z:=
 bE g fun a b c d g=>bE g fun aJ aH aG e g=>a8 g fun f h g=>bE g fun a9 i bB j g=>a8 g fun k l g=>bT [(0,.slice a b c),(1,.slice aJ aH aG),(5,.int .i64 f),(6,.slice a9 i bB),(7,.int .i64 k)] ⟨d,e,h,j,l,trivial⟩ (by kernel_rfl) g
def gR.g(a:M→Nat→Nat→M→Nat→Nat→Int→M→Nat→Nat→Int→Int→M→Nat→Nat→U→Prop)(X:Fr)(Z:U):Prop:=aU (X 0) fun b c d=>aU (X 1) fun aJ aH aG=>aW .i64 (X 5) fun e=>aU (X 6) fun a9 f bB=>aW .i64 (X 7) fun h=>aW .u64 (X 8) fun i=>aU (X 9) fun j k l=>a b c d aJ aH aG e a9 f bB h i j k l Z
def iA.t(Y:aD)(a:M→Nat→Nat→M→Nat→Nat→Int→M→Nat→Nat→Int→U→Prop)(b:M→Nat→Nat→M→Nat→Nat→Int→M→Nat→Nat→Int→Int→M→Nat→Nat→U→Prop)(c:M)(d e:Nat)(aJ:M)(aH aG:Nat)(f:Int)(a9:M)(g bB:Nat)(h i:Int)(j:M)(k l:Nat)(Z:U):Prop:=
 a6 (IntKind.u64.wrap (i - 1)) fun i=>
 a0 lZ.id #[.slice j k l,.slice aJ aH aG] Z fun m n=>
 aW .u64 m fun m=>
 cond (m == 1) (c2 a9 g h 1 fun m=>
 b3 n m (.int .u64 i) fun m=>
 eR.t Y a c d e aJ aH aG f a9 g bB h m) (b c d e aJ aH aG f a9 g bB h i j k l n)
def iA.g(Y:aD)(a:M→Nat→Nat→M→Nat→Nat→Int→M→Nat→Nat→Int→U→Prop)(b:M→Nat→Nat→M→Nat→Nat→Int→M→Nat→Nat→Int→Int→M→Nat→Nat→U→Prop)(X:Fr)(Z:U):Prop:=aU (X 0) fun c d e=>aU (X 1) fun aJ aH aG=>aW .i64 (X 5) fun f=>aU (X 6) fun a9 h bB=>aW .i64 (X 7) fun i=>aW .u64 (X 8) fun j=>aU (X 9) fun k l m=>iA.t Y a b c d e aJ aH aG f a9 h bB i j k l m Z
theorem iA.ok(Y:aD)(a:M→Nat→Nat→M→Nat→Nat→Int→M→Nat→Nat→Int→U→Prop)(b:M→Nat→Nat→M→Nat→Nat→Int→M→Nat→Nat→Int→Int→M→Nat→Nat→U→Prop)(X:Fr)(Z:U)(g:iA.g Y a b X Z):den prog E (a4 aO [W,aR,W,W,W,aR,W,aR,aR,W,aR,aR,W,W,W,aR,aR]) (a2.then (gR.g b) (a2.inBlock 2 (a2.inBlock 1 (a2.then (eR.g Y a) (a2.then (eC.g a) (a2.inBlock 0 (a2.then (bF.g Y) (a7 E [.tmp 4] Y)))))))) X Z:=
 bE g fun a b c d g=>bE g fun aJ aH aG e g=>a8 g fun f h g=>bE g fun a9 i bB j g=>a8 g fun k l g=>a8 g fun m n g=>bE g fun o p q r g=>bT [(0,.slice a b c),(1,.slice aJ aH aG),(5,.int .i64 f),(6,.slice a9 i bB),(7,.int .i64 k),(8,.int .u64 m),(9,.slice o p q)] ⟨d,e,h,j,l,n,r,trivial⟩ (by kernel_rfl) g
def gR.t(Y:aD)(a:M→Nat→Nat→M→Nat→Nat→Int→M→Nat→Nat→Int→U→Prop):Nat→M→Nat→Nat→M→Nat→Nat→Int→M→Nat→Nat→Int→Int→M→Nat→Nat→U→Prop
 | 0=>fun _ _ _ _ _ _ _ _ _ _ _ _ _ _ _ _=>False
 | n+1=>fun b c d aJ aH aG e a9 f bB g h i j k Z=>iA.t Y a (gR.t Y a n) b c d aJ aH aG e a9 f bB g h i j k Z
theorem gR.ok(Y:aD)(a:M→Nat→Nat→M→Nat→Nat→Int→M→Nat→Nat→Int→U→Prop)(X:Fr)(Z:U)(g:gR.g (fun b c d aJ aH aG e a9 f bB h i j k l Z=>∃ n,gR.t Y a n b c d aJ aH aG e a9 f bB h i j k l Z) X Z):den prog E (a4 aO [W,aR,W,W,W,aR,W,aR,aR,W,aR,aR,W,W,W,aR]) (a2.inBlock 2 (a2.inBlock 1 (a2.then (eR.g Y a) (a2.then (eC.g a) (a2.inBlock 0 (a2.then (bF.g Y) (a7 E [.tmp 4] Y))))))) X Z:=by
 obtain⟨b,c,d,m,g⟩:=b0 g
 obtain⟨aJ,aH,aG,o,g⟩:=b0 g
 obtain⟨e,p,g⟩:=bN g
 obtain⟨a9,f,bB,q,g⟩:=b0 g
 obtain⟨h,r,g⟩:=bN g
 obtain⟨i,s,g⟩:=bN g
 obtain⟨j,k,l,u,g⟩:=b0 g
 obtain⟨n,g⟩:=g
 refine fK (fun n=>gR.g (gR.t Y a n)) (K:=(a4 aO [W,aR,W,W,W,aR,W,aR,aR,W,aR,aR,W,W,W,aR,aR])) (by kernel_rfl) (fun X Z g=>?_) (fun n=>iA.ok Y a (gR.t Y a n)) n X Z (bD m (bD o (bR p (bD q (bR r (bR s (bD u (g))))))))
 obtain⟨b,c,d,m,g⟩:=b0 g
 obtain⟨aJ,aH,aG,o,g⟩:=b0 g
 obtain⟨e,p,g⟩:=bN g
 obtain⟨a9,f,bB,q,g⟩:=b0 g
 obtain⟨h,r,g⟩:=bN g
 obtain⟨i,s,g⟩:=bN g
 obtain⟨j,k,l,u,g⟩:=b0 g
 exact g
theorem w5.ok(Y:aD)(a:M→Nat→Nat→M→Nat→Nat→Int→M→Nat→Nat→Int→U→Prop)(X:Fr)(Z:U)(g:gR.g (fun b c d aJ aH aG e a9 f bB h i j k l Z=>∃ n,gR.t Y a n b c d aJ aH aG e a9 f bB h i j k l Z) X Z):den prog E (a4 aO [W,aR,W,W,W,aR,W,aR,aR,W,aR,aR,W,W,W]) (a2.inBlock 1 (a2.then (eR.g Y a) (a2.then (eC.g a) (a2.inBlock 0 (a2.then (bF.g Y) (a7 E [.tmp 4] Y)))))) X Z:=
 fA (by kernel_rfl) (gR.ok Y a X Z g)
def e3.t(Y:aD)(a:M→Nat→Nat→M→Nat→Nat→Int→M→Nat→Nat→Int→U→Prop)(b:M)(c d:Nat)(aJ:M)(aH aG:Nat)(e:Int)(a9:M)(f bB:Nat)(g:Int)(Z:U):Prop:=
 a6 (IntKind.i64.wrap (g+e)) fun h=>
 c2 b c h 1 fun h=>
 cX Z .u64 h fun h=>
 a6 (IntKind.i64.wrap (g+e)) fun i=>
 a6 (IntKind.i64.wrap (i - 1)) fun i=>
 c2 b c i 1 fun i=>
 cX Z .u64 i fun i=>
 a6 (IntKind.i64.wrap (e - 1)) fun j=>
 c2 aJ aH j 1 fun j=>
 cX Z .u64 j fun j=>
 a0 r6.id #[.int .u64 h,.int .u64 i,.int .u64 j] Z fun h i=>
 aW .u64 h fun h=>
 a6 (IntKind.i64.wrap (g+e)) fun j=>
 a6 (IntKind.i64.wrap (j+1)) fun j=>
 hX 1 b c d (some (.int .i64 g)) (some (.int .i64 j)) none fun j k l=>
 a0 lY.id #[.slice j k l,.slice aJ aH aG,.int .u64 h] i fun i m=>
 aW .u64 i fun i=>
 cond (i == 0) (c2 a9 f g 1 fun i=>
 b3 m i (.int .u64 h) fun i=>
 eR.t Y a b c d aJ aH aG e a9 f bB g i) ((∃ n,gR.t Y a n b c d aJ aH aG e a9 f bB g h j k l m))
def e3.g(Y:aD)(a:M→Nat→Nat→M→Nat→Nat→Int→M→Nat→Nat→Int→U→Prop)(X:Fr)(Z:U):Prop:=aU (X 0) fun b c d=>aU (X 1) fun aJ aH aG=>aW .i64 (X 5) fun e=>aU (X 6) fun a9 f bB=>aW .i64 (X 7) fun h=>e3.t Y a b c d aJ aH aG e a9 f bB h Z
theorem e3.ok(Y:aD)(a:M→Nat→Nat→M→Nat→Nat→Int→M→Nat→Nat→Int→U→Prop)(X:Fr)(Z:U)(g:e3.g Y a X Z):den prog E (a4 aO [W,aR,W,W,W,aR,W,aR,aR,W,aR,aR]) (a2.inBlock 1 (a2.then (eR.g Y a) (a2.then (eC.g a) (a2.inBlock 0 (a2.then (bF.g Y) (a7 E [.tmp 4] Y)))))) X Z:=
 bE g fun b c d e g=>bE g fun aJ aH aG f g=>a8 g fun h i g=>bE g fun a9 j bB k g=>a8 g fun l m g=>c4 3 (r:=(a4 aO [W,aR,W,W,W,aR,W,aR,aR,W,aR,aR,W,W,W])) (by kernel_rfl) (w5.ok Y a) (bT [(0,.slice b c d),(1,.slice aJ aH aG),(5,.int .i64 h),(6,.slice a9 j bB),(7,.int .i64 l)] ⟨e,f,i,k,m,trivial⟩ (by kernel_rfl) g)
theorem p3.ok(Y:aD)(a:M→Nat→Nat→M→Nat→Nat→Int→M→Nat→Nat→Int→U→Prop)(X:Fr)(Z:U)(g:e3.g Y a X Z):den prog E (a4 aO [W,aR,W,W,W,aR,W,aR,aR,W,aR]) (a2.then (eR.g Y a) (a2.then (eC.g a) (a2.inBlock 0 (a2.then (bF.g Y) (a7 E [.tmp 4] Y))))) X Z:=
 fA (by kernel_rfl) (e3.ok Y a X Z g)
theorem w3.ok(Y:aD)(a:M→Nat→Nat→M→Nat→Nat→Int→M→Nat→Nat→Int→U→Prop)(X:Fr)(Z:U)(g:e3.g Y a X Z):den prog E (a4 aO [W,aR,W,W,W,aR,W,aR,aR,W]) (a2.then (eC.g a) (a2.inBlock 0 (a2.then (bF.g Y) (a7 E [.tmp 4] Y)))) X Z:=
 fZ (by kernel_rfl) (eR.ok Y a) (p3.ok Y a X Z g)
def dD.t(Y:aD)(a:M→Nat→Nat→M→Nat→Nat→Int→M→Nat→Nat→Int→U→Prop)(b:M)(c d:Nat)(aJ:M)(aH aG:Nat)(e:Int)(a9:M)(f bB:Nat)(g:Int)(Z:U):Prop:=
 cond (decide (g≥0)) (e3.t Y a b c d aJ aH aG e a9 f bB g Z) (bF.t Y a9 f bB Z)
def dD.g(Y:aD)(a:M→Nat→Nat→M→Nat→Nat→Int→M→Nat→Nat→Int→U→Prop)(X:Fr)(Z:U):Prop:=aU (X 0) fun b c d=>aU (X 1) fun aJ aH aG=>aW .i64 (X 5) fun e=>aU (X 6) fun a9 f bB=>aW .i64 (X 7) fun h=>dD.t Y a b c d aJ aH aG e a9 f bB h Z
theorem dD.ok(Y:aD)(a:M→Nat→Nat→M→Nat→Nat→Int→M→Nat→Nat→Int→U→Prop)(X:Fr)(Z:U)(g:dD.g Y a X Z):den prog E (a4 aO [W,aR,W,W,W,aR,W,aR,aR]) (a2.then (eC.g a) (a2.inBlock 0 (a2.then (bF.g Y) (a7 E [.tmp 4] Y)))) X Z:=
 bE g fun b c d e g=>bE g fun aJ aH aG f g=>a8 g fun h i g=>bE g fun a9 j bB k g=>a8 g fun l m g=>c4 1 (r:=(a4 aO [W,aR,W,W,W,aR,W,aR,aR,W])) (by kernel_rfl) (w3.ok Y a) (bT [(0,.slice b c d),(1,.slice aJ aH aG),(5,.int .i64 h),(6,.slice a9 j bB),(7,.int .i64 l)] ⟨e,f,i,k,m,trivial⟩ (by kernel_rfl) g)
def eC.t(Y:aD):Nat→M→Nat→Nat→M→Nat→Nat→Int→M→Nat→Nat→Int→U→Prop
 | 0=>fun _ _ _ _ _ _ _ _ _ _ _ _=>False
 | n+1=>fun a b c aJ aH aG d a9 e bB f Z=>dD.t Y (eC.t Y n) a b c aJ aH aG d a9 e bB f Z
theorem eC.ok(Y:aD)(X:Fr)(Z:U)(g:eC.g (fun a b c aJ aH aG d a9 e bB f Z=>∃ n,eC.t Y n a b c aJ aH aG d a9 e bB f Z) X Z):den prog E (a4 aO [W,aR,W,W,W,aR,W,aR]) (a2.inBlock 0 (a2.then (bF.g Y) (a7 E [.tmp 4] Y))) X Z:=by
 obtain⟨a,b,c,h,g⟩:=b0 g
 obtain⟨aJ,aH,aG,i,g⟩:=b0 g
 obtain⟨d,j,g⟩:=bN g
 obtain⟨a9,e,bB,k,g⟩:=b0 g
 obtain⟨f,l,g⟩:=bN g
 obtain⟨n,g⟩:=g
 refine fK (fun n=>eC.g (eC.t Y n)) (K:=(a4 aO [W,aR,W,W,W,aR,W,aR,aR])) (by kernel_rfl) (fun X Z g=>?_) (fun n=>dD.ok Y (eC.t Y n)) n X Z (bD h (bD i (bR j (bD k (bR l (g))))))
 obtain⟨a,b,c,h,g⟩:=b0 g
 obtain⟨aJ,aH,aG,i,g⟩:=b0 g
 obtain⟨d,j,g⟩:=bN g
 obtain⟨a9,e,bB,k,g⟩:=b0 g
 obtain⟨f,l,g⟩:=bN g
 exact g
theorem sY.ok(Y:aD)(X:Fr)(Z:U)(g:eC.g (fun a b c aJ aH aG d a9 e bB f Z=>∃ n,eC.t Y n a b c aJ aH aG d a9 e bB f Z) X Z):den prog E (a4 aO [W,aR,W,W,W,aR,W]) (a2.then (bF.g Y) (a7 E [.tmp 4] Y)) X Z:=
 fA (by kernel_rfl) (eC.ok Y X Z g)
def cF.t(Y:aD)(a:M)(b c:Nat)(aJ:M)(aH aG:Nat)(d:Int)(a9:M)(e bB:Nat)(Z:U):Prop:=
 a6 (IntKind.i64.wrap ((((b:Nat):Int)) - d)) fun f=>
 a6 (IntKind.i64.wrap (f - 1)) fun f=>
 (∃ n,eC.t Y n a b c aJ aH aG d a9 e bB f Z)
def cF.g(Y:aD)(X:Fr)(Z:U):Prop:=aU (X 0) fun a b c=>aU (X 1) fun aJ aH aG=>aW .i64 (X 5) fun d=>aU (X 6) fun a9 e bB=>cF.t Y a b c aJ aH aG d a9 e bB Z
theorem cF.ok(Y:aD)(X:Fr)(Z:U)(g:cF.g Y X Z):den prog E (a4 aO [W,aR,W,W,W,aR]) (a2.then (bF.g Y) (a7 E [.tmp 4] Y)) X Z:=
 bE g fun a b c d g=>bE g fun aJ aH aG e g=>a8 g fun f h g=>bE g fun a9 i bB j g=>c4 1 (r:=(a4 aO [W,aR,W,W,W,aR,W])) (by kernel_rfl) (sY.ok Y) (bT [(0,.slice a b c),(1,.slice aJ aH aG),(5,.int .i64 f),(6,.slice a9 i bB)] ⟨d,e,h,j,trivial⟩ (by kernel_rfl) g)
theorem w4.ok(Y:aD)(X:Fr)(Z:U)(g:cF.g Y X Z):den prog E (a4 aO [W,aR,W,W,W]) (a7 E [.tmp 4] Y) X Z:=
 fZ (by kernel_rfl) (bF.ok Y) (cF.ok Y X Z g)
def aZ.t(Y:aD)(a:M)(b c:Nat)(aJ:M)(aH aG:Nat)(Z:U):Prop:=
 a6 (IntKind.i64.wrap ((((b:Nat):Int)) - (((aH:Nat):Int)))) fun eF=>
 h5 Z 35 j3 eF eF fun eY d=>
 cF.t Y a b c aJ aH aG (((aH:Nat):Int)) (some eY) eF.toNat eF.toNat d
def aZ.g(Y:aD)(X:Fr)(Z:U):Prop:=aU (X 0) fun a b c=>aU (X 1) fun aJ aH aG=>aZ.t Y a b c aJ aH aG Z
theorem aZ.ok(Y:aD)(X:Fr)(Z:U)(g:aZ.g Y X Z):den prog E (a4 aO [W,aR]) (a7 E [.tmp 4] Y) X Z:=
 bE g fun a b c d g=>bE g fun aJ aH aG e g=>c4 3 (r:=(a4 aO [W,aR,W,W,W])) (by kernel_rfl) (w4.ok Y) (bT [(0,.slice a b c),(1,.slice aJ aH aG)] ⟨d,e,trivial⟩ (by kernel_rfl) g)
theorem BN.ok(Y:aD)(X:Fr)(Z:U)(g:aZ.g Y X Z):den prog E (a4 aO [W]) (a7 E [.tmp 4] Y) X Z:=
 He (by kernel_rfl) (aZ.ok Y X Z g)
def aM.t(Y:aD)(a:M)(b c:Nat)(aJ:M)(aH aG:Nat)(Z:U):Prop:=
 aZ.t Y a b c aJ aH aG Z
def aM.g(Y:aD)(X:Fr)(Z:U):Prop:=aU (X 0) fun a b c=>aU (X 1) fun aJ aH aG=>aM.t Y a b c aJ aH aG Z
theorem aM.ok(Y:aD)(X:Fr)(Z:U)(g:aM.g Y X Z):den prog E aO (a7 E [.tmp 4] Y) X Z:=
 bE g fun a b c d g=>bE g fun aJ aH aG e g=>c4 1 (r:=(a4 aO [W])) (by kernel_rfl) (BN.ok Y) (bT [(0,.slice a b c),(1,.slice aJ aH aG)] ⟨d,e,trivial⟩ (by kernel_rfl) g)
def t(a:M)(b c:Nat)(aJ:M)(aH aG:Nat)(Z:U)(Y:aD):Prop:=aM.t Y a b c aJ aH aG Z
theorem ok{a:M}{b:Nat}{d:Nat}{aJ:M}{aH:Nat}{aG:Nat}{Z:U}{Y:aD}(g:t a b d aJ aH aG Z Y):a0 id #[.slice a b d,.slice aJ aH aG] Z Y:=
 dQ dH (c:=aO) (dE:=[.tmp 4]) Tryz.func111 (by kernel_rfl) (by kernel_rfl) (by kernel_rfl) (args:=[.slice a b d,.slice aJ aH aG]) (by kernel_rfl) (aM.ok Y _ Z (bD rfl (bD rfl (g))))
end iN
namespace pI
noncomputable def aO:Code:=dO Tryz.f113
def aZ.t(Y:aD)(a:M)(b c:Nat)(aJ:M)(aH aG:Nat)(bL:M)(bX bG:Nat)(Z:U):Prop:=
 cond (decide ((((bX:Nat):Int)) < 40)) (a0 jL.id #[.slice a b c,.slice aJ aH aG,.slice bL bX bG] Z fun d e=>
 c1 d fun d=>
 b6 d <| Y (.tuple #[]) e) (a6 (IntKind.i64.wrap (2*(((bX:Nat):Int)))) fun d=>
 cond (decide ((((aH:Nat):Int))≥d)) (a0 m8.id #[.slice a b c,.slice aJ aH aG,.slice bL bX bG] Z fun d e=>
 c1 d fun d=>
 b6 d <| Y (.tuple #[]) e) (a0 sD.id #[.slice a b c,.slice aJ aH aG,.slice bL bX bG] Z fun a b=>
 c1 a fun a=>
 b6 a <| Y (.tuple #[]) b))
def aZ.g(Y:aD)(X:Fr)(Z:U):Prop:=aU (X 0) fun a b c=>aU (X 1) fun aJ aH aG=>aU (X 2) fun bL bX bG=>aZ.t Y a b c aJ aH aG bL bX bG Z
theorem aZ.ok(Y:aD)(X:Fr)(Z:U)(g:aZ.g Y X Z):den prog E (a4 aO [W]) (a7 E [] Y) X Z:=
 bE g fun a b c d g=>bE g fun aJ aH aG e g=>bE g fun bL bX bG f g=>bT [(0,.slice a b c),(1,.slice aJ aH aG),(2,.slice bL bX bG)] ⟨d,e,f,trivial⟩ (by kernel_rfl) g
def aM.t(Y:aD)(a:M)(b c:Nat)(aJ:M)(aH aG:Nat)(bL:M)(bX bG:Nat)(Z:U):Prop:=
 cond (decide ((((aH:Nat):Int)) < (((bX:Nat):Int)))) (aZ.t Y a b c bL bX bG aJ aH aG Z) (aZ.t Y a b c aJ aH aG bL bX bG Z)
def aM.g(Y:aD)(X:Fr)(Z:U):Prop:=aU (X 0) fun a b c=>aU (X 1) fun aJ aH aG=>aU (X 2) fun bL bX bG=>aM.t Y a b c aJ aH aG bL bX bG Z
theorem aM.ok(Y:aD)(X:Fr)(Z:U)(g:aM.g Y X Z):den prog E aO (a7 E [] Y) X Z:=
 bE g fun a b c d g=>bE g fun aJ aH aG e g=>bE g fun bL bX bG f g=>c4 1 (r:=(a4 aO [W])) (by kernel_rfl) (aZ.ok Y) (bT [(0,.slice a b c),(1,.slice aJ aH aG),(2,.slice bL bX bG)] ⟨d,e,f,trivial⟩ (by kernel_rfl) g)
def t(a:M)(b c:Nat)(aJ:M)(aH aG:Nat)(bL:M)(bX bG:Nat)(Z:U)(Y:aD):Prop:=aM.t Y a b c aJ aH aG bL bX bG Z
theorem ok{a:M}{b:Nat}{d:Nat}{aJ:M}{aH:Nat}{aG:Nat}{bL:M}{bX:Nat}{bG:Nat}{Z:U}{Y:aD}(g:t a b d aJ aH aG bL bX bG Z Y):a0 id #[.slice a b d,.slice aJ aH aG,.slice bL bX bG] Z Y:=
 dQ dH (c:=aO) (dE:=[]) Tryz.func113 (by kernel_rfl) (by kernel_rfl) (by kernel_rfl) (args:=[.slice a b d,.slice aJ aH aG,.slice bL bX bG]) (by kernel_rfl) (aM.ok Y _ Z (bD rfl (bD rfl (bD rfl (g)))))
end pI
namespace lD
noncomputable def aO:Code:=dO Tryz.f114
def aZ.t(Y:aD)(a:M)(b c:Nat)(d:Int)(Z:U):Prop:=
 hX 1 a b c none (some (.int .i64 d)) (some (.int .i64 d)) fun a b c=>Y (.slice a b c) Z
def aZ.g(Y:aD)(X:Fr)(Z:U):Prop:=aU (X 0) fun a b c=>aW .i64 (X 3) fun d=>aZ.t Y a b c d Z
theorem aZ.ok(Y:aD)(X:Fr)(Z:U)(g:aZ.g Y X Z):den prog E (a4 aO [W,W,W]) (a7 E [.tmp 2] Y) X Z:=
 bE g fun a b c d g=>a8 g fun e f g=>bT [(0,.slice a b c),(3,.int .i64 e)] ⟨d,f,trivial⟩ (by kernel_rfl) g
def cJ.g(a:M→Nat→Nat→Int→U→Prop)(X:Fr)(Z:U):Prop:=aU (X 0) fun b c d=>aW .i64 (X 3) fun e=>a b c d e Z
def cF.t(Y:aD)(a:M→Nat→Nat→Int→U→Prop)(b:M)(c d:Nat)(e:Int)(Z:U):Prop:=
 cond (decide (e > 0)) (a6 (IntKind.i64.wrap (e - 1)) fun f=>
 c2 b c f 1 fun f=>
 cX Z .u64 f fun f=>
 cond (f == 0) (a6 (IntKind.i64.wrap (e - 1)) fun f=>
 a b c d f Z) (aZ.t Y b c d e Z)) (aZ.t Y b c d e Z)
def cF.g(Y:aD)(a:M→Nat→Nat→Int→U→Prop)(X:Fr)(Z:U):Prop:=aU (X 0) fun b c d=>aW .i64 (X 3) fun e=>cF.t Y a b c d e Z
theorem cF.ok(Y:aD)(a:M→Nat→Nat→Int→U→Prop)(X:Fr)(Z:U)(g:cF.g Y a X Z):den prog E (a4 aO [W,W,aR,aR,aR]) (a2.then (cJ.g a) (a2.inBlock 0 (a2.then (aZ.g Y) (a7 E [.tmp 2] Y)))) X Z:=
 bE g fun a b c d g=>a8 g fun e f g=>bT [(0,.slice a b c),(3,.int .i64 e)] ⟨d,f,trivial⟩ (by kernel_rfl) g
def cJ.t(Y:aD):Nat→M→Nat→Nat→Int→U→Prop
 | 0=>fun _ _ _ _ _=>False
 | n+1=>fun a b c d Z=>cF.t Y (cJ.t Y n) a b c d Z
theorem cJ.ok(Y:aD)(X:Fr)(Z:U)(g:cJ.g (fun a b c d Z=>∃ n,cJ.t Y n a b c d Z) X Z):den prog E (a4 aO [W,W,aR,aR]) (a2.inBlock 0 (a2.then (aZ.g Y) (a7 E [.tmp 2] Y))) X Z:=by
 obtain⟨a,b,c,e,g⟩:=b0 g
 obtain⟨d,f,g⟩:=bN g
 obtain⟨n,g⟩:=g
 refine fK (fun n=>cJ.g (cJ.t Y n)) (K:=(a4 aO [W,W,aR,aR,aR])) (by kernel_rfl) (fun X Z g=>?_) (fun n=>cF.ok Y (cJ.t Y n)) n X Z (bD e (bR f (g)))
 obtain⟨a,b,c,e,g⟩:=b0 g
 obtain⟨d,f,g⟩:=bN g
 exact g
theorem hD.ok(Y:aD)(X:Fr)(Z:U)(g:cJ.g (fun a b c d Z=>∃ n,cJ.t Y n a b c d Z) X Z):den prog E (a4 aO [W,W,aR]) (a2.then (aZ.g Y) (a7 E [.tmp 2] Y)) X Z:=
 fA (by kernel_rfl) (cJ.ok Y X Z g)
theorem p2.ok(Y:aD)(X:Fr)(Z:U)(g:cJ.g (fun a b c d Z=>∃ n,cJ.t Y n a b c d Z) X Z):den prog E (a4 aO [W,W]) (a7 E [.tmp 2] Y) X Z:=
 fZ (by kernel_rfl) (aZ.ok Y) (hD.ok Y X Z g)
def aM.t(Y:aD)(a:M)(b c:Nat)(Z:U):Prop:=
 (∃ n,cJ.t Y n a b c (((b:Nat):Int)) Z)
def aM.g(Y:aD)(X:Fr)(Z:U):Prop:=aU (X 0) fun a b c=>aM.t Y a b c Z
theorem aM.ok(Y:aD)(X:Fr)(Z:U)(g:aM.g Y X Z):den prog E aO (a7 E [.tmp 2] Y) X Z:=
 bE g fun a b c d g=>c4 2 (r:=(a4 aO [W,W])) (by kernel_rfl) (p2.ok Y) (bT [(0,.slice a b c)] ⟨d,trivial⟩ (by kernel_rfl) g)
def t(a:M)(b c:Nat)(Z:U)(Y:aD):Prop:=aM.t Y a b c Z
theorem ok{a:M}{b:Nat}{d:Nat}{Z:U}{Y:aD}(g:t a b d Z Y):a0 id #[.slice a b d] Z Y:=
 dQ dH (c:=aO) (dE:=[.tmp 2]) Tryz.func114 (by kernel_rfl) (by kernel_rfl) (by kernel_rfl) (args:=[.slice a b d]) (by kernel_rfl) (aM.ok Y _ Z (bD rfl (g)))
end lD
namespace nA
noncomputable def aO:Code:=dO Tryz.f115
def aZ.t(Y:aD)(a dX b:Addr)(a9:M)(c bB:Nat)(cM:M)(d cO:Nat)(Z:U):Prop:=
 a0 hM.id #[.int .u64 1] Z fun e f=>
 aU e fun e g h=>
 (eN Z.size Z f)∧a0 g8.id #[.slice a9 c bB,.slice e g h] f fun c e=>
 aU c fun c g h=>
 (eN Z.size f e)∧a0 fJ.id #[.bool true,.slice c g h] e fun c f=>
 eA c fun c=>
 e9 c fun c g=>
 cR g fun g h i j=>
 b6 j <| (eN Z.size e f)∧(a.add 1).block < Z.size∧dP f (a.add 1) fun a e j=>
 a0 hN.id #[.slice a e j,.slice cM d cO] f fun a d=>
 aU a fun a e j=>
 (eN Z.size f d)∧a0 fJ.id #[.bool false,.slice a e j] d fun a e=>
 eA a fun a=>
 e9 a fun a f=>
 cR f fun f j k l=>
 b6 l <| (eN Z.size d e)∧b3 e (dX.add 0) (.bool c) fun c=>
 b3 c (dX.add 1) (.slice g h i) fun c=>
 b3 c (b.add 0) (.bool a) fun a=>
 b3 a (b.add 1) (.slice f j k) fun a=>
 eG a (dX.add 0) fun c=>
 dP a (dX.add 1) fun d e f=>
 eG a (b.add 0) fun g=>
 dP a (b.add 1) fun b h i=>
 Y (.tuple #[.agg #[.bool c,.slice d e f],.agg #[.bool g,.slice b h i]]) a
def aZ.g(Y:aD)(X:Fr)(Z:U):Prop:=fU (X 3) fun a=>fU (X 4) fun dX=>fU (X 5) fun b=>aU (X 6) fun a9 c bB=>aU (X 7) fun cM d cO=>aZ.t Y a dX b a9 c bB cM d cO Z
theorem aZ.ok(Y:aD)(X:Fr)(Z:U)(g:aZ.g Y X Z):den prog E (a4 aO [W,W,W,W]) (a7 E [.cell 4 82,.cell 5 82] Y) X Z:=
 hH g fun a b g=>hH g fun dX c g=>hH g fun d e g=>bE g fun a9 f bB h g=>bE g fun cM i cO j g=>bT [(3,.pointer (some a)),(4,.pointer (some dX)),(5,.pointer (some d)),(6,.slice a9 f bB),(7,.slice cM i cO)] ⟨b,c,e,h,j,trivial⟩ (by kernel_rfl) g
def aM.t(Y:aD)(a:Bool)(b:M)(c d:Nat)(e:Bool)(f:M)(g h:Nat)(Z:U):Prop:=
 dN Z 82 [.bool a,.slice b c d] fun b1 a=>
 dN a 82 [.bool e,.slice f g h] fun a b=>
 dN b 82 hP.a3 fun b c=>
 dN c 82 hP.a3 fun c d=>
 eG d (a.add 0) fun e=>
 dP d (a.add 1) fun f g h=>
 a0 j6.id #[.agg #[.bool e,.slice f g h]] d fun d e=>
 aW .i64 d fun d=>
 cond (decide (d≤0)) (b3 e (b.add 0) (.bool false) fun d=>
 b3 d (b.add 1) (.slice none 0 0) fun d=>
 b3 d (c.add 0) (.bool false) fun d=>
 b3 d (c.add 1) (.slice none 0 0) fun d=>
 eG d (b.add 0) fun f=>
 dP d (b.add 1) fun g h i=>
 eG d (c.add 0) fun j=>
 dP d (c.add 1) fun k l m=>
 Y (.tuple #[.agg #[.bool f,.slice g h i],.agg #[.bool j,.slice k l m]]) d) (dP e (b1.add 1) fun d f g=>
 dP e (a.add 1) fun h i j=>
 a0 iR.id #[.slice d f g,.slice h i j] e fun d e=>
 c1 d fun d=>
 cR d fun d f g h=>
 cR h fun h i j k=>
 b6 k <| eG e (b1.add 0) fun k=>
 cond (!k) (eG e (b1.add 0) fun k=>
 a0 fJ.id #[.bool k,.slice d f g] e fun k l=>
 eA k fun k=>
 e9 k fun k m=>
 cR m fun m n o p=>
 b6 p <| a0 fJ.id #[.bool false,.slice h i j] l fun l p=>
 eA l fun l=>
 e9 l fun l q=>
 cR q fun q r s u=>
 b6 u <| b3 p (b.add 0) (.bool k) fun k=>
 b3 k (b.add 1) (.slice m n o) fun k=>
 b3 k (c.add 0) (.bool l) fun k=>
 b3 k (c.add 1) (.slice q r s) fun k=>
 eG k (b.add 0) fun l=>
 dP k (b.add 1) fun m n o=>
 eG k (c.add 0) fun p=>
 dP k (c.add 1) fun q r s=>
 Y (.tuple #[.agg #[.bool l,.slice m n o],.agg #[.bool p,.slice q r s]]) k) (cond ((((i:Nat):Int)) == 0) (eG e (b1.add 0) fun k=>
 a0 fJ.id #[.bool k,.slice d f g] e fun k l=>
 eA k fun k=>
 e9 k fun k m=>
 cR m fun m n o p=>
 b6 p <| a0 fJ.id #[.bool false,.slice h i j] l fun l p=>
 eA l fun l=>
 e9 l fun l q=>
 cR q fun q r s u=>
 b6 u <| b3 p (b.add 0) (.bool k) fun k=>
 b3 k (b.add 1) (.slice m n o) fun k=>
 b3 k (c.add 0) (.bool l) fun k=>
 b3 k (c.add 1) (.slice q r s) fun k=>
 eG k (b.add 0) fun l=>
 dP k (b.add 1) fun m n o=>
 eG k (c.add 0) fun p=>
 dP k (c.add 1) fun q r s=>
 Y (.tuple #[.agg #[.bool l,.slice m n o],.agg #[.bool p,.slice q r s]]) k) (aZ.t Y a b c d f g h i j e)))
def aM.g(Y:aD)(X:Fr)(Z:U):Prop:=eA (X 0) fun a=>cW a fun a b=>eS a fun a=>cW b fun b c=>aU b fun b d e=>b6 c <| eA (X 1) fun c=>cW c fun c f=>eS c fun c=>cW f fun f h=>aU f fun f i j=>b6 h <| aM.t Y a b d e c f i j Z
theorem aM.ok(Y:aD)(X:Fr)(Z:U)(g:aM.g Y X Z):den prog E aO (a7 E [.cell 4 82,.cell 5 82] Y) X Z:=by
 obtain⟨w,a,b⟩:=iG g
 obtain⟨x,y,rfl,c⟩:=e1 b
 obtain⟨d,rfl,e⟩:=iE c
 obtain⟨z,A,rfl,f⟩:=e1 e
 obtain⟨h,i,j,rfl,k⟩:=b0 f
 obtain⟨rfl,g⟩:=hK k
 obtain⟨B,l,m⟩:=iG g
 obtain⟨C,D,rfl,n⟩:=e1 m
 obtain⟨o,rfl,p⟩:=iE n
 obtain⟨F,G,rfl,q⟩:=e1 p
 obtain⟨s,t,u,rfl,v⟩:=b0 q
 obtain⟨rfl,g⟩:=hK v
 exact c4 4 (r:=(a4 aO [W,W,W,W])) (by kernel_rfl) (aZ.ok Y) (bT [(0,.agg #[.bool d,.slice h i j]),(1,.agg #[.bool o,.slice s t u])] ⟨a,l,trivial⟩ (by kernel_rfl) g)
def t(a:Bool)(b:M)(c d:Nat)(e:Bool)(f:M)(g h:Nat)(Z:U)(Y:aD):Prop:=aM.t Y a b c d e f g h Z
theorem ok{a:Bool}{b:M}{d:Nat}{e:Nat}{f:Bool}{h:M}{i:Nat}{j:Nat}{Z:U}{Y:aD}(g:t a b d e f h i j Z Y):a0 id #[.agg #[.bool a,.slice b d e],.agg #[.bool f,.slice h i j]] Z Y:=
 dQ dH (c:=aO) (dE:=[.cell 4 82,.cell 5 82]) Tryz.func115 (by kernel_rfl) (by kernel_rfl) (by kernel_rfl) (args:=[.agg #[.bool a,.slice b d e],.agg #[.bool f,.slice h i j]]) (by kernel_rfl) (aM.ok Y _ Z (eW rfl (cK (cY rfl (cK (bD rfl (dY (eW rfl (cK (cY rfl (cK (bD rfl (dY (g))))))))))))))
end nA
namespace nB
noncomputable def aO:Code:=dO Tryz.f116
def aM.t(Y:aD)(a:Bool)(b:M)(c d:Nat)(Z:U):Prop:=
 dN Z 82 [.bool a,.slice b c d] fun b1 a=>
 dP a (b1.add 1) fun b c d=>
 a0 nM.id #[.slice b c d,.int .i64 0] a fun a b=>
 aW .i64 a fun a=>
 Y (.bool (a == 0)) b
def aM.g(Y:aD)(X:Fr)(Z:U):Prop:=eA (X 0) fun a=>cW a fun a b=>eS a fun a=>cW b fun b c=>aU b fun b d e=>b6 c <| aM.t Y a b d e Z
theorem aM.ok(Y:aD)(X:Fr)(Z:U)(g:aM.g Y X Z):den prog E aO (a7 E [.tmp 2] Y) X Z:=by
 obtain⟨l,a,b⟩:=iG g
 obtain⟨m,n,rfl,c⟩:=e1 b
 obtain⟨d,rfl,e⟩:=iE c
 obtain⟨o,p,rfl,f⟩:=e1 e
 obtain⟨h,i,j,rfl,k⟩:=b0 f
 obtain⟨rfl,g⟩:=hK k
 exact bT [(0,.agg #[.bool d,.slice h i j])] ⟨a,trivial⟩ (by kernel_rfl) g
def t(a:Bool)(b:M)(c d:Nat)(Z:U)(Y:aD):Prop:=aM.t Y a b c d Z
theorem ok{a:Bool}{b:M}{d:Nat}{e:Nat}{Z:U}{Y:aD}(g:t a b d e Z Y):a0 id #[.agg #[.bool a,.slice b d e]] Z Y:=
 dQ dH (c:=aO) (dE:=[.tmp 2]) Tryz.func116 (by kernel_rfl) (by kernel_rfl) (by kernel_rfl) (args:=[.agg #[.bool a,.slice b d e]]) (by kernel_rfl) (aM.ok Y _ Z (eW rfl (cK (cY rfl (cK (bD rfl (dY (g))))))))
end nB
namespace pN
noncomputable def aO:Code:=dO Tryz.f117
def aM.t(Y:aD)(a:M)(b c:Nat)(aK:Int)(Z:U):Prop:=
 cond (decide (aK < 4294967296)) (a6 (IntKind.u64.wrap (aK*aK)) fun eF=>
 a0 jU.id #[.slice a b c,.int .u64 eF] Z fun d e=>
 c1 d fun d=>
 cR d fun d f g h=>
 dM h .u64 fun h h=>
 dM h .i64 fun h h=>
 b6 h <| Y (.slice d f g) e) (a0 jU.id #[.slice a b c,.int .u64 aK] Z fun a b=>
 c1 a fun a=>
 cR a fun a c d e=>
 dM e .u64 fun e e=>
 dM e .i64 fun e e=>
 b6 e <| a0 jU.id #[.slice a c d,.int .u64 aK] b fun a b=>
 c1 a fun a=>
 cR a fun a c d e=>
 dM e .u64 fun e e=>
 dM e .i64 fun e e=>
 b6 e <| Y (.slice a c d) b)
def aM.g(Y:aD)(X:Fr)(Z:U):Prop:=aU (X 0) fun a b c=>aW .u64 (X 1) fun aK=>aM.t Y a b c aK Z
theorem aM.ok(Y:aD)(X:Fr)(Z:U)(g:aM.g Y X Z):den prog E aO (a7 E [.tmp 4] Y) X Z:=
 bE g fun a b c d g=>a8 g fun aK e g=>bT [(0,.slice a b c),(1,.int .u64 aK)] ⟨d,e,trivial⟩ (by kernel_rfl) g
def t(a:M)(b c:Nat)(aK:Int)(Z:U)(Y:aD):Prop:=aM.t Y a b c aK Z
theorem ok{a:M}{b:Nat}{d:Nat}{aK:Int}{Z:U}{Y:aD}(g:t a b d aK Z Y):a0 id #[.slice a b d,.int .u64 aK] Z Y:=
 dQ dH (c:=aO) (dE:=[.tmp 4]) Tryz.func117 (by kernel_rfl) (by kernel_rfl) (by kernel_rfl) (args:=[.slice a b d,.int .u64 aK]) (by kernel_rfl) (aM.ok Y _ Z (bD rfl (bR rfl (g))))
end pN
namespace gJ
noncomputable def aO:Code:=dO Tryz.f118
def b9.t(Y:aD)(a b:Int)(c d:Int)(e f:Int)(Z:U):Prop:=
 a6 (IntKind.u64.wrap (d*4294967296)) fun d=>
 a6 (IntKind.u64.wrap (d+f)) fun d=>
 a6 (IntKind.u64.wrap (e*4294967296)) fun e=>
 a6 (IntKind.u64.wrap (e+c)) fun c=>
 a6 (IntKind.u64.wrap (f*a)) fun a=>
 a6 (IntKind.u64.wrap (c - a)) fun a=>
 0≤b∧a6 (gP .u64 a b) fun a=>
 Y (.tuple #[.int .u64 d,.int .u64 a]) Z
def b9.g(Y:aD)(X:Fr)(Z:U):Prop:=aW .u64 (X 2) fun a=>aW .u64 (X 8) fun b=>aW .u64 (X 14) fun c=>aW .u64 (X 15) fun d=>aW .u64 (X 17) fun e=>aW .u64 (X 18) fun f=>b9.t Y a b c d e f Z
theorem b9.ok(Y:aD)(X:Fr)(Z:U)(g:b9.g Y X Z):den prog E (a4 aO [W,W,W,W,W,W,W,W,W,W,W,W,W,W,W,W,W,W,W]) (a7 E [.tmp 6,.tmp 7] Y) X Z:=
 a8 g fun a b g=>a8 g fun c d g=>a8 g fun e f g=>a8 g fun h i g=>a8 g fun j k g=>a8 g fun l m g=>bT [(2,.int .u64 a),(8,.int .u64 c),(14,.int .u64 e),(15,.int .u64 h),(17,.int .u64 j),(18,.int .u64 l)] ⟨b,d,f,i,k,m,trivial⟩ (by kernel_rfl) g
def gG.g(a:Int→Int→Int→Int→Int→Int→Int→Int→Int→U→Prop)(X:Fr)(Z:U):Prop:=aW .u64 (X 2) fun b=>aW .u64 (X 8) fun c=>aW .u64 (X 9) fun d=>aW .u64 (X 10) fun e=>aW .u64 (X 14) fun f=>aW .u64 (X 15) fun h=>aW .u64 (X 16) fun i=>aW .u64 (X 17) fun j=>aW .u64 (X 18) fun k=>a b c d e f h i j k Z
def e3.t(Y:aD)(a:Int→Int→Int→Int→Int→Int→Int→Int→Int→U→Prop)(b c:Int)(d e:Int)(f g:Int)(h i j:Int)(Z:U):Prop:=
 a6 (IntKind.u64.wrap (j - 1)) fun j=>
 a6 (IntKind.u64.wrap (h+d)) fun h=>
 cond (decide (h≥4294967296)) (b9.t Y b c f g i j Z) (a b c d e f g h i j Z)
def e3.g(Y:aD)(a:Int→Int→Int→Int→Int→Int→Int→Int→Int→U→Prop)(X:Fr)(Z:U):Prop:=aW .u64 (X 2) fun b=>aW .u64 (X 8) fun c=>aW .u64 (X 9) fun d=>aW .u64 (X 10) fun e=>aW .u64 (X 14) fun f=>aW .u64 (X 15) fun h=>aW .u64 (X 16) fun i=>aW .u64 (X 17) fun j=>aW .u64 (X 18) fun k=>e3.t Y a b c d e f h i j k Z
theorem e3.ok(Y:aD)(a:Int→Int→Int→Int→Int→Int→Int→Int→Int→U→Prop)(X:Fr)(Z:U)(g:e3.g Y a X Z):den prog E (a4 aO [W,W,W,W,W,W,W,W,W,W,W,W,W,W,W,W,W,W,aR,aR,aR,W]) (a2.then (gG.g a) (a2.inBlock 2 (a2.then (b9.g Y) (a7 E [.tmp 6,.tmp 7] Y)))) X Z:=
 a8 g fun a b g=>a8 g fun c d g=>a8 g fun e f g=>a8 g fun h i g=>a8 g fun j k g=>a8 g fun l m g=>a8 g fun n o g=>a8 g fun p q g=>a8 g fun r s g=>bT [(2,.int .u64 a),(8,.int .u64 c),(9,.int .u64 e),(10,.int .u64 h),(14,.int .u64 j),(15,.int .u64 l),(16,.int .u64 n),(17,.int .u64 p),(18,.int .u64 r)] ⟨b,d,f,i,k,m,o,q,s,trivial⟩ (by kernel_rfl) g
def eR.t(Y:aD)(a:Int→Int→Int→Int→Int→Int→Int→Int→Int→U→Prop)(b c:Int)(d e:Int)(f g:Int)(h i j:Int)(Z:U):Prop:=
 cond (decide (j≥4294967296)) (e3.t Y a b c d e f g h i j Z) (a6 (IntKind.u64.wrap (j*e)) fun k=>
 a6 (IntKind.u64.wrap (4294967296*h)) fun l=>
 a6 (IntKind.u64.wrap (l+f)) fun l=>
 cond (decide (k > l)) (e3.t Y a b c d e f g h i j Z) (b9.t Y b c f g i j Z))
def eR.g(Y:aD)(a:Int→Int→Int→Int→Int→Int→Int→Int→Int→U→Prop)(X:Fr)(Z:U):Prop:=aW .u64 (X 2) fun b=>aW .u64 (X 8) fun c=>aW .u64 (X 9) fun d=>aW .u64 (X 10) fun e=>aW .u64 (X 14) fun f=>aW .u64 (X 15) fun h=>aW .u64 (X 16) fun i=>aW .u64 (X 17) fun j=>aW .u64 (X 18) fun k=>eR.t Y a b c d e f h i j k Z
theorem eR.ok(Y:aD)(a:Int→Int→Int→Int→Int→Int→Int→Int→Int→U→Prop)(X:Fr)(Z:U)(g:eR.g Y a X Z):den prog E (a4 aO [W,W,W,W,W,W,W,W,W,W,W,W,W,W,W,W,W,W,aR,aR,aR]) (a2.then (gG.g a) (a2.inBlock 2 (a2.then (b9.g Y) (a7 E [.tmp 6,.tmp 7] Y)))) X Z:=
 a8 g fun b c g=>a8 g fun d e g=>a8 g fun f h g=>a8 g fun i j g=>a8 g fun k l g=>a8 g fun m n g=>a8 g fun o p g=>a8 g fun q s g=>a8 g fun t u g=>c4 1 (r:=(a4 aO [W,W,W,W,W,W,W,W,W,W,W,W,W,W,W,W,W,W,aR,aR,aR,W])) (by kernel_rfl) (e3.ok Y a) (bT [(2,.int .u64 b),(8,.int .u64 d),(9,.int .u64 f),(10,.int .u64 i),(14,.int .u64 k),(15,.int .u64 m),(16,.int .u64 o),(17,.int .u64 q),(18,.int .u64 t)] ⟨c,e,h,j,l,n,p,s,u,trivial⟩ (by kernel_rfl) g)
def gG.t(Y:aD):Nat→Int→Int→Int→Int→Int→Int→Int→Int→Int→U→Prop
 | 0=>fun _ _ _ _ _ _ _ _ _ _=>False
 | n+1=>fun a b c d e f g h i Z=>eR.t Y (gG.t Y n) a b c d e f g h i Z
theorem gG.ok(Y:aD)(X:Fr)(Z:U)(g:gG.g (fun a b c d e f h i j Z=>∃ n,gG.t Y n a b c d e f h i j Z) X Z):den prog E (a4 aO [W,W,W,W,W,W,W,W,W,W,W,W,W,W,W,W,W,W,aR,aR]) (a2.inBlock 2 (a2.then (b9.g Y) (a7 E [.tmp 6,.tmp 7] Y))) X Z:=by
 obtain⟨a,k,g⟩:=bN g
 obtain⟨b,l,g⟩:=bN g
 obtain⟨c,m,g⟩:=bN g
 obtain⟨d,o,g⟩:=bN g
 obtain⟨e,p,g⟩:=bN g
 obtain⟨f,q,g⟩:=bN g
 obtain⟨h,r,g⟩:=bN g
 obtain⟨i,s,g⟩:=bN g
 obtain⟨j,u,g⟩:=bN g
 obtain⟨n,g⟩:=g
 refine fK (fun n=>gG.g (gG.t Y n)) (K:=(a4 aO [W,W,W,W,W,W,W,W,W,W,W,W,W,W,W,W,W,W,aR,aR,aR])) (by kernel_rfl) (fun X Z g=>?_) (fun n=>eR.ok Y (gG.t Y n)) n X Z (bR k (bR l (bR m (bR o (bR p (bR q (bR r (bR s (bR u (g))))))))))
 obtain⟨a,k,g⟩:=bN g
 obtain⟨b,l,g⟩:=bN g
 obtain⟨c,m,g⟩:=bN g
 obtain⟨d,o,g⟩:=bN g
 obtain⟨e,p,g⟩:=bN g
 obtain⟨f,q,g⟩:=bN g
 obtain⟨h,r,g⟩:=bN g
 obtain⟨i,s,g⟩:=bN g
 obtain⟨j,u,g⟩:=bN g
 exact g
theorem w6.ok(Y:aD)(X:Fr)(Z:U)(g:gG.g (fun a b c d e f h i j Z=>∃ n,gG.t Y n a b c d e f h i j Z) X Z):den prog E (a4 aO [W,W,W,W,W,W,W,W,W,W,W,W,W,W,W,W,W,W,aR]) (a2.then (b9.g Y) (a7 E [.tmp 6,.tmp 7] Y)) X Z:=
 fA (by kernel_rfl) (gG.ok Y X Z g)
theorem w7.ok(Y:aD)(X:Fr)(Z:U)(g:gG.g (fun a b c d e f h i j Z=>∃ n,gG.t Y n a b c d e f h i j Z) X Z):den prog E (a4 aO [W,W,W,W,W,W,W,W,W,W,W,W,W,W,W,W,W,W]) (a7 E [.tmp 6,.tmp 7] Y) X Z:=
 fZ (by kernel_rfl) (b9.ok Y) (w6.ok Y X Z g)
def cF.t(Y:aD)(a b:Int)(c d:Int)(e f:Int)(g h:Int)(Z:U):Prop:=
 a6 (IntKind.u64.wrap (e*4294967296)) fun e=>
 a6 (IntKind.u64.wrap (e+f)) fun e=>
 a6 (IntKind.u64.wrap (h*a)) fun f=>
 a6 (IntKind.u64.wrap (e - f)) fun e=>
 c ≠ 0∧a6 (IntKind.u64.wrap (Int.tdiv e c)) fun f=>
 a6 (IntKind.u64.wrap (f*c)) fun i=>
 a6 (IntKind.u64.wrap (e - i)) fun i=>
 (∃ n,gG.t Y n a b c d g h i e f Z)
def cF.g(Y:aD)(X:Fr)(Z:U):Prop:=aW .u64 (X 2) fun a=>aW .u64 (X 8) fun b=>aW .u64 (X 9) fun c=>aW .u64 (X 10) fun d=>aW .u64 (X 11) fun e=>aW .u64 (X 13) fun f=>aW .u64 (X 14) fun h=>aW .u64 (X 15) fun i=>cF.t Y a b c d e f h i Z
theorem cF.ok(Y:aD)(X:Fr)(Z:U)(g:cF.g Y X Z):den prog E (a4 aO [W,W,W,W,W,W,W,W,W,W,W,W,W,W,W]) (a7 E [.tmp 6,.tmp 7] Y) X Z:=
 a8 g fun a b g=>a8 g fun c d g=>a8 g fun e f g=>a8 g fun h i g=>a8 g fun j k g=>a8 g fun l m g=>a8 g fun n o g=>a8 g fun p q g=>c4 3 (r:=(a4 aO [W,W,W,W,W,W,W,W,W,W,W,W,W,W,W,W,W,W])) (by kernel_rfl) (w7.ok Y) (bT [(2,.int .u64 a),(8,.int .u64 c),(9,.int .u64 e),(10,.int .u64 h),(11,.int .u64 j),(13,.int .u64 l),(14,.int .u64 n),(15,.int .u64 p)] ⟨b,d,f,i,k,m,o,q,trivial⟩ (by kernel_rfl) g)
def jJ.g(a:Int→Int→Int→Int→Int→Int→Int→Int→Int→U→Prop)(X:Fr)(Z:U):Prop:=aW .u64 (X 2) fun b=>aW .u64 (X 8) fun c=>aW .u64 (X 9) fun d=>aW .u64 (X 10) fun e=>aW .u64 (X 11) fun f=>aW .u64 (X 13) fun h=>aW .u64 (X 14) fun i=>aW .u64 (X 15) fun j=>aW .u64 (X 16) fun k=>a b c d e f h i j k Z
def nR.t(Y:aD)(a:Int→Int→Int→Int→Int→Int→Int→Int→Int→U→Prop)(b c:Int)(d e:Int)(f g:Int)(h i j:Int)(Z:U):Prop:=
 a6 (IntKind.u64.wrap (i - 1)) fun i=>
 a6 (IntKind.u64.wrap (j+d)) fun j=>
 cond (decide (j≥4294967296)) (cF.t Y b c d e f g h i Z) (a b c d e f g h i j Z)
def nR.g(Y:aD)(a:Int→Int→Int→Int→Int→Int→Int→Int→Int→U→Prop)(X:Fr)(Z:U):Prop:=aW .u64 (X 2) fun b=>aW .u64 (X 8) fun c=>aW .u64 (X 9) fun d=>aW .u64 (X 10) fun e=>aW .u64 (X 11) fun f=>aW .u64 (X 13) fun h=>aW .u64 (X 14) fun i=>aW .u64 (X 15) fun j=>aW .u64 (X 16) fun k=>nR.t Y a b c d e f h i j k Z
theorem nR.ok(Y:aD)(a:Int→Int→Int→Int→Int→Int→Int→Int→Int→U→Prop)(X:Fr)(Z:U)(g:nR.g Y a X Z):den prog E (a4 aO [W,W,W,W,W,W,W,W,W,W,W,W,W,W,aR,aR,aR,W]) (a2.then (jJ.g a) (a2.inBlock 0 (a2.then (cF.g Y) (a7 E [.tmp 6,.tmp 7] Y)))) X Z:=
 a8 g fun a b g=>a8 g fun c d g=>a8 g fun e f g=>a8 g fun h i g=>a8 g fun j k g=>a8 g fun l m g=>a8 g fun n o g=>a8 g fun p q g=>a8 g fun r s g=>bT [(2,.int .u64 a),(8,.int .u64 c),(9,.int .u64 e),(10,.int .u64 h),(11,.int .u64 j),(13,.int .u64 l),(14,.int .u64 n),(15,.int .u64 p),(16,.int .u64 r)] ⟨b,d,f,i,k,m,o,q,s,trivial⟩ (by kernel_rfl) g
def qO.t(Y:aD)(a:Int→Int→Int→Int→Int→Int→Int→Int→Int→U→Prop)(b c:Int)(d e:Int)(f g:Int)(h i j:Int)(Z:U):Prop:=
 cond (decide (i≥4294967296)) (nR.t Y a b c d e f g h i j Z) (a6 (IntKind.u64.wrap (i*e)) fun k=>
 a6 (IntKind.u64.wrap (4294967296*j)) fun l=>
 a6 (IntKind.u64.wrap (l+g)) fun l=>
 cond (decide (k > l)) (nR.t Y a b c d e f g h i j Z) (cF.t Y b c d e f g h i Z))
def qO.g(Y:aD)(a:Int→Int→Int→Int→Int→Int→Int→Int→Int→U→Prop)(X:Fr)(Z:U):Prop:=aW .u64 (X 2) fun b=>aW .u64 (X 8) fun c=>aW .u64 (X 9) fun d=>aW .u64 (X 10) fun e=>aW .u64 (X 11) fun f=>aW .u64 (X 13) fun h=>aW .u64 (X 14) fun i=>aW .u64 (X 15) fun j=>aW .u64 (X 16) fun k=>qO.t Y a b c d e f h i j k Z
theorem qO.ok(Y:aD)(a:Int→Int→Int→Int→Int→Int→Int→Int→Int→U→Prop)(X:Fr)(Z:U)(g:qO.g Y a X Z):den prog E (a4 aO [W,W,W,W,W,W,W,W,W,W,W,W,W,W,aR,aR,aR]) (a2.then (jJ.g a) (a2.inBlock 0 (a2.then (cF.g Y) (a7 E [.tmp 6,.tmp 7] Y)))) X Z:=
 a8 g fun b c g=>a8 g fun d e g=>a8 g fun f h g=>a8 g fun i j g=>a8 g fun k l g=>a8 g fun m n g=>a8 g fun o p g=>a8 g fun q s g=>a8 g fun t u g=>c4 1 (r:=(a4 aO [W,W,W,W,W,W,W,W,W,W,W,W,W,W,aR,aR,aR,W])) (by kernel_rfl) (nR.ok Y a) (bT [(2,.int .u64 b),(8,.int .u64 d),(9,.int .u64 f),(10,.int .u64 i),(11,.int .u64 k),(13,.int .u64 m),(14,.int .u64 o),(15,.int .u64 q),(16,.int .u64 t)] ⟨c,e,h,j,l,n,p,s,u,trivial⟩ (by kernel_rfl) g)
def jJ.t(Y:aD):Nat→Int→Int→Int→Int→Int→Int→Int→Int→Int→U→Prop
 | 0=>fun _ _ _ _ _ _ _ _ _ _=>False
 | n+1=>fun a b c d e f g h i Z=>qO.t Y (jJ.t Y n) a b c d e f g h i Z
theorem jJ.ok(Y:aD)(X:Fr)(Z:U)(g:jJ.g (fun a b c d e f h i j Z=>∃ n,jJ.t Y n a b c d e f h i j Z) X Z):den prog E (a4 aO [W,W,W,W,W,W,W,W,W,W,W,W,W,W,aR,aR]) (a2.inBlock 0 (a2.then (cF.g Y) (a7 E [.tmp 6,.tmp 7] Y))) X Z:=by
 obtain⟨a,k,g⟩:=bN g
 obtain⟨b,l,g⟩:=bN g
 obtain⟨c,m,g⟩:=bN g
 obtain⟨d,o,g⟩:=bN g
 obtain⟨e,p,g⟩:=bN g
 obtain⟨f,q,g⟩:=bN g
 obtain⟨h,r,g⟩:=bN g
 obtain⟨i,s,g⟩:=bN g
 obtain⟨j,u,g⟩:=bN g
 obtain⟨n,g⟩:=g
 refine fK (fun n=>jJ.g (jJ.t Y n)) (K:=(a4 aO [W,W,W,W,W,W,W,W,W,W,W,W,W,W,aR,aR,aR])) (by kernel_rfl) (fun X Z g=>?_) (fun n=>qO.ok Y (jJ.t Y n)) n X Z (bR k (bR l (bR m (bR o (bR p (bR q (bR r (bR s (bR u (g))))))))))
 obtain⟨a,k,g⟩:=bN g
 obtain⟨b,l,g⟩:=bN g
 obtain⟨c,m,g⟩:=bN g
 obtain⟨d,o,g⟩:=bN g
 obtain⟨e,p,g⟩:=bN g
 obtain⟨f,q,g⟩:=bN g
 obtain⟨h,r,g⟩:=bN g
 obtain⟨i,s,g⟩:=bN g
 obtain⟨j,u,g⟩:=bN g
 exact g
theorem sY.ok(Y:aD)(X:Fr)(Z:U)(g:jJ.g (fun a b c d e f h i j Z=>∃ n,jJ.t Y n a b c d e f h i j Z) X Z):den prog E (a4 aO [W,W,W,W,W,W,W,W,W,W,W,W,W,W,aR]) (a2.then (cF.g Y) (a7 E [.tmp 6,.tmp 7] Y)) X Z:=
 fA (by kernel_rfl) (jJ.ok Y X Z g)
theorem w4.ok(Y:aD)(X:Fr)(Z:U)(g:jJ.g (fun a b c d e f h i j Z=>∃ n,jJ.t Y n a b c d e f h i j Z) X Z):den prog E (a4 aO [W,W,W,W,W,W,W,W,W,W,W,W,W,W]) (a7 E [.tmp 6,.tmp 7] Y) X Z:=
 fZ (by kernel_rfl) (cF.ok Y) (sY.ok Y X Z g)
def bF.t(Y:aD)(aX aK a:Int)(Z:U):Prop:=
 cond (aX == 0) (a ≠ 0∧a6 (IntKind.u64.wrap (Int.tdiv aK a)) fun eF=>
 a ≠ 0∧a6 (Int.tmod aK a) fun b=>
 Y (.tuple #[.int .u64 eF,.int .u64 b]) Z) (a0 qN.id #[.int .u64 a] Z fun b c=>
 aW .i64 b fun b=>
 a6 (IntKind.u64.wrap b) fun b=>
 0≤b∧a6 (hW .u64 a b) fun a=>
 0≤(32:Int)∧a6 (gP .u64 a 32) fun d=>
 a6 (iV .u64 a 4294967295) fun e=>
 0≤b∧a6 (hW .u64 aX b) fun f=>
 a6 (IntKind.u64.wrap (64 - b)) fun g=>
 0≤g∧a6 (gP .u64 aK g) fun g=>
 a6 (s4 .u64 f g) fun f=>
 0≤b∧a6 (hW .u64 aK b) fun g=>
 0≤(32:Int)∧a6 (gP .u64 g 32) fun h=>
 a6 (iV .u64 g 4294967295) fun g=>
 d ≠ 0∧a6 (IntKind.u64.wrap (Int.tdiv f d)) fun i=>
 a6 (IntKind.u64.wrap (i*d)) fun j=>
 a6 (IntKind.u64.wrap (f - j)) fun j=>
 (∃ n,jJ.t Y n a b d e f h g i j c))
def bF.g(Y:aD)(X:Fr)(Z:U):Prop:=aW .u64 (X 0) fun aX=>aW .u64 (X 1) fun aK=>aW .u64 (X 2) fun a=>bF.t Y aX aK a Z
theorem bF.ok(Y:aD)(X:Fr)(Z:U)(g:bF.g Y X Z):den prog E (a4 aO [W,W,W]) (a7 E [.tmp 6,.tmp 7] Y) X Z:=
 a8 g fun aX a g=>a8 g fun aK b g=>a8 g fun c d g=>c4 11 (r:=(a4 aO [W,W,W,W,W,W,W,W,W,W,W,W,W,W])) (by kernel_rfl) (w4.ok Y) (bT [(0,.int .u64 aX),(1,.int .u64 aK),(2,.int .u64 c)] ⟨a,b,d,trivial⟩ (by kernel_rfl) g)
def aZ.t(Y:aD)(aX aK a:Int)(Z:U):Prop:=
 cond (decide (a≤aX)) (False) (bF.t Y aX aK a Z)
def aZ.g(Y:aD)(X:Fr)(Z:U):Prop:=aW .u64 (X 0) fun aX=>aW .u64 (X 1) fun aK=>aW .u64 (X 2) fun a=>aZ.t Y aX aK a Z
theorem aZ.ok(Y:aD)(X:Fr)(Z:U)(g:aZ.g Y X Z):den prog E (a4 aO [W,W]) (a7 E [.tmp 6,.tmp 7] Y) X Z:=
 a8 g fun aX a g=>a8 g fun aK b g=>a8 g fun c d g=>c4 1 (r:=(a4 aO [W,W,W])) (by kernel_rfl) (bF.ok Y) (bT [(0,.int .u64 aX),(1,.int .u64 aK),(2,.int .u64 c)] ⟨a,b,d,trivial⟩ (by kernel_rfl) g)
def aM.t(Y:aD)(aX aK a:Int)(Z:U):Prop:=
 cond (a == 0) (False) (aZ.t Y aX aK a Z)
def aM.g(Y:aD)(X:Fr)(Z:U):Prop:=aW .u64 (X 0) fun aX=>aW .u64 (X 1) fun aK=>aW .u64 (X 2) fun a=>aM.t Y aX aK a Z
theorem aM.ok(Y:aD)(X:Fr)(Z:U)(g:aM.g Y X Z):den prog E aO (a7 E [.tmp 6,.tmp 7] Y) X Z:=
 a8 g fun aX a g=>a8 g fun aK b g=>a8 g fun c d g=>c4 2 (r:=(a4 aO [W,W])) (by kernel_rfl) (aZ.ok Y) (bT [(0,.int .u64 aX),(1,.int .u64 aK),(2,.int .u64 c)] ⟨a,b,d,trivial⟩ (by kernel_rfl) g)
def t(aX aK a:Int)(Z:U)(Y:aD):Prop:=aM.t Y aX aK a Z
theorem ok{aX:Int}{aK:Int}{a:Int}{Z:U}{Y:aD}(g:t aX aK a Z Y):a0 id #[.int .u64 aX,.int .u64 aK,.int .u64 a] Z Y:=
 dQ dH (c:=aO) (dE:=[.tmp 6,.tmp 7]) Tryz.func118 (by kernel_rfl) (by kernel_rfl) (by kernel_rfl) (args:=[.int .u64 aX,.int .u64 aK,.int .u64 a]) (by kernel_rfl) (aM.ok Y _ Z (bR rfl (bR rfl (bR rfl (g)))))
end gJ
namespace r6
noncomputable def aO:Code:=dO Tryz.f119
def aM.t(Y:aD)(aX aK a:Int)(Z:U):Prop:=
 cond (decide (aX≥a)) (Y (.int .u64 18446744073709551615) Z) (a0 gJ.id #[.int .u64 aX,.int .u64 aK,.int .u64 a] Z fun a b=>
 c1 a fun a=>
 dM a .u64 fun a c=>
 dM c .u64 fun c c=>
 b6 c <| Y (.int .u64 a) b)
def aM.g(Y:aD)(X:Fr)(Z:U):Prop:=aW .u64 (X 0) fun aX=>aW .u64 (X 1) fun aK=>aW .u64 (X 2) fun a=>aM.t Y aX aK a Z
theorem aM.ok(Y:aD)(X:Fr)(Z:U)(g:aM.g Y X Z):den prog E aO (a7 E [.tmp 6] Y) X Z:=
 a8 g fun aX a g=>a8 g fun aK b g=>a8 g fun c d g=>bT [(0,.int .u64 aX),(1,.int .u64 aK),(2,.int .u64 c)] ⟨a,b,d,trivial⟩ (by kernel_rfl) g
def t(aX aK a:Int)(Z:U)(Y:aD):Prop:=aM.t Y aX aK a Z
theorem ok{aX:Int}{aK:Int}{a:Int}{Z:U}{Y:aD}(g:t aX aK a Z Y):a0 id #[.int .u64 aX,.int .u64 aK,.int .u64 a] Z Y:=
 dQ dH (c:=aO) (dE:=[.tmp 6]) Tryz.func119 (by kernel_rfl) (by kernel_rfl) (by kernel_rfl) (args:=[.int .u64 aX,.int .u64 aK,.int .u64 a]) (by kernel_rfl) (aM.ok Y _ Z (bR rfl (bR rfl (bR rfl (g)))))
end r6
namespace lY
noncomputable def aO:Code:=dO Tryz.f120
def aZ.t(Y:aD)(a:M)(b c:Nat)(aJ:M)(aH aG:Nat)(c d:Int)(Z:U):Prop:=
 c2 a b (((aH:Nat):Int)) 1 fun b1=>
 cX Z .u64 b1 fun e=>
 p6 e c d fun c d=>
 c2 a b (((aH:Nat):Int)) 1 fun a=>
 b3 Z a (.int .u64 c) fun a=>
 Y (.int .u64 d) a
def aZ.g(Y:aD)(X:Fr)(Z:U):Prop:=aU (X 0) fun a b c=>aU (X 1) fun aJ aH aG=>aW .u64 (X 7) fun d=>aW .u64 (X 8) fun e=>aZ.t Y a b c aJ aH aG d e Z
theorem aZ.ok(Y:aD)(X:Fr)(Z:U)(g:aZ.g Y X Z):den prog E (a4 aO [W,W,W]) (a7 E [.tmp 6] Y) X Z:=
 bE g fun a b c d g=>bE g fun aJ aH aG e g=>a8 g fun f h g=>a8 g fun i j g=>bT [(0,.slice a b c),(1,.slice aJ aH aG),(7,.int .u64 f),(8,.int .u64 i)] ⟨d,e,h,j,trivial⟩ (by kernel_rfl) g
def bJ.g(a:M→Nat→Nat→M→Nat→Nat→Int→Int→Int→Int→Int→U→Prop)(X:Fr)(Z:U):Prop:=aU (X 0) fun b c d=>aU (X 1) fun aJ aH aG=>aW .u64 (X 2) fun e=>aW .u64 (X 7) fun f=>aW .u64 (X 8) fun h=>aW .i64 (X 14) fun i=>aW .i64 (X 15) fun j=>a b c d aJ aH aG e f h i j Z
def b9.t(Y:aD)(a:M→Nat→Nat→M→Nat→Nat→Int→Int→Int→Int→Int→U→Prop)(b:M)(c d:Nat)(aJ:M)(aH aG:Nat)(e f:Int)(g h i:Int)(Z:U):Prop:=
 cond (decide (i < h)) (c2 aJ aH i 1 fun j=>
 cX Z .u64 j fun j=>
 a0 pG.id #[.int .u64 j,.int .u64 e] Z fun j k=>
 c1 j fun j=>
 dM j .u64 fun j l=>
 dM l .u64 fun l m=>
 b6 m <| mV l f 0 fun l m=>
 a6 (IntKind.u64.wrap (j+m)) fun j=>
 c2 b c i 1 fun m=>
 cX k .u64 m fun m=>
 p6 m l g fun l m=>
 c2 b c i 1 fun n=>
 b3 k n (.int .u64 l) fun k=>
 a6 (IntKind.i64.wrap (i+1)) fun i=>
 a b c d aJ aH aG e j m h i k) (aZ.t Y b c d aJ aH aG f g Z)
def b9.g(Y:aD)(a:M→Nat→Nat→M→Nat→Nat→Int→Int→Int→Int→Int→U→Prop)(X:Fr)(Z:U):Prop:=aU (X 0) fun b c d=>aU (X 1) fun aJ aH aG=>aW .u64 (X 2) fun e=>aW .u64 (X 7) fun f=>aW .u64 (X 8) fun h=>aW .i64 (X 14) fun i=>aW .i64 (X 15) fun j=>b9.t Y a b c d aJ aH aG e f h i j Z
theorem b9.ok(Y:aD)(a:M→Nat→Nat→M→Nat→Nat→Int→Int→Int→Int→Int→U→Prop)(X:Fr)(Z:U)(g:b9.g Y a X Z):den prog E (a4 aO [W,W,aR,W,aR,aR]) (a2.then (bJ.g a) (a2.inBlock 0 (a2.then (aZ.g Y) (a7 E [.tmp 6] Y)))) X Z:=
 bE g fun a b c d g=>bE g fun aJ aH aG e g=>a8 g fun f h g=>a8 g fun i j g=>a8 g fun k l g=>a8 g fun m n g=>a8 g fun o p g=>bT [(0,.slice a b c),(1,.slice aJ aH aG),(2,.int .u64 f),(7,.int .u64 i),(8,.int .u64 k),(14,.int .i64 m),(15,.int .i64 o)] ⟨d,e,h,j,l,n,p,trivial⟩ (by kernel_rfl) g
def bJ.t(Y:aD):Nat→M→Nat→Nat→M→Nat→Nat→Int→Int→Int→Int→Int→U→Prop
 | 0=>fun _ _ _ _ _ _ _ _ _ _ _ _=>False
 | n+1=>fun a b c aJ aH aG d e f g h Z=>b9.t Y (bJ.t Y n) a b c aJ aH aG d e f g h Z
theorem bJ.ok(Y:aD)(X:Fr)(Z:U)(g:bJ.g (fun a b c aJ aH aG d e f h i Z=>∃ n,bJ.t Y n a b c aJ aH aG d e f h i Z) X Z):den prog E (a4 aO [W,W,aR,W,aR]) (a2.inBlock 0 (a2.then (aZ.g Y) (a7 E [.tmp 6] Y))) X Z:=by
 obtain⟨a,b,c,j,g⟩:=b0 g
 obtain⟨aJ,aH,aG,k,g⟩:=b0 g
 obtain⟨d,l,g⟩:=bN g
 obtain⟨e,m,g⟩:=bN g
 obtain⟨f,o,g⟩:=bN g
 obtain⟨h,p,g⟩:=bN g
 obtain⟨i,q,g⟩:=bN g
 obtain⟨n,g⟩:=g
 refine fK (fun n=>bJ.g (bJ.t Y n)) (K:=(a4 aO [W,W,aR,W,aR,aR])) (by kernel_rfl) (fun X Z g=>?_) (fun n=>b9.ok Y (bJ.t Y n)) n X Z (bD j (bD k (bR l (bR m (bR o (bR p (bR q (g))))))))
 obtain⟨a,b,c,j,g⟩:=b0 g
 obtain⟨aJ,aH,aG,k,g⟩:=b0 g
 obtain⟨d,l,g⟩:=bN g
 obtain⟨e,m,g⟩:=bN g
 obtain⟨f,o,g⟩:=bN g
 obtain⟨h,p,g⟩:=bN g
 obtain⟨i,q,g⟩:=bN g
 exact g
theorem g2.ok(Y:aD)(X:Fr)(Z:U)(g:bJ.g (fun a b c aJ aH aG d e f h i Z=>∃ n,bJ.t Y n a b c aJ aH aG d e f h i Z) X Z):den prog E (a4 aO [W,W,aR,W]) (a2.then (aZ.g Y) (a7 E [.tmp 6] Y)) X Z:=
 fA (by kernel_rfl) (bJ.ok Y X Z g)
def bF.t(Y:aD)(a:M)(b c:Nat)(aJ:M)(aH aG:Nat)(d e f:Int)(Z:U):Prop:=
 (∃ n,bJ.t Y n a b c aJ aH aG d e f (((aH:Nat):Int)) 0 Z)
def bF.g(Y:aD)(X:Fr)(Z:U):Prop:=aU (X 0) fun a b c=>aU (X 1) fun aJ aH aG=>aW .u64 (X 2) fun d=>aW .u64 (X 7) fun e=>aW .u64 (X 8) fun f=>bF.t Y a b c aJ aH aG d e f Z
theorem bF.ok(Y:aD)(X:Fr)(Z:U)(g:bF.g Y X Z):den prog E (a4 aO [W,W,aR]) (a2.then (aZ.g Y) (a7 E [.tmp 6] Y)) X Z:=
 bE g fun a b c d g=>bE g fun aJ aH aG e g=>a8 g fun f h g=>a8 g fun i j g=>a8 g fun k l g=>c4 1 (r:=(a4 aO [W,W,aR,W])) (by kernel_rfl) (g2.ok Y) (bT [(0,.slice a b c),(1,.slice aJ aH aG),(2,.int .u64 f),(7,.int .u64 i),(8,.int .u64 k)] ⟨d,e,h,j,l,trivial⟩ (by kernel_rfl) g)
theorem g3.ok(Y:aD)(X:Fr)(Z:U)(g:bF.g Y X Z):den prog E (a4 aO [W,W]) (a7 E [.tmp 6] Y) X Z:=
 fZ (by kernel_rfl) (aZ.ok Y) (bF.ok Y X Z g)
def aM.t(Y:aD)(a:M)(b c:Nat)(aJ:M)(aH aG:Nat)(d:Int)(Z:U):Prop:=
 bF.t Y a b c aJ aH aG d 0 0 Z
def aM.g(Y:aD)(X:Fr)(Z:U):Prop:=aU (X 0) fun a b c=>aU (X 1) fun aJ aH aG=>aW .u64 (X 2) fun d=>aM.t Y a b c aJ aH aG d Z
theorem aM.ok(Y:aD)(X:Fr)(Z:U)(g:aM.g Y X Z):den prog E aO (a7 E [.tmp 6] Y) X Z:=
 bE g fun a b c d g=>bE g fun aJ aH aG e g=>a8 g fun f h g=>c4 2 (r:=(a4 aO [W,W])) (by kernel_rfl) (g3.ok Y) (bT [(0,.slice a b c),(1,.slice aJ aH aG),(2,.int .u64 f)] ⟨d,e,h,trivial⟩ (by kernel_rfl) g)
def t(a:M)(b c:Nat)(aJ:M)(aH aG:Nat)(d:Int)(Z:U)(Y:aD):Prop:=aM.t Y a b c aJ aH aG d Z
theorem ok{a:M}{b:Nat}{d:Nat}{aJ:M}{aH:Nat}{aG:Nat}{e:Int}{Z:U}{Y:aD}(g:t a b d aJ aH aG e Z Y):a0 id #[.slice a b d,.slice aJ aH aG,.int .u64 e] Z Y:=
 dQ dH (c:=aO) (dE:=[.tmp 6]) Tryz.func120 (by kernel_rfl) (by kernel_rfl) (by kernel_rfl) (args:=[.slice a b d,.slice aJ aH aG,.int .u64 e]) (by kernel_rfl) (aM.ok Y _ Z (bD rfl (bD rfl (bR rfl (g)))))
end lY
namespace lZ
noncomputable def aO:Code:=dO Tryz.f121
def aZ.t(Y:aD)(a:M)(b c:Nat)(aJ:M)(aH aG:Nat)(c:Int)(Z:U):Prop:=
 c2 a b (((aH:Nat):Int)) 1 fun b1=>
 cX Z .u64 b1 fun d=>
 mV d 0 c fun c d=>
 c2 a b (((aH:Nat):Int)) 1 fun a=>
 b3 Z a (.int .u64 c) fun a=>
 Y (.int .u64 d) a
def aZ.g(Y:aD)(X:Fr)(Z:U):Prop:=aU (X 0) fun a b c=>aU (X 1) fun aJ aH aG=>aW .u64 (X 5) fun d=>aZ.t Y a b c aJ aH aG d Z
theorem aZ.ok(Y:aD)(X:Fr)(Z:U)(g:aZ.g Y X Z):den prog E (a4 aO [W,W,W]) (a7 E [.tmp 4] Y) X Z:=
 bE g fun a b c d g=>bE g fun aJ aH aG e g=>a8 g fun f h g=>bT [(0,.slice a b c),(1,.slice aJ aH aG),(5,.int .u64 f)] ⟨d,e,h,trivial⟩ (by kernel_rfl) g
def bJ.g(a:M→Nat→Nat→M→Nat→Nat→Int→Int→Int→U→Prop)(X:Fr)(Z:U):Prop:=aU (X 0) fun b c d=>aU (X 1) fun aJ aH aG=>aW .u64 (X 5) fun e=>aW .i64 (X 8) fun f=>aW .i64 (X 9) fun h=>a b c d aJ aH aG e f h Z
def b9.t(Y:aD)(a:M→Nat→Nat→M→Nat→Nat→Int→Int→Int→U→Prop)(b:M)(c d:Nat)(aJ:M)(aH aG:Nat)(e f g:Int)(Z:U):Prop:=
 cond (decide (g < f)) (c2 b c g 1 fun h=>
 cX Z .u64 h fun h=>
 c2 aJ aH g 1 fun i=>
 cX Z .u64 i fun i=>
 mV h i e fun h i=>
 c2 b c g 1 fun j=>
 b3 Z j (.int .u64 h) fun h=>
 a6 (IntKind.i64.wrap (g+1)) fun g=>
 a b c d aJ aH aG i f g h) (aZ.t Y b c d aJ aH aG e Z)
def b9.g(Y:aD)(a:M→Nat→Nat→M→Nat→Nat→Int→Int→Int→U→Prop)(X:Fr)(Z:U):Prop:=aU (X 0) fun b c d=>aU (X 1) fun aJ aH aG=>aW .u64 (X 5) fun e=>aW .i64 (X 8) fun f=>aW .i64 (X 9) fun h=>b9.t Y a b c d aJ aH aG e f h Z
theorem b9.ok(Y:aD)(a:M→Nat→Nat→M→Nat→Nat→Int→Int→Int→U→Prop)(X:Fr)(Z:U)(g:b9.g Y a X Z):den prog E (a4 aO [W,W,aR,W,aR,aR]) (a2.then (bJ.g a) (a2.inBlock 0 (a2.then (aZ.g Y) (a7 E [.tmp 4] Y)))) X Z:=
 bE g fun a b c d g=>bE g fun aJ aH aG e g=>a8 g fun f h g=>a8 g fun i j g=>a8 g fun k l g=>bT [(0,.slice a b c),(1,.slice aJ aH aG),(5,.int .u64 f),(8,.int .i64 i),(9,.int .i64 k)] ⟨d,e,h,j,l,trivial⟩ (by kernel_rfl) g
def bJ.t(Y:aD):Nat→M→Nat→Nat→M→Nat→Nat→Int→Int→Int→U→Prop
 | 0=>fun _ _ _ _ _ _ _ _ _ _=>False
 | n+1=>fun a b c aJ aH aG d e f Z=>b9.t Y (bJ.t Y n) a b c aJ aH aG d e f Z
theorem bJ.ok(Y:aD)(X:Fr)(Z:U)(g:bJ.g (fun a b c aJ aH aG d e f Z=>∃ n,bJ.t Y n a b c aJ aH aG d e f Z) X Z):den prog E (a4 aO [W,W,aR,W,aR]) (a2.inBlock 0 (a2.then (aZ.g Y) (a7 E [.tmp 4] Y))) X Z:=by
 obtain⟨a,b,c,h,g⟩:=b0 g
 obtain⟨aJ,aH,aG,i,g⟩:=b0 g
 obtain⟨d,j,g⟩:=bN g
 obtain⟨e,k,g⟩:=bN g
 obtain⟨f,l,g⟩:=bN g
 obtain⟨n,g⟩:=g
 refine fK (fun n=>bJ.g (bJ.t Y n)) (K:=(a4 aO [W,W,aR,W,aR,aR])) (by kernel_rfl) (fun X Z g=>?_) (fun n=>b9.ok Y (bJ.t Y n)) n X Z (bD h (bD i (bR j (bR k (bR l (g))))))
 obtain⟨a,b,c,h,g⟩:=b0 g
 obtain⟨aJ,aH,aG,i,g⟩:=b0 g
 obtain⟨d,j,g⟩:=bN g
 obtain⟨e,k,g⟩:=bN g
 obtain⟨f,l,g⟩:=bN g
 exact g
theorem g2.ok(Y:aD)(X:Fr)(Z:U)(g:bJ.g (fun a b c aJ aH aG d e f Z=>∃ n,bJ.t Y n a b c aJ aH aG d e f Z) X Z):den prog E (a4 aO [W,W,aR,W]) (a2.then (aZ.g Y) (a7 E [.tmp 4] Y)) X Z:=
 fA (by kernel_rfl) (bJ.ok Y X Z g)
def bF.t(Y:aD)(a:M)(b c:Nat)(aJ:M)(aH aG:Nat)(d:Int)(Z:U):Prop:=
 (∃ n,bJ.t Y n a b c aJ aH aG d (((aH:Nat):Int)) 0 Z)
def bF.g(Y:aD)(X:Fr)(Z:U):Prop:=aU (X 0) fun a b c=>aU (X 1) fun aJ aH aG=>aW .u64 (X 5) fun d=>bF.t Y a b c aJ aH aG d Z
theorem bF.ok(Y:aD)(X:Fr)(Z:U)(g:bF.g Y X Z):den prog E (a4 aO [W,W,aR]) (a2.then (aZ.g Y) (a7 E [.tmp 4] Y)) X Z:=
 bE g fun a b c d g=>bE g fun aJ aH aG e g=>a8 g fun f h g=>c4 1 (r:=(a4 aO [W,W,aR,W])) (by kernel_rfl) (g2.ok Y) (bT [(0,.slice a b c),(1,.slice aJ aH aG),(5,.int .u64 f)] ⟨d,e,h,trivial⟩ (by kernel_rfl) g)
theorem g3.ok(Y:aD)(X:Fr)(Z:U)(g:bF.g Y X Z):den prog E (a4 aO [W,W]) (a7 E [.tmp 4] Y) X Z:=
 fZ (by kernel_rfl) (aZ.ok Y) (bF.ok Y X Z g)
def aM.t(Y:aD)(a:M)(b c:Nat)(aJ:M)(aH aG:Nat)(Z:U):Prop:=
 bF.t Y a b c aJ aH aG 0 Z
def aM.g(Y:aD)(X:Fr)(Z:U):Prop:=aU (X 0) fun a b c=>aU (X 1) fun aJ aH aG=>aM.t Y a b c aJ aH aG Z
theorem aM.ok(Y:aD)(X:Fr)(Z:U)(g:aM.g Y X Z):den prog E aO (a7 E [.tmp 4] Y) X Z:=
 bE g fun a b c d g=>bE g fun aJ aH aG e g=>c4 2 (r:=(a4 aO [W,W])) (by kernel_rfl) (g3.ok Y) (bT [(0,.slice a b c),(1,.slice aJ aH aG)] ⟨d,e,trivial⟩ (by kernel_rfl) g)
def t(a:M)(b c:Nat)(aJ:M)(aH aG:Nat)(Z:U)(Y:aD):Prop:=aM.t Y a b c aJ aH aG Z
theorem ok{a:M}{b:Nat}{d:Nat}{aJ:M}{aH:Nat}{aG:Nat}{Z:U}{Y:aD}(g:t a b d aJ aH aG Z Y):a0 id #[.slice a b d,.slice aJ aH aG] Z Y:=
 dQ dH (c:=aO) (dE:=[.tmp 4]) Tryz.func121 (by kernel_rfl) (by kernel_rfl) (by kernel_rfl) (args:=[.slice a b d,.slice aJ aH aG]) (by kernel_rfl) (aM.ok Y _ Z (bD rfl (bD rfl (g))))
end lZ
namespace jL
noncomputable def aO:Code:=dO Tryz.f122
def dF.g(a:M→Nat→Nat→M→Nat→Nat→M→Nat→Nat→Int→Int→U→Prop)(X:Fr)(Z:U):Prop:=aU (X 0) fun b c d=>aU (X 1) fun aJ aH aG=>aU (X 2) fun bL bX bG=>aW .i64 (X 13) fun e=>aW .i64 (X 14) fun f=>a b c d aJ aH aG bL bX bG e f Z
def cF.t(Y:aD)(cE:M→Nat→Nat→M→Nat→Nat→M→Nat→Nat→Int→Int→U→Prop)(a:M)(b c:Nat)(aJ:M)(aH aG:Nat)(bL:M)(bX bG:Nat)(d e:Int)(Z:U):Prop:=
 a6 (IntKind.i64.wrap (e+1)) fun eF=>cE a b c aJ aH aG bL bX bG d eF Z
def cF.g(Y:aD)(cE:M→Nat→Nat→M→Nat→Nat→M→Nat→Nat→Int→Int→U→Prop)(X:Fr)(Z:U):Prop:=aU (X 0) fun a b c=>aU (X 1) fun aJ aH aG=>aU (X 2) fun bL bX bG=>aW .i64 (X 13) fun d=>aW .i64 (X 14) fun e=>cF.t Y cE a b c aJ aH aG bL bX bG d e Z
theorem cF.ok(Y:aD)(cE:M→Nat→Nat→M→Nat→Nat→M→Nat→Nat→Int→Int→U→Prop)(X:Fr)(Z:U)(g:cF.g Y cE X Z):den prog E (a4 aO [W,aR,aR,W,W,W]) (a2.then (dF.g cE) (a2.inBlock 0 (a7 E [] Y))) X Z:=
 bE g fun a b c d g=>bE g fun aJ aH aG e g=>bE g fun bL bX bG f g=>a8 g fun h i g=>a8 g fun j k g=>bT [(0,.slice a b c),(1,.slice aJ aH aG),(2,.slice bL bX bG),(13,.int .i64 h),(14,.int .i64 j)] ⟨d,e,f,i,k,trivial⟩ (by kernel_rfl) g
def dD.t(Y:aD)(cE:M→Nat→Nat→M→Nat→Nat→M→Nat→Nat→Int→Int→U→Prop)(a:M)(b c:Nat)(aJ:M)(aH aG:Nat)(bL:M)(bX bG:Nat)(d e:Int)(f g:Int)(Z:U):Prop:=
 a6 (IntKind.i64.wrap (d+(((aH:Nat):Int)))) fun d=>
 c2 a b d 1 fun d=>
 b3 Z d (.int .u64 e) fun d=>
 cF.t Y cE a b c aJ aH aG bL bX bG f g d
def dD.g(Y:aD)(cE:M→Nat→Nat→M→Nat→Nat→M→Nat→Nat→Int→Int→U→Prop)(X:Fr)(Z:U):Prop:=aU (X 0) fun a b c=>aU (X 1) fun aJ aH aG=>aU (X 2) fun bL bX bG=>aW .i64 (X 6) fun d=>aW .u64 (X 7) fun e=>aW .i64 (X 13) fun f=>aW .i64 (X 14) fun h=>dD.t Y cE a b c aJ aH aG bL bX bG d e f h Z
theorem dD.ok(Y:aD)(cE:M→Nat→Nat→M→Nat→Nat→M→Nat→Nat→Int→Int→U→Prop)(X:Fr)(Z:U)(g:dD.g Y cE X Z):den prog E (a4 aO [W,aR,aR,W,W,aR,aR,W,W,W]) (a2.inBlock 1 (a2.then (cF.g Y cE) (a2.then (dF.g cE) (a2.inBlock 0 (a7 E [] Y))))) X Z:=
 bE g fun a b c d g=>bE g fun aJ aH aG e g=>bE g fun bL bX bG f g=>a8 g fun h i g=>a8 g fun j k g=>a8 g fun l m g=>a8 g fun n o g=>bT [(0,.slice a b c),(1,.slice aJ aH aG),(2,.slice bL bX bG),(6,.int .i64 h),(7,.int .u64 j),(13,.int .i64 l),(14,.int .i64 n)] ⟨d,e,f,i,k,m,o,trivial⟩ (by kernel_rfl) g
def gZ.g(a:M→Nat→Nat→M→Nat→Nat→M→Nat→Nat→Int→Int→Int→Int→Int→Int→U→Prop)(X:Fr)(Z:U):Prop:=aU (X 0) fun b c d=>aU (X 1) fun aJ aH aG=>aU (X 2) fun bL bX bG=>aW .i64 (X 6) fun e=>aW .u64 (X 7) fun f=>aW .i64 (X 13) fun h=>aW .i64 (X 14) fun i=>aW .i64 (X 18) fun j=>aW .i64 (X 19) fun k=>a b c d aJ aH aG bL bX bG e f h i j k Z
def gM.t(Y:aD)(cE:M→Nat→Nat→M→Nat→Nat→M→Nat→Nat→Int→Int→U→Prop)(a:M→Nat→Nat→M→Nat→Nat→M→Nat→Nat→Int→Int→Int→Int→Int→Int→U→Prop)(b:M)(c d:Nat)(aJ:M)(aH aG:Nat)(bL:M)(bX bG:Nat)(e f:Int)(g h:Int)(i j:Int)(Z:U):Prop:=
 cond (decide (j < i)) (c2 aJ aH j 1 fun k=>
 cX Z .u64 k fun k=>
 c2 bL bX e 1 fun l=>
 cX Z .u64 l fun l=>
 a0 pG.id #[.int .u64 k,.int .u64 l] Z fun k l=>
 c1 k fun k=>
 dM k .u64 fun k m=>
 dM m .u64 fun m n=>
 b6 n <| mV m f 0 fun m n=>
 a6 (IntKind.u64.wrap (k+n)) fun k=>
 a6 (IntKind.i64.wrap (j+e)) fun n=>
 a6 (IntKind.i64.wrap (j+e)) fun o=>
 c2 b c o 1 fun o=>
 cX l .u64 o fun o=>
 mV o m 0 fun m o=>
 c2 b c n 1 fun n=>
 b3 l n (.int .u64 m) fun l=>
 a6 (IntKind.u64.wrap (k+o)) fun k=>
 a6 (IntKind.i64.wrap (j+1)) fun j=>
 a b c d aJ aH aG bL bX bG e k g h i j l) (dD.t Y cE b c d aJ aH aG bL bX bG e f g h Z)
def gM.g(Y:aD)(cE:M→Nat→Nat→M→Nat→Nat→M→Nat→Nat→Int→Int→U→Prop)(a:M→Nat→Nat→M→Nat→Nat→M→Nat→Nat→Int→Int→Int→Int→Int→Int→U→Prop)(X:Fr)(Z:U):Prop:=aU (X 0) fun b c d=>aU (X 1) fun aJ aH aG=>aU (X 2) fun bL bX bG=>aW .i64 (X 6) fun e=>aW .u64 (X 7) fun f=>aW .i64 (X 13) fun h=>aW .i64 (X 14) fun i=>aW .i64 (X 18) fun j=>aW .i64 (X 19) fun k=>gM.t Y cE a b c d aJ aH aG bL bX bG e f h i j k Z
theorem gM.ok(Y:aD)(cE:M→Nat→Nat→M→Nat→Nat→M→Nat→Nat→Int→Int→U→Prop)(a:M→Nat→Nat→M→Nat→Nat→M→Nat→Nat→Int→Int→Int→Int→Int→Int→U→Prop)(X:Fr)(Z:U)(g:gM.g Y cE a X Z):den prog E (a4 aO [W,aR,aR,W,W,aR,aR,W,W,aR,W,aR,aR]) (a2.then (gZ.g a) (a2.inBlock 2 (a2.then (dD.g Y cE) (a2.inBlock 1 (a2.then (cF.g Y cE) (a2.then (dF.g cE) (a2.inBlock 0 (a7 E [] Y)))))))) X Z:=
 bE g fun a b c d g=>bE g fun aJ aH aG e g=>bE g fun bL bX bG f g=>a8 g fun h i g=>a8 g fun j k g=>a8 g fun l m g=>a8 g fun n o g=>a8 g fun p q g=>a8 g fun r s g=>bT [(0,.slice a b c),(1,.slice aJ aH aG),(2,.slice bL bX bG),(6,.int .i64 h),(7,.int .u64 j),(13,.int .i64 l),(14,.int .i64 n),(18,.int .i64 p),(19,.int .i64 r)] ⟨d,e,f,i,k,m,o,q,s,trivial⟩ (by kernel_rfl) g
def gZ.t(Y:aD)(cE:M→Nat→Nat→M→Nat→Nat→M→Nat→Nat→Int→Int→U→Prop):Nat→M→Nat→Nat→M→Nat→Nat→M→Nat→Nat→Int→Int→Int→Int→Int→Int→U→Prop
 | 0=>fun _ _ _ _ _ _ _ _ _ _ _ _ _ _ _ _=>False
 | n+1=>fun a b c aJ aH aG bL bX bG d e f g h i Z=>gM.t Y cE (gZ.t Y cE n) a b c aJ aH aG bL bX bG d e f g h i Z
theorem gZ.ok(Y:aD)(cE:M→Nat→Nat→M→Nat→Nat→M→Nat→Nat→Int→Int→U→Prop)(X:Fr)(Z:U)(g:gZ.g (fun a b c aJ aH aG bL bX bG d e f h i j Z=>∃ n,gZ.t Y cE n a b c aJ aH aG bL bX bG d e f h i j Z) X Z):den prog E (a4 aO [W,aR,aR,W,W,aR,aR,W,W,aR,W,aR]) (a2.inBlock 2 (a2.then (dD.g Y cE) (a2.inBlock 1 (a2.then (cF.g Y cE) (a2.then (dF.g cE) (a2.inBlock 0 (a7 E [] Y))))))) X Z:=by
 obtain⟨a,b,c,k,g⟩:=b0 g
 obtain⟨aJ,aH,aG,l,g⟩:=b0 g
 obtain⟨bL,bX,bG,m,g⟩:=b0 g
 obtain⟨d,o,g⟩:=bN g
 obtain⟨e,p,g⟩:=bN g
 obtain⟨f,q,g⟩:=bN g
 obtain⟨h,r,g⟩:=bN g
 obtain⟨i,s,g⟩:=bN g
 obtain⟨j,u,g⟩:=bN g
 obtain⟨n,g⟩:=g
 refine fK (fun n=>gZ.g (gZ.t Y cE n)) (K:=(a4 aO [W,aR,aR,W,W,aR,aR,W,W,aR,W,aR,aR])) (by kernel_rfl) (fun X Z g=>?_) (fun n=>gM.ok Y cE (gZ.t Y cE n)) n X Z (bD k (bD l (bD m (bR o (bR p (bR q (bR r (bR s (bR u (g))))))))))
 obtain⟨a,b,c,k,g⟩:=b0 g
 obtain⟨aJ,aH,aG,l,g⟩:=b0 g
 obtain⟨bL,bX,bG,m,g⟩:=b0 g
 obtain⟨d,o,g⟩:=bN g
 obtain⟨e,p,g⟩:=bN g
 obtain⟨f,q,g⟩:=bN g
 obtain⟨h,r,g⟩:=bN g
 obtain⟨i,s,g⟩:=bN g
 obtain⟨j,u,g⟩:=bN g
 exact g
theorem BO.ok(Y:aD)(cE:M→Nat→Nat→M→Nat→Nat→M→Nat→Nat→Int→Int→U→Prop)(X:Fr)(Z:U)(g:gZ.g (fun a b c aJ aH aG bL bX bG d e f h i j Z=>∃ n,gZ.t Y cE n a b c aJ aH aG bL bX bG d e f h i j Z) X Z):den prog E (a4 aO [W,aR,aR,W,W,aR,aR,W,W,aR,W]) (a2.then (dD.g Y cE) (a2.inBlock 1 (a2.then (cF.g Y cE) (a2.then (dF.g cE) (a2.inBlock 0 (a7 E [] Y)))))) X Z:=
 fA (by kernel_rfl) (gZ.ok Y cE X Z g)
def eR.t(Y:aD)(cE:M→Nat→Nat→M→Nat→Nat→M→Nat→Nat→Int→Int→U→Prop)(a:M)(b c:Nat)(aJ:M)(aH aG:Nat)(bL:M)(bX bG:Nat)(d e:Int)(f g:Int)(Z:U):Prop:=
 (∃ n,gZ.t Y cE n a b c aJ aH aG bL bX bG d e f g (((aH:Nat):Int)) 0 Z)
def eR.g(Y:aD)(cE:M→Nat→Nat→M→Nat→Nat→M→Nat→Nat→Int→Int→U→Prop)(X:Fr)(Z:U):Prop:=aU (X 0) fun a b c=>aU (X 1) fun aJ aH aG=>aU (X 2) fun bL bX bG=>aW .i64 (X 6) fun d=>aW .u64 (X 7) fun e=>aW .i64 (X 13) fun f=>aW .i64 (X 14) fun h=>eR.t Y cE a b c aJ aH aG bL bX bG d e f h Z
theorem eR.ok(Y:aD)(cE:M→Nat→Nat→M→Nat→Nat→M→Nat→Nat→Int→Int→U→Prop)(X:Fr)(Z:U)(g:eR.g Y cE X Z):den prog E (a4 aO [W,aR,aR,W,W,aR,aR,W,W,aR]) (a2.then (dD.g Y cE) (a2.inBlock 1 (a2.then (cF.g Y cE) (a2.then (dF.g cE) (a2.inBlock 0 (a7 E [] Y)))))) X Z:=
 bE g fun a b c d g=>bE g fun aJ aH aG e g=>bE g fun bL bX bG f g=>a8 g fun h i g=>a8 g fun j k g=>a8 g fun l m g=>a8 g fun n o g=>c4 1 (r:=(a4 aO [W,aR,aR,W,W,aR,aR,W,W,aR,W])) (by kernel_rfl) (BO.ok Y cE) (bT [(0,.slice a b c),(1,.slice aJ aH aG),(2,.slice bL bX bG),(6,.int .i64 h),(7,.int .u64 j),(13,.int .i64 l),(14,.int .i64 n)] ⟨d,e,f,i,k,m,o,trivial⟩ (by kernel_rfl) g)
theorem BP.ok(Y:aD)(cE:M→Nat→Nat→M→Nat→Nat→M→Nat→Nat→Int→Int→U→Prop)(X:Fr)(Z:U)(g:eR.g Y cE X Z):den prog E (a4 aO [W,aR,aR,W,W,aR,aR,W,W]) (a2.inBlock 1 (a2.then (cF.g Y cE) (a2.then (dF.g cE) (a2.inBlock 0 (a7 E [] Y))))) X Z:=
 fZ (by kernel_rfl) (dD.ok Y cE) (eR.ok Y cE X Z g)
def b9.t(Y:aD)(cE:M→Nat→Nat→M→Nat→Nat→M→Nat→Nat→Int→Int→U→Prop)(a:M)(b c:Nat)(aJ:M)(aH aG:Nat)(bL:M)(bX bG:Nat)(d e:Int)(Z:U):Prop:=
 eR.t Y cE a b c aJ aH aG bL bX bG e 0 d e Z
def b9.g(Y:aD)(cE:M→Nat→Nat→M→Nat→Nat→M→Nat→Nat→Int→Int→U→Prop)(X:Fr)(Z:U):Prop:=aU (X 0) fun a b c=>aU (X 1) fun aJ aH aG=>aU (X 2) fun bL bX bG=>aW .i64 (X 13) fun d=>aW .i64 (X 14) fun e=>b9.t Y cE a b c aJ aH aG bL bX bG d e Z
theorem b9.ok(Y:aD)(cE:M→Nat→Nat→M→Nat→Nat→M→Nat→Nat→Int→Int→U→Prop)(X:Fr)(Z:U)(g:b9.g Y cE X Z):den prog E (a4 aO [W,aR,aR,W,W,aR,aR]) (a2.inBlock 1 (a2.then (cF.g Y cE) (a2.then (dF.g cE) (a2.inBlock 0 (a7 E [] Y))))) X Z:=
 bE g fun a b c d g=>bE g fun aJ aH aG e g=>bE g fun bL bX bG f g=>a8 g fun h i g=>a8 g fun j k g=>c4 2 (r:=(a4 aO [W,aR,aR,W,W,aR,aR,W,W])) (by kernel_rfl) (BP.ok Y cE) (bT [(0,.slice a b c),(1,.slice aJ aH aG),(2,.slice bL bX bG),(13,.int .i64 h),(14,.int .i64 j)] ⟨d,e,f,i,k,trivial⟩ (by kernel_rfl) g)
theorem p3.ok(Y:aD)(cE:M→Nat→Nat→M→Nat→Nat→M→Nat→Nat→Int→Int→U→Prop)(X:Fr)(Z:U)(g:b9.g Y cE X Z):den prog E (a4 aO [W,aR,aR,W,W,aR]) (a2.then (cF.g Y cE) (a2.then (dF.g cE) (a2.inBlock 0 (a7 E [] Y)))) X Z:=
 fA (by kernel_rfl) (b9.ok Y cE X Z g)
theorem w3.ok(Y:aD)(cE:M→Nat→Nat→M→Nat→Nat→M→Nat→Nat→Int→Int→U→Prop)(X:Fr)(Z:U)(g:b9.g Y cE X Z):den prog E (a4 aO [W,aR,aR,W,W]) (a2.then (dF.g cE) (a2.inBlock 0 (a7 E [] Y))) X Z:=
 fZ (by kernel_rfl) (cF.ok Y cE) (p3.ok Y cE X Z g)
def bF.t(Y:aD)(cE:M→Nat→Nat→M→Nat→Nat→M→Nat→Nat→Int→Int→U→Prop)(a:M)(b c:Nat)(aJ:M)(aH aG:Nat)(bL:M)(bX bG:Nat)(d e:Int)(Z:U):Prop:=
 cond (decide (e < d)) (b9.t Y cE a b c aJ aH aG bL bX bG d e Z) (Y (.tuple #[]) Z)
def bF.g(Y:aD)(cE:M→Nat→Nat→M→Nat→Nat→M→Nat→Nat→Int→Int→U→Prop)(X:Fr)(Z:U):Prop:=aU (X 0) fun a b c=>aU (X 1) fun aJ aH aG=>aU (X 2) fun bL bX bG=>aW .i64 (X 13) fun d=>aW .i64 (X 14) fun e=>bF.t Y cE a b c aJ aH aG bL bX bG d e Z
theorem bF.ok(Y:aD)(cE:M→Nat→Nat→M→Nat→Nat→M→Nat→Nat→Int→Int→U→Prop)(X:Fr)(Z:U)(g:bF.g Y cE X Z):den prog E (a4 aO [W,aR,aR]) (a2.then (dF.g cE) (a2.inBlock 0 (a7 E [] Y))) X Z:=
 bE g fun a b c d g=>bE g fun aJ aH aG e g=>bE g fun bL bX bG f g=>a8 g fun h i g=>a8 g fun j k g=>c4 2 (r:=(a4 aO [W,aR,aR,W,W])) (by kernel_rfl) (w3.ok Y cE) (bT [(0,.slice a b c),(1,.slice aJ aH aG),(2,.slice bL bX bG),(13,.int .i64 h),(14,.int .i64 j)] ⟨d,e,f,i,k,trivial⟩ (by kernel_rfl) g)
def dF.t(Y:aD):Nat→M→Nat→Nat→M→Nat→Nat→M→Nat→Nat→Int→Int→U→Prop
 | 0=>fun _ _ _ _ _ _ _ _ _ _ _ _=>False
 | n+1=>fun a b c aJ aH aG bL bX bG d e Z=>bF.t Y (dF.t Y n) a b c aJ aH aG bL bX bG d e Z
theorem dF.ok(Y:aD)(X:Fr)(Z:U)(g:dF.g (fun a b c aJ aH aG bL bX bG d e Z=>∃ n,dF.t Y n a b c aJ aH aG bL bX bG d e Z) X Z):den prog E (a4 aO [W,aR]) (a2.inBlock 0 (a7 E [] Y)) X Z:=by
 obtain⟨a,b,c,f,g⟩:=b0 g
 obtain⟨aJ,aH,aG,h,g⟩:=b0 g
 obtain⟨bL,bX,bG,i,g⟩:=b0 g
 obtain⟨d,j,g⟩:=bN g
 obtain⟨e,k,g⟩:=bN g
 obtain⟨n,g⟩:=g
 refine fK (fun n=>dF.g (dF.t Y n)) (K:=(a4 aO [W,aR,aR])) (by kernel_rfl) (fun X Z g=>?_) (fun n=>bF.ok Y (dF.t Y n)) n X Z (bD f (bD h (bD i (bR j (bR k (g))))))
 obtain⟨a,b,c,f,g⟩:=b0 g
 obtain⟨aJ,aH,aG,h,g⟩:=b0 g
 obtain⟨bL,bX,bG,i,g⟩:=b0 g
 obtain⟨d,j,g⟩:=bN g
 obtain⟨e,k,g⟩:=bN g
 exact g
theorem sY.ok(Y:aD)(X:Fr)(Z:U)(g:dF.g (fun a b c aJ aH aG bL bX bG d e Z=>∃ n,dF.t Y n a b c aJ aH aG bL bX bG d e Z) X Z):den prog E (a4 aO [W]) (a7 E [] Y) X Z:=
 fA (by kernel_rfl) (dF.ok Y X Z g)
def aM.t(Y:aD)(a:M)(b c:Nat)(aJ:M)(aH aG:Nat)(bL:M)(bX bG:Nat)(Z:U):Prop:=
 (∃ n,dF.t Y n a b c aJ aH aG bL bX bG (((bX:Nat):Int)) 0 Z)
def aM.g(Y:aD)(X:Fr)(Z:U):Prop:=aU (X 0) fun a b c=>aU (X 1) fun aJ aH aG=>aU (X 2) fun bL bX bG=>aM.t Y a b c aJ aH aG bL bX bG Z
theorem aM.ok(Y:aD)(X:Fr)(Z:U)(g:aM.g Y X Z):den prog E aO (a7 E [] Y) X Z:=
 bE g fun a b c d g=>bE g fun aJ aH aG e g=>bE g fun bL bX bG f g=>c4 1 (r:=(a4 aO [W])) (by kernel_rfl) (sY.ok Y) (bT [(0,.slice a b c),(1,.slice aJ aH aG),(2,.slice bL bX bG)] ⟨d,e,f,trivial⟩ (by kernel_rfl) g)
def t(a:M)(b c:Nat)(aJ:M)(aH aG:Nat)(bL:M)(bX bG:Nat)(Z:U)(Y:aD):Prop:=aM.t Y a b c aJ aH aG bL bX bG Z
theorem ok{a:M}{b:Nat}{d:Nat}{aJ:M}{aH:Nat}{aG:Nat}{bL:M}{bX:Nat}{bG:Nat}{Z:U}{Y:aD}(g:t a b d aJ aH aG bL bX bG Z Y):a0 id #[.slice a b d,.slice aJ aH aG,.slice bL bX bG] Z Y:=
 dQ dH (c:=aO) (dE:=[]) Tryz.func122 (by kernel_rfl) (by kernel_rfl) (by kernel_rfl) (args:=[.slice a b d,.slice aJ aH aG,.slice bL bX bG]) (by kernel_rfl) (aM.ok Y _ Z (bD rfl (bD rfl (bD rfl (g)))))
end jL
namespace m8
noncomputable def aO:Code:=dO Tryz.f123
def dF.g(a:M→Nat→Nat→M→Nat→Nat→M→Nat→Nat→Int→U→Prop)(X:Fr)(Z:U):Prop:=aU (X 0) fun b c d=>aU (X 1) fun aJ aH aG=>aU (X 2) fun bL bX bG=>aW .i64 (X 6) fun e=>a b c d aJ aH aG bL bX bG e Z
def bF.t(Y:aD)(cE:M→Nat→Nat→M→Nat→Nat→M→Nat→Nat→Int→U→Prop)(a:M)(b c:Nat)(aJ:M)(aH aG:Nat)(bL:M)(bX bG:Nat)(d:Int)(Z:U):Prop:=
 cond (decide (d < (((aH:Nat):Int)))) (a6 (IntKind.i64.wrap (d+(((bX:Nat):Int)))) fun eF=>
 hX 1 aJ aH aG (some (.int .i64 d)) (some (.int .i64 (if (((aH:Nat):Int)) < eF then(((aH:Nat):Int)) else eF))) (some (.int .i64 (if (((aH:Nat):Int)) < eF then(((aH:Nat):Int)) else eF))) fun e f g=>
 a0 lD.id #[.slice e f g] Z fun e f=>
 aU e fun e g h=>
 a0 m7.id #[.slice e g h,.slice bL bX bG] f fun e f=>
 aU e fun e g h=>
 a0 jD.id #[.slice a b c,.slice e g h,.int .i64 d] f fun e fX=>
 c1 e fun e=>
 b6 e <| a6 (IntKind.i64.wrap (d+(((bX:Nat):Int)))) fun d=>
 cE a b c aJ aH aG bL bX bG d fX) (Y (.tuple #[]) Z)
def bF.g(Y:aD)(cE:M→Nat→Nat→M→Nat→Nat→M→Nat→Nat→Int→U→Prop)(X:Fr)(Z:U):Prop:=aU (X 0) fun a b c=>aU (X 1) fun aJ aH aG=>aU (X 2) fun bL bX bG=>aW .i64 (X 6) fun d=>bF.t Y cE a b c aJ aH aG bL bX bG d Z
theorem bF.ok(Y:aD)(cE:M→Nat→Nat→M→Nat→Nat→M→Nat→Nat→Int→U→Prop)(X:Fr)(Z:U)(g:bF.g Y cE X Z):den prog E (a4 aO [W,aR,aR]) (a2.then (dF.g cE) (a2.inBlock 0 (a7 E [] Y))) X Z:=
 bE g fun a b c d g=>bE g fun aJ aH aG e g=>bE g fun bL bX bG f g=>a8 g fun h i g=>bT [(0,.slice a b c),(1,.slice aJ aH aG),(2,.slice bL bX bG),(6,.int .i64 h)] ⟨d,e,f,i,trivial⟩ (by kernel_rfl) g
def dF.t(Y:aD):Nat→M→Nat→Nat→M→Nat→Nat→M→Nat→Nat→Int→U→Prop
 | 0=>fun _ _ _ _ _ _ _ _ _ _ _=>False
 | n+1=>fun a b c aJ aH aG bL bX bG d Z=>bF.t Y (dF.t Y n) a b c aJ aH aG bL bX bG d Z
theorem dF.ok(Y:aD)(X:Fr)(Z:U)(g:dF.g (fun a b c aJ aH aG bL bX bG d Z=>∃ n,dF.t Y n a b c aJ aH aG bL bX bG d Z) X Z):den prog E (a4 aO [W,aR]) (a2.inBlock 0 (a7 E [] Y)) X Z:=by
 obtain⟨a,b,c,e,g⟩:=b0 g
 obtain⟨aJ,aH,aG,f,g⟩:=b0 g
 obtain⟨bL,bX,bG,h,g⟩:=b0 g
 obtain⟨d,i,g⟩:=bN g
 obtain⟨n,g⟩:=g
 refine fK (fun n=>dF.g (dF.t Y n)) (K:=(a4 aO [W,aR,aR])) (by kernel_rfl) (fun X Z g=>?_) (fun n=>bF.ok Y (dF.t Y n)) n X Z (bD e (bD f (bD h (bR i (g)))))
 obtain⟨a,b,c,e,g⟩:=b0 g
 obtain⟨aJ,aH,aG,f,g⟩:=b0 g
 obtain⟨bL,bX,bG,h,g⟩:=b0 g
 obtain⟨d,i,g⟩:=bN g
 exact g
theorem fF.ok(Y:aD)(X:Fr)(Z:U)(g:dF.g (fun a b c aJ aH aG bL bX bG d Z=>∃ n,dF.t Y n a b c aJ aH aG bL bX bG d Z) X Z):den prog E (a4 aO [W]) (a7 E [] Y) X Z:=
 fA (by kernel_rfl) (dF.ok Y X Z g)
def aM.t(Y:aD)(a:M)(b c:Nat)(aJ:M)(aH aG:Nat)(bL:M)(bX bG:Nat)(Z:U):Prop:=
 (∃ n,dF.t Y n a b c aJ aH aG bL bX bG 0 Z)
def aM.g(Y:aD)(X:Fr)(Z:U):Prop:=aU (X 0) fun a b c=>aU (X 1) fun aJ aH aG=>aU (X 2) fun bL bX bG=>aM.t Y a b c aJ aH aG bL bX bG Z
theorem aM.ok(Y:aD)(X:Fr)(Z:U)(g:aM.g Y X Z):den prog E aO (a7 E [] Y) X Z:=
 bE g fun a b c d g=>bE g fun aJ aH aG e g=>bE g fun bL bX bG f g=>c4 1 (r:=(a4 aO [W])) (by kernel_rfl) (fF.ok Y) (bT [(0,.slice a b c),(1,.slice aJ aH aG),(2,.slice bL bX bG)] ⟨d,e,f,trivial⟩ (by kernel_rfl) g)
def t(a:M)(b c:Nat)(aJ:M)(aH aG:Nat)(bL:M)(bX bG:Nat)(Z:U)(Y:aD):Prop:=aM.t Y a b c aJ aH aG bL bX bG Z
theorem ok{a:M}{b:Nat}{d:Nat}{aJ:M}{aH:Nat}{aG:Nat}{bL:M}{bX:Nat}{bG:Nat}{Z:U}{Y:aD}(g:t a b d aJ aH aG bL bX bG Z Y):a0 id #[.slice a b d,.slice aJ aH aG,.slice bL bX bG] Z Y:=
 dQ dH (c:=aO) (dE:=[]) Tryz.func123 (by kernel_rfl) (by kernel_rfl) (by kernel_rfl) (args:=[.slice a b d,.slice aJ aH aG,.slice bL bX bG]) (by kernel_rfl) (aM.ok Y _ Z (bD rfl (bD rfl (bD rfl (g)))))
end m8
namespace sD
noncomputable def aO:Code:=dO Tryz.f124
def aM.t(Y:aD)(a:M)(b c:Nat)(aJ:M)(aH aG:Nat)(bL:M)(bX bG:Nat)(Z:U):Prop:=
 a6 (IntKind.i64.wrap ((((aH:Nat):Int))+1)) fun eF=>
 (2:Int) ≠ 0∧a6 (IntKind.i64.wrap (Int.tdiv eF 2)) fun d=>
 a0 qS.id #[.slice aJ aH aG,.int .i64 d] Z fun e f=>
 c1 e fun e=>
 cR e fun e g h i=>
 cR i fun i j k l=>
 b6 l <| a0 qS.id #[.slice bL bX bG,.int .i64 d] f fun f l=>
 c1 f fun f=>
 cR f fun f m n o=>
 cR o fun o p q r=>
 b6 r <| a0 m7.id #[.slice e g h,.slice f m n] l fun l r=>
 aU l fun l s u=>
 a0 m7.id #[.slice i j k,.slice o p q] r fun r v=>
 aU r fun r w x=>
 a0 oR.id #[.slice e g h,.slice i j k] v fun e g=>
 aU e fun e h i=>
 a0 oR.id #[.slice f m n,.slice o p q] g fun f g=>
 aU f fun f j k=>
 a0 m7.id #[.slice e h i,.slice f j k] g fun e f=>
 aU e fun e g h=>
 a0 jV.id #[.slice e g h,.slice l s u] f fun f i=>
 c1 f fun f=>
 b6 f <| a0 jV.id #[.slice e g h,.slice r w x] i fun f i=>
 c1 f fun f=>
 b6 f <| mF i 1 a b (.slice l s u) fun f f=>
 a0 lD.id #[.slice e g h] f fun e f=>
 aU e fun e g h=>
 a0 jD.id #[.slice a b c,.slice e g h,.int .i64 d] f fun e f=>
 c1 e fun e=>
 b6 e <| a6 (IntKind.i64.wrap (2*d)) fun d=>
 a0 jD.id #[.slice a b c,.slice r w x,.int .i64 d] f fun a b=>
 c1 a fun a=>
 b6 a <| Y (.tuple #[]) b
def aM.g(Y:aD)(X:Fr)(Z:U):Prop:=aU (X 0) fun a b c=>aU (X 1) fun aJ aH aG=>aU (X 2) fun bL bX bG=>aM.t Y a b c aJ aH aG bL bX bG Z
theorem aM.ok(Y:aD)(X:Fr)(Z:U)(g:aM.g Y X Z):den prog E aO (a7 E [] Y) X Z:=
 bE g fun a b c d g=>bE g fun aJ aH aG e g=>bE g fun bL bX bG f g=>bT [(0,.slice a b c),(1,.slice aJ aH aG),(2,.slice bL bX bG)] ⟨d,e,f,trivial⟩ (by kernel_rfl) g
def t(a:M)(b c:Nat)(aJ:M)(aH aG:Nat)(bL:M)(bX bG:Nat)(Z:U)(Y:aD):Prop:=aM.t Y a b c aJ aH aG bL bX bG Z
theorem ok{a:M}{b:Nat}{d:Nat}{aJ:M}{aH:Nat}{aG:Nat}{bL:M}{bX:Nat}{bG:Nat}{Z:U}{Y:aD}(g:t a b d aJ aH aG bL bX bG Z Y):a0 id #[.slice a b d,.slice aJ aH aG,.slice bL bX bG] Z Y:=
 dQ dH (c:=aO) (dE:=[]) Tryz.func124 (by kernel_rfl) (by kernel_rfl) (by kernel_rfl) (args:=[.slice a b d,.slice aJ aH aG,.slice bL bX bG]) (by kernel_rfl) (aM.ok Y _ Z (bD rfl (bD rfl (bD rfl (g)))))
end sD
namespace nM
noncomputable def aO:Code:=dO Tryz.f125
def aZ.t(Y:aD)(a:M)(b c:Nat)(aK:Int)(Z:U):Prop:=
 (32:Int) ≠ 0∧a6 (IntKind.i64.wrap (Int.tdiv aK 32)) fun c=>
 c2 a b c 1 fun a=>
 cX Z .u32 a fun a=>
 (32:Int) ≠ 0∧a6 (Int.tmod aK 32) fun b=>
 0≤b∧a6 (gP .u32 a b) fun a=>
 a6 (iV .u32 a 1) fun a=>
 a6 (IntKind.i64.wrap a) fun a=>
 Y (.int .i64 a) Z
def aZ.g(Y:aD)(X:Fr)(Z:U):Prop:=aU (X 0) fun a b c=>aW .i64 (X 1) fun aK=>aZ.t Y a b c aK Z
theorem aZ.ok(Y:aD)(X:Fr)(Z:U)(g:aZ.g Y X Z):den prog E (a4 aO [W,W]) (a7 E [.tmp 4] Y) X Z:=
 bE g fun a b c d g=>a8 g fun aK e g=>bT [(0,.slice a b c),(1,.int .i64 aK)] ⟨d,e,trivial⟩ (by kernel_rfl) g
def aM.t(Y:aD)(a:M)(b c:Nat)(aK:Int)(Z:U):Prop:=
 cond (decide (aK < 0)) (Y (.int .i64 0) Z) ((32:Int) ≠ 0∧a6 (IntKind.i64.wrap (Int.tdiv aK 32)) fun eF=>
 cond (decide (eF≥(((b:Nat):Int)))) (Y (.int .i64 0) Z) (aZ.t Y a b c aK Z))
def aM.g(Y:aD)(X:Fr)(Z:U):Prop:=aU (X 0) fun a b c=>aW .i64 (X 1) fun aK=>aM.t Y a b c aK Z
theorem aM.ok(Y:aD)(X:Fr)(Z:U)(g:aM.g Y X Z):den prog E aO (a7 E [.tmp 4] Y) X Z:=
 bE g fun a b c d g=>a8 g fun aK e g=>c4 2 (r:=(a4 aO [W,W])) (by kernel_rfl) (aZ.ok Y) (bT [(0,.slice a b c),(1,.int .i64 aK)] ⟨d,e,trivial⟩ (by kernel_rfl) g)
def t(a:M)(b c:Nat)(aK:Int)(Z:U)(Y:aD):Prop:=aM.t Y a b c aK Z
theorem ok{a:M}{b:Nat}{d:Nat}{aK:Int}{Z:U}{Y:aD}(g:t a b d aK Z Y):a0 id #[.slice a b d,.int .i64 aK] Z Y:=
 dQ dH (c:=aO) (dE:=[.tmp 4]) Tryz.func125 (by kernel_rfl) (by kernel_rfl) (by kernel_rfl) (args:=[.slice a b d,.int .i64 aK]) (by kernel_rfl) (aM.ok Y _ Z (bD rfl (bR rfl (g))))
end nM
namespace jD
noncomputable def aO:Code:=dO Tryz.f126
def cJ.g(a:M→Nat→Nat→Int→Int→U→Prop)(X:Fr)(Z:U):Prop:=aU (X 0) fun b c d=>aW .u64 (X 6) fun e=>aW .i64 (X 8) fun f=>a b c d e f Z
def cF.t(Y:aD)(a:M→Nat→Nat→Int→Int→U→Prop)(b:M)(c d:Nat)(e f:Int)(Z:U):Prop:=
 cond (decide (e > 0)) (c2 b c f 1 fun eY=>
 cX Z .u64 eY fun g=>
 mV g 0 e fun e g=>
 c2 b c f 1 fun h=>
 b3 Z h (.int .u64 e) fun e=>
 a6 (IntKind.i64.wrap (f+1)) fun f=>
 a b c d g f e) (Y (.tuple #[]) Z)
def cF.g(Y:aD)(a:M→Nat→Nat→Int→Int→U→Prop)(X:Fr)(Z:U):Prop:=aU (X 0) fun b c d=>aW .u64 (X 6) fun e=>aW .i64 (X 8) fun f=>cF.t Y a b c d e f Z
theorem cF.ok(Y:aD)(a:M→Nat→Nat→Int→Int→U→Prop)(X:Fr)(Z:U)(g:cF.g Y a X Z):den prog E (a4 aO [W,W,W,aR,aR]) (a2.then (cJ.g a) (a2.inBlock 2 (a7 E [] Y))) X Z:=
 bE g fun a b c d g=>a8 g fun e f g=>a8 g fun h i g=>bT [(0,.slice a b c),(6,.int .u64 e),(8,.int .i64 h)] ⟨d,f,i,trivial⟩ (by kernel_rfl) g
def cJ.t(Y:aD):Nat→M→Nat→Nat→Int→Int→U→Prop
 | 0=>fun _ _ _ _ _ _=>False
 | n+1=>fun a b c d e Z=>cF.t Y (cJ.t Y n) a b c d e Z
theorem cJ.ok(Y:aD)(X:Fr)(Z:U)(g:cJ.g (fun a b c d e Z=>∃ n,cJ.t Y n a b c d e Z) X Z):den prog E (a4 aO [W,W,W,aR]) (a2.inBlock 2 (a7 E [] Y)) X Z:=by
 obtain⟨a,b,c,f,g⟩:=b0 g
 obtain⟨d,h,g⟩:=bN g
 obtain⟨e,i,g⟩:=bN g
 obtain⟨n,g⟩:=g
 refine fK (fun n=>cJ.g (cJ.t Y n)) (K:=(a4 aO [W,W,W,aR,aR])) (by kernel_rfl) (fun X Z g=>?_) (fun n=>cF.ok Y (cJ.t Y n)) n X Z (bD f (bR h (bR i (g))))
 obtain⟨a,b,c,f,g⟩:=b0 g
 obtain⟨d,h,g⟩:=bN g
 obtain⟨e,i,g⟩:=bN g
 exact g
theorem hD.ok(Y:aD)(X:Fr)(Z:U)(g:cJ.g (fun a b c d e Z=>∃ n,cJ.t Y n a b c d e Z) X Z):den prog E (a4 aO [W,W,W]) (a7 E [] Y) X Z:=
 fA (by kernel_rfl) (cJ.ok Y X Z g)
def aZ.t(Y:aD)(a:M)(b c:Nat)(aJ:M)(aH aG:Nat)(d e:Int)(Z:U):Prop:=
 a6 (IntKind.i64.wrap (d+(((aH:Nat):Int)))) fun eF=>(∃ n,cJ.t Y n a b c e eF Z)
def aZ.g(Y:aD)(X:Fr)(Z:U):Prop:=aU (X 0) fun a b c=>aU (X 1) fun aJ aH aG=>aW .i64 (X 2) fun d=>aW .u64 (X 6) fun e=>aZ.t Y a b c aJ aH aG d e Z
theorem aZ.ok(Y:aD)(X:Fr)(Z:U)(g:aZ.g Y X Z):den prog E (a4 aO [W,W]) (a7 E [] Y) X Z:=
 bE g fun a b c d g=>bE g fun aJ aH aG e g=>a8 g fun f h g=>a8 g fun i j g=>c4 1 (r:=(a4 aO [W,W,W])) (by kernel_rfl) (hD.ok Y) (bT [(0,.slice a b c),(1,.slice aJ aH aG),(2,.int .i64 f),(6,.int .u64 i)] ⟨d,e,h,j,trivial⟩ (by kernel_rfl) g)
def g0.g(a:M→Nat→Nat→M→Nat→Nat→Int→Int→Int→Int→U→Prop)(X:Fr)(Z:U):Prop:=aU (X 0) fun b c d=>aU (X 1) fun aJ aH aG=>aW .i64 (X 2) fun e=>aW .u64 (X 6) fun f=>aW .i64 (X 10) fun h=>aW .i64 (X 11) fun i=>a b c d aJ aH aG e f h i Z
def e3.t(Y:aD)(a:M→Nat→Nat→M→Nat→Nat→Int→Int→Int→Int→U→Prop)(b:M)(c d:Nat)(aJ:M)(aH aG:Nat)(e f:Int)(g h:Int)(Z:U):Prop:=
 cond (decide (h < g)) (a6 (IntKind.i64.wrap (e+h)) fun i=>
 a6 (IntKind.i64.wrap (e+h)) fun j=>
 c2 b c j 1 fun j=>
 cX Z .u64 j fun j=>
 c2 aJ aH h 1 fun k=>
 cX Z .u64 k fun k=>
 mV j k f fun j k=>
 c2 b c i 1 fun i=>
 b3 Z i (.int .u64 j) fun i=>
 a6 (IntKind.i64.wrap (h+1)) fun h=>
 a b c d aJ aH aG e k g h i) (aZ.t Y b c d aJ aH aG e f Z)
def e3.g(Y:aD)(a:M→Nat→Nat→M→Nat→Nat→Int→Int→Int→Int→U→Prop)(X:Fr)(Z:U):Prop:=aU (X 0) fun b c d=>aU (X 1) fun aJ aH aG=>aW .i64 (X 2) fun e=>aW .u64 (X 6) fun f=>aW .i64 (X 10) fun h=>aW .i64 (X 11) fun i=>e3.t Y a b c d aJ aH aG e f h i Z
theorem e3.ok(Y:aD)(a:M→Nat→Nat→M→Nat→Nat→Int→Int→Int→Int→U→Prop)(X:Fr)(Z:U)(g:e3.g Y a X Z):den prog E (a4 aO [W,aR,W,aR,aR]) (a2.then (g0.g a) (a2.inBlock 0 (a2.then (aZ.g Y) (a7 E [] Y)))) X Z:=
 bE g fun a b c d g=>bE g fun aJ aH aG e g=>a8 g fun f h g=>a8 g fun i j g=>a8 g fun k l g=>a8 g fun m n g=>bT [(0,.slice a b c),(1,.slice aJ aH aG),(2,.int .i64 f),(6,.int .u64 i),(10,.int .i64 k),(11,.int .i64 m)] ⟨d,e,h,j,l,n,trivial⟩ (by kernel_rfl) g
def g0.t(Y:aD):Nat→M→Nat→Nat→M→Nat→Nat→Int→Int→Int→Int→U→Prop
 | 0=>fun _ _ _ _ _ _ _ _ _ _ _=>False
 | n+1=>fun a b c aJ aH aG d e f g Z=>e3.t Y (g0.t Y n) a b c aJ aH aG d e f g Z
theorem g0.ok(Y:aD)(X:Fr)(Z:U)(g:g0.g (fun a b c aJ aH aG d e f h Z=>∃ n,g0.t Y n a b c aJ aH aG d e f h Z) X Z):den prog E (a4 aO [W,aR,W,aR]) (a2.inBlock 0 (a2.then (aZ.g Y) (a7 E [] Y))) X Z:=by
 obtain⟨a,b,c,i,g⟩:=b0 g
 obtain⟨aJ,aH,aG,j,g⟩:=b0 g
 obtain⟨d,k,g⟩:=bN g
 obtain⟨e,l,g⟩:=bN g
 obtain⟨f,m,g⟩:=bN g
 obtain⟨h,o,g⟩:=bN g
 obtain⟨n,g⟩:=g
 refine fK (fun n=>g0.g (g0.t Y n)) (K:=(a4 aO [W,aR,W,aR,aR])) (by kernel_rfl) (fun X Z g=>?_) (fun n=>e3.ok Y (g0.t Y n)) n X Z (bD i (bD j (bR k (bR l (bR m (bR o (g)))))))
 obtain⟨a,b,c,i,g⟩:=b0 g
 obtain⟨aJ,aH,aG,j,g⟩:=b0 g
 obtain⟨d,k,g⟩:=bN g
 obtain⟨e,l,g⟩:=bN g
 obtain⟨f,m,g⟩:=bN g
 obtain⟨h,o,g⟩:=bN g
 exact g
theorem w6.ok(Y:aD)(X:Fr)(Z:U)(g:g0.g (fun a b c aJ aH aG d e f h Z=>∃ n,g0.t Y n a b c aJ aH aG d e f h Z) X Z):den prog E (a4 aO [W,aR,W]) (a2.then (aZ.g Y) (a7 E [] Y)) X Z:=
 fA (by kernel_rfl) (g0.ok Y X Z g)
def dD.t(Y:aD)(a:M)(b c:Nat)(aJ:M)(aH aG:Nat)(d e:Int)(Z:U):Prop:=
 (∃ n,g0.t Y n a b c aJ aH aG d e (((aH:Nat):Int)) 0 Z)
def dD.g(Y:aD)(X:Fr)(Z:U):Prop:=aU (X 0) fun a b c=>aU (X 1) fun aJ aH aG=>aW .i64 (X 2) fun d=>aW .u64 (X 6) fun e=>dD.t Y a b c aJ aH aG d e Z
theorem dD.ok(Y:aD)(X:Fr)(Z:U)(g:dD.g Y X Z):den prog E (a4 aO [W,aR]) (a2.then (aZ.g Y) (a7 E [] Y)) X Z:=
 bE g fun a b c d g=>bE g fun aJ aH aG e g=>a8 g fun f h g=>a8 g fun i j g=>c4 1 (r:=(a4 aO [W,aR,W])) (by kernel_rfl) (w6.ok Y) (bT [(0,.slice a b c),(1,.slice aJ aH aG),(2,.int .i64 f),(6,.int .u64 i)] ⟨d,e,h,j,trivial⟩ (by kernel_rfl) g)
theorem w7.ok(Y:aD)(X:Fr)(Z:U)(g:dD.g Y X Z):den prog E (a4 aO [W]) (a7 E [] Y) X Z:=
 fZ (by kernel_rfl) (aZ.ok Y) (dD.ok Y X Z g)
def aM.t(Y:aD)(a:M)(b c:Nat)(aJ:M)(aH aG:Nat)(d:Int)(Z:U):Prop:=
 dD.t Y a b c aJ aH aG d 0 Z
def aM.g(Y:aD)(X:Fr)(Z:U):Prop:=aU (X 0) fun a b c=>aU (X 1) fun aJ aH aG=>aW .i64 (X 2) fun d=>aM.t Y a b c aJ aH aG d Z
theorem aM.ok(Y:aD)(X:Fr)(Z:U)(g:aM.g Y X Z):den prog E aO (a7 E [] Y) X Z:=
 bE g fun a b c d g=>bE g fun aJ aH aG e g=>a8 g fun f h g=>c4 1 (r:=(a4 aO [W])) (by kernel_rfl) (w7.ok Y) (bT [(0,.slice a b c),(1,.slice aJ aH aG),(2,.int .i64 f)] ⟨d,e,h,trivial⟩ (by kernel_rfl) g)
def t(a:M)(b c:Nat)(aJ:M)(aH aG:Nat)(d:Int)(Z:U)(Y:aD):Prop:=aM.t Y a b c aJ aH aG d Z
theorem ok{a:M}{b:Nat}{d:Nat}{aJ:M}{aH:Nat}{aG:Nat}{e:Int}{Z:U}{Y:aD}(g:t a b d aJ aH aG e Z Y):a0 id #[.slice a b d,.slice aJ aH aG,.int .i64 e] Z Y:=
 dQ dH (c:=aO) (dE:=[]) Tryz.func126 (by kernel_rfl) (by kernel_rfl) (by kernel_rfl) (args:=[.slice a b d,.slice aJ aH aG,.int .i64 e]) (by kernel_rfl) (aM.ok Y _ Z (bD rfl (bD rfl (bR rfl (g)))))
end jD
namespace qS
noncomputable def aO:Code:=dO Tryz.f127
def aM.t(Y:aD)(a:M)(b c:Nat)(aK:Int)(Z:U):Prop:=
 cond (decide (aK≥(((b:Nat):Int)))) (hX 1 a b c none (some (.int .i64 (((b:Nat):Int)))) (some (.int .i64 (((b:Nat):Int)))) fun d e f=>
 a0 lD.id #[.slice d e f] Z fun d e=>
 aU d fun d f g=>
 Y (.tuple #[.slice d f g,.slice none 0 0]) e) (hX 1 a b c none (some (.int .i64 aK)) (some (.int .i64 aK)) fun d e f=>
 a0 lD.id #[.slice d e f] Z fun d e=>
 aU d fun d f g=>
 hX 1 a b c (some (.int .i64 aK)) (some (.int .i64 (((b:Nat):Int)))) (some (.int .i64 (((b:Nat):Int)))) fun a b c=>
 Y (.tuple #[.slice d f g,.slice a b c]) e)
def aM.g(Y:aD)(X:Fr)(Z:U):Prop:=aU (X 0) fun a b c=>aW .i64 (X 1) fun aK=>aM.t Y a b c aK Z
theorem aM.ok(Y:aD)(X:Fr)(Z:U)(g:aM.g Y X Z):den prog E aO (a7 E [.tmp 4,.tmp 5] Y) X Z:=
 bE g fun a b c d g=>a8 g fun aK e g=>bT [(0,.slice a b c),(1,.int .i64 aK)] ⟨d,e,trivial⟩ (by kernel_rfl) g
def t(a:M)(b c:Nat)(aK:Int)(Z:U)(Y:aD):Prop:=aM.t Y a b c aK Z
theorem ok{a:M}{b:Nat}{d:Nat}{aK:Int}{Z:U}{Y:aD}(g:t a b d aK Z Y):a0 id #[.slice a b d,.int .i64 aK] Z Y:=
 dQ dH (c:=aO) (dE:=[.tmp 4,.tmp 5]) Tryz.func127 (by kernel_rfl) (by kernel_rfl) (by kernel_rfl) (args:=[.slice a b d,.int .i64 aK]) (by kernel_rfl) (aM.ok Y _ Z (bD rfl (bR rfl (g))))
end qS
namespace oR
noncomputable def aO:Code:=dO Tryz.f128
def aZ.t(Y:aD)(a:M)(b c:Nat)(aJ:M)(aH aG:Nat)(Z:U):Prop:=
 a6 (IntKind.i64.wrap ((((b:Nat):Int))+1)) fun eF=>
 h5 Z 35 j3 eF eF fun eY d=>
 mF d 1 (some eY) eF.toNat (.slice a b c) fun a a=>
 a0 jD.id #[.slice (some eY) eF.toNat eF.toNat,.slice aJ aH aG,.int .i64 0] a fun a b=>
 c1 a fun a=>
 b6 a <| a0 lD.id #[.slice (some eY) eF.toNat eF.toNat] b fun a b=>
 aU a fun a c d=>
 Y (.slice a c d) b
def aZ.g(Y:aD)(X:Fr)(Z:U):Prop:=aU (X 0) fun a b c=>aU (X 1) fun aJ aH aG=>aZ.t Y a b c aJ aH aG Z
theorem aZ.ok(Y:aD)(X:Fr)(Z:U)(g:aZ.g Y X Z):den prog E (a4 aO [W,W]) (a7 E [.tmp 4] Y) X Z:=
 bE g fun a b c d g=>bE g fun aJ aH aG e g=>bT [(0,.slice a b c),(1,.slice aJ aH aG)] ⟨d,e,trivial⟩ (by kernel_rfl) g
def aM.t(Y:aD)(a:M)(b c:Nat)(aJ:M)(aH aG:Nat)(Z:U):Prop:=
 cond (decide ((((b:Nat):Int)) < (((aH:Nat):Int)))) (aZ.t Y aJ aH aG a b c Z) (aZ.t Y a b c aJ aH aG Z)
def aM.g(Y:aD)(X:Fr)(Z:U):Prop:=aU (X 0) fun a b c=>aU (X 1) fun aJ aH aG=>aM.t Y a b c aJ aH aG Z
theorem aM.ok(Y:aD)(X:Fr)(Z:U)(g:aM.g Y X Z):den prog E aO (a7 E [.tmp 4] Y) X Z:=
 bE g fun a b c d g=>bE g fun aJ aH aG e g=>c4 2 (r:=(a4 aO [W,W])) (by kernel_rfl) (aZ.ok Y) (bT [(0,.slice a b c),(1,.slice aJ aH aG)] ⟨d,e,trivial⟩ (by kernel_rfl) g)
def t(a:M)(b c:Nat)(aJ:M)(aH aG:Nat)(Z:U)(Y:aD):Prop:=aM.t Y a b c aJ aH aG Z
theorem ok{a:M}{b:Nat}{d:Nat}{aJ:M}{aH:Nat}{aG:Nat}{Z:U}{Y:aD}(g:t a b d aJ aH aG Z Y):a0 id #[.slice a b d,.slice aJ aH aG] Z Y:=
 dQ dH (c:=aO) (dE:=[.tmp 4]) Tryz.func128 (by kernel_rfl) (by kernel_rfl) (by kernel_rfl) (args:=[.slice a b d,.slice aJ aH aG]) (by kernel_rfl) (aM.ok Y _ Z (bD rfl (bD rfl (g))))
end oR
namespace jV
noncomputable def aO:Code:=dO Tryz.f129
def cJ.g(a:M→Nat→Nat→Int→Int→U→Prop)(X:Fr)(Z:U):Prop:=aU (X 0) fun b c d=>aW .u64 (X 4) fun e=>aW .i64 (X 6) fun f=>a b c d e f Z
def cF.t(Y:aD)(a:M→Nat→Nat→Int→Int→U→Prop)(b:M)(c d:Nat)(e f:Int)(Z:U):Prop:=
 cond (decide (e > 0)) (c2 b c f 1 fun b1=>
 cX Z .u64 b1 fun g=>
 p6 g 0 e fun e g=>
 c2 b c f 1 fun h=>
 b3 Z h (.int .u64 e) fun e=>
 a6 (IntKind.i64.wrap (f+1)) fun f=>
 a b c d g f e) (Y (.tuple #[]) Z)
def cF.g(Y:aD)(a:M→Nat→Nat→Int→Int→U→Prop)(X:Fr)(Z:U):Prop:=aU (X 0) fun b c d=>aW .u64 (X 4) fun e=>aW .i64 (X 6) fun f=>cF.t Y a b c d e f Z
theorem cF.ok(Y:aD)(a:M→Nat→Nat→Int→Int→U→Prop)(X:Fr)(Z:U)(g:cF.g Y a X Z):den prog E (a4 aO [W,W,W,aR,aR]) (a2.then (cJ.g a) (a2.inBlock 2 (a7 E [] Y))) X Z:=
 bE g fun a b c d g=>a8 g fun e f g=>a8 g fun h i g=>bT [(0,.slice a b c),(4,.int .u64 e),(6,.int .i64 h)] ⟨d,f,i,trivial⟩ (by kernel_rfl) g
def cJ.t(Y:aD):Nat→M→Nat→Nat→Int→Int→U→Prop
 | 0=>fun _ _ _ _ _ _=>False
 | n+1=>fun a b c d e Z=>cF.t Y (cJ.t Y n) a b c d e Z
theorem cJ.ok(Y:aD)(X:Fr)(Z:U)(g:cJ.g (fun a b c d e Z=>∃ n,cJ.t Y n a b c d e Z) X Z):den prog E (a4 aO [W,W,W,aR]) (a2.inBlock 2 (a7 E [] Y)) X Z:=by
 obtain⟨a,b,c,f,g⟩:=b0 g
 obtain⟨d,h,g⟩:=bN g
 obtain⟨e,i,g⟩:=bN g
 obtain⟨n,g⟩:=g
 refine fK (fun n=>cJ.g (cJ.t Y n)) (K:=(a4 aO [W,W,W,aR,aR])) (by kernel_rfl) (fun X Z g=>?_) (fun n=>cF.ok Y (cJ.t Y n)) n X Z (bD f (bR h (bR i (g))))
 obtain⟨a,b,c,f,g⟩:=b0 g
 obtain⟨d,h,g⟩:=bN g
 obtain⟨e,i,g⟩:=bN g
 exact g
theorem hD.ok(Y:aD)(X:Fr)(Z:U)(g:cJ.g (fun a b c d e Z=>∃ n,cJ.t Y n a b c d e Z) X Z):den prog E (a4 aO [W,W,W]) (a7 E [] Y) X Z:=
 fA (by kernel_rfl) (cJ.ok Y X Z g)
def aZ.t(Y:aD)(a:M)(b c:Nat)(aJ:M)(aH aG:Nat)(d:Int)(Z:U):Prop:=
 (∃ n,cJ.t Y n a b c d (((aH:Nat):Int)) Z)
def aZ.g(Y:aD)(X:Fr)(Z:U):Prop:=aU (X 0) fun a b c=>aU (X 1) fun aJ aH aG=>aW .u64 (X 4) fun d=>aZ.t Y a b c aJ aH aG d Z
theorem aZ.ok(Y:aD)(X:Fr)(Z:U)(g:aZ.g Y X Z):den prog E (a4 aO [W,W]) (a7 E [] Y) X Z:=
 bE g fun a b c d g=>bE g fun aJ aH aG e g=>a8 g fun f h g=>c4 1 (r:=(a4 aO [W,W,W])) (by kernel_rfl) (hD.ok Y) (bT [(0,.slice a b c),(1,.slice aJ aH aG),(4,.int .u64 f)] ⟨d,e,h,trivial⟩ (by kernel_rfl) g)
def g0.g(a:M→Nat→Nat→M→Nat→Nat→Int→Int→Int→U→Prop)(X:Fr)(Z:U):Prop:=aU (X 0) fun b c d=>aU (X 1) fun aJ aH aG=>aW .u64 (X 4) fun e=>aW .i64 (X 8) fun f=>aW .i64 (X 9) fun h=>a b c d aJ aH aG e f h Z
def e3.t(Y:aD)(a:M→Nat→Nat→M→Nat→Nat→Int→Int→Int→U→Prop)(b:M)(c d:Nat)(aJ:M)(aH aG:Nat)(e f g:Int)(Z:U):Prop:=
 cond (decide (g < f)) (c2 b c g 1 fun h=>
 cX Z .u64 h fun h=>
 c2 aJ aH g 1 fun i=>
 cX Z .u64 i fun i=>
 p6 h i e fun h i=>
 c2 b c g 1 fun j=>
 b3 Z j (.int .u64 h) fun h=>
 a6 (IntKind.i64.wrap (g+1)) fun g=>
 a b c d aJ aH aG i f g h) (aZ.t Y b c d aJ aH aG e Z)
def e3.g(Y:aD)(a:M→Nat→Nat→M→Nat→Nat→Int→Int→Int→U→Prop)(X:Fr)(Z:U):Prop:=aU (X 0) fun b c d=>aU (X 1) fun aJ aH aG=>aW .u64 (X 4) fun e=>aW .i64 (X 8) fun f=>aW .i64 (X 9) fun h=>e3.t Y a b c d aJ aH aG e f h Z
theorem e3.ok(Y:aD)(a:M→Nat→Nat→M→Nat→Nat→Int→Int→Int→U→Prop)(X:Fr)(Z:U)(g:e3.g Y a X Z):den prog E (a4 aO [W,aR,W,aR,aR]) (a2.then (g0.g a) (a2.inBlock 0 (a2.then (aZ.g Y) (a7 E [] Y)))) X Z:=
 bE g fun a b c d g=>bE g fun aJ aH aG e g=>a8 g fun f h g=>a8 g fun i j g=>a8 g fun k l g=>bT [(0,.slice a b c),(1,.slice aJ aH aG),(4,.int .u64 f),(8,.int .i64 i),(9,.int .i64 k)] ⟨d,e,h,j,l,trivial⟩ (by kernel_rfl) g
def g0.t(Y:aD):Nat→M→Nat→Nat→M→Nat→Nat→Int→Int→Int→U→Prop
 | 0=>fun _ _ _ _ _ _ _ _ _ _=>False
 | n+1=>fun a b c aJ aH aG d e f Z=>e3.t Y (g0.t Y n) a b c aJ aH aG d e f Z
theorem g0.ok(Y:aD)(X:Fr)(Z:U)(g:g0.g (fun a b c aJ aH aG d e f Z=>∃ n,g0.t Y n a b c aJ aH aG d e f Z) X Z):den prog E (a4 aO [W,aR,W,aR]) (a2.inBlock 0 (a2.then (aZ.g Y) (a7 E [] Y))) X Z:=by
 obtain⟨a,b,c,h,g⟩:=b0 g
 obtain⟨aJ,aH,aG,i,g⟩:=b0 g
 obtain⟨d,j,g⟩:=bN g
 obtain⟨e,k,g⟩:=bN g
 obtain⟨f,l,g⟩:=bN g
 obtain⟨n,g⟩:=g
 refine fK (fun n=>g0.g (g0.t Y n)) (K:=(a4 aO [W,aR,W,aR,aR])) (by kernel_rfl) (fun X Z g=>?_) (fun n=>e3.ok Y (g0.t Y n)) n X Z (bD h (bD i (bR j (bR k (bR l (g))))))
 obtain⟨a,b,c,h,g⟩:=b0 g
 obtain⟨aJ,aH,aG,i,g⟩:=b0 g
 obtain⟨d,j,g⟩:=bN g
 obtain⟨e,k,g⟩:=bN g
 obtain⟨f,l,g⟩:=bN g
 exact g
theorem w6.ok(Y:aD)(X:Fr)(Z:U)(g:g0.g (fun a b c aJ aH aG d e f Z=>∃ n,g0.t Y n a b c aJ aH aG d e f Z) X Z):den prog E (a4 aO [W,aR,W]) (a2.then (aZ.g Y) (a7 E [] Y)) X Z:=
 fA (by kernel_rfl) (g0.ok Y X Z g)
def dD.t(Y:aD)(a:M)(b c:Nat)(aJ:M)(aH aG:Nat)(d:Int)(Z:U):Prop:=
 (∃ n,g0.t Y n a b c aJ aH aG d (((aH:Nat):Int)) 0 Z)
def dD.g(Y:aD)(X:Fr)(Z:U):Prop:=aU (X 0) fun a b c=>aU (X 1) fun aJ aH aG=>aW .u64 (X 4) fun d=>dD.t Y a b c aJ aH aG d Z
theorem dD.ok(Y:aD)(X:Fr)(Z:U)(g:dD.g Y X Z):den prog E (a4 aO [W,aR]) (a2.then (aZ.g Y) (a7 E [] Y)) X Z:=
 bE g fun a b c d g=>bE g fun aJ aH aG e g=>a8 g fun f h g=>c4 1 (r:=(a4 aO [W,aR,W])) (by kernel_rfl) (w6.ok Y) (bT [(0,.slice a b c),(1,.slice aJ aH aG),(4,.int .u64 f)] ⟨d,e,h,trivial⟩ (by kernel_rfl) g)
theorem w7.ok(Y:aD)(X:Fr)(Z:U)(g:dD.g Y X Z):den prog E (a4 aO [W]) (a7 E [] Y) X Z:=
 fZ (by kernel_rfl) (aZ.ok Y) (dD.ok Y X Z g)
def aM.t(Y:aD)(a:M)(b c:Nat)(aJ:M)(aH aG:Nat)(Z:U):Prop:=
 dD.t Y a b c aJ aH aG 0 Z
def aM.g(Y:aD)(X:Fr)(Z:U):Prop:=aU (X 0) fun a b c=>aU (X 1) fun aJ aH aG=>aM.t Y a b c aJ aH aG Z
theorem aM.ok(Y:aD)(X:Fr)(Z:U)(g:aM.g Y X Z):den prog E aO (a7 E [] Y) X Z:=
 bE g fun a b c d g=>bE g fun aJ aH aG e g=>c4 1 (r:=(a4 aO [W])) (by kernel_rfl) (w7.ok Y) (bT [(0,.slice a b c),(1,.slice aJ aH aG)] ⟨d,e,trivial⟩ (by kernel_rfl) g)
def t(a:M)(b c:Nat)(aJ:M)(aH aG:Nat)(Z:U)(Y:aD):Prop:=aM.t Y a b c aJ aH aG Z
theorem ok{a:M}{b:Nat}{d:Nat}{aJ:M}{aH:Nat}{aG:Nat}{Z:U}{Y:aD}(g:t a b d aJ aH aG Z Y):a0 id #[.slice a b d,.slice aJ aH aG] Z Y:=
 dQ dH (c:=aO) (dE:=[]) Tryz.func129 (by kernel_rfl) (by kernel_rfl) (by kernel_rfl) (args:=[.slice a b d,.slice aJ aH aG]) (by kernel_rfl) (aM.ok Y _ Z (bD rfl (bD rfl (g))))
end jV
end Go.Proofs.YtjijdlkpmngolaaGreat.G
