import Derived.Test.YtjijdlkpmngolaaGreatKE
set_option linter.unusedVariables false
namespace Go.Proofs.YtjijdlkpmngolaaGreat.G
open Go.Gv
set_option linter.unusedVariables false
set_option maxRecDepth 100000
namespace nQ
noncomputable def aO:Code:=dY Tryz.f100
def aP.t(Y:aF)(a:Bool)(b:S)(c d:Nat)(Z:U):Prop:=
 dX Z 82 [.bool a,.slice b c d] fun cQ a=>
 dX a 82 iI.a9 fun a b=>
 eT b (cQ.add 0) fun c=>
 dQ b (cQ.add 1) fun d e f=>
 a4 gE.id #[.bool (!c),.slice d e f] b fun b fV=>
 eQ b fun b=>
 fT b fun b c=>
 cU c fun c d e f=>
 b9 f <| cM fV (a.add 0) (.bool b) fun b=>
 cM b (a.add 1) (.slice c d e) fun b=>
 eT b (a.add 0) fun c=>
 dQ b (a.add 1) fun a d e=>
 Y (.agg #[.bool c,.slice a d e]) b
def aP.g(Y:aF)(X:Fr)(Z:U):Prop:=eQ (X 0) fun a=>cV a fun a b=>eU a fun a=>cV b fun b c=>aR b fun b d e=>b9 c <| aP.t Y a b d e Z
theorem aP.ok(Y:aF)(X:Fr)(Z:U)(g:aP.g Y X Z):den prog E aO (bC E [.cell 2 82] Y) X Z:=by
 obtain⟨l,a,b⟩:=j4 g
 obtain⟨m,n,rfl,c⟩:=gG b
 obtain⟨d,rfl,e⟩:=jH c
 obtain⟨o,p,rfl,f⟩:=gG e
 obtain⟨h,i,j,rfl,k⟩:=b2 f
 obtain⟨rfl,g⟩:=iT k
 exact bV [(0,.agg #[.bool d,.slice h i j])] ⟨a,trivial⟩ (by kernel_rfl) g
def t(a:Bool)(b:S)(c d:Nat)(Z:U)(Y:aF):Prop:=aP.t Y a b c d Z
theorem ok{a:Bool}{b:S}{d:Nat}{e:Nat}{Z:U}{Y:aF}(g:t a b d e Z Y):a4 id #[.agg #[.bool a,.slice b d e]] Z Y:=
 eD dT (c:=aO) (dH:=[.cell 2 82]) Tryz.func100 (by kernel_rfl) (by kernel_rfl) (by kernel_rfl) (args:=[.agg #[.bool a,.slice b d e]]) (by kernel_rfl) (aP.ok Y _ Z (fH rfl (cS (dB rfl (cS (bL rfl (eG (g))))))))
end nQ
namespace pD
noncomputable def aO:Code:=dY Tryz.f101
def aP.t(Y:aF)(a:Bool)(b:S)(c d:Nat)(e:Bool)(f:S)(g h:Nat)(Z:U):Prop:=
 dX Z 82 [.bool a,.slice b c d] fun cQ a=>
 dX a 82 [.bool e,.slice f g h] fun a b=>
 dX b 82 iI.a9 fun b c=>
 eT c (cQ.add 0) fun d=>
 dQ c (cQ.add 1) fun e f g=>
 eT c (a.add 0) fun h=>
 dQ c (a.add 1) fun i j k=>
 a4 pB.id #[.agg #[.bool d,.slice e f g],.agg #[.bool h,.slice i j k]] c fun c d=>
 cW c fun c=>
 cV c fun c e=>
 eQ c fun c=>
 fT c fun c f=>
 cU f fun f g h i=>
 b9 i <| cV e fun e i=>
 eQ e fun e=>
 fT e fun e j=>
 cU j fun j k l m=>
 b9 m <| b9 i <| dX d 82 iI.a9 fun d i=>
 dX i 82 iI.a9 fun i m=>
 cM m (d.add 0) (.bool c) fun c=>
 cM c (d.add 1) (.slice f g h) fun c=>
 cM c (i.add 0) (.bool e) fun c=>
 cM c (i.add 1) (.slice j k l) fun c=>
 i.block < c.size∧eT c (i.add 0) fun e=>
 dQ c (i.add 1) fun f g h=>
 a4 lZ.id #[.agg #[.bool e,.slice f g h],.int .i64 1] c fun e f=>
 eQ e fun e=>
 fT e fun e g=>
 cU g fun g h i j=>
 b9 j <| (e4 c.size c f)∧a.block < c.size∧eT f (a.add 0) fun j=>
 dQ f (a.add 1) fun a k l=>
 a4 m2.id #[.agg #[.bool e,.slice g h i],.agg #[.bool j,.slice a k l]] f fun a e=>
 a0 .i64 a fun a=>
 (e4 c.size f e)∧cond (decide (a > 0)) (d.block < e.size∧eT e (d.add 0) fun c=>
 dQ e (d.add 1) fun f g h=>
 a4 oL.id #[.int .i64 1] e fun i j=>
 eQ i fun i=>
 fT i fun i k=>
 cU k fun k l m n=>
 b9 n <| (e4 e.size e j)∧a4 mI.id #[.agg #[.bool c,.slice f g h],.agg #[.bool i,.slice k l m]] j fun c f=>
 eQ c fun c=>
 fT c fun c g=>
 cU g fun g h i k=>
 b9 k <| (e4 e.size j f)∧cM f (b.add 0) (.bool c) fun c=>
 cM c (b.add 1) (.slice g h i) fun c=>
 eT c (b.add 0) fun f=>
 dQ c (b.add 1) fun g h i=>
 Y (.agg #[.bool f,.slice g h i]) c) (cond (a == 0) (eT e (d.add 0) fun a=>
 dQ e (d.add 1) fun c f g=>
 a4 pC.id #[.agg #[.bool a,.slice c f g]] e fun a c=>
 eU a fun a=>
 cond (!a) (d.block < c.size∧eT c (d.add 0) fun a=>
 dQ c (d.add 1) fun f g h=>
 a4 oL.id #[.int .i64 1] c fun i j=>
 eQ i fun i=>
 fT i fun i k=>
 cU k fun k l m n=>
 b9 n <| (e4 c.size c j)∧a4 mI.id #[.agg #[.bool a,.slice f g h],.agg #[.bool i,.slice k l m]] j fun a f=>
 eQ a fun a=>
 fT a fun a g=>
 cU g fun g h i k=>
 b9 k <| (e4 c.size j f)∧cM f (b.add 0) (.bool a) fun a=>
 cM a (b.add 1) (.slice g h i) fun a=>
 eT a (b.add 0) fun f=>
 dQ a (b.add 1) fun g h i=>
 Y (.agg #[.bool f,.slice g h i]) a) (eT c (d.add 0) fun a=>
 dQ c (d.add 1) fun f g h=>
 cM c (b.add 0) (.bool a) fun a=>
 cM a (b.add 1) (.slice f g h) fun a=>
 eT a (b.add 0) fun c=>
 dQ a (b.add 1) fun f g h=>
 Y (.agg #[.bool c,.slice f g h]) a)) (eT e (d.add 0) fun a=>
 dQ e (d.add 1) fun c d f=>
 cM e (b.add 0) (.bool a) fun a=>
 cM a (b.add 1) (.slice c d f) fun a=>
 eT a (b.add 0) fun c=>
 dQ a (b.add 1) fun b d e=>
 Y (.agg #[.bool c,.slice b d e]) a))
def aP.g(Y:aF)(X:Fr)(Z:U):Prop:=eQ (X 0) fun a=>cV a fun a b=>eU a fun a=>cV b fun b c=>aR b fun b d e=>b9 c <| eQ (X 1) fun c=>cV c fun c f=>eU c fun c=>cV f fun f h=>aR f fun f i j=>b9 h <| aP.t Y a b d e c f i j Z
theorem aP.ok(Y:aF)(X:Fr)(Z:U)(g:aP.g Y X Z):den prog E aO (bC E [.cell 4 82] Y) X Z:=by
 obtain⟨v,a,b⟩:=j4 g
 obtain⟨w,x,rfl,c⟩:=gG b
 obtain⟨d,rfl,e⟩:=jH c
 obtain⟨y,z,rfl,f⟩:=gG e
 obtain⟨h,i,j,rfl,k⟩:=b2 f
 obtain⟨rfl,g⟩:=iT k
 obtain⟨A,l,m⟩:=j4 g
 obtain⟨B,C,rfl,n⟩:=gG m
 obtain⟨o,rfl,p⟩:=jH n
 obtain⟨D,F,rfl,q⟩:=gG p
 obtain⟨r,s,t,rfl,u⟩:=b2 q
 obtain⟨rfl,g⟩:=iT u
 exact bV [(0,.agg #[.bool d,.slice h i j]),(1,.agg #[.bool o,.slice r s t])] ⟨a,l,trivial⟩ (by kernel_rfl) g
def t(a:Bool)(b:S)(c d:Nat)(e:Bool)(f:S)(g h:Nat)(Z:U)(Y:aF):Prop:=aP.t Y a b c d e f g h Z
theorem ok{a:Bool}{b:S}{d:Nat}{e:Nat}{f:Bool}{h:S}{i:Nat}{j:Nat}{Z:U}{Y:aF}(g:t a b d e f h i j Z Y):a4 id #[.agg #[.bool a,.slice b d e],.agg #[.bool f,.slice h i j]] Z Y:=
 eD dT (c:=aO) (dH:=[.cell 4 82]) Tryz.func101 (by kernel_rfl) (by kernel_rfl) (by kernel_rfl) (args:=[.agg #[.bool a,.slice b d e],.agg #[.bool f,.slice h i j]]) (by kernel_rfl) (aP.ok Y _ Z (fH rfl (cS (dB rfl (cS (bL rfl (eG (fH rfl (cS (dB rfl (cS (bL rfl (eG (g))))))))))))))
end pD
namespace oL
noncomputable def aO:Code:=dY Tryz.f102
def aP.t(Y:aF)(aY:Int)(Z:U):Prop:=
 dX Z 82 iI.a9 fun cQ a=>
 cond (decide (aY < 0)) (bB (IntKind.i64.wrap (aY+1)) fun b=>
 bB (IntKind.i64.wrap (0 - b)) fun b=>
 bB (IntKind.u64.wrap b) fun b=>
 a4 gN.id #[.int .u64 b] a fun b c=>
 aR b fun b d e=>
 a4 gN.id #[.int .u64 1] c fun c fV=>
 aR c fun c f g=>
 a4 g0.id #[.slice b d e,.slice c f g] fV fun b c=>
 aR b fun b d e=>
 a4 gE.id #[.bool true,.slice b d e] c fun b c=>
 eQ b fun b=>
 fT b fun b d=>
 cU d fun d e f g=>
 b9 g <| cM c (cQ.add 0) (.bool b) fun b=>
 cM b (cQ.add 1) (.slice d e f) fun b=>
 eT b (cQ.add 0) fun c=>
 dQ b (cQ.add 1) fun d e f=>
 Y (.agg #[.bool c,.slice d e f]) b) (bB (IntKind.u64.wrap aY) fun b=>
 a4 gN.id #[.int .u64 b] a fun a b=>
 aR a fun a c d=>
 a4 gE.id #[.bool false,.slice a c d] b fun a b=>
 eQ a fun a=>
 fT a fun a c=>
 cU c fun c d e f=>
 b9 f <| cM b (cQ.add 0) (.bool a) fun a=>
 cM a (cQ.add 1) (.slice c d e) fun a=>
 eT a (cQ.add 0) fun b=>
 dQ a (cQ.add 1) fun c d e=>
 Y (.agg #[.bool b,.slice c d e]) a)
def aP.g(Y:aF)(X:Fr)(Z:U):Prop:=a0 .i64 (X 0) fun aY=>aP.t Y aY Z
theorem aP.ok(Y:aF)(X:Fr)(Z:U)(g:aP.g Y X Z):den prog E aO (bC E [.cell 2 82] Y) X Z:=
 bJ g fun aY a g=>bV [(0,.int .i64 aY)] ⟨a,trivial⟩ (by kernel_rfl) g
def t(aY:Int)(Z:U)(Y:aF):Prop:=aP.t Y aY Z
theorem ok{aY:Int}{Z:U}{Y:aF}(g:t aY Z Y):a4 id #[.int .i64 aY] Z Y:=
 eD dT (c:=aO) (dH:=[.cell 2 82]) Tryz.func102 (by kernel_rfl) (by kernel_rfl) (by kernel_rfl) (args:=[.int .i64 aY]) (by kernel_rfl) (aP.ok Y _ Z (b0 rfl (g)))
end oL
namespace mI
noncomputable def aO:Code:=dY Tryz.f103
def aP.t(Y:aF)(a:Bool)(b:S)(c d:Nat)(e:Bool)(f:S)(g h:Nat)(Z:U):Prop:=
 dX Z 82 [.bool a,.slice b c d] fun cQ a=>
 dX a 82 [.bool e,.slice f g h] fun a b=>
 dX b 82 iI.a9 fun b c=>
 eT c (cQ.add 0) fun d=>
 eT c (a.add 0) fun e=>
 cond (d == e) ((cQ.add 0).block < c.size∧eT c (cQ.add 0) fun d=>
 (cQ.add 1).block < c.size∧dQ c (cQ.add 1) fun e f g=>
 (a.add 1).block < c.size∧dQ c (a.add 1) fun h i j=>
 a4 g0.id #[.slice e f g,.slice h i j] c fun e f=>
 aR e fun e g h=>
 (e4 c.size c f)∧a4 gE.id #[.bool d,.slice e g h] f fun d e=>
 eQ d fun d=>
 fT d fun d g=>
 cU g fun g h i j=>
 b9 j <| (e4 c.size f e)∧cM e (b.add 0) (.bool d) fun d=>
 cM d (b.add 1) (.slice g h i) fun d=>
 eT d (b.add 0) fun e=>
 dQ d (b.add 1) fun f g h=>
 Y (.agg #[.bool e,.slice f g h]) d) (dQ c (cQ.add 1) fun d e f=>
 dQ c (a.add 1) fun g h i=>
 a4 jN.id #[.slice d e f,.slice g h i] c fun c d=>
 a0 .i64 c fun c=>
 cond (decide (c≥0)) ((cQ.add 0).block < d.size∧eT d (cQ.add 0) fun c=>
 (cQ.add 1).block < d.size∧dQ d (cQ.add 1) fun e f g=>
 (a.add 1).block < d.size∧dQ d (a.add 1) fun h i j=>
 a4 hE.id #[.slice e f g,.slice h i j] d fun e f=>
 aR e fun e g h=>
 (e4 d.size d f)∧a4 gE.id #[.bool c,.slice e g h] f fun c e=>
 eQ c fun c=>
 fT c fun c g=>
 cU g fun g h i j=>
 b9 j <| (e4 d.size f e)∧cM e (b.add 0) (.bool c) fun c=>
 cM c (b.add 1) (.slice g h i) fun c=>
 eT c (b.add 0) fun e=>
 dQ c (b.add 1) fun f g h=>
 Y (.agg #[.bool e,.slice f g h]) c) ((a.add 0).block < d.size∧eT d (a.add 0) fun c=>
 (a.add 1).block < d.size∧dQ d (a.add 1) fun a e f=>
 (cQ.add 1).block < d.size∧dQ d (cQ.add 1) fun g h i=>
 a4 hE.id #[.slice a e f,.slice g h i] d fun a e=>
 aR a fun a f g=>
 (e4 d.size d e)∧a4 gE.id #[.bool c,.slice a f g] e fun a c=>
 eQ a fun a=>
 fT a fun a f=>
 cU f fun f g h i=>
 b9 i <| (e4 d.size e c)∧cM c (b.add 0) (.bool a) fun a=>
 cM a (b.add 1) (.slice f g h) fun a=>
 eT a (b.add 0) fun c=>
 dQ a (b.add 1) fun b d e=>
 Y (.agg #[.bool c,.slice b d e]) a))
def aP.g(Y:aF)(X:Fr)(Z:U):Prop:=eQ (X 0) fun a=>cV a fun a b=>eU a fun a=>cV b fun b c=>aR b fun b d e=>b9 c <| eQ (X 1) fun c=>cV c fun c f=>eU c fun c=>cV f fun f h=>aR f fun f i j=>b9 h <| aP.t Y a b d e c f i j Z
theorem aP.ok(Y:aF)(X:Fr)(Z:U)(g:aP.g Y X Z):den prog E aO (bC E [.cell 4 82] Y) X Z:=by
 obtain⟨v,a,b⟩:=j4 g
 obtain⟨w,x,rfl,c⟩:=gG b
 obtain⟨d,rfl,e⟩:=jH c
 obtain⟨y,z,rfl,f⟩:=gG e
 obtain⟨h,i,j,rfl,k⟩:=b2 f
 obtain⟨rfl,g⟩:=iT k
 obtain⟨A,l,m⟩:=j4 g
 obtain⟨B,C,rfl,n⟩:=gG m
 obtain⟨o,rfl,p⟩:=jH n
 obtain⟨D,F,rfl,q⟩:=gG p
 obtain⟨r,s,t,rfl,u⟩:=b2 q
 obtain⟨rfl,g⟩:=iT u
 exact bV [(0,.agg #[.bool d,.slice h i j]),(1,.agg #[.bool o,.slice r s t])] ⟨a,l,trivial⟩ (by kernel_rfl) g
def t(a:Bool)(b:S)(c d:Nat)(e:Bool)(f:S)(g h:Nat)(Z:U)(Y:aF):Prop:=aP.t Y a b c d e f g h Z
theorem ok{a:Bool}{b:S}{d:Nat}{e:Nat}{f:Bool}{h:S}{i:Nat}{j:Nat}{Z:U}{Y:aF}(g:t a b d e f h i j Z Y):a4 id #[.agg #[.bool a,.slice b d e],.agg #[.bool f,.slice h i j]] Z Y:=
 eD dT (c:=aO) (dH:=[.cell 4 82]) Tryz.func103 (by kernel_rfl) (by kernel_rfl) (by kernel_rfl) (args:=[.agg #[.bool a,.slice b d e],.agg #[.bool f,.slice h i j]]) (by kernel_rfl) (aP.ok Y _ Z (fH rfl (cS (dB rfl (cS (bL rfl (eG (fH rfl (cS (dB rfl (cS (bL rfl (eG (g))))))))))))))
end mI
namespace nT
noncomputable def aO:Code:=dY Tryz.f105
def a5.t(Y:aF)(b6:S)(a b7:Nat)(b:S)(c d:Nat)(e:Int)(Z:U):Prop:=
 a4 kH.id #[.slice b6 a b7,.slice b c d] Z fun a b=>
 cW a fun a=>
 cU a fun a c d f=>
 dP f .i64 fun f f=>
 b9 f <| Y (.tuple #[.slice a c d,.int .u64 e]) b
def a5.g(Y:aF)(X:Fr)(Z:U):Prop:=aR (X 8) fun b6 a b7=>aR (X 9) fun b c d=>a0 .u64 (X 10) fun e=>a5.t Y b6 a b7 b c d e Z
theorem a5.ok(Y:aF)(X:Fr)(Z:U)(g:a5.g Y X Z):den prog E (a6 aO [W,W,W,W,W,W]) (bC E [.tmp 4,.tmp 5] Y) X Z:=
 bF g fun b6 a b7 b g=>bF g fun c d e f g=>bJ g fun h i g=>bV [(8,.slice b6 a b7),(9,.slice c d e),(10,.int .u64 h)] ⟨b,f,i,trivial⟩ (by kernel_rfl) g
def bU.g(bP:Int→S→Nat→Nat→S→Nat→Nat→S→Nat→Nat→Int→Int→U→Prop)(X:Fr)(Z:U):Prop:=a0 .u64 (X 0) fun aY=>aR (X 6) fun bG a bI=>aR (X 8) fun b6 b b7=>aR (X 9) fun c d e=>a0 .u64 (X 10) fun f=>a0 .u64 (X 11) fun h=>bP aY bG a bI b6 b b7 c d e f h Z
def cH.t(Y:aF)(a:Int→S→Nat→Nat→S→Nat→Nat→S→Nat→Nat→Int→Int→U→Prop)(aY:Int)(bG:S)(b bI:Nat)(b6:S)(c b7:Nat)(d:S)(e f:Nat)(g h:Int)(Z:U):Prop:=
 cond (decide ((((b:Nat):Int)) > 0)) (a4 kW.id #[.slice bG b bI,.int .u64 h] Z fun i j=>
 cW i fun i=>
 cU i fun i k l m=>
 dP m .u64 fun m m=>
 dP m .i64 fun m m=>
 b9 m <| (4:Int) ≠ 0∧bB (Int.tmod h 4) fun m=>
 cond (m == 1) (a4 jU.id #[.slice b6 c b7,.slice i k l] j fun m n=>
 cW m fun m=>
 cU m fun m o p q=>
 dP q .i64 fun q q=>
 b9 q <| a4 rV.id #[.slice bG b bI,.int .u64 aY] n fun n q=>
 aR n fun n r s=>
 bB (IntKind.u64.wrap (g+3)) fun u=>
 bB (IntKind.u64.wrap (h+2)) fun v=>
 a aY n r s m o p d e f u v q) (a4 jU.id #[.slice d e f,.slice i k l] j fun i j=>
 cW i fun i=>
 cU i fun i k l m=>
 dP m .i64 fun m m=>
 b9 m <| a4 rV.id #[.slice bG b bI,.int .u64 aY] j fun b j=>
 aR b fun b m n=>
 bB (IntKind.u64.wrap (g+3)) fun o=>
 bB (IntKind.u64.wrap (h+2)) fun h=>
 a aY b m n b6 c b7 i k l o h j)) (a5.t Y b6 c b7 d e f g Z)
def cH.g(Y:aF)(a:Int→S→Nat→Nat→S→Nat→Nat→S→Nat→Nat→Int→Int→U→Prop)(X:Fr)(Z:U):Prop:=a0 .u64 (X 0) fun aY=>aR (X 6) fun bG b bI=>aR (X 8) fun b6 c b7=>aR (X 9) fun d e f=>a0 .u64 (X 10) fun h=>a0 .u64 (X 11) fun i=>cH.t Y a aY bG b bI b6 c b7 d e f h i Z
theorem cH.ok(Y:aF)(a:Int→S→Nat→Nat→S→Nat→Nat→S→Nat→Nat→Int→Int→U→Prop)(X:Fr)(Z:U)(g:cH.g Y a X Z):den prog E (a6 aO [W,W,W,W,W,aJ,W,aJ,aJ]) (aV.then (bU.g a) (aV.inBlock 0 (aV.then (a5.g Y) (bC E [.tmp 4,.tmp 5] Y)))) X Z:=
 bJ g fun aY a g=>bF g fun bG b bI c g=>bF g fun b6 d b7 e g=>bF g fun f h i j g=>bJ g fun k l g=>bJ g fun m n g=>bV [(0,.int .u64 aY),(6,.slice bG b bI),(8,.slice b6 d b7),(9,.slice f h i),(10,.int .u64 k),(11,.int .u64 m)] ⟨a,c,e,j,l,n,trivial⟩ (by kernel_rfl) g
def bU.t(Y:aF):Nat→Int→S→Nat→Nat→S→Nat→Nat→S→Nat→Nat→Int→Int→U→Prop
 | 0=>fun _ _ _ _ _ _ _ _ _ _ _ _ _=>False
 | n+1=>fun aY bG a bI b6 b b7 c d e f g Z=>cH.t Y (bU.t Y n) aY bG a bI b6 b b7 c d e f g Z
theorem bU.ok(Y:aF)(X:Fr)(Z:U)(g:bU.g (fun aY bG a bI b6 b b7 c d e f h Z=>∃ n,bU.t Y n aY bG a bI b6 b b7 c d e f h Z) X Z):den prog E (a6 aO [W,W,W,W,W,aJ,W,aJ]) (aV.inBlock 0 (aV.then (a5.g Y) (bC E [.tmp 4,.tmp 5] Y))) X Z:=by
 obtain⟨aY,i,g⟩:=bT g
 obtain⟨bG,a,bI,j,g⟩:=b2 g
 obtain⟨b6,b,b7,k,g⟩:=b2 g
 obtain⟨c,d,e,l,g⟩:=b2 g
 obtain⟨f,m,g⟩:=bT g
 obtain⟨h,o,g⟩:=bT g
 obtain⟨n,g⟩:=g
 refine fF (fun n=>bU.g (bU.t Y n)) (K:=(a6 aO [W,W,W,W,W,aJ,W,aJ,aJ])) (by kernel_rfl) (fun X Z g=>?_) (fun n=>cH.ok Y (bU.t Y n)) n X Z (b0 i (bL j (bL k (bL l (b0 m (b0 o (g)))))))
 obtain⟨aY,i,g⟩:=bT g
 obtain⟨bG,a,bI,j,g⟩:=b2 g
 obtain⟨b6,b,b7,k,g⟩:=b2 g
 obtain⟨c,d,e,l,g⟩:=b2 g
 obtain⟨f,m,g⟩:=bT g
 obtain⟨h,o,g⟩:=bT g
 exact g
theorem hM.ok(Y:aF)(X:Fr)(Z:U)(g:bU.g (fun aY bG a bI b6 b b7 c d e f h Z=>∃ n,bU.t Y n aY bG a bI b6 b b7 c d e f h Z) X Z):den prog E (a6 aO [W,W,W,W,W,aJ,W]) (aV.then (a5.g Y) (bC E [.tmp 4,.tmp 5] Y)) X Z:=
 e3 (by kernel_rfl) (bU.ok Y X Z g)
def bM.t(Y:aF)(aY:Int)(bG:S)(a bI:Nat)(b6:S)(b b7:Nat)(c:S)(d e:Nat)(f:Int)(Z:U):Prop:=
 (∃ n,bU.t Y n aY bG a bI b6 b b7 c d e f 1 Z)
def bM.g(Y:aF)(X:Fr)(Z:U):Prop:=a0 .u64 (X 0) fun aY=>aR (X 6) fun bG a bI=>aR (X 8) fun b6 b b7=>aR (X 9) fun c d e=>a0 .u64 (X 10) fun f=>bM.t Y aY bG a bI b6 b b7 c d e f Z
theorem bM.ok(Y:aF)(X:Fr)(Z:U)(g:bM.g Y X Z):den prog E (a6 aO [W,W,W,W,W,aJ]) (aV.then (a5.g Y) (bC E [.tmp 4,.tmp 5] Y)) X Z:=
 bJ g fun aY a g=>bF g fun bG b bI c g=>bF g fun b6 d b7 e g=>bF g fun f h i j g=>bJ g fun k l g=>c5 1 (r:=(a6 aO [W,W,W,W,W,aJ,W])) (by kernel_rfl) (hM.ok Y) (bV [(0,.int .u64 aY),(6,.slice bG b bI),(8,.slice b6 d b7),(9,.slice f h i),(10,.int .u64 k)] ⟨a,c,e,j,l,trivial⟩ (by kernel_rfl) g)
theorem hN.ok(Y:aF)(X:Fr)(Z:U)(g:bM.g Y X Z):den prog E (a6 aO [W,W,W,W,W]) (bC E [.tmp 4,.tmp 5] Y) X Z:=
 fP (by kernel_rfl) (a5.ok Y) (bM.ok Y X Z g)
def aP.t(Y:aF)(aY aS:Int)(Z:U):Prop:=
 a4 kV.id #[.int .u64 1] Z fun a b=>
 aR a fun a c d=>
 a4 lB.id #[.slice a c d,.int .i64 aS] b fun a b=>
 cW a fun a=>
 cU a fun a c d e=>
 dP e .i64 fun e e=>
 b9 e <| a4 kW.id #[.slice a c d,.int .u64 aY] b fun a b=>
 cW a fun a=>
 cU a fun a c d e=>
 dP e .u64 fun e e=>
 dP e .i64 fun e e=>
 b9 e <| dX b 35 [] fun b e=>
 dX e 35 [] fun e f=>
 bM.t Y aY a c d (some b) 0 0 (some e) 0 0 2 f
def aP.g(Y:aF)(X:Fr)(Z:U):Prop:=a0 .u64 (X 0) fun aY=>a0 .i64 (X 1) fun aS=>aP.t Y aY aS Z
theorem aP.ok(Y:aF)(X:Fr)(Z:U)(g:aP.g Y X Z):den prog E aO (bC E [.tmp 4,.tmp 5] Y) X Z:=
 bJ g fun aY a g=>bJ g fun aS b g=>c5 5 (r:=(a6 aO [W,W,W,W,W])) (by kernel_rfl) (hN.ok Y) (bV [(0,.int .u64 aY),(1,.int .i64 aS)] ⟨a,b,trivial⟩ (by kernel_rfl) g)
def t(aY aS:Int)(Z:U)(Y:aF):Prop:=aP.t Y aY aS Z
theorem ok{aY:Int}{aS:Int}{Z:U}{Y:aF}(g:t aY aS Z Y):a4 id #[.int .u64 aY,.int .i64 aS] Z Y:=
 eD dT (c:=aO) (dH:=[.tmp 4,.tmp 5]) Tryz.func105 (by kernel_rfl) (by kernel_rfl) (by kernel_rfl) (args:=[.int .u64 aY,.int .i64 aS]) (by kernel_rfl) (aP.ok Y _ Z (b0 rfl (b0 rfl (g))))
end nT
namespace vP
noncomputable def aO:Code:=dY Tryz.f106
def aP.t(Y:aF)(M:S)(a aA:Nat)(aS:Int)(Z:U):Prop:=
 a4 kV.id #[.int .u64 aS] Z fun b c=>
 aR b fun b d e=>
 a4 kH.id #[.slice M a aA,.slice b d e] c fun b c=>
 cW b fun b=>
 cU b fun b d e f=>
 dP f .i64 fun f f=>
 b9 f <| a4 kV.id #[.int .u64 aS] c fun c f=>
 aR c fun c g h=>
 a4 jU.id #[.slice M a aA,.slice c g h] f fun a c=>
 cW a fun a=>
 cU a fun a f g h=>
 dP h .i64 fun h h=>
 b9 h <| Y (.tuple #[.slice b d e,.slice a f g]) c
def aP.g(Y:aF)(X:Fr)(Z:U):Prop:=aR (X 0) fun M a aA=>a0 .u64 (X 1) fun aS=>aP.t Y M a aA aS Z
theorem aP.ok(Y:aF)(X:Fr)(Z:U)(g:aP.g Y X Z):den prog E aO (bC E [.tmp 4,.tmp 5] Y) X Z:=
 bF g fun M a aA b g=>bJ g fun aS c g=>bV [(0,.slice M a aA),(1,.int .u64 aS)] ⟨b,c,trivial⟩ (by kernel_rfl) g
def t(M:S)(a aA:Nat)(aS:Int)(Z:U)(Y:aF):Prop:=aP.t Y M a aA aS Z
theorem ok{M:S}{a:Nat}{aA:Nat}{aS:Int}{Z:U}{Y:aF}(g:t M a aA aS Z Y):a4 id #[.slice M a aA,.int .u64 aS] Z Y:=
 eD dT (c:=aO) (dH:=[.tmp 4,.tmp 5]) Tryz.func106 (by kernel_rfl) (by kernel_rfl) (by kernel_rfl) (args:=[.slice M a aA,.int .u64 aS]) (by kernel_rfl) (aP.ok Y _ Z (bL rfl (b0 rfl (g))))
end vP
namespace rK
noncomputable def aO:Code:=dY Tryz.f107
def aP.t(Y:aF)(M:S)(a aA:Nat)(Z:U):Prop:=
 a4 mW.id #[.slice M a aA] Z fun a b=>
 aR a fun a c d=>
 cond (decide ((((c:Nat):Int)) > 8192)) (Y (.tuple #[.slice none 0 0,.int .i64 5]) b) (iS b 35 j6 (((c:Nat):Int)) (((c:Nat):Int)) fun eH b=>
 n5 b 1 (some eH) ((((c:Nat):Int)).toNat) (.slice a c d) fun a a=>
 Y (.tuple #[.slice (some eH) ((((c:Nat):Int)).toNat) ((((c:Nat):Int)).toNat),.int .i64 0]) a)
def aP.g(Y:aF)(X:Fr)(Z:U):Prop:=aR (X 0) fun M a aA=>aP.t Y M a aA Z
theorem aP.ok(Y:aF)(X:Fr)(Z:U)(g:aP.g Y X Z):den prog E aO (bC E [.tmp 2,.tmp 3] Y) X Z:=
 bF g fun M a aA b g=>bV [(0,.slice M a aA)] ⟨b,trivial⟩ (by kernel_rfl) g
def t(M:S)(a aA:Nat)(Z:U)(Y:aF):Prop:=aP.t Y M a aA Z
theorem ok{M:S}{a:Nat}{aA:Nat}{Z:U}{Y:aF}(g:t M a aA Z Y):a4 id #[.slice M a aA] Z Y:=
 eD dT (c:=aO) (dH:=[.tmp 2,.tmp 3]) Tryz.func107 (by kernel_rfl) (by kernel_rfl) (by kernel_rfl) (args:=[.slice M a aA]) (by kernel_rfl) (aP.ok Y _ Z (bL rfl (g)))
end rK
namespace kW
noncomputable def aO:Code:=dY Tryz.f108
def a5.t(Y:aF)(bX:S)(a bY:Nat)(b:Int)(Z:U):Prop:=
 a4 oB.id #[.slice bX a bY] Z fun a c=>
 cW a fun a=>
 cU a fun a d e f=>
 dP f .i64 fun f f=>
 b9 f <| Y (.tuple #[.slice a d e,.int .u64 b,.int .i64 0]) c
def a5.g(Y:aF)(X:Fr)(Z:U):Prop:=aR (X 7) fun bX a bY=>a0 .u64 (X 8) fun b=>a5.t Y bX a bY b Z
theorem a5.ok(Y:aF)(X:Fr)(Z:U)(g:a5.g Y X Z):den prog E (a6 aO [W,W,W,W,W,W]) (bC E [.tmp 4,.tmp 5,.tmp 6] Y) X Z:=
 bF g fun bX a bY b g=>bJ g fun c d g=>bV [(7,.slice bX a bY),(8,.int .u64 c)] ⟨b,d,trivial⟩ (by kernel_rfl) g
def bU.g(bP:S→Nat→Nat→Int→S→Nat→Nat→Int→Int→U→Prop)(X:Fr)(Z:U):Prop:=aR (X 0) fun M a aA=>a0 .u64 (X 1) fun aS=>aR (X 7) fun bX b bY=>a0 .u64 (X 8) fun c=>a0 .i64 (X 9) fun d=>bP M a aA aS bX b bY c d Z
def cH.t(Y:aF)(a:S→Nat→Nat→Int→S→Nat→Nat→Int→Int→U→Prop)(M:S)(b aA:Nat)(aS:Int)(bX:S)(c bY:Nat)(d e:Int)(Z:U):Prop:=
 cond (decide (e≥0)) (c6 M b e 1 fun f=>
 eO Z .u64 f fun f=>
 a4 hF.id #[.int .u64 d,.int .u64 f,.int .u64 aS] Z fun f g=>
 cW f fun f=>
 dP f .u64 fun f h=>
 dP h .u64 fun h i=>
 b9 i <| c6 bX c e 1 fun i=>
 cM g i (.int .u64 f) fun f=>
 bB (IntKind.i64.wrap (e - 1)) fun e=>
 a M b aA aS bX c bY h e f) (a5.t Y bX c bY d Z)
def cH.g(Y:aF)(a:S→Nat→Nat→Int→S→Nat→Nat→Int→Int→U→Prop)(X:Fr)(Z:U):Prop:=aR (X 0) fun M b aA=>a0 .u64 (X 1) fun aS=>aR (X 7) fun bX c bY=>a0 .u64 (X 8) fun d=>a0 .i64 (X 9) fun e=>cH.t Y a M b aA aS bX c bY d e Z
theorem cH.ok(Y:aF)(a:S→Nat→Nat→Int→S→Nat→Nat→Int→Int→U→Prop)(X:Fr)(Z:U)(g:cH.g Y a X Z):den prog E (a6 aO [W,W,W,W,W,aJ,W,aJ,aJ]) (aV.then (bU.g a) (aV.inBlock 0 (aV.then (a5.g Y) (bC E [.tmp 4,.tmp 5,.tmp 6] Y)))) X Z:=
 bF g fun M a aA b g=>bJ g fun aS c g=>bF g fun bX d bY e g=>bJ g fun f h g=>bJ g fun i j g=>bV [(0,.slice M a aA),(1,.int .u64 aS),(7,.slice bX d bY),(8,.int .u64 f),(9,.int .i64 i)] ⟨b,c,e,h,j,trivial⟩ (by kernel_rfl) g
def bU.t(Y:aF):Nat→S→Nat→Nat→Int→S→Nat→Nat→Int→Int→U→Prop
 | 0=>fun _ _ _ _ _ _ _ _ _ _=>False
 | n+1=>fun M a aA aS bX b bY c d Z=>cH.t Y (bU.t Y n) M a aA aS bX b bY c d Z
theorem bU.ok(Y:aF)(X:Fr)(Z:U)(g:bU.g (fun M a aA aS bX b bY c d Z=>∃ n,bU.t Y n M a aA aS bX b bY c d Z) X Z):den prog E (a6 aO [W,W,W,W,W,aJ,W,aJ]) (aV.inBlock 0 (aV.then (a5.g Y) (bC E [.tmp 4,.tmp 5,.tmp 6] Y))) X Z:=by
 obtain⟨M,a,aA,e,g⟩:=b2 g
 obtain⟨aS,f,g⟩:=bT g
 obtain⟨bX,b,bY,h,g⟩:=b2 g
 obtain⟨c,i,g⟩:=bT g
 obtain⟨d,j,g⟩:=bT g
 obtain⟨n,g⟩:=g
 refine fF (fun n=>bU.g (bU.t Y n)) (K:=(a6 aO [W,W,W,W,W,aJ,W,aJ,aJ])) (by kernel_rfl) (fun X Z g=>?_) (fun n=>cH.ok Y (bU.t Y n)) n X Z (bL e (b0 f (bL h (b0 i (b0 j (g))))))
 obtain⟨M,a,aA,e,g⟩:=b2 g
 obtain⟨aS,f,g⟩:=bT g
 obtain⟨bX,b,bY,h,g⟩:=b2 g
 obtain⟨c,i,g⟩:=bT g
 obtain⟨d,j,g⟩:=bT g
 exact g
theorem hM.ok(Y:aF)(X:Fr)(Z:U)(g:bU.g (fun M a aA aS bX b bY c d Z=>∃ n,bU.t Y n M a aA aS bX b bY c d Z) X Z):den prog E (a6 aO [W,W,W,W,W,aJ,W]) (aV.then (a5.g Y) (bC E [.tmp 4,.tmp 5,.tmp 6] Y)) X Z:=
 e3 (by kernel_rfl) (bU.ok Y X Z g)
def bM.t(Y:aF)(M:S)(a aA:Nat)(aS:Int)(bX:S)(b bY:Nat)(c:Int)(Z:U):Prop:=
 bB (IntKind.i64.wrap ((((a:Nat):Int)) - 1)) fun d=>(∃ n,bU.t Y n M a aA aS bX b bY c d Z)
def bM.g(Y:aF)(X:Fr)(Z:U):Prop:=aR (X 0) fun M a aA=>a0 .u64 (X 1) fun aS=>aR (X 7) fun bX b bY=>a0 .u64 (X 8) fun c=>bM.t Y M a aA aS bX b bY c Z
theorem bM.ok(Y:aF)(X:Fr)(Z:U)(g:bM.g Y X Z):den prog E (a6 aO [W,W,W,W,W,aJ]) (aV.then (a5.g Y) (bC E [.tmp 4,.tmp 5,.tmp 6] Y)) X Z:=
 bF g fun M a aA b g=>bJ g fun aS c g=>bF g fun bX d bY e g=>bJ g fun f h g=>c5 1 (r:=(a6 aO [W,W,W,W,W,aJ,W])) (by kernel_rfl) (hM.ok Y) (bV [(0,.slice M a aA),(1,.int .u64 aS),(7,.slice bX d bY),(8,.int .u64 f)] ⟨b,c,e,h,trivial⟩ (by kernel_rfl) g)
theorem hN.ok(Y:aF)(X:Fr)(Z:U)(g:bM.g Y X Z):den prog E (a6 aO [W,W,W,W,W]) (bC E [.tmp 4,.tmp 5,.tmp 6] Y) X Z:=
 fP (by kernel_rfl) (a5.ok Y) (bM.ok Y X Z g)
def aP.t(Y:aF)(M:S)(a aA:Nat)(aS:Int)(Z:U):Prop:=
 a4 k4.id #[.slice M a aA] Z fun b c=>
 eU b fun b=>
 cond (!b) (Y (.tuple #[.slice none 0 0,.int .u64 0,.int .i64 2]) c) (cond (aS == 0) (Y (.tuple #[.slice none 0 0,.int .u64 0,.int .i64 4]) c) (iS c 35 j6 (((a:Nat):Int)) (((a:Nat):Int)) fun eH b=>
 bM.t Y M a aA aS (some eH) ((((a:Nat):Int)).toNat) ((((a:Nat):Int)).toNat) 0 b))
def aP.g(Y:aF)(X:Fr)(Z:U):Prop:=aR (X 0) fun M a aA=>a0 .u64 (X 1) fun aS=>aP.t Y M a aA aS Z
theorem aP.ok(Y:aF)(X:Fr)(Z:U)(g:aP.g Y X Z):den prog E aO (bC E [.tmp 4,.tmp 5,.tmp 6] Y) X Z:=
 bF g fun M a aA b g=>bJ g fun aS c g=>c5 5 (r:=(a6 aO [W,W,W,W,W])) (by kernel_rfl) (hN.ok Y) (bV [(0,.slice M a aA),(1,.int .u64 aS)] ⟨b,c,trivial⟩ (by kernel_rfl) g)
def t(M:S)(a aA:Nat)(aS:Int)(Z:U)(Y:aF):Prop:=aP.t Y M a aA aS Z
theorem ok{M:S}{a:Nat}{aA:Nat}{aS:Int}{Z:U}{Y:aF}(g:t M a aA aS Z Y):a4 id #[.slice M a aA,.int .u64 aS] Z Y:=
 eD dT (c:=aO) (dH:=[.tmp 4,.tmp 5,.tmp 6]) Tryz.func108 (by kernel_rfl) (by kernel_rfl) (by kernel_rfl) (args:=[.slice M a aA,.int .u64 aS]) (by kernel_rfl) (aP.ok Y _ Z (bL rfl (b0 rfl (g))))
end kW
namespace s0
noncomputable def aO:Code:=dY Tryz.f109
def aP.t(Y:aF)(aY:Int)(Z:U):Prop:=
 a4 nL.id #[.int .u64 aY] Z fun a b=>
 a0 .i64 a fun a=>
 bB (IntKind.i64.wrap (64 - a)) fun a=>
 Y (.int .i64 a) b
def aP.g(Y:aF)(X:Fr)(Z:U):Prop:=a0 .u64 (X 0) fun aY=>aP.t Y aY Z
theorem aP.ok(Y:aF)(X:Fr)(Z:U)(g:aP.g Y X Z):den prog E aO (bC E [.tmp 2] Y) X Z:=
 bJ g fun aY a g=>bV [(0,.int .u64 aY)] ⟨a,trivial⟩ (by kernel_rfl) g
def t(aY:Int)(Z:U)(Y:aF):Prop:=aP.t Y aY Z
theorem ok{aY:Int}{Z:U}{Y:aF}(g:t aY Z Y):a4 id #[.int .u64 aY] Z Y:=
 eD dT (c:=aO) (dH:=[.tmp 2]) Tryz.func109 (by kernel_rfl) (by kernel_rfl) (by kernel_rfl) (args:=[.int .u64 aY]) (by kernel_rfl) (aP.ok Y _ Z (b0 rfl (g)))
end s0
namespace mZ
noncomputable def aO:Code:=dY Tryz.f110
def a5.t(Y:aF)(bX:S)(a bY:Nat)(Z:U):Prop:=
 Y (.slice bX a bY) Z
def a5.g(Y:aF)(X:Fr)(Z:U):Prop:=aR (X 7) fun bX a bY=>a5.t Y bX a bY Z
theorem a5.ok(Y:aF)(X:Fr)(Z:U)(g:a5.g Y X Z):den prog E (a6 aO [W,W,W,W,W,W]) (bC E [.tmp 6] Y) X Z:=
 bF g fun bX a bY b g=>bV [(7,.slice bX a bY)] ⟨b,trivial⟩ (by kernel_rfl) g
def bU.g(bP:Int→S→Nat→Nat→Int→Int→Int→U→Prop)(X:Fr)(Z:U):Prop:=a0 .i64 (X 1) fun aS=>aR (X 7) fun bX a bY=>a0 .u64 (X 8) fun b=>a0 .i64 (X 19) fun c=>a0 .i64 (X 20) fun d=>bP aS bX a bY b c d Z
def cH.t(Y:aF)(a:Int→S→Nat→Nat→Int→Int→Int→U→Prop)(aS:Int)(bX:S)(b bY:Nat)(c d e:Int)(Z:U):Prop:=
 cond (decide (e < d)) (c6 bX b e 1 fun eH=>
 eO Z .u64 eH fun f=>
 0≤aS∧bB (iQ .u64 f aS) fun f=>
 bB (wH .u64 f c) fun c=>
 c6 bX b e 1 fun f=>
 eO Z .u64 f fun f=>
 bB (IntKind.i64.wrap (64 - aS)) fun g=>
 0≤g∧bB (hG .u64 f g) fun f=>
 c6 bX b e 1 fun g=>
 cM Z g (.int .u64 c) fun c=>
 bB (IntKind.i64.wrap (e+1)) fun e=>
 a aS bX b bY f d e c) (a5.t Y bX b bY Z)
def cH.g(Y:aF)(a:Int→S→Nat→Nat→Int→Int→Int→U→Prop)(X:Fr)(Z:U):Prop:=a0 .i64 (X 1) fun aS=>aR (X 7) fun bX b bY=>a0 .u64 (X 8) fun c=>a0 .i64 (X 19) fun d=>a0 .i64 (X 20) fun e=>cH.t Y a aS bX b bY c d e Z
theorem cH.ok(Y:aF)(a:Int→S→Nat→Nat→Int→Int→Int→U→Prop)(X:Fr)(Z:U)(g:cH.g Y a X Z):den prog E (a6 aO [W,W,W,W,W,aJ,W,aJ,aJ]) (aV.then (bU.g a) (aV.inBlock 0 (aV.then (a5.g Y) (bC E [.tmp 6] Y)))) X Z:=
 bJ g fun aS a g=>bF g fun bX b bY c g=>bJ g fun d e g=>bJ g fun f h g=>bJ g fun i j g=>bV [(1,.int .i64 aS),(7,.slice bX b bY),(8,.int .u64 d),(19,.int .i64 f),(20,.int .i64 i)] ⟨a,c,e,h,j,trivial⟩ (by kernel_rfl) g
def bU.t(Y:aF):Nat→Int→S→Nat→Nat→Int→Int→Int→U→Prop
 | 0=>fun _ _ _ _ _ _ _ _=>False
 | n+1=>fun aS bX a bY b c d Z=>cH.t Y (bU.t Y n) aS bX a bY b c d Z
theorem bU.ok(Y:aF)(X:Fr)(Z:U)(g:bU.g (fun aS bX a bY b c d Z=>∃ n,bU.t Y n aS bX a bY b c d Z) X Z):den prog E (a6 aO [W,W,W,W,W,aJ,W,aJ]) (aV.inBlock 0 (aV.then (a5.g Y) (bC E [.tmp 6] Y))) X Z:=by
 obtain⟨aS,e,g⟩:=bT g
 obtain⟨bX,a,bY,f,g⟩:=b2 g
 obtain⟨b,h,g⟩:=bT g
 obtain⟨c,i,g⟩:=bT g
 obtain⟨d,j,g⟩:=bT g
 obtain⟨n,g⟩:=g
 refine fF (fun n=>bU.g (bU.t Y n)) (K:=(a6 aO [W,W,W,W,W,aJ,W,aJ,aJ])) (by kernel_rfl) (fun X Z g=>?_) (fun n=>cH.ok Y (bU.t Y n)) n X Z (b0 e (bL f (b0 h (b0 i (b0 j (g))))))
 obtain⟨aS,e,g⟩:=bT g
 obtain⟨bX,a,bY,f,g⟩:=b2 g
 obtain⟨b,h,g⟩:=bT g
 obtain⟨c,i,g⟩:=bT g
 obtain⟨d,j,g⟩:=bT g
 exact g
theorem hM.ok(Y:aF)(X:Fr)(Z:U)(g:bU.g (fun aS bX a bY b c d Z=>∃ n,bU.t Y n aS bX a bY b c d Z) X Z):den prog E (a6 aO [W,W,W,W,W,aJ,W]) (aV.then (a5.g Y) (bC E [.tmp 6] Y)) X Z:=
 e3 (by kernel_rfl) (bU.ok Y X Z g)
def bM.t(Y:aF)(aS:Int)(bX:S)(a bY:Nat)(b:Int)(Z:U):Prop:=
 (∃ n,bU.t Y n aS bX a bY b (((a:Nat):Int)) 0 Z)
def bM.g(Y:aF)(X:Fr)(Z:U):Prop:=a0 .i64 (X 1) fun aS=>aR (X 7) fun bX a bY=>a0 .u64 (X 8) fun b=>bM.t Y aS bX a bY b Z
theorem bM.ok(Y:aF)(X:Fr)(Z:U)(g:bM.g Y X Z):den prog E (a6 aO [W,W,W,W,W,aJ]) (aV.then (a5.g Y) (bC E [.tmp 6] Y)) X Z:=
 bJ g fun aS a g=>bF g fun bX b bY c g=>bJ g fun d e g=>c5 1 (r:=(a6 aO [W,W,W,W,W,aJ,W])) (by kernel_rfl) (hM.ok Y) (bV [(1,.int .i64 aS),(7,.slice bX b bY),(8,.int .u64 d)] ⟨a,c,e,trivial⟩ (by kernel_rfl) g)
theorem hN.ok(Y:aF)(X:Fr)(Z:U)(g:bM.g Y X Z):den prog E (a6 aO [W,W,W,W,W]) (bC E [.tmp 6] Y) X Z:=
 fP (by kernel_rfl) (a5.ok Y) (bM.ok Y X Z g)
def aP.t(Y:aF)(M:S)(a aA:Nat)(aS b:Int)(Z:U):Prop:=
 iS Z 35 j6 b b fun cQ c=>
 n5 c 1 (some cQ) b.toNat (.slice M a aA) fun a a=>
 cond (aS == 0) (Y (.slice (some cQ) b.toNat b.toNat) a) (bM.t Y aS (some cQ) b.toNat b.toNat 0 a)
def aP.g(Y:aF)(X:Fr)(Z:U):Prop:=aR (X 0) fun M a aA=>a0 .i64 (X 1) fun aS=>a0 .i64 (X 2) fun b=>aP.t Y M a aA aS b Z
theorem aP.ok(Y:aF)(X:Fr)(Z:U)(g:aP.g Y X Z):den prog E aO (bC E [.tmp 6] Y) X Z:=
 bF g fun M a aA b g=>bJ g fun aS c g=>bJ g fun d e g=>c5 5 (r:=(a6 aO [W,W,W,W,W])) (by kernel_rfl) (hN.ok Y) (bV [(0,.slice M a aA),(1,.int .i64 aS),(2,.int .i64 d)] ⟨b,c,e,trivial⟩ (by kernel_rfl) g)
def t(M:S)(a aA:Nat)(aS b:Int)(Z:U)(Y:aF):Prop:=aP.t Y M a aA aS b Z
theorem ok{M:S}{a:Nat}{aA:Nat}{aS:Int}{b:Int}{Z:U}{Y:aF}(g:t M a aA aS b Z Y):a4 id #[.slice M a aA,.int .i64 aS,.int .i64 b] Z Y:=
 eD dT (c:=aO) (dH:=[.tmp 6]) Tryz.func110 (by kernel_rfl) (by kernel_rfl) (by kernel_rfl) (args:=[.slice M a aA,.int .i64 aS,.int .i64 b]) (by kernel_rfl) (aP.ok Y _ Z (bL rfl (b0 rfl (b0 rfl (g)))))
end mZ
namespace jQ
noncomputable def aO:Code:=dY Tryz.f111
def bM.t(Y:aF)(bG:S)(a bI:Nat)(Z:U):Prop:=
 Y (.slice bG a bI) Z
def bM.g(Y:aF)(X:Fr)(Z:U):Prop:=aR (X 6) fun bG a bI=>bM.t Y bG a bI Z
theorem bM.ok(Y:aF)(X:Fr)(Z:U)(g:bM.g Y X Z):den prog E (a6 aO [W,aJ,W,W,W,W]) (bC E [.tmp 4] Y) X Z:=
 bF g fun bG a bI b g=>bV [(6,.slice bG a bI)] ⟨b,trivial⟩ (by kernel_rfl) g
def dS.g(bP:S→Nat→Nat→S→Nat→Nat→Int→S→Nat→Nat→Int→U→Prop)(X:Fr)(Z:U):Prop:=aR (X 0) fun M a aA=>aR (X 1) fun aM aL aK=>a0 .i64 (X 5) fun b=>aR (X 6) fun bG c bI=>a0 .i64 (X 7) fun d=>bP M a aA aM aL aK b bG c bI d Z
def eX.t(Y:aF)(a:S→Nat→Nat→S→Nat→Nat→Int→S→Nat→Nat→Int→U→Prop)(M:S)(b aA:Nat)(aM:S)(aL aK:Nat)(c:Int)(bG:S)(d bI:Nat)(e:Int)(Z:U):Prop:=
 bB (IntKind.i64.wrap (e - 1)) fun e=>a M b aA aM aL aK c bG d bI e Z
def eX.g(Y:aF)(a:S→Nat→Nat→S→Nat→Nat→Int→S→Nat→Nat→Int→U→Prop)(X:Fr)(Z:U):Prop:=aR (X 0) fun M b aA=>aR (X 1) fun aM aL aK=>a0 .i64 (X 5) fun c=>aR (X 6) fun bG d bI=>a0 .i64 (X 7) fun e=>eX.t Y a M b aA aM aL aK c bG d bI e Z
theorem eX.ok(Y:aF)(a:S→Nat→Nat→S→Nat→Nat→Int→S→Nat→Nat→Int→U→Prop)(X:Fr)(Z:U)(g:eX.g Y a X Z):den prog E (a6 aO [W,aJ,W,W,W,aJ,W,aJ,aJ,W,W]) (aV.then (dS.g a) (aV.inBlock 0 (aV.then (bM.g Y) (bC E [.tmp 4] Y)))) X Z:=
 bF g fun M a aA b g=>bF g fun aM aL aK c g=>bJ g fun d e g=>bF g fun bG f bI h g=>bJ g fun i j g=>bV [(0,.slice M a aA),(1,.slice aM aL aK),(5,.int .i64 d),(6,.slice bG f bI),(7,.int .i64 i)] ⟨b,c,e,h,j,trivial⟩ (by kernel_rfl) g
def gD.g(bP:S→Nat→Nat→S→Nat→Nat→Int→S→Nat→Nat→Int→Int→S→Nat→Nat→U→Prop)(X:Fr)(Z:U):Prop:=aR (X 0) fun M a aA=>aR (X 1) fun aM aL aK=>a0 .i64 (X 5) fun b=>aR (X 6) fun bG c bI=>a0 .i64 (X 7) fun d=>a0 .u64 (X 8) fun e=>aR (X 9) fun f h i=>bP M a aA aM aL aK b bG c bI d e f h i Z
def hI.t(Y:aF)(a:S→Nat→Nat→S→Nat→Nat→Int→S→Nat→Nat→Int→U→Prop)(b:S→Nat→Nat→S→Nat→Nat→Int→S→Nat→Nat→Int→Int→S→Nat→Nat→U→Prop)(M:S)(c aA:Nat)(aM:S)(aL aK:Nat)(d:Int)(bG:S)(e bI:Nat)(f g:Int)(h:S)(i j:Nat)(Z:U):Prop:=
 bB (IntKind.u64.wrap (g - 1)) fun g=>
 a4 nO.id #[.slice h i j,.slice aM aL aK] Z fun k l=>
 a0 .u64 k fun k=>
 cond (k == 1) (c6 bG e f 1 fun k=>
 cM l k (.int .u64 g) fun k=>
 eX.t Y a M c aA aM aL aK d bG e bI f k) (b M c aA aM aL aK d bG e bI f g h i j l)
def hI.g(Y:aF)(a:S→Nat→Nat→S→Nat→Nat→Int→S→Nat→Nat→Int→U→Prop)(b:S→Nat→Nat→S→Nat→Nat→Int→S→Nat→Nat→Int→Int→S→Nat→Nat→U→Prop)(X:Fr)(Z:U):Prop:=aR (X 0) fun M c aA=>aR (X 1) fun aM aL aK=>a0 .i64 (X 5) fun d=>aR (X 6) fun bG e bI=>a0 .i64 (X 7) fun f=>a0 .u64 (X 8) fun h=>aR (X 9) fun i j k=>hI.t Y a b M c aA aM aL aK d bG e bI f h i j k Z
theorem hI.ok(Y:aF)(a:S→Nat→Nat→S→Nat→Nat→Int→S→Nat→Nat→Int→U→Prop)(b:S→Nat→Nat→S→Nat→Nat→Int→S→Nat→Nat→Int→Int→S→Nat→Nat→U→Prop)(X:Fr)(Z:U)(g:hI.g Y a b X Z):den prog E (a6 aO [W,aJ,W,W,W,aJ,W,aJ,aJ,W,aJ,aJ,W,W,W,aJ,aJ]) (aV.then (gD.g b) (aV.inBlock 2 (aV.inBlock 1 (aV.then (eX.g Y a) (aV.then (dS.g a) (aV.inBlock 0 (aV.then (bM.g Y) (bC E [.tmp 4] Y)))))))) X Z:=
 bF g fun M a aA b g=>bF g fun aM aL aK c g=>bJ g fun d e g=>bF g fun bG f bI h g=>bJ g fun i j g=>bJ g fun k l g=>bF g fun m n o p g=>bV [(0,.slice M a aA),(1,.slice aM aL aK),(5,.int .i64 d),(6,.slice bG f bI),(7,.int .i64 i),(8,.int .u64 k),(9,.slice m n o)] ⟨b,c,e,h,j,l,p,trivial⟩ (by kernel_rfl) g
def gD.t(Y:aF)(a:S→Nat→Nat→S→Nat→Nat→Int→S→Nat→Nat→Int→U→Prop):Nat→S→Nat→Nat→S→Nat→Nat→Int→S→Nat→Nat→Int→Int→S→Nat→Nat→U→Prop
 | 0=>fun _ _ _ _ _ _ _ _ _ _ _ _ _ _ _ _=>False
 | n+1=>fun M b aA aM aL aK c bG d bI e f g h i Z=>hI.t Y a (gD.t Y a n) M b aA aM aL aK c bG d bI e f g h i Z
theorem gD.ok(Y:aF)(a:S→Nat→Nat→S→Nat→Nat→Int→S→Nat→Nat→Int→U→Prop)(X:Fr)(Z:U)(g:gD.g (fun M b aA aM aL aK c bG d bI e f h i j Z=>∃ n,gD.t Y a n M b aA aM aL aK c bG d bI e f h i j Z) X Z):den prog E (a6 aO [W,aJ,W,W,W,aJ,W,aJ,aJ,W,aJ,aJ,W,W,W,aJ]) (aV.inBlock 2 (aV.inBlock 1 (aV.then (eX.g Y a) (aV.then (dS.g a) (aV.inBlock 0 (aV.then (bM.g Y) (bC E [.tmp 4] Y))))))) X Z:=by
 obtain⟨M,b,aA,k,g⟩:=b2 g
 obtain⟨aM,aL,aK,l,g⟩:=b2 g
 obtain⟨c,m,g⟩:=bT g
 obtain⟨bG,d,bI,o,g⟩:=b2 g
 obtain⟨e,p,g⟩:=bT g
 obtain⟨f,q,g⟩:=bT g
 obtain⟨h,i,j,r,g⟩:=b2 g
 obtain⟨n,g⟩:=g
 refine fF (fun n=>gD.g (gD.t Y a n)) (K:=(a6 aO [W,aJ,W,W,W,aJ,W,aJ,aJ,W,aJ,aJ,W,W,W,aJ,aJ])) (by kernel_rfl) (fun X Z g=>?_) (fun n=>hI.ok Y a (gD.t Y a n)) n X Z (bL k (bL l (b0 m (bL o (b0 p (b0 q (bL r (g))))))))
 obtain⟨M,b,aA,k,g⟩:=b2 g
 obtain⟨aM,aL,aK,l,g⟩:=b2 g
 obtain⟨c,m,g⟩:=bT g
 obtain⟨bG,d,bI,o,g⟩:=b2 g
 obtain⟨e,p,g⟩:=bT g
 obtain⟨f,q,g⟩:=bT g
 obtain⟨h,i,j,r,g⟩:=b2 g
 exact g
theorem wC.ok(Y:aF)(a:S→Nat→Nat→S→Nat→Nat→Int→S→Nat→Nat→Int→U→Prop)(X:Fr)(Z:U)(g:gD.g (fun M b aA aM aL aK c bG d bI e f h i j Z=>∃ n,gD.t Y a n M b aA aM aL aK c bG d bI e f h i j Z) X Z):den prog E (a6 aO [W,aJ,W,W,W,aJ,W,aJ,aJ,W,aJ,aJ,W,W,W]) (aV.inBlock 1 (aV.then (eX.g Y a) (aV.then (dS.g a) (aV.inBlock 0 (aV.then (bM.g Y) (bC E [.tmp 4] Y)))))) X Z:=
 e3 (by kernel_rfl) (gD.ok Y a X Z g)
def eZ.t(Y:aF)(a:S→Nat→Nat→S→Nat→Nat→Int→S→Nat→Nat→Int→U→Prop)(M:S)(b aA:Nat)(aM:S)(aL aK:Nat)(c:Int)(bG:S)(d bI:Nat)(e:Int)(Z:U):Prop:=
 bB (IntKind.i64.wrap (e+c)) fun f=>
 c6 M b f 1 fun f=>
 eO Z .u64 f fun f=>
 bB (IntKind.i64.wrap (e+c)) fun g=>
 bB (IntKind.i64.wrap (g - 1)) fun g=>
 c6 M b g 1 fun g=>
 eO Z .u64 g fun g=>
 bB (IntKind.i64.wrap (c - 1)) fun h=>
 c6 aM aL h 1 fun h=>
 eO Z .u64 h fun h=>
 a4 vB.id #[.int .u64 f,.int .u64 g,.int .u64 h] Z fun f g=>
 a0 .u64 f fun f=>
 bB (IntKind.i64.wrap (e+c)) fun h=>
 bB (IntKind.i64.wrap (h+1)) fun h=>
 iR 1 M b aA (some (.int .i64 e)) (some (.int .i64 h)) none fun h i j=>
 a4 nN.id #[.slice h i j,.slice aM aL aK,.int .u64 f] g fun g k=>
 a0 .u64 g fun g=>
 cond (g == 0) (c6 bG d e 1 fun g=>
 cM k g (.int .u64 f) fun g=>
 eX.t Y a M b aA aM aL aK c bG d bI e g) ((∃ n,gD.t Y a n M b aA aM aL aK c bG d bI e f h i j k))
def eZ.g(Y:aF)(a:S→Nat→Nat→S→Nat→Nat→Int→S→Nat→Nat→Int→U→Prop)(X:Fr)(Z:U):Prop:=aR (X 0) fun M b aA=>aR (X 1) fun aM aL aK=>a0 .i64 (X 5) fun c=>aR (X 6) fun bG d bI=>a0 .i64 (X 7) fun e=>eZ.t Y a M b aA aM aL aK c bG d bI e Z
theorem eZ.ok(Y:aF)(a:S→Nat→Nat→S→Nat→Nat→Int→S→Nat→Nat→Int→U→Prop)(X:Fr)(Z:U)(g:eZ.g Y a X Z):den prog E (a6 aO [W,aJ,W,W,W,aJ,W,aJ,aJ,W,aJ,aJ]) (aV.inBlock 1 (aV.then (eX.g Y a) (aV.then (dS.g a) (aV.inBlock 0 (aV.then (bM.g Y) (bC E [.tmp 4] Y)))))) X Z:=
 bF g fun M b aA c g=>bF g fun aM aL aK d g=>bJ g fun e f g=>bF g fun bG h bI i g=>bJ g fun j k g=>c5 3 (r:=(a6 aO [W,aJ,W,W,W,aJ,W,aJ,aJ,W,aJ,aJ,W,W,W])) (by kernel_rfl) (wC.ok Y a) (bV [(0,.slice M b aA),(1,.slice aM aL aK),(5,.int .i64 e),(6,.slice bG h bI),(7,.int .i64 j)] ⟨c,d,f,i,k,trivial⟩ (by kernel_rfl) g)
theorem oT.ok(Y:aF)(a:S→Nat→Nat→S→Nat→Nat→Int→S→Nat→Nat→Int→U→Prop)(X:Fr)(Z:U)(g:eZ.g Y a X Z):den prog E (a6 aO [W,aJ,W,W,W,aJ,W,aJ,aJ,W,aJ]) (aV.then (eX.g Y a) (aV.then (dS.g a) (aV.inBlock 0 (aV.then (bM.g Y) (bC E [.tmp 4] Y))))) X Z:=
 e3 (by kernel_rfl) (eZ.ok Y a X Z g)
theorem sH.ok(Y:aF)(a:S→Nat→Nat→S→Nat→Nat→Int→S→Nat→Nat→Int→U→Prop)(X:Fr)(Z:U)(g:eZ.g Y a X Z):den prog E (a6 aO [W,aJ,W,W,W,aJ,W,aJ,aJ,W]) (aV.then (dS.g a) (aV.inBlock 0 (aV.then (bM.g Y) (bC E [.tmp 4] Y)))) X Z:=
 fP (by kernel_rfl) (eX.ok Y a) (oT.ok Y a X Z g)
def dD.t(Y:aF)(a:S→Nat→Nat→S→Nat→Nat→Int→S→Nat→Nat→Int→U→Prop)(M:S)(b aA:Nat)(aM:S)(aL aK:Nat)(c:Int)(bG:S)(d bI:Nat)(e:Int)(Z:U):Prop:=
 cond (decide (e≥0)) (eZ.t Y a M b aA aM aL aK c bG d bI e Z) (bM.t Y bG d bI Z)
def dD.g(Y:aF)(a:S→Nat→Nat→S→Nat→Nat→Int→S→Nat→Nat→Int→U→Prop)(X:Fr)(Z:U):Prop:=aR (X 0) fun M b aA=>aR (X 1) fun aM aL aK=>a0 .i64 (X 5) fun c=>aR (X 6) fun bG d bI=>a0 .i64 (X 7) fun e=>dD.t Y a M b aA aM aL aK c bG d bI e Z
theorem dD.ok(Y:aF)(a:S→Nat→Nat→S→Nat→Nat→Int→S→Nat→Nat→Int→U→Prop)(X:Fr)(Z:U)(g:dD.g Y a X Z):den prog E (a6 aO [W,aJ,W,W,W,aJ,W,aJ,aJ]) (aV.then (dS.g a) (aV.inBlock 0 (aV.then (bM.g Y) (bC E [.tmp 4] Y)))) X Z:=
 bF g fun M b aA c g=>bF g fun aM aL aK d g=>bJ g fun e f g=>bF g fun bG h bI i g=>bJ g fun j k g=>c5 1 (r:=(a6 aO [W,aJ,W,W,W,aJ,W,aJ,aJ,W])) (by kernel_rfl) (sH.ok Y a) (bV [(0,.slice M b aA),(1,.slice aM aL aK),(5,.int .i64 e),(6,.slice bG h bI),(7,.int .i64 j)] ⟨c,d,f,i,k,trivial⟩ (by kernel_rfl) g)
def dS.t(Y:aF):Nat→S→Nat→Nat→S→Nat→Nat→Int→S→Nat→Nat→Int→U→Prop
 | 0=>fun _ _ _ _ _ _ _ _ _ _ _ _=>False
 | n+1=>fun M a aA aM aL aK b bG c bI d Z=>dD.t Y (dS.t Y n) M a aA aM aL aK b bG c bI d Z
theorem dS.ok(Y:aF)(X:Fr)(Z:U)(g:dS.g (fun M a aA aM aL aK b bG c bI d Z=>∃ n,dS.t Y n M a aA aM aL aK b bG c bI d Z) X Z):den prog E (a6 aO [W,aJ,W,W,W,aJ,W,aJ]) (aV.inBlock 0 (aV.then (bM.g Y) (bC E [.tmp 4] Y))) X Z:=by
 obtain⟨M,a,aA,e,g⟩:=b2 g
 obtain⟨aM,aL,aK,f,g⟩:=b2 g
 obtain⟨b,h,g⟩:=bT g
 obtain⟨bG,c,bI,i,g⟩:=b2 g
 obtain⟨d,j,g⟩:=bT g
 obtain⟨n,g⟩:=g
 refine fF (fun n=>dS.g (dS.t Y n)) (K:=(a6 aO [W,aJ,W,W,W,aJ,W,aJ,aJ])) (by kernel_rfl) (fun X Z g=>?_) (fun n=>dD.ok Y (dS.t Y n)) n X Z (bL e (bL f (b0 h (bL i (b0 j (g))))))
 obtain⟨M,a,aA,e,g⟩:=b2 g
 obtain⟨aM,aL,aK,f,g⟩:=b2 g
 obtain⟨b,h,g⟩:=bT g
 obtain⟨bG,c,bI,i,g⟩:=b2 g
 obtain⟨d,j,g⟩:=bT g
 exact g
theorem qC.ok(Y:aF)(X:Fr)(Z:U)(g:dS.g (fun M a aA aM aL aK b bG c bI d Z=>∃ n,dS.t Y n M a aA aM aL aK b bG c bI d Z) X Z):den prog E (a6 aO [W,aJ,W,W,W,aJ,W]) (aV.then (bM.g Y) (bC E [.tmp 4] Y)) X Z:=
 e3 (by kernel_rfl) (dS.ok Y X Z g)
def cF.t(Y:aF)(M:S)(a aA:Nat)(aM:S)(aL aK:Nat)(b:Int)(bG:S)(c bI:Nat)(Z:U):Prop:=
 bB (IntKind.i64.wrap ((((a:Nat):Int)) - b)) fun d=>
 bB (IntKind.i64.wrap (d - 1)) fun d=>
 (∃ n,dS.t Y n M a aA aM aL aK b bG c bI d Z)
def cF.g(Y:aF)(X:Fr)(Z:U):Prop:=aR (X 0) fun M a aA=>aR (X 1) fun aM aL aK=>a0 .i64 (X 5) fun b=>aR (X 6) fun bG c bI=>cF.t Y M a aA aM aL aK b bG c bI Z
theorem cF.ok(Y:aF)(X:Fr)(Z:U)(g:cF.g Y X Z):den prog E (a6 aO [W,aJ,W,W,W,aJ]) (aV.then (bM.g Y) (bC E [.tmp 4] Y)) X Z:=
 bF g fun M a aA b g=>bF g fun aM aL aK c g=>bJ g fun d e g=>bF g fun bG f bI h g=>c5 1 (r:=(a6 aO [W,aJ,W,W,W,aJ,W])) (by kernel_rfl) (qC.ok Y) (bV [(0,.slice M a aA),(1,.slice aM aL aK),(5,.int .i64 d),(6,.slice bG f bI)] ⟨b,c,e,h,trivial⟩ (by kernel_rfl) g)
theorem wD.ok(Y:aF)(X:Fr)(Z:U)(g:cF.g Y X Z):den prog E (a6 aO [W,aJ,W,W,W]) (bC E [.tmp 4] Y) X Z:=
 fP (by kernel_rfl) (bM.ok Y) (cF.ok Y X Z g)
def a5.t(Y:aF)(M:S)(a aA:Nat)(aM:S)(aL aK:Nat)(Z:U):Prop:=
 bB (IntKind.i64.wrap ((((a:Nat):Int)) - (((aL:Nat):Int)))) fun eF=>
 iS Z 35 j6 eF eF fun e7 b=>
 cF.t Y M a aA aM aL aK (((aL:Nat):Int)) (some e7) eF.toNat eF.toNat b
def a5.g(Y:aF)(X:Fr)(Z:U):Prop:=aR (X 0) fun M a aA=>aR (X 1) fun aM aL aK=>a5.t Y M a aA aM aL aK Z
theorem a5.ok(Y:aF)(X:Fr)(Z:U)(g:a5.g Y X Z):den prog E (a6 aO [W,aJ]) (bC E [.tmp 4] Y) X Z:=
 bF g fun M a aA b g=>bF g fun aM aL aK c g=>c5 3 (r:=(a6 aO [W,aJ,W,W,W])) (by kernel_rfl) (wD.ok Y) (bV [(0,.slice M a aA),(1,.slice aM aL aK)] ⟨b,c,trivial⟩ (by kernel_rfl) g)
theorem DW.ok(Y:aF)(X:Fr)(Z:U)(g:a5.g Y X Z):den prog E (a6 aO [W]) (bC E [.tmp 4] Y) X Z:=
 Jw (by kernel_rfl) (a5.ok Y X Z g)
def aP.t(Y:aF)(M:S)(a aA:Nat)(aM:S)(aL aK:Nat)(Z:U):Prop:=
 a5.t Y M a aA aM aL aK Z
def aP.g(Y:aF)(X:Fr)(Z:U):Prop:=aR (X 0) fun M a aA=>aR (X 1) fun aM aL aK=>aP.t Y M a aA aM aL aK Z
theorem aP.ok(Y:aF)(X:Fr)(Z:U)(g:aP.g Y X Z):den prog E aO (bC E [.tmp 4] Y) X Z:=
 bF g fun M a aA b g=>bF g fun aM aL aK c g=>c5 1 (r:=(a6 aO [W])) (by kernel_rfl) (DW.ok Y) (bV [(0,.slice M a aA),(1,.slice aM aL aK)] ⟨b,c,trivial⟩ (by kernel_rfl) g)
def t(M:S)(a aA:Nat)(aM:S)(aL aK:Nat)(Z:U)(Y:aF):Prop:=aP.t Y M a aA aM aL aK Z
theorem ok{M:S}{a:Nat}{aA:Nat}{aM:S}{aL:Nat}{aK:Nat}{Z:U}{Y:aF}(g:t M a aA aM aL aK Z Y):a4 id #[.slice M a aA,.slice aM aL aK] Z Y:=
 eD dT (c:=aO) (dH:=[.tmp 4]) Tryz.func111 (by kernel_rfl) (by kernel_rfl) (by kernel_rfl) (args:=[.slice M a aA,.slice aM aL aK]) (by kernel_rfl) (aP.ok Y _ Z (bL rfl (bL rfl (g))))
end jQ
namespace rQ
noncomputable def aO:Code:=dY Tryz.f113
def a5.t(Y:aF)(M:S)(a aA:Nat)(aM:S)(aL aK:Nat)(bO:S)(b3 bN:Nat)(Z:U):Prop:=
 cond (decide ((((b3:Nat):Int)) < 40)) (a4 kL.id #[.slice M a aA,.slice aM aL aK,.slice bO b3 bN] Z fun b c=>
 cW b fun b=>
 b9 b <| Y (.tuple #[]) c) (bB (IntKind.i64.wrap (2*(((b3:Nat):Int)))) fun b=>
 cond (decide ((((aL:Nat):Int))≥b)) (a4 o9.id #[.slice M a aA,.slice aM aL aK,.slice bO b3 bN] Z fun b c=>
 cW b fun b=>
 b9 b <| Y (.tuple #[]) c) (a4 vJ.id #[.slice M a aA,.slice aM aL aK,.slice bO b3 bN] Z fun a b=>
 cW a fun a=>
 b9 a <| Y (.tuple #[]) b))
def a5.g(Y:aF)(X:Fr)(Z:U):Prop:=aR (X 0) fun M a aA=>aR (X 1) fun aM aL aK=>aR (X 2) fun bO b3 bN=>a5.t Y M a aA aM aL aK bO b3 bN Z
theorem a5.ok(Y:aF)(X:Fr)(Z:U)(g:a5.g Y X Z):den prog E (a6 aO [W]) (bC E [] Y) X Z:=
 bF g fun M a aA b g=>bF g fun aM aL aK c g=>bF g fun bO b3 bN d g=>bV [(0,.slice M a aA),(1,.slice aM aL aK),(2,.slice bO b3 bN)] ⟨b,c,d,trivial⟩ (by kernel_rfl) g
def aP.t(Y:aF)(M:S)(a aA:Nat)(aM:S)(aL aK:Nat)(bO:S)(b3 bN:Nat)(Z:U):Prop:=
 cond (decide ((((aL:Nat):Int)) < (((b3:Nat):Int)))) (a5.t Y M a aA bO b3 bN aM aL aK Z) (a5.t Y M a aA aM aL aK bO b3 bN Z)
def aP.g(Y:aF)(X:Fr)(Z:U):Prop:=aR (X 0) fun M a aA=>aR (X 1) fun aM aL aK=>aR (X 2) fun bO b3 bN=>aP.t Y M a aA aM aL aK bO b3 bN Z
theorem aP.ok(Y:aF)(X:Fr)(Z:U)(g:aP.g Y X Z):den prog E aO (bC E [] Y) X Z:=
 bF g fun M a aA b g=>bF g fun aM aL aK c g=>bF g fun bO b3 bN d g=>c5 1 (r:=(a6 aO [W])) (by kernel_rfl) (a5.ok Y) (bV [(0,.slice M a aA),(1,.slice aM aL aK),(2,.slice bO b3 bN)] ⟨b,c,d,trivial⟩ (by kernel_rfl) g)
def t(M:S)(a aA:Nat)(aM:S)(aL aK:Nat)(bO:S)(b3 bN:Nat)(Z:U)(Y:aF):Prop:=aP.t Y M a aA aM aL aK bO b3 bN Z
theorem ok{M:S}{a:Nat}{aA:Nat}{aM:S}{aL:Nat}{aK:Nat}{bO:S}{b3:Nat}{bN:Nat}{Z:U}{Y:aF}(g:t M a aA aM aL aK bO b3 bN Z Y):a4 id #[.slice M a aA,.slice aM aL aK,.slice bO b3 bN] Z Y:=
 eD dT (c:=aO) (dH:=[]) Tryz.func113 (by kernel_rfl) (by kernel_rfl) (by kernel_rfl) (args:=[.slice M a aA,.slice aM aL aK,.slice bO b3 bN]) (by kernel_rfl) (aP.ok Y _ Z (bL rfl (bL rfl (bL rfl (g)))))
end rQ
namespace m1
noncomputable def aO:Code:=dY Tryz.f114
def a5.t(Y:aF)(M:S)(a aA:Nat)(b:Int)(Z:U):Prop:=
 iR 1 M a aA none (some (.int .i64 b)) (some (.int .i64 b)) fun a b c=>Y (.slice a b c) Z
def a5.g(Y:aF)(X:Fr)(Z:U):Prop:=aR (X 0) fun M a aA=>a0 .i64 (X 3) fun b=>a5.t Y M a aA b Z
theorem a5.ok(Y:aF)(X:Fr)(Z:U)(g:a5.g Y X Z):den prog E (a6 aO [W,W,W]) (bC E [.tmp 2] Y) X Z:=
 bF g fun M a aA b g=>bJ g fun c d g=>bV [(0,.slice M a aA),(3,.int .i64 c)] ⟨b,d,trivial⟩ (by kernel_rfl) g
def cP.g(bP:S→Nat→Nat→Int→U→Prop)(X:Fr)(Z:U):Prop:=aR (X 0) fun M a aA=>a0 .i64 (X 3) fun b=>bP M a aA b Z
def cF.t(Y:aF)(a:S→Nat→Nat→Int→U→Prop)(M:S)(b aA:Nat)(c:Int)(Z:U):Prop:=
 cond (decide (c > 0)) (bB (IntKind.i64.wrap (c - 1)) fun d=>
 c6 M b d 1 fun d=>
 eO Z .u64 d fun d=>
 cond (d == 0) (bB (IntKind.i64.wrap (c - 1)) fun d=>
 a M b aA d Z) (a5.t Y M b aA c Z)) (a5.t Y M b aA c Z)
def cF.g(Y:aF)(a:S→Nat→Nat→Int→U→Prop)(X:Fr)(Z:U):Prop:=aR (X 0) fun M b aA=>a0 .i64 (X 3) fun c=>cF.t Y a M b aA c Z
theorem cF.ok(Y:aF)(a:S→Nat→Nat→Int→U→Prop)(X:Fr)(Z:U)(g:cF.g Y a X Z):den prog E (a6 aO [W,W,aJ,aJ,aJ]) (aV.then (cP.g a) (aV.inBlock 0 (aV.then (a5.g Y) (bC E [.tmp 2] Y)))) X Z:=
 bF g fun M a aA b g=>bJ g fun c d g=>bV [(0,.slice M a aA),(3,.int .i64 c)] ⟨b,d,trivial⟩ (by kernel_rfl) g
def cP.t(Y:aF):Nat→S→Nat→Nat→Int→U→Prop
 | 0=>fun _ _ _ _ _=>False
 | n+1=>fun M a aA b Z=>cF.t Y (cP.t Y n) M a aA b Z
theorem cP.ok(Y:aF)(X:Fr)(Z:U)(g:cP.g (fun M a aA b Z=>∃ n,cP.t Y n M a aA b Z) X Z):den prog E (a6 aO [W,W,aJ,aJ]) (aV.inBlock 0 (aV.then (a5.g Y) (bC E [.tmp 2] Y))) X Z:=by
 obtain⟨M,a,aA,c,g⟩:=b2 g
 obtain⟨b,d,g⟩:=bT g
 obtain⟨n,g⟩:=g
 refine fF (fun n=>cP.g (cP.t Y n)) (K:=(a6 aO [W,W,aJ,aJ,aJ])) (by kernel_rfl) (fun X Z g=>?_) (fun n=>cF.ok Y (cP.t Y n)) n X Z (bL c (b0 d (g)))
 obtain⟨M,a,aA,c,g⟩:=b2 g
 obtain⟨b,d,g⟩:=bT g
 exact g
theorem hV.ok(Y:aF)(X:Fr)(Z:U)(g:cP.g (fun M a aA b Z=>∃ n,cP.t Y n M a aA b Z) X Z):den prog E (a6 aO [W,W,aJ]) (aV.then (a5.g Y) (bC E [.tmp 2] Y)) X Z:=
 e3 (by kernel_rfl) (cP.ok Y X Z g)
theorem sI.ok(Y:aF)(X:Fr)(Z:U)(g:cP.g (fun M a aA b Z=>∃ n,cP.t Y n M a aA b Z) X Z):den prog E (a6 aO [W,W]) (bC E [.tmp 2] Y) X Z:=
 fP (by kernel_rfl) (a5.ok Y) (hV.ok Y X Z g)
def aP.t(Y:aF)(M:S)(a aA:Nat)(Z:U):Prop:=
 (∃ n,cP.t Y n M a aA (((a:Nat):Int)) Z)
def aP.g(Y:aF)(X:Fr)(Z:U):Prop:=aR (X 0) fun M a aA=>aP.t Y M a aA Z
theorem aP.ok(Y:aF)(X:Fr)(Z:U)(g:aP.g Y X Z):den prog E aO (bC E [.tmp 2] Y) X Z:=
 bF g fun M a aA b g=>c5 2 (r:=(a6 aO [W,W])) (by kernel_rfl) (sI.ok Y) (bV [(0,.slice M a aA)] ⟨b,trivial⟩ (by kernel_rfl) g)
def t(M:S)(a aA:Nat)(Z:U)(Y:aF):Prop:=aP.t Y M a aA Z
theorem ok{M:S}{a:Nat}{aA:Nat}{Z:U}{Y:aF}(g:t M a aA Z Y):a4 id #[.slice M a aA] Z Y:=
 eD dT (c:=aO) (dH:=[.tmp 2]) Tryz.func114 (by kernel_rfl) (by kernel_rfl) (by kernel_rfl) (args:=[.slice M a aA]) (by kernel_rfl) (aP.ok Y _ Z (bL rfl (g)))
end m1
namespace pB
noncomputable def aO:Code:=dY Tryz.f115
def a5.t(Y:aF)(a eH b:Addr)(bG:S)(c bI:Nat)(bX:S)(d bY:Nat)(Z:U):Prop:=
 a4 gN.id #[.int .u64 1] Z fun e f=>
 aR e fun e g h=>
 (e4 Z.size Z f)∧a4 g0.id #[.slice bG c bI,.slice e g h] f fun c e=>
 aR c fun c g h=>
 (e4 Z.size f e)∧a4 gE.id #[.bool true,.slice c g h] e fun c f=>
 eQ c fun c=>
 fT c fun c g=>
 cU g fun g h i j=>
 b9 j <| (e4 Z.size e f)∧(a.add 1).block < Z.size∧dQ f (a.add 1) fun a e j=>
 a4 hE.id #[.slice a e j,.slice bX d bY] f fun a d=>
 aR a fun a e j=>
 (e4 Z.size f d)∧a4 gE.id #[.bool false,.slice a e j] d fun a e=>
 eQ a fun a=>
 fT a fun a f=>
 cU f fun f j k l=>
 b9 l <| (e4 Z.size d e)∧cM e (eH.add 0) (.bool c) fun c=>
 cM c (eH.add 1) (.slice g h i) fun c=>
 cM c (b.add 0) (.bool a) fun a=>
 cM a (b.add 1) (.slice f j k) fun a=>
 eT a (eH.add 0) fun c=>
 dQ a (eH.add 1) fun d e f=>
 eT a (b.add 0) fun g=>
 dQ a (b.add 1) fun b h i=>
 Y (.tuple #[.agg #[.bool c,.slice d e f],.agg #[.bool g,.slice b h i]]) a
def a5.g(Y:aF)(X:Fr)(Z:U):Prop:=gW (X 3) fun a=>gW (X 4) fun eH=>gW (X 5) fun b=>aR (X 6) fun bG c bI=>aR (X 7) fun bX d bY=>a5.t Y a eH b bG c bI bX d bY Z
theorem a5.ok(Y:aF)(X:Fr)(Z:U)(g:a5.g Y X Z):den prog E (a6 aO [W,W,W,W]) (bC E [.cell 4 82,.cell 5 82] Y) X Z:=
 iE g fun a b g=>iE g fun eH c g=>iE g fun d e g=>bF g fun bG f bI h g=>bF g fun bX i bY j g=>bV [(3,.pointer (some a)),(4,.pointer (some eH)),(5,.pointer (some d)),(6,.slice bG f bI),(7,.slice bX i bY)] ⟨b,c,e,h,j,trivial⟩ (by kernel_rfl) g
def aP.t(Y:aF)(a:Bool)(b:S)(c d:Nat)(e:Bool)(f:S)(g h:Nat)(Z:U):Prop:=
 dX Z 82 [.bool a,.slice b c d] fun cQ a=>
 dX a 82 [.bool e,.slice f g h] fun a b=>
 dX b 82 iI.a9 fun b c=>
 dX c 82 iI.a9 fun c d=>
 eT d (a.add 0) fun e=>
 dQ d (a.add 1) fun f g h=>
 a4 lD.id #[.agg #[.bool e,.slice f g h]] d fun d e=>
 a0 .i64 d fun d=>
 cond (decide (d≤0)) (cM e (b.add 0) (.bool false) fun d=>
 cM d (b.add 1) (.slice none 0 0) fun d=>
 cM d (c.add 0) (.bool false) fun d=>
 cM d (c.add 1) (.slice none 0 0) fun d=>
 eT d (b.add 0) fun f=>
 dQ d (b.add 1) fun g h i=>
 eT d (c.add 0) fun j=>
 dQ d (c.add 1) fun k l m=>
 Y (.tuple #[.agg #[.bool f,.slice g h i],.agg #[.bool j,.slice k l m]]) d) (dQ e (cQ.add 1) fun d f g=>
 dQ e (a.add 1) fun h i j=>
 a4 hY.id #[.slice d f g,.slice h i j] e fun d e=>
 cW d fun d=>
 cU d fun d f g h=>
 cU h fun h i j k=>
 b9 k <| eT e (cQ.add 0) fun k=>
 cond (!k) (eT e (cQ.add 0) fun k=>
 a4 gE.id #[.bool k,.slice d f g] e fun k l=>
 eQ k fun k=>
 fT k fun k m=>
 cU m fun m n o p=>
 b9 p <| a4 gE.id #[.bool false,.slice h i j] l fun l p=>
 eQ l fun l=>
 fT l fun l q=>
 cU q fun q r s u=>
 b9 u <| cM p (b.add 0) (.bool k) fun k=>
 cM k (b.add 1) (.slice m n o) fun k=>
 cM k (c.add 0) (.bool l) fun k=>
 cM k (c.add 1) (.slice q r s) fun k=>
 eT k (b.add 0) fun l=>
 dQ k (b.add 1) fun m n o=>
 eT k (c.add 0) fun p=>
 dQ k (c.add 1) fun q r s=>
 Y (.tuple #[.agg #[.bool l,.slice m n o],.agg #[.bool p,.slice q r s]]) k) (cond ((((i:Nat):Int)) == 0) (eT e (cQ.add 0) fun k=>
 a4 gE.id #[.bool k,.slice d f g] e fun k l=>
 eQ k fun k=>
 fT k fun k m=>
 cU m fun m n o p=>
 b9 p <| a4 gE.id #[.bool false,.slice h i j] l fun l p=>
 eQ l fun l=>
 fT l fun l q=>
 cU q fun q r s u=>
 b9 u <| cM p (b.add 0) (.bool k) fun k=>
 cM k (b.add 1) (.slice m n o) fun k=>
 cM k (c.add 0) (.bool l) fun k=>
 cM k (c.add 1) (.slice q r s) fun k=>
 eT k (b.add 0) fun l=>
 dQ k (b.add 1) fun m n o=>
 eT k (c.add 0) fun p=>
 dQ k (c.add 1) fun q r s=>
 Y (.tuple #[.agg #[.bool l,.slice m n o],.agg #[.bool p,.slice q r s]]) k) (a5.t Y a b c d f g h i j e)))
def aP.g(Y:aF)(X:Fr)(Z:U):Prop:=eQ (X 0) fun a=>cV a fun a b=>eU a fun a=>cV b fun b c=>aR b fun b d e=>b9 c <| eQ (X 1) fun c=>cV c fun c f=>eU c fun c=>cV f fun f h=>aR f fun f i j=>b9 h <| aP.t Y a b d e c f i j Z
theorem aP.ok(Y:aF)(X:Fr)(Z:U)(g:aP.g Y X Z):den prog E aO (bC E [.cell 4 82,.cell 5 82] Y) X Z:=by
 obtain⟨w,a,b⟩:=j4 g
 obtain⟨x,y,rfl,c⟩:=gG b
 obtain⟨d,rfl,e⟩:=jH c
 obtain⟨z,A,rfl,f⟩:=gG e
 obtain⟨h,i,j,rfl,k⟩:=b2 f
 obtain⟨rfl,g⟩:=iT k
 obtain⟨B,l,m⟩:=j4 g
 obtain⟨C,D,rfl,n⟩:=gG m
 obtain⟨o,rfl,p⟩:=jH n
 obtain⟨F,G,rfl,q⟩:=gG p
 obtain⟨s,t,u,rfl,v⟩:=b2 q
 obtain⟨rfl,g⟩:=iT v
 exact c5 4 (r:=(a6 aO [W,W,W,W])) (by kernel_rfl) (a5.ok Y) (bV [(0,.agg #[.bool d,.slice h i j]),(1,.agg #[.bool o,.slice s t u])] ⟨a,l,trivial⟩ (by kernel_rfl) g)
def t(a:Bool)(b:S)(c d:Nat)(e:Bool)(f:S)(g h:Nat)(Z:U)(Y:aF):Prop:=aP.t Y a b c d e f g h Z
theorem ok{a:Bool}{b:S}{d:Nat}{e:Nat}{f:Bool}{h:S}{i:Nat}{j:Nat}{Z:U}{Y:aF}(g:t a b d e f h i j Z Y):a4 id #[.agg #[.bool a,.slice b d e],.agg #[.bool f,.slice h i j]] Z Y:=
 eD dT (c:=aO) (dH:=[.cell 4 82,.cell 5 82]) Tryz.func115 (by kernel_rfl) (by kernel_rfl) (by kernel_rfl) (args:=[.agg #[.bool a,.slice b d e],.agg #[.bool f,.slice h i j]]) (by kernel_rfl) (aP.ok Y _ Z (fH rfl (cS (dB rfl (cS (bL rfl (eG (fH rfl (cS (dB rfl (cS (bL rfl (eG (g))))))))))))))
end pB
namespace pC
noncomputable def aO:Code:=dY Tryz.f116
def aP.t(Y:aF)(a:Bool)(b:S)(c d:Nat)(Z:U):Prop:=
 dX Z 82 [.bool a,.slice b c d] fun cQ a=>
 dQ a (cQ.add 1) fun b c d=>
 a4 pU.id #[.slice b c d,.int .i64 0] a fun a b=>
 a0 .i64 a fun a=>
 Y (.bool (a == 0)) b
def aP.g(Y:aF)(X:Fr)(Z:U):Prop:=eQ (X 0) fun a=>cV a fun a b=>eU a fun a=>cV b fun b c=>aR b fun b d e=>b9 c <| aP.t Y a b d e Z
theorem aP.ok(Y:aF)(X:Fr)(Z:U)(g:aP.g Y X Z):den prog E aO (bC E [.tmp 2] Y) X Z:=by
 obtain⟨l,a,b⟩:=j4 g
 obtain⟨m,n,rfl,c⟩:=gG b
 obtain⟨d,rfl,e⟩:=jH c
 obtain⟨o,p,rfl,f⟩:=gG e
 obtain⟨h,i,j,rfl,k⟩:=b2 f
 obtain⟨rfl,g⟩:=iT k
 exact bV [(0,.agg #[.bool d,.slice h i j])] ⟨a,trivial⟩ (by kernel_rfl) g
def t(a:Bool)(b:S)(c d:Nat)(Z:U)(Y:aF):Prop:=aP.t Y a b c d Z
theorem ok{a:Bool}{b:S}{d:Nat}{e:Nat}{Z:U}{Y:aF}(g:t a b d e Z Y):a4 id #[.agg #[.bool a,.slice b d e]] Z Y:=
 eD dT (c:=aO) (dH:=[.tmp 2]) Tryz.func116 (by kernel_rfl) (by kernel_rfl) (by kernel_rfl) (args:=[.agg #[.bool a,.slice b d e]]) (by kernel_rfl) (aP.ok Y _ Z (fH rfl (cS (dB rfl (cS (bL rfl (eG (g))))))))
end pC
namespace rV
noncomputable def aO:Code:=dY Tryz.f117
def aP.t(Y:aF)(M:S)(a aA:Nat)(aS:Int)(Z:U):Prop:=
 cond (decide (aS < 4294967296)) (bB (IntKind.u64.wrap (aS*aS)) fun eF=>
 a4 kW.id #[.slice M a aA,.int .u64 eF] Z fun b c=>
 cW b fun b=>
 cU b fun b d e f=>
 dP f .u64 fun f f=>
 dP f .i64 fun f f=>
 b9 f <| Y (.slice b d e) c) (a4 kW.id #[.slice M a aA,.int .u64 aS] Z fun a b=>
 cW a fun a=>
 cU a fun a c d e=>
 dP e .u64 fun e e=>
 dP e .i64 fun e e=>
 b9 e <| a4 kW.id #[.slice a c d,.int .u64 aS] b fun a b=>
 cW a fun a=>
 cU a fun a c d e=>
 dP e .u64 fun e e=>
 dP e .i64 fun e e=>
 b9 e <| Y (.slice a c d) b)
def aP.g(Y:aF)(X:Fr)(Z:U):Prop:=aR (X 0) fun M a aA=>a0 .u64 (X 1) fun aS=>aP.t Y M a aA aS Z
theorem aP.ok(Y:aF)(X:Fr)(Z:U)(g:aP.g Y X Z):den prog E aO (bC E [.tmp 4] Y) X Z:=
 bF g fun M a aA b g=>bJ g fun aS c g=>bV [(0,.slice M a aA),(1,.int .u64 aS)] ⟨b,c,trivial⟩ (by kernel_rfl) g
def t(M:S)(a aA:Nat)(aS:Int)(Z:U)(Y:aF):Prop:=aP.t Y M a aA aS Z
theorem ok{M:S}{a:Nat}{aA:Nat}{aS:Int}{Z:U}{Y:aF}(g:t M a aA aS Z Y):a4 id #[.slice M a aA,.int .u64 aS] Z Y:=
 eD dT (c:=aO) (dH:=[.tmp 4]) Tryz.func117 (by kernel_rfl) (by kernel_rfl) (by kernel_rfl) (args:=[.slice M a aA,.int .u64 aS]) (by kernel_rfl) (aP.ok Y _ Z (bL rfl (b0 rfl (g))))
end rV
namespace hF
noncomputable def aO:Code:=dY Tryz.f118
def cH.t(Y:aF)(a b:Int)(c d:Int)(e f:Int)(Z:U):Prop:=
 bB (IntKind.u64.wrap (d*4294967296)) fun d=>
 bB (IntKind.u64.wrap (d+f)) fun d=>
 bB (IntKind.u64.wrap (e*4294967296)) fun e=>
 bB (IntKind.u64.wrap (e+c)) fun c=>
 bB (IntKind.u64.wrap (f*a)) fun a=>
 bB (IntKind.u64.wrap (c - a)) fun a=>
 0≤b∧bB (hG .u64 a b) fun a=>
 Y (.tuple #[.int .u64 d,.int .u64 a]) Z
def cH.g(Y:aF)(X:Fr)(Z:U):Prop:=a0 .u64 (X 2) fun a=>a0 .u64 (X 8) fun b=>a0 .u64 (X 14) fun c=>a0 .u64 (X 15) fun d=>a0 .u64 (X 17) fun e=>a0 .u64 (X 18) fun f=>cH.t Y a b c d e f Z
theorem cH.ok(Y:aF)(X:Fr)(Z:U)(g:cH.g Y X Z):den prog E (a6 aO [W,W,W,W,W,W,W,W,W,W,W,W,W,W,W,W,W,W,W]) (bC E [.tmp 6,.tmp 7] Y) X Z:=
 bJ g fun a b g=>bJ g fun c d g=>bJ g fun e f g=>bJ g fun h i g=>bJ g fun j k g=>bJ g fun l m g=>bV [(2,.int .u64 a),(8,.int .u64 c),(14,.int .u64 e),(15,.int .u64 h),(17,.int .u64 j),(18,.int .u64 l)] ⟨b,d,f,i,k,m,trivial⟩ (by kernel_rfl) g
def g8.g(bP:Int→Int→Int→Int→Int→Int→Int→Int→Int→U→Prop)(X:Fr)(Z:U):Prop:=a0 .u64 (X 2) fun a=>a0 .u64 (X 8) fun b=>a0 .u64 (X 9) fun c=>a0 .u64 (X 10) fun d=>a0 .u64 (X 14) fun e=>a0 .u64 (X 15) fun f=>a0 .u64 (X 16) fun h=>a0 .u64 (X 17) fun i=>a0 .u64 (X 18) fun j=>bP a b c d e f h i j Z
def eZ.t(Y:aF)(a:Int→Int→Int→Int→Int→Int→Int→Int→Int→U→Prop)(b c:Int)(d e:Int)(f g:Int)(h i j:Int)(Z:U):Prop:=
 bB (IntKind.u64.wrap (j - 1)) fun j=>
 bB (IntKind.u64.wrap (h+d)) fun h=>
 cond (decide (h≥4294967296)) (cH.t Y b c f g i j Z) (a b c d e f g h i j Z)
def eZ.g(Y:aF)(a:Int→Int→Int→Int→Int→Int→Int→Int→Int→U→Prop)(X:Fr)(Z:U):Prop:=a0 .u64 (X 2) fun b=>a0 .u64 (X 8) fun c=>a0 .u64 (X 9) fun d=>a0 .u64 (X 10) fun e=>a0 .u64 (X 14) fun f=>a0 .u64 (X 15) fun h=>a0 .u64 (X 16) fun i=>a0 .u64 (X 17) fun j=>a0 .u64 (X 18) fun k=>eZ.t Y a b c d e f h i j k Z
theorem eZ.ok(Y:aF)(a:Int→Int→Int→Int→Int→Int→Int→Int→Int→U→Prop)(X:Fr)(Z:U)(g:eZ.g Y a X Z):den prog E (a6 aO [W,W,W,W,W,W,W,W,W,W,W,W,W,W,W,W,W,W,aJ,aJ,aJ,W]) (aV.then (g8.g a) (aV.inBlock 2 (aV.then (cH.g Y) (bC E [.tmp 6,.tmp 7] Y)))) X Z:=
 bJ g fun a b g=>bJ g fun c d g=>bJ g fun e f g=>bJ g fun h i g=>bJ g fun j k g=>bJ g fun l m g=>bJ g fun n o g=>bJ g fun p q g=>bJ g fun r s g=>bV [(2,.int .u64 a),(8,.int .u64 c),(9,.int .u64 e),(10,.int .u64 h),(14,.int .u64 j),(15,.int .u64 l),(16,.int .u64 n),(17,.int .u64 p),(18,.int .u64 r)] ⟨b,d,f,i,k,m,o,q,s,trivial⟩ (by kernel_rfl) g
def eX.t(Y:aF)(a:Int→Int→Int→Int→Int→Int→Int→Int→Int→U→Prop)(b c:Int)(d e:Int)(f g:Int)(h i j:Int)(Z:U):Prop:=
 cond (decide (j≥4294967296)) (eZ.t Y a b c d e f g h i j Z) (bB (IntKind.u64.wrap (j*e)) fun k=>
 bB (IntKind.u64.wrap (4294967296*h)) fun l=>
 bB (IntKind.u64.wrap (l+f)) fun l=>
 cond (decide (k > l)) (eZ.t Y a b c d e f g h i j Z) (cH.t Y b c f g i j Z))
def eX.g(Y:aF)(a:Int→Int→Int→Int→Int→Int→Int→Int→Int→U→Prop)(X:Fr)(Z:U):Prop:=a0 .u64 (X 2) fun b=>a0 .u64 (X 8) fun c=>a0 .u64 (X 9) fun d=>a0 .u64 (X 10) fun e=>a0 .u64 (X 14) fun f=>a0 .u64 (X 15) fun h=>a0 .u64 (X 16) fun i=>a0 .u64 (X 17) fun j=>a0 .u64 (X 18) fun k=>eX.t Y a b c d e f h i j k Z
theorem eX.ok(Y:aF)(a:Int→Int→Int→Int→Int→Int→Int→Int→Int→U→Prop)(X:Fr)(Z:U)(g:eX.g Y a X Z):den prog E (a6 aO [W,W,W,W,W,W,W,W,W,W,W,W,W,W,W,W,W,W,aJ,aJ,aJ]) (aV.then (g8.g a) (aV.inBlock 2 (aV.then (cH.g Y) (bC E [.tmp 6,.tmp 7] Y)))) X Z:=
 bJ g fun b c g=>bJ g fun d e g=>bJ g fun f h g=>bJ g fun i j g=>bJ g fun k l g=>bJ g fun m n g=>bJ g fun o p g=>bJ g fun q s g=>bJ g fun t u g=>c5 1 (r:=(a6 aO [W,W,W,W,W,W,W,W,W,W,W,W,W,W,W,W,W,W,aJ,aJ,aJ,W])) (by kernel_rfl) (eZ.ok Y a) (bV [(2,.int .u64 b),(8,.int .u64 d),(9,.int .u64 f),(10,.int .u64 i),(14,.int .u64 k),(15,.int .u64 m),(16,.int .u64 o),(17,.int .u64 q),(18,.int .u64 t)] ⟨c,e,h,j,l,n,p,s,u,trivial⟩ (by kernel_rfl) g)
def g8.t(Y:aF):Nat→Int→Int→Int→Int→Int→Int→Int→Int→Int→U→Prop
 | 0=>fun _ _ _ _ _ _ _ _ _ _=>False
 | n+1=>fun a b c d e f g h i Z=>eX.t Y (g8.t Y n) a b c d e f g h i Z
theorem g8.ok(Y:aF)(X:Fr)(Z:U)(g:g8.g (fun a b c d e f h i j Z=>∃ n,g8.t Y n a b c d e f h i j Z) X Z):den prog E (a6 aO [W,W,W,W,W,W,W,W,W,W,W,W,W,W,W,W,W,W,aJ,aJ]) (aV.inBlock 2 (aV.then (cH.g Y) (bC E [.tmp 6,.tmp 7] Y))) X Z:=by
 obtain⟨a,k,g⟩:=bT g
 obtain⟨b,l,g⟩:=bT g
 obtain⟨c,m,g⟩:=bT g
 obtain⟨d,o,g⟩:=bT g
 obtain⟨e,p,g⟩:=bT g
 obtain⟨f,q,g⟩:=bT g
 obtain⟨h,r,g⟩:=bT g
 obtain⟨i,s,g⟩:=bT g
 obtain⟨j,u,g⟩:=bT g
 obtain⟨n,g⟩:=g
 refine fF (fun n=>g8.g (g8.t Y n)) (K:=(a6 aO [W,W,W,W,W,W,W,W,W,W,W,W,W,W,W,W,W,W,aJ,aJ,aJ])) (by kernel_rfl) (fun X Z g=>?_) (fun n=>eX.ok Y (g8.t Y n)) n X Z (b0 k (b0 l (b0 m (b0 o (b0 p (b0 q (b0 r (b0 s (b0 u (g))))))))))
 obtain⟨a,k,g⟩:=bT g
 obtain⟨b,l,g⟩:=bT g
 obtain⟨c,m,g⟩:=bT g
 obtain⟨d,o,g⟩:=bT g
 obtain⟨e,p,g⟩:=bT g
 obtain⟨f,q,g⟩:=bT g
 obtain⟨h,r,g⟩:=bT g
 obtain⟨i,s,g⟩:=bT g
 obtain⟨j,u,g⟩:=bT g
 exact g
theorem z5.ok(Y:aF)(X:Fr)(Z:U)(g:g8.g (fun a b c d e f h i j Z=>∃ n,g8.t Y n a b c d e f h i j Z) X Z):den prog E (a6 aO [W,W,W,W,W,W,W,W,W,W,W,W,W,W,W,W,W,W,aJ]) (aV.then (cH.g Y) (bC E [.tmp 6,.tmp 7] Y)) X Z:=
 e3 (by kernel_rfl) (g8.ok Y X Z g)
theorem z6.ok(Y:aF)(X:Fr)(Z:U)(g:g8.g (fun a b c d e f h i j Z=>∃ n,g8.t Y n a b c d e f h i j Z) X Z):den prog E (a6 aO [W,W,W,W,W,W,W,W,W,W,W,W,W,W,W,W,W,W]) (bC E [.tmp 6,.tmp 7] Y) X Z:=
 fP (by kernel_rfl) (cH.ok Y) (z5.ok Y X Z g)
def cF.t(Y:aF)(a b:Int)(c d:Int)(e f:Int)(g h:Int)(Z:U):Prop:=
 bB (IntKind.u64.wrap (e*4294967296)) fun e=>
 bB (IntKind.u64.wrap (e+f)) fun e=>
 bB (IntKind.u64.wrap (h*a)) fun f=>
 bB (IntKind.u64.wrap (e - f)) fun e=>
 c ≠ 0∧bB (IntKind.u64.wrap (Int.tdiv e c)) fun f=>
 bB (IntKind.u64.wrap (f*c)) fun i=>
 bB (IntKind.u64.wrap (e - i)) fun i=>
 (∃ n,g8.t Y n a b c d g h i e f Z)
def cF.g(Y:aF)(X:Fr)(Z:U):Prop:=a0 .u64 (X 2) fun a=>a0 .u64 (X 8) fun b=>a0 .u64 (X 9) fun c=>a0 .u64 (X 10) fun d=>a0 .u64 (X 11) fun e=>a0 .u64 (X 13) fun f=>a0 .u64 (X 14) fun h=>a0 .u64 (X 15) fun i=>cF.t Y a b c d e f h i Z
theorem cF.ok(Y:aF)(X:Fr)(Z:U)(g:cF.g Y X Z):den prog E (a6 aO [W,W,W,W,W,W,W,W,W,W,W,W,W,W,W]) (bC E [.tmp 6,.tmp 7] Y) X Z:=
 bJ g fun a b g=>bJ g fun c d g=>bJ g fun e f g=>bJ g fun h i g=>bJ g fun j k g=>bJ g fun l m g=>bJ g fun n o g=>bJ g fun p q g=>c5 3 (r:=(a6 aO [W,W,W,W,W,W,W,W,W,W,W,W,W,W,W,W,W,W])) (by kernel_rfl) (z6.ok Y) (bV [(2,.int .u64 a),(8,.int .u64 c),(9,.int .u64 e),(10,.int .u64 h),(11,.int .u64 j),(13,.int .u64 l),(14,.int .u64 n),(15,.int .u64 p)] ⟨b,d,f,i,k,m,o,q,trivial⟩ (by kernel_rfl) g)
def kJ.g(bP:Int→Int→Int→Int→Int→Int→Int→Int→Int→U→Prop)(X:Fr)(Z:U):Prop:=a0 .u64 (X 2) fun a=>a0 .u64 (X 8) fun b=>a0 .u64 (X 9) fun c=>a0 .u64 (X 10) fun d=>a0 .u64 (X 11) fun e=>a0 .u64 (X 13) fun f=>a0 .u64 (X 14) fun h=>a0 .u64 (X 15) fun i=>a0 .u64 (X 16) fun j=>bP a b c d e f h i j Z
def pY.t(Y:aF)(a:Int→Int→Int→Int→Int→Int→Int→Int→Int→U→Prop)(b c:Int)(d e:Int)(f g:Int)(h i j:Int)(Z:U):Prop:=
 bB (IntKind.u64.wrap (i - 1)) fun i=>
 bB (IntKind.u64.wrap (j+d)) fun j=>
 cond (decide (j≥4294967296)) (cF.t Y b c d e f g h i Z) (a b c d e f g h i j Z)
def pY.g(Y:aF)(a:Int→Int→Int→Int→Int→Int→Int→Int→Int→U→Prop)(X:Fr)(Z:U):Prop:=a0 .u64 (X 2) fun b=>a0 .u64 (X 8) fun c=>a0 .u64 (X 9) fun d=>a0 .u64 (X 10) fun e=>a0 .u64 (X 11) fun f=>a0 .u64 (X 13) fun h=>a0 .u64 (X 14) fun i=>a0 .u64 (X 15) fun j=>a0 .u64 (X 16) fun k=>pY.t Y a b c d e f h i j k Z
theorem pY.ok(Y:aF)(a:Int→Int→Int→Int→Int→Int→Int→Int→Int→U→Prop)(X:Fr)(Z:U)(g:pY.g Y a X Z):den prog E (a6 aO [W,W,W,W,W,W,W,W,W,W,W,W,W,W,aJ,aJ,aJ,W]) (aV.then (kJ.g a) (aV.inBlock 0 (aV.then (cF.g Y) (bC E [.tmp 6,.tmp 7] Y)))) X Z:=
 bJ g fun a b g=>bJ g fun c d g=>bJ g fun e f g=>bJ g fun h i g=>bJ g fun j k g=>bJ g fun l m g=>bJ g fun n o g=>bJ g fun p q g=>bJ g fun r s g=>bV [(2,.int .u64 a),(8,.int .u64 c),(9,.int .u64 e),(10,.int .u64 h),(11,.int .u64 j),(13,.int .u64 l),(14,.int .u64 n),(15,.int .u64 p),(16,.int .u64 r)] ⟨b,d,f,i,k,m,o,q,s,trivial⟩ (by kernel_rfl) g
def s3.t(Y:aF)(a:Int→Int→Int→Int→Int→Int→Int→Int→Int→U→Prop)(b c:Int)(d e:Int)(f g:Int)(h i j:Int)(Z:U):Prop:=
 cond (decide (i≥4294967296)) (pY.t Y a b c d e f g h i j Z) (bB (IntKind.u64.wrap (i*e)) fun k=>
 bB (IntKind.u64.wrap (4294967296*j)) fun l=>
 bB (IntKind.u64.wrap (l+g)) fun l=>
 cond (decide (k > l)) (pY.t Y a b c d e f g h i j Z) (cF.t Y b c d e f g h i Z))
def s3.g(Y:aF)(a:Int→Int→Int→Int→Int→Int→Int→Int→Int→U→Prop)(X:Fr)(Z:U):Prop:=a0 .u64 (X 2) fun b=>a0 .u64 (X 8) fun c=>a0 .u64 (X 9) fun d=>a0 .u64 (X 10) fun e=>a0 .u64 (X 11) fun f=>a0 .u64 (X 13) fun h=>a0 .u64 (X 14) fun i=>a0 .u64 (X 15) fun j=>a0 .u64 (X 16) fun k=>s3.t Y a b c d e f h i j k Z
theorem s3.ok(Y:aF)(a:Int→Int→Int→Int→Int→Int→Int→Int→Int→U→Prop)(X:Fr)(Z:U)(g:s3.g Y a X Z):den prog E (a6 aO [W,W,W,W,W,W,W,W,W,W,W,W,W,W,aJ,aJ,aJ]) (aV.then (kJ.g a) (aV.inBlock 0 (aV.then (cF.g Y) (bC E [.tmp 6,.tmp 7] Y)))) X Z:=
 bJ g fun b c g=>bJ g fun d e g=>bJ g fun f h g=>bJ g fun i j g=>bJ g fun k l g=>bJ g fun m n g=>bJ g fun o p g=>bJ g fun q s g=>bJ g fun t u g=>c5 1 (r:=(a6 aO [W,W,W,W,W,W,W,W,W,W,W,W,W,W,aJ,aJ,aJ,W])) (by kernel_rfl) (pY.ok Y a) (bV [(2,.int .u64 b),(8,.int .u64 d),(9,.int .u64 f),(10,.int .u64 i),(11,.int .u64 k),(13,.int .u64 m),(14,.int .u64 o),(15,.int .u64 q),(16,.int .u64 t)] ⟨c,e,h,j,l,n,p,s,u,trivial⟩ (by kernel_rfl) g)
def kJ.t(Y:aF):Nat→Int→Int→Int→Int→Int→Int→Int→Int→Int→U→Prop
 | 0=>fun _ _ _ _ _ _ _ _ _ _=>False
 | n+1=>fun a b c d e f g h i Z=>s3.t Y (kJ.t Y n) a b c d e f g h i Z
theorem kJ.ok(Y:aF)(X:Fr)(Z:U)(g:kJ.g (fun a b c d e f h i j Z=>∃ n,kJ.t Y n a b c d e f h i j Z) X Z):den prog E (a6 aO [W,W,W,W,W,W,W,W,W,W,W,W,W,W,aJ,aJ]) (aV.inBlock 0 (aV.then (cF.g Y) (bC E [.tmp 6,.tmp 7] Y))) X Z:=by
 obtain⟨a,k,g⟩:=bT g
 obtain⟨b,l,g⟩:=bT g
 obtain⟨c,m,g⟩:=bT g
 obtain⟨d,o,g⟩:=bT g
 obtain⟨e,p,g⟩:=bT g
 obtain⟨f,q,g⟩:=bT g
 obtain⟨h,r,g⟩:=bT g
 obtain⟨i,s,g⟩:=bT g
 obtain⟨j,u,g⟩:=bT g
 obtain⟨n,g⟩:=g
 refine fF (fun n=>kJ.g (kJ.t Y n)) (K:=(a6 aO [W,W,W,W,W,W,W,W,W,W,W,W,W,W,aJ,aJ,aJ])) (by kernel_rfl) (fun X Z g=>?_) (fun n=>s3.ok Y (kJ.t Y n)) n X Z (b0 k (b0 l (b0 m (b0 o (b0 p (b0 q (b0 r (b0 s (b0 u (g))))))))))
 obtain⟨a,k,g⟩:=bT g
 obtain⟨b,l,g⟩:=bT g
 obtain⟨c,m,g⟩:=bT g
 obtain⟨d,o,g⟩:=bT g
 obtain⟨e,p,g⟩:=bT g
 obtain⟨f,q,g⟩:=bT g
 obtain⟨h,r,g⟩:=bT g
 obtain⟨i,s,g⟩:=bT g
 obtain⟨j,u,g⟩:=bT g
 exact g
theorem qC.ok(Y:aF)(X:Fr)(Z:U)(g:kJ.g (fun a b c d e f h i j Z=>∃ n,kJ.t Y n a b c d e f h i j Z) X Z):den prog E (a6 aO [W,W,W,W,W,W,W,W,W,W,W,W,W,W,aJ]) (aV.then (cF.g Y) (bC E [.tmp 6,.tmp 7] Y)) X Z:=
 e3 (by kernel_rfl) (kJ.ok Y X Z g)
theorem wD.ok(Y:aF)(X:Fr)(Z:U)(g:kJ.g (fun a b c d e f h i j Z=>∃ n,kJ.t Y n a b c d e f h i j Z) X Z):den prog E (a6 aO [W,W,W,W,W,W,W,W,W,W,W,W,W,W]) (bC E [.tmp 6,.tmp 7] Y) X Z:=
 fP (by kernel_rfl) (cF.ok Y) (qC.ok Y X Z g)
def bM.t(Y:aF)(aY aS a:Int)(Z:U):Prop:=
 cond (aY == 0) (a ≠ 0∧bB (IntKind.u64.wrap (Int.tdiv aS a)) fun eF=>
 a ≠ 0∧bB (Int.tmod aS a) fun b=>
 Y (.tuple #[.int .u64 eF,.int .u64 b]) Z) (a4 s0.id #[.int .u64 a] Z fun b c=>
 a0 .i64 b fun b=>
 bB (IntKind.u64.wrap b) fun b=>
 0≤b∧bB (iQ .u64 a b) fun a=>
 0≤(32:Int)∧bB (hG .u64 a 32) fun d=>
 bB (j1 .u64 a 4294967295) fun e=>
 0≤b∧bB (iQ .u64 aY b) fun f=>
 bB (IntKind.u64.wrap (64 - b)) fun g=>
 0≤g∧bB (hG .u64 aS g) fun g=>
 bB (wH .u64 f g) fun f=>
 0≤b∧bB (iQ .u64 aS b) fun g=>
 0≤(32:Int)∧bB (hG .u64 g 32) fun h=>
 bB (j1 .u64 g 4294967295) fun g=>
 d ≠ 0∧bB (IntKind.u64.wrap (Int.tdiv f d)) fun i=>
 bB (IntKind.u64.wrap (i*d)) fun j=>
 bB (IntKind.u64.wrap (f - j)) fun j=>
 (∃ n,kJ.t Y n a b d e f h g i j c))
def bM.g(Y:aF)(X:Fr)(Z:U):Prop:=a0 .u64 (X 0) fun aY=>a0 .u64 (X 1) fun aS=>a0 .u64 (X 2) fun a=>bM.t Y aY aS a Z
theorem bM.ok(Y:aF)(X:Fr)(Z:U)(g:bM.g Y X Z):den prog E (a6 aO [W,W,W]) (bC E [.tmp 6,.tmp 7] Y) X Z:=
 bJ g fun aY a g=>bJ g fun aS b g=>bJ g fun c d g=>c5 11 (r:=(a6 aO [W,W,W,W,W,W,W,W,W,W,W,W,W,W])) (by kernel_rfl) (wD.ok Y) (bV [(0,.int .u64 aY),(1,.int .u64 aS),(2,.int .u64 c)] ⟨a,b,d,trivial⟩ (by kernel_rfl) g)
def a5.t(Y:aF)(aY aS a:Int)(Z:U):Prop:=
 cond (decide (a≤aY)) (False) (bM.t Y aY aS a Z)
def a5.g(Y:aF)(X:Fr)(Z:U):Prop:=a0 .u64 (X 0) fun aY=>a0 .u64 (X 1) fun aS=>a0 .u64 (X 2) fun a=>a5.t Y aY aS a Z
theorem a5.ok(Y:aF)(X:Fr)(Z:U)(g:a5.g Y X Z):den prog E (a6 aO [W,W]) (bC E [.tmp 6,.tmp 7] Y) X Z:=
 bJ g fun aY a g=>bJ g fun aS b g=>bJ g fun c d g=>c5 1 (r:=(a6 aO [W,W,W])) (by kernel_rfl) (bM.ok Y) (bV [(0,.int .u64 aY),(1,.int .u64 aS),(2,.int .u64 c)] ⟨a,b,d,trivial⟩ (by kernel_rfl) g)
def aP.t(Y:aF)(aY aS a:Int)(Z:U):Prop:=
 cond (a == 0) (False) (a5.t Y aY aS a Z)
def aP.g(Y:aF)(X:Fr)(Z:U):Prop:=a0 .u64 (X 0) fun aY=>a0 .u64 (X 1) fun aS=>a0 .u64 (X 2) fun a=>aP.t Y aY aS a Z
theorem aP.ok(Y:aF)(X:Fr)(Z:U)(g:aP.g Y X Z):den prog E aO (bC E [.tmp 6,.tmp 7] Y) X Z:=
 bJ g fun aY a g=>bJ g fun aS b g=>bJ g fun c d g=>c5 2 (r:=(a6 aO [W,W])) (by kernel_rfl) (a5.ok Y) (bV [(0,.int .u64 aY),(1,.int .u64 aS),(2,.int .u64 c)] ⟨a,b,d,trivial⟩ (by kernel_rfl) g)
def t(aY aS a:Int)(Z:U)(Y:aF):Prop:=aP.t Y aY aS a Z
theorem ok{aY:Int}{aS:Int}{a:Int}{Z:U}{Y:aF}(g:t aY aS a Z Y):a4 id #[.int .u64 aY,.int .u64 aS,.int .u64 a] Z Y:=
 eD dT (c:=aO) (dH:=[.tmp 6,.tmp 7]) Tryz.func118 (by kernel_rfl) (by kernel_rfl) (by kernel_rfl) (args:=[.int .u64 aY,.int .u64 aS,.int .u64 a]) (by kernel_rfl) (aP.ok Y _ Z (b0 rfl (b0 rfl (b0 rfl (g)))))
end hF
namespace vB
noncomputable def aO:Code:=dY Tryz.f119
def aP.t(Y:aF)(aY aS a:Int)(Z:U):Prop:=
 cond (decide (aY≥a)) (Y (.int .u64 18446744073709551615) Z) (a4 hF.id #[.int .u64 aY,.int .u64 aS,.int .u64 a] Z fun a b=>
 cW a fun a=>
 dP a .u64 fun a c=>
 dP c .u64 fun c c=>
 b9 c <| Y (.int .u64 a) b)
def aP.g(Y:aF)(X:Fr)(Z:U):Prop:=a0 .u64 (X 0) fun aY=>a0 .u64 (X 1) fun aS=>a0 .u64 (X 2) fun a=>aP.t Y aY aS a Z
theorem aP.ok(Y:aF)(X:Fr)(Z:U)(g:aP.g Y X Z):den prog E aO (bC E [.tmp 6] Y) X Z:=
 bJ g fun aY a g=>bJ g fun aS b g=>bJ g fun c d g=>bV [(0,.int .u64 aY),(1,.int .u64 aS),(2,.int .u64 c)] ⟨a,b,d,trivial⟩ (by kernel_rfl) g
def t(aY aS a:Int)(Z:U)(Y:aF):Prop:=aP.t Y aY aS a Z
theorem ok{aY:Int}{aS:Int}{a:Int}{Z:U}{Y:aF}(g:t aY aS a Z Y):a4 id #[.int .u64 aY,.int .u64 aS,.int .u64 a] Z Y:=
 eD dT (c:=aO) (dH:=[.tmp 6]) Tryz.func119 (by kernel_rfl) (by kernel_rfl) (by kernel_rfl) (args:=[.int .u64 aY,.int .u64 aS,.int .u64 a]) (by kernel_rfl) (aP.ok Y _ Z (b0 rfl (b0 rfl (b0 rfl (g)))))
end vB
namespace nN
noncomputable def aO:Code:=dY Tryz.f120
def a5.t(Y:aF)(M:S)(a aA:Nat)(aM:S)(aL aK:Nat)(b c:Int)(Z:U):Prop:=
 c6 M a (((aL:Nat):Int)) 1 fun cQ=>
 eO Z .u64 cQ fun d=>
 sL d b c fun b c=>
 c6 M a (((aL:Nat):Int)) 1 fun a=>
 cM Z a (.int .u64 b) fun a=>
 Y (.int .u64 c) a
def a5.g(Y:aF)(X:Fr)(Z:U):Prop:=aR (X 0) fun M a aA=>aR (X 1) fun aM aL aK=>a0 .u64 (X 7) fun b=>a0 .u64 (X 8) fun c=>a5.t Y M a aA aM aL aK b c Z
theorem a5.ok(Y:aF)(X:Fr)(Z:U)(g:a5.g Y X Z):den prog E (a6 aO [W,W,W]) (bC E [.tmp 6] Y) X Z:=
 bF g fun M a aA b g=>bF g fun aM aL aK c g=>bJ g fun d e g=>bJ g fun f h g=>bV [(0,.slice M a aA),(1,.slice aM aL aK),(7,.int .u64 d),(8,.int .u64 f)] ⟨b,c,e,h,trivial⟩ (by kernel_rfl) g
def bU.g(bP:S→Nat→Nat→S→Nat→Nat→Int→Int→Int→Int→Int→U→Prop)(X:Fr)(Z:U):Prop:=aR (X 0) fun M a aA=>aR (X 1) fun aM aL aK=>a0 .u64 (X 2) fun b=>a0 .u64 (X 7) fun c=>a0 .u64 (X 8) fun d=>a0 .i64 (X 14) fun e=>a0 .i64 (X 15) fun f=>bP M a aA aM aL aK b c d e f Z
def cH.t(Y:aF)(a:S→Nat→Nat→S→Nat→Nat→Int→Int→Int→Int→Int→U→Prop)(M:S)(b aA:Nat)(aM:S)(aL aK:Nat)(c d:Int)(e f g:Int)(Z:U):Prop:=
 cond (decide (g < f)) (c6 aM aL g 1 fun h=>
 eO Z .u64 h fun h=>
 a4 rO.id #[.int .u64 h,.int .u64 c] Z fun h i=>
 cW h fun h=>
 dP h .u64 fun h j=>
 dP j .u64 fun j k=>
 b9 k <| oV j d 0 fun j k=>
 bB (IntKind.u64.wrap (h+k)) fun h=>
 c6 M b g 1 fun k=>
 eO i .u64 k fun k=>
 sL k j e fun j k=>
 c6 M b g 1 fun l=>
 cM i l (.int .u64 j) fun i=>
 bB (IntKind.i64.wrap (g+1)) fun g=>
 a M b aA aM aL aK c h k f g i) (a5.t Y M b aA aM aL aK d e Z)
def cH.g(Y:aF)(a:S→Nat→Nat→S→Nat→Nat→Int→Int→Int→Int→Int→U→Prop)(X:Fr)(Z:U):Prop:=aR (X 0) fun M b aA=>aR (X 1) fun aM aL aK=>a0 .u64 (X 2) fun c=>a0 .u64 (X 7) fun d=>a0 .u64 (X 8) fun e=>a0 .i64 (X 14) fun f=>a0 .i64 (X 15) fun h=>cH.t Y a M b aA aM aL aK c d e f h Z
theorem cH.ok(Y:aF)(a:S→Nat→Nat→S→Nat→Nat→Int→Int→Int→Int→Int→U→Prop)(X:Fr)(Z:U)(g:cH.g Y a X Z):den prog E (a6 aO [W,W,aJ,W,aJ,aJ]) (aV.then (bU.g a) (aV.inBlock 0 (aV.then (a5.g Y) (bC E [.tmp 6] Y)))) X Z:=
 bF g fun M a aA b g=>bF g fun aM aL aK c g=>bJ g fun d e g=>bJ g fun f h g=>bJ g fun i j g=>bJ g fun k l g=>bJ g fun m n g=>bV [(0,.slice M a aA),(1,.slice aM aL aK),(2,.int .u64 d),(7,.int .u64 f),(8,.int .u64 i),(14,.int .i64 k),(15,.int .i64 m)] ⟨b,c,e,h,j,l,n,trivial⟩ (by kernel_rfl) g
def bU.t(Y:aF):Nat→S→Nat→Nat→S→Nat→Nat→Int→Int→Int→Int→Int→U→Prop
 | 0=>fun _ _ _ _ _ _ _ _ _ _ _ _=>False
 | n+1=>fun M a aA aM aL aK b c d e f Z=>cH.t Y (bU.t Y n) M a aA aM aL aK b c d e f Z
theorem bU.ok(Y:aF)(X:Fr)(Z:U)(g:bU.g (fun M a aA aM aL aK b c d e f Z=>∃ n,bU.t Y n M a aA aM aL aK b c d e f Z) X Z):den prog E (a6 aO [W,W,aJ,W,aJ]) (aV.inBlock 0 (aV.then (a5.g Y) (bC E [.tmp 6] Y))) X Z:=by
 obtain⟨M,a,aA,h,g⟩:=b2 g
 obtain⟨aM,aL,aK,i,g⟩:=b2 g
 obtain⟨b,j,g⟩:=bT g
 obtain⟨c,k,g⟩:=bT g
 obtain⟨d,l,g⟩:=bT g
 obtain⟨e,m,g⟩:=bT g
 obtain⟨f,o,g⟩:=bT g
 obtain⟨n,g⟩:=g
 refine fF (fun n=>bU.g (bU.t Y n)) (K:=(a6 aO [W,W,aJ,W,aJ,aJ])) (by kernel_rfl) (fun X Z g=>?_) (fun n=>cH.ok Y (bU.t Y n)) n X Z (bL h (bL i (b0 j (b0 k (b0 l (b0 m (b0 o (g))))))))
 obtain⟨M,a,aA,h,g⟩:=b2 g
 obtain⟨aM,aL,aK,i,g⟩:=b2 g
 obtain⟨b,j,g⟩:=bT g
 obtain⟨c,k,g⟩:=bT g
 obtain⟨d,l,g⟩:=bT g
 obtain⟨e,m,g⟩:=bT g
 obtain⟨f,o,g⟩:=bT g
 exact g
theorem hM.ok(Y:aF)(X:Fr)(Z:U)(g:bU.g (fun M a aA aM aL aK b c d e f Z=>∃ n,bU.t Y n M a aA aM aL aK b c d e f Z) X Z):den prog E (a6 aO [W,W,aJ,W]) (aV.then (a5.g Y) (bC E [.tmp 6] Y)) X Z:=
 e3 (by kernel_rfl) (bU.ok Y X Z g)
def bM.t(Y:aF)(M:S)(a aA:Nat)(aM:S)(aL aK:Nat)(b c d:Int)(Z:U):Prop:=
 (∃ n,bU.t Y n M a aA aM aL aK b c d (((aL:Nat):Int)) 0 Z)
def bM.g(Y:aF)(X:Fr)(Z:U):Prop:=aR (X 0) fun M a aA=>aR (X 1) fun aM aL aK=>a0 .u64 (X 2) fun b=>a0 .u64 (X 7) fun c=>a0 .u64 (X 8) fun d=>bM.t Y M a aA aM aL aK b c d Z
theorem bM.ok(Y:aF)(X:Fr)(Z:U)(g:bM.g Y X Z):den prog E (a6 aO [W,W,aJ]) (aV.then (a5.g Y) (bC E [.tmp 6] Y)) X Z:=
 bF g fun M a aA b g=>bF g fun aM aL aK c g=>bJ g fun d e g=>bJ g fun f h g=>bJ g fun i j g=>c5 1 (r:=(a6 aO [W,W,aJ,W])) (by kernel_rfl) (hM.ok Y) (bV [(0,.slice M a aA),(1,.slice aM aL aK),(2,.int .u64 d),(7,.int .u64 f),(8,.int .u64 i)] ⟨b,c,e,h,j,trivial⟩ (by kernel_rfl) g)
theorem hN.ok(Y:aF)(X:Fr)(Z:U)(g:bM.g Y X Z):den prog E (a6 aO [W,W]) (bC E [.tmp 6] Y) X Z:=
 fP (by kernel_rfl) (a5.ok Y) (bM.ok Y X Z g)
def aP.t(Y:aF)(M:S)(a aA:Nat)(aM:S)(aL aK:Nat)(b:Int)(Z:U):Prop:=
 bM.t Y M a aA aM aL aK b 0 0 Z
def aP.g(Y:aF)(X:Fr)(Z:U):Prop:=aR (X 0) fun M a aA=>aR (X 1) fun aM aL aK=>a0 .u64 (X 2) fun b=>aP.t Y M a aA aM aL aK b Z
theorem aP.ok(Y:aF)(X:Fr)(Z:U)(g:aP.g Y X Z):den prog E aO (bC E [.tmp 6] Y) X Z:=
 bF g fun M a aA b g=>bF g fun aM aL aK c g=>bJ g fun d e g=>c5 2 (r:=(a6 aO [W,W])) (by kernel_rfl) (hN.ok Y) (bV [(0,.slice M a aA),(1,.slice aM aL aK),(2,.int .u64 d)] ⟨b,c,e,trivial⟩ (by kernel_rfl) g)
def t(M:S)(a aA:Nat)(aM:S)(aL aK:Nat)(b:Int)(Z:U)(Y:aF):Prop:=aP.t Y M a aA aM aL aK b Z
theorem ok{M:S}{a:Nat}{aA:Nat}{aM:S}{aL:Nat}{aK:Nat}{b:Int}{Z:U}{Y:aF}(g:t M a aA aM aL aK b Z Y):a4 id #[.slice M a aA,.slice aM aL aK,.int .u64 b] Z Y:=
 eD dT (c:=aO) (dH:=[.tmp 6]) Tryz.func120 (by kernel_rfl) (by kernel_rfl) (by kernel_rfl) (args:=[.slice M a aA,.slice aM aL aK,.int .u64 b]) (by kernel_rfl) (aP.ok Y _ Z (bL rfl (bL rfl (b0 rfl (g)))))
end nN
namespace nO
noncomputable def aO:Code:=dY Tryz.f121
def a5.t(Y:aF)(M:S)(a aA:Nat)(aM:S)(aL aK:Nat)(b:Int)(Z:U):Prop:=
 c6 M a (((aL:Nat):Int)) 1 fun cQ=>
 eO Z .u64 cQ fun c=>
 oV c 0 b fun b c=>
 c6 M a (((aL:Nat):Int)) 1 fun a=>
 cM Z a (.int .u64 b) fun a=>
 Y (.int .u64 c) a
def a5.g(Y:aF)(X:Fr)(Z:U):Prop:=aR (X 0) fun M a aA=>aR (X 1) fun aM aL aK=>a0 .u64 (X 5) fun b=>a5.t Y M a aA aM aL aK b Z
theorem a5.ok(Y:aF)(X:Fr)(Z:U)(g:a5.g Y X Z):den prog E (a6 aO [W,W,W]) (bC E [.tmp 4] Y) X Z:=
 bF g fun M a aA b g=>bF g fun aM aL aK c g=>bJ g fun d e g=>bV [(0,.slice M a aA),(1,.slice aM aL aK),(5,.int .u64 d)] ⟨b,c,e,trivial⟩ (by kernel_rfl) g
def bU.g(bP:S→Nat→Nat→S→Nat→Nat→Int→Int→Int→U→Prop)(X:Fr)(Z:U):Prop:=aR (X 0) fun M a aA=>aR (X 1) fun aM aL aK=>a0 .u64 (X 5) fun b=>a0 .i64 (X 8) fun c=>a0 .i64 (X 9) fun d=>bP M a aA aM aL aK b c d Z
def cH.t(Y:aF)(a:S→Nat→Nat→S→Nat→Nat→Int→Int→Int→U→Prop)(M:S)(b aA:Nat)(aM:S)(aL aK:Nat)(c d e:Int)(Z:U):Prop:=
 cond (decide (e < d)) (c6 M b e 1 fun f=>
 eO Z .u64 f fun f=>
 c6 aM aL e 1 fun g=>
 eO Z .u64 g fun g=>
 oV f g c fun f g=>
 c6 M b e 1 fun h=>
 cM Z h (.int .u64 f) fun f=>
 bB (IntKind.i64.wrap (e+1)) fun e=>
 a M b aA aM aL aK g d e f) (a5.t Y M b aA aM aL aK c Z)
def cH.g(Y:aF)(a:S→Nat→Nat→S→Nat→Nat→Int→Int→Int→U→Prop)(X:Fr)(Z:U):Prop:=aR (X 0) fun M b aA=>aR (X 1) fun aM aL aK=>a0 .u64 (X 5) fun c=>a0 .i64 (X 8) fun d=>a0 .i64 (X 9) fun e=>cH.t Y a M b aA aM aL aK c d e Z
theorem cH.ok(Y:aF)(a:S→Nat→Nat→S→Nat→Nat→Int→Int→Int→U→Prop)(X:Fr)(Z:U)(g:cH.g Y a X Z):den prog E (a6 aO [W,W,aJ,W,aJ,aJ]) (aV.then (bU.g a) (aV.inBlock 0 (aV.then (a5.g Y) (bC E [.tmp 4] Y)))) X Z:=
 bF g fun M a aA b g=>bF g fun aM aL aK c g=>bJ g fun d e g=>bJ g fun f h g=>bJ g fun i j g=>bV [(0,.slice M a aA),(1,.slice aM aL aK),(5,.int .u64 d),(8,.int .i64 f),(9,.int .i64 i)] ⟨b,c,e,h,j,trivial⟩ (by kernel_rfl) g
def bU.t(Y:aF):Nat→S→Nat→Nat→S→Nat→Nat→Int→Int→Int→U→Prop
 | 0=>fun _ _ _ _ _ _ _ _ _ _=>False
 | n+1=>fun M a aA aM aL aK b c d Z=>cH.t Y (bU.t Y n) M a aA aM aL aK b c d Z
theorem bU.ok(Y:aF)(X:Fr)(Z:U)(g:bU.g (fun M a aA aM aL aK b c d Z=>∃ n,bU.t Y n M a aA aM aL aK b c d Z) X Z):den prog E (a6 aO [W,W,aJ,W,aJ]) (aV.inBlock 0 (aV.then (a5.g Y) (bC E [.tmp 4] Y))) X Z:=by
 obtain⟨M,a,aA,e,g⟩:=b2 g
 obtain⟨aM,aL,aK,f,g⟩:=b2 g
 obtain⟨b,h,g⟩:=bT g
 obtain⟨c,i,g⟩:=bT g
 obtain⟨d,j,g⟩:=bT g
 obtain⟨n,g⟩:=g
 refine fF (fun n=>bU.g (bU.t Y n)) (K:=(a6 aO [W,W,aJ,W,aJ,aJ])) (by kernel_rfl) (fun X Z g=>?_) (fun n=>cH.ok Y (bU.t Y n)) n X Z (bL e (bL f (b0 h (b0 i (b0 j (g))))))
 obtain⟨M,a,aA,e,g⟩:=b2 g
 obtain⟨aM,aL,aK,f,g⟩:=b2 g
 obtain⟨b,h,g⟩:=bT g
 obtain⟨c,i,g⟩:=bT g
 obtain⟨d,j,g⟩:=bT g
 exact g
theorem hM.ok(Y:aF)(X:Fr)(Z:U)(g:bU.g (fun M a aA aM aL aK b c d Z=>∃ n,bU.t Y n M a aA aM aL aK b c d Z) X Z):den prog E (a6 aO [W,W,aJ,W]) (aV.then (a5.g Y) (bC E [.tmp 4] Y)) X Z:=
 e3 (by kernel_rfl) (bU.ok Y X Z g)
def bM.t(Y:aF)(M:S)(a aA:Nat)(aM:S)(aL aK:Nat)(b:Int)(Z:U):Prop:=
 (∃ n,bU.t Y n M a aA aM aL aK b (((aL:Nat):Int)) 0 Z)
def bM.g(Y:aF)(X:Fr)(Z:U):Prop:=aR (X 0) fun M a aA=>aR (X 1) fun aM aL aK=>a0 .u64 (X 5) fun b=>bM.t Y M a aA aM aL aK b Z
theorem bM.ok(Y:aF)(X:Fr)(Z:U)(g:bM.g Y X Z):den prog E (a6 aO [W,W,aJ]) (aV.then (a5.g Y) (bC E [.tmp 4] Y)) X Z:=
 bF g fun M a aA b g=>bF g fun aM aL aK c g=>bJ g fun d e g=>c5 1 (r:=(a6 aO [W,W,aJ,W])) (by kernel_rfl) (hM.ok Y) (bV [(0,.slice M a aA),(1,.slice aM aL aK),(5,.int .u64 d)] ⟨b,c,e,trivial⟩ (by kernel_rfl) g)
theorem hN.ok(Y:aF)(X:Fr)(Z:U)(g:bM.g Y X Z):den prog E (a6 aO [W,W]) (bC E [.tmp 4] Y) X Z:=
 fP (by kernel_rfl) (a5.ok Y) (bM.ok Y X Z g)
def aP.t(Y:aF)(M:S)(a aA:Nat)(aM:S)(aL aK:Nat)(Z:U):Prop:=
 bM.t Y M a aA aM aL aK 0 Z
def aP.g(Y:aF)(X:Fr)(Z:U):Prop:=aR (X 0) fun M a aA=>aR (X 1) fun aM aL aK=>aP.t Y M a aA aM aL aK Z
theorem aP.ok(Y:aF)(X:Fr)(Z:U)(g:aP.g Y X Z):den prog E aO (bC E [.tmp 4] Y) X Z:=
 bF g fun M a aA b g=>bF g fun aM aL aK c g=>c5 2 (r:=(a6 aO [W,W])) (by kernel_rfl) (hN.ok Y) (bV [(0,.slice M a aA),(1,.slice aM aL aK)] ⟨b,c,trivial⟩ (by kernel_rfl) g)
def t(M:S)(a aA:Nat)(aM:S)(aL aK:Nat)(Z:U)(Y:aF):Prop:=aP.t Y M a aA aM aL aK Z
theorem ok{M:S}{a:Nat}{aA:Nat}{aM:S}{aL:Nat}{aK:Nat}{Z:U}{Y:aF}(g:t M a aA aM aL aK Z Y):a4 id #[.slice M a aA,.slice aM aL aK] Z Y:=
 eD dT (c:=aO) (dH:=[.tmp 4]) Tryz.func121 (by kernel_rfl) (by kernel_rfl) (by kernel_rfl) (args:=[.slice M a aA,.slice aM aL aK]) (by kernel_rfl) (aP.ok Y _ Z (bL rfl (bL rfl (g))))
end nO
namespace kL
noncomputable def aO:Code:=dY Tryz.f122
def dG.g(bP:S→Nat→Nat→S→Nat→Nat→S→Nat→Nat→Int→Int→U→Prop)(X:Fr)(Z:U):Prop:=aR (X 0) fun M a aA=>aR (X 1) fun aM aL aK=>aR (X 2) fun bO b3 bN=>a0 .i64 (X 13) fun b=>a0 .i64 (X 14) fun c=>bP M a aA aM aL aK bO b3 bN b c Z
def cF.t(Y:aF)(b1:S→Nat→Nat→S→Nat→Nat→S→Nat→Nat→Int→Int→U→Prop)(M:S)(a aA:Nat)(aM:S)(aL aK:Nat)(bO:S)(b3 bN:Nat)(b c:Int)(Z:U):Prop:=
 bB (IntKind.i64.wrap (c+1)) fun eF=>b1 M a aA aM aL aK bO b3 bN b eF Z
def cF.g(Y:aF)(b1:S→Nat→Nat→S→Nat→Nat→S→Nat→Nat→Int→Int→U→Prop)(X:Fr)(Z:U):Prop:=aR (X 0) fun M a aA=>aR (X 1) fun aM aL aK=>aR (X 2) fun bO b3 bN=>a0 .i64 (X 13) fun b=>a0 .i64 (X 14) fun c=>cF.t Y b1 M a aA aM aL aK bO b3 bN b c Z
theorem cF.ok(Y:aF)(b1:S→Nat→Nat→S→Nat→Nat→S→Nat→Nat→Int→Int→U→Prop)(X:Fr)(Z:U)(g:cF.g Y b1 X Z):den prog E (a6 aO [W,aJ,aJ,W,W,W]) (aV.then (dG.g b1) (aV.inBlock 0 (bC E [] Y))) X Z:=
 bF g fun M a aA b g=>bF g fun aM aL aK c g=>bF g fun bO b3 bN d g=>bJ g fun e f g=>bJ g fun h i g=>bV [(0,.slice M a aA),(1,.slice aM aL aK),(2,.slice bO b3 bN),(13,.int .i64 e),(14,.int .i64 h)] ⟨b,c,d,f,i,trivial⟩ (by kernel_rfl) g
def dD.t(Y:aF)(b1:S→Nat→Nat→S→Nat→Nat→S→Nat→Nat→Int→Int→U→Prop)(M:S)(a aA:Nat)(aM:S)(aL aK:Nat)(bO:S)(b3 bN:Nat)(b c:Int)(d e:Int)(Z:U):Prop:=
 bB (IntKind.i64.wrap (b+(((aL:Nat):Int)))) fun b=>
 c6 M a b 1 fun b=>
 cM Z b (.int .u64 c) fun b=>
 cF.t Y b1 M a aA aM aL aK bO b3 bN d e b
def dD.g(Y:aF)(b1:S→Nat→Nat→S→Nat→Nat→S→Nat→Nat→Int→Int→U→Prop)(X:Fr)(Z:U):Prop:=aR (X 0) fun M a aA=>aR (X 1) fun aM aL aK=>aR (X 2) fun bO b3 bN=>a0 .i64 (X 6) fun b=>a0 .u64 (X 7) fun c=>a0 .i64 (X 13) fun d=>a0 .i64 (X 14) fun e=>dD.t Y b1 M a aA aM aL aK bO b3 bN b c d e Z
theorem dD.ok(Y:aF)(b1:S→Nat→Nat→S→Nat→Nat→S→Nat→Nat→Int→Int→U→Prop)(X:Fr)(Z:U)(g:dD.g Y b1 X Z):den prog E (a6 aO [W,aJ,aJ,W,W,aJ,aJ,W,W,W]) (aV.inBlock 1 (aV.then (cF.g Y b1) (aV.then (dG.g b1) (aV.inBlock 0 (bC E [] Y))))) X Z:=
 bF g fun M a aA b g=>bF g fun aM aL aK c g=>bF g fun bO b3 bN d g=>bJ g fun e f g=>bJ g fun h i g=>bJ g fun j k g=>bJ g fun l m g=>bV [(0,.slice M a aA),(1,.slice aM aL aK),(2,.slice bO b3 bN),(6,.int .i64 e),(7,.int .u64 h),(13,.int .i64 j),(14,.int .i64 l)] ⟨b,c,d,f,i,k,m,trivial⟩ (by kernel_rfl) g
def hT.g(bP:S→Nat→Nat→S→Nat→Nat→S→Nat→Nat→Int→Int→Int→Int→Int→Int→U→Prop)(X:Fr)(Z:U):Prop:=aR (X 0) fun M a aA=>aR (X 1) fun aM aL aK=>aR (X 2) fun bO b3 bN=>a0 .i64 (X 6) fun b=>a0 .u64 (X 7) fun c=>a0 .i64 (X 13) fun d=>a0 .i64 (X 14) fun e=>a0 .i64 (X 18) fun f=>a0 .i64 (X 19) fun h=>bP M a aA aM aL aK bO b3 bN b c d e f h Z
def gS.t(Y:aF)(b1:S→Nat→Nat→S→Nat→Nat→S→Nat→Nat→Int→Int→U→Prop)(a:S→Nat→Nat→S→Nat→Nat→S→Nat→Nat→Int→Int→Int→Int→Int→Int→U→Prop)(M:S)(b aA:Nat)(aM:S)(aL aK:Nat)(bO:S)(b3 bN:Nat)(c d:Int)(e f:Int)(g h:Int)(Z:U):Prop:=
 cond (decide (h < g)) (c6 aM aL h 1 fun i=>
 eO Z .u64 i fun i=>
 c6 bO b3 c 1 fun j=>
 eO Z .u64 j fun j=>
 a4 rO.id #[.int .u64 i,.int .u64 j] Z fun i j=>
 cW i fun i=>
 dP i .u64 fun i k=>
 dP k .u64 fun k l=>
 b9 l <| oV k d 0 fun k l=>
 bB (IntKind.u64.wrap (i+l)) fun i=>
 bB (IntKind.i64.wrap (h+c)) fun l=>
 bB (IntKind.i64.wrap (h+c)) fun m=>
 c6 M b m 1 fun m=>
 eO j .u64 m fun m=>
 oV m k 0 fun k m=>
 c6 M b l 1 fun l=>
 cM j l (.int .u64 k) fun j=>
 bB (IntKind.u64.wrap (i+m)) fun i=>
 bB (IntKind.i64.wrap (h+1)) fun h=>
 a M b aA aM aL aK bO b3 bN c i e f g h j) (dD.t Y b1 M b aA aM aL aK bO b3 bN c d e f Z)
def gS.g(Y:aF)(b1:S→Nat→Nat→S→Nat→Nat→S→Nat→Nat→Int→Int→U→Prop)(a:S→Nat→Nat→S→Nat→Nat→S→Nat→Nat→Int→Int→Int→Int→Int→Int→U→Prop)(X:Fr)(Z:U):Prop:=aR (X 0) fun M b aA=>aR (X 1) fun aM aL aK=>aR (X 2) fun bO b3 bN=>a0 .i64 (X 6) fun c=>a0 .u64 (X 7) fun d=>a0 .i64 (X 13) fun e=>a0 .i64 (X 14) fun f=>a0 .i64 (X 18) fun h=>a0 .i64 (X 19) fun i=>gS.t Y b1 a M b aA aM aL aK bO b3 bN c d e f h i Z
theorem gS.ok(Y:aF)(b1:S→Nat→Nat→S→Nat→Nat→S→Nat→Nat→Int→Int→U→Prop)(a:S→Nat→Nat→S→Nat→Nat→S→Nat→Nat→Int→Int→Int→Int→Int→Int→U→Prop)(X:Fr)(Z:U)(g:gS.g Y b1 a X Z):den prog E (a6 aO [W,aJ,aJ,W,W,aJ,aJ,W,W,aJ,W,aJ,aJ]) (aV.then (hT.g a) (aV.inBlock 2 (aV.then (dD.g Y b1) (aV.inBlock 1 (aV.then (cF.g Y b1) (aV.then (dG.g b1) (aV.inBlock 0 (bC E [] Y)))))))) X Z:=
 bF g fun M a aA b g=>bF g fun aM aL aK c g=>bF g fun bO b3 bN d g=>bJ g fun e f g=>bJ g fun h i g=>bJ g fun j k g=>bJ g fun l m g=>bJ g fun n o g=>bJ g fun p q g=>bV [(0,.slice M a aA),(1,.slice aM aL aK),(2,.slice bO b3 bN),(6,.int .i64 e),(7,.int .u64 h),(13,.int .i64 j),(14,.int .i64 l),(18,.int .i64 n),(19,.int .i64 p)] ⟨b,c,d,f,i,k,m,o,q,trivial⟩ (by kernel_rfl) g
def hT.t(Y:aF)(b1:S→Nat→Nat→S→Nat→Nat→S→Nat→Nat→Int→Int→U→Prop):Nat→S→Nat→Nat→S→Nat→Nat→S→Nat→Nat→Int→Int→Int→Int→Int→Int→U→Prop
 | 0=>fun _ _ _ _ _ _ _ _ _ _ _ _ _ _ _ _=>False
 | n+1=>fun M a aA aM aL aK bO b3 bN b c d e f g Z=>gS.t Y b1 (hT.t Y b1 n) M a aA aM aL aK bO b3 bN b c d e f g Z
theorem hT.ok(Y:aF)(b1:S→Nat→Nat→S→Nat→Nat→S→Nat→Nat→Int→Int→U→Prop)(X:Fr)(Z:U)(g:hT.g (fun M a aA aM aL aK bO b3 bN b c d e f h Z=>∃ n,hT.t Y b1 n M a aA aM aL aK bO b3 bN b c d e f h Z) X Z):den prog E (a6 aO [W,aJ,aJ,W,W,aJ,aJ,W,W,aJ,W,aJ]) (aV.inBlock 2 (aV.then (dD.g Y b1) (aV.inBlock 1 (aV.then (cF.g Y b1) (aV.then (dG.g b1) (aV.inBlock 0 (bC E [] Y))))))) X Z:=by
 obtain⟨M,a,aA,i,g⟩:=b2 g
 obtain⟨aM,aL,aK,j,g⟩:=b2 g
 obtain⟨bO,b3,bN,k,g⟩:=b2 g
 obtain⟨b,l,g⟩:=bT g
 obtain⟨c,m,g⟩:=bT g
 obtain⟨d,o,g⟩:=bT g
 obtain⟨e,p,g⟩:=bT g
 obtain⟨f,q,g⟩:=bT g
 obtain⟨h,r,g⟩:=bT g
 obtain⟨n,g⟩:=g
 refine fF (fun n=>hT.g (hT.t Y b1 n)) (K:=(a6 aO [W,aJ,aJ,W,W,aJ,aJ,W,W,aJ,W,aJ,aJ])) (by kernel_rfl) (fun X Z g=>?_) (fun n=>gS.ok Y b1 (hT.t Y b1 n)) n X Z (bL i (bL j (bL k (b0 l (b0 m (b0 o (b0 p (b0 q (b0 r (g))))))))))
 obtain⟨M,a,aA,i,g⟩:=b2 g
 obtain⟨aM,aL,aK,j,g⟩:=b2 g
 obtain⟨bO,b3,bN,k,g⟩:=b2 g
 obtain⟨b,l,g⟩:=bT g
 obtain⟨c,m,g⟩:=bT g
 obtain⟨d,o,g⟩:=bT g
 obtain⟨e,p,g⟩:=bT g
 obtain⟨f,q,g⟩:=bT g
 obtain⟨h,r,g⟩:=bT g
 exact g
theorem z3.ok(Y:aF)(b1:S→Nat→Nat→S→Nat→Nat→S→Nat→Nat→Int→Int→U→Prop)(X:Fr)(Z:U)(g:hT.g (fun M a aA aM aL aK bO b3 bN b c d e f h Z=>∃ n,hT.t Y b1 n M a aA aM aL aK bO b3 bN b c d e f h Z) X Z):den prog E (a6 aO [W,aJ,aJ,W,W,aJ,aJ,W,W,aJ,W]) (aV.then (dD.g Y b1) (aV.inBlock 1 (aV.then (cF.g Y b1) (aV.then (dG.g b1) (aV.inBlock 0 (bC E [] Y)))))) X Z:=
 e3 (by kernel_rfl) (hT.ok Y b1 X Z g)
def eX.t(Y:aF)(b1:S→Nat→Nat→S→Nat→Nat→S→Nat→Nat→Int→Int→U→Prop)(M:S)(a aA:Nat)(aM:S)(aL aK:Nat)(bO:S)(b3 bN:Nat)(b c:Int)(d e:Int)(Z:U):Prop:=
 (∃ n,hT.t Y b1 n M a aA aM aL aK bO b3 bN b c d e (((aL:Nat):Int)) 0 Z)
def eX.g(Y:aF)(b1:S→Nat→Nat→S→Nat→Nat→S→Nat→Nat→Int→Int→U→Prop)(X:Fr)(Z:U):Prop:=aR (X 0) fun M a aA=>aR (X 1) fun aM aL aK=>aR (X 2) fun bO b3 bN=>a0 .i64 (X 6) fun b=>a0 .u64 (X 7) fun c=>a0 .i64 (X 13) fun d=>a0 .i64 (X 14) fun e=>eX.t Y b1 M a aA aM aL aK bO b3 bN b c d e Z
theorem eX.ok(Y:aF)(b1:S→Nat→Nat→S→Nat→Nat→S→Nat→Nat→Int→Int→U→Prop)(X:Fr)(Z:U)(g:eX.g Y b1 X Z):den prog E (a6 aO [W,aJ,aJ,W,W,aJ,aJ,W,W,aJ]) (aV.then (dD.g Y b1) (aV.inBlock 1 (aV.then (cF.g Y b1) (aV.then (dG.g b1) (aV.inBlock 0 (bC E [] Y)))))) X Z:=
 bF g fun M a aA b g=>bF g fun aM aL aK c g=>bF g fun bO b3 bN d g=>bJ g fun e f g=>bJ g fun h i g=>bJ g fun j k g=>bJ g fun l m g=>c5 1 (r:=(a6 aO [W,aJ,aJ,W,W,aJ,aJ,W,W,aJ,W])) (by kernel_rfl) (z3.ok Y b1) (bV [(0,.slice M a aA),(1,.slice aM aL aK),(2,.slice bO b3 bN),(6,.int .i64 e),(7,.int .u64 h),(13,.int .i64 j),(14,.int .i64 l)] ⟨b,c,d,f,i,k,m,trivial⟩ (by kernel_rfl) g)
theorem z4.ok(Y:aF)(b1:S→Nat→Nat→S→Nat→Nat→S→Nat→Nat→Int→Int→U→Prop)(X:Fr)(Z:U)(g:eX.g Y b1 X Z):den prog E (a6 aO [W,aJ,aJ,W,W,aJ,aJ,W,W]) (aV.inBlock 1 (aV.then (cF.g Y b1) (aV.then (dG.g b1) (aV.inBlock 0 (bC E [] Y))))) X Z:=
 fP (by kernel_rfl) (dD.ok Y b1) (eX.ok Y b1 X Z g)
def cH.t(Y:aF)(b1:S→Nat→Nat→S→Nat→Nat→S→Nat→Nat→Int→Int→U→Prop)(M:S)(a aA:Nat)(aM:S)(aL aK:Nat)(bO:S)(b3 bN:Nat)(b c:Int)(Z:U):Prop:=
 eX.t Y b1 M a aA aM aL aK bO b3 bN c 0 b c Z
def cH.g(Y:aF)(b1:S→Nat→Nat→S→Nat→Nat→S→Nat→Nat→Int→Int→U→Prop)(X:Fr)(Z:U):Prop:=aR (X 0) fun M a aA=>aR (X 1) fun aM aL aK=>aR (X 2) fun bO b3 bN=>a0 .i64 (X 13) fun b=>a0 .i64 (X 14) fun c=>cH.t Y b1 M a aA aM aL aK bO b3 bN b c Z
theorem cH.ok(Y:aF)(b1:S→Nat→Nat→S→Nat→Nat→S→Nat→Nat→Int→Int→U→Prop)(X:Fr)(Z:U)(g:cH.g Y b1 X Z):den prog E (a6 aO [W,aJ,aJ,W,W,aJ,aJ]) (aV.inBlock 1 (aV.then (cF.g Y b1) (aV.then (dG.g b1) (aV.inBlock 0 (bC E [] Y))))) X Z:=
 bF g fun M a aA b g=>bF g fun aM aL aK c g=>bF g fun bO b3 bN d g=>bJ g fun e f g=>bJ g fun h i g=>c5 2 (r:=(a6 aO [W,aJ,aJ,W,W,aJ,aJ,W,W])) (by kernel_rfl) (z4.ok Y b1) (bV [(0,.slice M a aA),(1,.slice aM aL aK),(2,.slice bO b3 bN),(13,.int .i64 e),(14,.int .i64 h)] ⟨b,c,d,f,i,trivial⟩ (by kernel_rfl) g)
theorem oT.ok(Y:aF)(b1:S→Nat→Nat→S→Nat→Nat→S→Nat→Nat→Int→Int→U→Prop)(X:Fr)(Z:U)(g:cH.g Y b1 X Z):den prog E (a6 aO [W,aJ,aJ,W,W,aJ]) (aV.then (cF.g Y b1) (aV.then (dG.g b1) (aV.inBlock 0 (bC E [] Y)))) X Z:=
 e3 (by kernel_rfl) (cH.ok Y b1 X Z g)
theorem sH.ok(Y:aF)(b1:S→Nat→Nat→S→Nat→Nat→S→Nat→Nat→Int→Int→U→Prop)(X:Fr)(Z:U)(g:cH.g Y b1 X Z):den prog E (a6 aO [W,aJ,aJ,W,W]) (aV.then (dG.g b1) (aV.inBlock 0 (bC E [] Y))) X Z:=
 fP (by kernel_rfl) (cF.ok Y b1) (oT.ok Y b1 X Z g)
def bM.t(Y:aF)(b1:S→Nat→Nat→S→Nat→Nat→S→Nat→Nat→Int→Int→U→Prop)(M:S)(a aA:Nat)(aM:S)(aL aK:Nat)(bO:S)(b3 bN:Nat)(b c:Int)(Z:U):Prop:=
 cond (decide (c < b)) (cH.t Y b1 M a aA aM aL aK bO b3 bN b c Z) (Y (.tuple #[]) Z)
def bM.g(Y:aF)(b1:S→Nat→Nat→S→Nat→Nat→S→Nat→Nat→Int→Int→U→Prop)(X:Fr)(Z:U):Prop:=aR (X 0) fun M a aA=>aR (X 1) fun aM aL aK=>aR (X 2) fun bO b3 bN=>a0 .i64 (X 13) fun b=>a0 .i64 (X 14) fun c=>bM.t Y b1 M a aA aM aL aK bO b3 bN b c Z
theorem bM.ok(Y:aF)(b1:S→Nat→Nat→S→Nat→Nat→S→Nat→Nat→Int→Int→U→Prop)(X:Fr)(Z:U)(g:bM.g Y b1 X Z):den prog E (a6 aO [W,aJ,aJ]) (aV.then (dG.g b1) (aV.inBlock 0 (bC E [] Y))) X Z:=
 bF g fun M a aA b g=>bF g fun aM aL aK c g=>bF g fun bO b3 bN d g=>bJ g fun e f g=>bJ g fun h i g=>c5 2 (r:=(a6 aO [W,aJ,aJ,W,W])) (by kernel_rfl) (sH.ok Y b1) (bV [(0,.slice M a aA),(1,.slice aM aL aK),(2,.slice bO b3 bN),(13,.int .i64 e),(14,.int .i64 h)] ⟨b,c,d,f,i,trivial⟩ (by kernel_rfl) g)
def dG.t(Y:aF):Nat→S→Nat→Nat→S→Nat→Nat→S→Nat→Nat→Int→Int→U→Prop
 | 0=>fun _ _ _ _ _ _ _ _ _ _ _ _=>False
 | n+1=>fun M a aA aM aL aK bO b3 bN b c Z=>bM.t Y (dG.t Y n) M a aA aM aL aK bO b3 bN b c Z
theorem dG.ok(Y:aF)(X:Fr)(Z:U)(g:dG.g (fun M a aA aM aL aK bO b3 bN b c Z=>∃ n,dG.t Y n M a aA aM aL aK bO b3 bN b c Z) X Z):den prog E (a6 aO [W,aJ]) (aV.inBlock 0 (bC E [] Y)) X Z:=by
 obtain⟨M,a,aA,d,g⟩:=b2 g
 obtain⟨aM,aL,aK,e,g⟩:=b2 g
 obtain⟨bO,b3,bN,f,g⟩:=b2 g
 obtain⟨b,h,g⟩:=bT g
 obtain⟨c,i,g⟩:=bT g
 obtain⟨n,g⟩:=g
 refine fF (fun n=>dG.g (dG.t Y n)) (K:=(a6 aO [W,aJ,aJ])) (by kernel_rfl) (fun X Z g=>?_) (fun n=>bM.ok Y (dG.t Y n)) n X Z (bL d (bL e (bL f (b0 h (b0 i (g))))))
 obtain⟨M,a,aA,d,g⟩:=b2 g
 obtain⟨aM,aL,aK,e,g⟩:=b2 g
 obtain⟨bO,b3,bN,f,g⟩:=b2 g
 obtain⟨b,h,g⟩:=bT g
 obtain⟨c,i,g⟩:=bT g
 exact g
theorem qC.ok(Y:aF)(X:Fr)(Z:U)(g:dG.g (fun M a aA aM aL aK bO b3 bN b c Z=>∃ n,dG.t Y n M a aA aM aL aK bO b3 bN b c Z) X Z):den prog E (a6 aO [W]) (bC E [] Y) X Z:=
 e3 (by kernel_rfl) (dG.ok Y X Z g)
def aP.t(Y:aF)(M:S)(a aA:Nat)(aM:S)(aL aK:Nat)(bO:S)(b3 bN:Nat)(Z:U):Prop:=
 (∃ n,dG.t Y n M a aA aM aL aK bO b3 bN (((b3:Nat):Int)) 0 Z)
def aP.g(Y:aF)(X:Fr)(Z:U):Prop:=aR (X 0) fun M a aA=>aR (X 1) fun aM aL aK=>aR (X 2) fun bO b3 bN=>aP.t Y M a aA aM aL aK bO b3 bN Z
theorem aP.ok(Y:aF)(X:Fr)(Z:U)(g:aP.g Y X Z):den prog E aO (bC E [] Y) X Z:=
 bF g fun M a aA b g=>bF g fun aM aL aK c g=>bF g fun bO b3 bN d g=>c5 1 (r:=(a6 aO [W])) (by kernel_rfl) (qC.ok Y) (bV [(0,.slice M a aA),(1,.slice aM aL aK),(2,.slice bO b3 bN)] ⟨b,c,d,trivial⟩ (by kernel_rfl) g)
def t(M:S)(a aA:Nat)(aM:S)(aL aK:Nat)(bO:S)(b3 bN:Nat)(Z:U)(Y:aF):Prop:=aP.t Y M a aA aM aL aK bO b3 bN Z
theorem ok{M:S}{a:Nat}{aA:Nat}{aM:S}{aL:Nat}{aK:Nat}{bO:S}{b3:Nat}{bN:Nat}{Z:U}{Y:aF}(g:t M a aA aM aL aK bO b3 bN Z Y):a4 id #[.slice M a aA,.slice aM aL aK,.slice bO b3 bN] Z Y:=
 eD dT (c:=aO) (dH:=[]) Tryz.func122 (by kernel_rfl) (by kernel_rfl) (by kernel_rfl) (args:=[.slice M a aA,.slice aM aL aK,.slice bO b3 bN]) (by kernel_rfl) (aP.ok Y _ Z (bL rfl (bL rfl (bL rfl (g)))))
end kL
namespace o9
noncomputable def aO:Code:=dY Tryz.f123
def dG.g(bP:S→Nat→Nat→S→Nat→Nat→S→Nat→Nat→Int→U→Prop)(X:Fr)(Z:U):Prop:=aR (X 0) fun M a aA=>aR (X 1) fun aM aL aK=>aR (X 2) fun bO b3 bN=>a0 .i64 (X 6) fun b=>bP M a aA aM aL aK bO b3 bN b Z
def bM.t(Y:aF)(b1:S→Nat→Nat→S→Nat→Nat→S→Nat→Nat→Int→U→Prop)(M:S)(a aA:Nat)(aM:S)(aL aK:Nat)(bO:S)(b3 bN:Nat)(b:Int)(Z:U):Prop:=
 cond (decide (b < (((aL:Nat):Int)))) (bB (IntKind.i64.wrap (b+(((b3:Nat):Int)))) fun eF=>
 iR 1 aM aL aK (some (.int .i64 b)) (some (.int .i64 (if (((aL:Nat):Int)) < eF then(((aL:Nat):Int)) else eF))) (some (.int .i64 (if (((aL:Nat):Int)) < eF then(((aL:Nat):Int)) else eF))) fun c d e=>
 a4 m1.id #[.slice c d e] Z fun c d=>
 aR c fun c e f=>
 a4 o8.id #[.slice c e f,.slice bO b3 bN] d fun c d=>
 aR c fun c e f=>
 a4 kA.id #[.slice M a aA,.slice c e f,.int .i64 b] d fun c fV=>
 cW c fun c=>
 b9 c <| bB (IntKind.i64.wrap (b+(((b3:Nat):Int)))) fun b=>
 b1 M a aA aM aL aK bO b3 bN b fV) (Y (.tuple #[]) Z)
def bM.g(Y:aF)(b1:S→Nat→Nat→S→Nat→Nat→S→Nat→Nat→Int→U→Prop)(X:Fr)(Z:U):Prop:=aR (X 0) fun M a aA=>aR (X 1) fun aM aL aK=>aR (X 2) fun bO b3 bN=>a0 .i64 (X 6) fun b=>bM.t Y b1 M a aA aM aL aK bO b3 bN b Z
theorem bM.ok(Y:aF)(b1:S→Nat→Nat→S→Nat→Nat→S→Nat→Nat→Int→U→Prop)(X:Fr)(Z:U)(g:bM.g Y b1 X Z):den prog E (a6 aO [W,aJ,aJ]) (aV.then (dG.g b1) (aV.inBlock 0 (bC E [] Y))) X Z:=
 bF g fun M a aA b g=>bF g fun aM aL aK c g=>bF g fun bO b3 bN d g=>bJ g fun e f g=>bV [(0,.slice M a aA),(1,.slice aM aL aK),(2,.slice bO b3 bN),(6,.int .i64 e)] ⟨b,c,d,f,trivial⟩ (by kernel_rfl) g
def dG.t(Y:aF):Nat→S→Nat→Nat→S→Nat→Nat→S→Nat→Nat→Int→U→Prop
 | 0=>fun _ _ _ _ _ _ _ _ _ _ _=>False
 | n+1=>fun M a aA aM aL aK bO b3 bN b Z=>bM.t Y (dG.t Y n) M a aA aM aL aK bO b3 bN b Z
theorem dG.ok(Y:aF)(X:Fr)(Z:U)(g:dG.g (fun M a aA aM aL aK bO b3 bN b Z=>∃ n,dG.t Y n M a aA aM aL aK bO b3 bN b Z) X Z):den prog E (a6 aO [W,aJ]) (aV.inBlock 0 (bC E [] Y)) X Z:=by
 obtain⟨M,a,aA,c,g⟩:=b2 g
 obtain⟨aM,aL,aK,d,g⟩:=b2 g
 obtain⟨bO,b3,bN,e,g⟩:=b2 g
 obtain⟨b,f,g⟩:=bT g
 obtain⟨n,g⟩:=g
 refine fF (fun n=>dG.g (dG.t Y n)) (K:=(a6 aO [W,aJ,aJ])) (by kernel_rfl) (fun X Z g=>?_) (fun n=>bM.ok Y (dG.t Y n)) n X Z (bL c (bL d (bL e (b0 f (g)))))
 obtain⟨M,a,aA,c,g⟩:=b2 g
 obtain⟨aM,aL,aK,d,g⟩:=b2 g
 obtain⟨bO,b3,bN,e,g⟩:=b2 g
 obtain⟨b,f,g⟩:=bT g
 exact g
theorem fQ.ok(Y:aF)(X:Fr)(Z:U)(g:dG.g (fun M a aA aM aL aK bO b3 bN b Z=>∃ n,dG.t Y n M a aA aM aL aK bO b3 bN b Z) X Z):den prog E (a6 aO [W]) (bC E [] Y) X Z:=
 e3 (by kernel_rfl) (dG.ok Y X Z g)
def aP.t(Y:aF)(M:S)(a aA:Nat)(aM:S)(aL aK:Nat)(bO:S)(b3 bN:Nat)(Z:U):Prop:=
 (∃ n,dG.t Y n M a aA aM aL aK bO b3 bN 0 Z)
def aP.g(Y:aF)(X:Fr)(Z:U):Prop:=aR (X 0) fun M a aA=>aR (X 1) fun aM aL aK=>aR (X 2) fun bO b3 bN=>aP.t Y M a aA aM aL aK bO b3 bN Z
theorem aP.ok(Y:aF)(X:Fr)(Z:U)(g:aP.g Y X Z):den prog E aO (bC E [] Y) X Z:=
 bF g fun M a aA b g=>bF g fun aM aL aK c g=>bF g fun bO b3 bN d g=>c5 1 (r:=(a6 aO [W])) (by kernel_rfl) (fQ.ok Y) (bV [(0,.slice M a aA),(1,.slice aM aL aK),(2,.slice bO b3 bN)] ⟨b,c,d,trivial⟩ (by kernel_rfl) g)
def t(M:S)(a aA:Nat)(aM:S)(aL aK:Nat)(bO:S)(b3 bN:Nat)(Z:U)(Y:aF):Prop:=aP.t Y M a aA aM aL aK bO b3 bN Z
theorem ok{M:S}{a:Nat}{aA:Nat}{aM:S}{aL:Nat}{aK:Nat}{bO:S}{b3:Nat}{bN:Nat}{Z:U}{Y:aF}(g:t M a aA aM aL aK bO b3 bN Z Y):a4 id #[.slice M a aA,.slice aM aL aK,.slice bO b3 bN] Z Y:=
 eD dT (c:=aO) (dH:=[]) Tryz.func123 (by kernel_rfl) (by kernel_rfl) (by kernel_rfl) (args:=[.slice M a aA,.slice aM aL aK,.slice bO b3 bN]) (by kernel_rfl) (aP.ok Y _ Z (bL rfl (bL rfl (bL rfl (g)))))
end o9
namespace vJ
noncomputable def aO:Code:=dY Tryz.f124
def aP.t(Y:aF)(M:S)(a aA:Nat)(aM:S)(aL aK:Nat)(bO:S)(b3 bN:Nat)(Z:U):Prop:=
 bB (IntKind.i64.wrap ((((aL:Nat):Int))+1)) fun eF=>
 (2:Int) ≠ 0∧bB (IntKind.i64.wrap (Int.tdiv eF 2)) fun b=>
 a4 s8.id #[.slice aM aL aK,.int .i64 b] Z fun c d=>
 cW c fun c=>
 cU c fun c e f g=>
 cU g fun g h i j=>
 b9 j <| a4 s8.id #[.slice bO b3 bN,.int .i64 b] d fun d j=>
 cW d fun d=>
 cU d fun d k l m=>
 cU m fun m n o p=>
 b9 p <| a4 o8.id #[.slice c e f,.slice d k l] j fun j p=>
 aR j fun j q r=>
 a4 o8.id #[.slice g h i,.slice m n o] p fun p s=>
 aR p fun p u v=>
 a4 qW.id #[.slice c e f,.slice g h i] s fun c e=>
 aR c fun c f g=>
 a4 qW.id #[.slice d k l,.slice m n o] e fun d e=>
 aR d fun d h i=>
 a4 o8.id #[.slice c f g,.slice d h i] e fun c d=>
 aR c fun c e f=>
 a4 kX.id #[.slice c e f,.slice j q r] d fun d g=>
 cW d fun d=>
 b9 d <| a4 kX.id #[.slice c e f,.slice p u v] g fun d g=>
 cW d fun d=>
 b9 d <| n5 g 1 M a (.slice j q r) fun d d=>
 a4 m1.id #[.slice c e f] d fun c d=>
 aR c fun c e f=>
 a4 kA.id #[.slice M a aA,.slice c e f,.int .i64 b] d fun c d=>
 cW c fun c=>
 b9 c <| bB (IntKind.i64.wrap (2*b)) fun b=>
 a4 kA.id #[.slice M a aA,.slice p u v,.int .i64 b] d fun a b=>
 cW a fun a=>
 b9 a <| Y (.tuple #[]) b
def aP.g(Y:aF)(X:Fr)(Z:U):Prop:=aR (X 0) fun M a aA=>aR (X 1) fun aM aL aK=>aR (X 2) fun bO b3 bN=>aP.t Y M a aA aM aL aK bO b3 bN Z
theorem aP.ok(Y:aF)(X:Fr)(Z:U)(g:aP.g Y X Z):den prog E aO (bC E [] Y) X Z:=
 bF g fun M a aA b g=>bF g fun aM aL aK c g=>bF g fun bO b3 bN d g=>bV [(0,.slice M a aA),(1,.slice aM aL aK),(2,.slice bO b3 bN)] ⟨b,c,d,trivial⟩ (by kernel_rfl) g
def t(M:S)(a aA:Nat)(aM:S)(aL aK:Nat)(bO:S)(b3 bN:Nat)(Z:U)(Y:aF):Prop:=aP.t Y M a aA aM aL aK bO b3 bN Z
theorem ok{M:S}{a:Nat}{aA:Nat}{aM:S}{aL:Nat}{aK:Nat}{bO:S}{b3:Nat}{bN:Nat}{Z:U}{Y:aF}(g:t M a aA aM aL aK bO b3 bN Z Y):a4 id #[.slice M a aA,.slice aM aL aK,.slice bO b3 bN] Z Y:=
 eD dT (c:=aO) (dH:=[]) Tryz.func124 (by kernel_rfl) (by kernel_rfl) (by kernel_rfl) (args:=[.slice M a aA,.slice aM aL aK,.slice bO b3 bN]) (by kernel_rfl) (aP.ok Y _ Z (bL rfl (bL rfl (bL rfl (g)))))
end vJ
namespace pU
noncomputable def aO:Code:=dY Tryz.f125
def a5.t(Y:aF)(M:S)(a aA:Nat)(aS:Int)(Z:U):Prop:=
 (32:Int) ≠ 0∧bB (IntKind.i64.wrap (Int.tdiv aS 32)) fun b=>
 c6 M a b 1 fun a=>
 eO Z .u32 a fun a=>
 (32:Int) ≠ 0∧bB (Int.tmod aS 32) fun b=>
 0≤b∧bB (hG .u32 a b) fun a=>
 bB (j1 .u32 a 1) fun a=>
 bB (IntKind.i64.wrap a) fun a=>
 Y (.int .i64 a) Z
def a5.g(Y:aF)(X:Fr)(Z:U):Prop:=aR (X 0) fun M a aA=>a0 .i64 (X 1) fun aS=>a5.t Y M a aA aS Z
theorem a5.ok(Y:aF)(X:Fr)(Z:U)(g:a5.g Y X Z):den prog E (a6 aO [W,W]) (bC E [.tmp 4] Y) X Z:=
 bF g fun M a aA b g=>bJ g fun aS c g=>bV [(0,.slice M a aA),(1,.int .i64 aS)] ⟨b,c,trivial⟩ (by kernel_rfl) g
def aP.t(Y:aF)(M:S)(a aA:Nat)(aS:Int)(Z:U):Prop:=
 cond (decide (aS < 0)) (Y (.int .i64 0) Z) ((32:Int) ≠ 0∧bB (IntKind.i64.wrap (Int.tdiv aS 32)) fun eF=>
 cond (decide (eF≥(((a:Nat):Int)))) (Y (.int .i64 0) Z) (a5.t Y M a aA aS Z))
def aP.g(Y:aF)(X:Fr)(Z:U):Prop:=aR (X 0) fun M a aA=>a0 .i64 (X 1) fun aS=>aP.t Y M a aA aS Z
theorem aP.ok(Y:aF)(X:Fr)(Z:U)(g:aP.g Y X Z):den prog E aO (bC E [.tmp 4] Y) X Z:=
 bF g fun M a aA b g=>bJ g fun aS c g=>c5 2 (r:=(a6 aO [W,W])) (by kernel_rfl) (a5.ok Y) (bV [(0,.slice M a aA),(1,.int .i64 aS)] ⟨b,c,trivial⟩ (by kernel_rfl) g)
def t(M:S)(a aA:Nat)(aS:Int)(Z:U)(Y:aF):Prop:=aP.t Y M a aA aS Z
theorem ok{M:S}{a:Nat}{aA:Nat}{aS:Int}{Z:U}{Y:aF}(g:t M a aA aS Z Y):a4 id #[.slice M a aA,.int .i64 aS] Z Y:=
 eD dT (c:=aO) (dH:=[.tmp 4]) Tryz.func125 (by kernel_rfl) (by kernel_rfl) (by kernel_rfl) (args:=[.slice M a aA,.int .i64 aS]) (by kernel_rfl) (aP.ok Y _ Z (bL rfl (b0 rfl (g))))
end pU
namespace kA
noncomputable def aO:Code:=dY Tryz.f126
def cP.g(bP:S→Nat→Nat→Int→Int→U→Prop)(X:Fr)(Z:U):Prop:=aR (X 0) fun M a aA=>a0 .u64 (X 6) fun b=>a0 .i64 (X 8) fun c=>bP M a aA b c Z
def cF.t(Y:aF)(a:S→Nat→Nat→Int→Int→U→Prop)(M:S)(b aA:Nat)(c d:Int)(Z:U):Prop:=
 cond (decide (c > 0)) (c6 M b d 1 fun e7=>
 eO Z .u64 e7 fun e=>
 oV e 0 c fun c e=>
 c6 M b d 1 fun f=>
 cM Z f (.int .u64 c) fun c=>
 bB (IntKind.i64.wrap (d+1)) fun d=>
 a M b aA e d c) (Y (.tuple #[]) Z)
def cF.g(Y:aF)(a:S→Nat→Nat→Int→Int→U→Prop)(X:Fr)(Z:U):Prop:=aR (X 0) fun M b aA=>a0 .u64 (X 6) fun c=>a0 .i64 (X 8) fun d=>cF.t Y a M b aA c d Z
theorem cF.ok(Y:aF)(a:S→Nat→Nat→Int→Int→U→Prop)(X:Fr)(Z:U)(g:cF.g Y a X Z):den prog E (a6 aO [W,W,W,aJ,aJ]) (aV.then (cP.g a) (aV.inBlock 2 (bC E [] Y))) X Z:=
 bF g fun M a aA b g=>bJ g fun c d g=>bJ g fun e f g=>bV [(0,.slice M a aA),(6,.int .u64 c),(8,.int .i64 e)] ⟨b,d,f,trivial⟩ (by kernel_rfl) g
def cP.t(Y:aF):Nat→S→Nat→Nat→Int→Int→U→Prop
 | 0=>fun _ _ _ _ _ _=>False
 | n+1=>fun M a aA b c Z=>cF.t Y (cP.t Y n) M a aA b c Z
theorem cP.ok(Y:aF)(X:Fr)(Z:U)(g:cP.g (fun M a aA b c Z=>∃ n,cP.t Y n M a aA b c Z) X Z):den prog E (a6 aO [W,W,W,aJ]) (aV.inBlock 2 (bC E [] Y)) X Z:=by
 obtain⟨M,a,aA,d,g⟩:=b2 g
 obtain⟨b,e,g⟩:=bT g
 obtain⟨c,f,g⟩:=bT g
 obtain⟨n,g⟩:=g
 refine fF (fun n=>cP.g (cP.t Y n)) (K:=(a6 aO [W,W,W,aJ,aJ])) (by kernel_rfl) (fun X Z g=>?_) (fun n=>cF.ok Y (cP.t Y n)) n X Z (bL d (b0 e (b0 f (g))))
 obtain⟨M,a,aA,d,g⟩:=b2 g
 obtain⟨b,e,g⟩:=bT g
 obtain⟨c,f,g⟩:=bT g
 exact g
theorem hV.ok(Y:aF)(X:Fr)(Z:U)(g:cP.g (fun M a aA b c Z=>∃ n,cP.t Y n M a aA b c Z) X Z):den prog E (a6 aO [W,W,W]) (bC E [] Y) X Z:=
 e3 (by kernel_rfl) (cP.ok Y X Z g)
def a5.t(Y:aF)(M:S)(a aA:Nat)(aM:S)(aL aK:Nat)(b c:Int)(Z:U):Prop:=
 bB (IntKind.i64.wrap (b+(((aL:Nat):Int)))) fun eF=>(∃ n,cP.t Y n M a aA c eF Z)
def a5.g(Y:aF)(X:Fr)(Z:U):Prop:=aR (X 0) fun M a aA=>aR (X 1) fun aM aL aK=>a0 .i64 (X 2) fun b=>a0 .u64 (X 6) fun c=>a5.t Y M a aA aM aL aK b c Z
theorem a5.ok(Y:aF)(X:Fr)(Z:U)(g:a5.g Y X Z):den prog E (a6 aO [W,W]) (bC E [] Y) X Z:=
 bF g fun M a aA b g=>bF g fun aM aL aK c g=>bJ g fun d e g=>bJ g fun f h g=>c5 1 (r:=(a6 aO [W,W,W])) (by kernel_rfl) (hV.ok Y) (bV [(0,.slice M a aA),(1,.slice aM aL aK),(2,.int .i64 d),(6,.int .u64 f)] ⟨b,c,e,h,trivial⟩ (by kernel_rfl) g)
def gF.g(bP:S→Nat→Nat→S→Nat→Nat→Int→Int→Int→Int→U→Prop)(X:Fr)(Z:U):Prop:=aR (X 0) fun M a aA=>aR (X 1) fun aM aL aK=>a0 .i64 (X 2) fun b=>a0 .u64 (X 6) fun c=>a0 .i64 (X 10) fun d=>a0 .i64 (X 11) fun e=>bP M a aA aM aL aK b c d e Z
def eZ.t(Y:aF)(a:S→Nat→Nat→S→Nat→Nat→Int→Int→Int→Int→U→Prop)(M:S)(b aA:Nat)(aM:S)(aL aK:Nat)(c d:Int)(e f:Int)(Z:U):Prop:=
 cond (decide (f < e)) (bB (IntKind.i64.wrap (c+f)) fun g=>
 bB (IntKind.i64.wrap (c+f)) fun h=>
 c6 M b h 1 fun h=>
 eO Z .u64 h fun h=>
 c6 aM aL f 1 fun i=>
 eO Z .u64 i fun i=>
 oV h i d fun h i=>
 c6 M b g 1 fun g=>
 cM Z g (.int .u64 h) fun g=>
 bB (IntKind.i64.wrap (f+1)) fun f=>
 a M b aA aM aL aK c i e f g) (a5.t Y M b aA aM aL aK c d Z)
def eZ.g(Y:aF)(a:S→Nat→Nat→S→Nat→Nat→Int→Int→Int→Int→U→Prop)(X:Fr)(Z:U):Prop:=aR (X 0) fun M b aA=>aR (X 1) fun aM aL aK=>a0 .i64 (X 2) fun c=>a0 .u64 (X 6) fun d=>a0 .i64 (X 10) fun e=>a0 .i64 (X 11) fun f=>eZ.t Y a M b aA aM aL aK c d e f Z
theorem eZ.ok(Y:aF)(a:S→Nat→Nat→S→Nat→Nat→Int→Int→Int→Int→U→Prop)(X:Fr)(Z:U)(g:eZ.g Y a X Z):den prog E (a6 aO [W,aJ,W,aJ,aJ]) (aV.then (gF.g a) (aV.inBlock 0 (aV.then (a5.g Y) (bC E [] Y)))) X Z:=
 bF g fun M a aA b g=>bF g fun aM aL aK c g=>bJ g fun d e g=>bJ g fun f h g=>bJ g fun i j g=>bJ g fun k l g=>bV [(0,.slice M a aA),(1,.slice aM aL aK),(2,.int .i64 d),(6,.int .u64 f),(10,.int .i64 i),(11,.int .i64 k)] ⟨b,c,e,h,j,l,trivial⟩ (by kernel_rfl) g
def gF.t(Y:aF):Nat→S→Nat→Nat→S→Nat→Nat→Int→Int→Int→Int→U→Prop
 | 0=>fun _ _ _ _ _ _ _ _ _ _ _=>False
 | n+1=>fun M a aA aM aL aK b c d e Z=>eZ.t Y (gF.t Y n) M a aA aM aL aK b c d e Z
theorem gF.ok(Y:aF)(X:Fr)(Z:U)(g:gF.g (fun M a aA aM aL aK b c d e Z=>∃ n,gF.t Y n M a aA aM aL aK b c d e Z) X Z):den prog E (a6 aO [W,aJ,W,aJ]) (aV.inBlock 0 (aV.then (a5.g Y) (bC E [] Y))) X Z:=by
 obtain⟨M,a,aA,f,g⟩:=b2 g
 obtain⟨aM,aL,aK,h,g⟩:=b2 g
 obtain⟨b,i,g⟩:=bT g
 obtain⟨c,j,g⟩:=bT g
 obtain⟨d,k,g⟩:=bT g
 obtain⟨e,l,g⟩:=bT g
 obtain⟨n,g⟩:=g
 refine fF (fun n=>gF.g (gF.t Y n)) (K:=(a6 aO [W,aJ,W,aJ,aJ])) (by kernel_rfl) (fun X Z g=>?_) (fun n=>eZ.ok Y (gF.t Y n)) n X Z (bL f (bL h (b0 i (b0 j (b0 k (b0 l (g)))))))
 obtain⟨M,a,aA,f,g⟩:=b2 g
 obtain⟨aM,aL,aK,h,g⟩:=b2 g
 obtain⟨b,i,g⟩:=bT g
 obtain⟨c,j,g⟩:=bT g
 obtain⟨d,k,g⟩:=bT g
 obtain⟨e,l,g⟩:=bT g
 exact g
theorem z5.ok(Y:aF)(X:Fr)(Z:U)(g:gF.g (fun M a aA aM aL aK b c d e Z=>∃ n,gF.t Y n M a aA aM aL aK b c d e Z) X Z):den prog E (a6 aO [W,aJ,W]) (aV.then (a5.g Y) (bC E [] Y)) X Z:=
 e3 (by kernel_rfl) (gF.ok Y X Z g)
def dD.t(Y:aF)(M:S)(a aA:Nat)(aM:S)(aL aK:Nat)(b c:Int)(Z:U):Prop:=
 (∃ n,gF.t Y n M a aA aM aL aK b c (((aL:Nat):Int)) 0 Z)
def dD.g(Y:aF)(X:Fr)(Z:U):Prop:=aR (X 0) fun M a aA=>aR (X 1) fun aM aL aK=>a0 .i64 (X 2) fun b=>a0 .u64 (X 6) fun c=>dD.t Y M a aA aM aL aK b c Z
theorem dD.ok(Y:aF)(X:Fr)(Z:U)(g:dD.g Y X Z):den prog E (a6 aO [W,aJ]) (aV.then (a5.g Y) (bC E [] Y)) X Z:=
 bF g fun M a aA b g=>bF g fun aM aL aK c g=>bJ g fun d e g=>bJ g fun f h g=>c5 1 (r:=(a6 aO [W,aJ,W])) (by kernel_rfl) (z5.ok Y) (bV [(0,.slice M a aA),(1,.slice aM aL aK),(2,.int .i64 d),(6,.int .u64 f)] ⟨b,c,e,h,trivial⟩ (by kernel_rfl) g)
theorem z6.ok(Y:aF)(X:Fr)(Z:U)(g:dD.g Y X Z):den prog E (a6 aO [W]) (bC E [] Y) X Z:=
 fP (by kernel_rfl) (a5.ok Y) (dD.ok Y X Z g)
def aP.t(Y:aF)(M:S)(a aA:Nat)(aM:S)(aL aK:Nat)(b:Int)(Z:U):Prop:=
 dD.t Y M a aA aM aL aK b 0 Z
def aP.g(Y:aF)(X:Fr)(Z:U):Prop:=aR (X 0) fun M a aA=>aR (X 1) fun aM aL aK=>a0 .i64 (X 2) fun b=>aP.t Y M a aA aM aL aK b Z
theorem aP.ok(Y:aF)(X:Fr)(Z:U)(g:aP.g Y X Z):den prog E aO (bC E [] Y) X Z:=
 bF g fun M a aA b g=>bF g fun aM aL aK c g=>bJ g fun d e g=>c5 1 (r:=(a6 aO [W])) (by kernel_rfl) (z6.ok Y) (bV [(0,.slice M a aA),(1,.slice aM aL aK),(2,.int .i64 d)] ⟨b,c,e,trivial⟩ (by kernel_rfl) g)
def t(M:S)(a aA:Nat)(aM:S)(aL aK:Nat)(b:Int)(Z:U)(Y:aF):Prop:=aP.t Y M a aA aM aL aK b Z
theorem ok{M:S}{a:Nat}{aA:Nat}{aM:S}{aL:Nat}{aK:Nat}{b:Int}{Z:U}{Y:aF}(g:t M a aA aM aL aK b Z Y):a4 id #[.slice M a aA,.slice aM aL aK,.int .i64 b] Z Y:=
 eD dT (c:=aO) (dH:=[]) Tryz.func126 (by kernel_rfl) (by kernel_rfl) (by kernel_rfl) (args:=[.slice M a aA,.slice aM aL aK,.int .i64 b]) (by kernel_rfl) (aP.ok Y _ Z (bL rfl (bL rfl (b0 rfl (g)))))
end kA
namespace s8
noncomputable def aO:Code:=dY Tryz.f127
def aP.t(Y:aF)(M:S)(a aA:Nat)(aS:Int)(Z:U):Prop:=
 cond (decide (aS≥(((a:Nat):Int)))) (iR 1 M a aA none (some (.int .i64 (((a:Nat):Int)))) (some (.int .i64 (((a:Nat):Int)))) fun b c d=>
 a4 m1.id #[.slice b c d] Z fun b c=>
 aR b fun b d e=>
 Y (.tuple #[.slice b d e,.slice none 0 0]) c) (iR 1 M a aA none (some (.int .i64 aS)) (some (.int .i64 aS)) fun b c d=>
 a4 m1.id #[.slice b c d] Z fun b c=>
 aR b fun b d e=>
 iR 1 M a aA (some (.int .i64 aS)) (some (.int .i64 (((a:Nat):Int)))) (some (.int .i64 (((a:Nat):Int)))) fun a f g=>
 Y (.tuple #[.slice b d e,.slice a f g]) c)
def aP.g(Y:aF)(X:Fr)(Z:U):Prop:=aR (X 0) fun M a aA=>a0 .i64 (X 1) fun aS=>aP.t Y M a aA aS Z
theorem aP.ok(Y:aF)(X:Fr)(Z:U)(g:aP.g Y X Z):den prog E aO (bC E [.tmp 4,.tmp 5] Y) X Z:=
 bF g fun M a aA b g=>bJ g fun aS c g=>bV [(0,.slice M a aA),(1,.int .i64 aS)] ⟨b,c,trivial⟩ (by kernel_rfl) g
def t(M:S)(a aA:Nat)(aS:Int)(Z:U)(Y:aF):Prop:=aP.t Y M a aA aS Z
theorem ok{M:S}{a:Nat}{aA:Nat}{aS:Int}{Z:U}{Y:aF}(g:t M a aA aS Z Y):a4 id #[.slice M a aA,.int .i64 aS] Z Y:=
 eD dT (c:=aO) (dH:=[.tmp 4,.tmp 5]) Tryz.func127 (by kernel_rfl) (by kernel_rfl) (by kernel_rfl) (args:=[.slice M a aA,.int .i64 aS]) (by kernel_rfl) (aP.ok Y _ Z (bL rfl (b0 rfl (g))))
end s8
namespace qW
noncomputable def aO:Code:=dY Tryz.f128
def a5.t(Y:aF)(M:S)(a aA:Nat)(aM:S)(aL aK:Nat)(Z:U):Prop:=
 bB (IntKind.i64.wrap ((((a:Nat):Int))+1)) fun eF=>
 iS Z 35 j6 eF eF fun e7 b=>
 n5 b 1 (some e7) eF.toNat (.slice M a aA) fun a a=>
 a4 kA.id #[.slice (some e7) eF.toNat eF.toNat,.slice aM aL aK,.int .i64 0] a fun a b=>
 cW a fun a=>
 b9 a <| a4 m1.id #[.slice (some e7) eF.toNat eF.toNat] b fun a b=>
 aR a fun a c d=>
 Y (.slice a c d) b
def a5.g(Y:aF)(X:Fr)(Z:U):Prop:=aR (X 0) fun M a aA=>aR (X 1) fun aM aL aK=>a5.t Y M a aA aM aL aK Z
theorem a5.ok(Y:aF)(X:Fr)(Z:U)(g:a5.g Y X Z):den prog E (a6 aO [W,W]) (bC E [.tmp 4] Y) X Z:=
 bF g fun M a aA b g=>bF g fun aM aL aK c g=>bV [(0,.slice M a aA),(1,.slice aM aL aK)] ⟨b,c,trivial⟩ (by kernel_rfl) g
def aP.t(Y:aF)(M:S)(a aA:Nat)(aM:S)(aL aK:Nat)(Z:U):Prop:=
 cond (decide ((((a:Nat):Int)) < (((aL:Nat):Int)))) (a5.t Y aM aL aK M a aA Z) (a5.t Y M a aA aM aL aK Z)
def aP.g(Y:aF)(X:Fr)(Z:U):Prop:=aR (X 0) fun M a aA=>aR (X 1) fun aM aL aK=>aP.t Y M a aA aM aL aK Z
theorem aP.ok(Y:aF)(X:Fr)(Z:U)(g:aP.g Y X Z):den prog E aO (bC E [.tmp 4] Y) X Z:=
 bF g fun M a aA b g=>bF g fun aM aL aK c g=>c5 2 (r:=(a6 aO [W,W])) (by kernel_rfl) (a5.ok Y) (bV [(0,.slice M a aA),(1,.slice aM aL aK)] ⟨b,c,trivial⟩ (by kernel_rfl) g)
def t(M:S)(a aA:Nat)(aM:S)(aL aK:Nat)(Z:U)(Y:aF):Prop:=aP.t Y M a aA aM aL aK Z
theorem ok{M:S}{a:Nat}{aA:Nat}{aM:S}{aL:Nat}{aK:Nat}{Z:U}{Y:aF}(g:t M a aA aM aL aK Z Y):a4 id #[.slice M a aA,.slice aM aL aK] Z Y:=
 eD dT (c:=aO) (dH:=[.tmp 4]) Tryz.func128 (by kernel_rfl) (by kernel_rfl) (by kernel_rfl) (args:=[.slice M a aA,.slice aM aL aK]) (by kernel_rfl) (aP.ok Y _ Z (bL rfl (bL rfl (g))))
end qW
namespace kX
noncomputable def aO:Code:=dY Tryz.f129
def cP.g(bP:S→Nat→Nat→Int→Int→U→Prop)(X:Fr)(Z:U):Prop:=aR (X 0) fun M a aA=>a0 .u64 (X 4) fun b=>a0 .i64 (X 6) fun c=>bP M a aA b c Z
def cF.t(Y:aF)(a:S→Nat→Nat→Int→Int→U→Prop)(M:S)(b aA:Nat)(c d:Int)(Z:U):Prop:=
 cond (decide (c > 0)) (c6 M b d 1 fun cQ=>
 eO Z .u64 cQ fun e=>
 sL e 0 c fun c e=>
 c6 M b d 1 fun f=>
 cM Z f (.int .u64 c) fun c=>
 bB (IntKind.i64.wrap (d+1)) fun d=>
 a M b aA e d c) (Y (.tuple #[]) Z)
def cF.g(Y:aF)(a:S→Nat→Nat→Int→Int→U→Prop)(X:Fr)(Z:U):Prop:=aR (X 0) fun M b aA=>a0 .u64 (X 4) fun c=>a0 .i64 (X 6) fun d=>cF.t Y a M b aA c d Z
theorem cF.ok(Y:aF)(a:S→Nat→Nat→Int→Int→U→Prop)(X:Fr)(Z:U)(g:cF.g Y a X Z):den prog E (a6 aO [W,W,W,aJ,aJ]) (aV.then (cP.g a) (aV.inBlock 2 (bC E [] Y))) X Z:=
 bF g fun M a aA b g=>bJ g fun c d g=>bJ g fun e f g=>bV [(0,.slice M a aA),(4,.int .u64 c),(6,.int .i64 e)] ⟨b,d,f,trivial⟩ (by kernel_rfl) g
def cP.t(Y:aF):Nat→S→Nat→Nat→Int→Int→U→Prop
 | 0=>fun _ _ _ _ _ _=>False
 | n+1=>fun M a aA b c Z=>cF.t Y (cP.t Y n) M a aA b c Z
theorem cP.ok(Y:aF)(X:Fr)(Z:U)(g:cP.g (fun M a aA b c Z=>∃ n,cP.t Y n M a aA b c Z) X Z):den prog E (a6 aO [W,W,W,aJ]) (aV.inBlock 2 (bC E [] Y)) X Z:=by
 obtain⟨M,a,aA,d,g⟩:=b2 g
 obtain⟨b,e,g⟩:=bT g
 obtain⟨c,f,g⟩:=bT g
 obtain⟨n,g⟩:=g
 refine fF (fun n=>cP.g (cP.t Y n)) (K:=(a6 aO [W,W,W,aJ,aJ])) (by kernel_rfl) (fun X Z g=>?_) (fun n=>cF.ok Y (cP.t Y n)) n X Z (bL d (b0 e (b0 f (g))))
 obtain⟨M,a,aA,d,g⟩:=b2 g
 obtain⟨b,e,g⟩:=bT g
 obtain⟨c,f,g⟩:=bT g
 exact g
theorem hV.ok(Y:aF)(X:Fr)(Z:U)(g:cP.g (fun M a aA b c Z=>∃ n,cP.t Y n M a aA b c Z) X Z):den prog E (a6 aO [W,W,W]) (bC E [] Y) X Z:=
 e3 (by kernel_rfl) (cP.ok Y X Z g)
def a5.t(Y:aF)(M:S)(a aA:Nat)(aM:S)(aL aK:Nat)(b:Int)(Z:U):Prop:=
 (∃ n,cP.t Y n M a aA b (((aL:Nat):Int)) Z)
def a5.g(Y:aF)(X:Fr)(Z:U):Prop:=aR (X 0) fun M a aA=>aR (X 1) fun aM aL aK=>a0 .u64 (X 4) fun b=>a5.t Y M a aA aM aL aK b Z
theorem a5.ok(Y:aF)(X:Fr)(Z:U)(g:a5.g Y X Z):den prog E (a6 aO [W,W]) (bC E [] Y) X Z:=
 bF g fun M a aA b g=>bF g fun aM aL aK c g=>bJ g fun d e g=>c5 1 (r:=(a6 aO [W,W,W])) (by kernel_rfl) (hV.ok Y) (bV [(0,.slice M a aA),(1,.slice aM aL aK),(4,.int .u64 d)] ⟨b,c,e,trivial⟩ (by kernel_rfl) g)
def gF.g(bP:S→Nat→Nat→S→Nat→Nat→Int→Int→Int→U→Prop)(X:Fr)(Z:U):Prop:=aR (X 0) fun M a aA=>aR (X 1) fun aM aL aK=>a0 .u64 (X 4) fun b=>a0 .i64 (X 8) fun c=>a0 .i64 (X 9) fun d=>bP M a aA aM aL aK b c d Z
def eZ.t(Y:aF)(a:S→Nat→Nat→S→Nat→Nat→Int→Int→Int→U→Prop)(M:S)(b aA:Nat)(aM:S)(aL aK:Nat)(c d e:Int)(Z:U):Prop:=
 cond (decide (e < d)) (c6 M b e 1 fun f=>
 eO Z .u64 f fun f=>
 c6 aM aL e 1 fun g=>
 eO Z .u64 g fun g=>
 sL f g c fun f g=>
 c6 M b e 1 fun h=>
 cM Z h (.int .u64 f) fun f=>
 bB (IntKind.i64.wrap (e+1)) fun e=>
 a M b aA aM aL aK g d e f) (a5.t Y M b aA aM aL aK c Z)
def eZ.g(Y:aF)(a:S→Nat→Nat→S→Nat→Nat→Int→Int→Int→U→Prop)(X:Fr)(Z:U):Prop:=aR (X 0) fun M b aA=>aR (X 1) fun aM aL aK=>a0 .u64 (X 4) fun c=>a0 .i64 (X 8) fun d=>a0 .i64 (X 9) fun e=>eZ.t Y a M b aA aM aL aK c d e Z
theorem eZ.ok(Y:aF)(a:S→Nat→Nat→S→Nat→Nat→Int→Int→Int→U→Prop)(X:Fr)(Z:U)(g:eZ.g Y a X Z):den prog E (a6 aO [W,aJ,W,aJ,aJ]) (aV.then (gF.g a) (aV.inBlock 0 (aV.then (a5.g Y) (bC E [] Y)))) X Z:=
 bF g fun M a aA b g=>bF g fun aM aL aK c g=>bJ g fun d e g=>bJ g fun f h g=>bJ g fun i j g=>bV [(0,.slice M a aA),(1,.slice aM aL aK),(4,.int .u64 d),(8,.int .i64 f),(9,.int .i64 i)] ⟨b,c,e,h,j,trivial⟩ (by kernel_rfl) g
def gF.t(Y:aF):Nat→S→Nat→Nat→S→Nat→Nat→Int→Int→Int→U→Prop
 | 0=>fun _ _ _ _ _ _ _ _ _ _=>False
 | n+1=>fun M a aA aM aL aK b c d Z=>eZ.t Y (gF.t Y n) M a aA aM aL aK b c d Z
theorem gF.ok(Y:aF)(X:Fr)(Z:U)(g:gF.g (fun M a aA aM aL aK b c d Z=>∃ n,gF.t Y n M a aA aM aL aK b c d Z) X Z):den prog E (a6 aO [W,aJ,W,aJ]) (aV.inBlock 0 (aV.then (a5.g Y) (bC E [] Y))) X Z:=by
 obtain⟨M,a,aA,e,g⟩:=b2 g
 obtain⟨aM,aL,aK,f,g⟩:=b2 g
 obtain⟨b,h,g⟩:=bT g
 obtain⟨c,i,g⟩:=bT g
 obtain⟨d,j,g⟩:=bT g
 obtain⟨n,g⟩:=g
 refine fF (fun n=>gF.g (gF.t Y n)) (K:=(a6 aO [W,aJ,W,aJ,aJ])) (by kernel_rfl) (fun X Z g=>?_) (fun n=>eZ.ok Y (gF.t Y n)) n X Z (bL e (bL f (b0 h (b0 i (b0 j (g))))))
 obtain⟨M,a,aA,e,g⟩:=b2 g
 obtain⟨aM,aL,aK,f,g⟩:=b2 g
 obtain⟨b,h,g⟩:=bT g
 obtain⟨c,i,g⟩:=bT g
 obtain⟨d,j,g⟩:=bT g
 exact g
theorem z5.ok(Y:aF)(X:Fr)(Z:U)(g:gF.g (fun M a aA aM aL aK b c d Z=>∃ n,gF.t Y n M a aA aM aL aK b c d Z) X Z):den prog E (a6 aO [W,aJ,W]) (aV.then (a5.g Y) (bC E [] Y)) X Z:=
 e3 (by kernel_rfl) (gF.ok Y X Z g)
def dD.t(Y:aF)(M:S)(a aA:Nat)(aM:S)(aL aK:Nat)(b:Int)(Z:U):Prop:=
 (∃ n,gF.t Y n M a aA aM aL aK b (((aL:Nat):Int)) 0 Z)
def dD.g(Y:aF)(X:Fr)(Z:U):Prop:=aR (X 0) fun M a aA=>aR (X 1) fun aM aL aK=>a0 .u64 (X 4) fun b=>dD.t Y M a aA aM aL aK b Z
theorem dD.ok(Y:aF)(X:Fr)(Z:U)(g:dD.g Y X Z):den prog E (a6 aO [W,aJ]) (aV.then (a5.g Y) (bC E [] Y)) X Z:=
 bF g fun M a aA b g=>bF g fun aM aL aK c g=>bJ g fun d e g=>c5 1 (r:=(a6 aO [W,aJ,W])) (by kernel_rfl) (z5.ok Y) (bV [(0,.slice M a aA),(1,.slice aM aL aK),(4,.int .u64 d)] ⟨b,c,e,trivial⟩ (by kernel_rfl) g)
theorem z6.ok(Y:aF)(X:Fr)(Z:U)(g:dD.g Y X Z):den prog E (a6 aO [W]) (bC E [] Y) X Z:=
 fP (by kernel_rfl) (a5.ok Y) (dD.ok Y X Z g)
def aP.t(Y:aF)(M:S)(a aA:Nat)(aM:S)(aL aK:Nat)(Z:U):Prop:=
 dD.t Y M a aA aM aL aK 0 Z
def aP.g(Y:aF)(X:Fr)(Z:U):Prop:=aR (X 0) fun M a aA=>aR (X 1) fun aM aL aK=>aP.t Y M a aA aM aL aK Z
theorem aP.ok(Y:aF)(X:Fr)(Z:U)(g:aP.g Y X Z):den prog E aO (bC E [] Y) X Z:=
 bF g fun M a aA b g=>bF g fun aM aL aK c g=>c5 1 (r:=(a6 aO [W])) (by kernel_rfl) (z6.ok Y) (bV [(0,.slice M a aA),(1,.slice aM aL aK)] ⟨b,c,trivial⟩ (by kernel_rfl) g)
def t(M:S)(a aA:Nat)(aM:S)(aL aK:Nat)(Z:U)(Y:aF):Prop:=aP.t Y M a aA aM aL aK Z
theorem ok{M:S}{a:Nat}{aA:Nat}{aM:S}{aL:Nat}{aK:Nat}{Z:U}{Y:aF}(g:t M a aA aM aL aK Z Y):a4 id #[.slice M a aA,.slice aM aL aK] Z Y:=
 eD dT (c:=aO) (dH:=[]) Tryz.func129 (by kernel_rfl) (by kernel_rfl) (by kernel_rfl) (args:=[.slice M a aA,.slice aM aL aK]) (by kernel_rfl) (aP.ok Y _ Z (bL rfl (bL rfl (g))))
end kX
end Go.Proofs.YtjijdlkpmngolaaGreat.G
