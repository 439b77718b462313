import Derived.Test.YtjijdlkpmngolaaGreatKE
namespace Go.Proofs.YtjijdlkpmngolaaGreat.G
open Go.Gv
set_option linter.unusedVariables false
set_option maxRecDepth 100000
namespace n4
noncomputable def aO:Code:=dO Tryz.f8
def b9.t(Y:aD)(aK a:Int)(b:Addr)(c:Int)(d:M)(e f:Nat)(Z:U):Prop:=
 c ≠ 0∧a6 (Int.tmod a c) fun a=>
 a6 (IntKind.u64.wrap (c+a)) fun a=>
 a0 n3.id #[.int .u64 a,.int .i64 aK,.int .i64 400] Z fun c g=>
 c1 c fun c=>
 cR c fun c h i j=>
 cR j fun j j j j=>
 b6 j <| cX g .u64 (b.add 0) fun b=>
 cond (a == b) (Y (.bool true) g) (a0 h8.id #[.slice c h i,.slice d e f] g fun a b=>
 aW .i64 a fun a=>
 Y (.bool (decide (a > 0))) b)
def b9.g(Y:aD)(X:Fr)(Z:U):Prop:=aW .i64 (X 1) fun aK=>aW .u64 (X 2) fun a=>fU (X 7) fun b=>aW .u64 (X 9) fun c=>aU (X 10) fun d e f=>b9.t Y aK a b c d e f Z
theorem b9.ok(Y:aD)(X:Fr)(Z:U)(g:b9.g Y X Z):den prog E (a4 aO [W,W,W,W,W,W,W,W,W]) (a7 E [.tmp 6] Y) X Z:=
 a8 g fun aK a g=>a8 g fun b c g=>hH g fun d e g=>a8 g fun f h g=>bE g fun i j k l g=>bT [(1,.int .i64 aK),(2,.int .u64 b),(7,.pointer (some d)),(9,.int .u64 f),(10,.slice i j k)] ⟨a,c,e,h,l,trivial⟩ (by kernel_rfl) g
def cF.t(Y:aD)(aK a:Int)(b:Addr)(c:Int)(d:M)(e f:Nat)(Z:U):Prop:=
 cX Z .i64 (b.add 2) fun g=>
 a6 (IntKind.i64.wrap (400 - g)) fun g=>
 a0 nW.id #[.int .i64 g] Z fun g h=>
 aU g fun g i j=>
 a0 h8.id #[.slice d e f,.slice g i j] h fun g h=>
 aW .i64 g fun g=>
 cond (decide (g≤0)) (Y (.bool false) h) (cX h .i64 (b.add 2) fun g=>
 a6 (IntKind.i64.wrap (401 - g)) fun g=>
 a0 nW.id #[.int .i64 g] h fun g h=>
 aU g fun g i j=>
 a0 h8.id #[.slice d e f,.slice g i j] h fun g h=>
 aW .i64 g fun g=>
 cond (decide (g≥0)) (Y (.bool false) h) (b9.t Y aK a b c d e f h))
def cF.g(Y:aD)(X:Fr)(Z:U):Prop:=aW .i64 (X 1) fun aK=>aW .u64 (X 2) fun a=>fU (X 7) fun b=>aW .u64 (X 9) fun c=>aU (X 10) fun d e f=>cF.t Y aK a b c d e f Z
theorem cF.ok(Y:aD)(X:Fr)(Z:U)(g:cF.g Y X Z):den prog E (a4 aO [W,W,W,W,W,W,W,W]) (a7 E [.tmp 6] Y) X Z:=
 a8 g fun aK a g=>a8 g fun b c g=>hH g fun d e g=>a8 g fun f h g=>bE g fun i j k l g=>c4 1 (r:=(a4 aO [W,W,W,W,W,W,W,W,W])) (by kernel_rfl) (b9.ok Y) (bT [(1,.int .i64 aK),(2,.int .u64 b),(7,.pointer (some d)),(9,.int .u64 f),(10,.slice i j k)] ⟨a,c,e,h,l,trivial⟩ (by kernel_rfl) g)
def bF.t(Y:aD)(aK a:Int)(b:Addr)(c:Int)(Z:U):Prop:=
 cX Z .u64 (b.add 0) fun d=>
 a0 n3.id #[.int .u64 d,.int .i64 aK,.int .i64 400] Z fun d e=>
 c1 d fun d=>
 cR d fun d f g h=>
 cR h fun h i j k=>
 b6 k <| a0 kX.id #[.slice h i j] e fun h i=>
 aU h fun h j k=>
 (eN e.size e i)∧(b.add 1).block < e.size∧dP i (b.add 1) fun l m n=>
 qE lU.id #[.slice h j k,.slice l m n] i fun h=>
 eS h fun h=>
 cond (!h) (Y (.bool false) i) ((b.add 2).block < e.size∧cX i .i64 (b.add 2) fun h=>
 cond (decide (h > 400)) (Y (.bool false) i) ((b.add 2).block < e.size∧cX i .i64 (b.add 2) fun e=>
 cond (decide (e < (-8))) (Y (.bool false) i) (cF.t Y aK a b c d f g i)))
def bF.g(Y:aD)(X:Fr)(Z:U):Prop:=aW .i64 (X 1) fun aK=>aW .u64 (X 2) fun a=>fU (X 7) fun b=>aW .u64 (X 9) fun c=>bF.t Y aK a b c Z
theorem bF.ok(Y:aD)(X:Fr)(Z:U)(g:bF.g Y X Z):den prog E (a4 aO [W,W,W,W,W,W]) (a7 E [.tmp 6] Y) X Z:=
 a8 g fun aK a g=>a8 g fun b c g=>hH g fun d e g=>a8 g fun f h g=>c4 2 (r:=(a4 aO [W,W,W,W,W,W,W,W])) (by kernel_rfl) (cF.ok Y) (bT [(1,.int .i64 aK),(2,.int .u64 b),(7,.pointer (some d)),(9,.int .u64 f)] ⟨a,c,e,h,trivial⟩ (by kernel_rfl) g)
def aZ.t(Y:aD)(aX aK a:Int)(b:Addr)(c:Int)(Z:U):Prop:=
 a6 (IntKind.i64.wrap (aX - 1)) fun d=>
 0≤d∧a6 (hW .u64 1 d) fun d=>
 cond (c != 0) (Y (.bool false) Z) (cX Z .u64 (b.add 0) fun c=>
 cond (decide (c < d)) (Y (.bool false) Z) (cX Z .u64 (b.add 0) fun c=>
 a6 (IntKind.u64.wrap (2*d)) fun e=>
 cond (decide (c≥e)) (Y (.bool false) Z) (bF.t Y aK a b d Z)))
def aZ.g(Y:aD)(X:Fr)(Z:U):Prop:=aW .i64 (X 0) fun aX=>aW .i64 (X 1) fun aK=>aW .u64 (X 2) fun a=>fU (X 7) fun b=>aW .i64 (X 8) fun c=>aZ.t Y aX aK a b c Z
theorem aZ.ok(Y:aD)(X:Fr)(Z:U)(g:aZ.g Y X Z):den prog E (a4 aO [W,W,W,W]) (a7 E [.tmp 6] Y) X Z:=
 a8 g fun aX a g=>a8 g fun aK b g=>a8 g fun c d g=>hH g fun e f g=>a8 g fun h i g=>c4 2 (r:=(a4 aO [W,W,W,W,W,W])) (by kernel_rfl) (bF.ok Y) (bT [(0,.int .i64 aX),(1,.int .i64 aK),(2,.int .u64 c),(7,.pointer (some e)),(8,.int .i64 h)] ⟨a,b,d,f,i,trivial⟩ (by kernel_rfl) g)
def aM.t(Y:aD)(aX aK a:Int)(Z:U):Prop:=
 a0 nG.id #[] Z fun b c=>
 eS b fun b=>
 cond (!b) (Y (.bool false) c) (a0 jW.id #[.int .i64 aX,.int .i64 aK] c fun b c=>
 c1 b fun b=>
 cW b fun b d=>
 eA b fun b=>
 dM b .u64 fun b e=>
 cR e fun e f g h=>
 dM h .i64 fun h i=>
 b6 i <| dM d .i64 fun d i=>
 b6 i <| dN c 39 u0.a3 fun c i=>
 b3 i (c.add 0) (.int .u64 b) fun b=>
 b3 b (c.add 1) (.slice e f g) fun b=>
 b3 b (c.add 2) (.int .i64 h) fun b=>
 cond (decide (aX < 1)) (cond (d == 1) (cX b .u64 (c.add 0) fun e=>
 cond (e == 0) (dP b (c.add 1) fun e e f=>
 cond ((((e:Nat):Int)) == 0) (cX b .i64 (c.add 2) fun e=>
 Y (.bool (e == 0)) b) (Y (.bool false) b)) (Y (.bool false) b)) (Y (.bool false) b)) (cond (decide (aX > 53)) (cond (d == 1) (cX b .u64 (c.add 0) fun e=>
 cond (e == 0) (dP b (c.add 1) fun e e f=>
 cond ((((e:Nat):Int)) == 0) (cX b .i64 (c.add 2) fun e=>
 Y (.bool (e == 0)) b) (Y (.bool false) b)) (Y (.bool false) b)) (Y (.bool false) b)) (cond (decide (aK < (-64))) (cond (d == 1) (cX b .u64 (c.add 0) fun e=>
 cond (e == 0) (dP b (c.add 1) fun e e f=>
 cond ((((e:Nat):Int)) == 0) (cX b .i64 (c.add 2) fun e=>
 Y (.bool (e == 0)) b) (Y (.bool false) b)) (Y (.bool false) b)) (Y (.bool false) b)) (cond (decide (aK > 971)) (cond (d == 1) (cX b .u64 (c.add 0) fun e=>
 cond (e == 0) (dP b (c.add 1) fun e e f=>
 cond ((((e:Nat):Int)) == 0) (cX b .i64 (c.add 2) fun e=>
 Y (.bool (e == 0)) b) (Y (.bool false) b)) (Y (.bool false) b)) (Y (.bool false) b)) (aZ.t Y aX aK a c d b)))))
def aM.g(Y:aD)(X:Fr)(Z:U):Prop:=aW .i64 (X 0) fun aX=>aW .i64 (X 1) fun aK=>aW .u64 (X 2) fun a=>aM.t Y aX aK a Z
theorem aM.ok(Y:aD)(X:Fr)(Z:U)(g:aM.g Y X Z):den prog E aO (a7 E [.tmp 6] Y) X Z:=
 a8 g fun aX a g=>a8 g fun aK b g=>a8 g fun c d g=>c4 4 (r:=(a4 aO [W,W,W,W])) (by kernel_rfl) (aZ.ok Y) (bT [(0,.int .i64 aX),(1,.int .i64 aK),(2,.int .u64 c)] ⟨a,b,d,trivial⟩ (by kernel_rfl) g)
def t(aX aK a:Int)(Z:U)(Y:aD):Prop:=aM.t Y aX aK a Z
theorem ok{aX:Int}{aK:Int}{a:Int}{Z:U}{Y:aD}(g:t aX aK a Z Y):a0 id #[.int .i64 aX,.int .i64 aK,.int .u64 a] Z Y:=
 dQ dH (c:=aO) (dE:=[.tmp 6]) Tryz.func8 (by kernel_rfl) (by kernel_rfl) (by kernel_rfl) (args:=[.int .i64 aX,.int .i64 aK,.int .u64 a]) (by kernel_rfl) (aM.ok Y _ Z (bR rfl (bR rfl (bR rfl (g)))))
end n4
namespace mA
noncomputable def aO:Code:=dO Tryz.f9
def bF.t(Y:aD)(a:Addr)(b c:Int)(Z:U):Prop:=
 cond (b == 0) (cX Z .u64 (a.add 0) fun a=>
 Y (.bool (a == c)) Z) (Y (.bool false) Z)
def bF.g(Y:aD)(X:Fr)(Z:U):Prop:=fU (X 5) fun a=>aW .i64 (X 6) fun b=>aW .u64 (X 7) fun c=>bF.t Y a b c Z
theorem bF.ok(Y:aD)(X:Fr)(Z:U)(g:bF.g Y X Z):den prog E (a4 aO [W,W,W,W,W,W,W]) (a7 E [.tmp 4] Y) X Z:=
 hH g fun a b g=>a8 g fun c d g=>a8 g fun e f g=>bT [(5,.pointer (some a)),(6,.int .i64 c),(7,.int .u64 e)] ⟨b,d,f,trivial⟩ (by kernel_rfl) g
def eC.g(a:Int→Int→Addr→Int→Int→M→Nat→Nat→Int→U→Prop)(X:Fr)(Z:U):Prop:=aW .i64 (X 0) fun aX=>aW .i64 (X 1) fun aK=>fU (X 5) fun b=>aW .i64 (X 6) fun c=>aW .u64 (X 7) fun d=>aU (X 8) fun bS e bU=>aW .u64 (X 10) fun f=>a aX aK b c d bS e bU f Z
def dD.t(Y:aD)(a:Int→Int→Addr→Int→Int→M→Nat→Nat→Int→U→Prop)(aX aK:Int)(b:Addr)(c d:Int)(bS:M)(e bU:Nat)(f:Int)(Z:U):Prop:=
 0≤aX∧a6 (hW .u64 1 aX) fun g=>
 cond (decide (f < g)) (a0 n3.id #[.int .u64 f,.int .i64 aK,.int .i64 400] Z fun g h=>
 c1 g fun g=>
 cR g fun g i j k=>
 cR k fun k k k k=>
 b6 k <| a0 h8.id #[.slice g i j,.slice bS e bU] h fun h k=>
 aW .i64 h fun h=>
 cond (decide (h < 0)) (a6 (IntKind.u64.wrap (f+1)) fun h=>
 a aX aK b c f g i j h k) (a6 (IntKind.u64.wrap (f+1)) fun f=>
 a aX aK b c d bS e bU f k)) (bF.t Y b c d Z)
def dD.g(Y:aD)(a:Int→Int→Addr→Int→Int→M→Nat→Nat→Int→U→Prop)(X:Fr)(Z:U):Prop:=aW .i64 (X 0) fun aX=>aW .i64 (X 1) fun aK=>fU (X 5) fun b=>aW .i64 (X 6) fun c=>aW .u64 (X 7) fun d=>aU (X 8) fun bS e bU=>aW .u64 (X 10) fun f=>dD.t Y a aX aK b c d bS e bU f Z
theorem dD.ok(Y:aD)(a:Int→Int→Addr→Int→Int→M→Nat→Nat→Int→U→Prop)(X:Fr)(Z:U)(g:dD.g Y a X Z):den prog E (a4 aO [W,W,W,W,W,W,aR,W,aR,aR]) (a2.then (eC.g a) (a2.inBlock 0 (a2.then (bF.g Y) (a7 E [.tmp 4] Y)))) X Z:=
 a8 g fun aX a g=>a8 g fun aK b g=>hH g fun c d g=>a8 g fun e f g=>a8 g fun h i g=>bE g fun bS j bU k g=>a8 g fun l m g=>bT [(0,.int .i64 aX),(1,.int .i64 aK),(5,.pointer (some c)),(6,.int .i64 e),(7,.int .u64 h),(8,.slice bS j bU),(10,.int .u64 l)] ⟨a,b,d,f,i,k,m,trivial⟩ (by kernel_rfl) g
def eC.t(Y:aD):Nat→Int→Int→Addr→Int→Int→M→Nat→Nat→Int→U→Prop
 | 0=>fun _ _ _ _ _ _ _ _ _ _=>False
 | n+1=>fun aX aK a b c bS d bU e Z=>dD.t Y (eC.t Y n) aX aK a b c bS d bU e Z
theorem eC.ok(Y:aD)(X:Fr)(Z:U)(g:eC.g (fun aX aK a b c bS d bU e Z=>∃ n,eC.t Y n aX aK a b c bS d bU e Z) X Z):den prog E (a4 aO [W,W,W,W,W,W,aR,W,aR]) (a2.inBlock 0 (a2.then (bF.g Y) (a7 E [.tmp 4] Y))) X Z:=by
 obtain⟨aX,f,g⟩:=bN g
 obtain⟨aK,h,g⟩:=bN g
 obtain⟨a,i,g⟩:=mH g
 obtain⟨b,j,g⟩:=bN g
 obtain⟨c,k,g⟩:=bN g
 obtain⟨bS,d,bU,l,g⟩:=b0 g
 obtain⟨e,m,g⟩:=bN g
 obtain⟨n,g⟩:=g
 refine fK (fun n=>eC.g (eC.t Y n)) (K:=(a4 aO [W,W,W,W,W,W,aR,W,aR,aR])) (by kernel_rfl) (fun X Z g=>?_) (fun n=>dD.ok Y (eC.t Y n)) n X Z (bR f (bR h (p9 i (bR j (bR k (bD l (bR m (g))))))))
 obtain⟨aX,f,g⟩:=bN g
 obtain⟨aK,h,g⟩:=bN g
 obtain⟨a,i,g⟩:=mH g
 obtain⟨b,j,g⟩:=bN g
 obtain⟨c,k,g⟩:=bN g
 obtain⟨bS,d,bU,l,g⟩:=b0 g
 obtain⟨e,m,g⟩:=bN g
 exact g
theorem p0.ok(Y:aD)(X:Fr)(Z:U)(g:eC.g (fun aX aK a b c bS d bU e Z=>∃ n,eC.t Y n aX aK a b c bS d bU e Z) X Z):den prog E (a4 aO [W,W,W,W,W,W,aR,W]) (a2.then (bF.g Y) (a7 E [.tmp 4] Y)) X Z:=
 fA (by kernel_rfl) (eC.ok Y X Z g)
def cF.t(Y:aD)(aX aK:Int)(a:Addr)(b c:Int)(bS:M)(d bU:Nat)(Z:U):Prop:=
 a6 (IntKind.u64.wrap (c+1)) fun e=>(∃ n,eC.t Y n aX aK a b c bS d bU e Z)
def cF.g(Y:aD)(X:Fr)(Z:U):Prop:=aW .i64 (X 0) fun aX=>aW .i64 (X 1) fun aK=>fU (X 5) fun a=>aW .i64 (X 6) fun b=>aW .u64 (X 7) fun c=>aU (X 8) fun bS d bU=>cF.t Y aX aK a b c bS d bU Z
theorem cF.ok(Y:aD)(X:Fr)(Z:U)(g:cF.g Y X Z):den prog E (a4 aO [W,W,W,W,W,W,aR]) (a2.then (bF.g Y) (a7 E [.tmp 4] Y)) X Z:=
 a8 g fun aX a g=>a8 g fun aK b g=>hH g fun c d g=>a8 g fun e f g=>a8 g fun h i g=>bE g fun bS j bU k g=>c4 1 (r:=(a4 aO [W,W,W,W,W,W,aR,W])) (by kernel_rfl) (p0.ok Y) (bT [(0,.int .i64 aX),(1,.int .i64 aK),(5,.pointer (some c)),(6,.int .i64 e),(7,.int .u64 h),(8,.slice bS j bU)] ⟨a,b,d,f,i,k,trivial⟩ (by kernel_rfl) g)
theorem p1.ok(Y:aD)(X:Fr)(Z:U)(g:cF.g Y X Z):den prog E (a4 aO [W,W,W,W,W,W]) (a7 E [.tmp 4] Y) X Z:=
 fZ (by kernel_rfl) (bF.ok Y) (cF.ok Y X Z g)
def aZ.t(Y:aD)(aX aK:Int)(Z:U):Prop:=
 a0 jW.id #[.int .i64 aX,.int .i64 aK] Z fun a b=>
 c1 a fun a=>
 cW a fun a c=>
 eA a fun a=>
 dM a .u64 fun a d=>
 cR d fun d e f g=>
 dM g .i64 fun g h=>
 b6 h <| dM c .i64 fun c h=>
 b6 h <| dN b 39 u0.a3 fun b h=>
 b3 h (b.add 0) (.int .u64 a) fun a=>
 b3 a (b.add 1) (.slice d e f) fun a=>
 b3 a (b.add 2) (.int .i64 g) fun a=>
 a6 (IntKind.i64.wrap (aX - 1)) fun d=>
 0≤d∧a6 (hW .u64 1 d) fun d=>
 a0 n3.id #[.int .u64 d,.int .i64 aK,.int .i64 400] a fun a e=>
 c1 a fun a=>
 cR a fun a f g h=>
 cR h fun h h h h=>
 b6 h <| cF.t Y aX aK b c d a f g e
def aZ.g(Y:aD)(X:Fr)(Z:U):Prop:=aW .i64 (X 0) fun aX=>aW .i64 (X 1) fun aK=>aZ.t Y aX aK Z
theorem aZ.ok(Y:aD)(X:Fr)(Z:U)(g:aZ.g Y X Z):den prog E (a4 aO [W,W,W]) (a7 E [.tmp 4] Y) X Z:=
 a8 g fun aX a g=>a8 g fun aK b g=>c4 3 (r:=(a4 aO [W,W,W,W,W,W])) (by kernel_rfl) (p1.ok Y) (bT [(0,.int .i64 aX),(1,.int .i64 aK)] ⟨a,b,trivial⟩ (by kernel_rfl) g)
def aM.t(Y:aD)(aX aK:Int)(Z:U):Prop:=
 a0 nG.id #[] Z fun a b=>
 eS a fun a=>
 cond (!a) (Y (.bool false) b) (cond (decide (aX < 1)) (Y (.bool true) b) (cond (decide (aX > 7)) (Y (.bool true) b) (cond (decide (aK < (-64))) (Y (.bool true) b) (cond (decide (aK > 971)) (Y (.bool true) b) (aZ.t Y aX aK b)))))
def aM.g(Y:aD)(X:Fr)(Z:U):Prop:=aW .i64 (X 0) fun aX=>aW .i64 (X 1) fun aK=>aM.t Y aX aK Z
theorem aM.ok(Y:aD)(X:Fr)(Z:U)(g:aM.g Y X Z):den prog E aO (a7 E [.tmp 4] Y) X Z:=
 a8 g fun aX a g=>a8 g fun aK b g=>c4 3 (r:=(a4 aO [W,W,W])) (by kernel_rfl) (aZ.ok Y) (bT [(0,.int .i64 aX),(1,.int .i64 aK)] ⟨a,b,trivial⟩ (by kernel_rfl) g)
def t(aX aK:Int)(Z:U)(Y:aD):Prop:=aM.t Y aX aK Z
theorem ok{aX:Int}{aK:Int}{Z:U}{Y:aD}(g:t aX aK Z Y):a0 id #[.int .i64 aX,.int .i64 aK] Z Y:=
 dQ dH (c:=aO) (dE:=[.tmp 4]) Tryz.func9 (by kernel_rfl) (by kernel_rfl) (by kernel_rfl) (args:=[.int .i64 aX,.int .i64 aK]) (by kernel_rfl) (aM.ok Y _ Z (bR rfl (bR rfl (g))))
end mA
namespace pZ
noncomputable def aO:Code:=dO Tryz.f10
def bF.t(Y:aD)(a b:Int)(c:Addr)(Z:U):Prop:=
 a0 n3.id #[.int .u64 a,.int .i64 b,.int .i64 400] Z fun a b=>
 c1 a fun a=>
 cR a fun a d e f=>
 cR f fun f f f f=>
 b6 f <| cX b .i64 (c.add 2) fun c=>
 a6 (IntKind.i64.wrap (400 - c)) fun c=>
 a0 nW.id #[.int .i64 c] b fun b c=>
 aU b fun b f g=>
 a0 h8.id #[.slice a d e,.slice b f g] c fun a b=>
 aW .i64 a fun a=>
 Y (.bool (decide (a > 0))) b
def bF.g(Y:aD)(X:Fr)(Z:U):Prop:=aW .u64 (X 7) fun a=>aW .i64 (X 8) fun b=>fU (X 9) fun c=>bF.t Y a b c Z
theorem bF.ok(Y:aD)(X:Fr)(Z:U)(g:bF.g Y X Z):den prog E (a4 aO [W,W,W,W,W,W,W,W,W]) (a7 E [.tmp 2] Y) X Z:=
 a8 g fun a b g=>a8 g fun c d g=>hH g fun e f g=>bT [(7,.int .u64 a),(8,.int .i64 c),(9,.pointer (some e))] ⟨b,d,f,trivial⟩ (by kernel_rfl) g
def aZ.t(Y:aD)(a:Addr)(b:Int)(Z:U):Prop:=
 cX Z .u64 (a.add 0) fun c=>
 cX Z .i64 (a.add 1) fun d=>
 cX Z .i64 (a.add 2) fun e=>
 cX Z .i64 (a.add 3) fun f=>
 cX Z .u64 (a.add 4) fun g=>
 cX Z .u64 (a.add 5) fun a=>
 a0 sX.id #[.agg #[.int .u64 c,.int .i64 d,.int .i64 e,.int .i64 f,.int .u64 g,.int .u64 a],.int .u64 b] Z fun a b=>
 c1 a fun a=>
 dM a .u64 fun a c=>
 dM c .i64 fun c d=>
 b6 d <| cond (decide (c < (-64))) (Y (.bool true) b) (a0 jW.id #[.int .i64 53,.int .i64 c] b fun b d=>
 c1 b fun b=>
 cW b fun b e=>
 eA b fun b=>
 dM b .u64 fun b f=>
 cR f fun f g h i=>
 dM i .i64 fun i j=>
 b6 j <| dM e .i64 fun e j=>
 b6 j <| dN d 39 u0.a3 fun d j=>
 b3 j (d.add 0) (.int .u64 b) fun b=>
 b3 b (d.add 1) (.slice f g h) fun b=>
 b3 b (d.add 2) (.int .i64 i) fun b=>
 cond (e != 0) (Y (.bool false) b) (cX b .i64 (d.add 2) fun e=>
 cond (decide (e > 400)) (Y (.bool false) b) (cX b .i64 (d.add 2) fun e=>
 cond (decide (e < 0)) (Y (.bool false) b) (bF.t Y a c d b))))
def aZ.g(Y:aD)(X:Fr)(Z:U):Prop:=fU (X 3) fun a=>aW .u64 (X 6) fun b=>aZ.t Y a b Z
theorem aZ.ok(Y:aD)(X:Fr)(Z:U)(g:aZ.g Y X Z):den prog E (a4 aO [W,W,W,W,W]) (a7 E [.tmp 2] Y) X Z:=
 hH g fun a b g=>a8 g fun c d g=>c4 4 (r:=(a4 aO [W,W,W,W,W,W,W,W,W])) (by kernel_rfl) (bF.ok Y) (bT [(3,.pointer (some a)),(6,.int .u64 c)] ⟨b,d,trivial⟩ (by kernel_rfl) g)
def aM.t(Y:aD)(aX:Int)(Z:U):Prop:=
 a0 nG.id #[] Z fun a b=>
 eS a fun a=>
 cond (!a) (Y (.bool false) b) (a0 sV.id #[.int .i64 64] b fun a b=>
 c1 a fun a=>
 cW a fun a c=>
 eA a fun a=>
 dM a .u64 fun a d=>
 dM d .i64 fun d e=>
 dM e .i64 fun e f=>
 dM f .i64 fun f g=>
 dM g .u64 fun g h=>
 dM h .u64 fun h i=>
 b6 i <| e9 c fun c c=>
 b6 c <| dN b 59 BM.a3 fun b c=>
 b3 c (b.add 0) (.int .u64 a) fun a=>
 b3 a (b.add 1) (.int .i64 d) fun a=>
 b3 a (b.add 2) (.int .i64 e) fun a=>
 b3 a (b.add 3) (.int .i64 f) fun a=>
 b3 a (b.add 4) (.int .u64 g) fun a=>
 b3 a (b.add 5) (.int .u64 h) fun a=>
 cX a .u64 (b.add 0) fun c=>
 cX a .i64 (b.add 1) fun d=>
 cX a .i64 (b.add 2) fun e=>
 cX a .i64 (b.add 3) fun f=>
 cX a .u64 (b.add 4) fun g=>
 cX a .u64 (b.add 5) fun h=>
 a0 sW.id #[.agg #[.int .u64 c,.int .i64 d,.int .i64 e,.int .i64 f,.int .u64 g,.int .u64 h],.int .u64 aX] a fun a c=>
 c1 a fun a=>
 e9 a fun a a=>
 dM a .u64 fun a d=>
 b6 d <| cX c .u64 (b.add 4) fun d=>
 cond (decide (a≥d)) (Y (.bool true) c) (cond (decide (a < 4503599627370496)) (Y (.bool true) c) (aZ.t Y b a c)))
def aM.g(Y:aD)(X:Fr)(Z:U):Prop:=aW .u64 (X 0) fun aX=>aM.t Y aX Z
theorem aM.ok(Y:aD)(X:Fr)(Z:U)(g:aM.g Y X Z):den prog E aO (a7 E [.tmp 2] Y) X Z:=
 a8 g fun aX a g=>c4 5 (r:=(a4 aO [W,W,W,W,W])) (by kernel_rfl) (aZ.ok Y) (bT [(0,.int .u64 aX)] ⟨a,trivial⟩ (by kernel_rfl) g)
def t(aX:Int)(Z:U)(Y:aD):Prop:=aM.t Y aX Z
theorem ok{aX:Int}{Z:U}{Y:aD}(g:t aX Z Y):a0 id #[.int .u64 aX] Z Y:=
 dQ dH (c:=aO) (dE:=[.tmp 2]) Tryz.func10 (by kernel_rfl) (by kernel_rfl) (by kernel_rfl) (args:=[.int .u64 aX]) (by kernel_rfl) (aM.ok Y _ Z (bR rfl (g)))
end pZ
namespace nG
noncomputable def aO:Code:=dO Tryz.f11
def bF.t(Y:aD)(a:Addr)(Z:U):Prop:=
 cX Z .u64 (a.add 0) fun b=>
 cond (b == 3) (dP Z (a.add 1) fun b c d=>
 dN Z 35 [.int .u64 2] fun e f=>
 qE lU.id #[.slice b c d,.slice (some e) 1 1] f fun b=>
 eS b fun b=>
 cond b (cX f .i64 (a.add 2) fun a=>
 Y (.bool (a == 3)) f) (Y (.bool false) f)) (Y (.bool false) Z)
def bF.g(Y:aD)(X:Fr)(Z:U):Prop:=fU (X 6) fun a=>bF.t Y a Z
theorem bF.ok(Y:aD)(X:Fr)(Z:U)(g:bF.g Y X Z):den prog E (a4 aO [W,W,W,W,W,W]) (a7 E [.tmp 0] Y) X Z:=
 hH g fun a b g=>bT [(6,.pointer (some a))] ⟨b,trivial⟩ (by kernel_rfl) g
def aZ.t(Y:aD)(aJ:M)(aH aG:Nat)(dR:M)(eL dA:Nat)(dZ:M)(fQ eE:Nat)(a:Addr)(Z:U):Prop:=
 dN Z 35 [.int .u64 1,.int .u64 1,.int .u64 1,.int .u64 3,.int .u64 31] fun b c=>
 qE lU.id #[.slice aJ aH aG,.slice (some b) 5 5] c fun b=>
 eS b fun b=>
 cond (!b) (Y (.bool false) c) (dN c 35 [.int .u64 11] fun b c=>
 qE lU.id #[.slice dR eL dA,.slice (some b) 1 1] c fun b=>
 eS b fun b=>
 cond (!b) (Y (.bool false) c) (dN c 35 [.int .u64 7] fun b c=>
 qE lU.id #[.slice dZ fQ eE,.slice (some b) 1 1] c fun b=>
 eS b fun b=>
 cond (!b) (Y (.bool false) c) (bF.t Y a c)))
def aZ.g(Y:aD)(X:Fr)(Z:U):Prop:=aU (X 1) fun aJ aH aG=>aU (X 3) fun dR eL dA=>aU (X 4) fun dZ fQ eE=>fU (X 6) fun a=>aZ.t Y aJ aH aG dR eL dA dZ fQ eE a Z
theorem aZ.ok(Y:aD)(X:Fr)(Z:U)(g:aZ.g Y X Z):den prog E (a4 aO [W,W,W,W,W]) (a7 E [.tmp 0] Y) X Z:=
 bE g fun aJ aH aG a g=>bE g fun dR eL dA b g=>bE g fun dZ fQ eE c g=>hH g fun d e g=>c4 1 (r:=(a4 aO [W,W,W,W,W,W])) (by kernel_rfl) (bF.ok Y) (bT [(1,.slice aJ aH aG),(3,.slice dR eL dA),(4,.slice dZ fQ eE),(6,.pointer (some d))] ⟨a,b,c,e,trivial⟩ (by kernel_rfl) g)
def aM.t(Y:aD)(Z:U):Prop:=
 a0 rF.id #[.int .i64 5] Z fun a b=>
 c1 a fun a=>
 cR a fun a c d e=>
 dM e .i64 fun e f=>
 b6 f <| a0 kU.id #[.int .i64 3] b fun b f=>
 c1 b fun b=>
 cR b fun b g h i=>
 cR i fun i j k l=>
 dM l .i64 fun l m=>
 b6 m <| a0 jW.id #[.int .i64 2,.int .i64 0] f fun f m=>
 c1 f fun f=>
 cW f fun f n=>
 eA f fun f=>
 dM f .u64 fun f o=>
 cR o fun o p q r=>
 dM r .i64 fun r s=>
 b6 s <| dM n .i64 fun n s=>
 b6 s <| dN m 39 u0.a3 fun m s=>
 b3 s (m.add 0) (.int .u64 f) fun f=>
 b3 f (m.add 1) (.slice o p q) fun f=>
 b3 f (m.add 2) (.int .i64 r) fun f=>
 cond (e != 0) (Y (.bool false) f) (cond (l != 0) (Y (.bool false) f) (cond (n != 0) (Y (.bool false) f) (aZ.t Y a c d b g h i j k m f)))
def aM.g(Y:aD)(X:Fr)(Z:U):Prop:=aM.t Y  Z
theorem aM.ok(Y:aD)(X:Fr)(Z:U)(g:aM.g Y X Z):den prog E aO (a7 E [.tmp 0] Y) X Z:=
 c4 5 (r:=(a4 aO [W,W,W,W,W])) (by kernel_rfl) (aZ.ok Y) (bT [] trivial (by kernel_rfl) g)
def t(Z:U)(Y:aD):Prop:=aM.t Y Z
theorem ok{Z:U}{Y:aD}(g:t  Z Y):a0 id #[] Z Y:=
 dQ dH (c:=aO) (dE:=[.tmp 0]) Tryz.func11 (by kernel_rfl) (by kernel_rfl) (by kernel_rfl) (args:=[]) (by kernel_rfl) (aM.ok Y _ Z (g))
end nG
namespace rF
noncomputable def aO:Code:=dO Tryz.f13
def aZ.t(Y:aD)(aX:Int)(Z:U):Prop:=
 a0 g6.id #[.int .i64 aX] Z fun a b=>
 aU a fun a c d=>
 Y (.tuple #[.slice a c d,.int .i64 0]) b
def aZ.g(Y:aD)(X:Fr)(Z:U):Prop:=aW .i64 (X 0) fun aX=>aZ.t Y aX Z
theorem aZ.ok(Y:aD)(X:Fr)(Z:U)(g:aZ.g Y X Z):den prog E (a4 aO [W,W]) (a7 E [.tmp 2,.tmp 3] Y) X Z:=
 a8 g fun aX a g=>bT [(0,.int .i64 aX)] ⟨a,trivial⟩ (by kernel_rfl) g
def aM.t(Y:aD)(aX:Int)(Z:U):Prop:=
 cond (decide (aX < 1)) (Y (.tuple #[.slice none 0 0,.int .i64 1]) Z) (cond (decide (aX > 1000)) (Y (.tuple #[.slice none 0 0,.int .i64 1]) Z) (aZ.t Y aX Z))
def aM.g(Y:aD)(X:Fr)(Z:U):Prop:=aW .i64 (X 0) fun aX=>aM.t Y aX Z
theorem aM.ok(Y:aD)(X:Fr)(Z:U)(g:aM.g Y X Z):den prog E aO (a7 E [.tmp 2,.tmp 3] Y) X Z:=
 a8 g fun aX a g=>c4 2 (r:=(a4 aO [W,W])) (by kernel_rfl) (aZ.ok Y) (bT [(0,.int .i64 aX)] ⟨a,trivial⟩ (by kernel_rfl) g)
def t(aX:Int)(Z:U)(Y:aD):Prop:=aM.t Y aX Z
theorem ok{aX:Int}{Z:U}{Y:aD}(g:t aX Z Y):a0 id #[.int .i64 aX] Z Y:=
 dQ dH (c:=aO) (dE:=[.tmp 2,.tmp 3]) Tryz.func13 (by kernel_rfl) (by kernel_rfl) (by kernel_rfl) (args:=[.int .i64 aX]) (by kernel_rfl) (aM.ok Y _ Z (bR rfl (g)))
end rF
namespace lU
noncomputable def aO:Code:=dO Tryz.f14
def aZ.t(Y:aD)(Z:U):Prop:=
 Y (.bool true) Z
def aZ.g(Y:aD)(X:Fr)(Z:U):Prop:=aZ.t Y  Z
theorem aZ.ok(Y:aD)(X:Fr)(Z:U)(g:aZ.g Y X Z):den prog E (a4 aO [W,W,W]) (a7 E [.tmp 4] Y) X Z:=
 bT [] trivial (by kernel_rfl) g
def bJ.g(a:M→Nat→Nat→M→Nat→Nat→Int→U→Prop)(X:Fr)(Z:U):Prop:=aU (X 0) fun b c d=>aU (X 1) fun aJ aH aG=>aW .i64 (X 5) fun e=>a b c d aJ aH aG e Z
def b9.t(Y:aD)(a:M→Nat→Nat→M→Nat→Nat→Int→U→Prop)(b:M)(c d:Nat)(aJ:M)(aH aG:Nat)(e:Int)(Z:U):Prop:=
 cond (decide (e < (((c:Nat):Int)))) (c2 b c e 1 fun b1=>
 cX Z .u64 b1 fun f=>
 c2 aJ aH e 1 fun dX=>
 cX Z .u64 dX fun g=>
 cond (f != g) (Y (.bool false) Z) (a6 (IntKind.i64.wrap (e+1)) fun e=>
 a b c d aJ aH aG e Z)) (aZ.t Y Z)
def b9.g(Y:aD)(a:M→Nat→Nat→M→Nat→Nat→Int→U→Prop)(X:Fr)(Z:U):Prop:=aU (X 0) fun b c d=>aU (X 1) fun aJ aH aG=>aW .i64 (X 5) fun e=>b9.t Y a b c d aJ aH aG e Z
theorem b9.ok(Y:aD)(a:M→Nat→Nat→M→Nat→Nat→Int→U→Prop)(X:Fr)(Z:U)(g:b9.g Y a X Z):den prog E (a4 aO [W,W,aR,W,aR,aR]) (a2.then (bJ.g a) (a2.inBlock 0 (a2.then (aZ.g Y) (a7 E [.tmp 4] Y)))) X Z:=
 bE g fun a b c d g=>bE g fun aJ aH aG e g=>a8 g fun f h g=>bT [(0,.slice a b c),(1,.slice aJ aH aG),(5,.int .i64 f)] ⟨d,e,h,trivial⟩ (by kernel_rfl) g
def bJ.t(Y:aD):Nat→M→Nat→Nat→M→Nat→Nat→Int→U→Prop
 | 0=>fun _ _ _ _ _ _ _ _=>False
 | n+1=>fun a b c aJ aH aG d Z=>b9.t Y (bJ.t Y n) a b c aJ aH aG d Z
theorem bJ.ok(Y:aD)(X:Fr)(Z:U)(g:bJ.g (fun a b c aJ aH aG d Z=>∃ n,bJ.t Y n a b c aJ aH aG d Z) X Z):den prog E (a4 aO [W,W,aR,W,aR]) (a2.inBlock 0 (a2.then (aZ.g Y) (a7 E [.tmp 4] Y))) X Z:=by
 obtain⟨a,b,c,e,g⟩:=b0 g
 obtain⟨aJ,aH,aG,f,g⟩:=b0 g
 obtain⟨d,h,g⟩:=bN g
 obtain⟨n,g⟩:=g
 refine fK (fun n=>bJ.g (bJ.t Y n)) (K:=(a4 aO [W,W,aR,W,aR,aR])) (by kernel_rfl) (fun X Z g=>?_) (fun n=>b9.ok Y (bJ.t Y n)) n X Z (bD e (bD f (bR h (g))))
 obtain⟨a,b,c,e,g⟩:=b0 g
 obtain⟨aJ,aH,aG,f,g⟩:=b0 g
 obtain⟨d,h,g⟩:=bN g
 exact g
theorem g2.ok(Y:aD)(X:Fr)(Z:U)(g:bJ.g (fun a b c aJ aH aG d Z=>∃ n,bJ.t Y n a b c aJ aH aG d Z) X Z):den prog E (a4 aO [W,W,aR,W]) (a2.then (aZ.g Y) (a7 E [.tmp 4] Y)) X Z:=
 fA (by kernel_rfl) (bJ.ok Y X Z g)
def bF.t(Y:aD)(a:M)(b c:Nat)(aJ:M)(aH aG:Nat)(Z:U):Prop:=
 (∃ n,bJ.t Y n a b c aJ aH aG 0 Z)
def bF.g(Y:aD)(X:Fr)(Z:U):Prop:=aU (X 0) fun a b c=>aU (X 1) fun aJ aH aG=>bF.t Y a b c aJ aH aG Z
theorem bF.ok(Y:aD)(X:Fr)(Z:U)(g:bF.g Y X Z):den prog E (a4 aO [W,W,aR]) (a2.then (aZ.g Y) (a7 E [.tmp 4] Y)) X Z:=
 bE g fun a b c d g=>bE g fun aJ aH aG e g=>c4 1 (r:=(a4 aO [W,W,aR,W])) (by kernel_rfl) (g2.ok Y) (bT [(0,.slice a b c),(1,.slice aJ aH aG)] ⟨d,e,trivial⟩ (by kernel_rfl) g)
theorem g3.ok(Y:aD)(X:Fr)(Z:U)(g:bF.g Y X Z):den prog E (a4 aO [W,W]) (a7 E [.tmp 4] Y) X Z:=
 fZ (by kernel_rfl) (aZ.ok Y) (bF.ok Y X Z g)
def aM.t(Y:aD)(a:M)(b c:Nat)(aJ:M)(aH aG:Nat)(Z:U):Prop:=
 cond ((((b:Nat):Int)) != (((aH:Nat):Int))) (Y (.bool false) Z) (bF.t Y a b c aJ aH aG Z)
def aM.g(Y:aD)(X:Fr)(Z:U):Prop:=aU (X 0) fun a b c=>aU (X 1) fun aJ aH aG=>aM.t Y a b c aJ aH aG Z
theorem aM.ok(Y:aD)(X:Fr)(Z:U)(g:aM.g Y X Z):den prog E aO (a7 E [.tmp 4] Y) X Z:=
 bE g fun a b c d g=>bE g fun aJ aH aG e g=>c4 2 (r:=(a4 aO [W,W])) (by kernel_rfl) (g3.ok Y) (bT [(0,.slice a b c),(1,.slice aJ aH aG)] ⟨d,e,trivial⟩ (by kernel_rfl) g)
def t(a:M)(b c:Nat)(aJ:M)(aH aG:Nat)(Z:U)(Y:aD):Prop:=aM.t Y a b c aJ aH aG Z
theorem ok{a:M}{b:Nat}{d:Nat}{aJ:M}{aH:Nat}{aG:Nat}{Z:U}{Y:aD}(g:t a b d aJ aH aG Z Y):a0 id #[.slice a b d,.slice aJ aH aG] Z Y:=
 dQ dH (c:=aO) (dE:=[.tmp 4]) Tryz.func14 (by kernel_rfl) (by kernel_rfl) (by kernel_rfl) (args:=[.slice a b d,.slice aJ aH aG]) (by kernel_rfl) (aM.ok Y _ Z (bD rfl (bD rfl (g))))
end lU
namespace kU
noncomputable def aO:Code:=dO Tryz.f15
def bF.t(Y:aD)(bY:M)(a bW:Nat)(a9:M)(b bB:Nat)(Z:U):Prop:=
 Y (.tuple #[.slice bY a bW,.slice a9 b bB,.int .i64 0]) Z
def bF.g(Y:aD)(X:Fr)(Z:U):Prop:=aU (X 5) fun bY a bW=>aU (X 6) fun a9 b bB=>bF.t Y bY a bW a9 b bB Z
theorem bF.ok(Y:aD)(X:Fr)(Z:U)(g:bF.g Y X Z):den prog E (a4 aO [W,W,W,W]) (a7 E [.tmp 2,.tmp 3,.tmp 4] Y) X Z:=
 bE g fun bY a bW b g=>bE g fun a9 c bB d g=>bT [(5,.slice bY a bW),(6,.slice a9 c bB)] ⟨b,d,trivial⟩ (by kernel_rfl) g
def eC.g(a:M→Nat→Nat→M→Nat→Nat→M→Nat→Nat→M→Nat→Nat→M→Nat→Nat→Int→Int→U→Prop)(X:Fr)(Z:U):Prop:=aU (X 5) fun bY b bW=>aU (X 6) fun a9 c bB=>aU (X 7) fun cM d cO=>aU (X 8) fun bS e bU=>aU (X 23) fun h3 f iC=>aW .i64 (X 24) fun h=>aW .i64 (X 25) fun i=>a bY b bW a9 c bB cM d cO bS e bU h3 f iC h i Z
def dD.t(Y:aD)(a:M→Nat→Nat→M→Nat→Nat→M→Nat→Nat→M→Nat→Nat→M→Nat→Nat→Int→Int→U→Prop)(bY:M)(b bW:Nat)(a9:M)(c bB:Nat)(cM:M)(d cO:Nat)(bS:M)(e bU:Nat)(h3:M)(f iC:Nat)(g h:Int)(Z:U):Prop:=
 cond (decide (h < g)) (c2 h3 f h 1 fun i=>
 cX Z .u64 i fun i=>
 cond (h == 0) (a0 jT.id #[.int .u64 i] Z fun j k=>
 aU j fun j l m=>
 a0 jT.id #[.int .u64 1] k fun k n=>
 aU k fun k o p=>
 a0 jT.id #[.int .u64 1] n fun n q=>
 aU n fun n r s=>
 a6 (IntKind.i64.wrap (h+1)) fun u=>
 a j l m k o p n r s none 0 0 h3 f iC g u q) (a0 rG.id #[.slice bY b bW,.int .u64 i,.slice cM d cO] Z fun d j=>
 c1 d fun d=>
 cR d fun d k l m=>
 dM m .i64 fun m n=>
 b6 n <| a0 rG.id #[.slice a9 c bB,.int .u64 i,.slice bS e bU] j fun e i=>
 c1 e fun e=>
 cR e fun e j n o=>
 dM o .i64 fun o p=>
 b6 p <| cond (m != 0) (Y (.tuple #[.slice none 0 0,.slice none 0 0,.int .i64 (if o > m then o else m)]) i) (cond (o != 0) (Y (.tuple #[.slice none 0 0,.slice none 0 0,.int .i64 (if o > m then o else m)]) i) (a6 (IntKind.i64.wrap (h+1)) fun h=>
 a d k l e j n bY b bW a9 c bB h3 f iC g h i)))) (bF.t Y bY b bW a9 c bB Z)
def dD.g(Y:aD)(a:M→Nat→Nat→M→Nat→Nat→M→Nat→Nat→M→Nat→Nat→M→Nat→Nat→Int→Int→U→Prop)(X:Fr)(Z:U):Prop:=aU (X 5) fun bY b bW=>aU (X 6) fun a9 c bB=>aU (X 7) fun cM d cO=>aU (X 8) fun bS e bU=>aU (X 23) fun h3 f iC=>aW .i64 (X 24) fun h=>aW .i64 (X 25) fun i=>dD.t Y a bY b bW a9 c bB cM d cO bS e bU h3 f iC h i Z
theorem dD.ok(Y:aD)(a:M→Nat→Nat→M→Nat→Nat→M→Nat→Nat→M→Nat→Nat→M→Nat→Nat→Int→Int→U→Prop)(X:Fr)(Z:U)(g:dD.g Y a X Z):den prog E (a4 aO [W,W,W,aR,W,aR,aR]) (a2.then (eC.g a) (a2.inBlock 0 (a2.then (bF.g Y) (a7 E [.tmp 2,.tmp 3,.tmp 4] Y)))) X Z:=
 bE g fun bY a bW b g=>bE g fun a9 c bB d g=>bE g fun cM e cO f g=>bE g fun bS h bU i g=>bE g fun h3 j iC k g=>a8 g fun l m g=>a8 g fun n o g=>bT [(5,.slice bY a bW),(6,.slice a9 c bB),(7,.slice cM e cO),(8,.slice bS h bU),(23,.slice h3 j iC),(24,.int .i64 l),(25,.int .i64 n)] ⟨b,d,f,i,k,m,o,trivial⟩ (by kernel_rfl) g
def eC.t(Y:aD):Nat→M→Nat→Nat→M→Nat→Nat→M→Nat→Nat→M→Nat→Nat→M→Nat→Nat→Int→Int→U→Prop
 | 0=>fun _ _ _ _ _ _ _ _ _ _ _ _ _ _ _ _ _ _=>False
 | n+1=>fun bY a bW a9 b bB cM c cO bS d bU h3 e iC f g Z=>dD.t Y (eC.t Y n) bY a bW a9 b bB cM c cO bS d bU h3 e iC f g Z
theorem eC.ok(Y:aD)(X:Fr)(Z:U)(g:eC.g (fun bY a bW a9 b bB cM c cO bS d bU h3 e iC f h Z=>∃ n,eC.t Y n bY a bW a9 b bB cM c cO bS d bU h3 e iC f h Z) X Z):den prog E (a4 aO [W,W,W,aR,W,aR]) (a2.inBlock 0 (a2.then (bF.g Y) (a7 E [.tmp 2,.tmp 3,.tmp 4] Y))) X Z:=by
 obtain⟨bY,a,bW,i,g⟩:=b0 g
 obtain⟨a9,b,bB,j,g⟩:=b0 g
 obtain⟨cM,c,cO,k,g⟩:=b0 g
 obtain⟨bS,d,bU,l,g⟩:=b0 g
 obtain⟨h3,e,iC,m,g⟩:=b0 g
 obtain⟨f,o,g⟩:=bN g
 obtain⟨h,p,g⟩:=bN g
 obtain⟨n,g⟩:=g
 refine fK (fun n=>eC.g (eC.t Y n)) (K:=(a4 aO [W,W,W,aR,W,aR,aR])) (by kernel_rfl) (fun X Z g=>?_) (fun n=>dD.ok Y (eC.t Y n)) n X Z (bD i (bD j (bD k (bD l (bD m (bR o (bR p (g))))))))
 obtain⟨bY,a,bW,i,g⟩:=b0 g
 obtain⟨a9,b,bB,j,g⟩:=b0 g
 obtain⟨cM,c,cO,k,g⟩:=b0 g
 obtain⟨bS,d,bU,l,g⟩:=b0 g
 obtain⟨h3,e,iC,m,g⟩:=b0 g
 obtain⟨f,o,g⟩:=bN g
 obtain⟨h,p,g⟩:=bN g
 exact g
theorem p0.ok(Y:aD)(X:Fr)(Z:U)(g:eC.g (fun bY a bW a9 b bB cM c cO bS d bU h3 e iC f h Z=>∃ n,eC.t Y n bY a bW a9 b bB cM c cO bS d bU h3 e iC f h Z) X Z):den prog E (a4 aO [W,W,W,aR,W]) (a2.then (bF.g Y) (a7 E [.tmp 2,.tmp 3,.tmp 4] Y)) X Z:=
 fA (by kernel_rfl) (eC.ok Y X Z g)
def cF.t(Y:aD)(aX:Int)(bY:M)(a bW:Nat)(a9:M)(b bB:Nat)(cM:M)(c cO:Nat)(bS:M)(d bU:Nat)(Z:U):Prop:=
 a6 (IntKind.i64.wrap (aX+1)) fun eF=>
 a0 g6.id #[.int .i64 eF] Z fun e f=>
 aU e fun e g h=>
 (∃ n,eC.t Y n bY a bW a9 b bB cM c cO bS d bU e g h (((g:Nat):Int)) 0 f)
def cF.g(Y:aD)(X:Fr)(Z:U):Prop:=aW .i64 (X 0) fun aX=>aU (X 5) fun bY a bW=>aU (X 6) fun a9 b bB=>aU (X 7) fun cM c cO=>aU (X 8) fun bS d bU=>cF.t Y aX bY a bW a9 b bB cM c cO bS d bU Z
theorem cF.ok(Y:aD)(X:Fr)(Z:U)(g:cF.g Y X Z):den prog E (a4 aO [W,W,W,aR]) (a2.then (bF.g Y) (a7 E [.tmp 2,.tmp 3,.tmp 4] Y)) X Z:=
 a8 g fun aX a g=>bE g fun bY b bW c g=>bE g fun a9 d bB e g=>bE g fun cM f cO h g=>bE g fun bS i bU j g=>c4 1 (r:=(a4 aO [W,W,W,aR,W])) (by kernel_rfl) (p0.ok Y) (bT [(0,.int .i64 aX),(5,.slice bY b bW),(6,.slice a9 d bB),(7,.slice cM f cO),(8,.slice bS i bU)] ⟨a,c,e,h,j,trivial⟩ (by kernel_rfl) g)
theorem p1.ok(Y:aD)(X:Fr)(Z:U)(g:cF.g Y X Z):den prog E (a4 aO [W,W,W]) (a7 E [.tmp 2,.tmp 3,.tmp 4] Y) X Z:=
 fZ (by kernel_rfl) (bF.ok Y) (cF.ok Y X Z g)
def aZ.t(Y:aD)(aX:Int)(Z:U):Prop:=
 cF.t Y aX none 0 0 none 0 0 none 0 0 none 0 0 Z
def aZ.g(Y:aD)(X:Fr)(Z:U):Prop:=aW .i64 (X 0) fun aX=>aZ.t Y aX Z
theorem aZ.ok(Y:aD)(X:Fr)(Z:U)(g:aZ.g Y X Z):den prog E (a4 aO [W,W]) (a7 E [.tmp 2,.tmp 3,.tmp 4] Y) X Z:=
 a8 g fun aX a g=>c4 1 (r:=(a4 aO [W,W,W])) (by kernel_rfl) (p1.ok Y) (bT [(0,.int .i64 aX)] ⟨a,trivial⟩ (by kernel_rfl) g)
def aM.t(Y:aD)(aX:Int)(Z:U):Prop:=
 cond (decide (aX < 0)) (Y (.tuple #[.slice none 0 0,.slice none 0 0,.int .i64 1]) Z) (cond (decide (aX≥1000)) (Y (.tuple #[.slice none 0 0,.slice none 0 0,.int .i64 1]) Z) (aZ.t Y aX Z))
def aM.g(Y:aD)(X:Fr)(Z:U):Prop:=aW .i64 (X 0) fun aX=>aM.t Y aX Z
theorem aM.ok(Y:aD)(X:Fr)(Z:U)(g:aM.g Y X Z):den prog E aO (a7 E [.tmp 2,.tmp 3,.tmp 4] Y) X Z:=
 a8 g fun aX a g=>c4 2 (r:=(a4 aO [W,W])) (by kernel_rfl) (aZ.ok Y) (bT [(0,.int .i64 aX)] ⟨a,trivial⟩ (by kernel_rfl) g)
def t(aX:Int)(Z:U)(Y:aD):Prop:=aM.t Y aX Z
theorem ok{aX:Int}{Z:U}{Y:aD}(g:t aX Z Y):a0 id #[.int .i64 aX] Z Y:=
 dQ dH (c:=aO) (dE:=[.tmp 2,.tmp 3,.tmp 4]) Tryz.func15 (by kernel_rfl) (by kernel_rfl) (by kernel_rfl) (args:=[.int .i64 aX]) (by kernel_rfl) (aM.ok Y _ Z (bR rfl (g)))
end kU
namespace jW
noncomputable def aO:Code:=dO Tryz.f16
def bF.t(Y:aD)(aK:Int)(dX:Addr)(a9:M)(a bB:Nat)(b:Int)(c:Bool)(Z:U):Prop:=
 a0 q4.id #[.slice a9 a bB,.int .u64 b,.bool c] Z fun a c=>
 aU a fun a d e=>
 a0 pS.id #[.int .u64 b,.int .i64 aK,.slice a d e] c fun c f=>
 aW .i64 c fun c=>
 b3 f (dX.add 0) (.int .u64 b) fun b=>
 b3 b (dX.add 1) (.slice a d e) fun a=>
 b3 a (dX.add 2) (.int .i64 c) fun a=>
 cX a .u64 (dX.add 0) fun b=>
 dP a (dX.add 1) fun c d e=>
 cX a .i64 (dX.add 2) fun f=>
 Y (.tuple #[.agg #[.int .u64 b,.slice c d e,.int .i64 f],.int .i64 0]) a
def bF.g(Y:aD)(X:Fr)(Z:U):Prop:=aW .i64 (X 1) fun aK=>fU (X 4) fun dX=>aU (X 6) fun a9 a bB=>aW .u64 (X 10) fun b=>eS (X 12) fun c=>bF.t Y aK dX a9 a bB b c Z
theorem bF.ok(Y:aD)(X:Fr)(Z:U)(g:bF.g Y X Z):den prog E (a4 aO [W,W,W,W,W,W,W,W]) (a7 E [.cell 4 39,.tmp 5] Y) X Z:=
 a8 g fun aK a g=>hH g fun dX b g=>bE g fun a9 c bB d g=>a8 g fun e f g=>vJ g fun h i g=>bT [(1,.int .i64 aK),(4,.pointer (some dX)),(6,.slice a9 c bB),(10,.int .u64 e),(12,.bool h)] ⟨a,b,d,f,i,trivial⟩ (by kernel_rfl) g
def aZ.t(Y:aD)(aX aK:Int)(dX:Addr)(Z:U):Prop:=
 a0 sM.id #[.int .i64 aK] Z fun a b=>
 c1 a fun a=>
 cR a fun a c d e=>
 dM e .i64 fun e f=>
 b6 f <| cond (e != 0) (b3 b (dX.add 0) (.int .u64 0) fun f=>
 b3 f (dX.add 1) (.slice none 0 0) fun f=>
 b3 f (dX.add 2) (.int .i64 0) fun f=>
 cX f .u64 (dX.add 0) fun g=>
 dP f (dX.add 1) fun h i j=>
 cX f .i64 (dX.add 2) fun k=>
 Y (.tuple #[.agg #[.int .u64 g,.slice h i j,.int .i64 k],.int .i64 e]) f) (a6 (IntKind.i64.wrap (aX - 1)) fun e=>
 0≤e∧a6 (hW .u64 1 e) fun e=>
 0≤aX∧a6 (hW .u64 1 aX) fun f=>
 a6 (IntKind.u64.wrap (f - 1)) fun f=>
 a0 oZ.id #[.slice a c d,.int .u64 e,.int .u64 f,.bool true] b fun b g=>
 c1 b fun b=>
 dM b .u64 fun b h=>
 cR h fun h i j k=>
 b6 k <| a0 l9.id #[.slice a c d,.int .u64 e,.int .u64 f] g fun e g=>
 aW .u64 e fun e=>
 cond (decide (e≤f)) (a0 oZ.id #[.slice a c d,.int .u64 e,.int .u64 f,.bool false] g fun e f=>
 c1 e fun e=>
 dM e .u64 fun e k=>
 cR k fun k l m n=>
 b6 n <| a0 iL.id #[.slice k l m,.slice h i j] f fun f h=>
 aW .i64 f fun f=>
 cond (decide (f < 0)) (bF.t Y aK dX a c d e false h) (bF.t Y aK dX a c d b true h)) (bF.t Y aK dX a c d b true g))
def aZ.g(Y:aD)(X:Fr)(Z:U):Prop:=aW .i64 (X 0) fun aX=>aW .i64 (X 1) fun aK=>fU (X 4) fun dX=>aZ.t Y aX aK dX Z
theorem aZ.ok(Y:aD)(X:Fr)(Z:U)(g:aZ.g Y X Z):den prog E (a4 aO [W,W]) (a7 E [.cell 4 39,.tmp 5] Y) X Z:=
 a8 g fun aX a g=>a8 g fun aK b g=>hH g fun dX c g=>c4 6 (r:=(a4 aO [W,W,W,W,W,W,W,W])) (by kernel_rfl) (bF.ok Y) (bT [(0,.int .i64 aX),(1,.int .i64 aK),(4,.pointer (some dX))] ⟨a,b,c,trivial⟩ (by kernel_rfl) g)
def aM.t(Y:aD)(aX aK:Int)(Z:U):Prop:=
 dN Z 39 u0.a3 fun b1 a=>
 cond (decide (aX < 1)) (b3 a (b1.add 0) (.int .u64 0) fun b=>
 b3 b (b1.add 1) (.slice none 0 0) fun b=>
 b3 b (b1.add 2) (.int .i64 0) fun b=>
 cX b .u64 (b1.add 0) fun c=>
 dP b (b1.add 1) fun d e f=>
 cX b .i64 (b1.add 2) fun g=>
 Y (.tuple #[.agg #[.int .u64 c,.slice d e f,.int .i64 g],.int .i64 1]) b) (cond (decide (aX > 53)) (b3 a (b1.add 0) (.int .u64 0) fun b=>
 b3 b (b1.add 1) (.slice none 0 0) fun b=>
 b3 b (b1.add 2) (.int .i64 0) fun b=>
 cX b .u64 (b1.add 0) fun c=>
 dP b (b1.add 1) fun d e f=>
 cX b .i64 (b1.add 2) fun g=>
 Y (.tuple #[.agg #[.int .u64 c,.slice d e f,.int .i64 g],.int .i64 1]) b) (cond (decide (aK < (-64))) (b3 a (b1.add 0) (.int .u64 0) fun b=>
 b3 b (b1.add 1) (.slice none 0 0) fun b=>
 b3 b (b1.add 2) (.int .i64 0) fun b=>
 cX b .u64 (b1.add 0) fun c=>
 dP b (b1.add 1) fun d e f=>
 cX b .i64 (b1.add 2) fun g=>
 Y (.tuple #[.agg #[.int .u64 c,.slice d e f,.int .i64 g],.int .i64 1]) b) (cond (decide (aK > 971)) (b3 a (b1.add 0) (.int .u64 0) fun b=>
 b3 b (b1.add 1) (.slice none 0 0) fun b=>
 b3 b (b1.add 2) (.int .i64 0) fun b=>
 cX b .u64 (b1.add 0) fun c=>
 dP b (b1.add 1) fun d e f=>
 cX b .i64 (b1.add 2) fun g=>
 Y (.tuple #[.agg #[.int .u64 c,.slice d e f,.int .i64 g],.int .i64 1]) b) (aZ.t Y aX aK b1 a))))
def aM.g(Y:aD)(X:Fr)(Z:U):Prop:=aW .i64 (X 0) fun aX=>aW .i64 (X 1) fun aK=>aM.t Y aX aK Z
theorem aM.ok(Y:aD)(X:Fr)(Z:U)(g:aM.g Y X Z):den prog E aO (a7 E [.cell 4 39,.tmp 5] Y) X Z:=
 a8 g fun aX a g=>a8 g fun aK b g=>c4 2 (r:=(a4 aO [W,W])) (by kernel_rfl) (aZ.ok Y) (bT [(0,.int .i64 aX),(1,.int .i64 aK)] ⟨a,b,trivial⟩ (by kernel_rfl) g)
def t(aX aK:Int)(Z:U)(Y:aD):Prop:=aM.t Y aX aK Z
theorem ok{aX:Int}{aK:Int}{Z:U}{Y:aD}(g:t aX aK Z Y):a0 id #[.int .i64 aX,.int .i64 aK] Z Y:=
 dQ dH (c:=aO) (dE:=[.cell 4 39,.tmp 5]) Tryz.func16 (by kernel_rfl) (by kernel_rfl) (by kernel_rfl) (args:=[.int .i64 aX,.int .i64 aK]) (by kernel_rfl) (aM.ok Y _ Z (bR rfl (bR rfl (g))))
end jW
namespace n3
noncomputable def aO:Code:=dO Tryz.f21
def aM.t(Y:aD)(aX aK a:Int)(Z:U):Prop:=
 a0 hM.id #[.int .u64 aX] Z fun b c=>
 aU b fun b d e=>
 a0 fJ.id #[.bool false,.slice b d e] c fun b c=>
 eA b fun b=>
 e9 b fun b d=>
 cR d fun d e f g=>
 b6 g <| a0 mT.id #[.agg #[.bool b,.slice d e f],.int .i64 aK,.int .i64 a] c fun b c=>
 c1 b fun b=>
 cW b fun b d=>
 eA b fun b=>
 e9 b fun b e=>
 cR e fun e f g h=>
 b6 h <| cW d fun d h=>
 eA d fun d=>
 e9 d fun d i=>
 cR i fun i j k l=>
 b6 l <| b6 h <| dN c 82 hP.a3 fun c h=>
 dN h 82 hP.a3 fun h l=>
 b3 l (c.add 0) (.bool b) fun b=>
 b3 b (c.add 1) (.slice e f g) fun b=>
 b3 b (h.add 0) (.bool d) fun b=>
 b3 b (h.add 1) (.slice i j k) fun b=>
 eG b (c.add 0) fun d=>
 dP b (c.add 1) fun e f g=>
 a0 j6.id #[.agg #[.bool d,.slice e f g]] b fun b d=>
 aW .i64 b fun b=>
 cond (b != 0) (dP d (h.add 1) fun b e f=>
 dP d (c.add 1) fun c g i=>
 Y (.tuple #[.slice b e f,.slice c g i]) d) (a6 (IntKind.i64.wrap (a+1)) fun a=>
 a0 oY.id #[.int .i64 a] d fun a b=>
 aU a fun a c d=>
 a0 kL.id #[.slice a c d,.int .i64 2] b fun a b=>
 aU a fun a c d=>
 dP b (h.add 1) fun e f g=>
 a0 hN.id #[.slice a c d,.slice e f g] b fun a b=>
 aU a fun a c d=>
 a0 hM.id #[.int .u64 1] b fun b e=>
 aU b fun b f g=>
 Y (.tuple #[.slice a c d,.slice b f g]) e)
def aM.g(Y:aD)(X:Fr)(Z:U):Prop:=aW .u64 (X 0) fun aX=>aW .i64 (X 1) fun aK=>aW .i64 (X 2) fun a=>aM.t Y aX aK a Z
theorem aM.ok(Y:aD)(X:Fr)(Z:U)(g:aM.g Y X Z):den prog E aO (a7 E [.tmp 6,.tmp 7] Y) X Z:=
 a8 g fun aX a g=>a8 g fun aK b g=>a8 g fun c d g=>bT [(0,.int .u64 aX),(1,.int .i64 aK),(2,.int .i64 c)] ⟨a,b,d,trivial⟩ (by kernel_rfl) g
def t(aX aK a:Int)(Z:U)(Y:aD):Prop:=aM.t Y aX aK a Z
theorem ok{aX:Int}{aK:Int}{a:Int}{Z:U}{Y:aD}(g:t aX aK a Z Y):a0 id #[.int .u64 aX,.int .i64 aK,.int .i64 a] Z Y:=
 dQ dH (c:=aO) (dE:=[.tmp 6,.tmp 7]) Tryz.func21 (by kernel_rfl) (by kernel_rfl) (by kernel_rfl) (args:=[.int .u64 aX,.int .i64 aK,.int .i64 a]) (by kernel_rfl) (aM.ok Y _ Z (bR rfl (bR rfl (bR rfl (g)))))
end n3
namespace kX
noncomputable def aO:Code:=dO Tryz.f22
def aZ.t(Y:aD)(dZ:M)(fQ eE:Nat)(Z:U):Prop:=
 Y (.slice dZ fQ eE) Z
def aZ.g(Y:aD)(X:Fr)(Z:U):Prop:=aU (X 4) fun dZ fQ eE=>aZ.t Y dZ fQ eE Z
theorem aZ.ok(Y:aD)(X:Fr)(Z:U)(g:aZ.g Y X Z):den prog E (a4 aO [W,W,W,W]) (a7 E [.tmp 2] Y) X Z:=
 bE g fun dZ fQ eE a g=>bT [(4,.slice dZ fQ eE)] ⟨a,trivial⟩ (by kernel_rfl) g
def bJ.g(a:M→Nat→Nat→M→Nat→Nat→Int→U→Prop)(X:Fr)(Z:U):Prop:=aU (X 3) fun dR eL dA=>aU (X 4) fun dZ fQ eE=>aW .i64 (X 5) fun b=>a dR eL dA dZ fQ eE b Z
def b9.t(Y:aD)(a:M→Nat→Nat→M→Nat→Nat→Int→U→Prop)(dR:M)(eL dA:Nat)(dZ:M)(fQ eE:Nat)(b:Int)(Z:U):Prop:=
 cond (decide (b < (((eL:Nat):Int)))) (c2 dR eL b 1 fun c=>
 cX Z .u32 c fun c=>
 a6 (IntKind.u64.wrap c) fun c=>
 a6 (IntKind.i64.wrap (b+1)) fun d=>
 cond (decide (d < (((eL:Nat):Int)))) (a6 (IntKind.i64.wrap (b+1)) fun d=>
 c2 dR eL d 1 fun d=>
 cX Z .u32 d fun d=>
 a6 (IntKind.u64.wrap d) fun d=>
 0≤(32:Int)∧a6 (hW .u64 d 32) fun d=>
 a6 (IntKind.u64.wrap (c+d)) fun d=>
 dN Z 35 [.int .u64 d] fun d e=>
 hF e 35 j3 dZ fQ eE (.slice (some d) 1 1) fun d e f g=>
 a6 (IntKind.i64.wrap (b+2)) fun h=>
 a dR eL dA d e f h g) (dN Z 35 [.int .u64 c] fun c d=>
 hF d 35 j3 dZ fQ eE (.slice (some c) 1 1) fun c d e f=>
 a6 (IntKind.i64.wrap (b+2)) fun b=>
 a dR eL dA c d e b f)) (aZ.t Y dZ fQ eE Z)
def b9.g(Y:aD)(a:M→Nat→Nat→M→Nat→Nat→Int→U→Prop)(X:Fr)(Z:U):Prop:=aU (X 3) fun dR eL dA=>aU (X 4) fun dZ fQ eE=>aW .i64 (X 5) fun b=>b9.t Y a dR eL dA dZ fQ eE b Z
theorem b9.ok(Y:aD)(a:M→Nat→Nat→M→Nat→Nat→Int→U→Prop)(X:Fr)(Z:U)(g:b9.g Y a X Z):den prog E (a4 aO [W,W,W,aR,W,aR,aR]) (a2.then (bJ.g a) (a2.inBlock 0 (a2.then (aZ.g Y) (a7 E [.tmp 2] Y)))) X Z:=
 bE g fun dR eL dA a g=>bE g fun dZ fQ eE b g=>a8 g fun c d g=>bT [(3,.slice dR eL dA),(4,.slice dZ fQ eE),(5,.int .i64 c)] ⟨a,b,d,trivial⟩ (by kernel_rfl) g
def bJ.t(Y:aD):Nat→M→Nat→Nat→M→Nat→Nat→Int→U→Prop
 | 0=>fun _ _ _ _ _ _ _ _=>False
 | n+1=>fun dR eL dA dZ fQ eE a Z=>b9.t Y (bJ.t Y n) dR eL dA dZ fQ eE a Z
theorem bJ.ok(Y:aD)(X:Fr)(Z:U)(g:bJ.g (fun dR eL dA dZ fQ eE a Z=>∃ n,bJ.t Y n dR eL dA dZ fQ eE a Z) X Z):den prog E (a4 aO [W,W,W,aR,W,aR]) (a2.inBlock 0 (a2.then (aZ.g Y) (a7 E [.tmp 2] Y))) X Z:=by
 obtain⟨dR,eL,dA,b,g⟩:=b0 g
 obtain⟨dZ,fQ,eE,c,g⟩:=b0 g
 obtain⟨a,d,g⟩:=bN g
 obtain⟨n,g⟩:=g
 refine fK (fun n=>bJ.g (bJ.t Y n)) (K:=(a4 aO [W,W,W,aR,W,aR,aR])) (by kernel_rfl) (fun X Z g=>?_) (fun n=>b9.ok Y (bJ.t Y n)) n X Z (bD b (bD c (bR d (g))))
 obtain⟨dR,eL,dA,b,g⟩:=b0 g
 obtain⟨dZ,fQ,eE,c,g⟩:=b0 g
 obtain⟨a,d,g⟩:=bN g
 exact g
theorem g2.ok(Y:aD)(X:Fr)(Z:U)(g:bJ.g (fun dR eL dA dZ fQ eE a Z=>∃ n,bJ.t Y n dR eL dA dZ fQ eE a Z) X Z):den prog E (a4 aO [W,W,W,aR,W]) (a2.then (aZ.g Y) (a7 E [.tmp 2] Y)) X Z:=
 fA (by kernel_rfl) (bJ.ok Y X Z g)
def bF.t(Y:aD)(dR:M)(eL dA:Nat)(dZ:M)(fQ eE:Nat)(Z:U):Prop:=
 (∃ n,bJ.t Y n dR eL dA dZ fQ eE 0 Z)
def bF.g(Y:aD)(X:Fr)(Z:U):Prop:=aU (X 3) fun dR eL dA=>aU (X 4) fun dZ fQ eE=>bF.t Y dR eL dA dZ fQ eE Z
theorem bF.ok(Y:aD)(X:Fr)(Z:U)(g:bF.g Y X Z):den prog E (a4 aO [W,W,W,aR]) (a2.then (aZ.g Y) (a7 E [.tmp 2] Y)) X Z:=
 bE g fun dR eL dA a g=>bE g fun dZ fQ eE b g=>c4 1 (r:=(a4 aO [W,W,W,aR,W])) (by kernel_rfl) (g2.ok Y) (bT [(3,.slice dR eL dA),(4,.slice dZ fQ eE)] ⟨a,b,trivial⟩ (by kernel_rfl) g)
theorem g3.ok(Y:aD)(X:Fr)(Z:U)(g:bF.g Y X Z):den prog E (a4 aO [W,W,W]) (a7 E [.tmp 2] Y) X Z:=
 fZ (by kernel_rfl) (aZ.ok Y) (bF.ok Y X Z g)
def aM.t(Y:aD)(a:M)(b c:Nat)(Z:U):Prop:=
 a0 gV.id #[.slice a b c] Z fun a b=>
 aU a fun a c d=>
 (2:Int) ≠ 0∧a6 (IntKind.i64.wrap (Int.tdiv (((c:Nat):Int)) 2)) fun e=>
 a6 (IntKind.i64.wrap (e+1)) fun e=>
 h5 b 35 j3 0 e fun b f=>
 bF.t Y a c d (some b) ((0:Int).toNat) e.toNat f
def aM.g(Y:aD)(X:Fr)(Z:U):Prop:=aU (X 0) fun a b c=>aM.t Y a b c Z
theorem aM.ok(Y:aD)(X:Fr)(Z:U)(g:aM.g Y X Z):den prog E aO (a7 E [.tmp 2] Y) X Z:=
 bE g fun a b c d g=>c4 3 (r:=(a4 aO [W,W,W])) (by kernel_rfl) (g3.ok Y) (bT [(0,.slice a b c)] ⟨d,trivial⟩ (by kernel_rfl) g)
def t(a:M)(b c:Nat)(Z:U)(Y:aD):Prop:=aM.t Y a b c Z
theorem ok{a:M}{b:Nat}{d:Nat}{Z:U}{Y:aD}(g:t a b d Z Y):a0 id #[.slice a b d] Z Y:=
 dQ dH (c:=aO) (dE:=[.tmp 2]) Tryz.func22 (by kernel_rfl) (by kernel_rfl) (by kernel_rfl) (args:=[.slice a b d]) (by kernel_rfl) (aM.ok Y _ Z (bD rfl (g)))
end kX
namespace h8
noncomputable def aO:Code:=dO Tryz.f23
def aZ.t(Y:aD)(Z:U):Prop:=
 Y (.int .i64 0) Z
def aZ.g(Y:aD)(X:Fr)(Z:U):Prop:=aZ.t Y  Z
theorem aZ.ok(Y:aD)(X:Fr)(Z:U)(g:aZ.g Y X Z):den prog E (a4 aO [W,W,W]) (a7 E [.tmp 4] Y) X Z:=
 bT [] trivial (by kernel_rfl) g
def bJ.g(a:M→Nat→Nat→M→Nat→Nat→Int→U→Prop)(X:Fr)(Z:U):Prop:=aU (X 0) fun b c d=>aU (X 1) fun aJ aH aG=>aW .i64 (X 5) fun e=>a b c d aJ aH aG e Z
def b9.t(Y:aD)(a:M→Nat→Nat→M→Nat→Nat→Int→U→Prop)(b:M)(c d:Nat)(aJ:M)(aH aG:Nat)(e:Int)(Z:U):Prop:=
 cond (decide (e≥0)) (c2 b c e 1 fun eY=>
 cX Z .u32 eY fun f=>
 c2 aJ aH e 1 fun g=>
 cX Z .u32 g fun g=>
 cond (decide (f < g)) (Y (.int .i64 (-1)) Z) (c2 b c e 1 fun f=>
 cX Z .u32 f fun f=>
 c2 aJ aH e 1 fun g=>
 cX Z .u32 g fun g=>
 cond (decide (f > g)) (Y (.int .i64 1) Z) (a6 (IntKind.i64.wrap (e - 1)) fun e=>
 a b c d aJ aH aG e Z))) (aZ.t Y Z)
def b9.g(Y:aD)(a:M→Nat→Nat→M→Nat→Nat→Int→U→Prop)(X:Fr)(Z:U):Prop:=aU (X 0) fun b c d=>aU (X 1) fun aJ aH aG=>aW .i64 (X 5) fun e=>b9.t Y a b c d aJ aH aG e Z
theorem b9.ok(Y:aD)(a:M→Nat→Nat→M→Nat→Nat→Int→U→Prop)(X:Fr)(Z:U)(g:b9.g Y a X Z):den prog E (a4 aO [W,W,aR,W,aR,aR]) (a2.then (bJ.g a) (a2.inBlock 0 (a2.then (aZ.g Y) (a7 E [.tmp 4] Y)))) X Z:=
 bE g fun a b c d g=>bE g fun aJ aH aG e g=>a8 g fun f h g=>bT [(0,.slice a b c),(1,.slice aJ aH aG),(5,.int .i64 f)] ⟨d,e,h,trivial⟩ (by kernel_rfl) g
def bJ.t(Y:aD):Nat→M→Nat→Nat→M→Nat→Nat→Int→U→Prop
 | 0=>fun _ _ _ _ _ _ _ _=>False
 | n+1=>fun a b c aJ aH aG d Z=>b9.t Y (bJ.t Y n) a b c aJ aH aG d Z
theorem bJ.ok(Y:aD)(X:Fr)(Z:U)(g:bJ.g (fun a b c aJ aH aG d Z=>∃ n,bJ.t Y n a b c aJ aH aG d Z) X Z):den prog E (a4 aO [W,W,aR,W,aR]) (a2.inBlock 0 (a2.then (aZ.g Y) (a7 E [.tmp 4] Y))) X Z:=by
 obtain⟨a,b,c,e,g⟩:=b0 g
 obtain⟨aJ,aH,aG,f,g⟩:=b0 g
 obtain⟨d,h,g⟩:=bN g
 obtain⟨n,g⟩:=g
 refine fK (fun n=>bJ.g (bJ.t Y n)) (K:=(a4 aO [W,W,aR,W,aR,aR])) (by kernel_rfl) (fun X Z g=>?_) (fun n=>b9.ok Y (bJ.t Y n)) n X Z (bD e (bD f (bR h (g))))
 obtain⟨a,b,c,e,g⟩:=b0 g
 obtain⟨aJ,aH,aG,f,g⟩:=b0 g
 obtain⟨d,h,g⟩:=bN g
 exact g
theorem g2.ok(Y:aD)(X:Fr)(Z:U)(g:bJ.g (fun a b c aJ aH aG d Z=>∃ n,bJ.t Y n a b c aJ aH aG d Z) X Z):den prog E (a4 aO [W,W,aR,W]) (a2.then (aZ.g Y) (a7 E [.tmp 4] Y)) X Z:=
 fA (by kernel_rfl) (bJ.ok Y X Z g)
def bF.t(Y:aD)(a:M)(b c:Nat)(aJ:M)(aH aG:Nat)(Z:U):Prop:=
 a6 (IntKind.i64.wrap ((((b:Nat):Int)) - 1)) fun eF=>(∃ n,bJ.t Y n a b c aJ aH aG eF Z)
def bF.g(Y:aD)(X:Fr)(Z:U):Prop:=aU (X 0) fun a b c=>aU (X 1) fun aJ aH aG=>bF.t Y a b c aJ aH aG Z
theorem bF.ok(Y:aD)(X:Fr)(Z:U)(g:bF.g Y X Z):den prog E (a4 aO [W,W,aR]) (a2.then (aZ.g Y) (a7 E [.tmp 4] Y)) X Z:=
 bE g fun a b c d g=>bE g fun aJ aH aG e g=>c4 1 (r:=(a4 aO [W,W,aR,W])) (by kernel_rfl) (g2.ok Y) (bT [(0,.slice a b c),(1,.slice aJ aH aG)] ⟨d,e,trivial⟩ (by kernel_rfl) g)
theorem g3.ok(Y:aD)(X:Fr)(Z:U)(g:bF.g Y X Z):den prog E (a4 aO [W,W]) (a7 E [.tmp 4] Y) X Z:=
 fZ (by kernel_rfl) (aZ.ok Y) (bF.ok Y X Z g)
def aM.t(Y:aD)(a:M)(b c:Nat)(aJ:M)(aH aG:Nat)(Z:U):Prop:=
 cond ((((b:Nat):Int)) != (((aH:Nat):Int))) (cond (decide ((((b:Nat):Int)) < (((aH:Nat):Int)))) (Y (.int .i64 (-1)) Z) (Y (.int .i64 1) Z)) (bF.t Y a b c aJ aH aG Z)
def aM.g(Y:aD)(X:Fr)(Z:U):Prop:=aU (X 0) fun a b c=>aU (X 1) fun aJ aH aG=>aM.t Y a b c aJ aH aG Z
theorem aM.ok(Y:aD)(X:Fr)(Z:U)(g:aM.g Y X Z):den prog E aO (a7 E [.tmp 4] Y) X Z:=
 bE g fun a b c d g=>bE g fun aJ aH aG e g=>c4 2 (r:=(a4 aO [W,W])) (by kernel_rfl) (g3.ok Y) (bT [(0,.slice a b c),(1,.slice aJ aH aG)] ⟨d,e,trivial⟩ (by kernel_rfl) g)
def t(a:M)(b c:Nat)(aJ:M)(aH aG:Nat)(Z:U)(Y:aD):Prop:=aM.t Y a b c aJ aH aG Z
theorem ok{a:M}{b:Nat}{d:Nat}{aJ:M}{aH:Nat}{aG:Nat}{Z:U}{Y:aD}(g:t a b d aJ aH aG Z Y):a0 id #[.slice a b d,.slice aJ aH aG] Z Y:=
 dQ dH (c:=aO) (dE:=[.tmp 4]) Tryz.func23 (by kernel_rfl) (by kernel_rfl) (by kernel_rfl) (args:=[.slice a b d,.slice aJ aH aG]) (by kernel_rfl) (aM.ok Y _ Z (bD rfl (bD rfl (g))))
end h8
namespace nW
noncomputable def aO:Code:=dO Tryz.f24
def aM.t(Y:aD)(aX:Int)(Z:U):Prop:=
 a0 hM.id #[.int .u64 1] Z fun a b=>
 aU a fun a c d=>
 a0 kB.id #[.slice a c d,.int .i64 aX] b fun a b=>
 aU a fun a c d=>
 Y (.slice a c d) b
def aM.g(Y:aD)(X:Fr)(Z:U):Prop:=aW .i64 (X 0) fun aX=>aM.t Y aX Z
theorem aM.ok(Y:aD)(X:Fr)(Z:U)(g:aM.g Y X Z):den prog E aO (a7 E [.tmp 2] Y) X Z:=
 a8 g fun aX a g=>bT [(0,.int .i64 aX)] ⟨a,trivial⟩ (by kernel_rfl) g
def t(aX:Int)(Z:U)(Y:aD):Prop:=aM.t Y aX Z
theorem ok{aX:Int}{Z:U}{Y:aD}(g:t aX Z Y):a0 id #[.int .i64 aX] Z Y:=
 dQ dH (c:=aO) (dE:=[.tmp 2]) Tryz.func24 (by kernel_rfl) (by kernel_rfl) (by kernel_rfl) (args:=[.int .i64 aX]) (by kernel_rfl) (aM.ok Y _ Z (bR rfl (g)))
end nW
namespace sV
noncomputable def aO:Code:=dO Tryz.f25
def aM.t(Y:aD)(aX:Int)(Z:U):Prop:=
 dN Z 59 BM.a3 fun b1 a=>
 cond (aX == 32) (b3 a (b1.add 0) (.int .u64 2147483648) fun b=>
 b3 b (b1.add 1) (.int .i64 24) fun b=>
 b3 b (b1.add 2) (.int .i64 (-149)) fun b=>
 b3 b (b1.add 3) (.int .i64 104) fun b=>
 b3 b (b1.add 4) (.int .u64 2139095040) fun b=>
 b3 b (b1.add 5) (.int .u64 2143289345) fun b=>
 cX b .u64 (b1.add 0) fun c=>
 cX b .i64 (b1.add 1) fun d=>
 cX b .i64 (b1.add 2) fun e=>
 cX b .i64 (b1.add 3) fun f=>
 cX b .u64 (b1.add 4) fun g=>
 cX b .u64 (b1.add 5) fun h=>
 Y (.tuple #[.agg #[.int .u64 c,.int .i64 d,.int .i64 e,.int .i64 f,.int .u64 g,.int .u64 h],.bool true]) b) (cond (aX == 64) (b3 a (b1.add 0) (.int .u64 9223372036854775808) fun b=>
 b3 b (b1.add 1) (.int .i64 53) fun b=>
 b3 b (b1.add 2) (.int .i64 (-1074)) fun b=>
 b3 b (b1.add 3) (.int .i64 971) fun b=>
 b3 b (b1.add 4) (.int .u64 9218868437227405312) fun b=>
 b3 b (b1.add 5) (.int .u64 9221120237041090561) fun b=>
 cX b .u64 (b1.add 0) fun c=>
 cX b .i64 (b1.add 1) fun d=>
 cX b .i64 (b1.add 2) fun e=>
 cX b .i64 (b1.add 3) fun f=>
 cX b .u64 (b1.add 4) fun g=>
 cX b .u64 (b1.add 5) fun h=>
 Y (.tuple #[.agg #[.int .u64 c,.int .i64 d,.int .i64 e,.int .i64 f,.int .u64 g,.int .u64 h],.bool true]) b) (b3 a (b1.add 0) (.int .u64 0) fun a=>
 b3 a (b1.add 1) (.int .i64 0) fun a=>
 b3 a (b1.add 2) (.int .i64 0) fun a=>
 b3 a (b1.add 3) (.int .i64 0) fun a=>
 b3 a (b1.add 4) (.int .u64 0) fun a=>
 b3 a (b1.add 5) (.int .u64 0) fun a=>
 cX a .u64 (b1.add 0) fun b=>
 cX a .i64 (b1.add 1) fun c=>
 cX a .i64 (b1.add 2) fun d=>
 cX a .i64 (b1.add 3) fun e=>
 cX a .u64 (b1.add 4) fun f=>
 cX a .u64 (b1.add 5) fun g=>
 Y (.tuple #[.agg #[.int .u64 b,.int .i64 c,.int .i64 d,.int .i64 e,.int .u64 f,.int .u64 g],.bool false]) a))
def aM.g(Y:aD)(X:Fr)(Z:U):Prop:=aW .i64 (X 0) fun aX=>aM.t Y aX Z
theorem aM.ok(Y:aD)(X:Fr)(Z:U)(g:aM.g Y X Z):den prog E aO (a7 E [.cell 2 59,.tmp 3] Y) X Z:=
 a8 g fun aX a g=>bT [(0,.int .i64 aX)] ⟨a,trivial⟩ (by kernel_rfl) g
def t(aX:Int)(Z:U)(Y:aD):Prop:=aM.t Y aX Z
theorem ok{aX:Int}{Z:U}{Y:aD}(g:t aX Z Y):a0 id #[.int .i64 aX] Z Y:=
 dQ dH (c:=aO) (dE:=[.cell 2 59,.tmp 3]) Tryz.func25 (by kernel_rfl) (by kernel_rfl) (by kernel_rfl) (args:=[.int .i64 aX]) (by kernel_rfl) (aM.ok Y _ Z (bR rfl (g)))
end sV
namespace sW
noncomputable def aO:Code:=dO Tryz.f26
def aM.t(Y:aD)(a b:Int)(c d:Int)(e f aK:Int)(Z:U):Prop:=
 dN Z 59 [.int .u64 a,.int .i64 b,.int .i64 c,.int .i64 d,.int .u64 e,.int .u64 f] fun b1 a=>
 cX a .u64 (b1.add 0) fun b=>
 cX a .u64 (b1.add 0) fun c=>
 c ≠ 0∧a6 (Int.tmod aK c) fun c=>
 Y (.tuple #[.bool (decide (aK≥b)),.int .u64 c]) a
def aM.g(Y:aD)(X:Fr)(Z:U):Prop:=eA (X 0) fun a=>cW a fun a b=>aW .u64 a fun a=>cW b fun b c=>aW .i64 b fun b=>cW c fun c d=>aW .i64 c fun c=>cW d fun d e=>aW .i64 d fun d=>cW e fun e f=>aW .u64 e fun e=>cW f fun f h=>aW .u64 f fun f=>b6 h <| aW .u64 (X 1) fun aK=>aM.t Y a b c d e f aK Z
theorem aM.ok(Y:aD)(X:Fr)(Z:U)(g:aM.g Y X Z):den prog E aO (a7 E [.tmp 4,.tmp 5] Y) X Z:=by
 obtain⟨w,a,b⟩:=iG g
 obtain⟨x,y,rfl,c⟩:=e1 b
 obtain⟨d,rfl,e⟩:=bN c
 obtain⟨z,A,rfl,f⟩:=e1 e
 obtain⟨h,rfl,i⟩:=bN f
 obtain⟨B,C,rfl,j⟩:=e1 i
 obtain⟨k,rfl,l⟩:=bN j
 obtain⟨D,F,rfl,m⟩:=e1 l
 obtain⟨n,rfl,o⟩:=bN m
 obtain⟨G,H,rfl,p⟩:=e1 o
 obtain⟨q,rfl,r⟩:=bN p
 obtain⟨I,J,rfl,s⟩:=e1 r
 obtain⟨t,rfl,u⟩:=bN s
 obtain⟨rfl,g⟩:=hK u
 obtain⟨aK,v,g⟩:=bN g
 exact bT [(0,.agg #[.int .u64 d,.int .i64 h,.int .i64 k,.int .i64 n,.int .u64 q,.int .u64 t]),(1,.int .u64 aK)] ⟨a,v,trivial⟩ (by kernel_rfl) g
def t(a b:Int)(c d:Int)(e f aK:Int)(Z:U)(Y:aD):Prop:=aM.t Y a b c d e f aK Z
theorem ok{a:Int}{b:Int}{d:Int}{e:Int}{f:Int}{h:Int}{aK:Int}{Z:U}{Y:aD}(g:t a b d e f h aK Z Y):a0 id #[.agg #[.int .u64 a,.int .i64 b,.int .i64 d,.int .i64 e,.int .u64 f,.int .u64 h],.int .u64 aK] Z Y:=
 dQ dH (c:=aO) (dE:=[.tmp 4,.tmp 5]) Tryz.func26 (by kernel_rfl) (by kernel_rfl) (by kernel_rfl) (args:=[.agg #[.int .u64 a,.int .i64 b,.int .i64 d,.int .i64 e,.int .u64 f,.int .u64 h],.int .u64 aK]) (by kernel_rfl) (aM.ok Y _ Z (eW rfl (cK (bR rfl (cK (bR rfl (cK (bR rfl (cK (bR rfl (cK (bR rfl (cK (bR rfl (dY (bR rfl (g)))))))))))))))))
end sW
namespace sX
noncomputable def aO:Code:=dO Tryz.f27
def aM.t(Y:aD)(a b:Int)(c d:Int)(e f aK:Int)(Z:U):Prop:=
 dN Z 59 [.int .u64 a,.int .i64 b,.int .i64 c,.int .i64 d,.int .u64 e,.int .u64 f] fun b1 a=>
 cX a .i64 (b1.add 1) fun b=>
 a6 (IntKind.i64.wrap (b - 1)) fun b=>
 0≤b∧a6 (hW .u64 1 b) fun b=>
 b ≠ 0∧a6 (IntKind.u64.wrap (Int.tdiv aK b)) fun c=>
 b ≠ 0∧a6 (Int.tmod aK b) fun d=>
 cond (c == 0) (cX a .i64 (b1.add 2) fun e=>
 Y (.tuple #[.int .u64 d,.int .i64 e]) a) (a6 (IntKind.u64.wrap (b+d)) fun b=>
 cX a .i64 (b1.add 2) fun d=>
 a6 (IntKind.i64.wrap c) fun c=>
 a6 (IntKind.i64.wrap (d+c)) fun c=>
 a6 (IntKind.i64.wrap (c - 1)) fun c=>
 Y (.tuple #[.int .u64 b,.int .i64 c]) a)
def aM.g(Y:aD)(X:Fr)(Z:U):Prop:=eA (X 0) fun a=>cW a fun a b=>aW .u64 a fun a=>cW b fun b c=>aW .i64 b fun b=>cW c fun c d=>aW .i64 c fun c=>cW d fun d e=>aW .i64 d fun d=>cW e fun e f=>aW .u64 e fun e=>cW f fun f h=>aW .u64 f fun f=>b6 h <| aW .u64 (X 1) fun aK=>aM.t Y a b c d e f aK Z
theorem aM.ok(Y:aD)(X:Fr)(Z:U)(g:aM.g Y X Z):den prog E aO (a7 E [.tmp 4,.tmp 5] Y) X Z:=by
 obtain⟨w,a,b⟩:=iG g
 obtain⟨x,y,rfl,c⟩:=e1 b
 obtain⟨d,rfl,e⟩:=bN c
 obtain⟨z,A,rfl,f⟩:=e1 e
 obtain⟨h,rfl,i⟩:=bN f
 obtain⟨B,C,rfl,j⟩:=e1 i
 obtain⟨k,rfl,l⟩:=bN j
 obtain⟨D,F,rfl,m⟩:=e1 l
 obtain⟨n,rfl,o⟩:=bN m
 obtain⟨G,H,rfl,p⟩:=e1 o
 obtain⟨q,rfl,r⟩:=bN p
 obtain⟨I,J,rfl,s⟩:=e1 r
 obtain⟨t,rfl,u⟩:=bN s
 obtain⟨rfl,g⟩:=hK u
 obtain⟨aK,v,g⟩:=bN g
 exact bT [(0,.agg #[.int .u64 d,.int .i64 h,.int .i64 k,.int .i64 n,.int .u64 q,.int .u64 t]),(1,.int .u64 aK)] ⟨a,v,trivial⟩ (by kernel_rfl) g
def t(a b:Int)(c d:Int)(e f aK:Int)(Z:U)(Y:aD):Prop:=aM.t Y a b c d e f aK Z
theorem ok{a:Int}{b:Int}{d:Int}{e:Int}{f:Int}{h:Int}{aK:Int}{Z:U}{Y:aD}(g:t a b d e f h aK Z Y):a0 id #[.agg #[.int .u64 a,.int .i64 b,.int .i64 d,.int .i64 e,.int .u64 f,.int .u64 h],.int .u64 aK] Z Y:=
 dQ dH (c:=aO) (dE:=[.tmp 4,.tmp 5]) Tryz.func27 (by kernel_rfl) (by kernel_rfl) (by kernel_rfl) (args:=[.agg #[.int .u64 a,.int .i64 b,.int .i64 d,.int .i64 e,.int .u64 f,.int .u64 h],.int .u64 aK]) (by kernel_rfl) (aM.ok Y _ Z (eW rfl (cK (bR rfl (cK (bR rfl (cK (bR rfl (cK (bR rfl (cK (bR rfl (cK (bR rfl (dY (bR rfl (g)))))))))))))))))
end sX
namespace jT
noncomputable def aO:Code:=dO Tryz.f29
def aM.t(Y:aD)(aX:Int)(Z:U):Prop:=
 cond (aX == 0) (Y (.slice none 0 0) Z) (dN Z 35 [.int .u64 aX] fun b1 a=>Y (.slice (some b1) 1 1) a)
def aM.g(Y:aD)(X:Fr)(Z:U):Prop:=aW .u64 (X 0) fun aX=>aM.t Y aX Z
theorem aM.ok(Y:aD)(X:Fr)(Z:U)(g:aM.g Y X Z):den prog E aO (a7 E [.tmp 2] Y) X Z:=
 a8 g fun aX a g=>bT [(0,.int .u64 aX)] ⟨a,trivial⟩ (by kernel_rfl) g
def t(aX:Int)(Z:U)(Y:aD):Prop:=aM.t Y aX Z
theorem ok{aX:Int}{Z:U}{Y:aD}(g:t aX Z Y):a0 id #[.int .u64 aX] Z Y:=
 dQ dH (c:=aO) (dE:=[.tmp 2]) Tryz.func29 (by kernel_rfl) (by kernel_rfl) (by kernel_rfl) (args:=[.int .u64 aX]) (by kernel_rfl) (aM.ok Y _ Z (bR rfl (g)))
end jT
namespace rG
noncomputable def aO:Code:=dO Tryz.f30
def aM.t(Y:aD)(a:M)(b c:Nat)(aK:Int)(bL:M)(bX bG:Nat)(Z:U):Prop:=
 a0 jI.id #[.slice a b c,.int .u64 aK] Z fun a b=>
 c1 a fun a=>
 cR a fun a c d e=>
 dM e .i64 fun e f=>
 b6 f <| cond (e != 0) (Y (.tuple #[.slice none 0 0,.int .i64 e]) b) (a0 iS.id #[.slice a c d,.slice bL bX bG] b fun a b=>
 c1 a fun a=>
 cR a fun a c d e=>
 dM e .i64 fun e f=>
 b6 f <| Y (.tuple #[.slice a c d,.int .i64 e]) b)
def aM.g(Y:aD)(X:Fr)(Z:U):Prop:=aU (X 0) fun a b c=>aW .u64 (X 1) fun aK=>aU (X 2) fun bL bX bG=>aM.t Y a b c aK bL bX bG Z
theorem aM.ok(Y:aD)(X:Fr)(Z:U)(g:aM.g Y X Z):den prog E aO (a7 E [.tmp 6,.tmp 7] Y) X Z:=
 bE g fun a b c d g=>a8 g fun aK e g=>bE g fun bL bX bG f g=>bT [(0,.slice a b c),(1,.int .u64 aK),(2,.slice bL bX bG)] ⟨d,e,f,trivial⟩ (by kernel_rfl) g
def t(a:M)(b c:Nat)(aK:Int)(bL:M)(bX bG:Nat)(Z:U)(Y:aD):Prop:=aM.t Y a b c aK bL bX bG Z
theorem ok{a:M}{b:Nat}{d:Nat}{aK:Int}{bL:M}{bX:Nat}{bG:Nat}{Z:U}{Y:aD}(g:t a b d aK bL bX bG Z Y):a0 id #[.slice a b d,.int .u64 aK,.slice bL bX bG] Z Y:=
 dQ dH (c:=aO) (dE:=[.tmp 6,.tmp 7]) Tryz.func30 (by kernel_rfl) (by kernel_rfl) (by kernel_rfl) (args:=[.slice a b d,.int .u64 aK,.slice bL bX bG]) (by kernel_rfl) (aM.ok Y _ Z (bD rfl (bR rfl (bD rfl (g)))))
end rG
namespace sM
noncomputable def aO:Code:=dO Tryz.f31
def aM.t(Y:aD)(aX:Int)(Z:U):Prop:=
 a6 (IntKind.i64.wrap (aX+320)) fun eF=>
 a0 oW.id #[.int .i64 eF] Z fun a b=>
 c1 a fun a=>
 cR a fun a c d e=>
 dM e .i64 fun e f=>
 b6 f <| Y (.tuple #[.slice a c d,.int .i64 e]) b
def aM.g(Y:aD)(X:Fr)(Z:U):Prop:=aW .i64 (X 0) fun aX=>aM.t Y aX Z
theorem aM.ok(Y:aD)(X:Fr)(Z:U)(g:aM.g Y X Z):den prog E aO (a7 E [.tmp 2,.tmp 3] Y) X Z:=
 a8 g fun aX a g=>bT [(0,.int .i64 aX)] ⟨a,trivial⟩ (by kernel_rfl) g
def t(aX:Int)(Z:U)(Y:aD):Prop:=aM.t Y aX Z
theorem ok{aX:Int}{Z:U}{Y:aD}(g:t aX Z Y):a0 id #[.int .i64 aX] Z Y:=
 dQ dH (c:=aO) (dE:=[.tmp 2,.tmp 3]) Tryz.func31 (by kernel_rfl) (by kernel_rfl) (by kernel_rfl) (args:=[.int .i64 aX]) (by kernel_rfl) (aM.ok Y _ Z (bR rfl (g)))
end sM
namespace oZ
noncomputable def aO:Code:=dO Tryz.f32
def aZ.t(Y:aD)(aK a:Int)(b:M)(c d:Nat)(e:M)(f g:Nat)(Z:U):Prop:=
 a6 (IntKind.u64.wrap (a - aK)) fun a=>
 a6 (IntKind.u64.wrap (a+1)) fun a=>
 a0 jM.id #[.agg #[.slice e f g,.slice b c d],.int .u64 a] Z fun a b=>
 c1 a fun a=>
 dM a .u64 fun a c=>
 cR c fun c d e f=>
 b6 f <| a6 (IntKind.u64.wrap (aK+a)) fun a=>
 Y (.tuple #[.int .u64 a,.slice c d e]) b
def aZ.g(Y:aD)(X:Fr)(Z:U):Prop:=aW .u64 (X 1) fun aK=>aW .u64 (X 2) fun a=>aU (X 10) fun b c d=>aU (X 12) fun e f h=>aZ.t Y aK a b c d e f h Z
theorem aZ.ok(Y:aD)(X:Fr)(Z:U)(g:aZ.g Y X Z):den prog E (a4 aO [W,W,W,W,W]) (a7 E [.tmp 8,.tmp 9] Y) X Z:=
 a8 g fun aK a g=>a8 g fun b c g=>bE g fun d e f h g=>bE g fun i j k l g=>bT [(1,.int .u64 aK),(2,.int .u64 b),(10,.slice d e f),(12,.slice i j k)] ⟨a,c,h,l,trivial⟩ (by kernel_rfl) g
def aM.t(Y:aD)(a:M)(b c:Nat)(aK d:Int)(gU:Bool)(Z:U):Prop:=
 a0 nP.id #[.slice a b c,.int .i64 320] Z fun a b=>
 c1 a fun a=>
 cR a fun a c e f=>
 dM f .i64 fun f f=>
 b6 f <| a0 jI.id #[.slice a c e,.int .u64 aK] b fun b f=>
 c1 b fun b=>
 cR b fun b g h i=>
 dM i .i64 fun i i=>
 b6 i <| a0 nP.id #[.slice b g h,.int .i64 320] f fun b f=>
 c1 b fun b=>
 cR b fun b g h i=>
 dM i .i64 fun i i=>
 b6 i <| cond gU (a0 q3.id #[.slice a c e] f fun i j=>
 aU i fun i k l=>
 a0 q3.id #[.slice b g h] j fun j m=>
 aU j fun j n o=>
 aZ.t Y aK d i k l j n o m) (aZ.t Y aK d a c e b g h f)
def aM.g(Y:aD)(X:Fr)(Z:U):Prop:=aU (X 0) fun a b c=>aW .u64 (X 1) fun aK=>aW .u64 (X 2) fun d=>eS (X 3) fun gU=>aM.t Y a b c aK d gU Z
theorem aM.ok(Y:aD)(X:Fr)(Z:U)(g:aM.g Y X Z):den prog E aO (a7 E [.tmp 8,.tmp 9] Y) X Z:=
 bE g fun a b c d g=>a8 g fun aK e g=>a8 g fun f h g=>vJ g fun gU i g=>c4 5 (r:=(a4 aO [W,W,W,W,W])) (by kernel_rfl) (aZ.ok Y) (bT [(0,.slice a b c),(1,.int .u64 aK),(2,.int .u64 f),(3,.bool gU)] ⟨d,e,h,i,trivial⟩ (by kernel_rfl) g)
def t(a:M)(b c:Nat)(aK d:Int)(gU:Bool)(Z:U)(Y:aD):Prop:=aM.t Y a b c aK d gU Z
theorem ok{a:M}{b:Nat}{d:Nat}{aK:Int}{e:Int}{gU:Bool}{Z:U}{Y:aD}(g:t a b d aK e gU Z Y):a0 id #[.slice a b d,.int .u64 aK,.int .u64 e,.bool gU] Z Y:=
 dQ dH (c:=aO) (dE:=[.tmp 8,.tmp 9]) Tryz.func32 (by kernel_rfl) (by kernel_rfl) (by kernel_rfl) (args:=[.slice a b d,.int .u64 aK,.int .u64 e,.bool gU]) (by kernel_rfl) (aM.ok Y _ Z (bD rfl (bR rfl (bR rfl (cY rfl (g))))))
end oZ
namespace l9
noncomputable def aO:Code:=dO Tryz.f33
def aZ.t(Y:aD)(aK:Int)(Z:U):Prop:=
 Y (.int .u64 aK) Z
def aZ.g(Y:aD)(X:Fr)(Z:U):Prop:=aW .u64 (X 1) fun aK=>aZ.t Y aK Z
theorem aZ.ok(Y:aD)(X:Fr)(Z:U)(g:aZ.g Y X Z):den prog E (a4 aO [W,W]) (a7 E [.tmp 6] Y) X Z:=
 a8 g fun aK a g=>bT [(1,.int .u64 aK)] ⟨a,trivial⟩ (by kernel_rfl) g
def cJ.g(a:M→Nat→Nat→Int→Int→U→Prop)(X:Fr)(Z:U):Prop:=aU (X 0) fun b c d=>aW .u64 (X 1) fun aK=>aW .u64 (X 2) fun e=>a b c d aK e Z
def cF.t(Y:aD)(a:M→Nat→Nat→Int→Int→U→Prop)(b:M)(c d:Nat)(aK e:Int)(Z:U):Prop:=
 cond (decide (aK≤e)) (a6 (IntKind.u64.wrap (e - aK)) fun eF=>
 (2:Int) ≠ 0∧a6 (IntKind.u64.wrap (Int.tdiv eF 2)) fun f=>
 a6 (IntKind.u64.wrap (aK+f)) fun f=>
 a0 q4.id #[.slice b c d,.int .u64 f,.bool false] Z fun g h=>
 aU g fun g g i=>
 cond (decide ((((g:Nat):Int)) > 0)) (a6 (IntKind.u64.wrap (f - 1)) fun g=>
 a b c d aK g h) (a6 (IntKind.u64.wrap (f+1)) fun f=>
 a b c d f e h)) (aZ.t Y aK Z)
def cF.g(Y:aD)(a:M→Nat→Nat→Int→Int→U→Prop)(X:Fr)(Z:U):Prop:=aU (X 0) fun b c d=>aW .u64 (X 1) fun aK=>aW .u64 (X 2) fun e=>cF.t Y a b c d aK e Z
theorem cF.ok(Y:aD)(a:M→Nat→Nat→Int→Int→U→Prop)(X:Fr)(Z:U)(g:cF.g Y a X Z):den prog E (a4 aO [W,aR,aR,aR]) (a2.then (cJ.g a) (a2.inBlock 0 (a2.then (aZ.g Y) (a7 E [.tmp 6] Y)))) X Z:=
 bE g fun a b c d g=>a8 g fun aK e g=>a8 g fun f h g=>bT [(0,.slice a b c),(1,.int .u64 aK),(2,.int .u64 f)] ⟨d,e,h,trivial⟩ (by kernel_rfl) g
def cJ.t(Y:aD):Nat→M→Nat→Nat→Int→Int→U→Prop
 | 0=>fun _ _ _ _ _ _=>False
 | n+1=>fun a b c aK d Z=>cF.t Y (cJ.t Y n) a b c aK d Z
theorem cJ.ok(Y:aD)(X:Fr)(Z:U)(g:cJ.g (fun a b c aK d Z=>∃ n,cJ.t Y n a b c aK d Z) X Z):den prog E (a4 aO [W,aR,aR]) (a2.inBlock 0 (a2.then (aZ.g Y) (a7 E [.tmp 6] Y))) X Z:=by
 obtain⟨a,b,c,e,g⟩:=b0 g
 obtain⟨aK,f,g⟩:=bN g
 obtain⟨d,h,g⟩:=bN g
 obtain⟨n,g⟩:=g
 refine fK (fun n=>cJ.g (cJ.t Y n)) (K:=(a4 aO [W,aR,aR,aR])) (by kernel_rfl) (fun X Z g=>?_) (fun n=>cF.ok Y (cJ.t Y n)) n X Z (bD e (bR f (bR h (g))))
 obtain⟨a,b,c,e,g⟩:=b0 g
 obtain⟨aK,f,g⟩:=bN g
 obtain⟨d,h,g⟩:=bN g
 exact g
theorem hD.ok(Y:aD)(X:Fr)(Z:U)(g:cJ.g (fun a b c aK d Z=>∃ n,cJ.t Y n a b c aK d Z) X Z):den prog E (a4 aO [W,aR]) (a2.then (aZ.g Y) (a7 E [.tmp 6] Y)) X Z:=
 fA (by kernel_rfl) (cJ.ok Y X Z g)
theorem p2.ok(Y:aD)(X:Fr)(Z:U)(g:cJ.g (fun a b c aK d Z=>∃ n,cJ.t Y n a b c aK d Z) X Z):den prog E (a4 aO [W]) (a7 E [.tmp 6] Y) X Z:=
 fZ (by kernel_rfl) (aZ.ok Y) (hD.ok Y X Z g)
def aM.t(Y:aD)(a:M)(b c:Nat)(aK d:Int)(Z:U):Prop:=
 (∃ n,cJ.t Y n a b c aK d Z)
def aM.g(Y:aD)(X:Fr)(Z:U):Prop:=aU (X 0) fun a b c=>aW .u64 (X 1) fun aK=>aW .u64 (X 2) fun d=>aM.t Y a b c aK d Z
theorem aM.ok(Y:aD)(X:Fr)(Z:U)(g:aM.g Y X Z):den prog E aO (a7 E [.tmp 6] Y) X Z:=
 bE g fun a b c d g=>a8 g fun aK e g=>a8 g fun f h g=>c4 1 (r:=(a4 aO [W])) (by kernel_rfl) (p2.ok Y) (bT [(0,.slice a b c),(1,.int .u64 aK),(2,.int .u64 f)] ⟨d,e,h,trivial⟩ (by kernel_rfl) g)
def t(a:M)(b c:Nat)(aK d:Int)(Z:U)(Y:aD):Prop:=aM.t Y a b c aK d Z
theorem ok{a:M}{b:Nat}{d:Nat}{aK:Int}{e:Int}{Z:U}{Y:aD}(g:t a b d aK e Z Y):a0 id #[.slice a b d,.int .u64 aK,.int .u64 e] Z Y:=
 dQ dH (c:=aO) (dE:=[.tmp 6]) Tryz.func33 (by kernel_rfl) (by kernel_rfl) (by kernel_rfl) (args:=[.slice a b d,.int .u64 aK,.int .u64 e]) (by kernel_rfl) (aM.ok Y _ Z (bD rfl (bR rfl (bR rfl (g)))))
end l9
namespace iL
noncomputable def aO:Code:=dO Tryz.f34
def aZ.t(Y:aD)(Z:U):Prop:=
 Y (.int .i64 0) Z
def aZ.g(Y:aD)(X:Fr)(Z:U):Prop:=aZ.t Y  Z
theorem aZ.ok(Y:aD)(X:Fr)(Z:U)(g:aZ.g Y X Z):den prog E (a4 aO [W,W,W,W]) (a7 E [.tmp 4] Y) X Z:=
 bT [] trivial (by kernel_rfl) g
def bJ.g(a:M→Nat→Nat→M→Nat→Nat→Int→U→Prop)(X:Fr)(Z:U):Prop:=aU (X 5) fun bY b bW=>aU (X 6) fun a9 c bB=>aW .i64 (X 7) fun d=>a bY b bW a9 c bB d Z
def b9.t(Y:aD)(a:M→Nat→Nat→M→Nat→Nat→Int→U→Prop)(bY:M)(b bW:Nat)(a9:M)(c bB:Nat)(d:Int)(Z:U):Prop:=
 cond (decide (d≥0)) (c2 bY b d 1 fun e=>
 cX Z .u64 e fun e=>
 c2 a9 c d 1 fun f=>
 cX Z .u64 f fun f=>
 cond (e != f) (c2 bY b d 1 fun e=>
 cX Z .u64 e fun e=>
 c2 a9 c d 1 fun f=>
 cX Z .u64 f fun f=>
 cond (decide (e < f)) (Y (.int .i64 (-1)) Z) (Y (.int .i64 1) Z)) (a6 (IntKind.i64.wrap (d - 1)) fun d=>
 a bY b bW a9 c bB d Z)) (aZ.t Y Z)
def b9.g(Y:aD)(a:M→Nat→Nat→M→Nat→Nat→Int→U→Prop)(X:Fr)(Z:U):Prop:=aU (X 5) fun bY b bW=>aU (X 6) fun a9 c bB=>aW .i64 (X 7) fun d=>b9.t Y a bY b bW a9 c bB d Z
theorem b9.ok(Y:aD)(a:M→Nat→Nat→M→Nat→Nat→Int→U→Prop)(X:Fr)(Z:U)(g:b9.g Y a X Z):den prog E (a4 aO [W,W,W,aR,W,aR,aR]) (a2.then (bJ.g a) (a2.inBlock 0 (a2.then (aZ.g Y) (a7 E [.tmp 4] Y)))) X Z:=
 bE g fun bY a bW b g=>bE g fun a9 c bB d g=>a8 g fun e f g=>bT [(5,.slice bY a bW),(6,.slice a9 c bB),(7,.int .i64 e)] ⟨b,d,f,trivial⟩ (by kernel_rfl) g
def bJ.t(Y:aD):Nat→M→Nat→Nat→M→Nat→Nat→Int→U→Prop
 | 0=>fun _ _ _ _ _ _ _ _=>False
 | n+1=>fun bY a bW a9 b bB c Z=>b9.t Y (bJ.t Y n) bY a bW a9 b bB c Z
theorem bJ.ok(Y:aD)(X:Fr)(Z:U)(g:bJ.g (fun bY a bW a9 b bB c Z=>∃ n,bJ.t Y n bY a bW a9 b bB c Z) X Z):den prog E (a4 aO [W,W,W,aR,W,aR]) (a2.inBlock 0 (a2.then (aZ.g Y) (a7 E [.tmp 4] Y))) X Z:=by
 obtain⟨bY,a,bW,d,g⟩:=b0 g
 obtain⟨a9,b,bB,e,g⟩:=b0 g
 obtain⟨c,f,g⟩:=bN g
 obtain⟨n,g⟩:=g
 refine fK (fun n=>bJ.g (bJ.t Y n)) (K:=(a4 aO [W,W,W,aR,W,aR,aR])) (by kernel_rfl) (fun X Z g=>?_) (fun n=>b9.ok Y (bJ.t Y n)) n X Z (bD d (bD e (bR f (g))))
 obtain⟨bY,a,bW,d,g⟩:=b0 g
 obtain⟨a9,b,bB,e,g⟩:=b0 g
 obtain⟨c,f,g⟩:=bN g
 exact g
theorem g2.ok(Y:aD)(X:Fr)(Z:U)(g:bJ.g (fun bY a bW a9 b bB c Z=>∃ n,bJ.t Y n bY a bW a9 b bB c Z) X Z):den prog E (a4 aO [W,W,W,aR,W]) (a2.then (aZ.g Y) (a7 E [.tmp 4] Y)) X Z:=
 fA (by kernel_rfl) (bJ.ok Y X Z g)
def bF.t(Y:aD)(bY:M)(a bW:Nat)(a9:M)(b bB:Nat)(Z:U):Prop:=
 a6 (IntKind.i64.wrap ((((a:Nat):Int)) - 1)) fun c=>(∃ n,bJ.t Y n bY a bW a9 b bB c Z)
def bF.g(Y:aD)(X:Fr)(Z:U):Prop:=aU (X 5) fun bY a bW=>aU (X 6) fun a9 b bB=>bF.t Y bY a bW a9 b bB Z
theorem bF.ok(Y:aD)(X:Fr)(Z:U)(g:bF.g Y X Z):den prog E (a4 aO [W,W,W,aR]) (a2.then (aZ.g Y) (a7 E [.tmp 4] Y)) X Z:=
 bE g fun bY a bW b g=>bE g fun a9 c bB d g=>c4 1 (r:=(a4 aO [W,W,W,aR,W])) (by kernel_rfl) (g2.ok Y) (bT [(5,.slice bY a bW),(6,.slice a9 c bB)] ⟨b,d,trivial⟩ (by kernel_rfl) g)
theorem g3.ok(Y:aD)(X:Fr)(Z:U)(g:bF.g Y X Z):den prog E (a4 aO [W,W,W]) (a7 E [.tmp 4] Y) X Z:=
 fZ (by kernel_rfl) (aZ.ok Y) (bF.ok Y X Z g)
def aM.t(Y:aD)(a:M)(b c:Nat)(aJ:M)(aH aG:Nat)(Z:U):Prop:=
 a0 lA.id #[.slice a b c] Z fun a b=>
 aU a fun a c d=>
 a0 lA.id #[.slice aJ aH aG] b fun b e=>
 aU b fun b f g=>
 cond ((((c:Nat):Int)) != (((f:Nat):Int))) (cond (decide ((((c:Nat):Int)) < (((f:Nat):Int)))) (Y (.int .i64 (-1)) e) (Y (.int .i64 1) e)) (bF.t Y a c d b f g e)
def aM.g(Y:aD)(X:Fr)(Z:U):Prop:=aU (X 0) fun a b c=>aU (X 1) fun aJ aH aG=>aM.t Y a b c aJ aH aG Z
theorem aM.ok(Y:aD)(X:Fr)(Z:U)(g:aM.g Y X Z):den prog E aO (a7 E [.tmp 4] Y) X Z:=
 bE g fun a b c d g=>bE g fun aJ aH aG e g=>c4 3 (r:=(a4 aO [W,W,W])) (by kernel_rfl) (g3.ok Y) (bT [(0,.slice a b c),(1,.slice aJ aH aG)] ⟨d,e,trivial⟩ (by kernel_rfl) g)
def t(a:M)(b c:Nat)(aJ:M)(aH aG:Nat)(Z:U)(Y:aD):Prop:=aM.t Y a b c aJ aH aG Z
theorem ok{a:M}{b:Nat}{d:Nat}{aJ:M}{aH:Nat}{aG:Nat}{Z:U}{Y:aD}(g:t a b d aJ aH aG Z Y):a0 id #[.slice a b d,.slice aJ aH aG] Z Y:=
 dQ dH (c:=aO) (dE:=[.tmp 4]) Tryz.func34 (by kernel_rfl) (by kernel_rfl) (by kernel_rfl) (args:=[.slice a b d,.slice aJ aH aG]) (by kernel_rfl) (aM.ok Y _ Z (bD rfl (bD rfl (g))))
end iL
namespace q4
noncomputable def aO:Code:=dO Tryz.f35
def aM.t(Y:aD)(a:M)(b c:Nat)(aK:Int)(eM:Bool)(Z:U):Prop:=
 a0 jI.id #[.slice a b c,.int .u64 aK] Z fun a b=>
 c1 a fun a=>
 cR a fun a c d e=>
 dM e .i64 fun e e=>
 b6 e <| a0 kD.id #[.slice a c d,.int .i64 320] b fun a b=>
 c1 a fun a=>
 cR a fun a c d e=>
 dM e .i64 fun e e=>
 b6 e <| cond eM (a0 jT.id #[.int .u64 1] b fun e f=>
 aU e fun e g h=>
 a0 iS.id #[.slice a c d,.slice e g h] f fun e f=>
 c1 e fun e=>
 cR e fun e g h i=>
 dM i .i64 fun i i=>
 b6 i <| Y (.slice e g h) f) (Y (.slice a c d) b)
def aM.g(Y:aD)(X:Fr)(Z:U):Prop:=aU (X 0) fun a b c=>aW .u64 (X 1) fun aK=>eS (X 2) fun eM=>aM.t Y a b c aK eM Z
theorem aM.ok(Y:aD)(X:Fr)(Z:U)(g:aM.g Y X Z):den prog E aO (a7 E [.tmp 6] Y) X Z:=
 bE g fun a b c d g=>a8 g fun aK e g=>vJ g fun eM f g=>bT [(0,.slice a b c),(1,.int .u64 aK),(2,.bool eM)] ⟨d,e,f,trivial⟩ (by kernel_rfl) g
def t(a:M)(b c:Nat)(aK:Int)(eM:Bool)(Z:U)(Y:aD):Prop:=aM.t Y a b c aK eM Z
theorem ok{a:M}{b:Nat}{d:Nat}{aK:Int}{eM:Bool}{Z:U}{Y:aD}(g:t a b d aK eM Z Y):a0 id #[.slice a b d,.int .u64 aK,.bool eM] Z Y:=
 dQ dH (c:=aO) (dE:=[.tmp 6]) Tryz.func35 (by kernel_rfl) (by kernel_rfl) (by kernel_rfl) (args:=[.slice a b d,.int .u64 aK,.bool eM]) (by kernel_rfl) (aM.ok Y _ Z (bD rfl (bR rfl (cY rfl (g)))))
end q4
namespace pS
noncomputable def aO:Code:=dO Tryz.f36
def dF.g(a:Int→Int→M→Nat→Nat→Int→U→Prop)(X:Fr)(Z:U):Prop:=aW .u64 (X 0) fun aX=>aW .i64 (X 1) fun aK=>aU (X 2) fun bL bX bG=>aW .i64 (X 7) fun b=>a aX aK bL bX bG b Z
def bF.t(Y:aD)(cE:Int→Int→M→Nat→Nat→Int→U→Prop)(aX aK:Int)(bL:M)(bX bG:Nat)(a:Int)(Z:U):Prop:=
 a0 nV.id #[.int .i64 a] Z fun b c=>
 c1 b fun b=>
 cR b fun b d e f=>
 dM f .i64 fun f f=>
 b6 f <| a0 pJ.id #[.slice bL bX bG,.slice b d e] c fun b c=>
 c1 b fun b=>
 cR b fun b d e f=>
 dM f .i64 fun f f=>
 b6 f <| a0 iS.id #[.slice b d e,.slice bL bX bG] c fun c f=>
 c1 c fun c=>
 cR c fun c g h i=>
 dM i .i64 fun i i=>
 b6 i <| a0 jT.id #[.int .u64 aX] f fun f i=>
 aU f fun f j k=>
 a6 (IntKind.i64.wrap (aK+a)) fun l=>
 a6 (IntKind.i64.wrap (l+1)) fun l=>
 a0 j5.id #[.slice f j k,.int .i64 l] i fun f i=>
 c1 f fun f=>
 cR f fun f j k l=>
 dM l .i64 fun l l=>
 b6 l <| a0 o0.id #[.slice f j k,.slice b d e] i fun i l=>
 aU i fun i m n=>
 a0 o0.id #[.slice f j k,.slice c g h] l fun l o=>
 aU l fun l p q=>
 cond (decide ((((m:Nat):Int)) > 0)) (cond (decide ((((p:Nat):Int)) > 0)) (a0 nK.id #[.slice i m n] o fun r s=>
 aW .i64 r fun r=>
 a0 nK.id #[.slice l p q] s fun l p=>
 aW .i64 l fun l=>
 cond (r == l) (a0 iL.id #[.slice f j k,.slice b d e] p fun b d=>
 aW .i64 b fun b=>
 a0 iL.id #[.slice f j k,.slice c g h] d fun c d=>
 aW .i64 c fun c=>
 cond (b == c) (a6 (IntKind.i64.wrap (a+2)) fun b=>
 a0 nK.id #[.slice i m n] d fun c e=>
 aW .i64 c fun c=>
 a6 (IntKind.i64.wrap (b - c)) fun b=>
 Y (.int .i64 b) e) (a6 (IntKind.i64.wrap (a+1400)) fun b=>
 cE aX aK bL bX bG b d)) (a6 (IntKind.i64.wrap (a+1400)) fun b=>
 cE aX aK bL bX bG b p)) (a6 (IntKind.i64.wrap (a+1400)) fun b=>
 cE aX aK bL bX bG b o)) (a6 (IntKind.i64.wrap (a+1400)) fun a=>
 cE aX aK bL bX bG a o)
def bF.g(Y:aD)(cE:Int→Int→M→Nat→Nat→Int→U→Prop)(X:Fr)(Z:U):Prop:=aW .u64 (X 0) fun aX=>aW .i64 (X 1) fun aK=>aU (X 2) fun bL bX bG=>aW .i64 (X 7) fun a=>bF.t Y cE aX aK bL bX bG a Z
theorem bF.ok(Y:aD)(cE:Int→Int→M→Nat→Nat→Int→U→Prop)(X:Fr)(Z:U)(g:bF.g Y cE X Z):den prog E (a4 aO [W,W,aR,aR]) (a2.then (dF.g cE) (a2.inBlock 0 (a7 E [.tmp 6] Y))) X Z:=
 a8 g fun aX a g=>a8 g fun aK b g=>bE g fun bL bX bG c g=>a8 g fun d e g=>bT [(0,.int .u64 aX),(1,.int .i64 aK),(2,.slice bL bX bG),(7,.int .i64 d)] ⟨a,b,c,e,trivial⟩ (by kernel_rfl) g
def dF.t(Y:aD):Nat→Int→Int→M→Nat→Nat→Int→U→Prop
 | 0=>fun _ _ _ _ _ _ _=>False
 | n+1=>fun aX aK bL bX bG a Z=>bF.t Y (dF.t Y n) aX aK bL bX bG a Z
theorem dF.ok(Y:aD)(X:Fr)(Z:U)(g:dF.g (fun aX aK bL bX bG a Z=>∃ n,dF.t Y n aX aK bL bX bG a Z) X Z):den prog E (a4 aO [W,W,aR]) (a2.inBlock 0 (a7 E [.tmp 6] Y)) X Z:=by
 obtain⟨aX,b,g⟩:=bN g
 obtain⟨aK,c,g⟩:=bN g
 obtain⟨bL,bX,bG,d,g⟩:=b0 g
 obtain⟨a,e,g⟩:=bN g
 obtain⟨n,g⟩:=g
 refine fK (fun n=>dF.g (dF.t Y n)) (K:=(a4 aO [W,W,aR,aR])) (by kernel_rfl) (fun X Z g=>?_) (fun n=>bF.ok Y (dF.t Y n)) n X Z (bR b (bR c (bD d (bR e (g)))))
 obtain⟨aX,b,g⟩:=bN g
 obtain⟨aK,c,g⟩:=bN g
 obtain⟨bL,bX,bG,d,g⟩:=b0 g
 obtain⟨a,e,g⟩:=bN g
 exact g
theorem fF.ok(Y:aD)(X:Fr)(Z:U)(g:dF.g (fun aX aK bL bX bG a Z=>∃ n,dF.t Y n aX aK bL bX bG a Z) X Z):den prog E (a4 aO [W,W]) (a7 E [.tmp 6] Y) X Z:=
 fA (by kernel_rfl) (dF.ok Y X Z g)
def aM.t(Y:aD)(aX aK:Int)(bL:M)(bX bG:Nat)(Z:U):Prop:=
 (∃ n,dF.t Y n aX aK bL bX bG 1400 Z)
def aM.g(Y:aD)(X:Fr)(Z:U):Prop:=aW .u64 (X 0) fun aX=>aW .i64 (X 1) fun aK=>aU (X 2) fun bL bX bG=>aM.t Y aX aK bL bX bG Z
theorem aM.ok(Y:aD)(X:Fr)(Z:U)(g:aM.g Y X Z):den prog E aO (a7 E [.tmp 6] Y) X Z:=
 a8 g fun aX a g=>a8 g fun aK b g=>bE g fun bL bX bG c g=>c4 2 (r:=(a4 aO [W,W])) (by kernel_rfl) (fF.ok Y) (bT [(0,.int .u64 aX),(1,.int .i64 aK),(2,.slice bL bX bG)] ⟨a,b,c,trivial⟩ (by kernel_rfl) g)
def t(aX aK:Int)(bL:M)(bX bG:Nat)(Z:U)(Y:aD):Prop:=aM.t Y aX aK bL bX bG Z
theorem ok{aX:Int}{aK:Int}{bL:M}{bX:Nat}{bG:Nat}{Z:U}{Y:aD}(g:t aX aK bL bX bG Z Y):a0 id #[.int .u64 aX,.int .i64 aK,.slice bL bX bG] Z Y:=
 dQ dH (c:=aO) (dE:=[.tmp 6]) Tryz.func36 (by kernel_rfl) (by kernel_rfl) (by kernel_rfl) (args:=[.int .u64 aX,.int .i64 aK,.slice bL bX bG]) (by kernel_rfl) (aM.ok Y _ Z (bR rfl (bR rfl (bD rfl (g)))))
end pS
namespace hM
noncomputable def aO:Code:=dO Tryz.f38
def aM.t(Y:aD)(aX:Int)(Z:U):Prop:=
 a6 (iV .u64 aX 4294967295) fun eF=>
 a6 (IntKind.u32.wrap eF) fun a=>
 0≤(32:Int)∧a6 (gP .u64 aX 32) fun b=>
 a6 (IntKind.u32.wrap b) fun b=>
 dN Z 89 [.int .u32 a,.int .u32 b] fun a b=>
 a0 gV.id #[.slice (some a) 2 2] b fun a b=>
 aU a fun a c d=>
 Y (.slice a c d) b
def aM.g(Y:aD)(X:Fr)(Z:U):Prop:=aW .u64 (X 0) fun aX=>aM.t Y aX Z
theorem aM.ok(Y:aD)(X:Fr)(Z:U)(g:aM.g Y X Z):den prog E aO (a7 E [.tmp 2] Y) X Z:=
 a8 g fun aX a g=>bT [(0,.int .u64 aX)] ⟨a,trivial⟩ (by kernel_rfl) g
def t(aX:Int)(Z:U)(Y:aD):Prop:=aM.t Y aX Z
theorem ok{aX:Int}{Z:U}{Y:aD}(g:t aX Z Y):a0 id #[.int .u64 aX] Z Y:=
 dQ dH (c:=aO) (dE:=[.tmp 2]) Tryz.func38 (by kernel_rfl) (by kernel_rfl) (by kernel_rfl) (args:=[.int .u64 aX]) (by kernel_rfl) (aM.ok Y _ Z (bR rfl (g)))
end hM
namespace g8
noncomputable def aO:Code:=dO Tryz.f39
def aZ.t(Y:aD)(bY:M)(a bW:Nat)(Z:U):Prop:=
 a0 gV.id #[.slice bY a bW] Z fun a b=>
 aU a fun a c d=>
 Y (.slice a c d) b
def aZ.g(Y:aD)(X:Fr)(Z:U):Prop:=aU (X 5) fun bY a bW=>aZ.t Y bY a bW Z
theorem aZ.ok(Y:aD)(X:Fr)(Z:U)(g:aZ.g Y X Z):den prog E (a4 aO [W,W,W,W]) (a7 E [.tmp 4] Y) X Z:=
 bE g fun bY a bW b g=>bT [(5,.slice bY a bW)] ⟨b,trivial⟩ (by kernel_rfl) g
def bJ.g(a:M→Nat→Nat→M→Nat→Nat→M→Nat→Nat→Int→Int→U→Prop)(X:Fr)(Z:U):Prop:=aU (X 0) fun b c d=>aU (X 1) fun aJ aH aG=>aU (X 5) fun bY e bW=>aW .u64 (X 6) fun f=>aW .i64 (X 7) fun h=>a b c d aJ aH aG bY e bW f h Z
def dD.t(Y:aD)(a:M→Nat→Nat→M→Nat→Nat→M→Nat→Nat→Int→Int→U→Prop)(b:M)(c d:Nat)(aJ:M)(aH aG:Nat)(bY:M)(e bW:Nat)(f g:Int)(Z:U):Prop:=
 cond (decide (g < (((c:Nat):Int)))) (c2 b c g 1 fun h=>
 cX Z .u32 h fun h=>
 a6 (IntKind.u64.wrap h) fun h=>
 a6 (IntKind.u64.wrap (f+h)) fun h=>
 cond (decide (g < (((aH:Nat):Int)))) (c2 aJ aH g 1 fun i=>
 cX Z .u32 i fun i=>
 a6 (IntKind.u64.wrap i) fun i=>
 a6 (IntKind.u64.wrap (h+i)) fun i=>
 a6 (iV .u64 i 4294967295) fun j=>
 a6 (IntKind.u32.wrap j) fun j=>
 dN Z 89 [.int .u32 j] fun j k=>
 hF k 89 h1 bY e bW (.slice (some j) 1 1) fun j k l m=>
 0≤(32:Int)∧a6 (gP .u64 i 32) fun i=>
 a6 (IntKind.i64.wrap (g+1)) fun n=>
 a b c d aJ aH aG j k l i n m) (a6 (iV .u64 h 4294967295) fun i=>
 a6 (IntKind.u32.wrap i) fun i=>
 dN Z 89 [.int .u32 i] fun i j=>
 hF j 89 h1 bY e bW (.slice (some i) 1 1) fun i j k l=>
 0≤(32:Int)∧a6 (gP .u64 h 32) fun h=>
 a6 (IntKind.i64.wrap (g+1)) fun m=>
 a b c d aJ aH aG i j k h m l)) (cond (decide (g < (((aH:Nat):Int)))) (c2 aJ aH g 1 fun h=>
 cX Z .u32 h fun h=>
 a6 (IntKind.u64.wrap h) fun h=>
 a6 (IntKind.u64.wrap (f+h)) fun h=>
 a6 (iV .u64 h 4294967295) fun i=>
 a6 (IntKind.u32.wrap i) fun i=>
 dN Z 89 [.int .u32 i] fun i j=>
 hF j 89 h1 bY e bW (.slice (some i) 1 1) fun i j k l=>
 0≤(32:Int)∧a6 (gP .u64 h 32) fun h=>
 a6 (IntKind.i64.wrap (g+1)) fun m=>
 a b c d aJ aH aG i j k h m l) (a6 (iV .u64 f 4294967295) fun h=>
 a6 (IntKind.u32.wrap h) fun h=>
 dN Z 89 [.int .u32 h] fun h i=>
 hF i 89 h1 bY e bW (.slice (some h) 1 1) fun e h i j=>
 0≤(32:Int)∧a6 (gP .u64 f 32) fun f=>
 a6 (IntKind.i64.wrap (g+1)) fun g=>
 a b c d aJ aH aG e h i f g j))
def dD.g(Y:aD)(a:M→Nat→Nat→M→Nat→Nat→M→Nat→Nat→Int→Int→U→Prop)(X:Fr)(Z:U):Prop:=aU (X 0) fun b c d=>aU (X 1) fun aJ aH aG=>aU (X 5) fun bY e bW=>aW .u64 (X 6) fun f=>aW .i64 (X 7) fun h=>dD.t Y a b c d aJ aH aG bY e bW f h Z
theorem dD.ok(Y:aD)(a:M→Nat→Nat→M→Nat→Nat→M→Nat→Nat→Int→Int→U→Prop)(X:Fr)(Z:U)(g:dD.g Y a X Z):den prog E (a4 aO [W,W,W,aR,W,aR,aR,W]) (a2.then (bJ.g a) (a2.inBlock 0 (a2.then (aZ.g Y) (a7 E [.tmp 4] Y)))) X Z:=
 bE g fun a b c d g=>bE g fun aJ aH aG e g=>bE g fun bY f bW h g=>a8 g fun i j g=>a8 g fun k l g=>bT [(0,.slice a b c),(1,.slice aJ aH aG),(5,.slice bY f bW),(6,.int .u64 i),(7,.int .i64 k)] ⟨d,e,h,j,l,trivial⟩ (by kernel_rfl) g
def b9.t(Y:aD)(a:M→Nat→Nat→M→Nat→Nat→M→Nat→Nat→Int→Int→U→Prop)(b:M)(c d:Nat)(aJ:M)(aH aG:Nat)(bY:M)(e bW:Nat)(f g:Int)(Z:U):Prop:=
 cond (decide (g < (((c:Nat):Int)))) (dD.t Y a b c d aJ aH aG bY e bW f g Z) (cond (decide (g < (((aH:Nat):Int)))) (dD.t Y a b c d aJ aH aG bY e bW f g Z) (cond (decide (f > 0)) (dD.t Y a b c d aJ aH aG bY e bW f g Z) (aZ.t Y bY e bW Z)))
def b9.g(Y:aD)(a:M→Nat→Nat→M→Nat→Nat→M→Nat→Nat→Int→Int→U→Prop)(X:Fr)(Z:U):Prop:=aU (X 0) fun b c d=>aU (X 1) fun aJ aH aG=>aU (X 5) fun bY e bW=>aW .u64 (X 6) fun f=>aW .i64 (X 7) fun h=>b9.t Y a b c d aJ aH aG bY e bW f h Z
theorem b9.ok(Y:aD)(a:M→Nat→Nat→M→Nat→Nat→M→Nat→Nat→Int→Int→U→Prop)(X:Fr)(Z:U)(g:b9.g Y a X Z):den prog E (a4 aO [W,W,W,aR,W,aR,aR]) (a2.then (bJ.g a) (a2.inBlock 0 (a2.then (aZ.g Y) (a7 E [.tmp 4] Y)))) X Z:=
 bE g fun b c d e g=>bE g fun aJ aH aG f g=>bE g fun bY h bW i g=>a8 g fun j k g=>a8 g fun l m g=>c4 1 (r:=(a4 aO [W,W,W,aR,W,aR,aR,W])) (by kernel_rfl) (dD.ok Y a) (bT [(0,.slice b c d),(1,.slice aJ aH aG),(5,.slice bY h bW),(6,.int .u64 j),(7,.int .i64 l)] ⟨e,f,i,k,m,trivial⟩ (by kernel_rfl) g)
def bJ.t(Y:aD):Nat→M→Nat→Nat→M→Nat→Nat→M→Nat→Nat→Int→Int→U→Prop
 | 0=>fun _ _ _ _ _ _ _ _ _ _ _ _=>False
 | n+1=>fun a b c aJ aH aG bY d bW e f Z=>b9.t Y (bJ.t Y n) a b c aJ aH aG bY d bW e f Z
theorem bJ.ok(Y:aD)(X:Fr)(Z:U)(g:bJ.g (fun a b c aJ aH aG bY d bW e f Z=>∃ n,bJ.t Y n a b c aJ aH aG bY d bW e f Z) X Z):den prog E (a4 aO [W,W,W,aR,W,aR]) (a2.inBlock 0 (a2.then (aZ.g Y) (a7 E [.tmp 4] Y))) X Z:=by
 obtain⟨a,b,c,h,g⟩:=b0 g
 obtain⟨aJ,aH,aG,i,g⟩:=b0 g
 obtain⟨bY,d,bW,j,g⟩:=b0 g
 obtain⟨e,k,g⟩:=bN g
 obtain⟨f,l,g⟩:=bN g
 obtain⟨n,g⟩:=g
 refine fK (fun n=>bJ.g (bJ.t Y n)) (K:=(a4 aO [W,W,W,aR,W,aR,aR])) (by kernel_rfl) (fun X Z g=>?_) (fun n=>b9.ok Y (bJ.t Y n)) n X Z (bD h (bD i (bD j (bR k (bR l (g))))))
 obtain⟨a,b,c,h,g⟩:=b0 g
 obtain⟨aJ,aH,aG,i,g⟩:=b0 g
 obtain⟨bY,d,bW,j,g⟩:=b0 g
 obtain⟨e,k,g⟩:=bN g
 obtain⟨f,l,g⟩:=bN g
 exact g
theorem p0.ok(Y:aD)(X:Fr)(Z:U)(g:bJ.g (fun a b c aJ aH aG bY d bW e f Z=>∃ n,bJ.t Y n a b c aJ aH aG bY d bW e f Z) X Z):den prog E (a4 aO [W,W,W,aR,W]) (a2.then (aZ.g Y) (a7 E [.tmp 4] Y)) X Z:=
 fA (by kernel_rfl) (bJ.ok Y X Z g)
def bF.t(Y:aD)(a:M)(b c:Nat)(aJ:M)(aH aG:Nat)(bY:M)(d bW:Nat)(e:Int)(Z:U):Prop:=
 (∃ n,bJ.t Y n a b c aJ aH aG bY d bW e 0 Z)
def bF.g(Y:aD)(X:Fr)(Z:U):Prop:=aU (X 0) fun a b c=>aU (X 1) fun aJ aH aG=>aU (X 5) fun bY d bW=>aW .u64 (X 6) fun e=>bF.t Y a b c aJ aH aG bY d bW e Z
theorem bF.ok(Y:aD)(X:Fr)(Z:U)(g:bF.g Y X Z):den prog E (a4 aO [W,W,W,aR]) (a2.then (aZ.g Y) (a7 E [.tmp 4] Y)) X Z:=
 bE g fun a b c d g=>bE g fun aJ aH aG e g=>bE g fun bY f bW h g=>a8 g fun i j g=>c4 1 (r:=(a4 aO [W,W,W,aR,W])) (by kernel_rfl) (p0.ok Y) (bT [(0,.slice a b c),(1,.slice aJ aH aG),(5,.slice bY f bW),(6,.int .u64 i)] ⟨d,e,h,j,trivial⟩ (by kernel_rfl) g)
theorem p1.ok(Y:aD)(X:Fr)(Z:U)(g:bF.g Y X Z):den prog E (a4 aO [W,W,W]) (a7 E [.tmp 4] Y) X Z:=
 fZ (by kernel_rfl) (aZ.ok Y) (bF.ok Y X Z g)
def aM.t(Y:aD)(a:M)(b c:Nat)(aJ:M)(aH aG:Nat)(Z:U):Prop:=
 a6 (IntKind.i64.wrap ((if (((aH:Nat):Int)) > (((b:Nat):Int)) then(((aH:Nat):Int)) else(((b:Nat):Int)))+1)) fun eF=>
 h5 Z 89 h1 0 eF fun eY d=>
 bF.t Y a b c aJ aH aG (some eY) ((0:Int).toNat) eF.toNat 0 d
def aM.g(Y:aD)(X:Fr)(Z:U):Prop:=aU (X 0) fun a b c=>aU (X 1) fun aJ aH aG=>aM.t Y a b c aJ aH aG Z
theorem aM.ok(Y:aD)(X:Fr)(Z:U)(g:aM.g Y X Z):den prog E aO (a7 E [.tmp 4] Y) X Z:=
 bE g fun a b c d g=>bE g fun aJ aH aG e g=>c4 3 (r:=(a4 aO [W,W,W])) (by kernel_rfl) (p1.ok Y) (bT [(0,.slice a b c),(1,.slice aJ aH aG)] ⟨d,e,trivial⟩ (by kernel_rfl) g)
def t(a:M)(b c:Nat)(aJ:M)(aH aG:Nat)(Z:U)(Y:aD):Prop:=aM.t Y a b c aJ aH aG Z
theorem ok{a:M}{b:Nat}{d:Nat}{aJ:M}{aH:Nat}{aG:Nat}{Z:U}{Y:aD}(g:t a b d aJ aH aG Z Y):a0 id #[.slice a b d,.slice aJ aH aG] Z Y:=
 dQ dH (c:=aO) (dE:=[.tmp 4]) Tryz.func39 (by kernel_rfl) (by kernel_rfl) (by kernel_rfl) (args:=[.slice a b d,.slice aJ aH aG]) (by kernel_rfl) (aM.ok Y _ Z (bD rfl (bD rfl (g))))
end g8
namespace h9
noncomputable def aO:Code:=dO Tryz.f40
def aZ.t(Y:aD)(bY:M)(a bW:Nat)(Z:U):Prop:=
 a0 gV.id #[.slice bY a bW] Z fun a b=>
 aU a fun a c d=>
 Y (.slice a c d) b
def aZ.g(Y:aD)(X:Fr)(Z:U):Prop:=aU (X 5) fun bY a bW=>aZ.t Y bY a bW Z
theorem aZ.ok(Y:aD)(X:Fr)(Z:U)(g:aZ.g Y X Z):den prog E (a4 aO [W,W,W]) (a7 E [.tmp 4] Y) X Z:=
 bE g fun bY a bW b g=>bT [(5,.slice bY a bW)] ⟨b,trivial⟩ (by kernel_rfl) g
def bJ.g(a:M→Nat→Nat→M→Nat→Nat→M→Nat→Nat→Int→U→Prop)(X:Fr)(Z:U):Prop:=aU (X 0) fun b c d=>aU (X 1) fun aJ aH aG=>aU (X 5) fun bY e bW=>aW .i64 (X 6) fun f=>a b c d aJ aH aG bY e bW f Z
def dD.t(Y:aD)(a:M→Nat→Nat→M→Nat→Nat→M→Nat→Nat→Int→U→Prop)(b:M)(c d:Nat)(aJ:M)(aH aG:Nat)(bY:M)(e bW:Nat)(f:Int)(Z:U):Prop:=
 a6 (IntKind.i64.wrap (f+1)) fun f=>a b c d aJ aH aG bY e bW f Z
def dD.g(Y:aD)(a:M→Nat→Nat→M→Nat→Nat→M→Nat→Nat→Int→U→Prop)(X:Fr)(Z:U):Prop:=aU (X 0) fun b c d=>aU (X 1) fun aJ aH aG=>aU (X 5) fun bY e bW=>aW .i64 (X 6) fun f=>dD.t Y a b c d aJ aH aG bY e bW f Z
theorem dD.ok(Y:aD)(a:M→Nat→Nat→M→Nat→Nat→M→Nat→Nat→Int→U→Prop)(X:Fr)(Z:U)(g:dD.g Y a X Z):den prog E (a4 aO [W,W,aR,W,aR,aR,W,W]) (a2.then (bJ.g a) (a2.inBlock 0 (a2.then (aZ.g Y) (a7 E [.tmp 4] Y)))) X Z:=
 bE g fun a b c d g=>bE g fun aJ aH aG e g=>bE g fun bY f bW h g=>a8 g fun i j g=>bT [(0,.slice a b c),(1,.slice aJ aH aG),(5,.slice bY f bW),(6,.int .i64 i)] ⟨d,e,h,j,trivial⟩ (by kernel_rfl) g
def e3.t(Y:aD)(a:M→Nat→Nat→M→Nat→Nat→M→Nat→Nat→Int→U→Prop)(b:M)(c d:Nat)(aJ:M)(aH aG:Nat)(bY:M)(e bW:Nat)(f g:Int)(Z:U):Prop:=
 a6 (IntKind.i64.wrap (f+(((aH:Nat):Int)))) fun h=>
 a6 (IntKind.u32.wrap g) fun g=>
 c2 bY e h 1 fun h=>
 b3 Z h (.int .u32 g) fun g=>
 dD.t Y a b c d aJ aH aG bY e bW f g
def e3.g(Y:aD)(a:M→Nat→Nat→M→Nat→Nat→M→Nat→Nat→Int→U→Prop)(X:Fr)(Z:U):Prop:=aU (X 0) fun b c d=>aU (X 1) fun aJ aH aG=>aU (X 5) fun bY e bW=>aW .i64 (X 6) fun f=>aW .u64 (X 7) fun h=>e3.t Y a b c d aJ aH aG bY e bW f h Z
theorem e3.ok(Y:aD)(a:M→Nat→Nat→M→Nat→Nat→M→Nat→Nat→Int→U→Prop)(X:Fr)(Z:U)(g:e3.g Y a X Z):den prog E (a4 aO [W,W,aR,W,aR,aR,W,aR,aR,W,W,W]) (a2.inBlock 1 (a2.then (dD.g Y a) (a2.then (bJ.g a) (a2.inBlock 0 (a2.then (aZ.g Y) (a7 E [.tmp 4] Y)))))) X Z:=
 bE g fun a b c d g=>bE g fun aJ aH aG e g=>bE g fun bY f bW h g=>a8 g fun i j g=>a8 g fun k l g=>bT [(0,.slice a b c),(1,.slice aJ aH aG),(5,.slice bY f bW),(6,.int .i64 i),(7,.int .u64 k)] ⟨d,e,h,j,l,trivial⟩ (by kernel_rfl) g
def kY.g(a:M→Nat→Nat→M→Nat→Nat→M→Nat→Nat→Int→Int→Int→Int→U→Prop)(X:Fr)(Z:U):Prop:=aU (X 0) fun b c d=>aU (X 1) fun aJ aH aG=>aU (X 5) fun bY e bW=>aW .i64 (X 6) fun f=>aW .u64 (X 7) fun h=>aW .u64 (X 8) fun i=>aW .i64 (X 9) fun j=>a b c d aJ aH aG bY e bW f h i j Z
def qI.t(Y:aD)(a:M→Nat→Nat→M→Nat→Nat→M→Nat→Nat→Int→U→Prop)(b:M→Nat→Nat→M→Nat→Nat→M→Nat→Nat→Int→Int→Int→Int→U→Prop)(c:M)(d e:Nat)(aJ:M)(aH aG:Nat)(bY:M)(f bW:Nat)(g h:Int)(i j:Int)(Z:U):Prop:=
 cond (decide (j < (((aH:Nat):Int)))) (a6 (IntKind.i64.wrap (g+j)) fun k=>
 c2 bY f k 1 fun k=>
 cX Z .u32 k fun k=>
 a6 (IntKind.u64.wrap k) fun k=>
 c2 aJ aH j 1 fun l=>
 cX Z .u32 l fun l=>
 a6 (IntKind.u64.wrap l) fun l=>
 a6 (IntKind.u64.wrap (i*l)) fun l=>
 a6 (IntKind.u64.wrap (k+l)) fun k=>
 a6 (IntKind.u64.wrap (h+k)) fun k=>
 a6 (IntKind.i64.wrap (g+j)) fun l=>
 a6 (iV .u64 k 4294967295) fun m=>
 a6 (IntKind.u32.wrap m) fun m=>
 c2 bY f l 1 fun l=>
 b3 Z l (.int .u32 m) fun l=>
 0≤(32:Int)∧a6 (gP .u64 k 32) fun k=>
 a6 (IntKind.i64.wrap (j+1)) fun j=>
 b c d e aJ aH aG bY f bW g k i j l) (e3.t Y a c d e aJ aH aG bY f bW g h Z)
def qI.g(Y:aD)(a:M→Nat→Nat→M→Nat→Nat→M→Nat→Nat→Int→U→Prop)(b:M→Nat→Nat→M→Nat→Nat→M→Nat→Nat→Int→Int→Int→Int→U→Prop)(X:Fr)(Z:U):Prop:=aU (X 0) fun c d e=>aU (X 1) fun aJ aH aG=>aU (X 5) fun bY f bW=>aW .i64 (X 6) fun h=>aW .u64 (X 7) fun i=>aW .u64 (X 8) fun j=>aW .i64 (X 9) fun k=>qI.t Y a b c d e aJ aH aG bY f bW h i j k Z
theorem qI.ok(Y:aD)(a:M→Nat→Nat→M→Nat→Nat→M→Nat→Nat→Int→U→Prop)(b:M→Nat→Nat→M→Nat→Nat→M→Nat→Nat→Int→Int→Int→Int→U→Prop)(X:Fr)(Z:U)(g:qI.g Y a b X Z):den prog E (a4 aO [W,W,aR,W,aR,aR,W,aR,aR,W,W,aR,W,aR,aR]) (a2.then (kY.g b) (a2.inBlock 2 (a2.then (e3.g Y a) (a2.inBlock 1 (a2.then (dD.g Y a) (a2.then (bJ.g a) (a2.inBlock 0 (a2.then (aZ.g Y) (a7 E [.tmp 4] Y))))))))) X Z:=
 bE g fun a b c d g=>bE g fun aJ aH aG e g=>bE g fun bY f bW h g=>a8 g fun i j g=>a8 g fun k l g=>a8 g fun m n g=>a8 g fun o p g=>bT [(0,.slice a b c),(1,.slice aJ aH aG),(5,.slice bY f bW),(6,.int .i64 i),(7,.int .u64 k),(8,.int .u64 m),(9,.int .i64 o)] ⟨d,e,h,j,l,n,p,trivial⟩ (by kernel_rfl) g
def kY.t(Y:aD)(a:M→Nat→Nat→M→Nat→Nat→M→Nat→Nat→Int→U→Prop):Nat→M→Nat→Nat→M→Nat→Nat→M→Nat→Nat→Int→Int→Int→Int→U→Prop
 | 0=>fun _ _ _ _ _ _ _ _ _ _ _ _ _ _=>False
 | n+1=>fun b c d aJ aH aG bY e bW f g h i Z=>qI.t Y a (kY.t Y a n) b c d aJ aH aG bY e bW f g h i Z
theorem kY.ok(Y:aD)(a:M→Nat→Nat→M→Nat→Nat→M→Nat→Nat→Int→U→Prop)(X:Fr)(Z:U)(g:kY.g (fun b c d aJ aH aG bY e bW f h i j Z=>∃ n,kY.t Y a n b c d aJ aH aG bY e bW f h i j Z) X Z):den prog E (a4 aO [W,W,aR,W,aR,aR,W,aR,aR,W,W,aR,W,aR]) (a2.inBlock 2 (a2.then (e3.g Y a) (a2.inBlock 1 (a2.then (dD.g Y a) (a2.then (bJ.g a) (a2.inBlock 0 (a2.then (aZ.g Y) (a7 E [.tmp 4] Y)))))))) X Z:=by
 obtain⟨b,c,d,k,g⟩:=b0 g
 obtain⟨aJ,aH,aG,l,g⟩:=b0 g
 obtain⟨bY,e,bW,m,g⟩:=b0 g
 obtain⟨f,o,g⟩:=bN g
 obtain⟨h,p,g⟩:=bN g
 obtain⟨i,q,g⟩:=bN g
 obtain⟨j,r,g⟩:=bN g
 obtain⟨n,g⟩:=g
 refine fK (fun n=>kY.g (kY.t Y a n)) (K:=(a4 aO [W,W,aR,W,aR,aR,W,aR,aR,W,W,aR,W,aR,aR])) (by kernel_rfl) (fun X Z g=>?_) (fun n=>qI.ok Y a (kY.t Y a n)) n X Z (bD k (bD l (bD m (bR o (bR p (bR q (bR r (g))))))))
 obtain⟨b,c,d,k,g⟩:=b0 g
 obtain⟨aJ,aH,aG,l,g⟩:=b0 g
 obtain⟨bY,e,bW,m,g⟩:=b0 g
 obtain⟨f,o,g⟩:=bN g
 obtain⟨h,p,g⟩:=bN g
 obtain⟨i,q,g⟩:=bN g
 obtain⟨j,r,g⟩:=bN g
 exact g
theorem p3.ok(Y:aD)(a:M→Nat→Nat→M→Nat→Nat→M→Nat→Nat→Int→U→Prop)(X:Fr)(Z:U)(g:kY.g (fun b c d aJ aH aG bY e bW f h i j Z=>∃ n,kY.t Y a n b c d aJ aH aG bY e bW f h i j Z) X Z):den prog E (a4 aO [W,W,aR,W,aR,aR,W,aR,aR,W,W,aR,W]) (a2.then (e3.g Y a) (a2.inBlock 1 (a2.then (dD.g Y a) (a2.then (bJ.g a) (a2.inBlock 0 (a2.then (aZ.g Y) (a7 E [.tmp 4] Y))))))) X Z:=
 fA (by kernel_rfl) (kY.ok Y a X Z g)
def gM.t(Y:aD)(a:M→Nat→Nat→M→Nat→Nat→M→Nat→Nat→Int→U→Prop)(b:M)(c d:Nat)(aJ:M)(aH aG:Nat)(bY:M)(e bW:Nat)(f g h:Int)(Z:U):Prop:=
 (∃ n,kY.t Y a n b c d aJ aH aG bY e bW f g h 0 Z)
def gM.g(Y:aD)(a:M→Nat→Nat→M→Nat→Nat→M→Nat→Nat→Int→U→Prop)(X:Fr)(Z:U):Prop:=aU (X 0) fun b c d=>aU (X 1) fun aJ aH aG=>aU (X 5) fun bY e bW=>aW .i64 (X 6) fun f=>aW .u64 (X 7) fun h=>aW .u64 (X 8) fun i=>gM.t Y a b c d aJ aH aG bY e bW f h i Z
theorem gM.ok(Y:aD)(a:M→Nat→Nat→M→Nat→Nat→M→Nat→Nat→Int→U→Prop)(X:Fr)(Z:U)(g:gM.g Y a X Z):den prog E (a4 aO [W,W,aR,W,aR,aR,W,aR,aR,W,W,aR]) (a2.then (e3.g Y a) (a2.inBlock 1 (a2.then (dD.g Y a) (a2.then (bJ.g a) (a2.inBlock 0 (a2.then (aZ.g Y) (a7 E [.tmp 4] Y))))))) X Z:=
 bE g fun b c d e g=>bE g fun aJ aH aG f g=>bE g fun bY h bW i g=>a8 g fun j k g=>a8 g fun l m g=>a8 g fun n o g=>c4 1 (r:=(a4 aO [W,W,aR,W,aR,aR,W,aR,aR,W,W,aR,W])) (by kernel_rfl) (p3.ok Y a) (bT [(0,.slice b c d),(1,.slice aJ aH aG),(5,.slice bY h bW),(6,.int .i64 j),(7,.int .u64 l),(8,.int .u64 n)] ⟨e,f,i,k,m,o,trivial⟩ (by kernel_rfl) g)
theorem w3.ok(Y:aD)(a:M→Nat→Nat→M→Nat→Nat→M→Nat→Nat→Int→U→Prop)(X:Fr)(Z:U)(g:gM.g Y a X Z):den prog E (a4 aO [W,W,aR,W,aR,aR,W,aR,aR,W,W]) (a2.inBlock 1 (a2.then (dD.g Y a) (a2.then (bJ.g a) (a2.inBlock 0 (a2.then (aZ.g Y) (a7 E [.tmp 4] Y)))))) X Z:=
 fZ (by kernel_rfl) (e3.ok Y a) (gM.ok Y a X Z g)
def eR.t(Y:aD)(a:M→Nat→Nat→M→Nat→Nat→M→Nat→Nat→Int→U→Prop)(b:M)(c d:Nat)(aJ:M)(aH aG:Nat)(bY:M)(e bW:Nat)(f:Int)(Z:U):Prop:=
 c2 b c f 1 fun g=>
 cX Z .u32 g fun g=>
 a6 (IntKind.u64.wrap g) fun g=>
 gM.t Y a b c d aJ aH aG bY e bW f 0 g Z
def eR.g(Y:aD)(a:M→Nat→Nat→M→Nat→Nat→M→Nat→Nat→Int→U→Prop)(X:Fr)(Z:U):Prop:=aU (X 0) fun b c d=>aU (X 1) fun aJ aH aG=>aU (X 5) fun bY e bW=>aW .i64 (X 6) fun f=>eR.t Y a b c d aJ aH aG bY e bW f Z
theorem eR.ok(Y:aD)(a:M→Nat→Nat→M→Nat→Nat→M→Nat→Nat→Int→U→Prop)(X:Fr)(Z:U)(g:eR.g Y a X Z):den prog E (a4 aO [W,W,aR,W,aR,aR,W,aR,aR]) (a2.inBlock 1 (a2.then (dD.g Y a) (a2.then (bJ.g a) (a2.inBlock 0 (a2.then (aZ.g Y) (a7 E [.tmp 4] Y)))))) X Z:=
 bE g fun b c d e g=>bE g fun aJ aH aG f g=>bE g fun bY h bW i g=>a8 g fun j k g=>c4 2 (r:=(a4 aO [W,W,aR,W,aR,aR,W,aR,aR,W,W])) (by kernel_rfl) (w3.ok Y a) (bT [(0,.slice b c d),(1,.slice aJ aH aG),(5,.slice bY h bW),(6,.int .i64 j)] ⟨e,f,i,k,trivial⟩ (by kernel_rfl) g)
theorem sY.ok(Y:aD)(a:M→Nat→Nat→M→Nat→Nat→M→Nat→Nat→Int→U→Prop)(X:Fr)(Z:U)(g:eR.g Y a X Z):den prog E (a4 aO [W,W,aR,W,aR,aR,W,aR]) (a2.then (dD.g Y a) (a2.then (bJ.g a) (a2.inBlock 0 (a2.then (aZ.g Y) (a7 E [.tmp 4] Y))))) X Z:=
 fA (by kernel_rfl) (eR.ok Y a X Z g)
theorem w4.ok(Y:aD)(a:M→Nat→Nat→M→Nat→Nat→M→Nat→Nat→Int→U→Prop)(X:Fr)(Z:U)(g:eR.g Y a X Z):den prog E (a4 aO [W,W,aR,W,aR,aR,W]) (a2.then (bJ.g a) (a2.inBlock 0 (a2.then (aZ.g Y) (a7 E [.tmp 4] Y)))) X Z:=
 fZ (by kernel_rfl) (dD.ok Y a) (sY.ok Y a X Z g)
def b9.t(Y:aD)(a:M→Nat→Nat→M→Nat→Nat→M→Nat→Nat→Int→U→Prop)(b:M)(c d:Nat)(aJ:M)(aH aG:Nat)(bY:M)(e bW:Nat)(f:Int)(Z:U):Prop:=
 cond (decide (f < (((c:Nat):Int)))) (eR.t Y a b c d aJ aH aG bY e bW f Z) (aZ.t Y bY e bW Z)
def b9.g(Y:aD)(a:M→Nat→Nat→M→Nat→Nat→M→Nat→Nat→Int→U→Prop)(X:Fr)(Z:U):Prop:=aU (X 0) fun b c d=>aU (X 1) fun aJ aH aG=>aU (X 5) fun bY e bW=>aW .i64 (X 6) fun f=>b9.t Y a b c d aJ aH aG bY e bW f Z
theorem b9.ok(Y:aD)(a:M→Nat→Nat→M→Nat→Nat→M→Nat→Nat→Int→U→Prop)(X:Fr)(Z:U)(g:b9.g Y a X Z):den prog E (a4 aO [W,W,aR,W,aR,aR]) (a2.then (bJ.g a) (a2.inBlock 0 (a2.then (aZ.g Y) (a7 E [.tmp 4] Y)))) X Z:=
 bE g fun b c d e g=>bE g fun aJ aH aG f g=>bE g fun bY h bW i g=>a8 g fun j k g=>c4 1 (r:=(a4 aO [W,W,aR,W,aR,aR,W])) (by kernel_rfl) (w4.ok Y a) (bT [(0,.slice b c d),(1,.slice aJ aH aG),(5,.slice bY h bW),(6,.int .i64 j)] ⟨e,f,i,k,trivial⟩ (by kernel_rfl) g)
def bJ.t(Y:aD):Nat→M→Nat→Nat→M→Nat→Nat→M→Nat→Nat→Int→U→Prop
 | 0=>fun _ _ _ _ _ _ _ _ _ _ _=>False
 | n+1=>fun a b c aJ aH aG bY d bW e Z=>b9.t Y (bJ.t Y n) a b c aJ aH aG bY d bW e Z
theorem bJ.ok(Y:aD)(X:Fr)(Z:U)(g:bJ.g (fun a b c aJ aH aG bY d bW e Z=>∃ n,bJ.t Y n a b c aJ aH aG bY d bW e Z) X Z):den prog E (a4 aO [W,W,aR,W,aR]) (a2.inBlock 0 (a2.then (aZ.g Y) (a7 E [.tmp 4] Y))) X Z:=by
 obtain⟨a,b,c,f,g⟩:=b0 g
 obtain⟨aJ,aH,aG,h,g⟩:=b0 g
 obtain⟨bY,d,bW,i,g⟩:=b0 g
 obtain⟨e,j,g⟩:=bN g
 obtain⟨n,g⟩:=g
 refine fK (fun n=>bJ.g (bJ.t Y n)) (K:=(a4 aO [W,W,aR,W,aR,aR])) (by kernel_rfl) (fun X Z g=>?_) (fun n=>b9.ok Y (bJ.t Y n)) n X Z (bD f (bD h (bD i (bR j (g)))))
 obtain⟨a,b,c,f,g⟩:=b0 g
 obtain⟨aJ,aH,aG,h,g⟩:=b0 g
 obtain⟨bY,d,bW,i,g⟩:=b0 g
 obtain⟨e,j,g⟩:=bN g
 exact g
theorem BN.ok(Y:aD)(X:Fr)(Z:U)(g:bJ.g (fun a b c aJ aH aG bY d bW e Z=>∃ n,bJ.t Y n a b c aJ aH aG bY d bW e Z) X Z):den prog E (a4 aO [W,W,aR,W]) (a2.then (aZ.g Y) (a7 E [.tmp 4] Y)) X Z:=
 fA (by kernel_rfl) (bJ.ok Y X Z g)
def bF.t(Y:aD)(a:M)(b c:Nat)(aJ:M)(aH aG:Nat)(bY:M)(d bW:Nat)(Z:U):Prop:=
 (∃ n,bJ.t Y n a b c aJ aH aG bY d bW 0 Z)
def bF.g(Y:aD)(X:Fr)(Z:U):Prop:=aU (X 0) fun a b c=>aU (X 1) fun aJ aH aG=>aU (X 5) fun bY d bW=>bF.t Y a b c aJ aH aG bY d bW Z
theorem bF.ok(Y:aD)(X:Fr)(Z:U)(g:bF.g Y X Z):den prog E (a4 aO [W,W,aR]) (a2.then (aZ.g Y) (a7 E [.tmp 4] Y)) X Z:=
 bE g fun a b c d g=>bE g fun aJ aH aG e g=>bE g fun bY f bW h g=>c4 1 (r:=(a4 aO [W,W,aR,W])) (by kernel_rfl) (BN.ok Y) (bT [(0,.slice a b c),(1,.slice aJ aH aG),(5,.slice bY f bW)] ⟨d,e,h,trivial⟩ (by kernel_rfl) g)
theorem MX.ok(Y:aD)(X:Fr)(Z:U)(g:bF.g Y X Z):den prog E (a4 aO [W,W]) (a7 E [.tmp 4] Y) X Z:=
 fZ (by kernel_rfl) (aZ.ok Y) (bF.ok Y X Z g)
def aM.t(Y:aD)(a:M)(b c:Nat)(aJ:M)(aH aG:Nat)(Z:U):Prop:=
 a6 (IntKind.i64.wrap ((((b:Nat):Int))+(((aH:Nat):Int)))) fun eF=>
 h5 Z 89 h1 eF eF fun eY d=>
 bF.t Y a b c aJ aH aG (some eY) eF.toNat eF.toNat d
def aM.g(Y:aD)(X:Fr)(Z:U):Prop:=aU (X 0) fun a b c=>aU (X 1) fun aJ aH aG=>aM.t Y a b c aJ aH aG Z
theorem aM.ok(Y:aD)(X:Fr)(Z:U)(g:aM.g Y X Z):den prog E aO (a7 E [.tmp 4] Y) X Z:=
 bE g fun a b c d g=>bE g fun aJ aH aG e g=>c4 2 (r:=(a4 aO [W,W])) (by kernel_rfl) (MX.ok Y) (bT [(0,.slice a b c),(1,.slice aJ aH aG)] ⟨d,e,trivial⟩ (by kernel_rfl) g)
def t(a:M)(b c:Nat)(aJ:M)(aH aG:Nat)(Z:U)(Y:aD):Prop:=aM.t Y a b c aJ aH aG Z
theorem ok{a:M}{b:Nat}{d:Nat}{aJ:M}{aH:Nat}{aG:Nat}{Z:U}{Y:aD}(g:t a b d aJ aH aG Z Y):a0 id #[.slice a b d,.slice aJ aH aG] Z Y:=
 dQ dH (c:=aO) (dE:=[.tmp 4]) Tryz.func40 (by kernel_rfl) (by kernel_rfl) (by kernel_rfl) (args:=[.slice a b d,.slice aJ aH aG]) (by kernel_rfl) (aM.ok Y _ Z (bD rfl (bD rfl (g))))
end h9
namespace kA
noncomputable def aO:Code:=dO Tryz.f42
def aZ.t(Y:aD)(a:Int)(Z:U):Prop:=
 Y (.int .i64 a) Z
def aZ.g(Y:aD)(X:Fr)(Z:U):Prop:=aW .i64 (X 3) fun a=>aZ.t Y a Z
theorem aZ.ok(Y:aD)(X:Fr)(Z:U)(g:aZ.g Y X Z):den prog E (a4 aO [W,W,W,W]) (a7 E [.tmp 2] Y) X Z:=
 a8 g fun a b g=>bT [(3,.int .i64 a)] ⟨b,trivial⟩ (by kernel_rfl) g
def bJ.g(a:Int→Int→U→Prop)(X:Fr)(Z:U):Prop:=aW .i64 (X 3) fun b=>aW .u32 (X 4) fun c=>a b c Z
def b9.t(Y:aD)(a:Int→Int→U→Prop)(b c:Int)(Z:U):Prop:=
 cond (decide (c > 0)) (a6 (IntKind.i64.wrap (b+1)) fun d=>
 (2:Int) ≠ 0∧a6 (IntKind.u32.wrap (Int.tdiv c 2)) fun c=>
 a d c Z) (aZ.t Y b Z)
def b9.g(Y:aD)(a:Int→Int→U→Prop)(X:Fr)(Z:U):Prop:=aW .i64 (X 3) fun b=>aW .u32 (X 4) fun c=>b9.t Y a b c Z
theorem b9.ok(Y:aD)(a:Int→Int→U→Prop)(X:Fr)(Z:U)(g:b9.g Y a X Z):den prog E (a4 aO [W,W,W,aR,W,aR,aR]) (a2.then (bJ.g a) (a2.inBlock 0 (a2.then (aZ.g Y) (a7 E [.tmp 2] Y)))) X Z:=
 a8 g fun a b g=>a8 g fun c d g=>bT [(3,.int .i64 a),(4,.int .u32 c)] ⟨b,d,trivial⟩ (by kernel_rfl) g
def bJ.t(Y:aD):Nat→Int→Int→U→Prop
 | 0=>fun _ _ _=>False
 | n+1=>fun a b Z=>b9.t Y (bJ.t Y n) a b Z
theorem bJ.ok(Y:aD)(X:Fr)(Z:U)(g:bJ.g (fun a b Z=>∃ n,bJ.t Y n a b Z) X Z):den prog E (a4 aO [W,W,W,aR,W,aR]) (a2.inBlock 0 (a2.then (aZ.g Y) (a7 E [.tmp 2] Y))) X Z:=by
 obtain⟨a,c,g⟩:=bN g
 obtain⟨b,d,g⟩:=bN g
 obtain⟨n,g⟩:=g
 refine fK (fun n=>bJ.g (bJ.t Y n)) (K:=(a4 aO [W,W,W,aR,W,aR,aR])) (by kernel_rfl) (fun X Z g=>?_) (fun n=>b9.ok Y (bJ.t Y n)) n X Z (bR c (bR d (g)))
 obtain⟨a,c,g⟩:=bN g
 obtain⟨b,d,g⟩:=bN g
 exact g
theorem g2.ok(Y:aD)(X:Fr)(Z:U)(g:bJ.g (fun a b Z=>∃ n,bJ.t Y n a b Z) X Z):den prog E (a4 aO [W,W,W,aR,W]) (a2.then (aZ.g Y) (a7 E [.tmp 2] Y)) X Z:=
 fA (by kernel_rfl) (bJ.ok Y X Z g)
def bF.t(Y:aD)(a:M)(b c:Nat)(c:Int)(Z:U):Prop:=
 a6 (IntKind.i64.wrap ((((b:Nat):Int)) - 1)) fun d=>
 c2 a b d 1 fun dX=>
 cX Z .u32 dX fun a=>
 (∃ n,bJ.t Y n c a Z)
def bF.g(Y:aD)(X:Fr)(Z:U):Prop:=aU (X 0) fun a b c=>aW .i64 (X 3) fun d=>bF.t Y a b c d Z
theorem bF.ok(Y:aD)(X:Fr)(Z:U)(g:bF.g Y X Z):den prog E (a4 aO [W,W,W,aR]) (a2.then (aZ.g Y) (a7 E [.tmp 2] Y)) X Z:=
 bE g fun a b c d g=>a8 g fun e f g=>c4 1 (r:=(a4 aO [W,W,W,aR,W])) (by kernel_rfl) (g2.ok Y) (bT [(0,.slice a b c),(3,.int .i64 e)] ⟨d,f,trivial⟩ (by kernel_rfl) g)
theorem g3.ok(Y:aD)(X:Fr)(Z:U)(g:bF.g Y X Z):den prog E (a4 aO [W,W,W]) (a7 E [.tmp 2] Y) X Z:=
 fZ (by kernel_rfl) (aZ.ok Y) (bF.ok Y X Z g)
def aM.t(Y:aD)(a:M)(b c:Nat)(Z:U):Prop:=
 cond ((((b:Nat):Int)) == 0) (Y (.int .i64 0) Z) (a6 (IntKind.i64.wrap ((((b:Nat):Int)) - 1)) fun eF=>
 a6 (IntKind.i64.wrap (32*eF)) fun d=>
 bF.t Y a b c d Z)
def aM.g(Y:aD)(X:Fr)(Z:U):Prop:=aU (X 0) fun a b c=>aM.t Y a b c Z
theorem aM.ok(Y:aD)(X:Fr)(Z:U)(g:aM.g Y X Z):den prog E aO (a7 E [.tmp 2] Y) X Z:=
 bE g fun a b c d g=>c4 3 (r:=(a4 aO [W,W,W])) (by kernel_rfl) (g3.ok Y) (bT [(0,.slice a b c)] ⟨d,trivial⟩ (by kernel_rfl) g)
def t(a:M)(b c:Nat)(Z:U)(Y:aD):Prop:=aM.t Y a b c Z
theorem ok{a:M}{b:Nat}{d:Nat}{Z:U}{Y:aD}(g:t a b d Z Y):a0 id #[.slice a b d] Z Y:=
 dQ dH (c:=aO) (dE:=[.tmp 2]) Tryz.func42 (by kernel_rfl) (by kernel_rfl) (by kernel_rfl) (args:=[.slice a b d]) (by kernel_rfl) (aM.ok Y _ Z (bD rfl (g)))
end kA
end Go.Proofs.YtjijdlkpmngolaaGreat.G
