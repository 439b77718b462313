import Derived.Test.YtjijdlkpmngolaaGreatKE
set_option linter.unusedVariables false
namespace Go.Proofs.YtjijdlkpmngolaaGreat.G
open Go.Gv
set_option linter.unusedVariables false
set_option maxRecDepth 100000
namespace wL
noncomputable def aO:Code:=dK Tryz.f5
def aL.t(Y:aD)(aS aM:Int)(Z:U):Prop:=
 aY mW.id #[] Z fun a b=>
 eS a fun a=>
 cond a (aY jZ.id #[.agg #[.int .i64 3,.int .i64 aS,.int .i64 aM]] b fun a c=>
 eS a fun a=>
 Y (.bool a) c) (Y (.bool false) b)
def aL.g(Y:aD)(X:Fr)(Z:U):Prop:=aW .i64 (X 0) fun aS=>aW .i64 (X 1) fun aM=>aL.t Y aS aM Z
theorem aL.ok(Y:aD)(X:Fr)(Z:U)(g:aL.g Y X Z):den prog E aO (a8 E [.tmp 4] Y) X Z:=
 bB g fun aS a g=>bB g fun aM b g=>bS [(0,.int .i64 aS),(1,.int .i64 aM)] ⟨a,b,trivial⟩ (by kernel_rfl) g
def t(aS aM:Int)(Z:U)(Y:aD):Prop:=aL.t Y aS aM Z
theorem ok{aS:Int}{aM:Int}{Z:U}{Y:aD}(g:t aS aM Z Y):aY id #[.int .i64 aS,.int .i64 aM] Z Y:=
 dL dI (c:=aO) (dC:=[.tmp 4]) Tryz.func5 (by kernel_rfl) (by kernel_rfl) (by kernel_rfl) (args:=[.int .i64 aS,.int .i64 aM]) (by kernel_rfl) (aL.ok Y _ Z (bQ rfl (bQ rfl (g))))
end wL
namespace nQ
noncomputable def aO:Code:=dK Tryz.f6
def a0.t(Y:aD)(Z:U):Prop:=
 Y (.bool true) Z
def a0.g(Y:aD)(X:Fr)(Z:U):Prop:=a0.t Y  Z
theorem a0.ok(Y:aD)(X:Fr)(Z:U)(g:a0.g Y X Z):den prog E (a3 aO [W,W,W]) (a8 E [.tmp 2] Y) X Z:=
 bS [] trivial (by kernel_rfl) g
def bL.g(a:M→Nat→Nat→Int→U→Prop)(X:Fr)(Z:U):Prop:=aQ (X 0) fun b c d=>aW .i64 (X 3) fun e=>a b c d e Z
def b7.t(Y:aD)(a:M→Nat→Nat→Int→U→Prop)(b:M)(c d:Nat)(e:Int)(Z:U):Prop:=
 a5 (IntKind.i64.wrap (2*(((c:Nat):Int)))) fun f=>
 cond (decide (e < f)) ((((c:Nat):Int)) ≠ 0∧a5 (Int.tmod e (((c:Nat):Int))) fun f=>
 c7 b c f 3 fun f=>
 cY Z .i64 (f.add 0) fun g=>
 cY Z .i64 (f.add 1) fun h=>
 cY Z .i64 (f.add 2) fun f=>
 aY jZ.id #[.agg #[.int .i64 g,.int .i64 h,.int .i64 f]] Z fun f g=>
 eS f fun f=>
 cond (!f) (Y (.bool false) g) (a5 (IntKind.i64.wrap (e+1)) fun e=>
 a b c d e g)) (a0.t Y Z)
def b7.g(Y:aD)(a:M→Nat→Nat→Int→U→Prop)(X:Fr)(Z:U):Prop:=aQ (X 0) fun b c d=>aW .i64 (X 3) fun e=>b7.t Y a b c d e Z
theorem b7.ok(Y:aD)(a:M→Nat→Nat→Int→U→Prop)(X:Fr)(Z:U)(g:b7.g Y a X Z):den prog E (a3 aO [W,W,aT,W,aT,aT]) (a1.then (bL.g a) (a1.inBlock 0 (a1.then (a0.g Y) (a8 E [.tmp 2] Y)))) X Z:=
 bD g fun a b c d g=>bB g fun e f g=>bS [(0,.slice a b c),(3,.int .i64 e)] ⟨d,f,trivial⟩ (by kernel_rfl) g
def bL.t(Y:aD):Nat→M→Nat→Nat→Int→U→Prop
 | 0=>fun _ _ _ _ _=>False
 | n+1=>fun a b c d Z=>b7.t Y (bL.t Y n) a b c d Z
theorem bL.ok(Y:aD)(X:Fr)(Z:U)(g:bL.g (fun a b c d Z=>∃ n,bL.t Y n a b c d Z) X Z):den prog E (a3 aO [W,W,aT,W,aT]) (a1.inBlock 0 (a1.then (a0.g Y) (a8 E [.tmp 2] Y))) X Z:=by
 obtain⟨a,b,c,e,g⟩:=b4 g
 obtain⟨d,f,g⟩:=bN g
 obtain⟨n,g⟩:=g
 refine fK (fun n=>bL.g (bL.t Y n)) (L:=(a3 aO [W,W,aT,W,aT,aT])) (by kernel_rfl) (fun X Z g=>?_) (fun n=>b7.ok Y (bL.t Y n)) n X Z (bE e (bQ f (g)))
 obtain⟨a,b,c,e,g⟩:=b4 g
 obtain⟨d,f,g⟩:=bN g
 exact g
theorem g3.ok(Y:aD)(X:Fr)(Z:U)(g:bL.g (fun a b c d Z=>∃ n,bL.t Y n a b c d Z) X Z):den prog E (a3 aO [W,W,aT,W]) (a1.then (a0.g Y) (a8 E [.tmp 2] Y)) X Z:=
 fC (by kernel_rfl) (bL.ok Y X Z g)
def bF.t(Y:aD)(a:M)(b c:Nat)(Z:U):Prop:=
 (∃ n,bL.t Y n a b c 0 Z)
def bF.g(Y:aD)(X:Fr)(Z:U):Prop:=aQ (X 0) fun a b c=>bF.t Y a b c Z
theorem bF.ok(Y:aD)(X:Fr)(Z:U)(g:bF.g Y X Z):den prog E (a3 aO [W,W,aT]) (a1.then (a0.g Y) (a8 E [.tmp 2] Y)) X Z:=
 bD g fun a b c d g=>c4 1 (r:=(a3 aO [W,W,aT,W])) (by kernel_rfl) (g3.ok Y) (bS [(0,.slice a b c)] ⟨d,trivial⟩ (by kernel_rfl) g)
theorem g4.ok(Y:aD)(X:Fr)(Z:U)(g:bF.g Y X Z):den prog E (a3 aO [W,W]) (a8 E [.tmp 2] Y) X Z:=
 gA (by kernel_rfl) (a0.ok Y) (bF.ok Y X Z g)
def aL.t(Y:aD)(a:M)(b c:Nat)(Z:U):Prop:=
 aY mW.id #[] Z fun d e=>
 eS d fun d=>
 cond (!d) (Y (.bool false) e) (bF.t Y a b c e)
def aL.g(Y:aD)(X:Fr)(Z:U):Prop:=aQ (X 0) fun a b c=>aL.t Y a b c Z
theorem aL.ok(Y:aD)(X:Fr)(Z:U)(g:aL.g Y X Z):den prog E aO (a8 E [.tmp 2] Y) X Z:=
 bD g fun a b c d g=>c4 2 (r:=(a3 aO [W,W])) (by kernel_rfl) (g4.ok Y) (bS [(0,.slice a b c)] ⟨d,trivial⟩ (by kernel_rfl) g)
def t(a:M)(b c:Nat)(Z:U)(Y:aD):Prop:=aL.t Y a b c Z
theorem ok{a:M}{b:Nat}{d:Nat}{Z:U}{Y:aD}(g:t a b d Z Y):aY id #[.slice a b d] Z Y:=
 dL dI (c:=aO) (dC:=[.tmp 2]) Tryz.func6 (by kernel_rfl) (by kernel_rfl) (by kernel_rfl) (args:=[.slice a b d]) (by kernel_rfl) (aL.ok Y _ Z (bE rfl (g)))
end nQ
namespace o5
noncomputable def aO:Code:=dK Tryz.f8
def b7.t(Y:aD)(aM a:Int)(b:Addr)(c:Int)(d:M)(e f:Nat)(Z:U):Prop:=
 c ≠ 0∧a5 (Int.tmod a c) fun a=>
 a5 (IntKind.u64.wrap (c+a)) fun a=>
 aY oF.id #[.int .u64 a,.int .i64 aM,.int .i64 400] Z fun c g=>
 cT c fun c=>
 cP c fun c h i j=>
 cP j fun j j j j=>
 b5 j <| cY g .u64 (b.add 0) fun b=>
 cond (a == b) (Y (.bool true) g) (aY hZ.id #[.slice c h i,.slice d e f] g fun a b=>
 aW .i64 a fun a=>
 Y (.bool (decide (a > 0))) b)
def b7.g(Y:aD)(X:Fr)(Z:U):Prop:=aW .i64 (X 1) fun aM=>aW .u64 (X 2) fun a=>gH (X 7) fun b=>aW .u64 (X 9) fun c=>aQ (X 10) fun d e f=>b7.t Y aM a b c d e f Z
theorem b7.ok(Y:aD)(X:Fr)(Z:U)(g:b7.g Y X Z):den prog E (a3 aO [W,W,W,W,W,W,W,W,W]) (a8 E [.tmp 6] Y) X Z:=
 bB g fun aM a g=>bB g fun b c g=>hW g fun d e g=>bB g fun f h g=>bD g fun i j k l g=>bS [(1,.int .i64 aM),(2,.int .u64 b),(7,.pointer (some d)),(9,.int .u64 f),(10,.slice i j k)] ⟨a,c,e,h,l,trivial⟩ (by kernel_rfl) g
def cE.t(Y:aD)(aM a:Int)(b:Addr)(c:Int)(d:M)(e f:Nat)(Z:U):Prop:=
 cY Z .i64 (b.add 2) fun g=>
 a5 (IntKind.i64.wrap (400 - g)) fun g=>
 aY lL.id #[.int .i64 g] Z fun g h=>
 aQ g fun g i j=>
 aY hZ.id #[.slice d e f,.slice g i j] h fun g h=>
 aW .i64 g fun g=>
 cond (decide (g≤0)) (Y (.bool false) h) (cY h .i64 (b.add 2) fun g=>
 a5 (IntKind.i64.wrap (401 - g)) fun g=>
 aY lL.id #[.int .i64 g] h fun g h=>
 aQ g fun g i j=>
 aY hZ.id #[.slice d e f,.slice g i j] h fun g h=>
 aW .i64 g fun g=>
 cond (decide (g≥0)) (Y (.bool false) h) (b7.t Y aM a b c d e f h))
def cE.g(Y:aD)(X:Fr)(Z:U):Prop:=aW .i64 (X 1) fun aM=>aW .u64 (X 2) fun a=>gH (X 7) fun b=>aW .u64 (X 9) fun c=>aQ (X 10) fun d e f=>cE.t Y aM a b c d e f Z
theorem cE.ok(Y:aD)(X:Fr)(Z:U)(g:cE.g Y X Z):den prog E (a3 aO [W,W,W,W,W,W,W,W]) (a8 E [.tmp 6] Y) X Z:=
 bB g fun aM a g=>bB g fun b c g=>hW g fun d e g=>bB g fun f h g=>bD g fun i j k l g=>c4 1 (r:=(a3 aO [W,W,W,W,W,W,W,W,W])) (by kernel_rfl) (b7.ok Y) (bS [(1,.int .i64 aM),(2,.int .u64 b),(7,.pointer (some d)),(9,.int .u64 f),(10,.slice i j k)] ⟨a,c,e,h,l,trivial⟩ (by kernel_rfl) g)
def bF.t(Y:aD)(aM a:Int)(b:Addr)(c:Int)(Z:U):Prop:=
 cY Z .u64 (b.add 0) fun d=>
 aY oF.id #[.int .u64 d,.int .i64 aM,.int .i64 400] Z fun d e=>
 cT d fun d=>
 cP d fun d f g h=>
 cP h fun h i j k=>
 b5 k <| aY j7.id #[.slice h i j] e fun h i=>
 aQ h fun h j k=>
 (eT e.size e i)∧(b.add 1).block < e.size∧dO i (b.add 1) fun l m n=>
 nB kI.id #[.slice h j k,.slice l m n] i fun h=>
 eS h fun h=>
 cond (!h) (Y (.bool false) i) ((b.add 2).block < e.size∧cY i .i64 (b.add 2) fun h=>
 cond (decide (h > 400)) (Y (.bool false) i) ((b.add 2).block < e.size∧cY i .i64 (b.add 2) fun e=>
 cond (decide (e < (-8))) (Y (.bool false) i) (cE.t Y aM a b c d f g i)))
def bF.g(Y:aD)(X:Fr)(Z:U):Prop:=aW .i64 (X 1) fun aM=>aW .u64 (X 2) fun a=>gH (X 7) fun b=>aW .u64 (X 9) fun c=>bF.t Y aM a b c Z
theorem bF.ok(Y:aD)(X:Fr)(Z:U)(g:bF.g Y X Z):den prog E (a3 aO [W,W,W,W,W,W]) (a8 E [.tmp 6] Y) X Z:=
 bB g fun aM a g=>bB g fun b c g=>hW g fun d e g=>bB g fun f h g=>c4 2 (r:=(a3 aO [W,W,W,W,W,W,W,W])) (by kernel_rfl) (cE.ok Y) (bS [(1,.int .i64 aM),(2,.int .u64 b),(7,.pointer (some d)),(9,.int .u64 f)] ⟨a,c,e,h,trivial⟩ (by kernel_rfl) g)
def a0.t(Y:aD)(aS aM a:Int)(b:Addr)(c:Int)(Z:U):Prop:=
 a5 (IntKind.i64.wrap (aS - 1)) fun d=>
 0≤d∧a5 (h4 .u64 1 d) fun d=>
 cond (c != 0) (Y (.bool false) Z) (cY Z .u64 (b.add 0) fun c=>
 cond (decide (c < d)) (Y (.bool false) Z) (cY Z .u64 (b.add 0) fun c=>
 a5 (IntKind.u64.wrap (2*d)) fun e=>
 cond (decide (c≥e)) (Y (.bool false) Z) (bF.t Y aM a b d Z)))
def a0.g(Y:aD)(X:Fr)(Z:U):Prop:=aW .i64 (X 0) fun aS=>aW .i64 (X 1) fun aM=>aW .u64 (X 2) fun a=>gH (X 7) fun b=>aW .i64 (X 8) fun c=>a0.t Y aS aM a b c Z
theorem a0.ok(Y:aD)(X:Fr)(Z:U)(g:a0.g Y X Z):den prog E (a3 aO [W,W,W,W]) (a8 E [.tmp 6] Y) X Z:=
 bB g fun aS a g=>bB g fun aM b g=>bB g fun c d g=>hW g fun e f g=>bB g fun h i g=>c4 2 (r:=(a3 aO [W,W,W,W,W,W])) (by kernel_rfl) (bF.ok Y) (bS [(0,.int .i64 aS),(1,.int .i64 aM),(2,.int .u64 c),(7,.pointer (some e)),(8,.int .i64 h)] ⟨a,b,d,f,i,trivial⟩ (by kernel_rfl) g)
def aL.t(Y:aD)(aS aM a:Int)(Z:U):Prop:=
 aY mW.id #[] Z fun b c=>
 eS b fun b=>
 cond (!b) (Y (.bool false) c) (aY jY.id #[.int .i64 aS,.int .i64 aM] c fun b c=>
 cT b fun b=>
 cQ b fun b d=>
 eG b fun b=>
 dJ b .u64 fun b e=>
 cP e fun e f g h=>
 dJ h .i64 fun h i=>
 b5 i <| dJ d .i64 fun d i=>
 b5 i <| dN c 39 uM.a6 fun c i=>
 cC i (c.add 0) (.int .u64 b) fun b=>
 cC b (c.add 1) (.slice e f g) fun b=>
 cC b (c.add 2) (.int .i64 h) fun b=>
 cond (decide (aS < 1)) (cond (d == 1) (cY b .u64 (c.add 0) fun e=>
 cond (e == 0) (dO b (c.add 1) fun e e f=>
 cond ((((e:Nat):Int)) == 0) (cY b .i64 (c.add 2) fun e=>
 Y (.bool (e == 0)) b) (Y (.bool false) b)) (Y (.bool false) b)) (Y (.bool false) b)) (cond (decide (aS > 53)) (cond (d == 1) (cY b .u64 (c.add 0) fun e=>
 cond (e == 0) (dO b (c.add 1) fun e e f=>
 cond ((((e:Nat):Int)) == 0) (cY b .i64 (c.add 2) fun e=>
 Y (.bool (e == 0)) b) (Y (.bool false) b)) (Y (.bool false) b)) (Y (.bool false) b)) (cond (decide (aM < (-64))) (cond (d == 1) (cY b .u64 (c.add 0) fun e=>
 cond (e == 0) (dO b (c.add 1) fun e e f=>
 cond ((((e:Nat):Int)) == 0) (cY b .i64 (c.add 2) fun e=>
 Y (.bool (e == 0)) b) (Y (.bool false) b)) (Y (.bool false) b)) (Y (.bool false) b)) (cond (decide (aM > 971)) (cond (d == 1) (cY b .u64 (c.add 0) fun e=>
 cond (e == 0) (dO b (c.add 1) fun e e f=>
 cond ((((e:Nat):Int)) == 0) (cY b .i64 (c.add 2) fun e=>
 Y (.bool (e == 0)) b) (Y (.bool false) b)) (Y (.bool false) b)) (Y (.bool false) b)) (a0.t Y aS aM a c d b)))))
def aL.g(Y:aD)(X:Fr)(Z:U):Prop:=aW .i64 (X 0) fun aS=>aW .i64 (X 1) fun aM=>aW .u64 (X 2) fun a=>aL.t Y aS aM a Z
theorem aL.ok(Y:aD)(X:Fr)(Z:U)(g:aL.g Y X Z):den prog E aO (a8 E [.tmp 6] Y) X Z:=
 bB g fun aS a g=>bB g fun aM b g=>bB g fun c d g=>c4 4 (r:=(a3 aO [W,W,W,W])) (by kernel_rfl) (a0.ok Y) (bS [(0,.int .i64 aS),(1,.int .i64 aM),(2,.int .u64 c)] ⟨a,b,d,trivial⟩ (by kernel_rfl) g)
def t(aS aM a:Int)(Z:U)(Y:aD):Prop:=aL.t Y aS aM a Z
theorem ok{aS:Int}{aM:Int}{a:Int}{Z:U}{Y:aD}(g:t aS aM a Z Y):aY id #[.int .i64 aS,.int .i64 aM,.int .u64 a] Z Y:=
 dL dI (c:=aO) (dC:=[.tmp 6]) Tryz.func8 (by kernel_rfl) (by kernel_rfl) (by kernel_rfl) (args:=[.int .i64 aS,.int .i64 aM,.int .u64 a]) (by kernel_rfl) (aL.ok Y _ Z (bQ rfl (bQ rfl (bQ rfl (g)))))
end o5
namespace mY
noncomputable def aO:Code:=dK Tryz.f9
def bF.t(Y:aD)(a:Addr)(b c:Int)(Z:U):Prop:=
 cond (b == 0) (cY Z .u64 (a.add 0) fun a=>
 Y (.bool (a == c)) Z) (Y (.bool false) Z)
def bF.g(Y:aD)(X:Fr)(Z:U):Prop:=gH (X 5) fun a=>aW .i64 (X 6) fun b=>aW .u64 (X 7) fun c=>bF.t Y a b c Z
theorem bF.ok(Y:aD)(X:Fr)(Z:U)(g:bF.g Y X Z):den prog E (a3 aO [W,W,W,W,W,W,W]) (a8 E [.tmp 4] Y) X Z:=
 hW g fun a b g=>bB g fun c d g=>bB g fun e f g=>bS [(5,.pointer (some a)),(6,.int .i64 c),(7,.int .u64 e)] ⟨b,d,f,trivial⟩ (by kernel_rfl) g
def dW.g(a:Int→Int→Addr→Int→Int→M→Nat→Nat→Int→U→Prop)(X:Fr)(Z:U):Prop:=aW .i64 (X 0) fun aS=>aW .i64 (X 1) fun aM=>gH (X 5) fun b=>aW .i64 (X 6) fun c=>aW .u64 (X 7) fun d=>aQ (X 8) fun bR e bT=>aW .u64 (X 10) fun f=>a aS aM b c d bR e bT f Z
def c8.t(Y:aD)(a:Int→Int→Addr→Int→Int→M→Nat→Nat→Int→U→Prop)(aS aM:Int)(b:Addr)(c d:Int)(bR:M)(e bT:Nat)(f:Int)(Z:U):Prop:=
 0≤aS∧a5 (h4 .u64 1 aS) fun g=>
 cond (decide (f < g)) (aY oF.id #[.int .u64 f,.int .i64 aM,.int .i64 400] Z fun g h=>
 cT g fun g=>
 cP g fun g i j k=>
 cP k fun k k k k=>
 b5 k <| aY hZ.id #[.slice g i j,.slice bR e bT] h fun h k=>
 aW .i64 h fun h=>
 cond (decide (h < 0)) (a5 (IntKind.u64.wrap (f+1)) fun h=>
 a aS aM b c f g i j h k) (a5 (IntKind.u64.wrap (f+1)) fun f=>
 a aS aM b c d bR e bT f k)) (bF.t Y b c d Z)
def c8.g(Y:aD)(a:Int→Int→Addr→Int→Int→M→Nat→Nat→Int→U→Prop)(X:Fr)(Z:U):Prop:=aW .i64 (X 0) fun aS=>aW .i64 (X 1) fun aM=>gH (X 5) fun b=>aW .i64 (X 6) fun c=>aW .u64 (X 7) fun d=>aQ (X 8) fun bR e bT=>aW .u64 (X 10) fun f=>c8.t Y a aS aM b c d bR e bT f Z
theorem c8.ok(Y:aD)(a:Int→Int→Addr→Int→Int→M→Nat→Nat→Int→U→Prop)(X:Fr)(Z:U)(g:c8.g Y a X Z):den prog E (a3 aO [W,W,W,W,W,W,aT,W,aT,aT]) (a1.then (dW.g a) (a1.inBlock 0 (a1.then (bF.g Y) (a8 E [.tmp 4] Y)))) X Z:=
 bB g fun aS a g=>bB g fun aM b g=>hW g fun c d g=>bB g fun e f g=>bB g fun h i g=>bD g fun bR j bT k g=>bB g fun l m g=>bS [(0,.int .i64 aS),(1,.int .i64 aM),(5,.pointer (some c)),(6,.int .i64 e),(7,.int .u64 h),(8,.slice bR j bT),(10,.int .u64 l)] ⟨a,b,d,f,i,k,m,trivial⟩ (by kernel_rfl) g
def dW.t(Y:aD):Nat→Int→Int→Addr→Int→Int→M→Nat→Nat→Int→U→Prop
 | 0=>fun _ _ _ _ _ _ _ _ _ _=>False
 | n+1=>fun aS aM a b c bR d bT e Z=>c8.t Y (dW.t Y n) aS aM a b c bR d bT e Z
theorem dW.ok(Y:aD)(X:Fr)(Z:U)(g:dW.g (fun aS aM a b c bR d bT e Z=>∃ n,dW.t Y n aS aM a b c bR d bT e Z) X Z):den prog E (a3 aO [W,W,W,W,W,W,aT,W,aT]) (a1.inBlock 0 (a1.then (bF.g Y) (a8 E [.tmp 4] Y))) X Z:=by
 obtain⟨aS,f,g⟩:=bN g
 obtain⟨aM,h,g⟩:=bN g
 obtain⟨a,i,g⟩:=m5 g
 obtain⟨b,j,g⟩:=bN g
 obtain⟨c,k,g⟩:=bN g
 obtain⟨bR,d,bT,l,g⟩:=b4 g
 obtain⟨e,m,g⟩:=bN g
 obtain⟨n,g⟩:=g
 refine fK (fun n=>dW.g (dW.t Y n)) (L:=(a3 aO [W,W,W,W,W,W,aT,W,aT,aT])) (by kernel_rfl) (fun X Z g=>?_) (fun n=>c8.ok Y (dW.t Y n)) n X Z (bQ f (bQ h (rG i (bQ j (bQ k (bE l (bQ m (g))))))))
 obtain⟨aS,f,g⟩:=bN g
 obtain⟨aM,h,g⟩:=bN g
 obtain⟨a,i,g⟩:=m5 g
 obtain⟨b,j,g⟩:=bN g
 obtain⟨c,k,g⟩:=bN g
 obtain⟨bR,d,bT,l,g⟩:=b4 g
 obtain⟨e,m,g⟩:=bN g
 exact g
theorem o7.ok(Y:aD)(X:Fr)(Z:U)(g:dW.g (fun aS aM a b c bR d bT e Z=>∃ n,dW.t Y n aS aM a b c bR d bT e Z) X Z):den prog E (a3 aO [W,W,W,W,W,W,aT,W]) (a1.then (bF.g Y) (a8 E [.tmp 4] Y)) X Z:=
 fC (by kernel_rfl) (dW.ok Y X Z g)
def cE.t(Y:aD)(aS aM:Int)(a:Addr)(b c:Int)(bR:M)(d bT:Nat)(Z:U):Prop:=
 a5 (IntKind.u64.wrap (c+1)) fun e=>(∃ n,dW.t Y n aS aM a b c bR d bT e Z)
def cE.g(Y:aD)(X:Fr)(Z:U):Prop:=aW .i64 (X 0) fun aS=>aW .i64 (X 1) fun aM=>gH (X 5) fun a=>aW .i64 (X 6) fun b=>aW .u64 (X 7) fun c=>aQ (X 8) fun bR d bT=>cE.t Y aS aM a b c bR d bT Z
theorem cE.ok(Y:aD)(X:Fr)(Z:U)(g:cE.g Y X Z):den prog E (a3 aO [W,W,W,W,W,W,aT]) (a1.then (bF.g Y) (a8 E [.tmp 4] Y)) X Z:=
 bB g fun aS a g=>bB g fun aM b g=>hW g fun c d g=>bB g fun e f g=>bB g fun h i g=>bD g fun bR j bT k g=>c4 1 (r:=(a3 aO [W,W,W,W,W,W,aT,W])) (by kernel_rfl) (o7.ok Y) (bS [(0,.int .i64 aS),(1,.int .i64 aM),(5,.pointer (some c)),(6,.int .i64 e),(7,.int .u64 h),(8,.slice bR j bT)] ⟨a,b,d,f,i,k,trivial⟩ (by kernel_rfl) g)
theorem o8.ok(Y:aD)(X:Fr)(Z:U)(g:cE.g Y X Z):den prog E (a3 aO [W,W,W,W,W,W]) (a8 E [.tmp 4] Y) X Z:=
 gA (by kernel_rfl) (bF.ok Y) (cE.ok Y X Z g)
def a0.t(Y:aD)(aS aM:Int)(Z:U):Prop:=
 aY jY.id #[.int .i64 aS,.int .i64 aM] Z fun a b=>
 cT a fun a=>
 cQ a fun a c=>
 eG a fun a=>
 dJ a .u64 fun a d=>
 cP d fun d e f g=>
 dJ g .i64 fun g h=>
 b5 h <| dJ c .i64 fun c h=>
 b5 h <| dN b 39 uM.a6 fun b h=>
 cC h (b.add 0) (.int .u64 a) fun a=>
 cC a (b.add 1) (.slice d e f) fun a=>
 cC a (b.add 2) (.int .i64 g) fun a=>
 a5 (IntKind.i64.wrap (aS - 1)) fun d=>
 0≤d∧a5 (h4 .u64 1 d) fun d=>
 aY oF.id #[.int .u64 d,.int .i64 aM,.int .i64 400] a fun a e=>
 cT a fun a=>
 cP a fun a f g h=>
 cP h fun h h h h=>
 b5 h <| cE.t Y aS aM b c d a f g e
def a0.g(Y:aD)(X:Fr)(Z:U):Prop:=aW .i64 (X 0) fun aS=>aW .i64 (X 1) fun aM=>a0.t Y aS aM Z
theorem a0.ok(Y:aD)(X:Fr)(Z:U)(g:a0.g Y X Z):den prog E (a3 aO [W,W,W]) (a8 E [.tmp 4] Y) X Z:=
 bB g fun aS a g=>bB g fun aM b g=>c4 3 (r:=(a3 aO [W,W,W,W,W,W])) (by kernel_rfl) (o8.ok Y) (bS [(0,.int .i64 aS),(1,.int .i64 aM)] ⟨a,b,trivial⟩ (by kernel_rfl) g)
def aL.t(Y:aD)(aS aM:Int)(Z:U):Prop:=
 aY mW.id #[] Z fun a b=>
 eS a fun a=>
 cond (!a) (Y (.bool false) b) (cond (decide (aS < 1)) (Y (.bool true) b) (cond (decide (aS > 7)) (Y (.bool true) b) (cond (decide (aM < (-64))) (Y (.bool true) b) (cond (decide (aM > 971)) (Y (.bool true) b) (a0.t Y aS aM b)))))
def aL.g(Y:aD)(X:Fr)(Z:U):Prop:=aW .i64 (X 0) fun aS=>aW .i64 (X 1) fun aM=>aL.t Y aS aM Z
theorem aL.ok(Y:aD)(X:Fr)(Z:U)(g:aL.g Y X Z):den prog E aO (a8 E [.tmp 4] Y) X Z:=
 bB g fun aS a g=>bB g fun aM b g=>c4 3 (r:=(a3 aO [W,W,W])) (by kernel_rfl) (a0.ok Y) (bS [(0,.int .i64 aS),(1,.int .i64 aM)] ⟨a,b,trivial⟩ (by kernel_rfl) g)
def t(aS aM:Int)(Z:U)(Y:aD):Prop:=aL.t Y aS aM Z
theorem ok{aS:Int}{aM:Int}{Z:U}{Y:aD}(g:t aS aM Z Y):aY id #[.int .i64 aS,.int .i64 aM] Z Y:=
 dL dI (c:=aO) (dC:=[.tmp 4]) Tryz.func9 (by kernel_rfl) (by kernel_rfl) (by kernel_rfl) (args:=[.int .i64 aS,.int .i64 aM]) (by kernel_rfl) (aL.ok Y _ Z (bQ rfl (bQ rfl (g))))
end mY
namespace q8
noncomputable def aO:Code:=dK Tryz.f10
def bF.t(Y:aD)(a b:Int)(c:Addr)(Z:U):Prop:=
 aY oF.id #[.int .u64 a,.int .i64 b,.int .i64 400] Z fun a b=>
 cT a fun a=>
 cP a fun a d e f=>
 cP f fun f f f f=>
 b5 f <| cY b .i64 (c.add 2) fun c=>
 a5 (IntKind.i64.wrap (400 - c)) fun c=>
 aY lL.id #[.int .i64 c] b fun b c=>
 aQ b fun b f g=>
 aY hZ.id #[.slice a d e,.slice b f g] c fun a b=>
 aW .i64 a fun a=>
 Y (.bool (decide (a > 0))) b
def bF.g(Y:aD)(X:Fr)(Z:U):Prop:=aW .u64 (X 7) fun a=>aW .i64 (X 8) fun b=>gH (X 9) fun c=>bF.t Y a b c Z
theorem bF.ok(Y:aD)(X:Fr)(Z:U)(g:bF.g Y X Z):den prog E (a3 aO [W,W,W,W,W,W,W,W,W]) (a8 E [.tmp 2] Y) X Z:=
 bB g fun a b g=>bB g fun c d g=>hW g fun e f g=>bS [(7,.int .u64 a),(8,.int .i64 c),(9,.pointer (some e))] ⟨b,d,f,trivial⟩ (by kernel_rfl) g
def a0.t(Y:aD)(a:Addr)(b:Int)(Z:U):Prop:=
 cY Z .u64 (a.add 0) fun c=>
 cY Z .i64 (a.add 1) fun d=>
 cY Z .i64 (a.add 2) fun e=>
 cY Z .i64 (a.add 3) fun f=>
 cY Z .u64 (a.add 4) fun g=>
 cY Z .u64 (a.add 5) fun a=>
 aY uL.id #[.agg #[.int .u64 c,.int .i64 d,.int .i64 e,.int .i64 f,.int .u64 g,.int .u64 a],.int .u64 b] Z fun a b=>
 cT a fun a=>
 dJ a .u64 fun a c=>
 dJ c .i64 fun c d=>
 b5 d <| cond (decide (c < (-64))) (Y (.bool true) b) (aY jY.id #[.int .i64 53,.int .i64 c] b fun b d=>
 cT b fun b=>
 cQ b fun b e=>
 eG b fun b=>
 dJ b .u64 fun b f=>
 cP f fun f g h i=>
 dJ i .i64 fun i j=>
 b5 j <| dJ e .i64 fun e j=>
 b5 j <| dN d 39 uM.a6 fun d j=>
 cC j (d.add 0) (.int .u64 b) fun b=>
 cC b (d.add 1) (.slice f g h) fun b=>
 cC b (d.add 2) (.int .i64 i) fun b=>
 cond (e != 0) (Y (.bool false) b) (cY b .i64 (d.add 2) fun e=>
 cond (decide (e > 400)) (Y (.bool false) b) (cY b .i64 (d.add 2) fun e=>
 cond (decide (e < 0)) (Y (.bool false) b) (bF.t Y a c d b))))
def a0.g(Y:aD)(X:Fr)(Z:U):Prop:=gH (X 3) fun a=>aW .u64 (X 6) fun b=>a0.t Y a b Z
theorem a0.ok(Y:aD)(X:Fr)(Z:U)(g:a0.g Y X Z):den prog E (a3 aO [W,W,W,W,W]) (a8 E [.tmp 2] Y) X Z:=
 hW g fun a b g=>bB g fun c d g=>c4 4 (r:=(a3 aO [W,W,W,W,W,W,W,W,W])) (by kernel_rfl) (bF.ok Y) (bS [(3,.pointer (some a)),(6,.int .u64 c)] ⟨b,d,trivial⟩ (by kernel_rfl) g)
def aL.t(Y:aD)(aS:Int)(Z:U):Prop:=
 aY mW.id #[] Z fun a b=>
 eS a fun a=>
 cond (!a) (Y (.bool false) b) (aY uJ.id #[.int .i64 64] b fun a b=>
 cT a fun a=>
 cQ a fun a c=>
 eG a fun a=>
 dJ a .u64 fun a d=>
 dJ d .i64 fun d e=>
 dJ e .i64 fun e f=>
 dJ f .i64 fun f g=>
 dJ g .u64 fun g h=>
 dJ h .u64 fun h i=>
 b5 i <| fH c fun c c=>
 b5 c <| dN b 59 CW.a6 fun b c=>
 cC c (b.add 0) (.int .u64 a) fun a=>
 cC a (b.add 1) (.int .i64 d) fun a=>
 cC a (b.add 2) (.int .i64 e) fun a=>
 cC a (b.add 3) (.int .i64 f) fun a=>
 cC a (b.add 4) (.int .u64 g) fun a=>
 cC a (b.add 5) (.int .u64 h) fun a=>
 cY a .u64 (b.add 0) fun c=>
 cY a .i64 (b.add 1) fun d=>
 cY a .i64 (b.add 2) fun e=>
 cY a .i64 (b.add 3) fun f=>
 cY a .u64 (b.add 4) fun g=>
 cY a .u64 (b.add 5) fun h=>
 aY uK.id #[.agg #[.int .u64 c,.int .i64 d,.int .i64 e,.int .i64 f,.int .u64 g,.int .u64 h],.int .u64 aS] a fun a c=>
 cT a fun a=>
 fH a fun a a=>
 dJ a .u64 fun a d=>
 b5 d <| cY c .u64 (b.add 4) fun d=>
 cond (decide (a≥d)) (Y (.bool true) c) (cond (decide (a < 4503599627370496)) (Y (.bool true) c) (a0.t Y b a c)))
def aL.g(Y:aD)(X:Fr)(Z:U):Prop:=aW .u64 (X 0) fun aS=>aL.t Y aS Z
theorem aL.ok(Y:aD)(X:Fr)(Z:U)(g:aL.g Y X Z):den prog E aO (a8 E [.tmp 2] Y) X Z:=
 bB g fun aS a g=>c4 5 (r:=(a3 aO [W,W,W,W,W])) (by kernel_rfl) (a0.ok Y) (bS [(0,.int .u64 aS)] ⟨a,trivial⟩ (by kernel_rfl) g)
def t(aS:Int)(Z:U)(Y:aD):Prop:=aL.t Y aS Z
theorem ok{aS:Int}{Z:U}{Y:aD}(g:t aS Z Y):aY id #[.int .u64 aS] Z Y:=
 dL dI (c:=aO) (dC:=[.tmp 2]) Tryz.func10 (by kernel_rfl) (by kernel_rfl) (by kernel_rfl) (args:=[.int .u64 aS]) (by kernel_rfl) (aL.ok Y _ Z (bQ rfl (g)))
end q8
namespace mW
noncomputable def aO:Code:=dK Tryz.f11
def bF.t(Y:aD)(a:Addr)(Z:U):Prop:=
 cY Z .u64 (a.add 0) fun b=>
 cond (b == 3) (dO Z (a.add 1) fun b c d=>
 dN Z 35 [.int .u64 2] fun e f=>
 nB kI.id #[.slice b c d,.slice (some e) 1 1] f fun b=>
 eS b fun b=>
 cond b (cY f .i64 (a.add 2) fun a=>
 Y (.bool (a == 3)) f) (Y (.bool false) f)) (Y (.bool false) Z)
def bF.g(Y:aD)(X:Fr)(Z:U):Prop:=gH (X 6) fun a=>bF.t Y a Z
theorem bF.ok(Y:aD)(X:Fr)(Z:U)(g:bF.g Y X Z):den prog E (a3 aO [W,W,W,W,W,W]) (a8 E [.tmp 0] Y) X Z:=
 hW g fun a b g=>bS [(6,.pointer (some a))] ⟨b,trivial⟩ (by kernel_rfl) g
def a0.t(Y:aD)(aJ:M)(aI aG:Nat)(c3:M)(dV cR:Nat)(eA:M)(fT eF:Nat)(a:Addr)(Z:U):Prop:=
 dN Z 35 [.int .u64 1,.int .u64 1,.int .u64 1,.int .u64 3,.int .u64 31] fun b c=>
 nB kI.id #[.slice aJ aI aG,.slice (some b) 5 5] c fun b=>
 eS b fun b=>
 cond (!b) (Y (.bool false) c) (dN c 35 [.int .u64 11] fun b c=>
 nB kI.id #[.slice c3 dV cR,.slice (some b) 1 1] c fun b=>
 eS b fun b=>
 cond (!b) (Y (.bool false) c) (dN c 35 [.int .u64 7] fun b c=>
 nB kI.id #[.slice eA fT eF,.slice (some b) 1 1] c fun b=>
 eS b fun b=>
 cond (!b) (Y (.bool false) c) (bF.t Y a c)))
def a0.g(Y:aD)(X:Fr)(Z:U):Prop:=aQ (X 1) fun aJ aI aG=>aQ (X 3) fun c3 dV cR=>aQ (X 4) fun eA fT eF=>gH (X 6) fun a=>a0.t Y aJ aI aG c3 dV cR eA fT eF a Z
theorem a0.ok(Y:aD)(X:Fr)(Z:U)(g:a0.g Y X Z):den prog E (a3 aO [W,W,W,W,W]) (a8 E [.tmp 0] Y) X Z:=
 bD g fun aJ aI aG a g=>bD g fun c3 dV cR b g=>bD g fun eA fT eF c g=>hW g fun d e g=>c4 1 (r:=(a3 aO [W,W,W,W,W,W])) (by kernel_rfl) (bF.ok Y) (bS [(1,.slice aJ aI aG),(3,.slice c3 dV cR),(4,.slice eA fT eF),(6,.pointer (some d))] ⟨a,b,c,e,trivial⟩ (by kernel_rfl) g)
def aL.t(Y:aD)(Z:U):Prop:=
 aY mV.id #[.int .i64 5] Z fun a b=>
 cT a fun a=>
 cP a fun a c d e=>
 dJ e .i64 fun e f=>
 b5 f <| aY jC.id #[.int .i64 3] b fun b f=>
 cT b fun b=>
 cP b fun b g h i=>
 cP i fun i j k l=>
 dJ l .i64 fun l m=>
 b5 m <| aY jY.id #[.int .i64 2,.int .i64 0] f fun f m=>
 cT f fun f=>
 cQ f fun f n=>
 eG f fun f=>
 dJ f .u64 fun f o=>
 cP o fun o p q r=>
 dJ r .i64 fun r s=>
 b5 s <| dJ n .i64 fun n s=>
 b5 s <| dN m 39 uM.a6 fun m s=>
 cC s (m.add 0) (.int .u64 f) fun f=>
 cC f (m.add 1) (.slice o p q) fun f=>
 cC f (m.add 2) (.int .i64 r) fun f=>
 cond (e != 0) (Y (.bool false) f) (cond (l != 0) (Y (.bool false) f) (cond (n != 0) (Y (.bool false) f) (a0.t Y a c d b g h i j k m f)))
def aL.g(Y:aD)(X:Fr)(Z:U):Prop:=aL.t Y  Z
theorem aL.ok(Y:aD)(X:Fr)(Z:U)(g:aL.g Y X Z):den prog E aO (a8 E [.tmp 0] Y) X Z:=
 c4 5 (r:=(a3 aO [W,W,W,W,W])) (by kernel_rfl) (a0.ok Y) (bS [] trivial (by kernel_rfl) g)
def t(Z:U)(Y:aD):Prop:=aL.t Y Z
theorem ok{Z:U}{Y:aD}(g:t  Z Y):aY id #[] Z Y:=
 dL dI (c:=aO) (dC:=[.tmp 0]) Tryz.func11 (by kernel_rfl) (by kernel_rfl) (by kernel_rfl) (args:=[]) (by kernel_rfl) (aL.ok Y _ Z (g))
end mW
namespace jZ
noncomputable def aO:Code:=dK Tryz.f12
def aL.t(Y:aD)(a b c:Int)(Z:U):Prop:=
 dN Z 25 [.int .i64 a,.int .i64 b,.int .i64 c] fun b8 a=>
 cY a .i64 (b8.add 0) fun b=>
 cond (b == 1) (cY a .i64 (b8.add 1) fun c=>
 aY mV.id #[.int .i64 c] a fun c d=>
 cT c fun c=>
 cP c fun c e f g=>
 dJ g .i64 fun g h=>
 b5 h <| cY d .i64 (b8.add 1) fun h=>
 aY oH.id #[.int .i64 h] d fun d h=>
 cT d fun d=>
 cP d fun d i j k=>
 dJ k .i64 fun k l=>
 b5 l <| nB kI.id #[.slice c e f,.slice d i j] h fun c=>
 eS c fun c=>
 cond c (Y (.bool (g == k)) h) (Y (.bool false) h)) (cond (b == 2) (cY a .i64 (b8.add 1) fun c=>
 aY jC.id #[.int .i64 c] a fun c d=>
 cT c fun c=>
 cP c fun c e f g=>
 cP g fun g h i j=>
 dJ j .i64 fun j k=>
 b5 k <| cY d .i64 (b8.add 1) fun k=>
 aY kR.id #[.int .i64 k] d fun d k=>
 cT d fun d=>
 cP d fun d l m n=>
 cP n fun n o p q=>
 dJ q .i64 fun q r=>
 b5 r <| nB kI.id #[.slice c e f,.slice d l m] k fun c=>
 eS c fun c=>
 cond c (nB kI.id #[.slice g h i,.slice n o p] k fun c=>
 eS c fun c=>
 cond c (Y (.bool (j == q)) k) (Y (.bool false) k)) (Y (.bool false) k)) (cond (b == 3) (cY a .i64 (b8.add 1) fun b=>
 cY a .i64 (b8.add 2) fun c=>
 aY jY.id #[.int .i64 b,.int .i64 c] a fun b c=>
 cT b fun b=>
 cQ b fun b d=>
 eG b fun b=>
 dJ b .u64 fun b e=>
 cP e fun e f g h=>
 dJ h .i64 fun h i=>
 b5 i <| dJ d .i64 fun d i=>
 b5 i <| dN c 39 uM.a6 fun c i=>
 cC i (c.add 0) (.int .u64 b) fun b=>
 cC b (c.add 1) (.slice e f g) fun b=>
 cC b (c.add 2) (.int .i64 h) fun b=>
 cY b .i64 (b8.add 1) fun e=>
 cY b .i64 (b8.add 2) fun f=>
 aY oI.id #[.int .i64 e,.int .i64 f] b fun b e=>
 cT b fun b=>
 dJ b .u64 fun b f=>
 cP f fun f g h i=>
 dJ i .i64 fun i j=>
 dJ j .i64 fun j k=>
 b5 k <| cY e .u64 (c.add 0) fun k=>
 cond (k == b) (dO e (c.add 1) fun b k l=>
 nB kI.id #[.slice b k l,.slice f g h] e fun b=>
 eS b fun b=>
 cond b (cY e .i64 (c.add 2) fun b=>
 cond (b == i) (Y (.bool (d == j)) e) (Y (.bool false) e)) (Y (.bool false) e)) (Y (.bool false) e)) (Y (.bool true) a)))
def aL.g(Y:aD)(X:Fr)(Z:U):Prop:=eG (X 0) fun a=>cQ a fun a b=>aW .i64 a fun a=>cQ b fun b c=>aW .i64 b fun b=>cQ c fun c d=>aW .i64 c fun c=>b5 d <| aL.t Y a b c Z
theorem aL.ok(Y:aD)(X:Fr)(Z:U)(g:aL.g Y X Z):den prog E aO (a8 E [.tmp 2] Y) X Z:=by
 obtain⟨m,a,b⟩:=iJ g
 obtain⟨n,o,rfl,c⟩:=e7 b
 obtain⟨d,rfl,e⟩:=bN c
 obtain⟨p,q,rfl,f⟩:=e7 e
 obtain⟨h,rfl,i⟩:=bN f
 obtain⟨r,s,rfl,j⟩:=e7 i
 obtain⟨k,rfl,l⟩:=bN j
 obtain⟨rfl,g⟩:=hU l
 exact bS [(0,.agg #[.int .i64 d,.int .i64 h,.int .i64 k])] ⟨a,trivial⟩ (by kernel_rfl) g
def t(a b c:Int)(Z:U)(Y:aD):Prop:=aL.t Y a b c Z
theorem ok{a:Int}{b:Int}{d:Int}{Z:U}{Y:aD}(g:t a b d Z Y):aY id #[.agg #[.int .i64 a,.int .i64 b,.int .i64 d]] Z Y:=
 dL dI (c:=aO) (dC:=[.tmp 2]) Tryz.func12 (by kernel_rfl) (by kernel_rfl) (by kernel_rfl) (args:=[.agg #[.int .i64 a,.int .i64 b,.int .i64 d]]) (by kernel_rfl) (aL.ok Y _ Z (e5 rfl (cF (bQ rfl (cF (bQ rfl (cF (bQ rfl (dR (g))))))))))
end jZ
namespace mV
noncomputable def aO:Code:=dK Tryz.f13
def a0.t(Y:aD)(aS:Int)(Z:U):Prop:=
 aY hM.id #[.int .i64 aS] Z fun a b=>
 aQ a fun a c d=>
 Y (.tuple #[.slice a c d,.int .i64 0]) b
def a0.g(Y:aD)(X:Fr)(Z:U):Prop:=aW .i64 (X 0) fun aS=>a0.t Y aS Z
theorem a0.ok(Y:aD)(X:Fr)(Z:U)(g:a0.g Y X Z):den prog E (a3 aO [W,W]) (a8 E [.tmp 2,.tmp 3] Y) X Z:=
 bB g fun aS a g=>bS [(0,.int .i64 aS)] ⟨a,trivial⟩ (by kernel_rfl) g
def aL.t(Y:aD)(aS:Int)(Z:U):Prop:=
 cond (decide (aS < 1)) (Y (.tuple #[.slice none 0 0,.int .i64 1]) Z) (cond (decide (aS > 1000)) (Y (.tuple #[.slice none 0 0,.int .i64 1]) Z) (a0.t Y aS Z))
def aL.g(Y:aD)(X:Fr)(Z:U):Prop:=aW .i64 (X 0) fun aS=>aL.t Y aS Z
theorem aL.ok(Y:aD)(X:Fr)(Z:U)(g:aL.g Y X Z):den prog E aO (a8 E [.tmp 2,.tmp 3] Y) X Z:=
 bB g fun aS a g=>c4 2 (r:=(a3 aO [W,W])) (by kernel_rfl) (a0.ok Y) (bS [(0,.int .i64 aS)] ⟨a,trivial⟩ (by kernel_rfl) g)
def t(aS:Int)(Z:U)(Y:aD):Prop:=aL.t Y aS Z
theorem ok{aS:Int}{Z:U}{Y:aD}(g:t aS Z Y):aY id #[.int .i64 aS] Z Y:=
 dL dI (c:=aO) (dC:=[.tmp 2,.tmp 3]) Tryz.func13 (by kernel_rfl) (by kernel_rfl) (by kernel_rfl) (args:=[.int .i64 aS]) (by kernel_rfl) (aL.ok Y _ Z (bQ rfl (g)))
end mV
namespace kI
noncomputable def aO:Code:=dK Tryz.f14
def a0.t(Y:aD)(Z:U):Prop:=
 Y (.bool true) Z
def a0.g(Y:aD)(X:Fr)(Z:U):Prop:=a0.t Y  Z
theorem a0.ok(Y:aD)(X:Fr)(Z:U)(g:a0.g Y X Z):den prog E (a3 aO [W,W,W]) (a8 E [.tmp 4] Y) X Z:=
 bS [] trivial (by kernel_rfl) g
def bL.g(a:M→Nat→Nat→M→Nat→Nat→Int→U→Prop)(X:Fr)(Z:U):Prop:=aQ (X 0) fun b c d=>aQ (X 1) fun aJ aI aG=>aW .i64 (X 5) fun e=>a b c d aJ aI aG e Z
def b7.t(Y:aD)(a:M→Nat→Nat→M→Nat→Nat→Int→U→Prop)(b:M)(c d:Nat)(aJ:M)(aI aG:Nat)(e:Int)(Z:U):Prop:=
 cond (decide (e < (((c:Nat):Int)))) (c7 b c e 1 fun b8=>
 cY Z .u64 b8 fun f=>
 c7 aJ aI e 1 fun eD=>
 cY Z .u64 eD fun g=>
 cond (f != g) (Y (.bool false) Z) (a5 (IntKind.i64.wrap (e+1)) fun e=>
 a b c d aJ aI aG e Z)) (a0.t Y Z)
def b7.g(Y:aD)(a:M→Nat→Nat→M→Nat→Nat→Int→U→Prop)(X:Fr)(Z:U):Prop:=aQ (X 0) fun b c d=>aQ (X 1) fun aJ aI aG=>aW .i64 (X 5) fun e=>b7.t Y a b c d aJ aI aG e Z
theorem b7.ok(Y:aD)(a:M→Nat→Nat→M→Nat→Nat→Int→U→Prop)(X:Fr)(Z:U)(g:b7.g Y a X Z):den prog E (a3 aO [W,W,aT,W,aT,aT]) (a1.then (bL.g a) (a1.inBlock 0 (a1.then (a0.g Y) (a8 E [.tmp 4] Y)))) X Z:=
 bD g fun a b c d g=>bD g fun aJ aI aG e g=>bB g fun f h g=>bS [(0,.slice a b c),(1,.slice aJ aI aG),(5,.int .i64 f)] ⟨d,e,h,trivial⟩ (by kernel_rfl) g
def bL.t(Y:aD):Nat→M→Nat→Nat→M→Nat→Nat→Int→U→Prop
 | 0=>fun _ _ _ _ _ _ _ _=>False
 | n+1=>fun a b c aJ aI aG d Z=>b7.t Y (bL.t Y n) a b c aJ aI aG d Z
theorem bL.ok(Y:aD)(X:Fr)(Z:U)(g:bL.g (fun a b c aJ aI aG d Z=>∃ n,bL.t Y n a b c aJ aI aG d Z) X Z):den prog E (a3 aO [W,W,aT,W,aT]) (a1.inBlock 0 (a1.then (a0.g Y) (a8 E [.tmp 4] Y))) X Z:=by
 obtain⟨a,b,c,e,g⟩:=b4 g
 obtain⟨aJ,aI,aG,f,g⟩:=b4 g
 obtain⟨d,h,g⟩:=bN g
 obtain⟨n,g⟩:=g
 refine fK (fun n=>bL.g (bL.t Y n)) (L:=(a3 aO [W,W,aT,W,aT,aT])) (by kernel_rfl) (fun X Z g=>?_) (fun n=>b7.ok Y (bL.t Y n)) n X Z (bE e (bE f (bQ h (g))))
 obtain⟨a,b,c,e,g⟩:=b4 g
 obtain⟨aJ,aI,aG,f,g⟩:=b4 g
 obtain⟨d,h,g⟩:=bN g
 exact g
theorem g3.ok(Y:aD)(X:Fr)(Z:U)(g:bL.g (fun a b c aJ aI aG d Z=>∃ n,bL.t Y n a b c aJ aI aG d Z) X Z):den prog E (a3 aO [W,W,aT,W]) (a1.then (a0.g Y) (a8 E [.tmp 4] Y)) X Z:=
 fC (by kernel_rfl) (bL.ok Y X Z g)
def bF.t(Y:aD)(a:M)(b c:Nat)(aJ:M)(aI aG:Nat)(Z:U):Prop:=
 (∃ n,bL.t Y n a b c aJ aI aG 0 Z)
def bF.g(Y:aD)(X:Fr)(Z:U):Prop:=aQ (X 0) fun a b c=>aQ (X 1) fun aJ aI aG=>bF.t Y a b c aJ aI aG Z
theorem bF.ok(Y:aD)(X:Fr)(Z:U)(g:bF.g Y X Z):den prog E (a3 aO [W,W,aT]) (a1.then (a0.g Y) (a8 E [.tmp 4] Y)) X Z:=
 bD g fun a b c d g=>bD g fun aJ aI aG e g=>c4 1 (r:=(a3 aO [W,W,aT,W])) (by kernel_rfl) (g3.ok Y) (bS [(0,.slice a b c),(1,.slice aJ aI aG)] ⟨d,e,trivial⟩ (by kernel_rfl) g)
theorem g4.ok(Y:aD)(X:Fr)(Z:U)(g:bF.g Y X Z):den prog E (a3 aO [W,W]) (a8 E [.tmp 4] Y) X Z:=
 gA (by kernel_rfl) (a0.ok Y) (bF.ok Y X Z g)
def aL.t(Y:aD)(a:M)(b c:Nat)(aJ:M)(aI aG:Nat)(Z:U):Prop:=
 cond ((((b:Nat):Int)) != (((aI:Nat):Int))) (Y (.bool false) Z) (bF.t Y a b c aJ aI aG Z)
def aL.g(Y:aD)(X:Fr)(Z:U):Prop:=aQ (X 0) fun a b c=>aQ (X 1) fun aJ aI aG=>aL.t Y a b c aJ aI aG Z
theorem aL.ok(Y:aD)(X:Fr)(Z:U)(g:aL.g Y X Z):den prog E aO (a8 E [.tmp 4] Y) X Z:=
 bD g fun a b c d g=>bD g fun aJ aI aG e g=>c4 2 (r:=(a3 aO [W,W])) (by kernel_rfl) (g4.ok Y) (bS [(0,.slice a b c),(1,.slice aJ aI aG)] ⟨d,e,trivial⟩ (by kernel_rfl) g)
def t(a:M)(b c:Nat)(aJ:M)(aI aG:Nat)(Z:U)(Y:aD):Prop:=aL.t Y a b c aJ aI aG Z
theorem ok{a:M}{b:Nat}{d:Nat}{aJ:M}{aI:Nat}{aG:Nat}{Z:U}{Y:aD}(g:t a b d aJ aI aG Z Y):aY id #[.slice a b d,.slice aJ aI aG] Z Y:=
 dL dI (c:=aO) (dC:=[.tmp 4]) Tryz.func14 (by kernel_rfl) (by kernel_rfl) (by kernel_rfl) (args:=[.slice a b d,.slice aJ aI aG]) (by kernel_rfl) (aL.ok Y _ Z (bE rfl (bE rfl (g))))
end kI
namespace jC
noncomputable def aO:Code:=dK Tryz.f15
def bF.t(Y:aD)(bP:M)(a bO:Nat)(a7:M)(b a9:Nat)(Z:U):Prop:=
 Y (.tuple #[.slice bP a bO,.slice a7 b a9,.int .i64 0]) Z
def bF.g(Y:aD)(X:Fr)(Z:U):Prop:=aQ (X 5) fun bP a bO=>aQ (X 6) fun a7 b a9=>bF.t Y bP a bO a7 b a9 Z
theorem bF.ok(Y:aD)(X:Fr)(Z:U)(g:bF.g Y X Z):den prog E (a3 aO [W,W,W,W]) (a8 E [.tmp 2,.tmp 3,.tmp 4] Y) X Z:=
 bD g fun bP a bO b g=>bD g fun a7 c a9 d g=>bS [(5,.slice bP a bO),(6,.slice a7 c a9)] ⟨b,d,trivial⟩ (by kernel_rfl) g
def dW.g(a:M→Nat→Nat→M→Nat→Nat→M→Nat→Nat→M→Nat→Nat→M→Nat→Nat→Int→Int→U→Prop)(X:Fr)(Z:U):Prop:=aQ (X 5) fun bP b bO=>aQ (X 6) fun a7 c a9=>aQ (X 7) fun b0 d b2=>aQ (X 8) fun bR e bT=>aQ (X 23) fun gC f gG=>aW .i64 (X 24) fun h=>aW .i64 (X 25) fun i=>a bP b bO a7 c a9 b0 d b2 bR e bT gC f gG h i Z
def c8.t(Y:aD)(a:M→Nat→Nat→M→Nat→Nat→M→Nat→Nat→M→Nat→Nat→M→Nat→Nat→Int→Int→U→Prop)(bP:M)(b bO:Nat)(a7:M)(c a9:Nat)(b0:M)(d b2:Nat)(bR:M)(e bT:Nat)(gC:M)(f gG:Nat)(g h:Int)(Z:U):Prop:=
 cond (decide (h < g)) (c7 gC f h 1 fun i=>
 cY Z .u64 i fun i=>
 cond (h == 0) (aY j8.id #[.int .u64 i] Z fun j k=>
 aQ j fun j l m=>
 aY j8.id #[.int .u64 1] k fun k n=>
 aQ k fun k o p=>
 aY j8.id #[.int .u64 1] n fun n q=>
 aQ n fun n r s=>
 a5 (IntKind.i64.wrap (h+1)) fun u=>
 a j l m k o p n r s none 0 0 gC f gG g u q) (aY sK.id #[.slice bP b bO,.int .u64 i,.slice b0 d b2] Z fun d j=>
 cT d fun d=>
 cP d fun d k l m=>
 dJ m .i64 fun m n=>
 b5 n <| aY sK.id #[.slice a7 c a9,.int .u64 i,.slice bR e bT] j fun e i=>
 cT e fun e=>
 cP e fun e j n o=>
 dJ o .i64 fun o p=>
 b5 p <| cond (m != 0) (Y (.tuple #[.slice none 0 0,.slice none 0 0,.int .i64 (if o > m then o else m)]) i) (cond (o != 0) (Y (.tuple #[.slice none 0 0,.slice none 0 0,.int .i64 (if o > m then o else m)]) i) (a5 (IntKind.i64.wrap (h+1)) fun h=>
 a d k l e j n bP b bO a7 c a9 gC f gG g h i)))) (bF.t Y bP b bO a7 c a9 Z)
def c8.g(Y:aD)(a:M→Nat→Nat→M→Nat→Nat→M→Nat→Nat→M→Nat→Nat→M→Nat→Nat→Int→Int→U→Prop)(X:Fr)(Z:U):Prop:=aQ (X 5) fun bP b bO=>aQ (X 6) fun a7 c a9=>aQ (X 7) fun b0 d b2=>aQ (X 8) fun bR e bT=>aQ (X 23) fun gC f gG=>aW .i64 (X 24) fun h=>aW .i64 (X 25) fun i=>c8.t Y a bP b bO a7 c a9 b0 d b2 bR e bT gC f gG h i Z
theorem c8.ok(Y:aD)(a:M→Nat→Nat→M→Nat→Nat→M→Nat→Nat→M→Nat→Nat→M→Nat→Nat→Int→Int→U→Prop)(X:Fr)(Z:U)(g:c8.g Y a X Z):den prog E (a3 aO [W,W,W,aT,W,aT,aT]) (a1.then (dW.g a) (a1.inBlock 0 (a1.then (bF.g Y) (a8 E [.tmp 2,.tmp 3,.tmp 4] Y)))) X Z:=
 bD g fun bP a bO b g=>bD g fun a7 c a9 d g=>bD g fun b0 e b2 f g=>bD g fun bR h bT i g=>bD g fun gC j gG k g=>bB g fun l m g=>bB g fun n o g=>bS [(5,.slice bP a bO),(6,.slice a7 c a9),(7,.slice b0 e b2),(8,.slice bR h bT),(23,.slice gC j gG),(24,.int .i64 l),(25,.int .i64 n)] ⟨b,d,f,i,k,m,o,trivial⟩ (by kernel_rfl) g
def dW.t(Y:aD):Nat→M→Nat→Nat→M→Nat→Nat→M→Nat→Nat→M→Nat→Nat→M→Nat→Nat→Int→Int→U→Prop
 | 0=>fun _ _ _ _ _ _ _ _ _ _ _ _ _ _ _ _ _ _=>False
 | n+1=>fun bP a bO a7 b a9 b0 c b2 bR d bT gC e gG f g Z=>c8.t Y (dW.t Y n) bP a bO a7 b a9 b0 c b2 bR d bT gC e gG f g Z
theorem dW.ok(Y:aD)(X:Fr)(Z:U)(g:dW.g (fun bP a bO a7 b a9 b0 c b2 bR d bT gC e gG f h Z=>∃ n,dW.t Y n bP a bO a7 b a9 b0 c b2 bR d bT gC e gG f h Z) X Z):den prog E (a3 aO [W,W,W,aT,W,aT]) (a1.inBlock 0 (a1.then (bF.g Y) (a8 E [.tmp 2,.tmp 3,.tmp 4] Y))) X Z:=by
 obtain⟨bP,a,bO,i,g⟩:=b4 g
 obtain⟨a7,b,a9,j,g⟩:=b4 g
 obtain⟨b0,c,b2,k,g⟩:=b4 g
 obtain⟨bR,d,bT,l,g⟩:=b4 g
 obtain⟨gC,e,gG,m,g⟩:=b4 g
 obtain⟨f,o,g⟩:=bN g
 obtain⟨h,p,g⟩:=bN g
 obtain⟨n,g⟩:=g
 refine fK (fun n=>dW.g (dW.t Y n)) (L:=(a3 aO [W,W,W,aT,W,aT,aT])) (by kernel_rfl) (fun X Z g=>?_) (fun n=>c8.ok Y (dW.t Y n)) n X Z (bE i (bE j (bE k (bE l (bE m (bQ o (bQ p (g))))))))
 obtain⟨bP,a,bO,i,g⟩:=b4 g
 obtain⟨a7,b,a9,j,g⟩:=b4 g
 obtain⟨b0,c,b2,k,g⟩:=b4 g
 obtain⟨bR,d,bT,l,g⟩:=b4 g
 obtain⟨gC,e,gG,m,g⟩:=b4 g
 obtain⟨f,o,g⟩:=bN g
 obtain⟨h,p,g⟩:=bN g
 exact g
theorem o7.ok(Y:aD)(X:Fr)(Z:U)(g:dW.g (fun bP a bO a7 b a9 b0 c b2 bR d bT gC e gG f h Z=>∃ n,dW.t Y n bP a bO a7 b a9 b0 c b2 bR d bT gC e gG f h Z) X Z):den prog E (a3 aO [W,W,W,aT,W]) (a1.then (bF.g Y) (a8 E [.tmp 2,.tmp 3,.tmp 4] Y)) X Z:=
 fC (by kernel_rfl) (dW.ok Y X Z g)
def cE.t(Y:aD)(aS:Int)(bP:M)(a bO:Nat)(a7:M)(b a9:Nat)(b0:M)(c b2:Nat)(bR:M)(d bT:Nat)(Z:U):Prop:=
 a5 (IntKind.i64.wrap (aS+1)) fun dY=>
 aY hM.id #[.int .i64 dY] Z fun e f=>
 aQ e fun e g h=>
 (∃ n,dW.t Y n bP a bO a7 b a9 b0 c b2 bR d bT e g h (((g:Nat):Int)) 0 f)
def cE.g(Y:aD)(X:Fr)(Z:U):Prop:=aW .i64 (X 0) fun aS=>aQ (X 5) fun bP a bO=>aQ (X 6) fun a7 b a9=>aQ (X 7) fun b0 c b2=>aQ (X 8) fun bR d bT=>cE.t Y aS bP a bO a7 b a9 b0 c b2 bR d bT Z
theorem cE.ok(Y:aD)(X:Fr)(Z:U)(g:cE.g Y X Z):den prog E (a3 aO [W,W,W,aT]) (a1.then (bF.g Y) (a8 E [.tmp 2,.tmp 3,.tmp 4] Y)) X Z:=
 bB g fun aS a g=>bD g fun bP b bO c g=>bD g fun a7 d a9 e g=>bD g fun b0 f b2 h g=>bD g fun bR i bT j g=>c4 1 (r:=(a3 aO [W,W,W,aT,W])) (by kernel_rfl) (o7.ok Y) (bS [(0,.int .i64 aS),(5,.slice bP b bO),(6,.slice a7 d a9),(7,.slice b0 f b2),(8,.slice bR i bT)] ⟨a,c,e,h,j,trivial⟩ (by kernel_rfl) g)
theorem o8.ok(Y:aD)(X:Fr)(Z:U)(g:cE.g Y X Z):den prog E (a3 aO [W,W,W]) (a8 E [.tmp 2,.tmp 3,.tmp 4] Y) X Z:=
 gA (by kernel_rfl) (bF.ok Y) (cE.ok Y X Z g)
def a0.t(Y:aD)(aS:Int)(Z:U):Prop:=
 cE.t Y aS none 0 0 none 0 0 none 0 0 none 0 0 Z
def a0.g(Y:aD)(X:Fr)(Z:U):Prop:=aW .i64 (X 0) fun aS=>a0.t Y aS Z
theorem a0.ok(Y:aD)(X:Fr)(Z:U)(g:a0.g Y X Z):den prog E (a3 aO [W,W]) (a8 E [.tmp 2,.tmp 3,.tmp 4] Y) X Z:=
 bB g fun aS a g=>c4 1 (r:=(a3 aO [W,W,W])) (by kernel_rfl) (o8.ok Y) (bS [(0,.int .i64 aS)] ⟨a,trivial⟩ (by kernel_rfl) g)
def aL.t(Y:aD)(aS:Int)(Z:U):Prop:=
 cond (decide (aS < 0)) (Y (.tuple #[.slice none 0 0,.slice none 0 0,.int .i64 1]) Z) (cond (decide (aS≥1000)) (Y (.tuple #[.slice none 0 0,.slice none 0 0,.int .i64 1]) Z) (a0.t Y aS Z))
def aL.g(Y:aD)(X:Fr)(Z:U):Prop:=aW .i64 (X 0) fun aS=>aL.t Y aS Z
theorem aL.ok(Y:aD)(X:Fr)(Z:U)(g:aL.g Y X Z):den prog E aO (a8 E [.tmp 2,.tmp 3,.tmp 4] Y) X Z:=
 bB g fun aS a g=>c4 2 (r:=(a3 aO [W,W])) (by kernel_rfl) (a0.ok Y) (bS [(0,.int .i64 aS)] ⟨a,trivial⟩ (by kernel_rfl) g)
def t(aS:Int)(Z:U)(Y:aD):Prop:=aL.t Y aS Z
theorem ok{aS:Int}{Z:U}{Y:aD}(g:t aS Z Y):aY id #[.int .i64 aS] Z Y:=
 dL dI (c:=aO) (dC:=[.tmp 2,.tmp 3,.tmp 4]) Tryz.func15 (by kernel_rfl) (by kernel_rfl) (by kernel_rfl) (args:=[.int .i64 aS]) (by kernel_rfl) (aL.ok Y _ Z (bQ rfl (g)))
end jC
namespace jY
noncomputable def aO:Code:=dK Tryz.f16
def bF.t(Y:aD)(aM:Int)(eD:Addr)(a7:M)(a a9:Nat)(b:Int)(c:Bool)(Z:U):Prop:=
 aY sA.id #[.slice a7 a a9,.int .u64 b,.bool c] Z fun a c=>
 aQ a fun a d e=>
 aY qZ.id #[.int .u64 b,.int .i64 aM,.slice a d e] c fun c f=>
 aW .i64 c fun c=>
 cC f (eD.add 0) (.int .u64 b) fun b=>
 cC b (eD.add 1) (.slice a d e) fun a=>
 cC a (eD.add 2) (.int .i64 c) fun a=>
 cY a .u64 (eD.add 0) fun b=>
 dO a (eD.add 1) fun c d e=>
 cY a .i64 (eD.add 2) fun f=>
 Y (.tuple #[.agg #[.int .u64 b,.slice c d e,.int .i64 f],.int .i64 0]) a
def bF.g(Y:aD)(X:Fr)(Z:U):Prop:=aW .i64 (X 1) fun aM=>gH (X 4) fun eD=>aQ (X 6) fun a7 a a9=>aW .u64 (X 10) fun b=>eS (X 12) fun c=>bF.t Y aM eD a7 a a9 b c Z
theorem bF.ok(Y:aD)(X:Fr)(Z:U)(g:bF.g Y X Z):den prog E (a3 aO [W,W,W,W,W,W,W,W]) (a8 E [.cell 4 39,.tmp 5] Y) X Z:=
 bB g fun aM a g=>hW g fun eD b g=>bD g fun a7 c a9 d g=>bB g fun e f g=>w4 g fun h i g=>bS [(1,.int .i64 aM),(4,.pointer (some eD)),(6,.slice a7 c a9),(10,.int .u64 e),(12,.bool h)] ⟨a,b,d,f,i,trivial⟩ (by kernel_rfl) g
def a0.t(Y:aD)(aS aM:Int)(eD:Addr)(Z:U):Prop:=
 aY tY.id #[.int .i64 aM] Z fun a b=>
 cT a fun a=>
 cP a fun a c d e=>
 dJ e .i64 fun e f=>
 b5 f <| cond (e != 0) (cC b (eD.add 0) (.int .u64 0) fun f=>
 cC f (eD.add 1) (.slice none 0 0) fun f=>
 cC f (eD.add 2) (.int .i64 0) fun f=>
 cY f .u64 (eD.add 0) fun g=>
 dO f (eD.add 1) fun h i j=>
 cY f .i64 (eD.add 2) fun k=>
 Y (.tuple #[.agg #[.int .u64 g,.slice h i j,.int .i64 k],.int .i64 e]) f) (a5 (IntKind.i64.wrap (aS - 1)) fun e=>
 0≤e∧a5 (h4 .u64 1 e) fun e=>
 0≤aS∧a5 (h4 .u64 1 aS) fun f=>
 a5 (IntKind.u64.wrap (f - 1)) fun f=>
 aY p4.id #[.slice a c d,.int .u64 e,.int .u64 f,.bool true] b fun b g=>
 cT b fun b=>
 dJ b .u64 fun b h=>
 cP h fun h i j k=>
 b5 k <| aY mU.id #[.slice a c d,.int .u64 e,.int .u64 f] g fun e g=>
 aW .u64 e fun e=>
 cond (decide (e≤f)) (aY p4.id #[.slice a c d,.int .u64 e,.int .u64 f,.bool false] g fun e f=>
 cT e fun e=>
 dJ e .u64 fun e k=>
 cP k fun k l m n=>
 b5 n <| aY iU.id #[.slice k l m,.slice h i j] f fun f h=>
 aW .i64 f fun f=>
 cond (decide (f < 0)) (bF.t Y aM eD a c d e false h) (bF.t Y aM eD a c d b true h)) (bF.t Y aM eD a c d b true g))
def a0.g(Y:aD)(X:Fr)(Z:U):Prop:=aW .i64 (X 0) fun aS=>aW .i64 (X 1) fun aM=>gH (X 4) fun eD=>a0.t Y aS aM eD Z
theorem a0.ok(Y:aD)(X:Fr)(Z:U)(g:a0.g Y X Z):den prog E (a3 aO [W,W]) (a8 E [.cell 4 39,.tmp 5] Y) X Z:=
 bB g fun aS a g=>bB g fun aM b g=>hW g fun eD c g=>c4 6 (r:=(a3 aO [W,W,W,W,W,W,W,W])) (by kernel_rfl) (bF.ok Y) (bS [(0,.int .i64 aS),(1,.int .i64 aM),(4,.pointer (some eD))] ⟨a,b,c,trivial⟩ (by kernel_rfl) g)
def aL.t(Y:aD)(aS aM:Int)(Z:U):Prop:=
 dN Z 39 uM.a6 fun b8 a=>
 cond (decide (aS < 1)) (cC a (b8.add 0) (.int .u64 0) fun b=>
 cC b (b8.add 1) (.slice none 0 0) fun b=>
 cC b (b8.add 2) (.int .i64 0) fun b=>
 cY b .u64 (b8.add 0) fun c=>
 dO b (b8.add 1) fun d e f=>
 cY b .i64 (b8.add 2) fun g=>
 Y (.tuple #[.agg #[.int .u64 c,.slice d e f,.int .i64 g],.int .i64 1]) b) (cond (decide (aS > 53)) (cC a (b8.add 0) (.int .u64 0) fun b=>
 cC b (b8.add 1) (.slice none 0 0) fun b=>
 cC b (b8.add 2) (.int .i64 0) fun b=>
 cY b .u64 (b8.add 0) fun c=>
 dO b (b8.add 1) fun d e f=>
 cY b .i64 (b8.add 2) fun g=>
 Y (.tuple #[.agg #[.int .u64 c,.slice d e f,.int .i64 g],.int .i64 1]) b) (cond (decide (aM < (-64))) (cC a (b8.add 0) (.int .u64 0) fun b=>
 cC b (b8.add 1) (.slice none 0 0) fun b=>
 cC b (b8.add 2) (.int .i64 0) fun b=>
 cY b .u64 (b8.add 0) fun c=>
 dO b (b8.add 1) fun d e f=>
 cY b .i64 (b8.add 2) fun g=>
 Y (.tuple #[.agg #[.int .u64 c,.slice d e f,.int .i64 g],.int .i64 1]) b) (cond (decide (aM > 971)) (cC a (b8.add 0) (.int .u64 0) fun b=>
 cC b (b8.add 1) (.slice none 0 0) fun b=>
 cC b (b8.add 2) (.int .i64 0) fun b=>
 cY b .u64 (b8.add 0) fun c=>
 dO b (b8.add 1) fun d e f=>
 cY b .i64 (b8.add 2) fun g=>
 Y (.tuple #[.agg #[.int .u64 c,.slice d e f,.int .i64 g],.int .i64 1]) b) (a0.t Y aS aM b8 a))))
def aL.g(Y:aD)(X:Fr)(Z:U):Prop:=aW .i64 (X 0) fun aS=>aW .i64 (X 1) fun aM=>aL.t Y aS aM Z
theorem aL.ok(Y:aD)(X:Fr)(Z:U)(g:aL.g Y X Z):den prog E aO (a8 E [.cell 4 39,.tmp 5] Y) X Z:=
 bB g fun aS a g=>bB g fun aM b g=>c4 2 (r:=(a3 aO [W,W])) (by kernel_rfl) (a0.ok Y) (bS [(0,.int .i64 aS),(1,.int .i64 aM)] ⟨a,b,trivial⟩ (by kernel_rfl) g)
def t(aS aM:Int)(Z:U)(Y:aD):Prop:=aL.t Y aS aM Z
theorem ok{aS:Int}{aM:Int}{Z:U}{Y:aD}(g:t aS aM Z Y):aY id #[.int .i64 aS,.int .i64 aM] Z Y:=
 dL dI (c:=aO) (dC:=[.cell 4 39,.tmp 5]) Tryz.func16 (by kernel_rfl) (by kernel_rfl) (by kernel_rfl) (args:=[.int .i64 aS,.int .i64 aM]) (by kernel_rfl) (aL.ok Y _ Z (bQ rfl (bQ rfl (g))))
end jY
namespace oH
noncomputable def aO:Code:=dK Tryz.f17
def a0.t(Y:aD)(aS:Int)(Z:U):Prop:=
 aY kQ.id #[.int .i64 aS] Z fun a b=>
 aQ a fun a c d=>
 Y (.tuple #[.slice a c d,.int .i64 0]) b
def a0.g(Y:aD)(X:Fr)(Z:U):Prop:=aW .i64 (X 0) fun aS=>a0.t Y aS Z
theorem a0.ok(Y:aD)(X:Fr)(Z:U)(g:a0.g Y X Z):den prog E (a3 aO [W,W]) (a8 E [.tmp 2,.tmp 3] Y) X Z:=
 bB g fun aS a g=>bS [(0,.int .i64 aS)] ⟨a,trivial⟩ (by kernel_rfl) g
def aL.t(Y:aD)(aS:Int)(Z:U):Prop:=
 cond (decide (aS < 1)) (Y (.tuple #[.slice none 0 0,.int .i64 1]) Z) (cond (decide (aS > 1000)) (Y (.tuple #[.slice none 0 0,.int .i64 1]) Z) (a0.t Y aS Z))
def aL.g(Y:aD)(X:Fr)(Z:U):Prop:=aW .i64 (X 0) fun aS=>aL.t Y aS Z
theorem aL.ok(Y:aD)(X:Fr)(Z:U)(g:aL.g Y X Z):den prog E aO (a8 E [.tmp 2,.tmp 3] Y) X Z:=
 bB g fun aS a g=>c4 2 (r:=(a3 aO [W,W])) (by kernel_rfl) (a0.ok Y) (bS [(0,.int .i64 aS)] ⟨a,trivial⟩ (by kernel_rfl) g)
def t(aS:Int)(Z:U)(Y:aD):Prop:=aL.t Y aS Z
theorem ok{aS:Int}{Z:U}{Y:aD}(g:t aS Z Y):aY id #[.int .i64 aS] Z Y:=
 dL dI (c:=aO) (dC:=[.tmp 2,.tmp 3]) Tryz.func17 (by kernel_rfl) (by kernel_rfl) (by kernel_rfl) (args:=[.int .i64 aS]) (by kernel_rfl) (aL.ok Y _ Z (bQ rfl (g)))
end oH
namespace kR
noncomputable def aO:Code:=dK Tryz.f18
def bF.t(Y:aD)(bP:M)(a bO:Nat)(a7:M)(b a9:Nat)(Z:U):Prop:=
 aY j7.id #[.slice bP a bO] Z fun a c=>
 aQ a fun a d e=>
 aY j7.id #[.slice a7 b a9] c fun b c=>
 aQ b fun b f g=>
 Y (.tuple #[.slice a d e,.slice b f g,.int .i64 0]) c
def bF.g(Y:aD)(X:Fr)(Z:U):Prop:=aQ (X 5) fun bP a bO=>aQ (X 6) fun a7 b a9=>bF.t Y bP a bO a7 b a9 Z
theorem bF.ok(Y:aD)(X:Fr)(Z:U)(g:bF.g Y X Z):den prog E (a3 aO [W,W,W,W,W]) (a8 E [.tmp 2,.tmp 3,.tmp 4] Y) X Z:=
 bD g fun bP a bO b g=>bD g fun a7 c a9 d g=>bS [(5,.slice bP a bO),(6,.slice a7 c a9)] ⟨b,d,trivial⟩ (by kernel_rfl) g
def dW.g(a:M→Nat→Nat→M→Nat→Nat→M→Nat→Nat→M→Nat→Nat→M→Nat→Nat→Int→Int→U→Prop)(X:Fr)(Z:U):Prop:=aQ (X 5) fun bP b bO=>aQ (X 6) fun a7 c a9=>aQ (X 7) fun b0 d b2=>aQ (X 8) fun bR e bT=>aQ (X 23) fun gC f gG=>aW .i64 (X 24) fun h=>aW .i64 (X 25) fun i=>a bP b bO a7 c a9 b0 d b2 bR e bT gC f gG h i Z
def c8.t(Y:aD)(a:M→Nat→Nat→M→Nat→Nat→M→Nat→Nat→M→Nat→Nat→M→Nat→Nat→Int→Int→U→Prop)(bP:M)(b bO:Nat)(a7:M)(c a9:Nat)(b0:M)(d b2:Nat)(bR:M)(e bT:Nat)(gC:M)(f gG:Nat)(g h:Int)(Z:U):Prop:=
 cond (decide (h < g)) (c7 gC f h 1 fun i=>
 cY Z .u64 i fun i=>
 aY gF.id #[.int .u64 i] Z fun j k=>
 aQ j fun j l m=>
 aY hG.id #[.slice j l m,.slice bP b bO] k fun j k=>
 aQ j fun j l m=>
 aY gS.id #[.slice j l m,.slice b0 d b2] k fun d j=>
 aQ d fun d k l=>
 aY gF.id #[.int .u64 i] j fun i j=>
 aQ i fun i m n=>
 aY hG.id #[.slice i m n,.slice a7 c a9] j fun i j=>
 aQ i fun i m n=>
 aY gS.id #[.slice i m n,.slice bR e bT] j fun e i=>
 aQ e fun e j m=>
 a5 (IntKind.i64.wrap (h+1)) fun h=>
 a d k l e j m bP b bO a7 c a9 gC f gG g h i) (bF.t Y bP b bO a7 c a9 Z)
def c8.g(Y:aD)(a:M→Nat→Nat→M→Nat→Nat→M→Nat→Nat→M→Nat→Nat→M→Nat→Nat→Int→Int→U→Prop)(X:Fr)(Z:U):Prop:=aQ (X 5) fun bP b bO=>aQ (X 6) fun a7 c a9=>aQ (X 7) fun b0 d b2=>aQ (X 8) fun bR e bT=>aQ (X 23) fun gC f gG=>aW .i64 (X 24) fun h=>aW .i64 (X 25) fun i=>c8.t Y a bP b bO a7 c a9 b0 d b2 bR e bT gC f gG h i Z
theorem c8.ok(Y:aD)(a:M→Nat→Nat→M→Nat→Nat→M→Nat→Nat→M→Nat→Nat→M→Nat→Nat→Int→Int→U→Prop)(X:Fr)(Z:U)(g:c8.g Y a X Z):den prog E (a3 aO [W,W,W,W,aT,W,aT,aT]) (a1.then (dW.g a) (a1.inBlock 0 (a1.then (bF.g Y) (a8 E [.tmp 2,.tmp 3,.tmp 4] Y)))) X Z:=
 bD g fun bP a bO b g=>bD g fun a7 c a9 d g=>bD g fun b0 e b2 f g=>bD g fun bR h bT i g=>bD g fun gC j gG k g=>bB g fun l m g=>bB g fun n o g=>bS [(5,.slice bP a bO),(6,.slice a7 c a9),(7,.slice b0 e b2),(8,.slice bR h bT),(23,.slice gC j gG),(24,.int .i64 l),(25,.int .i64 n)] ⟨b,d,f,i,k,m,o,trivial⟩ (by kernel_rfl) g
def dW.t(Y:aD):Nat→M→Nat→Nat→M→Nat→Nat→M→Nat→Nat→M→Nat→Nat→M→Nat→Nat→Int→Int→U→Prop
 | 0=>fun _ _ _ _ _ _ _ _ _ _ _ _ _ _ _ _ _ _=>False
 | n+1=>fun bP a bO a7 b a9 b0 c b2 bR d bT gC e gG f g Z=>c8.t Y (dW.t Y n) bP a bO a7 b a9 b0 c b2 bR d bT gC e gG f g Z
theorem dW.ok(Y:aD)(X:Fr)(Z:U)(g:dW.g (fun bP a bO a7 b a9 b0 c b2 bR d bT gC e gG f h Z=>∃ n,dW.t Y n bP a bO a7 b a9 b0 c b2 bR d bT gC e gG f h Z) X Z):den prog E (a3 aO [W,W,W,W,aT,W,aT]) (a1.inBlock 0 (a1.then (bF.g Y) (a8 E [.tmp 2,.tmp 3,.tmp 4] Y))) X Z:=by
 obtain⟨bP,a,bO,i,g⟩:=b4 g
 obtain⟨a7,b,a9,j,g⟩:=b4 g
 obtain⟨b0,c,b2,k,g⟩:=b4 g
 obtain⟨bR,d,bT,l,g⟩:=b4 g
 obtain⟨gC,e,gG,m,g⟩:=b4 g
 obtain⟨f,o,g⟩:=bN g
 obtain⟨h,p,g⟩:=bN g
 obtain⟨n,g⟩:=g
 refine fK (fun n=>dW.g (dW.t Y n)) (L:=(a3 aO [W,W,W,W,aT,W,aT,aT])) (by kernel_rfl) (fun X Z g=>?_) (fun n=>c8.ok Y (dW.t Y n)) n X Z (bE i (bE j (bE k (bE l (bE m (bQ o (bQ p (g))))))))
 obtain⟨bP,a,bO,i,g⟩:=b4 g
 obtain⟨a7,b,a9,j,g⟩:=b4 g
 obtain⟨b0,c,b2,k,g⟩:=b4 g
 obtain⟨bR,d,bT,l,g⟩:=b4 g
 obtain⟨gC,e,gG,m,g⟩:=b4 g
 obtain⟨f,o,g⟩:=bN g
 obtain⟨h,p,g⟩:=bN g
 exact g
theorem o7.ok(Y:aD)(X:Fr)(Z:U)(g:dW.g (fun bP a bO a7 b a9 b0 c b2 bR d bT gC e gG f h Z=>∃ n,dW.t Y n bP a bO a7 b a9 b0 c b2 bR d bT gC e gG f h Z) X Z):den prog E (a3 aO [W,W,W,W,aT,W]) (a1.then (bF.g Y) (a8 E [.tmp 2,.tmp 3,.tmp 4] Y)) X Z:=
 fC (by kernel_rfl) (dW.ok Y X Z g)
def cE.t(Y:aD)(aS:Int)(bP:M)(a bO:Nat)(a7:M)(b a9:Nat)(b0:M)(c b2:Nat)(bR:M)(d bT:Nat)(Z:U):Prop:=
 a5 (IntKind.i64.wrap (aS+1)) fun e=>
 aY kQ.id #[.int .i64 e] Z fun e f=>
 aQ e fun e g h=>
 (∃ n,dW.t Y n bP a bO a7 b a9 b0 c b2 bR d bT e g h (((g:Nat):Int)) 0 f)
def cE.g(Y:aD)(X:Fr)(Z:U):Prop:=aW .i64 (X 0) fun aS=>aQ (X 5) fun bP a bO=>aQ (X 6) fun a7 b a9=>aQ (X 7) fun b0 c b2=>aQ (X 8) fun bR d bT=>cE.t Y aS bP a bO a7 b a9 b0 c b2 bR d bT Z
theorem cE.ok(Y:aD)(X:Fr)(Z:U)(g:cE.g Y X Z):den prog E (a3 aO [W,W,W,W,aT]) (a1.then (bF.g Y) (a8 E [.tmp 2,.tmp 3,.tmp 4] Y)) X Z:=
 bB g fun aS a g=>bD g fun bP b bO c g=>bD g fun a7 d a9 e g=>bD g fun b0 f b2 h g=>bD g fun bR i bT j g=>c4 1 (r:=(a3 aO [W,W,W,W,aT,W])) (by kernel_rfl) (o7.ok Y) (bS [(0,.int .i64 aS),(5,.slice bP b bO),(6,.slice a7 d a9),(7,.slice b0 f b2),(8,.slice bR i bT)] ⟨a,c,e,h,j,trivial⟩ (by kernel_rfl) g)
theorem o8.ok(Y:aD)(X:Fr)(Z:U)(g:cE.g Y X Z):den prog E (a3 aO [W,W,W,W]) (a8 E [.tmp 2,.tmp 3,.tmp 4] Y) X Z:=
 gA (by kernel_rfl) (bF.ok Y) (cE.ok Y X Z g)
def a0.t(Y:aD)(aS:Int)(Z:U):Prop:=
 aY gF.id #[.int .u64 1] Z fun a b=>
 aQ a fun a c d=>
 aY gF.id #[.int .u64 0] b fun b e=>
 aQ b fun b f g=>
 aY gF.id #[.int .u64 0] e fun e h=>
 aQ e fun e i j=>
 aY gF.id #[.int .u64 1] h fun h k=>
 aQ h fun h l m=>
 cE.t Y aS a c d b f g e i j h l m k
def a0.g(Y:aD)(X:Fr)(Z:U):Prop:=aW .i64 (X 0) fun aS=>a0.t Y aS Z
theorem a0.ok(Y:aD)(X:Fr)(Z:U)(g:a0.g Y X Z):den prog E (a3 aO [W,W]) (a8 E [.tmp 2,.tmp 3,.tmp 4] Y) X Z:=
 bB g fun aS a g=>c4 2 (r:=(a3 aO [W,W,W,W])) (by kernel_rfl) (o8.ok Y) (bS [(0,.int .i64 aS)] ⟨a,trivial⟩ (by kernel_rfl) g)
def aL.t(Y:aD)(aS:Int)(Z:U):Prop:=
 cond (decide (aS < 0)) (Y (.tuple #[.slice none 0 0,.slice none 0 0,.int .i64 1]) Z) (cond (decide (aS≥1000)) (Y (.tuple #[.slice none 0 0,.slice none 0 0,.int .i64 1]) Z) (a0.t Y aS Z))
def aL.g(Y:aD)(X:Fr)(Z:U):Prop:=aW .i64 (X 0) fun aS=>aL.t Y aS Z
theorem aL.ok(Y:aD)(X:Fr)(Z:U)(g:aL.g Y X Z):den prog E aO (a8 E [.tmp 2,.tmp 3,.tmp 4] Y) X Z:=
 bB g fun aS a g=>c4 2 (r:=(a3 aO [W,W])) (by kernel_rfl) (a0.ok Y) (bS [(0,.int .i64 aS)] ⟨a,trivial⟩ (by kernel_rfl) g)
def t(aS:Int)(Z:U)(Y:aD):Prop:=aL.t Y aS Z
theorem ok{aS:Int}{Z:U}{Y:aD}(g:t aS Z Y):aY id #[.int .i64 aS] Z Y:=
 dL dI (c:=aO) (dC:=[.tmp 2,.tmp 3,.tmp 4]) Tryz.func18 (by kernel_rfl) (by kernel_rfl) (by kernel_rfl) (args:=[.int .i64 aS]) (by kernel_rfl) (aL.ok Y _ Z (bQ rfl (g)))
end kR
namespace oI
noncomputable def aO:Code:=dK Tryz.f19
def a0.t(Y:aD)(aS aM:Int)(Z:U):Prop:=
 aY o6.id #[.int .i64 aS,.int .i64 aM] Z fun a b=>
 aW .u64 a fun a=>
 aY oF.id #[.int .u64 a,.int .i64 aM,.int .i64 320] b fun b c=>
 cT b fun b=>
 cP b fun b d e f=>
 cP f fun f g h i=>
 b5 i <| aY j7.id #[.slice f g h] c fun c f=>
 aQ c fun c g h=>
 aY kK.id #[.slice b d e] f fun b d=>
 aW .i64 b fun b=>
 a5 (IntKind.i64.wrap (320 - b)) fun b=>
 a5 (IntKind.i64.wrap (b+1)) fun b=>
 Y (.tuple #[.int .u64 a,.slice c g h,.int .i64 b,.int .i64 0]) d
def a0.g(Y:aD)(X:Fr)(Z:U):Prop:=aW .i64 (X 0) fun aS=>aW .i64 (X 1) fun aM=>a0.t Y aS aM Z
theorem a0.ok(Y:aD)(X:Fr)(Z:U)(g:a0.g Y X Z):den prog E (a3 aO [W,W]) (a8 E [.tmp 4,.tmp 5,.tmp 6,.tmp 7] Y) X Z:=
 bB g fun aS a g=>bB g fun aM b g=>bS [(0,.int .i64 aS),(1,.int .i64 aM)] ⟨a,b,trivial⟩ (by kernel_rfl) g
def aL.t(Y:aD)(aS aM:Int)(Z:U):Prop:=
 cond (decide (aS < 1)) (Y (.tuple #[.int .u64 0,.slice none 0 0,.int .i64 0,.int .i64 1]) Z) (cond (decide (aS > 53)) (Y (.tuple #[.int .u64 0,.slice none 0 0,.int .i64 0,.int .i64 1]) Z) (cond (decide (aM < (-64))) (Y (.tuple #[.int .u64 0,.slice none 0 0,.int .i64 0,.int .i64 1]) Z) (cond (decide (aM > 971)) (Y (.tuple #[.int .u64 0,.slice none 0 0,.int .i64 0,.int .i64 1]) Z) (a0.t Y aS aM Z))))
def aL.g(Y:aD)(X:Fr)(Z:U):Prop:=aW .i64 (X 0) fun aS=>aW .i64 (X 1) fun aM=>aL.t Y aS aM Z
theorem aL.ok(Y:aD)(X:Fr)(Z:U)(g:aL.g Y X Z):den prog E aO (a8 E [.tmp 4,.tmp 5,.tmp 6,.tmp 7] Y) X Z:=
 bB g fun aS a g=>bB g fun aM b g=>c4 2 (r:=(a3 aO [W,W])) (by kernel_rfl) (a0.ok Y) (bS [(0,.int .i64 aS),(1,.int .i64 aM)] ⟨a,b,trivial⟩ (by kernel_rfl) g)
def t(aS aM:Int)(Z:U)(Y:aD):Prop:=aL.t Y aS aM Z
theorem ok{aS:Int}{aM:Int}{Z:U}{Y:aD}(g:t aS aM Z Y):aY id #[.int .i64 aS,.int .i64 aM] Z Y:=
 dL dI (c:=aO) (dC:=[.tmp 4,.tmp 5,.tmp 6,.tmp 7]) Tryz.func19 (by kernel_rfl) (by kernel_rfl) (by kernel_rfl) (args:=[.int .i64 aS,.int .i64 aM]) (by kernel_rfl) (aL.ok Y _ Z (bQ rfl (bQ rfl (g))))
end oI
namespace oF
noncomputable def aO:Code:=dK Tryz.f21
def aL.t(Y:aD)(aS aM a:Int)(Z:U):Prop:=
 aY gF.id #[.int .u64 aS] Z fun b c=>
 aQ b fun b d e=>
 aY fR.id #[.bool false,.slice b d e] c fun b c=>
 eG b fun b=>
 fH b fun b d=>
 cP d fun d e f g=>
 b5 g <| aY nP.id #[.agg #[.bool b,.slice d e f],.int .i64 aM,.int .i64 a] c fun b c=>
 cT b fun b=>
 cQ b fun b d=>
 eG b fun b=>
 fH b fun b e=>
 cP e fun e f g h=>
 b5 h <| cQ d fun d h=>
 eG d fun d=>
 fH d fun d i=>
 cP i fun i j k l=>
 b5 l <| b5 h <| dN c 82 h3.a6 fun c h=>
 dN h 82 h3.a6 fun h l=>
 cC l (c.add 0) (.bool b) fun b=>
 cC b (c.add 1) (.slice e f g) fun b=>
 cC b (h.add 0) (.bool d) fun b=>
 cC b (h.add 1) (.slice i j k) fun b=>
 eN b (c.add 0) fun d=>
 dO b (c.add 1) fun e f g=>
 aY kP.id #[.agg #[.bool d,.slice e f g]] b fun b d=>
 aW .i64 b fun b=>
 cond (b != 0) (dO d (h.add 1) fun b e f=>
 dO d (c.add 1) fun c g i=>
 Y (.tuple #[.slice b e f,.slice c g i]) d) (a5 (IntKind.i64.wrap (a+1)) fun a=>
 aY oB.id #[.int .i64 a] d fun a b=>
 aQ a fun a c d=>
 aY kT.id #[.slice a c d,.int .i64 2] b fun a b=>
 aQ a fun a c d=>
 dO b (h.add 1) fun e f g=>
 aY g1.id #[.slice a c d,.slice e f g] b fun a b=>
 aQ a fun a c d=>
 aY gF.id #[.int .u64 1] b fun b e=>
 aQ b fun b f g=>
 Y (.tuple #[.slice a c d,.slice b f g]) e)
def aL.g(Y:aD)(X:Fr)(Z:U):Prop:=aW .u64 (X 0) fun aS=>aW .i64 (X 1) fun aM=>aW .i64 (X 2) fun a=>aL.t Y aS aM a Z
theorem aL.ok(Y:aD)(X:Fr)(Z:U)(g:aL.g Y X Z):den prog E aO (a8 E [.tmp 6,.tmp 7] Y) X Z:=
 bB g fun aS a g=>bB g fun aM b g=>bB g fun c d g=>bS [(0,.int .u64 aS),(1,.int .i64 aM),(2,.int .i64 c)] ⟨a,b,d,trivial⟩ (by kernel_rfl) g
def t(aS aM a:Int)(Z:U)(Y:aD):Prop:=aL.t Y aS aM a Z
theorem ok{aS:Int}{aM:Int}{a:Int}{Z:U}{Y:aD}(g:t aS aM a Z Y):aY id #[.int .u64 aS,.int .i64 aM,.int .i64 a] Z Y:=
 dL dI (c:=aO) (dC:=[.tmp 6,.tmp 7]) Tryz.func21 (by kernel_rfl) (by kernel_rfl) (by kernel_rfl) (args:=[.int .u64 aS,.int .i64 aM,.int .i64 a]) (by kernel_rfl) (aL.ok Y _ Z (bQ rfl (bQ rfl (bQ rfl (g)))))
end oF
namespace j7
noncomputable def aO:Code:=dK Tryz.f22
def a0.t(Y:aD)(eA:M)(fT eF:Nat)(Z:U):Prop:=
 Y (.slice eA fT eF) Z
def a0.g(Y:aD)(X:Fr)(Z:U):Prop:=aQ (X 4) fun eA fT eF=>a0.t Y eA fT eF Z
theorem a0.ok(Y:aD)(X:Fr)(Z:U)(g:a0.g Y X Z):den prog E (a3 aO [W,W,W,W]) (a8 E [.tmp 2] Y) X Z:=
 bD g fun eA fT eF a g=>bS [(4,.slice eA fT eF)] ⟨a,trivial⟩ (by kernel_rfl) g
def bL.g(a:M→Nat→Nat→M→Nat→Nat→Int→U→Prop)(X:Fr)(Z:U):Prop:=aQ (X 3) fun c3 dV cR=>aQ (X 4) fun eA fT eF=>aW .i64 (X 5) fun b=>a c3 dV cR eA fT eF b Z
def b7.t(Y:aD)(a:M→Nat→Nat→M→Nat→Nat→Int→U→Prop)(c3:M)(dV cR:Nat)(eA:M)(fT eF:Nat)(b:Int)(Z:U):Prop:=
 cond (decide (b < (((dV:Nat):Int)))) (c7 c3 dV b 1 fun c=>
 cY Z .u32 c fun c=>
 a5 (IntKind.u64.wrap c) fun c=>
 a5 (IntKind.i64.wrap (b+1)) fun d=>
 cond (decide (d < (((dV:Nat):Int)))) (a5 (IntKind.i64.wrap (b+1)) fun d=>
 c7 c3 dV d 1 fun d=>
 cY Z .u32 d fun d=>
 a5 (IntKind.u64.wrap d) fun d=>
 0≤(32:Int)∧a5 (h4 .u64 d 32) fun d=>
 a5 (IntKind.u64.wrap (c+d)) fun d=>
 dN Z 35 [.int .u64 d] fun d e=>
 hF e 35 j6 eA fT eF (.slice (some d) 1 1) fun d e f g=>
 a5 (IntKind.i64.wrap (b+2)) fun h=>
 a c3 dV cR d e f h g) (dN Z 35 [.int .u64 c] fun c d=>
 hF d 35 j6 eA fT eF (.slice (some c) 1 1) fun c d e f=>
 a5 (IntKind.i64.wrap (b+2)) fun b=>
 a c3 dV cR c d e b f)) (a0.t Y eA fT eF Z)
def b7.g(Y:aD)(a:M→Nat→Nat→M→Nat→Nat→Int→U→Prop)(X:Fr)(Z:U):Prop:=aQ (X 3) fun c3 dV cR=>aQ (X 4) fun eA fT eF=>aW .i64 (X 5) fun b=>b7.t Y a c3 dV cR eA fT eF b Z
theorem b7.ok(Y:aD)(a:M→Nat→Nat→M→Nat→Nat→Int→U→Prop)(X:Fr)(Z:U)(g:b7.g Y a X Z):den prog E (a3 aO [W,W,W,aT,W,aT,aT]) (a1.then (bL.g a) (a1.inBlock 0 (a1.then (a0.g Y) (a8 E [.tmp 2] Y)))) X Z:=
 bD g fun c3 dV cR a g=>bD g fun eA fT eF b g=>bB g fun c d g=>bS [(3,.slice c3 dV cR),(4,.slice eA fT eF),(5,.int .i64 c)] ⟨a,b,d,trivial⟩ (by kernel_rfl) g
def bL.t(Y:aD):Nat→M→Nat→Nat→M→Nat→Nat→Int→U→Prop
 | 0=>fun _ _ _ _ _ _ _ _=>False
 | n+1=>fun c3 dV cR eA fT eF a Z=>b7.t Y (bL.t Y n) c3 dV cR eA fT eF a Z
theorem bL.ok(Y:aD)(X:Fr)(Z:U)(g:bL.g (fun c3 dV cR eA fT eF a Z=>∃ n,bL.t Y n c3 dV cR eA fT eF a Z) X Z):den prog E (a3 aO [W,W,W,aT,W,aT]) (a1.inBlock 0 (a1.then (a0.g Y) (a8 E [.tmp 2] Y))) X Z:=by
 obtain⟨c3,dV,cR,b,g⟩:=b4 g
 obtain⟨eA,fT,eF,c,g⟩:=b4 g
 obtain⟨a,d,g⟩:=bN g
 obtain⟨n,g⟩:=g
 refine fK (fun n=>bL.g (bL.t Y n)) (L:=(a3 aO [W,W,W,aT,W,aT,aT])) (by kernel_rfl) (fun X Z g=>?_) (fun n=>b7.ok Y (bL.t Y n)) n X Z (bE b (bE c (bQ d (g))))
 obtain⟨c3,dV,cR,b,g⟩:=b4 g
 obtain⟨eA,fT,eF,c,g⟩:=b4 g
 obtain⟨a,d,g⟩:=bN g
 exact g
theorem g3.ok(Y:aD)(X:Fr)(Z:U)(g:bL.g (fun c3 dV cR eA fT eF a Z=>∃ n,bL.t Y n c3 dV cR eA fT eF a Z) X Z):den prog E (a3 aO [W,W,W,aT,W]) (a1.then (a0.g Y) (a8 E [.tmp 2] Y)) X Z:=
 fC (by kernel_rfl) (bL.ok Y X Z g)
def bF.t(Y:aD)(c3:M)(dV cR:Nat)(eA:M)(fT eF:Nat)(Z:U):Prop:=
 (∃ n,bL.t Y n c3 dV cR eA fT eF 0 Z)
def bF.g(Y:aD)(X:Fr)(Z:U):Prop:=aQ (X 3) fun c3 dV cR=>aQ (X 4) fun eA fT eF=>bF.t Y c3 dV cR eA fT eF Z
theorem bF.ok(Y:aD)(X:Fr)(Z:U)(g:bF.g Y X Z):den prog E (a3 aO [W,W,W,aT]) (a1.then (a0.g Y) (a8 E [.tmp 2] Y)) X Z:=
 bD g fun c3 dV cR a g=>bD g fun eA fT eF b g=>c4 1 (r:=(a3 aO [W,W,W,aT,W])) (by kernel_rfl) (g3.ok Y) (bS [(3,.slice c3 dV cR),(4,.slice eA fT eF)] ⟨a,b,trivial⟩ (by kernel_rfl) g)
theorem g4.ok(Y:aD)(X:Fr)(Z:U)(g:bF.g Y X Z):den prog E (a3 aO [W,W,W]) (a8 E [.tmp 2] Y) X Z:=
 gA (by kernel_rfl) (a0.ok Y) (bF.ok Y X Z g)
def aL.t(Y:aD)(a:M)(b c:Nat)(Z:U):Prop:=
 aY gV.id #[.slice a b c] Z fun a b=>
 aQ a fun a c d=>
 (2:Int) ≠ 0∧a5 (IntKind.i64.wrap (Int.tdiv (((c:Nat):Int)) 2)) fun e=>
 a5 (IntKind.i64.wrap (e+1)) fun e=>
 iI b 35 j6 0 e fun b f=>
 bF.t Y a c d (some b) ((0:Int).toNat) e.toNat f
def aL.g(Y:aD)(X:Fr)(Z:U):Prop:=aQ (X 0) fun a b c=>aL.t Y a b c Z
theorem aL.ok(Y:aD)(X:Fr)(Z:U)(g:aL.g Y X Z):den prog E aO (a8 E [.tmp 2] Y) X Z:=
 bD g fun a b c d g=>c4 3 (r:=(a3 aO [W,W,W])) (by kernel_rfl) (g4.ok Y) (bS [(0,.slice a b c)] ⟨d,trivial⟩ (by kernel_rfl) g)
def t(a:M)(b c:Nat)(Z:U)(Y:aD):Prop:=aL.t Y a b c Z
theorem ok{a:M}{b:Nat}{d:Nat}{Z:U}{Y:aD}(g:t a b d Z Y):aY id #[.slice a b d] Z Y:=
 dL dI (c:=aO) (dC:=[.tmp 2]) Tryz.func22 (by kernel_rfl) (by kernel_rfl) (by kernel_rfl) (args:=[.slice a b d]) (by kernel_rfl) (aL.ok Y _ Z (bE rfl (g)))
end j7
namespace hZ
noncomputable def aO:Code:=dK Tryz.f23
def a0.t(Y:aD)(Z:U):Prop:=
 Y (.int .i64 0) Z
def a0.g(Y:aD)(X:Fr)(Z:U):Prop:=a0.t Y  Z
theorem a0.ok(Y:aD)(X:Fr)(Z:U)(g:a0.g Y X Z):den prog E (a3 aO [W,W,W]) (a8 E [.tmp 4] Y) X Z:=
 bS [] trivial (by kernel_rfl) g
def bL.g(a:M→Nat→Nat→M→Nat→Nat→Int→U→Prop)(X:Fr)(Z:U):Prop:=aQ (X 0) fun b c d=>aQ (X 1) fun aJ aI aG=>aW .i64 (X 5) fun e=>a b c d aJ aI aG e Z
def b7.t(Y:aD)(a:M→Nat→Nat→M→Nat→Nat→Int→U→Prop)(b:M)(c d:Nat)(aJ:M)(aI aG:Nat)(e:Int)(Z:U):Prop:=
 cond (decide (e≥0)) (c7 b c e 1 fun e8=>
 cY Z .u32 e8 fun f=>
 c7 aJ aI e 1 fun g=>
 cY Z .u32 g fun g=>
 cond (decide (f < g)) (Y (.int .i64 (-1)) Z) (c7 b c e 1 fun f=>
 cY Z .u32 f fun f=>
 c7 aJ aI e 1 fun g=>
 cY Z .u32 g fun g=>
 cond (decide (f > g)) (Y (.int .i64 1) Z) (a5 (IntKind.i64.wrap (e - 1)) fun e=>
 a b c d aJ aI aG e Z))) (a0.t Y Z)
def b7.g(Y:aD)(a:M→Nat→Nat→M→Nat→Nat→Int→U→Prop)(X:Fr)(Z:U):Prop:=aQ (X 0) fun b c d=>aQ (X 1) fun aJ aI aG=>aW .i64 (X 5) fun e=>b7.t Y a b c d aJ aI aG e Z
theorem b7.ok(Y:aD)(a:M→Nat→Nat→M→Nat→Nat→Int→U→Prop)(X:Fr)(Z:U)(g:b7.g Y a X Z):den prog E (a3 aO [W,W,aT,W,aT,aT]) (a1.then (bL.g a) (a1.inBlock 0 (a1.then (a0.g Y) (a8 E [.tmp 4] Y)))) X Z:=
 bD g fun a b c d g=>bD g fun aJ aI aG e g=>bB g fun f h g=>bS [(0,.slice a b c),(1,.slice aJ aI aG),(5,.int .i64 f)] ⟨d,e,h,trivial⟩ (by kernel_rfl) g
def bL.t(Y:aD):Nat→M→Nat→Nat→M→Nat→Nat→Int→U→Prop
 | 0=>fun _ _ _ _ _ _ _ _=>False
 | n+1=>fun a b c aJ aI aG d Z=>b7.t Y (bL.t Y n) a b c aJ aI aG d Z
theorem bL.ok(Y:aD)(X:Fr)(Z:U)(g:bL.g (fun a b c aJ aI aG d Z=>∃ n,bL.t Y n a b c aJ aI aG d Z) X Z):den prog E (a3 aO [W,W,aT,W,aT]) (a1.inBlock 0 (a1.then (a0.g Y) (a8 E [.tmp 4] Y))) X Z:=by
 obtain⟨a,b,c,e,g⟩:=b4 g
 obtain⟨aJ,aI,aG,f,g⟩:=b4 g
 obtain⟨d,h,g⟩:=bN g
 obtain⟨n,g⟩:=g
 refine fK (fun n=>bL.g (bL.t Y n)) (L:=(a3 aO [W,W,aT,W,aT,aT])) (by kernel_rfl) (fun X Z g=>?_) (fun n=>b7.ok Y (bL.t Y n)) n X Z (bE e (bE f (bQ h (g))))
 obtain⟨a,b,c,e,g⟩:=b4 g
 obtain⟨aJ,aI,aG,f,g⟩:=b4 g
 obtain⟨d,h,g⟩:=bN g
 exact g
theorem g3.ok(Y:aD)(X:Fr)(Z:U)(g:bL.g (fun a b c aJ aI aG d Z=>∃ n,bL.t Y n a b c aJ aI aG d Z) X Z):den prog E (a3 aO [W,W,aT,W]) (a1.then (a0.g Y) (a8 E [.tmp 4] Y)) X Z:=
 fC (by kernel_rfl) (bL.ok Y X Z g)
def bF.t(Y:aD)(a:M)(b c:Nat)(aJ:M)(aI aG:Nat)(Z:U):Prop:=
 a5 (IntKind.i64.wrap ((((b:Nat):Int)) - 1)) fun dY=>(∃ n,bL.t Y n a b c aJ aI aG dY Z)
def bF.g(Y:aD)(X:Fr)(Z:U):Prop:=aQ (X 0) fun a b c=>aQ (X 1) fun aJ aI aG=>bF.t Y a b c aJ aI aG Z
theorem bF.ok(Y:aD)(X:Fr)(Z:U)(g:bF.g Y X Z):den prog E (a3 aO [W,W,aT]) (a1.then (a0.g Y) (a8 E [.tmp 4] Y)) X Z:=
 bD g fun a b c d g=>bD g fun aJ aI aG e g=>c4 1 (r:=(a3 aO [W,W,aT,W])) (by kernel_rfl) (g3.ok Y) (bS [(0,.slice a b c),(1,.slice aJ aI aG)] ⟨d,e,trivial⟩ (by kernel_rfl) g)
theorem g4.ok(Y:aD)(X:Fr)(Z:U)(g:bF.g Y X Z):den prog E (a3 aO [W,W]) (a8 E [.tmp 4] Y) X Z:=
 gA (by kernel_rfl) (a0.ok Y) (bF.ok Y X Z g)
def aL.t(Y:aD)(a:M)(b c:Nat)(aJ:M)(aI aG:Nat)(Z:U):Prop:=
 cond ((((b:Nat):Int)) != (((aI:Nat):Int))) (cond (decide ((((b:Nat):Int)) < (((aI:Nat):Int)))) (Y (.int .i64 (-1)) Z) (Y (.int .i64 1) Z)) (bF.t Y a b c aJ aI aG Z)
def aL.g(Y:aD)(X:Fr)(Z:U):Prop:=aQ (X 0) fun a b c=>aQ (X 1) fun aJ aI aG=>aL.t Y a b c aJ aI aG Z
theorem aL.ok(Y:aD)(X:Fr)(Z:U)(g:aL.g Y X Z):den prog E aO (a8 E [.tmp 4] Y) X Z:=
 bD g fun a b c d g=>bD g fun aJ aI aG e g=>c4 2 (r:=(a3 aO [W,W])) (by kernel_rfl) (g4.ok Y) (bS [(0,.slice a b c),(1,.slice aJ aI aG)] ⟨d,e,trivial⟩ (by kernel_rfl) g)
def t(a:M)(b c:Nat)(aJ:M)(aI aG:Nat)(Z:U)(Y:aD):Prop:=aL.t Y a b c aJ aI aG Z
theorem ok{a:M}{b:Nat}{d:Nat}{aJ:M}{aI:Nat}{aG:Nat}{Z:U}{Y:aD}(g:t a b d aJ aI aG Z Y):aY id #[.slice a b d,.slice aJ aI aG] Z Y:=
 dL dI (c:=aO) (dC:=[.tmp 4]) Tryz.func23 (by kernel_rfl) (by kernel_rfl) (by kernel_rfl) (args:=[.slice a b d,.slice aJ aI aG]) (by kernel_rfl) (aL.ok Y _ Z (bE rfl (bE rfl (g))))
end hZ
namespace lL
noncomputable def aO:Code:=dK Tryz.f24
def aL.t(Y:aD)(aS:Int)(Z:U):Prop:=
 aY gF.id #[.int .u64 1] Z fun a b=>
 aQ a fun a c d=>
 aY kM.id #[.slice a c d,.int .i64 aS] b fun a b=>
 aQ a fun a c d=>
 Y (.slice a c d) b
def aL.g(Y:aD)(X:Fr)(Z:U):Prop:=aW .i64 (X 0) fun aS=>aL.t Y aS Z
theorem aL.ok(Y:aD)(X:Fr)(Z:U)(g:aL.g Y X Z):den prog E aO (a8 E [.tmp 2] Y) X Z:=
 bB g fun aS a g=>bS [(0,.int .i64 aS)] ⟨a,trivial⟩ (by kernel_rfl) g
def t(aS:Int)(Z:U)(Y:aD):Prop:=aL.t Y aS Z
theorem ok{aS:Int}{Z:U}{Y:aD}(g:t aS Z Y):aY id #[.int .i64 aS] Z Y:=
 dL dI (c:=aO) (dC:=[.tmp 2]) Tryz.func24 (by kernel_rfl) (by kernel_rfl) (by kernel_rfl) (args:=[.int .i64 aS]) (by kernel_rfl) (aL.ok Y _ Z (bQ rfl (g)))
end lL
namespace uJ
noncomputable def aO:Code:=dK Tryz.f25
def aL.t(Y:aD)(aS:Int)(Z:U):Prop:=
 dN Z 59 CW.a6 fun b8 a=>
 cond (aS == 32) (cC a (b8.add 0) (.int .u64 2147483648) fun b=>
 cC b (b8.add 1) (.int .i64 24) fun b=>
 cC b (b8.add 2) (.int .i64 (-149)) fun b=>
 cC b (b8.add 3) (.int .i64 104) fun b=>
 cC b (b8.add 4) (.int .u64 2139095040) fun b=>
 cC b (b8.add 5) (.int .u64 2143289345) fun b=>
 cY b .u64 (b8.add 0) fun c=>
 cY b .i64 (b8.add 1) fun d=>
 cY b .i64 (b8.add 2) fun e=>
 cY b .i64 (b8.add 3) fun f=>
 cY b .u64 (b8.add 4) fun g=>
 cY b .u64 (b8.add 5) fun h=>
 Y (.tuple #[.agg #[.int .u64 c,.int .i64 d,.int .i64 e,.int .i64 f,.int .u64 g,.int .u64 h],.bool true]) b) (cond (aS == 64) (cC a (b8.add 0) (.int .u64 9223372036854775808) fun b=>
 cC b (b8.add 1) (.int .i64 53) fun b=>
 cC b (b8.add 2) (.int .i64 (-1074)) fun b=>
 cC b (b8.add 3) (.int .i64 971) fun b=>
 cC b (b8.add 4) (.int .u64 9218868437227405312) fun b=>
 cC b (b8.add 5) (.int .u64 9221120237041090561) fun b=>
 cY b .u64 (b8.add 0) fun c=>
 cY b .i64 (b8.add 1) fun d=>
 cY b .i64 (b8.add 2) fun e=>
 cY b .i64 (b8.add 3) fun f=>
 cY b .u64 (b8.add 4) fun g=>
 cY b .u64 (b8.add 5) fun h=>
 Y (.tuple #[.agg #[.int .u64 c,.int .i64 d,.int .i64 e,.int .i64 f,.int .u64 g,.int .u64 h],.bool true]) b) (cC a (b8.add 0) (.int .u64 0) fun a=>
 cC a (b8.add 1) (.int .i64 0) fun a=>
 cC a (b8.add 2) (.int .i64 0) fun a=>
 cC a (b8.add 3) (.int .i64 0) fun a=>
 cC a (b8.add 4) (.int .u64 0) fun a=>
 cC a (b8.add 5) (.int .u64 0) fun a=>
 cY a .u64 (b8.add 0) fun b=>
 cY a .i64 (b8.add 1) fun c=>
 cY a .i64 (b8.add 2) fun d=>
 cY a .i64 (b8.add 3) fun e=>
 cY a .u64 (b8.add 4) fun f=>
 cY a .u64 (b8.add 5) fun g=>
 Y (.tuple #[.agg #[.int .u64 b,.int .i64 c,.int .i64 d,.int .i64 e,.int .u64 f,.int .u64 g],.bool false]) a))
def aL.g(Y:aD)(X:Fr)(Z:U):Prop:=aW .i64 (X 0) fun aS=>aL.t Y aS Z
theorem aL.ok(Y:aD)(X:Fr)(Z:U)(g:aL.g Y X Z):den prog E aO (a8 E [.cell 2 59,.tmp 3] Y) X Z:=
 bB g fun aS a g=>bS [(0,.int .i64 aS)] ⟨a,trivial⟩ (by kernel_rfl) g
def t(aS:Int)(Z:U)(Y:aD):Prop:=aL.t Y aS Z
theorem ok{aS:Int}{Z:U}{Y:aD}(g:t aS Z Y):aY id #[.int .i64 aS] Z Y:=
 dL dI (c:=aO) (dC:=[.cell 2 59,.tmp 3]) Tryz.func25 (by kernel_rfl) (by kernel_rfl) (by kernel_rfl) (args:=[.int .i64 aS]) (by kernel_rfl) (aL.ok Y _ Z (bQ rfl (g)))
end uJ
namespace uK
noncomputable def aO:Code:=dK Tryz.f26
def aL.t(Y:aD)(a b:Int)(c d:Int)(e f aM:Int)(Z:U):Prop:=
 dN Z 59 [.int .u64 a,.int .i64 b,.int .i64 c,.int .i64 d,.int .u64 e,.int .u64 f] fun b8 a=>
 cY a .u64 (b8.add 0) fun b=>
 cY a .u64 (b8.add 0) fun c=>
 c ≠ 0∧a5 (Int.tmod aM c) fun c=>
 Y (.tuple #[.bool (decide (aM≥b)),.int .u64 c]) a
def aL.g(Y:aD)(X:Fr)(Z:U):Prop:=eG (X 0) fun a=>cQ a fun a b=>aW .u64 a fun a=>cQ b fun b c=>aW .i64 b fun b=>cQ c fun c d=>aW .i64 c fun c=>cQ d fun d e=>aW .i64 d fun d=>cQ e fun e f=>aW .u64 e fun e=>cQ f fun f h=>aW .u64 f fun f=>b5 h <| aW .u64 (X 1) fun aM=>aL.t Y a b c d e f aM Z
theorem aL.ok(Y:aD)(X:Fr)(Z:U)(g:aL.g Y X Z):den prog E aO (a8 E [.tmp 4,.tmp 5] Y) X Z:=by
 obtain⟨w,a,b⟩:=iJ g
 obtain⟨x,y,rfl,c⟩:=e7 b
 obtain⟨d,rfl,e⟩:=bN c
 obtain⟨z,A,rfl,f⟩:=e7 e
 obtain⟨h,rfl,i⟩:=bN f
 obtain⟨B,C,rfl,j⟩:=e7 i
 obtain⟨k,rfl,l⟩:=bN j
 obtain⟨D,F,rfl,m⟩:=e7 l
 obtain⟨n,rfl,o⟩:=bN m
 obtain⟨G,H,rfl,p⟩:=e7 o
 obtain⟨q,rfl,r⟩:=bN p
 obtain⟨I,J,rfl,s⟩:=e7 r
 obtain⟨t,rfl,u⟩:=bN s
 obtain⟨rfl,g⟩:=hU u
 obtain⟨aM,v,g⟩:=bN g
 exact bS [(0,.agg #[.int .u64 d,.int .i64 h,.int .i64 k,.int .i64 n,.int .u64 q,.int .u64 t]),(1,.int .u64 aM)] ⟨a,v,trivial⟩ (by kernel_rfl) g
def t(a b:Int)(c d:Int)(e f aM:Int)(Z:U)(Y:aD):Prop:=aL.t Y a b c d e f aM Z
theorem ok{a:Int}{b:Int}{d:Int}{e:Int}{f:Int}{h:Int}{aM:Int}{Z:U}{Y:aD}(g:t a b d e f h aM Z Y):aY id #[.agg #[.int .u64 a,.int .i64 b,.int .i64 d,.int .i64 e,.int .u64 f,.int .u64 h],.int .u64 aM] Z Y:=
 dL dI (c:=aO) (dC:=[.tmp 4,.tmp 5]) Tryz.func26 (by kernel_rfl) (by kernel_rfl) (by kernel_rfl) (args:=[.agg #[.int .u64 a,.int .i64 b,.int .i64 d,.int .i64 e,.int .u64 f,.int .u64 h],.int .u64 aM]) (by kernel_rfl) (aL.ok Y _ Z (e5 rfl (cF (bQ rfl (cF (bQ rfl (cF (bQ rfl (cF (bQ rfl (cF (bQ rfl (cF (bQ rfl (dR (bQ rfl (g)))))))))))))))))
end uK
namespace uL
noncomputable def aO:Code:=dK Tryz.f27
def aL.t(Y:aD)(a b:Int)(c d:Int)(e f aM:Int)(Z:U):Prop:=
 dN Z 59 [.int .u64 a,.int .i64 b,.int .i64 c,.int .i64 d,.int .u64 e,.int .u64 f] fun b8 a=>
 cY a .i64 (b8.add 1) fun b=>
 a5 (IntKind.i64.wrap (b - 1)) fun b=>
 0≤b∧a5 (h4 .u64 1 b) fun b=>
 b ≠ 0∧a5 (IntKind.u64.wrap (Int.tdiv aM b)) fun c=>
 b ≠ 0∧a5 (Int.tmod aM b) fun d=>
 cond (c == 0) (cY a .i64 (b8.add 2) fun e=>
 Y (.tuple #[.int .u64 d,.int .i64 e]) a) (a5 (IntKind.u64.wrap (b+d)) fun b=>
 cY a .i64 (b8.add 2) fun d=>
 a5 (IntKind.i64.wrap c) fun c=>
 a5 (IntKind.i64.wrap (d+c)) fun c=>
 a5 (IntKind.i64.wrap (c - 1)) fun c=>
 Y (.tuple #[.int .u64 b,.int .i64 c]) a)
def aL.g(Y:aD)(X:Fr)(Z:U):Prop:=eG (X 0) fun a=>cQ a fun a b=>aW .u64 a fun a=>cQ b fun b c=>aW .i64 b fun b=>cQ c fun c d=>aW .i64 c fun c=>cQ d fun d e=>aW .i64 d fun d=>cQ e fun e f=>aW .u64 e fun e=>cQ f fun f h=>aW .u64 f fun f=>b5 h <| aW .u64 (X 1) fun aM=>aL.t Y a b c d e f aM Z
theorem aL.ok(Y:aD)(X:Fr)(Z:U)(g:aL.g Y X Z):den prog E aO (a8 E [.tmp 4,.tmp 5] Y) X Z:=by
 obtain⟨w,a,b⟩:=iJ g
 obtain⟨x,y,rfl,c⟩:=e7 b
 obtain⟨d,rfl,e⟩:=bN c
 obtain⟨z,A,rfl,f⟩:=e7 e
 obtain⟨h,rfl,i⟩:=bN f
 obtain⟨B,C,rfl,j⟩:=e7 i
 obtain⟨k,rfl,l⟩:=bN j
 obtain⟨D,F,rfl,m⟩:=e7 l
 obtain⟨n,rfl,o⟩:=bN m
 obtain⟨G,H,rfl,p⟩:=e7 o
 obtain⟨q,rfl,r⟩:=bN p
 obtain⟨I,J,rfl,s⟩:=e7 r
 obtain⟨t,rfl,u⟩:=bN s
 obtain⟨rfl,g⟩:=hU u
 obtain⟨aM,v,g⟩:=bN g
 exact bS [(0,.agg #[.int .u64 d,.int .i64 h,.int .i64 k,.int .i64 n,.int .u64 q,.int .u64 t]),(1,.int .u64 aM)] ⟨a,v,trivial⟩ (by kernel_rfl) g
def t(a b:Int)(c d:Int)(e f aM:Int)(Z:U)(Y:aD):Prop:=aL.t Y a b c d e f aM Z
theorem ok{a:Int}{b:Int}{d:Int}{e:Int}{f:Int}{h:Int}{aM:Int}{Z:U}{Y:aD}(g:t a b d e f h aM Z Y):aY id #[.agg #[.int .u64 a,.int .i64 b,.int .i64 d,.int .i64 e,.int .u64 f,.int .u64 h],.int .u64 aM] Z Y:=
 dL dI (c:=aO) (dC:=[.tmp 4,.tmp 5]) Tryz.func27 (by kernel_rfl) (by kernel_rfl) (by kernel_rfl) (args:=[.agg #[.int .u64 a,.int .i64 b,.int .i64 d,.int .i64 e,.int .u64 f,.int .u64 h],.int .u64 aM]) (by kernel_rfl) (aL.ok Y _ Z (e5 rfl (cF (bQ rfl (cF (bQ rfl (cF (bQ rfl (cF (bQ rfl (cF (bQ rfl (cF (bQ rfl (dR (bQ rfl (g)))))))))))))))))
end uL
namespace j8
noncomputable def aO:Code:=dK Tryz.f29
def aL.t(Y:aD)(aS:Int)(Z:U):Prop:=
 cond (aS == 0) (Y (.slice none 0 0) Z) (dN Z 35 [.int .u64 aS] fun b8 a=>Y (.slice (some b8) 1 1) a)
def aL.g(Y:aD)(X:Fr)(Z:U):Prop:=aW .u64 (X 0) fun aS=>aL.t Y aS Z
theorem aL.ok(Y:aD)(X:Fr)(Z:U)(g:aL.g Y X Z):den prog E aO (a8 E [.tmp 2] Y) X Z:=
 bB g fun aS a g=>bS [(0,.int .u64 aS)] ⟨a,trivial⟩ (by kernel_rfl) g
def t(aS:Int)(Z:U)(Y:aD):Prop:=aL.t Y aS Z
theorem ok{aS:Int}{Z:U}{Y:aD}(g:t aS Z Y):aY id #[.int .u64 aS] Z Y:=
 dL dI (c:=aO) (dC:=[.tmp 2]) Tryz.func29 (by kernel_rfl) (by kernel_rfl) (by kernel_rfl) (args:=[.int .u64 aS]) (by kernel_rfl) (aL.ok Y _ Z (bQ rfl (g)))
end j8
namespace sK
noncomputable def aO:Code:=dK Tryz.f30
def aL.t(Y:aD)(a:M)(b c:Nat)(aM:Int)(bJ:M)(bZ bG:Nat)(Z:U):Prop:=
 aY jT.id #[.slice a b c,.int .u64 aM] Z fun a b=>
 cT a fun a=>
 cP a fun a c d e=>
 dJ e .i64 fun e f=>
 b5 f <| cond (e != 0) (Y (.tuple #[.slice none 0 0,.int .i64 e]) b) (aY iZ.id #[.slice a c d,.slice bJ bZ bG] b fun a b=>
 cT a fun a=>
 cP a fun a c d e=>
 dJ e .i64 fun e f=>
 b5 f <| Y (.tuple #[.slice a c d,.int .i64 e]) b)
def aL.g(Y:aD)(X:Fr)(Z:U):Prop:=aQ (X 0) fun a b c=>aW .u64 (X 1) fun aM=>aQ (X 2) fun bJ bZ bG=>aL.t Y a b c aM bJ bZ bG Z
theorem aL.ok(Y:aD)(X:Fr)(Z:U)(g:aL.g Y X Z):den prog E aO (a8 E [.tmp 6,.tmp 7] Y) X Z:=
 bD g fun a b c d g=>bB g fun aM e g=>bD g fun bJ bZ bG f g=>bS [(0,.slice a b c),(1,.int .u64 aM),(2,.slice bJ bZ bG)] ⟨d,e,f,trivial⟩ (by kernel_rfl) g
def t(a:M)(b c:Nat)(aM:Int)(bJ:M)(bZ bG:Nat)(Z:U)(Y:aD):Prop:=aL.t Y a b c aM bJ bZ bG Z
theorem ok{a:M}{b:Nat}{d:Nat}{aM:Int}{bJ:M}{bZ:Nat}{bG:Nat}{Z:U}{Y:aD}(g:t a b d aM bJ bZ bG Z Y):aY id #[.slice a b d,.int .u64 aM,.slice bJ bZ bG] Z Y:=
 dL dI (c:=aO) (dC:=[.tmp 6,.tmp 7]) Tryz.func30 (by kernel_rfl) (by kernel_rfl) (by kernel_rfl) (args:=[.slice a b d,.int .u64 aM,.slice bJ bZ bG]) (by kernel_rfl) (aL.ok Y _ Z (bE rfl (bQ rfl (bE rfl (g)))))
end sK
namespace tY
noncomputable def aO:Code:=dK Tryz.f31
def aL.t(Y:aD)(aS:Int)(Z:U):Prop:=
 a5 (IntKind.i64.wrap (aS+320)) fun dY=>
 aY pZ.id #[.int .i64 dY] Z fun a b=>
 cT a fun a=>
 cP a fun a c d e=>
 dJ e .i64 fun e f=>
 b5 f <| Y (.tuple #[.slice a c d,.int .i64 e]) b
def aL.g(Y:aD)(X:Fr)(Z:U):Prop:=aW .i64 (X 0) fun aS=>aL.t Y aS Z
theorem aL.ok(Y:aD)(X:Fr)(Z:U)(g:aL.g Y X Z):den prog E aO (a8 E [.tmp 2,.tmp 3] Y) X Z:=
 bB g fun aS a g=>bS [(0,.int .i64 aS)] ⟨a,trivial⟩ (by kernel_rfl) g
def t(aS:Int)(Z:U)(Y:aD):Prop:=aL.t Y aS Z
theorem ok{aS:Int}{Z:U}{Y:aD}(g:t aS Z Y):aY id #[.int .i64 aS] Z Y:=
 dL dI (c:=aO) (dC:=[.tmp 2,.tmp 3]) Tryz.func31 (by kernel_rfl) (by kernel_rfl) (by kernel_rfl) (args:=[.int .i64 aS]) (by kernel_rfl) (aL.ok Y _ Z (bQ rfl (g)))
end tY
namespace p4
noncomputable def aO:Code:=dK Tryz.f32
def a0.t(Y:aD)(aM a:Int)(b:M)(c d:Nat)(e:M)(f g:Nat)(Z:U):Prop:=
 a5 (IntKind.u64.wrap (a - aM)) fun a=>
 a5 (IntKind.u64.wrap (a+1)) fun a=>
 aY jX.id #[.agg #[.slice e f g,.slice b c d],.int .u64 a] Z fun a b=>
 cT a fun a=>
 dJ a .u64 fun a c=>
 cP c fun c d e f=>
 b5 f <| a5 (IntKind.u64.wrap (aM+a)) fun a=>
 Y (.tuple #[.int .u64 a,.slice c d e]) b
def a0.g(Y:aD)(X:Fr)(Z:U):Prop:=aW .u64 (X 1) fun aM=>aW .u64 (X 2) fun a=>aQ (X 10) fun b c d=>aQ (X 12) fun e f h=>a0.t Y aM a b c d e f h Z
theorem a0.ok(Y:aD)(X:Fr)(Z:U)(g:a0.g Y X Z):den prog E (a3 aO [W,W,W,W,W]) (a8 E [.tmp 8,.tmp 9] Y) X Z:=
 bB g fun aM a g=>bB g fun b c g=>bD g fun d e f h g=>bD g fun i j k l g=>bS [(1,.int .u64 aM),(2,.int .u64 b),(10,.slice d e f),(12,.slice i j k)] ⟨a,c,h,l,trivial⟩ (by kernel_rfl) g
def aL.t(Y:aD)(a:M)(b c:Nat)(aM d:Int)(gN:Bool)(Z:U):Prop:=
 aY oS.id #[.slice a b c,.int .i64 320] Z fun a b=>
 cT a fun a=>
 cP a fun a c e f=>
 dJ f .i64 fun f f=>
 b5 f <| aY jT.id #[.slice a c e,.int .u64 aM] b fun b f=>
 cT b fun b=>
 cP b fun b g h i=>
 dJ i .i64 fun i i=>
 b5 i <| aY oS.id #[.slice b g h,.int .i64 320] f fun b f=>
 cT b fun b=>
 cP b fun b g h i=>
 dJ i .i64 fun i i=>
 b5 i <| cond gN (aY r9.id #[.slice a c e] f fun i j=>
 aQ i fun i k l=>
 aY r9.id #[.slice b g h] j fun j m=>
 aQ j fun j n o=>
 a0.t Y aM d i k l j n o m) (a0.t Y aM d a c e b g h f)
def aL.g(Y:aD)(X:Fr)(Z:U):Prop:=aQ (X 0) fun a b c=>aW .u64 (X 1) fun aM=>aW .u64 (X 2) fun d=>eS (X 3) fun gN=>aL.t Y a b c aM d gN Z
theorem aL.ok(Y:aD)(X:Fr)(Z:U)(g:aL.g Y X Z):den prog E aO (a8 E [.tmp 8,.tmp 9] Y) X Z:=
 bD g fun a b c d g=>bB g fun aM e g=>bB g fun f h g=>w4 g fun gN i g=>c4 5 (r:=(a3 aO [W,W,W,W,W])) (by kernel_rfl) (a0.ok Y) (bS [(0,.slice a b c),(1,.int .u64 aM),(2,.int .u64 f),(3,.bool gN)] ⟨d,e,h,i,trivial⟩ (by kernel_rfl) g)
def t(a:M)(b c:Nat)(aM d:Int)(gN:Bool)(Z:U)(Y:aD):Prop:=aL.t Y a b c aM d gN Z
theorem ok{a:M}{b:Nat}{d:Nat}{aM:Int}{e:Int}{gN:Bool}{Z:U}{Y:aD}(g:t a b d aM e gN Z Y):aY id #[.slice a b d,.int .u64 aM,.int .u64 e,.bool gN] Z Y:=
 dL dI (c:=aO) (dC:=[.tmp 8,.tmp 9]) Tryz.func32 (by kernel_rfl) (by kernel_rfl) (by kernel_rfl) (args:=[.slice a b d,.int .u64 aM,.int .u64 e,.bool gN]) (by kernel_rfl) (aL.ok Y _ Z (bE rfl (bQ rfl (bQ rfl (c5 rfl (g))))))
end p4
namespace mU
noncomputable def aO:Code:=dK Tryz.f33
def a0.t(Y:aD)(aM:Int)(Z:U):Prop:=
 Y (.int .u64 aM) Z
def a0.g(Y:aD)(X:Fr)(Z:U):Prop:=aW .u64 (X 1) fun aM=>a0.t Y aM Z
theorem a0.ok(Y:aD)(X:Fr)(Z:U)(g:a0.g Y X Z):den prog E (a3 aO [W,W]) (a8 E [.tmp 6] Y) X Z:=
 bB g fun aM a g=>bS [(1,.int .u64 aM)] ⟨a,trivial⟩ (by kernel_rfl) g
def cK.g(a:M→Nat→Nat→Int→Int→U→Prop)(X:Fr)(Z:U):Prop:=aQ (X 0) fun b c d=>aW .u64 (X 1) fun aM=>aW .u64 (X 2) fun e=>a b c d aM e Z
def cE.t(Y:aD)(a:M→Nat→Nat→Int→Int→U→Prop)(b:M)(c d:Nat)(aM e:Int)(Z:U):Prop:=
 cond (decide (aM≤e)) (a5 (IntKind.u64.wrap (e - aM)) fun dY=>
 (2:Int) ≠ 0∧a5 (IntKind.u64.wrap (Int.tdiv dY 2)) fun f=>
 a5 (IntKind.u64.wrap (aM+f)) fun f=>
 aY sA.id #[.slice b c d,.int .u64 f,.bool false] Z fun g h=>
 aQ g fun g g i=>
 cond (decide ((((g:Nat):Int)) > 0)) (a5 (IntKind.u64.wrap (f - 1)) fun g=>
 a b c d aM g h) (a5 (IntKind.u64.wrap (f+1)) fun f=>
 a b c d f e h)) (a0.t Y aM Z)
def cE.g(Y:aD)(a:M→Nat→Nat→Int→Int→U→Prop)(X:Fr)(Z:U):Prop:=aQ (X 0) fun b c d=>aW .u64 (X 1) fun aM=>aW .u64 (X 2) fun e=>cE.t Y a b c d aM e Z
theorem cE.ok(Y:aD)(a:M→Nat→Nat→Int→Int→U→Prop)(X:Fr)(Z:U)(g:cE.g Y a X Z):den prog E (a3 aO [W,aT,aT,aT]) (a1.then (cK.g a) (a1.inBlock 0 (a1.then (a0.g Y) (a8 E [.tmp 6] Y)))) X Z:=
 bD g fun a b c d g=>bB g fun aM e g=>bB g fun f h g=>bS [(0,.slice a b c),(1,.int .u64 aM),(2,.int .u64 f)] ⟨d,e,h,trivial⟩ (by kernel_rfl) g
def cK.t(Y:aD):Nat→M→Nat→Nat→Int→Int→U→Prop
 | 0=>fun _ _ _ _ _ _=>False
 | n+1=>fun a b c aM d Z=>cE.t Y (cK.t Y n) a b c aM d Z
theorem cK.ok(Y:aD)(X:Fr)(Z:U)(g:cK.g (fun a b c aM d Z=>∃ n,cK.t Y n a b c aM d Z) X Z):den prog E (a3 aO [W,aT,aT]) (a1.inBlock 0 (a1.then (a0.g Y) (a8 E [.tmp 6] Y))) X Z:=by
 obtain⟨a,b,c,e,g⟩:=b4 g
 obtain⟨aM,f,g⟩:=bN g
 obtain⟨d,h,g⟩:=bN g
 obtain⟨n,g⟩:=g
 refine fK (fun n=>cK.g (cK.t Y n)) (L:=(a3 aO [W,aT,aT,aT])) (by kernel_rfl) (fun X Z g=>?_) (fun n=>cE.ok Y (cK.t Y n)) n X Z (bE e (bQ f (bQ h (g))))
 obtain⟨a,b,c,e,g⟩:=b4 g
 obtain⟨aM,f,g⟩:=bN g
 obtain⟨d,h,g⟩:=bN g
 exact g
theorem hR.ok(Y:aD)(X:Fr)(Z:U)(g:cK.g (fun a b c aM d Z=>∃ n,cK.t Y n a b c aM d Z) X Z):den prog E (a3 aO [W,aT]) (a1.then (a0.g Y) (a8 E [.tmp 6] Y)) X Z:=
 fC (by kernel_rfl) (cK.ok Y X Z g)
theorem q9.ok(Y:aD)(X:Fr)(Z:U)(g:cK.g (fun a b c aM d Z=>∃ n,cK.t Y n a b c aM d Z) X Z):den prog E (a3 aO [W]) (a8 E [.tmp 6] Y) X Z:=
 gA (by kernel_rfl) (a0.ok Y) (hR.ok Y X Z g)
def aL.t(Y:aD)(a:M)(b c:Nat)(aM d:Int)(Z:U):Prop:=
 (∃ n,cK.t Y n a b c aM d Z)
def aL.g(Y:aD)(X:Fr)(Z:U):Prop:=aQ (X 0) fun a b c=>aW .u64 (X 1) fun aM=>aW .u64 (X 2) fun d=>aL.t Y a b c aM d Z
theorem aL.ok(Y:aD)(X:Fr)(Z:U)(g:aL.g Y X Z):den prog E aO (a8 E [.tmp 6] Y) X Z:=
 bD g fun a b c d g=>bB g fun aM e g=>bB g fun f h g=>c4 1 (r:=(a3 aO [W])) (by kernel_rfl) (q9.ok Y) (bS [(0,.slice a b c),(1,.int .u64 aM),(2,.int .u64 f)] ⟨d,e,h,trivial⟩ (by kernel_rfl) g)
def t(a:M)(b c:Nat)(aM d:Int)(Z:U)(Y:aD):Prop:=aL.t Y a b c aM d Z
theorem ok{a:M}{b:Nat}{d:Nat}{aM:Int}{e:Int}{Z:U}{Y:aD}(g:t a b d aM e Z Y):aY id #[.slice a b d,.int .u64 aM,.int .u64 e] Z Y:=
 dL dI (c:=aO) (dC:=[.tmp 6]) Tryz.func33 (by kernel_rfl) (by kernel_rfl) (by kernel_rfl) (args:=[.slice a b d,.int .u64 aM,.int .u64 e]) (by kernel_rfl) (aL.ok Y _ Z (bE rfl (bQ rfl (bQ rfl (g)))))
end mU
namespace iU
noncomputable def aO:Code:=dK Tryz.f34
def a0.t(Y:aD)(Z:U):Prop:=
 Y (.int .i64 0) Z
def a0.g(Y:aD)(X:Fr)(Z:U):Prop:=a0.t Y  Z
theorem a0.ok(Y:aD)(X:Fr)(Z:U)(g:a0.g Y X Z):den prog E (a3 aO [W,W,W,W]) (a8 E [.tmp 4] Y) X Z:=
 bS [] trivial (by kernel_rfl) g
def bL.g(a:M→Nat→Nat→M→Nat→Nat→Int→U→Prop)(X:Fr)(Z:U):Prop:=aQ (X 5) fun bP b bO=>aQ (X 6) fun a7 c a9=>aW .i64 (X 7) fun d=>a bP b bO a7 c a9 d Z
def b7.t(Y:aD)(a:M→Nat→Nat→M→Nat→Nat→Int→U→Prop)(bP:M)(b bO:Nat)(a7:M)(c a9:Nat)(d:Int)(Z:U):Prop:=
 cond (decide (d≥0)) (c7 bP b d 1 fun e=>
 cY Z .u64 e fun e=>
 c7 a7 c d 1 fun f=>
 cY Z .u64 f fun f=>
 cond (e != f) (c7 bP b d 1 fun e=>
 cY Z .u64 e fun e=>
 c7 a7 c d 1 fun f=>
 cY Z .u64 f fun f=>
 cond (decide (e < f)) (Y (.int .i64 (-1)) Z) (Y (.int .i64 1) Z)) (a5 (IntKind.i64.wrap (d - 1)) fun d=>
 a bP b bO a7 c a9 d Z)) (a0.t Y Z)
def b7.g(Y:aD)(a:M→Nat→Nat→M→Nat→Nat→Int→U→Prop)(X:Fr)(Z:U):Prop:=aQ (X 5) fun bP b bO=>aQ (X 6) fun a7 c a9=>aW .i64 (X 7) fun d=>b7.t Y a bP b bO a7 c a9 d Z
theorem b7.ok(Y:aD)(a:M→Nat→Nat→M→Nat→Nat→Int→U→Prop)(X:Fr)(Z:U)(g:b7.g Y a X Z):den prog E (a3 aO [W,W,W,aT,W,aT,aT]) (a1.then (bL.g a) (a1.inBlock 0 (a1.then (a0.g Y) (a8 E [.tmp 4] Y)))) X Z:=
 bD g fun bP a bO b g=>bD g fun a7 c a9 d g=>bB g fun e f g=>bS [(5,.slice bP a bO),(6,.slice a7 c a9),(7,.int .i64 e)] ⟨b,d,f,trivial⟩ (by kernel_rfl) g
def bL.t(Y:aD):Nat→M→Nat→Nat→M→Nat→Nat→Int→U→Prop
 | 0=>fun _ _ _ _ _ _ _ _=>False
 | n+1=>fun bP a bO a7 b a9 c Z=>b7.t Y (bL.t Y n) bP a bO a7 b a9 c Z
theorem bL.ok(Y:aD)(X:Fr)(Z:U)(g:bL.g (fun bP a bO a7 b a9 c Z=>∃ n,bL.t Y n bP a bO a7 b a9 c Z) X Z):den prog E (a3 aO [W,W,W,aT,W,aT]) (a1.inBlock 0 (a1.then (a0.g Y) (a8 E [.tmp 4] Y))) X Z:=by
 obtain⟨bP,a,bO,d,g⟩:=b4 g
 obtain⟨a7,b,a9,e,g⟩:=b4 g
 obtain⟨c,f,g⟩:=bN g
 obtain⟨n,g⟩:=g
 refine fK (fun n=>bL.g (bL.t Y n)) (L:=(a3 aO [W,W,W,aT,W,aT,aT])) (by kernel_rfl) (fun X Z g=>?_) (fun n=>b7.ok Y (bL.t Y n)) n X Z (bE d (bE e (bQ f (g))))
 obtain⟨bP,a,bO,d,g⟩:=b4 g
 obtain⟨a7,b,a9,e,g⟩:=b4 g
 obtain⟨c,f,g⟩:=bN g
 exact g
theorem g3.ok(Y:aD)(X:Fr)(Z:U)(g:bL.g (fun bP a bO a7 b a9 c Z=>∃ n,bL.t Y n bP a bO a7 b a9 c Z) X Z):den prog E (a3 aO [W,W,W,aT,W]) (a1.then (a0.g Y) (a8 E [.tmp 4] Y)) X Z:=
 fC (by kernel_rfl) (bL.ok Y X Z g)
def bF.t(Y:aD)(bP:M)(a bO:Nat)(a7:M)(b a9:Nat)(Z:U):Prop:=
 a5 (IntKind.i64.wrap ((((a:Nat):Int)) - 1)) fun c=>(∃ n,bL.t Y n bP a bO a7 b a9 c Z)
def bF.g(Y:aD)(X:Fr)(Z:U):Prop:=aQ (X 5) fun bP a bO=>aQ (X 6) fun a7 b a9=>bF.t Y bP a bO a7 b a9 Z
theorem bF.ok(Y:aD)(X:Fr)(Z:U)(g:bF.g Y X Z):den prog E (a3 aO [W,W,W,aT]) (a1.then (a0.g Y) (a8 E [.tmp 4] Y)) X Z:=
 bD g fun bP a bO b g=>bD g fun a7 c a9 d g=>c4 1 (r:=(a3 aO [W,W,W,aT,W])) (by kernel_rfl) (g3.ok Y) (bS [(5,.slice bP a bO),(6,.slice a7 c a9)] ⟨b,d,trivial⟩ (by kernel_rfl) g)
theorem g4.ok(Y:aD)(X:Fr)(Z:U)(g:bF.g Y X Z):den prog E (a3 aO [W,W,W]) (a8 E [.tmp 4] Y) X Z:=
 gA (by kernel_rfl) (a0.ok Y) (bF.ok Y X Z g)
def aL.t(Y:aD)(a:M)(b c:Nat)(aJ:M)(aI aG:Nat)(Z:U):Prop:=
 aY lT.id #[.slice a b c] Z fun a b=>
 aQ a fun a c d=>
 aY lT.id #[.slice aJ aI aG] b fun b e=>
 aQ b fun b f g=>
 cond ((((c:Nat):Int)) != (((f:Nat):Int))) (cond (decide ((((c:Nat):Int)) < (((f:Nat):Int)))) (Y (.int .i64 (-1)) e) (Y (.int .i64 1) e)) (bF.t Y a c d b f g e)
def aL.g(Y:aD)(X:Fr)(Z:U):Prop:=aQ (X 0) fun a b c=>aQ (X 1) fun aJ aI aG=>aL.t Y a b c aJ aI aG Z
theorem aL.ok(Y:aD)(X:Fr)(Z:U)(g:aL.g Y X Z):den prog E aO (a8 E [.tmp 4] Y) X Z:=
 bD g fun a b c d g=>bD g fun aJ aI aG e g=>c4 3 (r:=(a3 aO [W,W,W])) (by kernel_rfl) (g4.ok Y) (bS [(0,.slice a b c),(1,.slice aJ aI aG)] ⟨d,e,trivial⟩ (by kernel_rfl) g)
def t(a:M)(b c:Nat)(aJ:M)(aI aG:Nat)(Z:U)(Y:aD):Prop:=aL.t Y a b c aJ aI aG Z
theorem ok{a:M}{b:Nat}{d:Nat}{aJ:M}{aI:Nat}{aG:Nat}{Z:U}{Y:aD}(g:t a b d aJ aI aG Z Y):aY id #[.slice a b d,.slice aJ aI aG] Z Y:=
 dL dI (c:=aO) (dC:=[.tmp 4]) Tryz.func34 (by kernel_rfl) (by kernel_rfl) (by kernel_rfl) (args:=[.slice a b d,.slice aJ aI aG]) (by kernel_rfl) (aL.ok Y _ Z (bE rfl (bE rfl (g))))
end iU
namespace sA
noncomputable def aO:Code:=dK Tryz.f35
def aL.t(Y:aD)(a:M)(b c:Nat)(aM:Int)(eM:Bool)(Z:U):Prop:=
 aY jT.id #[.slice a b c,.int .u64 aM] Z fun a b=>
 cT a fun a=>
 cP a fun a c d e=>
 dJ e .i64 fun e e=>
 b5 e <| aY kV.id #[.slice a c d,.int .i64 320] b fun a b=>
 cT a fun a=>
 cP a fun a c d e=>
 dJ e .i64 fun e e=>
 b5 e <| cond eM (aY j8.id #[.int .u64 1] b fun e f=>
 aQ e fun e g h=>
 aY iZ.id #[.slice a c d,.slice e g h] f fun e f=>
 cT e fun e=>
 cP e fun e g h i=>
 dJ i .i64 fun i i=>
 b5 i <| Y (.slice e g h) f) (Y (.slice a c d) b)
def aL.g(Y:aD)(X:Fr)(Z:U):Prop:=aQ (X 0) fun a b c=>aW .u64 (X 1) fun aM=>eS (X 2) fun eM=>aL.t Y a b c aM eM Z
theorem aL.ok(Y:aD)(X:Fr)(Z:U)(g:aL.g Y X Z):den prog E aO (a8 E [.tmp 6] Y) X Z:=
 bD g fun a b c d g=>bB g fun aM e g=>w4 g fun eM f g=>bS [(0,.slice a b c),(1,.int .u64 aM),(2,.bool eM)] ⟨d,e,f,trivial⟩ (by kernel_rfl) g
def t(a:M)(b c:Nat)(aM:Int)(eM:Bool)(Z:U)(Y:aD):Prop:=aL.t Y a b c aM eM Z
theorem ok{a:M}{b:Nat}{d:Nat}{aM:Int}{eM:Bool}{Z:U}{Y:aD}(g:t a b d aM eM Z Y):aY id #[.slice a b d,.int .u64 aM,.bool eM] Z Y:=
 dL dI (c:=aO) (dC:=[.tmp 6]) Tryz.func35 (by kernel_rfl) (by kernel_rfl) (by kernel_rfl) (args:=[.slice a b d,.int .u64 aM,.bool eM]) (by kernel_rfl) (aL.ok Y _ Z (bE rfl (bQ rfl (c5 rfl (g)))))
end sA
namespace qZ
noncomputable def aO:Code:=dK Tryz.f36
def dA.g(a:Int→Int→M→Nat→Nat→Int→U→Prop)(X:Fr)(Z:U):Prop:=aW .u64 (X 0) fun aS=>aW .i64 (X 1) fun aM=>aQ (X 2) fun bJ bZ bG=>aW .i64 (X 7) fun b=>a aS aM bJ bZ bG b Z
def bF.t(Y:aD)(bX:Int→Int→M→Nat→Nat→Int→U→Prop)(aS aM:Int)(bJ:M)(bZ bG:Nat)(a:Int)(Z:U):Prop:=
 aY oY.id #[.int .i64 a] Z fun b c=>
 cT b fun b=>
 cP b fun b d e f=>
 dJ f .i64 fun f f=>
 b5 f <| aY qQ.id #[.slice bJ bZ bG,.slice b d e] c fun b c=>
 cT b fun b=>
 cP b fun b d e f=>
 dJ f .i64 fun f f=>
 b5 f <| aY iZ.id #[.slice b d e,.slice bJ bZ bG] c fun c f=>
 cT c fun c=>
 cP c fun c g h i=>
 dJ i .i64 fun i i=>
 b5 i <| aY j8.id #[.int .u64 aS] f fun f i=>
 aQ f fun f j k=>
 a5 (IntKind.i64.wrap (aM+a)) fun l=>
 a5 (IntKind.i64.wrap (l+1)) fun l=>
 aY kN.id #[.slice f j k,.int .i64 l] i fun f i=>
 cT f fun f=>
 cP f fun f j k l=>
 dJ l .i64 fun l l=>
 b5 l <| aY p5.id #[.slice f j k,.slice b d e] i fun i l=>
 aQ i fun i m n=>
 aY p5.id #[.slice f j k,.slice c g h] l fun l o=>
 aQ l fun l p q=>
 cond (decide ((((m:Nat):Int)) > 0)) (cond (decide ((((p:Nat):Int)) > 0)) (aY oN.id #[.slice i m n] o fun r s=>
 aW .i64 r fun r=>
 aY oN.id #[.slice l p q] s fun l p=>
 aW .i64 l fun l=>
 cond (r == l) (aY iU.id #[.slice f j k,.slice b d e] p fun b d=>
 aW .i64 b fun b=>
 aY iU.id #[.slice f j k,.slice c g h] d fun c d=>
 aW .i64 c fun c=>
 cond (b == c) (a5 (IntKind.i64.wrap (a+2)) fun b=>
 aY oN.id #[.slice i m n] d fun c e=>
 aW .i64 c fun c=>
 a5 (IntKind.i64.wrap (b - c)) fun b=>
 Y (.int .i64 b) e) (a5 (IntKind.i64.wrap (a+1400)) fun b=>
 bX aS aM bJ bZ bG b d)) (a5 (IntKind.i64.wrap (a+1400)) fun b=>
 bX aS aM bJ bZ bG b p)) (a5 (IntKind.i64.wrap (a+1400)) fun b=>
 bX aS aM bJ bZ bG b o)) (a5 (IntKind.i64.wrap (a+1400)) fun a=>
 bX aS aM bJ bZ bG a o)
def bF.g(Y:aD)(bX:Int→Int→M→Nat→Nat→Int→U→Prop)(X:Fr)(Z:U):Prop:=aW .u64 (X 0) fun aS=>aW .i64 (X 1) fun aM=>aQ (X 2) fun bJ bZ bG=>aW .i64 (X 7) fun a=>bF.t Y bX aS aM bJ bZ bG a Z
theorem bF.ok(Y:aD)(bX:Int→Int→M→Nat→Nat→Int→U→Prop)(X:Fr)(Z:U)(g:bF.g Y bX X Z):den prog E (a3 aO [W,W,aT,aT]) (a1.then (dA.g bX) (a1.inBlock 0 (a8 E [.tmp 6] Y))) X Z:=
 bB g fun aS a g=>bB g fun aM b g=>bD g fun bJ bZ bG c g=>bB g fun d e g=>bS [(0,.int .u64 aS),(1,.int .i64 aM),(2,.slice bJ bZ bG),(7,.int .i64 d)] ⟨a,b,c,e,trivial⟩ (by kernel_rfl) g
def dA.t(Y:aD):Nat→Int→Int→M→Nat→Nat→Int→U→Prop
 | 0=>fun _ _ _ _ _ _ _=>False
 | n+1=>fun aS aM bJ bZ bG a Z=>bF.t Y (dA.t Y n) aS aM bJ bZ bG a Z
theorem dA.ok(Y:aD)(X:Fr)(Z:U)(g:dA.g (fun aS aM bJ bZ bG a Z=>∃ n,dA.t Y n aS aM bJ bZ bG a Z) X Z):den prog E (a3 aO [W,W,aT]) (a1.inBlock 0 (a8 E [.tmp 6] Y)) X Z:=by
 obtain⟨aS,b,g⟩:=bN g
 obtain⟨aM,c,g⟩:=bN g
 obtain⟨bJ,bZ,bG,d,g⟩:=b4 g
 obtain⟨a,e,g⟩:=bN g
 obtain⟨n,g⟩:=g
 refine fK (fun n=>dA.g (dA.t Y n)) (L:=(a3 aO [W,W,aT,aT])) (by kernel_rfl) (fun X Z g=>?_) (fun n=>bF.ok Y (dA.t Y n)) n X Z (bQ b (bQ c (bE d (bQ e (g)))))
 obtain⟨aS,b,g⟩:=bN g
 obtain⟨aM,c,g⟩:=bN g
 obtain⟨bJ,bZ,bG,d,g⟩:=b4 g
 obtain⟨a,e,g⟩:=bN g
 exact g
theorem fN.ok(Y:aD)(X:Fr)(Z:U)(g:dA.g (fun aS aM bJ bZ bG a Z=>∃ n,dA.t Y n aS aM bJ bZ bG a Z) X Z):den prog E (a3 aO [W,W]) (a8 E [.tmp 6] Y) X Z:=
 fC (by kernel_rfl) (dA.ok Y X Z g)
def aL.t(Y:aD)(aS aM:Int)(bJ:M)(bZ bG:Nat)(Z:U):Prop:=
 (∃ n,dA.t Y n aS aM bJ bZ bG 1400 Z)
def aL.g(Y:aD)(X:Fr)(Z:U):Prop:=aW .u64 (X 0) fun aS=>aW .i64 (X 1) fun aM=>aQ (X 2) fun bJ bZ bG=>aL.t Y aS aM bJ bZ bG Z
theorem aL.ok(Y:aD)(X:Fr)(Z:U)(g:aL.g Y X Z):den prog E aO (a8 E [.tmp 6] Y) X Z:=
 bB g fun aS a g=>bB g fun aM b g=>bD g fun bJ bZ bG c g=>c4 2 (r:=(a3 aO [W,W])) (by kernel_rfl) (fN.ok Y) (bS [(0,.int .u64 aS),(1,.int .i64 aM),(2,.slice bJ bZ bG)] ⟨a,b,c,trivial⟩ (by kernel_rfl) g)
def t(aS aM:Int)(bJ:M)(bZ bG:Nat)(Z:U)(Y:aD):Prop:=aL.t Y aS aM bJ bZ bG Z
theorem ok{aS:Int}{aM:Int}{bJ:M}{bZ:Nat}{bG:Nat}{Z:U}{Y:aD}(g:t aS aM bJ bZ bG Z Y):aY id #[.int .u64 aS,.int .i64 aM,.slice bJ bZ bG] Z Y:=
 dL dI (c:=aO) (dC:=[.tmp 6]) Tryz.func36 (by kernel_rfl) (by kernel_rfl) (by kernel_rfl) (args:=[.int .u64 aS,.int .i64 aM,.slice bJ bZ bG]) (by kernel_rfl) (aL.ok Y _ Z (bQ rfl (bQ rfl (bE rfl (g)))))
end qZ
namespace kQ
noncomputable def aO:Code:=dK Tryz.f37
def dA.g(a:Int→Int→U→Prop)(X:Fr)(Z:U):Prop:=aW .i64 (X 0) fun aS=>aW .i64 (X 3) fun b=>a aS b Z
def bF.t(Y:aD)(bX:Int→Int→U→Prop)(aS a:Int)(Z:U):Prop:=
 a5 (IntKind.i64.wrap (a*2)) fun a=>bX aS a Z
def bF.g(Y:aD)(bX:Int→Int→U→Prop)(X:Fr)(Z:U):Prop:=aW .i64 (X 0) fun aS=>aW .i64 (X 3) fun a=>bF.t Y bX aS a Z
theorem bF.ok(Y:aD)(bX:Int→Int→U→Prop)(X:Fr)(Z:U)(g:bF.g Y bX X Z):den prog E (a3 aO [W,W,aT,aT,W]) (a1.then (dA.g bX) (a1.inBlock 0 (a8 E [.tmp 2] Y))) X Z:=
 bB g fun aS a g=>bB g fun b c g=>bS [(0,.int .i64 aS),(3,.int .i64 b)] ⟨a,c,trivial⟩ (by kernel_rfl) g
def b7.t(Y:aD)(bX:Int→Int→U→Prop)(aS a:Int)(b0:M)(b b2:Nat)(Z:U):Prop:=
 cond ((((b:Nat):Int)) == aS) (Y (.slice b0 b b2) Z) (bF.t Y bX aS a Z)
def b7.g(Y:aD)(bX:Int→Int→U→Prop)(X:Fr)(Z:U):Prop:=aW .i64 (X 0) fun aS=>aW .i64 (X 3) fun a=>aQ (X 7) fun b0 b b2=>b7.t Y bX aS a b0 b b2 Z
theorem b7.ok(Y:aD)(bX:Int→Int→U→Prop)(X:Fr)(Z:U)(g:b7.g Y bX X Z):den prog E (a3 aO [W,W,aT,aT,aT,aT,W,W,W,W,W]) (a1.inBlock 1 (a1.then (bF.g Y bX) (a1.then (dA.g bX) (a1.inBlock 0 (a8 E [.tmp 2] Y))))) X Z:=
 bB g fun aS a g=>bB g fun b c g=>bD g fun b0 d b2 e g=>bS [(0,.int .i64 aS),(3,.int .i64 b),(7,.slice b0 d b2)] ⟨a,c,e,trivial⟩ (by kernel_rfl) g
def fS.g(a:Int→Int→M→Nat→Nat→M→Nat→Nat→M→Nat→Nat→Int→U→Prop)(X:Fr)(Z:U):Prop:=aW .i64 (X 0) fun aS=>aW .i64 (X 3) fun b=>aQ (X 5) fun bP c bO=>aQ (X 6) fun a7 d a9=>aQ (X 7) fun b0 e b2=>aW .i64 (X 8) fun f=>a aS b bP c bO a7 d a9 b0 e b2 f Z
def gK.t(Y:aD)(bX:Int→Int→U→Prop)(a:Int→Int→M→Nat→Nat→M→Nat→Nat→M→Nat→Nat→Int→U→Prop)(aS b:Int)(bP:M)(c bO:Nat)(a7:M)(d a9:Nat)(b0:M)(e b2:Nat)(f:Int)(Z:U):Prop:=
 c7 bP c f 1 fun g=>
 dO Z g fun g h i=>
 aY qL.id #[.slice g h i] Z fun g h=>
 cT g fun g=>
 dJ g .u64 fun g i=>
 fH i fun i i=>
 b5 i <| dN h 35 [.int .u64 g] fun g h=>
 hF h 35 j6 b0 e b2 (.slice (some g) 1 1) fun e g h i=>
 a5 (IntKind.i64.wrap (f+1)) fun f=>
 a aS b bP c bO a7 d a9 e g h f i
def gK.g(Y:aD)(bX:Int→Int→U→Prop)(a:Int→Int→M→Nat→Nat→M→Nat→Nat→M→Nat→Nat→Int→U→Prop)(X:Fr)(Z:U):Prop:=aW .i64 (X 0) fun aS=>aW .i64 (X 3) fun b=>aQ (X 5) fun bP c bO=>aQ (X 6) fun a7 d a9=>aQ (X 7) fun b0 e b2=>aW .i64 (X 8) fun f=>gK.t Y bX a aS b bP c bO a7 d a9 b0 e b2 f Z
theorem gK.ok(Y:aD)(bX:Int→Int→U→Prop)(a:Int→Int→M→Nat→Nat→M→Nat→Nat→M→Nat→Nat→Int→U→Prop)(X:Fr)(Z:U)(g:gK.g Y bX a X Z):den prog E (a3 aO [W,W,aT,aT,aT,aT,W,W,W,W,aT,W,aT,aT,W]) (a1.then (fS.g a) (a1.inBlock 2 (a1.then (b7.g Y bX) (a1.inBlock 1 (a1.then (bF.g Y bX) (a1.then (dA.g bX) (a1.inBlock 0 (a8 E [.tmp 2] Y)))))))) X Z:=
 bB g fun aS a g=>bB g fun b c g=>bD g fun bP d bO e g=>bD g fun a7 f a9 h g=>bD g fun b0 i b2 j g=>bB g fun k l g=>bS [(0,.int .i64 aS),(3,.int .i64 b),(5,.slice bP d bO),(6,.slice a7 f a9),(7,.slice b0 i b2),(8,.int .i64 k)] ⟨a,c,e,h,j,l,trivial⟩ (by kernel_rfl) g
def eW.t(Y:aD)(bX:Int→Int→U→Prop)(a:Int→Int→M→Nat→Nat→M→Nat→Nat→M→Nat→Nat→Int→U→Prop)(aS b:Int)(bP:M)(c bO:Nat)(a7:M)(d a9:Nat)(b0:M)(e b2:Nat)(f:Int)(Z:U):Prop:=
 a5 (IntKind.i64.wrap (f+1)) fun g=>
 cond (decide (g < (((c:Nat):Int)))) (a5 (IntKind.i64.wrap (f+1)) fun g=>
 cond (decide (g < (((d:Nat):Int)))) (cond (decide ((((e:Nat):Int)) < aS)) (c7 bP c f 1 fun g=>
 dO Z g fun g h i=>
 c7 a7 d f 1 fun j=>
 dO Z j fun j k l=>
 aY hZ.id #[.slice g h i,.slice j k l] Z fun g h=>
 aW .i64 g fun g=>
 cond (g == 0) (gK.t Y bX a aS b bP c bO a7 d a9 b0 e b2 f h) (b7.t Y bX aS b b0 e b2 h)) (b7.t Y bX aS b b0 e b2 Z)) (b7.t Y bX aS b b0 e b2 Z)) (b7.t Y bX aS b b0 e b2 Z)
def eW.g(Y:aD)(bX:Int→Int→U→Prop)(a:Int→Int→M→Nat→Nat→M→Nat→Nat→M→Nat→Nat→Int→U→Prop)(X:Fr)(Z:U):Prop:=aW .i64 (X 0) fun aS=>aW .i64 (X 3) fun b=>aQ (X 5) fun bP c bO=>aQ (X 6) fun a7 d a9=>aQ (X 7) fun b0 e b2=>aW .i64 (X 8) fun f=>eW.t Y bX a aS b bP c bO a7 d a9 b0 e b2 f Z
theorem eW.ok(Y:aD)(bX:Int→Int→U→Prop)(a:Int→Int→M→Nat→Nat→M→Nat→Nat→M→Nat→Nat→Int→U→Prop)(X:Fr)(Z:U)(g:eW.g Y bX a X Z):den prog E (a3 aO [W,W,aT,aT,aT,aT,W,W,W,W,aT,W,aT,aT]) (a1.then (fS.g a) (a1.inBlock 2 (a1.then (b7.g Y bX) (a1.inBlock 1 (a1.then (bF.g Y bX) (a1.then (dA.g bX) (a1.inBlock 0 (a8 E [.tmp 2] Y)))))))) X Z:=
 bB g fun aS b g=>bB g fun c d g=>bD g fun bP e bO f g=>bD g fun a7 h a9 i g=>bD g fun b0 j b2 k g=>bB g fun l m g=>c4 1 (r:=(a3 aO [W,W,aT,aT,aT,aT,W,W,W,W,aT,W,aT,aT,W])) (by kernel_rfl) (gK.ok Y bX a) (bS [(0,.int .i64 aS),(3,.int .i64 c),(5,.slice bP e bO),(6,.slice a7 h a9),(7,.slice b0 j b2),(8,.int .i64 l)] ⟨b,d,f,i,k,m,trivial⟩ (by kernel_rfl) g)
def fS.t(Y:aD)(bX:Int→Int→U→Prop):Nat→Int→Int→M→Nat→Nat→M→Nat→Nat→M→Nat→Nat→Int→U→Prop
 | 0=>fun _ _ _ _ _ _ _ _ _ _ _ _ _=>False
 | n+1=>fun aS a bP b bO a7 c a9 b0 d b2 e Z=>eW.t Y bX (fS.t Y bX n) aS a bP b bO a7 c a9 b0 d b2 e Z
theorem fS.ok(Y:aD)(bX:Int→Int→U→Prop)(X:Fr)(Z:U)(g:fS.g (fun aS a bP b bO a7 c a9 b0 d b2 e Z=>∃ n,fS.t Y bX n aS a bP b bO a7 c a9 b0 d b2 e Z) X Z):den prog E (a3 aO [W,W,aT,aT,aT,aT,W,W,W,W,aT,W,aT]) (a1.inBlock 2 (a1.then (b7.g Y bX) (a1.inBlock 1 (a1.then (bF.g Y bX) (a1.then (dA.g bX) (a1.inBlock 0 (a8 E [.tmp 2] Y))))))) X Z:=by
 obtain⟨aS,f,g⟩:=bN g
 obtain⟨a,h,g⟩:=bN g
 obtain⟨bP,b,bO,i,g⟩:=b4 g
 obtain⟨a7,c,a9,j,g⟩:=b4 g
 obtain⟨b0,d,b2,k,g⟩:=b4 g
 obtain⟨e,l,g⟩:=bN g
 obtain⟨n,g⟩:=g
 refine fK (fun n=>fS.g (fS.t Y bX n)) (L:=(a3 aO [W,W,aT,aT,aT,aT,W,W,W,W,aT,W,aT,aT])) (by kernel_rfl) (fun X Z g=>?_) (fun n=>eW.ok Y bX (fS.t Y bX n)) n X Z (bQ f (bQ h (bE i (bE j (bE k (bQ l (g)))))))
 obtain⟨aS,f,g⟩:=bN g
 obtain⟨a,h,g⟩:=bN g
 obtain⟨bP,b,bO,i,g⟩:=b4 g
 obtain⟨a7,c,a9,j,g⟩:=b4 g
 obtain⟨b0,d,b2,k,g⟩:=b4 g
 obtain⟨e,l,g⟩:=bN g
 exact g
theorem yJ.ok(Y:aD)(bX:Int→Int→U→Prop)(X:Fr)(Z:U)(g:fS.g (fun aS a bP b bO a7 c a9 b0 d b2 e Z=>∃ n,fS.t Y bX n aS a bP b bO a7 c a9 b0 d b2 e Z) X Z):den prog E (a3 aO [W,W,aT,aT,aT,aT,W,W,W,W,aT,W]) (a1.then (b7.g Y bX) (a1.inBlock 1 (a1.then (bF.g Y bX) (a1.then (dA.g bX) (a1.inBlock 0 (a8 E [.tmp 2] Y)))))) X Z:=
 fC (by kernel_rfl) (fS.ok Y bX X Z g)
def c8.t(Y:aD)(bX:Int→Int→U→Prop)(aS a:Int)(bP:M)(b bO:Nat)(a7:M)(c a9:Nat)(b0:M)(d b2:Nat)(Z:U):Prop:=
 (∃ n,fS.t Y bX n aS a bP b bO a7 c a9 b0 d b2 0 Z)
def c8.g(Y:aD)(bX:Int→Int→U→Prop)(X:Fr)(Z:U):Prop:=aW .i64 (X 0) fun aS=>aW .i64 (X 3) fun a=>aQ (X 5) fun bP b bO=>aQ (X 6) fun a7 c a9=>aQ (X 7) fun b0 d b2=>c8.t Y bX aS a bP b bO a7 c a9 b0 d b2 Z
theorem c8.ok(Y:aD)(bX:Int→Int→U→Prop)(X:Fr)(Z:U)(g:c8.g Y bX X Z):den prog E (a3 aO [W,W,aT,aT,aT,aT,W,W,W,W,aT]) (a1.then (b7.g Y bX) (a1.inBlock 1 (a1.then (bF.g Y bX) (a1.then (dA.g bX) (a1.inBlock 0 (a8 E [.tmp 2] Y)))))) X Z:=
 bB g fun aS a g=>bB g fun b c g=>bD g fun bP d bO e g=>bD g fun a7 f a9 h g=>bD g fun b0 i b2 j g=>c4 1 (r:=(a3 aO [W,W,aT,aT,aT,aT,W,W,W,W,aT,W])) (by kernel_rfl) (yJ.ok Y bX) (bS [(0,.int .i64 aS),(3,.int .i64 b),(5,.slice bP d bO),(6,.slice a7 f a9),(7,.slice b0 i b2)] ⟨a,c,e,h,j,trivial⟩ (by kernel_rfl) g)
theorem yK.ok(Y:aD)(bX:Int→Int→U→Prop)(X:Fr)(Z:U)(g:c8.g Y bX X Z):den prog E (a3 aO [W,W,aT,aT,aT,aT,W,W,W,W]) (a1.inBlock 1 (a1.then (bF.g Y bX) (a1.then (dA.g bX) (a1.inBlock 0 (a8 E [.tmp 2] Y))))) X Z:=
 gA (by kernel_rfl) (b7.ok Y bX) (c8.ok Y bX X Z g)
def cE.t(Y:aD)(bX:Int→Int→U→Prop)(aS a:Int)(Z:U):Prop:=
 aY oB.id #[.int .i64 a] Z fun b c=>
 aQ b fun b d e=>
 a5 (IntKind.i64.wrap (a+1)) fun f=>
 aY lL.id #[.int .i64 f] c fun c f=>
 aQ c fun c g h=>
 a5 (IntKind.i64.wrap (aS+2)) fun i=>
 aY lC.id #[.slice b d e,.slice c g h,.int .i64 i] f fun c f=>
 aQ c fun c g h=>
 aY gF.id #[.int .u64 1] f fun f i=>
 aQ f fun f j k=>
 aY gS.id #[.slice b d e,.slice f j k] i fun b d=>
 aQ b fun b e f=>
 a5 (IntKind.i64.wrap (a+1)) fun i=>
 aY lL.id #[.int .i64 i] d fun d i=>
 aQ d fun d j k=>
 a5 (IntKind.i64.wrap (aS+2)) fun l=>
 aY lC.id #[.slice b e f,.slice d j k,.int .i64 l] i fun b d=>
 aQ b fun b e f=>
 c8.t Y bX aS a c g h b e f none 0 0 d
def cE.g(Y:aD)(bX:Int→Int→U→Prop)(X:Fr)(Z:U):Prop:=aW .i64 (X 0) fun aS=>aW .i64 (X 3) fun a=>cE.t Y bX aS a Z
theorem cE.ok(Y:aD)(bX:Int→Int→U→Prop)(X:Fr)(Z:U)(g:cE.g Y bX X Z):den prog E (a3 aO [W,W,aT,aT,aT,aT]) (a1.inBlock 1 (a1.then (bF.g Y bX) (a1.then (dA.g bX) (a1.inBlock 0 (a8 E [.tmp 2] Y))))) X Z:=
 bB g fun aS a g=>bB g fun b c g=>c4 4 (r:=(a3 aO [W,W,aT,aT,aT,aT,W,W,W,W])) (by kernel_rfl) (yK.ok Y bX) (bS [(0,.int .i64 aS),(3,.int .i64 b)] ⟨a,c,trivial⟩ (by kernel_rfl) g)
theorem o9.ok(Y:aD)(bX:Int→Int→U→Prop)(X:Fr)(Z:U)(g:cE.g Y bX X Z):den prog E (a3 aO [W,W,aT,aT,aT]) (a1.then (bF.g Y bX) (a1.then (dA.g bX) (a1.inBlock 0 (a8 E [.tmp 2] Y)))) X Z:=
 fC (by kernel_rfl) (cE.ok Y bX X Z g)
theorem uN.ok(Y:aD)(bX:Int→Int→U→Prop)(X:Fr)(Z:U)(g:cE.g Y bX X Z):den prog E (a3 aO [W,W,aT,aT]) (a1.then (dA.g bX) (a1.inBlock 0 (a8 E [.tmp 2] Y))) X Z:=
 gA (by kernel_rfl) (bF.ok Y bX) (o9.ok Y bX X Z g)
def dA.t(Y:aD):Nat→Int→Int→U→Prop
 | 0=>fun _ _ _=>False
 | n+1=>fun aS a Z=>cE.t Y (dA.t Y n) aS a Z
theorem dA.ok(Y:aD)(X:Fr)(Z:U)(g:dA.g (fun aS a Z=>∃ n,dA.t Y n aS a Z) X Z):den prog E (a3 aO [W,W,aT]) (a1.inBlock 0 (a8 E [.tmp 2] Y)) X Z:=by
 obtain⟨aS,b,g⟩:=bN g
 obtain⟨a,c,g⟩:=bN g
 obtain⟨n,g⟩:=g
 refine fK (fun n=>dA.g (dA.t Y n)) (L:=(a3 aO [W,W,aT,aT])) (by kernel_rfl) (fun X Z g=>?_) (fun n=>uN.ok Y (dA.t Y n)) n X Z (bQ b (bQ c (g)))
 obtain⟨aS,b,g⟩:=bN g
 obtain⟨a,c,g⟩:=bN g
 exact g
theorem rA.ok(Y:aD)(X:Fr)(Z:U)(g:dA.g (fun aS a Z=>∃ n,dA.t Y n aS a Z) X Z):den prog E (a3 aO [W,W]) (a8 E [.tmp 2] Y) X Z:=
 fC (by kernel_rfl) (dA.ok Y X Z g)
def aL.t(Y:aD)(aS:Int)(Z:U):Prop:=
 a5 (IntKind.i64.wrap (4*aS)) fun dY=>a5 (IntKind.i64.wrap (dY+64)) fun a=>(∃ n,dA.t Y n aS a Z)
def aL.g(Y:aD)(X:Fr)(Z:U):Prop:=aW .i64 (X 0) fun aS=>aL.t Y aS Z
theorem aL.ok(Y:aD)(X:Fr)(Z:U)(g:aL.g Y X Z):den prog E aO (a8 E [.tmp 2] Y) X Z:=
 bB g fun aS a g=>c4 2 (r:=(a3 aO [W,W])) (by kernel_rfl) (rA.ok Y) (bS [(0,.int .i64 aS)] ⟨a,trivial⟩ (by kernel_rfl) g)
def t(aS:Int)(Z:U)(Y:aD):Prop:=aL.t Y aS Z
theorem ok{aS:Int}{Z:U}{Y:aD}(g:t aS Z Y):aY id #[.int .i64 aS] Z Y:=
 dL dI (c:=aO) (dC:=[.tmp 2]) Tryz.func37 (by kernel_rfl) (by kernel_rfl) (by kernel_rfl) (args:=[.int .i64 aS]) (by kernel_rfl) (aL.ok Y _ Z (bQ rfl (g)))
end kQ
namespace gF
noncomputable def aO:Code:=dK Tryz.f38
def aL.t(Y:aD)(aS:Int)(Z:U):Prop:=
 a5 (jE .u64 aS 4294967295) fun dY=>
 a5 (IntKind.u32.wrap dY) fun a=>
 0≤(32:Int)∧a5 (g6 .u64 aS 32) fun b=>
 a5 (IntKind.u32.wrap b) fun b=>
 dN Z 89 [.int .u32 a,.int .u32 b] fun a b=>
 aY gV.id #[.slice (some a) 2 2] b fun a b=>
 aQ a fun a c d=>
 Y (.slice a c d) b
def aL.g(Y:aD)(X:Fr)(Z:U):Prop:=aW .u64 (X 0) fun aS=>aL.t Y aS Z
theorem aL.ok(Y:aD)(X:Fr)(Z:U)(g:aL.g Y X Z):den prog E aO (a8 E [.tmp 2] Y) X Z:=
 bB g fun aS a g=>bS [(0,.int .u64 aS)] ⟨a,trivial⟩ (by kernel_rfl) g
def t(aS:Int)(Z:U)(Y:aD):Prop:=aL.t Y aS Z
theorem ok{aS:Int}{Z:U}{Y:aD}(g:t aS Z Y):aY id #[.int .u64 aS] Z Y:=
 dL dI (c:=aO) (dC:=[.tmp 2]) Tryz.func38 (by kernel_rfl) (by kernel_rfl) (by kernel_rfl) (args:=[.int .u64 aS]) (by kernel_rfl) (aL.ok Y _ Z (bQ rfl (g)))
end gF
namespace gS
noncomputable def aO:Code:=dK Tryz.f39
def a0.t(Y:aD)(bP:M)(a bO:Nat)(Z:U):Prop:=
 aY gV.id #[.slice bP a bO] Z fun a b=>
 aQ a fun a c d=>
 Y (.slice a c d) b
def a0.g(Y:aD)(X:Fr)(Z:U):Prop:=aQ (X 5) fun bP a bO=>a0.t Y bP a bO Z
theorem a0.ok(Y:aD)(X:Fr)(Z:U)(g:a0.g Y X Z):den prog E (a3 aO [W,W,W,W]) (a8 E [.tmp 4] Y) X Z:=
 bD g fun bP a bO b g=>bS [(5,.slice bP a bO)] ⟨b,trivial⟩ (by kernel_rfl) g
def bL.g(a:M→Nat→Nat→M→Nat→Nat→M→Nat→Nat→Int→Int→U→Prop)(X:Fr)(Z:U):Prop:=aQ (X 0) fun b c d=>aQ (X 1) fun aJ aI aG=>aQ (X 5) fun bP e bO=>aW .u64 (X 6) fun f=>aW .i64 (X 7) fun h=>a b c d aJ aI aG bP e bO f h Z
def c8.t(Y:aD)(a:M→Nat→Nat→M→Nat→Nat→M→Nat→Nat→Int→Int→U→Prop)(b:M)(c d:Nat)(aJ:M)(aI aG:Nat)(bP:M)(e bO:Nat)(f g:Int)(Z:U):Prop:=
 cond (decide (g < (((c:Nat):Int)))) (c7 b c g 1 fun h=>
 cY Z .u32 h fun h=>
 a5 (IntKind.u64.wrap h) fun h=>
 a5 (IntKind.u64.wrap (f+h)) fun h=>
 cond (decide (g < (((aI:Nat):Int)))) (c7 aJ aI g 1 fun i=>
 cY Z .u32 i fun i=>
 a5 (IntKind.u64.wrap i) fun i=>
 a5 (IntKind.u64.wrap (h+i)) fun i=>
 a5 (jE .u64 i 4294967295) fun j=>
 a5 (IntKind.u32.wrap j) fun j=>
 dN Z 89 [.int .u32 j] fun j k=>
 hF k 89 iG bP e bO (.slice (some j) 1 1) fun j k l m=>
 0≤(32:Int)∧a5 (g6 .u64 i 32) fun i=>
 a5 (IntKind.i64.wrap (g+1)) fun n=>
 a b c d aJ aI aG j k l i n m) (a5 (jE .u64 h 4294967295) fun i=>
 a5 (IntKind.u32.wrap i) fun i=>
 dN Z 89 [.int .u32 i] fun i j=>
 hF j 89 iG bP e bO (.slice (some i) 1 1) fun i j k l=>
 0≤(32:Int)∧a5 (g6 .u64 h 32) fun h=>
 a5 (IntKind.i64.wrap (g+1)) fun m=>
 a b c d aJ aI aG i j k h m l)) (cond (decide (g < (((aI:Nat):Int)))) (c7 aJ aI g 1 fun h=>
 cY Z .u32 h fun h=>
 a5 (IntKind.u64.wrap h) fun h=>
 a5 (IntKind.u64.wrap (f+h)) fun h=>
 a5 (jE .u64 h 4294967295) fun i=>
 a5 (IntKind.u32.wrap i) fun i=>
 dN Z 89 [.int .u32 i] fun i j=>
 hF j 89 iG bP e bO (.slice (some i) 1 1) fun i j k l=>
 0≤(32:Int)∧a5 (g6 .u64 h 32) fun h=>
 a5 (IntKind.i64.wrap (g+1)) fun m=>
 a b c d aJ aI aG i j k h m l) (a5 (jE .u64 f 4294967295) fun h=>
 a5 (IntKind.u32.wrap h) fun h=>
 dN Z 89 [.int .u32 h] fun h i=>
 hF i 89 iG bP e bO (.slice (some h) 1 1) fun e h i j=>
 0≤(32:Int)∧a5 (g6 .u64 f 32) fun f=>
 a5 (IntKind.i64.wrap (g+1)) fun g=>
 a b c d aJ aI aG e h i f g j))
def c8.g(Y:aD)(a:M→Nat→Nat→M→Nat→Nat→M→Nat→Nat→Int→Int→U→Prop)(X:Fr)(Z:U):Prop:=aQ (X 0) fun b c d=>aQ (X 1) fun aJ aI aG=>aQ (X 5) fun bP e bO=>aW .u64 (X 6) fun f=>aW .i64 (X 7) fun h=>c8.t Y a b c d aJ aI aG bP e bO f h Z
theorem c8.ok(Y:aD)(a:M→Nat→Nat→M→Nat→Nat→M→Nat→Nat→Int→Int→U→Prop)(X:Fr)(Z:U)(g:c8.g Y a X Z):den prog E (a3 aO [W,W,W,aT,W,aT,aT,W]) (a1.then (bL.g a) (a1.inBlock 0 (a1.then (a0.g Y) (a8 E [.tmp 4] Y)))) X Z:=
 bD g fun a b c d g=>bD g fun aJ aI aG e g=>bD g fun bP f bO h g=>bB g fun i j g=>bB g fun k l g=>bS [(0,.slice a b c),(1,.slice aJ aI aG),(5,.slice bP f bO),(6,.int .u64 i),(7,.int .i64 k)] ⟨d,e,h,j,l,trivial⟩ (by kernel_rfl) g
def b7.t(Y:aD)(a:M→Nat→Nat→M→Nat→Nat→M→Nat→Nat→Int→Int→U→Prop)(b:M)(c d:Nat)(aJ:M)(aI aG:Nat)(bP:M)(e bO:Nat)(f g:Int)(Z:U):Prop:=
 cond (decide (g < (((c:Nat):Int)))) (c8.t Y a b c d aJ aI aG bP e bO f g Z) (cond (decide (g < (((aI:Nat):Int)))) (c8.t Y a b c d aJ aI aG bP e bO f g Z) (cond (decide (f > 0)) (c8.t Y a b c d aJ aI aG bP e bO f g Z) (a0.t Y bP e bO Z)))
def b7.g(Y:aD)(a:M→Nat→Nat→M→Nat→Nat→M→Nat→Nat→Int→Int→U→Prop)(X:Fr)(Z:U):Prop:=aQ (X 0) fun b c d=>aQ (X 1) fun aJ aI aG=>aQ (X 5) fun bP e bO=>aW .u64 (X 6) fun f=>aW .i64 (X 7) fun h=>b7.t Y a b c d aJ aI aG bP e bO f h Z
theorem b7.ok(Y:aD)(a:M→Nat→Nat→M→Nat→Nat→M→Nat→Nat→Int→Int→U→Prop)(X:Fr)(Z:U)(g:b7.g Y a X Z):den prog E (a3 aO [W,W,W,aT,W,aT,aT]) (a1.then (bL.g a) (a1.inBlock 0 (a1.then (a0.g Y) (a8 E [.tmp 4] Y)))) X Z:=
 bD g fun b c d e g=>bD g fun aJ aI aG f g=>bD g fun bP h bO i g=>bB g fun j k g=>bB g fun l m g=>c4 1 (r:=(a3 aO [W,W,W,aT,W,aT,aT,W])) (by kernel_rfl) (c8.ok Y a) (bS [(0,.slice b c d),(1,.slice aJ aI aG),(5,.slice bP h bO),(6,.int .u64 j),(7,.int .i64 l)] ⟨e,f,i,k,m,trivial⟩ (by kernel_rfl) g)
def bL.t(Y:aD):Nat→M→Nat→Nat→M→Nat→Nat→M→Nat→Nat→Int→Int→U→Prop
 | 0=>fun _ _ _ _ _ _ _ _ _ _ _ _=>False
 | n+1=>fun a b c aJ aI aG bP d bO e f Z=>b7.t Y (bL.t Y n) a b c aJ aI aG bP d bO e f Z
theorem bL.ok(Y:aD)(X:Fr)(Z:U)(g:bL.g (fun a b c aJ aI aG bP d bO e f Z=>∃ n,bL.t Y n a b c aJ aI aG bP d bO e f Z) X Z):den prog E (a3 aO [W,W,W,aT,W,aT]) (a1.inBlock 0 (a1.then (a0.g Y) (a8 E [.tmp 4] Y))) X Z:=by
 obtain⟨a,b,c,h,g⟩:=b4 g
 obtain⟨aJ,aI,aG,i,g⟩:=b4 g
 obtain⟨bP,d,bO,j,g⟩:=b4 g
 obtain⟨e,k,g⟩:=bN g
 obtain⟨f,l,g⟩:=bN g
 obtain⟨n,g⟩:=g
 refine fK (fun n=>bL.g (bL.t Y n)) (L:=(a3 aO [W,W,W,aT,W,aT,aT])) (by kernel_rfl) (fun X Z g=>?_) (fun n=>b7.ok Y (bL.t Y n)) n X Z (bE h (bE i (bE j (bQ k (bQ l (g))))))
 obtain⟨a,b,c,h,g⟩:=b4 g
 obtain⟨aJ,aI,aG,i,g⟩:=b4 g
 obtain⟨bP,d,bO,j,g⟩:=b4 g
 obtain⟨e,k,g⟩:=bN g
 obtain⟨f,l,g⟩:=bN g
 exact g
theorem o7.ok(Y:aD)(X:Fr)(Z:U)(g:bL.g (fun a b c aJ aI aG bP d bO e f Z=>∃ n,bL.t Y n a b c aJ aI aG bP d bO e f Z) X Z):den prog E (a3 aO [W,W,W,aT,W]) (a1.then (a0.g Y) (a8 E [.tmp 4] Y)) X Z:=
 fC (by kernel_rfl) (bL.ok Y X Z g)
def bF.t(Y:aD)(a:M)(b c:Nat)(aJ:M)(aI aG:Nat)(bP:M)(d bO:Nat)(e:Int)(Z:U):Prop:=
 (∃ n,bL.t Y n a b c aJ aI aG bP d bO e 0 Z)
def bF.g(Y:aD)(X:Fr)(Z:U):Prop:=aQ (X 0) fun a b c=>aQ (X 1) fun aJ aI aG=>aQ (X 5) fun bP d bO=>aW .u64 (X 6) fun e=>bF.t Y a b c aJ aI aG bP d bO e Z
theorem bF.ok(Y:aD)(X:Fr)(Z:U)(g:bF.g Y X Z):den prog E (a3 aO [W,W,W,aT]) (a1.then (a0.g Y) (a8 E [.tmp 4] Y)) X Z:=
 bD g fun a b c d g=>bD g fun aJ aI aG e g=>bD g fun bP f bO h g=>bB g fun i j g=>c4 1 (r:=(a3 aO [W,W,W,aT,W])) (by kernel_rfl) (o7.ok Y) (bS [(0,.slice a b c),(1,.slice aJ aI aG),(5,.slice bP f bO),(6,.int .u64 i)] ⟨d,e,h,j,trivial⟩ (by kernel_rfl) g)
theorem o8.ok(Y:aD)(X:Fr)(Z:U)(g:bF.g Y X Z):den prog E (a3 aO [W,W,W]) (a8 E [.tmp 4] Y) X Z:=
 gA (by kernel_rfl) (a0.ok Y) (bF.ok Y X Z g)
def aL.t(Y:aD)(a:M)(b c:Nat)(aJ:M)(aI aG:Nat)(Z:U):Prop:=
 a5 (IntKind.i64.wrap ((if (((aI:Nat):Int)) > (((b:Nat):Int)) then(((aI:Nat):Int)) else(((b:Nat):Int)))+1)) fun dY=>
 iI Z 89 iG 0 dY fun e8 d=>
 bF.t Y a b c aJ aI aG (some e8) ((0:Int).toNat) dY.toNat 0 d
def aL.g(Y:aD)(X:Fr)(Z:U):Prop:=aQ (X 0) fun a b c=>aQ (X 1) fun aJ aI aG=>aL.t Y a b c aJ aI aG Z
theorem aL.ok(Y:aD)(X:Fr)(Z:U)(g:aL.g Y X Z):den prog E aO (a8 E [.tmp 4] Y) X Z:=
 bD g fun a b c d g=>bD g fun aJ aI aG e g=>c4 3 (r:=(a3 aO [W,W,W])) (by kernel_rfl) (o8.ok Y) (bS [(0,.slice a b c),(1,.slice aJ aI aG)] ⟨d,e,trivial⟩ (by kernel_rfl) g)
def t(a:M)(b c:Nat)(aJ:M)(aI aG:Nat)(Z:U)(Y:aD):Prop:=aL.t Y a b c aJ aI aG Z
theorem ok{a:M}{b:Nat}{d:Nat}{aJ:M}{aI:Nat}{aG:Nat}{Z:U}{Y:aD}(g:t a b d aJ aI aG Z Y):aY id #[.slice a b d,.slice aJ aI aG] Z Y:=
 dL dI (c:=aO) (dC:=[.tmp 4]) Tryz.func39 (by kernel_rfl) (by kernel_rfl) (by kernel_rfl) (args:=[.slice a b d,.slice aJ aI aG]) (by kernel_rfl) (aL.ok Y _ Z (bE rfl (bE rfl (g))))
end gS
namespace hG
noncomputable def aO:Code:=dK Tryz.f40
def a0.t(Y:aD)(bP:M)(a bO:Nat)(Z:U):Prop:=
 aY gV.id #[.slice bP a bO] Z fun a b=>
 aQ a fun a c d=>
 Y (.slice a c d) b
def a0.g(Y:aD)(X:Fr)(Z:U):Prop:=aQ (X 5) fun bP a bO=>a0.t Y bP a bO Z
theorem a0.ok(Y:aD)(X:Fr)(Z:U)(g:a0.g Y X Z):den prog E (a3 aO [W,W,W]) (a8 E [.tmp 4] Y) X Z:=
 bD g fun bP a bO b g=>bS [(5,.slice bP a bO)] ⟨b,trivial⟩ (by kernel_rfl) g
def bL.g(a:M→Nat→Nat→M→Nat→Nat→M→Nat→Nat→Int→U→Prop)(X:Fr)(Z:U):Prop:=aQ (X 0) fun b c d=>aQ (X 1) fun aJ aI aG=>aQ (X 5) fun bP e bO=>aW .i64 (X 6) fun f=>a b c d aJ aI aG bP e bO f Z
def c8.t(Y:aD)(a:M→Nat→Nat→M→Nat→Nat→M→Nat→Nat→Int→U→Prop)(b:M)(c d:Nat)(aJ:M)(aI aG:Nat)(bP:M)(e bO:Nat)(f:Int)(Z:U):Prop:=
 a5 (IntKind.i64.wrap (f+1)) fun f=>a b c d aJ aI aG bP e bO f Z
def c8.g(Y:aD)(a:M→Nat→Nat→M→Nat→Nat→M→Nat→Nat→Int→U→Prop)(X:Fr)(Z:U):Prop:=aQ (X 0) fun b c d=>aQ (X 1) fun aJ aI aG=>aQ (X 5) fun bP e bO=>aW .i64 (X 6) fun f=>c8.t Y a b c d aJ aI aG bP e bO f Z
theorem c8.ok(Y:aD)(a:M→Nat→Nat→M→Nat→Nat→M→Nat→Nat→Int→U→Prop)(X:Fr)(Z:U)(g:c8.g Y a X Z):den prog E (a3 aO [W,W,aT,W,aT,aT,W,W]) (a1.then (bL.g a) (a1.inBlock 0 (a1.then (a0.g Y) (a8 E [.tmp 4] Y)))) X Z:=
 bD g fun a b c d g=>bD g fun aJ aI aG e g=>bD g fun bP f bO h g=>bB g fun i j g=>bS [(0,.slice a b c),(1,.slice aJ aI aG),(5,.slice bP f bO),(6,.int .i64 i)] ⟨d,e,h,j,trivial⟩ (by kernel_rfl) g
def eW.t(Y:aD)(a:M→Nat→Nat→M→Nat→Nat→M→Nat→Nat→Int→U→Prop)(b:M)(c d:Nat)(aJ:M)(aI aG:Nat)(bP:M)(e bO:Nat)(f g:Int)(Z:U):Prop:=
 a5 (IntKind.i64.wrap (f+(((aI:Nat):Int)))) fun h=>
 a5 (IntKind.u32.wrap g) fun g=>
 c7 bP e h 1 fun h=>
 cC Z h (.int .u32 g) fun g=>
 c8.t Y a b c d aJ aI aG bP e bO f g
def eW.g(Y:aD)(a:M→Nat→Nat→M→Nat→Nat→M→Nat→Nat→Int→U→Prop)(X:Fr)(Z:U):Prop:=aQ (X 0) fun b c d=>aQ (X 1) fun aJ aI aG=>aQ (X 5) fun bP e bO=>aW .i64 (X 6) fun f=>aW .u64 (X 7) fun h=>eW.t Y a b c d aJ aI aG bP e bO f h Z
theorem eW.ok(Y:aD)(a:M→Nat→Nat→M→Nat→Nat→M→Nat→Nat→Int→U→Prop)(X:Fr)(Z:U)(g:eW.g Y a X Z):den prog E (a3 aO [W,W,aT,W,aT,aT,W,aT,aT,W,W,W]) (a1.inBlock 1 (a1.then (c8.g Y a) (a1.then (bL.g a) (a1.inBlock 0 (a1.then (a0.g Y) (a8 E [.tmp 4] Y)))))) X Z:=
 bD g fun a b c d g=>bD g fun aJ aI aG e g=>bD g fun bP f bO h g=>bB g fun i j g=>bB g fun k l g=>bS [(0,.slice a b c),(1,.slice aJ aI aG),(5,.slice bP f bO),(6,.int .i64 i),(7,.int .u64 k)] ⟨d,e,h,j,l,trivial⟩ (by kernel_rfl) g
def lF.g(a:M→Nat→Nat→M→Nat→Nat→M→Nat→Nat→Int→Int→Int→Int→U→Prop)(X:Fr)(Z:U):Prop:=aQ (X 0) fun b c d=>aQ (X 1) fun aJ aI aG=>aQ (X 5) fun bP e bO=>aW .i64 (X 6) fun f=>aW .u64 (X 7) fun h=>aW .u64 (X 8) fun i=>aW .i64 (X 9) fun j=>a b c d aJ aI aG bP e bO f h i j Z
def rO.t(Y:aD)(a:M→Nat→Nat→M→Nat→Nat→M→Nat→Nat→Int→U→Prop)(b:M→Nat→Nat→M→Nat→Nat→M→Nat→Nat→Int→Int→Int→Int→U→Prop)(c:M)(d e:Nat)(aJ:M)(aI aG:Nat)(bP:M)(f bO:Nat)(g h:Int)(i j:Int)(Z:U):Prop:=
 cond (decide (j < (((aI:Nat):Int)))) (a5 (IntKind.i64.wrap (g+j)) fun k=>
 c7 bP f k 1 fun k=>
 cY Z .u32 k fun k=>
 a5 (IntKind.u64.wrap k) fun k=>
 c7 aJ aI j 1 fun l=>
 cY Z .u32 l fun l=>
 a5 (IntKind.u64.wrap l) fun l=>
 a5 (IntKind.u64.wrap (i*l)) fun l=>
 a5 (IntKind.u64.wrap (k+l)) fun k=>
 a5 (IntKind.u64.wrap (h+k)) fun k=>
 a5 (IntKind.i64.wrap (g+j)) fun l=>
 a5 (jE .u64 k 4294967295) fun m=>
 a5 (IntKind.u32.wrap m) fun m=>
 c7 bP f l 1 fun l=>
 cC Z l (.int .u32 m) fun l=>
 0≤(32:Int)∧a5 (g6 .u64 k 32) fun k=>
 a5 (IntKind.i64.wrap (j+1)) fun j=>
 b c d e aJ aI aG bP f bO g k i j l) (eW.t Y a c d e aJ aI aG bP f bO g h Z)
def rO.g(Y:aD)(a:M→Nat→Nat→M→Nat→Nat→M→Nat→Nat→Int→U→Prop)(b:M→Nat→Nat→M→Nat→Nat→M→Nat→Nat→Int→Int→Int→Int→U→Prop)(X:Fr)(Z:U):Prop:=aQ (X 0) fun c d e=>aQ (X 1) fun aJ aI aG=>aQ (X 5) fun bP f bO=>aW .i64 (X 6) fun h=>aW .u64 (X 7) fun i=>aW .u64 (X 8) fun j=>aW .i64 (X 9) fun k=>rO.t Y a b c d e aJ aI aG bP f bO h i j k Z
theorem rO.ok(Y:aD)(a:M→Nat→Nat→M→Nat→Nat→M→Nat→Nat→Int→U→Prop)(b:M→Nat→Nat→M→Nat→Nat→M→Nat→Nat→Int→Int→Int→Int→U→Prop)(X:Fr)(Z:U)(g:rO.g Y a b X Z):den prog E (a3 aO [W,W,aT,W,aT,aT,W,aT,aT,W,W,aT,W,aT,aT]) (a1.then (lF.g b) (a1.inBlock 2 (a1.then (eW.g Y a) (a1.inBlock 1 (a1.then (c8.g Y a) (a1.then (bL.g a) (a1.inBlock 0 (a1.then (a0.g Y) (a8 E [.tmp 4] Y))))))))) X Z:=
 bD g fun a b c d g=>bD g fun aJ aI aG e g=>bD g fun bP f bO h g=>bB g fun i j g=>bB g fun k l g=>bB g fun m n g=>bB g fun o p g=>bS [(0,.slice a b c),(1,.slice aJ aI aG),(5,.slice bP f bO),(6,.int .i64 i),(7,.int .u64 k),(8,.int .u64 m),(9,.int .i64 o)] ⟨d,e,h,j,l,n,p,trivial⟩ (by kernel_rfl) g
def lF.t(Y:aD)(a:M→Nat→Nat→M→Nat→Nat→M→Nat→Nat→Int→U→Prop):Nat→M→Nat→Nat→M→Nat→Nat→M→Nat→Nat→Int→Int→Int→Int→U→Prop
 | 0=>fun _ _ _ _ _ _ _ _ _ _ _ _ _ _=>False
 | n+1=>fun b c d aJ aI aG bP e bO f g h i Z=>rO.t Y a (lF.t Y a n) b c d aJ aI aG bP e bO f g h i Z
theorem lF.ok(Y:aD)(a:M→Nat→Nat→M→Nat→Nat→M→Nat→Nat→Int→U→Prop)(X:Fr)(Z:U)(g:lF.g (fun b c d aJ aI aG bP e bO f h i j Z=>∃ n,lF.t Y a n b c d aJ aI aG bP e bO f h i j Z) X Z):den prog E (a3 aO [W,W,aT,W,aT,aT,W,aT,aT,W,W,aT,W,aT]) (a1.inBlock 2 (a1.then (eW.g Y a) (a1.inBlock 1 (a1.then (c8.g Y a) (a1.then (bL.g a) (a1.inBlock 0 (a1.then (a0.g Y) (a8 E [.tmp 4] Y)))))))) X Z:=by
 obtain⟨b,c,d,k,g⟩:=b4 g
 obtain⟨aJ,aI,aG,l,g⟩:=b4 g
 obtain⟨bP,e,bO,m,g⟩:=b4 g
 obtain⟨f,o,g⟩:=bN g
 obtain⟨h,p,g⟩:=bN g
 obtain⟨i,q,g⟩:=bN g
 obtain⟨j,r,g⟩:=bN g
 obtain⟨n,g⟩:=g
 refine fK (fun n=>lF.g (lF.t Y a n)) (L:=(a3 aO [W,W,aT,W,aT,aT,W,aT,aT,W,W,aT,W,aT,aT])) (by kernel_rfl) (fun X Z g=>?_) (fun n=>rO.ok Y a (lF.t Y a n)) n X Z (bE k (bE l (bE m (bQ o (bQ p (bQ q (bQ r (g))))))))
 obtain⟨b,c,d,k,g⟩:=b4 g
 obtain⟨aJ,aI,aG,l,g⟩:=b4 g
 obtain⟨bP,e,bO,m,g⟩:=b4 g
 obtain⟨f,o,g⟩:=bN g
 obtain⟨h,p,g⟩:=bN g
 obtain⟨i,q,g⟩:=bN g
 obtain⟨j,r,g⟩:=bN g
 exact g
theorem o9.ok(Y:aD)(a:M→Nat→Nat→M→Nat→Nat→M→Nat→Nat→Int→U→Prop)(X:Fr)(Z:U)(g:lF.g (fun b c d aJ aI aG bP e bO f h i j Z=>∃ n,lF.t Y a n b c d aJ aI aG bP e bO f h i j Z) X Z):den prog E (a3 aO [W,W,aT,W,aT,aT,W,aT,aT,W,W,aT,W]) (a1.then (eW.g Y a) (a1.inBlock 1 (a1.then (c8.g Y a) (a1.then (bL.g a) (a1.inBlock 0 (a1.then (a0.g Y) (a8 E [.tmp 4] Y))))))) X Z:=
 fC (by kernel_rfl) (lF.ok Y a X Z g)
def gK.t(Y:aD)(a:M→Nat→Nat→M→Nat→Nat→M→Nat→Nat→Int→U→Prop)(b:M)(c d:Nat)(aJ:M)(aI aG:Nat)(bP:M)(e bO:Nat)(f g h:Int)(Z:U):Prop:=
 (∃ n,lF.t Y a n b c d aJ aI aG bP e bO f g h 0 Z)
def gK.g(Y:aD)(a:M→Nat→Nat→M→Nat→Nat→M→Nat→Nat→Int→U→Prop)(X:Fr)(Z:U):Prop:=aQ (X 0) fun b c d=>aQ (X 1) fun aJ aI aG=>aQ (X 5) fun bP e bO=>aW .i64 (X 6) fun f=>aW .u64 (X 7) fun h=>aW .u64 (X 8) fun i=>gK.t Y a b c d aJ aI aG bP e bO f h i Z
theorem gK.ok(Y:aD)(a:M→Nat→Nat→M→Nat→Nat→M→Nat→Nat→Int→U→Prop)(X:Fr)(Z:U)(g:gK.g Y a X Z):den prog E (a3 aO [W,W,aT,W,aT,aT,W,aT,aT,W,W,aT]) (a1.then (eW.g Y a) (a1.inBlock 1 (a1.then (c8.g Y a) (a1.then (bL.g a) (a1.inBlock 0 (a1.then (a0.g Y) (a8 E [.tmp 4] Y))))))) X Z:=
 bD g fun b c d e g=>bD g fun aJ aI aG f g=>bD g fun bP h bO i g=>bB g fun j k g=>bB g fun l m g=>bB g fun n o g=>c4 1 (r:=(a3 aO [W,W,aT,W,aT,aT,W,aT,aT,W,W,aT,W])) (by kernel_rfl) (o9.ok Y a) (bS [(0,.slice b c d),(1,.slice aJ aI aG),(5,.slice bP h bO),(6,.int .i64 j),(7,.int .u64 l),(8,.int .u64 n)] ⟨e,f,i,k,m,o,trivial⟩ (by kernel_rfl) g)
theorem uN.ok(Y:aD)(a:M→Nat→Nat→M→Nat→Nat→M→Nat→Nat→Int→U→Prop)(X:Fr)(Z:U)(g:gK.g Y a X Z):den prog E (a3 aO [W,W,aT,W,aT,aT,W,aT,aT,W,W]) (a1.inBlock 1 (a1.then (c8.g Y a) (a1.then (bL.g a) (a1.inBlock 0 (a1.then (a0.g Y) (a8 E [.tmp 4] Y)))))) X Z:=
 gA (by kernel_rfl) (eW.ok Y a) (gK.ok Y a X Z g)
def e0.t(Y:aD)(a:M→Nat→Nat→M→Nat→Nat→M→Nat→Nat→Int→U→Prop)(b:M)(c d:Nat)(aJ:M)(aI aG:Nat)(bP:M)(e bO:Nat)(f:Int)(Z:U):Prop:=
 c7 b c f 1 fun g=>
 cY Z .u32 g fun g=>
 a5 (IntKind.u64.wrap g) fun g=>
 gK.t Y a b c d aJ aI aG bP e bO f 0 g Z
def e0.g(Y:aD)(a:M→Nat→Nat→M→Nat→Nat→M→Nat→Nat→Int→U→Prop)(X:Fr)(Z:U):Prop:=aQ (X 0) fun b c d=>aQ (X 1) fun aJ aI aG=>aQ (X 5) fun bP e bO=>aW .i64 (X 6) fun f=>e0.t Y a b c d aJ aI aG bP e bO f Z
theorem e0.ok(Y:aD)(a:M→Nat→Nat→M→Nat→Nat→M→Nat→Nat→Int→U→Prop)(X:Fr)(Z:U)(g:e0.g Y a X Z):den prog E (a3 aO [W,W,aT,W,aT,aT,W,aT,aT]) (a1.inBlock 1 (a1.then (c8.g Y a) (a1.then (bL.g a) (a1.inBlock 0 (a1.then (a0.g Y) (a8 E [.tmp 4] Y)))))) X Z:=
 bD g fun b c d e g=>bD g fun aJ aI aG f g=>bD g fun bP h bO i g=>bB g fun j k g=>c4 2 (r:=(a3 aO [W,W,aT,W,aT,aT,W,aT,aT,W,W])) (by kernel_rfl) (uN.ok Y a) (bS [(0,.slice b c d),(1,.slice aJ aI aG),(5,.slice bP h bO),(6,.int .i64 j)] ⟨e,f,i,k,trivial⟩ (by kernel_rfl) g)
theorem rA.ok(Y:aD)(a:M→Nat→Nat→M→Nat→Nat→M→Nat→Nat→Int→U→Prop)(X:Fr)(Z:U)(g:e0.g Y a X Z):den prog E (a3 aO [W,W,aT,W,aT,aT,W,aT]) (a1.then (c8.g Y a) (a1.then (bL.g a) (a1.inBlock 0 (a1.then (a0.g Y) (a8 E [.tmp 4] Y))))) X Z:=
 fC (by kernel_rfl) (e0.ok Y a X Z g)
theorem yL.ok(Y:aD)(a:M→Nat→Nat→M→Nat→Nat→M→Nat→Nat→Int→U→Prop)(X:Fr)(Z:U)(g:e0.g Y a X Z):den prog E (a3 aO [W,W,aT,W,aT,aT,W]) (a1.then (bL.g a) (a1.inBlock 0 (a1.then (a0.g Y) (a8 E [.tmp 4] Y)))) X Z:=
 gA (by kernel_rfl) (c8.ok Y a) (rA.ok Y a X Z g)
def b7.t(Y:aD)(a:M→Nat→Nat→M→Nat→Nat→M→Nat→Nat→Int→U→Prop)(b:M)(c d:Nat)(aJ:M)(aI aG:Nat)(bP:M)(e bO:Nat)(f:Int)(Z:U):Prop:=
 cond (decide (f < (((c:Nat):Int)))) (e0.t Y a b c d aJ aI aG bP e bO f Z) (a0.t Y bP e bO Z)
def b7.g(Y:aD)(a:M→Nat→Nat→M→Nat→Nat→M→Nat→Nat→Int→U→Prop)(X:Fr)(Z:U):Prop:=aQ (X 0) fun b c d=>aQ (X 1) fun aJ aI aG=>aQ (X 5) fun bP e bO=>aW .i64 (X 6) fun f=>b7.t Y a b c d aJ aI aG bP e bO f Z
theorem b7.ok(Y:aD)(a:M→Nat→Nat→M→Nat→Nat→M→Nat→Nat→Int→U→Prop)(X:Fr)(Z:U)(g:b7.g Y a X Z):den prog E (a3 aO [W,W,aT,W,aT,aT]) (a1.then (bL.g a) (a1.inBlock 0 (a1.then (a0.g Y) (a8 E [.tmp 4] Y)))) X Z:=
 bD g fun b c d e g=>bD g fun aJ aI aG f g=>bD g fun bP h bO i g=>bB g fun j k g=>c4 1 (r:=(a3 aO [W,W,aT,W,aT,aT,W])) (by kernel_rfl) (yL.ok Y a) (bS [(0,.slice b c d),(1,.slice aJ aI aG),(5,.slice bP h bO),(6,.int .i64 j)] ⟨e,f,i,k,trivial⟩ (by kernel_rfl) g)
def bL.t(Y:aD):Nat→M→Nat→Nat→M→Nat→Nat→M→Nat→Nat→Int→U→Prop
 | 0=>fun _ _ _ _ _ _ _ _ _ _ _=>False
 | n+1=>fun a b c aJ aI aG bP d bO e Z=>b7.t Y (bL.t Y n) a b c aJ aI aG bP d bO e Z
theorem bL.ok(Y:aD)(X:Fr)(Z:U)(g:bL.g (fun a b c aJ aI aG bP d bO e Z=>∃ n,bL.t Y n a b c aJ aI aG bP d bO e Z) X Z):den prog E (a3 aO [W,W,aT,W,aT]) (a1.inBlock 0 (a1.then (a0.g Y) (a8 E [.tmp 4] Y))) X Z:=by
 obtain⟨a,b,c,f,g⟩:=b4 g
 obtain⟨aJ,aI,aG,h,g⟩:=b4 g
 obtain⟨bP,d,bO,i,g⟩:=b4 g
 obtain⟨e,j,g⟩:=bN g
 obtain⟨n,g⟩:=g
 refine fK (fun n=>bL.g (bL.t Y n)) (L:=(a3 aO [W,W,aT,W,aT,aT])) (by kernel_rfl) (fun X Z g=>?_) (fun n=>b7.ok Y (bL.t Y n)) n X Z (bE f (bE h (bE i (bQ j (g)))))
 obtain⟨a,b,c,f,g⟩:=b4 g
 obtain⟨aJ,aI,aG,h,g⟩:=b4 g
 obtain⟨bP,d,bO,i,g⟩:=b4 g
 obtain⟨e,j,g⟩:=bN g
 exact g
theorem CX.ok(Y:aD)(X:Fr)(Z:U)(g:bL.g (fun a b c aJ aI aG bP d bO e Z=>∃ n,bL.t Y n a b c aJ aI aG bP d bO e Z) X Z):den prog E (a3 aO [W,W,aT,W]) (a1.then (a0.g Y) (a8 E [.tmp 4] Y)) X Z:=
 fC (by kernel_rfl) (bL.ok Y X Z g)
def bF.t(Y:aD)(a:M)(b c:Nat)(aJ:M)(aI aG:Nat)(bP:M)(d bO:Nat)(Z:U):Prop:=
 (∃ n,bL.t Y n a b c aJ aI aG bP d bO 0 Z)
def bF.g(Y:aD)(X:Fr)(Z:U):Prop:=aQ (X 0) fun a b c=>aQ (X 1) fun aJ aI aG=>aQ (X 5) fun bP d bO=>bF.t Y a b c aJ aI aG bP d bO Z
theorem bF.ok(Y:aD)(X:Fr)(Z:U)(g:bF.g Y X Z):den prog E (a3 aO [W,W,aT]) (a1.then (a0.g Y) (a8 E [.tmp 4] Y)) X Z:=
 bD g fun a b c d g=>bD g fun aJ aI aG e g=>bD g fun bP f bO h g=>c4 1 (r:=(a3 aO [W,W,aT,W])) (by kernel_rfl) (CX.ok Y) (bS [(0,.slice a b c),(1,.slice aJ aI aG),(5,.slice bP f bO)] ⟨d,e,h,trivial⟩ (by kernel_rfl) g)
theorem OW.ok(Y:aD)(X:Fr)(Z:U)(g:bF.g Y X Z):den prog E (a3 aO [W,W]) (a8 E [.tmp 4] Y) X Z:=
 gA (by kernel_rfl) (a0.ok Y) (bF.ok Y X Z g)
def aL.t(Y:aD)(a:M)(b c:Nat)(aJ:M)(aI aG:Nat)(Z:U):Prop:=
 a5 (IntKind.i64.wrap ((((b:Nat):Int))+(((aI:Nat):Int)))) fun dY=>
 iI Z 89 iG dY dY fun e8 d=>
 bF.t Y a b c aJ aI aG (some e8) dY.toNat dY.toNat d
def aL.g(Y:aD)(X:Fr)(Z:U):Prop:=aQ (X 0) fun a b c=>aQ (X 1) fun aJ aI aG=>aL.t Y a b c aJ aI aG Z
theorem aL.ok(Y:aD)(X:Fr)(Z:U)(g:aL.g Y X Z):den prog E aO (a8 E [.tmp 4] Y) X Z:=
 bD g fun a b c d g=>bD g fun aJ aI aG e g=>c4 2 (r:=(a3 aO [W,W])) (by kernel_rfl) (OW.ok Y) (bS [(0,.slice a b c),(1,.slice aJ aI aG)] ⟨d,e,trivial⟩ (by kernel_rfl) g)
def t(a:M)(b c:Nat)(aJ:M)(aI aG:Nat)(Z:U)(Y:aD):Prop:=aL.t Y a b c aJ aI aG Z
theorem ok{a:M}{b:Nat}{d:Nat}{aJ:M}{aI:Nat}{aG:Nat}{Z:U}{Y:aD}(g:t a b d aJ aI aG Z Y):aY id #[.slice a b d,.slice aJ aI aG] Z Y:=
 dL dI (c:=aO) (dC:=[.tmp 4]) Tryz.func40 (by kernel_rfl) (by kernel_rfl) (by kernel_rfl) (args:=[.slice a b d,.slice aJ aI aG]) (by kernel_rfl) (aL.ok Y _ Z (bE rfl (bE rfl (g))))
end hG
namespace o6
noncomputable def aO:Code:=dK Tryz.f41
def bF.t(Y:aD)(a:M)(b c:Nat)(d:M)(e f:Nat)(Z:U):Prop:=
 aY gS.id #[.slice a b c,.slice d e f] Z fun a b=>
 aQ a fun a c d=>
 aY qL.id #[.slice a c d] b fun a b=>
 cT a fun a=>
 dJ a .u64 fun a c=>
 fH c fun c c=>
 b5 c <| Y (.int .u64 a) b
def bF.g(Y:aD)(X:Fr)(Z:U):Prop:=aQ (X 10) fun a b c=>aQ (X 14) fun d e f=>bF.t Y a b c d e f Z
theorem bF.ok(Y:aD)(X:Fr)(Z:U)(g:bF.g Y X Z):den prog E (a3 aO [W,W,W,W,W,W,W,W,W,W,W,W,W,W]) (a8 E [.tmp 4] Y) X Z:=
 bD g fun a b c d g=>bD g fun e f h i g=>bS [(10,.slice a b c),(14,.slice e f h)] ⟨d,i,trivial⟩ (by kernel_rfl) g
def a0.t(Y:aD)(aS aM a:Int)(Z:U):Prop:=
 a5 (IntKind.i64.wrap (2*a)) fun b=>
 a5 (IntKind.i64.wrap (b+1)) fun b=>
 aY lL.id #[.int .i64 b] Z fun b c=>
 aQ b fun b d e=>
 aY oB.id #[.int .i64 a] c fun c f=>
 aQ c fun c g h=>
 aY hK.id #[.slice b d e,.slice c g h] f fun b c=>
 cT b fun b=>
 cP b fun b d e f=>
 cP f fun f f f f=>
 b5 f <| aY lL.id #[.int .i64 320] c fun c f=>
 aQ c fun c g h=>
 a5 (IntKind.i64.wrap (a - aM)) fun a=>
 a5 (IntKind.i64.wrap (a - 320)) fun a=>
 aY kT.id #[.slice b d e,.int .i64 a] f fun a b=>
 aQ a fun a d e=>
 aY jR.id #[.slice a d e,.int .i64 320] b fun a b=>
 aQ a fun a d e=>
 a5 (IntKind.i64.wrap (aS - 1)) fun f=>
 aY lL.id #[.int .i64 f] b fun b f=>
 aQ b fun b i j=>
 aY gF.id #[.int .u64 1] f fun f k=>
 aQ f fun f l m=>
 aY g1.id #[.slice b i j,.slice f l m] k fun f k=>
 aQ f fun f l m=>
 aY hG.id #[.slice a d e,.slice b i j] k fun k n=>
 aQ k fun k o p=>
 aY jR.id #[.slice k o p,.int .i64 320] n fun k n=>
 aQ k fun k o p=>
 aY mA.id #[.slice f l m,.slice c g h,.slice a d e,.slice k o p] n fun n q=>
 cT n fun n=>
 cP n fun n r s u=>
 cP u fun u v w x=>
 b5 x <| aY g1.id #[.slice c g h,.slice a d e] q fun a d=>
 aQ a fun a e q=>
 aY jR.id #[.slice a e q,.int .i64 320] d fun a d=>
 aQ a fun a e q=>
 aY g1.id #[.slice c g h,.slice k o p] d fun d k=>
 aQ d fun d o p=>
 aY jR.id #[.slice d o p,.int .i64 320] k fun d k=>
 aQ d fun d o p=>
 aY mA.id #[.slice f l m,.slice c g h,.slice a e q,.slice d o p] k fun a c=>
 cT a fun a=>
 cP a fun a d e f=>
 cP f fun f g h k=>
 b5 k <| aY hZ.id #[.slice a d e,.slice n r s] c fun a c=>
 aW .i64 a fun a=>
 cond (decide (a < 0)) (bF.t Y b i j f g h c) (bF.t Y b i j u v w c)
def a0.g(Y:aD)(X:Fr)(Z:U):Prop:=aW .i64 (X 0) fun aS=>aW .i64 (X 1) fun aM=>aW .i64 (X 5) fun a=>a0.t Y aS aM a Z
theorem a0.ok(Y:aD)(X:Fr)(Z:U)(g:a0.g Y X Z):den prog E (a3 aO [W,W,W,W]) (a8 E [.tmp 4] Y) X Z:=
 bB g fun aS a g=>bB g fun aM b g=>bB g fun c d g=>c4 10 (r:=(a3 aO [W,W,W,W,W,W,W,W,W,W,W,W,W,W])) (by kernel_rfl) (bF.ok Y) (bS [(0,.int .i64 aS),(1,.int .i64 aM),(5,.int .i64 c)] ⟨a,b,d,trivial⟩ (by kernel_rfl) g)
def aL.t(Y:aD)(aS aM:Int)(Z:U):Prop:=
 a5 (IntKind.i64.wrap (aS+aM)) fun dY=>
 cond (decide (dY≤0)) (0≤aS∧a5 (h4 .u64 1 aS) fun a=>
 a5 (IntKind.u64.wrap (a - 1)) fun a=>
 Y (.int .u64 a) Z) (a5 (IntKind.i64.wrap (320+aM)) fun a=>
 a5 (IntKind.i64.wrap (a+64)) fun a=>
 cond (decide (a < 64)) (a0.t Y aS aM 64 Z) (a0.t Y aS aM a Z))
def aL.g(Y:aD)(X:Fr)(Z:U):Prop:=aW .i64 (X 0) fun aS=>aW .i64 (X 1) fun aM=>aL.t Y aS aM Z
theorem aL.ok(Y:aD)(X:Fr)(Z:U)(g:aL.g Y X Z):den prog E aO (a8 E [.tmp 4] Y) X Z:=
 bB g fun aS a g=>bB g fun aM b g=>c4 4 (r:=(a3 aO [W,W,W,W])) (by kernel_rfl) (a0.ok Y) (bS [(0,.int .i64 aS),(1,.int .i64 aM)] ⟨a,b,trivial⟩ (by kernel_rfl) g)
def t(aS aM:Int)(Z:U)(Y:aD):Prop:=aL.t Y aS aM Z
theorem ok{aS:Int}{aM:Int}{Z:U}{Y:aD}(g:t aS aM Z Y):aY id #[.int .i64 aS,.int .i64 aM] Z Y:=
 dL dI (c:=aO) (dC:=[.tmp 4]) Tryz.func41 (by kernel_rfl) (by kernel_rfl) (by kernel_rfl) (args:=[.int .i64 aS,.int .i64 aM]) (by kernel_rfl) (aL.ok Y _ Z (bQ rfl (bQ rfl (g))))
end o6
namespace kK
noncomputable def aO:Code:=dK Tryz.f42
def a0.t(Y:aD)(a:Int)(Z:U):Prop:=
 Y (.int .i64 a) Z
def a0.g(Y:aD)(X:Fr)(Z:U):Prop:=aW .i64 (X 3) fun a=>a0.t Y a Z
theorem a0.ok(Y:aD)(X:Fr)(Z:U)(g:a0.g Y X Z):den prog E (a3 aO [W,W,W,W]) (a8 E [.tmp 2] Y) X Z:=
 bB g fun a b g=>bS [(3,.int .i64 a)] ⟨b,trivial⟩ (by kernel_rfl) g
def bL.g(a:Int→Int→U→Prop)(X:Fr)(Z:U):Prop:=aW .i64 (X 3) fun b=>aW .u32 (X 4) fun c=>a b c Z
def b7.t(Y:aD)(a:Int→Int→U→Prop)(b c:Int)(Z:U):Prop:=
 cond (decide (c > 0)) (a5 (IntKind.i64.wrap (b+1)) fun d=>
 (2:Int) ≠ 0∧a5 (IntKind.u32.wrap (Int.tdiv c 2)) fun c=>
 a d c Z) (a0.t Y b Z)
def b7.g(Y:aD)(a:Int→Int→U→Prop)(X:Fr)(Z:U):Prop:=aW .i64 (X 3) fun b=>aW .u32 (X 4) fun c=>b7.t Y a b c Z
theorem b7.ok(Y:aD)(a:Int→Int→U→Prop)(X:Fr)(Z:U)(g:b7.g Y a X Z):den prog E (a3 aO [W,W,W,aT,W,aT,aT]) (a1.then (bL.g a) (a1.inBlock 0 (a1.then (a0.g Y) (a8 E [.tmp 2] Y)))) X Z:=
 bB g fun a b g=>bB g fun c d g=>bS [(3,.int .i64 a),(4,.int .u32 c)] ⟨b,d,trivial⟩ (by kernel_rfl) g
def bL.t(Y:aD):Nat→Int→Int→U→Prop
 | 0=>fun _ _ _=>False
 | n+1=>fun a b Z=>b7.t Y (bL.t Y n) a b Z
theorem bL.ok(Y:aD)(X:Fr)(Z:U)(g:bL.g (fun a b Z=>∃ n,bL.t Y n a b Z) X Z):den prog E (a3 aO [W,W,W,aT,W,aT]) (a1.inBlock 0 (a1.then (a0.g Y) (a8 E [.tmp 2] Y))) X Z:=by
 obtain⟨a,c,g⟩:=bN g
 obtain⟨b,d,g⟩:=bN g
 obtain⟨n,g⟩:=g
 refine fK (fun n=>bL.g (bL.t Y n)) (L:=(a3 aO [W,W,W,aT,W,aT,aT])) (by kernel_rfl) (fun X Z g=>?_) (fun n=>b7.ok Y (bL.t Y n)) n X Z (bQ c (bQ d (g)))
 obtain⟨a,c,g⟩:=bN g
 obtain⟨b,d,g⟩:=bN g
 exact g
theorem g3.ok(Y:aD)(X:Fr)(Z:U)(g:bL.g (fun a b Z=>∃ n,bL.t Y n a b Z) X Z):den prog E (a3 aO [W,W,W,aT,W]) (a1.then (a0.g Y) (a8 E [.tmp 2] Y)) X Z:=
 fC (by kernel_rfl) (bL.ok Y X Z g)
def bF.t(Y:aD)(a:M)(b c:Nat)(c:Int)(Z:U):Prop:=
 a5 (IntKind.i64.wrap ((((b:Nat):Int)) - 1)) fun d=>
 c7 a b d 1 fun eD=>
 cY Z .u32 eD fun a=>
 (∃ n,bL.t Y n c a Z)
def bF.g(Y:aD)(X:Fr)(Z:U):Prop:=aQ (X 0) fun a b c=>aW .i64 (X 3) fun d=>bF.t Y a b c d Z
theorem bF.ok(Y:aD)(X:Fr)(Z:U)(g:bF.g Y X Z):den prog E (a3 aO [W,W,W,aT]) (a1.then (a0.g Y) (a8 E [.tmp 2] Y)) X Z:=
 bD g fun a b c d g=>bB g fun e f g=>c4 1 (r:=(a3 aO [W,W,W,aT,W])) (by kernel_rfl) (g3.ok Y) (bS [(0,.slice a b c),(3,.int .i64 e)] ⟨d,f,trivial⟩ (by kernel_rfl) g)
theorem g4.ok(Y:aD)(X:Fr)(Z:U)(g:bF.g Y X Z):den prog E (a3 aO [W,W,W]) (a8 E [.tmp 2] Y) X Z:=
 gA (by kernel_rfl) (a0.ok Y) (bF.ok Y X Z g)
def aL.t(Y:aD)(a:M)(b c:Nat)(Z:U):Prop:=
 cond ((((b:Nat):Int)) == 0) (Y (.int .i64 0) Z) (a5 (IntKind.i64.wrap ((((b:Nat):Int)) - 1)) fun dY=>
 a5 (IntKind.i64.wrap (32*dY)) fun d=>
 bF.t Y a b c d Z)
def aL.g(Y:aD)(X:Fr)(Z:U):Prop:=aQ (X 0) fun a b c=>aL.t Y a b c Z
theorem aL.ok(Y:aD)(X:Fr)(Z:U)(g:aL.g Y X Z):den prog E aO (a8 E [.tmp 2] Y) X Z:=
 bD g fun a b c d g=>c4 3 (r:=(a3 aO [W,W,W])) (by kernel_rfl) (g4.ok Y) (bS [(0,.slice a b c)] ⟨d,trivial⟩ (by kernel_rfl) g)
def t(a:M)(b c:Nat)(Z:U)(Y:aD):Prop:=aL.t Y a b c Z
theorem ok{a:M}{b:Nat}{d:Nat}{Z:U}{Y:aD}(g:t a b d Z Y):aY id #[.slice a b d] Z Y:=
 dL dI (c:=aO) (dC:=[.tmp 2]) Tryz.func42 (by kernel_rfl) (by kernel_rfl) (by kernel_rfl) (args:=[.slice a b d]) (by kernel_rfl) (aL.ok Y _ Z (bE rfl (g)))
end kK
end Go.Proofs.YtjijdlkpmngolaaGreat.G
