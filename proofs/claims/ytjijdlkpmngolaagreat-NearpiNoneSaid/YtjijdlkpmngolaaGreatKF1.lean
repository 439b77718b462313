import Derived.Test.YtjijdlkpmngolaaGreatKE
namespace Go.Proofs.YtjijdlkpmngolaaGreat.G
open Go.Gv
set_option linter.unusedVariables false
set_option maxRecDepth 100000
namespace mT
noncomputable def aO:Code:=dO Tryz.f44
def bF.t(Y:aD)(a b:Addr)(c:Int)(d e f:Addr)(Z:U):Prop:=
 f.block < Z.size∧eG Z (f.add 0) fun g=>
 dP Z (f.add 1) fun h i j=>
 d.block < Z.size∧eG Z (d.add 0) fun k=>
 dP Z (d.add 1) fun d l m=>
 a0 kM.id #[.agg #[.bool k,.slice d l m],.int .i64 1] Z fun d k=>
 eA d fun d=>
 e9 d fun d l=>
 cR l fun l m n o=>
 b6 o <| (eN Z.size Z k)∧f.block < Z.size∧eG k (f.add 0) fun o=>
 dP k (f.add 1) fun f p q=>
 e.block < Z.size∧eG k (e.add 0) fun r=>
 dP k (e.add 1) fun e s u=>
 a0 nT.id #[.agg #[.bool o,.slice f p q],.agg #[.bool r,.slice e s u]] k fun e f=>
 eA e fun e=>
 e9 e fun e o=>
 cR o fun o p q r=>
 b6 r <| (eN Z.size k f)∧a0 kN.id #[.agg #[.bool d,.slice l m n],.agg #[.bool e,.slice o p q]] f fun d e=>
 eA d fun d=>
 e9 d fun d k=>
 cR k fun k l m n=>
 b6 n <| (eN Z.size f e)∧a6 (IntKind.i64.wrap (c+1)) fun c=>
 a0 lF.id #[.agg #[.bool d,.slice k l m],.int .i64 c] e fun c d=>
 eA c fun c=>
 e9 c fun c f=>
 cR f fun f k l m=>
 b6 m <| (eN Z.size e d)∧b3 d (a.add 0) (.bool g) fun d=>
 b3 d (a.add 1) (.slice h i j) fun d=>
 b3 d (b.add 0) (.bool c) fun c=>
 b3 c (b.add 1) (.slice f k l) fun c=>
 eG c (a.add 0) fun d=>
 dP c (a.add 1) fun a e f=>
 eG c (b.add 0) fun g=>
 dP c (b.add 1) fun b h i=>
 Y (.tuple #[.agg #[.bool d,.slice a e f],.agg #[.bool g,.slice b h i]]) c
def bF.g(Y:aD)(X:Fr)(Z:U):Prop:=fU (X 6) fun a=>fU (X 7) fun b=>aW .i64 (X 8) fun c=>fU (X 10) fun d=>fU (X 11) fun e=>fU (X 12) fun f=>bF.t Y a b c d e f Z
theorem bF.ok(Y:aD)(X:Fr)(Z:U)(g:bF.g Y X Z):den prog E (a4 aO [W,W,W,W,W,W,W]) (a7 E [.cell 6 82,.cell 7 82] Y) X Z:=
 hH g fun a b g=>hH g fun c d g=>a8 g fun e f g=>hH g fun h i g=>hH g fun j k g=>hH g fun l m g=>bT [(6,.pointer (some a)),(7,.pointer (some c)),(8,.int .i64 e),(10,.pointer (some h)),(11,.pointer (some j)),(12,.pointer (some l))] ⟨b,d,f,i,k,m,trivial⟩ (by kernel_rfl) g
def aZ.t(Y:aD)(a b:Addr)(c d:Int)(e:Addr)(Z:U):Prop:=
 a0 oY.id #[.int .i64 d] Z fun d f=>
 aU d fun d g h=>
 a0 fJ.id #[.bool false,.slice d g h] f fun d f=>
 eA d fun d=>
 e9 d fun d g=>
 cR g fun g h i j=>
 b6 j <| dN f 82 hP.a3 fun f j=>
 b3 j (f.add 0) (.bool d) fun d=>
 b3 d (f.add 1) (.slice g h i) fun d=>
 e.block < d.size∧eG d (e.add 0) fun g=>
 dP d (e.add 1) fun h i j=>
 f.block < d.size∧eG d (f.add 0) fun k=>
 dP d (f.add 1) fun l m n=>
 (a0 kM.id #[.agg #[.bool g,.slice h i j],.int .i64 1] d fun o p=>
 eA o fun o=>
 e9 o fun o q=>
 cR q fun q r s u=>
 b6 u <| (eN d.size d p)∧(a0 k4.id #[.agg #[.bool o,.slice q r s],.agg #[.bool k,.slice l m n]] p fun u v=>
 eA u fun u=>
 e9 u fun u w=>
 cR w fun w x y z=>
 b6 z <| (eN d.size p v)∧dN v 82 hP.a3 fun z A=>
 (eN d.size v A)∧b3 A (z.add 0) (.bool u) fun A=>
 b3 A (z.add 1) (.slice w x y) fun A=>
 bF.t Y a b c e f z A)∧(dN p 82 hP.a3 fun A u=>
 (eN d.size p u)∧a0 k4.id #[.agg #[.bool o,.slice q r s],.agg #[.bool k,.slice l m n]] u fun o p=>
 eA o fun o=>
 e9 o fun o q=>
 cR q fun q r s v=>
 b6 v <| (eN d.size u p)∧b3 p (A.add 0) (.bool o) fun o=>
 b3 o (A.add 1) (.slice q r s) fun o=>
 bF.t Y a b c e f A o))∧(dN d 82 hP.a3 fun A o=>
 (eN d.size d o)∧a0 kM.id #[.agg #[.bool g,.slice h i j],.int .i64 1] o fun g h=>
 eA g fun g=>
 e9 g fun g i=>
 cR i fun i j p q=>
 b6 q <| (eN d.size o h)∧a0 k4.id #[.agg #[.bool g,.slice i j p],.agg #[.bool k,.slice l m n]] h fun g i=>
 eA g fun g=>
 e9 g fun g j=>
 cR j fun j k l m=>
 b6 m <| (eN d.size h i)∧b3 i (A.add 0) (.bool g) fun d=>
 b3 d (A.add 1) (.slice j k l) fun d=>
 bF.t Y a b c e f A d)
def aZ.g(Y:aD)(X:Fr)(Z:U):Prop:=fU (X 6) fun a=>fU (X 7) fun b=>aW .i64 (X 8) fun c=>aW .i64 (X 9) fun d=>fU (X 10) fun e=>aZ.t Y a b c d e Z
theorem aZ.ok(Y:aD)(X:Fr)(Z:U)(g:aZ.g Y X Z):den prog E (a4 aO [W,W,W,W,W]) (a7 E [.cell 6 82,.cell 7 82] Y) X Z:=
 hH g fun a b g=>hH g fun c d g=>a8 g fun e f g=>a8 g fun h i g=>hH g fun j k g=>c4 2 (r:=(a4 aO [W,W,W,W,W,W,W])) (by kernel_rfl) (bF.ok Y) (bT [(6,.pointer (some a)),(7,.pointer (some c)),(8,.int .i64 e),(9,.int .i64 h),(10,.pointer (some j))] ⟨b,d,f,i,k,trivial⟩ (by kernel_rfl) g)
def aM.t(Y:aD)(a:Bool)(b:M)(c d:Nat)(aK e:Int)(Z:U):Prop:=
 dN Z 82 [.bool a,.slice b c d] fun b1 a=>
 dN a 82 hP.a3 fun a b=>
 dN b 82 hP.a3 fun b c=>
 dP c (b1.add 1) fun d f g=>
 a0 kA.id #[.slice d f g] c fun c fX=>
 aW .i64 c fun c=>
 a6 (IntKind.i64.wrap (c+aK)) fun c=>
 a6 (IntKind.i64.wrap ((if c > 0 then c else 0)+4)) fun c=>
 a6 (IntKind.i64.wrap (e+c)) fun d=>
 eG fX (b1.add 0) fun f=>
 dP fX (b1.add 1) fun g h i=>
 a6 (IntKind.i64.wrap (aK+d)) fun j=>
 a0 rH.id #[.agg #[.bool f,.slice g h i],.int .i64 j] fX fun f g=>
 eA f fun f=>
 e9 f fun f h=>
 cR h fun h i j k=>
 b6 k <| dN g 82 hP.a3 fun g k=>
 b3 k (g.add 0) (.bool f) fun f=>
 b3 f (g.add 1) (.slice h i j) fun f=>
 cond (c == 4) (eG f (g.add 0) fun h=>
 dP f (g.add 1) fun i j k=>
 a0 sT.id #[.agg #[.bool h,.slice i j k]] f fun h i=>
 eA h fun h=>
 e9 h fun h j=>
 cR j fun j k l m=>
 b6 m <| a0 kM.id #[.agg #[.bool h,.slice j k l],.int .i64 2] i fun h i=>
 eA h fun h=>
 e9 h fun h j=>
 cR j fun j k l m=>
 b6 m <| a0 nW.id #[.int .i64 d] i fun i m=>
 aU i fun i n o=>
 a0 j4.id #[.slice i n o,.int .u32 3,.int .u32 0] m fun i m=>
 aU i fun i n o=>
 a0 fJ.id #[.bool false,.slice i n o] m fun i m=>
 eA i fun i=>
 e9 i fun i n=>
 cR n fun n o p q=>
 b6 q <| a0 lE.id #[.agg #[.bool h,.slice j k l],.agg #[.bool i,.slice n o p]] m fun h i=>
 aW .i64 h fun h=>
 cond (decide (h≤0)) (eG i (b1.add 0) fun h=>
 dP i (b1.add 1) fun j k l=>
 a6 (IntKind.i64.wrap (aK+e)) fun e=>
 a0 rH.id #[.agg #[.bool h,.slice j k l],.int .i64 e] i fun e h=>
 eA e fun e=>
 e9 e fun e j=>
 cR j fun j k l m=>
 b6 m <| b3 h (a.add 0) (.bool false) fun h=>
 b3 h (a.add 1) (.slice none 0 0) fun h=>
 b3 h (b.add 0) (.bool e) fun e=>
 b3 e (b.add 1) (.slice j k l) fun e=>
 eG e (a.add 0) fun h=>
 dP e (a.add 1) fun j k l=>
 eG e (b.add 0) fun m=>
 dP e (b.add 1) fun n o p=>
 Y (.tuple #[.agg #[.bool h,.slice j k l],.agg #[.bool m,.slice n o p]]) e) (aZ.t Y a b c d g i)) (aZ.t Y a b c d g f)
def aM.g(Y:aD)(X:Fr)(Z:U):Prop:=eA (X 0) fun a=>cW a fun a b=>eS a fun a=>cW b fun b c=>aU b fun b d e=>b6 c <| aW .i64 (X 1) fun aK=>aW .i64 (X 2) fun c=>aM.t Y a b d e aK c Z
theorem aM.ok(Y:aD)(X:Fr)(Z:U)(g:aM.g Y X Z):den prog E aO (a7 E [.cell 6 82,.cell 7 82] Y) X Z:=by
 obtain⟨o,a,b⟩:=iG g
 obtain⟨p,q,rfl,c⟩:=e1 b
 obtain⟨d,rfl,e⟩:=iE c
 obtain⟨s,t,rfl,f⟩:=e1 e
 obtain⟨h,i,j,rfl,k⟩:=b0 f
 obtain⟨rfl,g⟩:=hK k
 obtain⟨aK,l,g⟩:=bN g
 obtain⟨m,n,g⟩:=bN g
 exact c4 5 (r:=(a4 aO [W,W,W,W,W])) (by kernel_rfl) (aZ.ok Y) (bT [(0,.agg #[.bool d,.slice h i j]),(1,.int .i64 aK),(2,.int .i64 m)] ⟨a,l,n,trivial⟩ (by kernel_rfl) g)
def t(a:Bool)(b:M)(c d:Nat)(aK e:Int)(Z:U)(Y:aD):Prop:=aM.t Y a b c d aK e Z
theorem ok{a:Bool}{b:M}{d:Nat}{e:Nat}{aK:Int}{f:Int}{Z:U}{Y:aD}(g:t a b d e aK f Z Y):a0 id #[.agg #[.bool a,.slice b d e],.int .i64 aK,.int .i64 f] Z Y:=
 dQ dH (c:=aO) (dE:=[.cell 6 82,.cell 7 82]) Tryz.func44 (by kernel_rfl) (by kernel_rfl) (by kernel_rfl) (args:=[.agg #[.bool a,.slice b d e],.int .i64 aK,.int .i64 f]) (by kernel_rfl) (aM.ok Y _ Z (eW rfl (cK (cY rfl (cK (bD rfl (dY (bR rfl (bR rfl (g))))))))))
end mT
namespace fJ
noncomputable def aO:Code:=dO Tryz.f45
def aM.t(Y:aD)(a:Bool)(aJ:M)(aH aG:Nat)(Z:U):Prop:=
 dN Z 82 hP.a3 fun b1 b=>
 a0 gV.id #[.slice aJ aH aG] b fun b c=>
 aU b fun b d e=>
 cond a (b3 c (b1.add 0) (.bool (decide ((((d:Nat):Int)) > 0))) fun a=>
 b3 a (b1.add 1) (.slice b d e) fun a=>
 eG a (b1.add 0) fun f=>
 dP a (b1.add 1) fun g h i=>
 Y (.agg #[.bool f,.slice g h i]) a) (b3 c (b1.add 0) (.bool false) fun a=>
 b3 a (b1.add 1) (.slice b d e) fun a=>
 eG a (b1.add 0) fun b=>
 dP a (b1.add 1) fun c d e=>
 Y (.agg #[.bool b,.slice c d e]) a)
def aM.g(Y:aD)(X:Fr)(Z:U):Prop:=eS (X 0) fun a=>aU (X 1) fun aJ aH aG=>aM.t Y a aJ aH aG Z
theorem aM.ok(Y:aD)(X:Fr)(Z:U)(g:aM.g Y X Z):den prog E aO (a7 E [.cell 4 82] Y) X Z:=
 vJ g fun a b g=>bE g fun aJ aH aG c g=>bT [(0,.bool a),(1,.slice aJ aH aG)] ⟨b,c,trivial⟩ (by kernel_rfl) g
def t(a:Bool)(aJ:M)(aH aG:Nat)(Z:U)(Y:aD):Prop:=aM.t Y a aJ aH aG Z
theorem ok{a:Bool}{aJ:M}{aH:Nat}{aG:Nat}{Z:U}{Y:aD}(g:t a aJ aH aG Z Y):a0 id #[.bool a,.slice aJ aH aG] Z Y:=
 dQ dH (c:=aO) (dE:=[.cell 4 82]) Tryz.func45 (by kernel_rfl) (by kernel_rfl) (by kernel_rfl) (args:=[.bool a,.slice aJ aH aG]) (by kernel_rfl) (aM.ok Y _ Z (cY rfl (bD rfl (g))))
end fJ
namespace j6
noncomputable def aO:Code:=dO Tryz.f46
def aM.t(Y:aD)(a:Bool)(b:M)(c d:Nat)(Z:U):Prop:=
 dN Z 82 [.bool a,.slice b c d] fun b1 a=>
 dP a (b1.add 1) fun b b c=>
 cond ((((b:Nat):Int)) == 0) (Y (.int .i64 0) a) (eG a (b1.add 0) fun b=>
 cond b (Y (.int .i64 (-1)) a) (Y (.int .i64 1) a))
def aM.g(Y:aD)(X:Fr)(Z:U):Prop:=eA (X 0) fun a=>cW a fun a b=>eS a fun a=>cW b fun b c=>aU b fun b d e=>b6 c <| aM.t Y a b d e Z
theorem aM.ok(Y:aD)(X:Fr)(Z:U)(g:aM.g Y X Z):den prog E aO (a7 E [.tmp 2] Y) X Z:=by
 obtain⟨l,a,b⟩:=iG g
 obtain⟨m,n,rfl,c⟩:=e1 b
 obtain⟨d,rfl,e⟩:=iE c
 obtain⟨o,p,rfl,f⟩:=e1 e
 obtain⟨h,i,j,rfl,k⟩:=b0 f
 obtain⟨rfl,g⟩:=hK k
 exact bT [(0,.agg #[.bool d,.slice h i j])] ⟨a,trivial⟩ (by kernel_rfl) g
def t(a:Bool)(b:M)(c d:Nat)(Z:U)(Y:aD):Prop:=aM.t Y a b c d Z
theorem ok{a:Bool}{b:M}{d:Nat}{e:Nat}{Z:U}{Y:aD}(g:t a b d e Z Y):a0 id #[.agg #[.bool a,.slice b d e]] Z Y:=
 dQ dH (c:=aO) (dE:=[.tmp 2]) Tryz.func46 (by kernel_rfl) (by kernel_rfl) (by kernel_rfl) (args:=[.agg #[.bool a,.slice b d e]]) (by kernel_rfl) (aM.ok Y _ Z (eW rfl (cK (cY rfl (cK (bD rfl (dY (g))))))))
end j6
namespace kL
noncomputable def aO:Code:=dO Tryz.f47
def aM.t(Y:aD)(a:M)(b c:Nat)(aK:Int)(Z:U):Prop:=
 cond (decide (aK≤0)) (a0 gV.id #[.slice a b c] Z fun d e=>
 aU d fun d f g=>
 Y (.slice d f g) e) ((32:Int) ≠ 0∧a6 (IntKind.i64.wrap (Int.tdiv aK 32)) fun d=>
 cond (decide (d≥(((b:Nat):Int)))) (a0 hM.id #[.int .u64 0] Z fun d e=>
 aU d fun d f g=>
 Y (.slice d f g) e) ((32:Int) ≠ 0∧a6 (IntKind.i64.wrap (Int.tdiv aK 32)) fun d=>
 hX 1 a b c (some (.int .i64 d)) none none fun a b c=>
 (32:Int) ≠ 0∧a6 (Int.tmod aK 32) fun d=>
 0≤d∧a6 (hW .u32 1 d) fun d=>
 a0 jC.id #[.slice a b c,.int .u32 d] Z fun a b=>
 c1 a fun a=>
 cR a fun a c d e=>
 dM e .u32 fun e e=>
 b6 e <| Y (.slice a c d) b))
def aM.g(Y:aD)(X:Fr)(Z:U):Prop:=aU (X 0) fun a b c=>aW .i64 (X 1) fun aK=>aM.t Y a b c aK Z
theorem aM.ok(Y:aD)(X:Fr)(Z:U)(g:aM.g Y X Z):den prog E aO (a7 E [.tmp 4] Y) X Z:=
 bE g fun a b c d g=>a8 g fun aK e g=>bT [(0,.slice a b c),(1,.int .i64 aK)] ⟨d,e,trivial⟩ (by kernel_rfl) g
def t(a:M)(b c:Nat)(aK:Int)(Z:U)(Y:aD):Prop:=aM.t Y a b c aK Z
theorem ok{a:M}{b:Nat}{d:Nat}{aK:Int}{Z:U}{Y:aD}(g:t a b d aK Z Y):a0 id #[.slice a b d,.int .i64 aK] Z Y:=
 dQ dH (c:=aO) (dE:=[.tmp 4]) Tryz.func47 (by kernel_rfl) (by kernel_rfl) (by kernel_rfl) (args:=[.slice a b d,.int .i64 aK]) (by kernel_rfl) (aM.ok Y _ Z (bD rfl (bR rfl (g))))
end kL
namespace oY
noncomputable def aO:Code:=dO Tryz.f48
def dF.g(a:Int→Int→U→Prop)(X:Fr)(Z:U):Prop:=aW .i64 (X 0) fun aX=>aW .i64 (X 3) fun b=>a aX b Z
def bF.t(Y:aD)(cE:Int→Int→U→Prop)(aX a:Int)(Z:U):Prop:=
 a6 (IntKind.i64.wrap (aX+a)) fun eF=>
 a0 lG.id #[.int .u32 18,.int .i64 eF] Z fun b c=>
 c1 b fun b=>
 cR b fun b d e f=>
 dM f .i64 fun f g=>
 b6 g <| a6 (IntKind.i64.wrap (aX+a)) fun g=>
 a0 lG.id #[.int .u32 57,.int .i64 g] c fun c g=>
 c1 c fun c=>
 cR c fun c h i j=>
 dM j .i64 fun j k=>
 b6 k <| a6 (IntKind.i64.wrap (aX+a)) fun k=>
 a0 lG.id #[.int .u32 239,.int .i64 k] g fun g k=>
 c1 g fun g=>
 cR g fun g l m n=>
 dM n .i64 fun n o=>
 b6 o <| a0 j4.id #[.slice b d e,.int .u32 48,.int .u32 0] k fun b d=>
 aU b fun b e k=>
 a0 j4.id #[.slice c h i,.int .u32 32,.int .u32 0] d fun c d=>
 aU c fun c h i=>
 a0 g8.id #[.slice b e k,.slice c h i] d fun b c=>
 aU b fun b d e=>
 a0 j4.id #[.slice g l m,.int .u32 20,.int .u32 0] c fun c g=>
 aU c fun c h i=>
 a0 hN.id #[.slice b d e,.slice c h i] g fun b c=>
 aU b fun b d e=>
 a6 (IntKind.i64.wrap (f+2)) fun f=>
 a6 (IntKind.i64.wrap (48*f)) fun f=>
 a6 (IntKind.i64.wrap (j+2)) fun g=>
 a6 (IntKind.i64.wrap (32*g)) fun g=>
 a6 (IntKind.i64.wrap (f+g)) fun f=>
 a6 (IntKind.i64.wrap (n+2)) fun g=>
 a6 (IntKind.i64.wrap (20*g)) fun g=>
 a6 (IntKind.i64.wrap (f+g)) fun f=>
 a6 (IntKind.i64.wrap (4*f)) fun f=>
 a0 sK.id #[.int .i64 f] c fun c f=>
 aU c fun c g h=>
 a0 hN.id #[.slice b d e,.slice c g h] f fun f i=>
 aU f fun f j k=>
 a0 kL.id #[.slice f j k,.int .i64 a] i fun f i=>
 aU f fun f j k=>
 a0 g8.id #[.slice b d e,.slice c g h] i fun b c=>
 aU b fun b d e=>
 a0 kL.id #[.slice b d e,.int .i64 a] c fun b c=>
 aU b fun b d e=>
 a0 h8.id #[.slice f j k,.slice b d e] c fun b c=>
 aW .i64 b fun b=>
 cond (b == 0) (Y (.slice f j k) c) (a6 (IntKind.i64.wrap (a*2)) fun a=>
 cE aX a c)
def bF.g(Y:aD)(cE:Int→Int→U→Prop)(X:Fr)(Z:U):Prop:=aW .i64 (X 0) fun aX=>aW .i64 (X 3) fun a=>bF.t Y cE aX a Z
theorem bF.ok(Y:aD)(cE:Int→Int→U→Prop)(X:Fr)(Z:U)(g:bF.g Y cE X Z):den prog E (a4 aO [W,W,W,aR,aR]) (a2.then (dF.g cE) (a2.inBlock 0 (a7 E [.tmp 2] Y))) X Z:=
 a8 g fun aX a g=>a8 g fun b c g=>bT [(0,.int .i64 aX),(3,.int .i64 b)] ⟨a,c,trivial⟩ (by kernel_rfl) g
def dF.t(Y:aD):Nat→Int→Int→U→Prop
 | 0=>fun _ _ _=>False
 | n+1=>fun aX a Z=>bF.t Y (dF.t Y n) aX a Z
theorem dF.ok(Y:aD)(X:Fr)(Z:U)(g:dF.g (fun aX a Z=>∃ n,dF.t Y n aX a Z) X Z):den prog E (a4 aO [W,W,W,aR]) (a2.inBlock 0 (a7 E [.tmp 2] Y)) X Z:=by
 obtain⟨aX,b,g⟩:=bN g
 obtain⟨a,c,g⟩:=bN g
 obtain⟨n,g⟩:=g
 refine fK (fun n=>dF.g (dF.t Y n)) (K:=(a4 aO [W,W,W,aR,aR])) (by kernel_rfl) (fun X Z g=>?_) (fun n=>bF.ok Y (dF.t Y n)) n X Z (bR b (bR c (g)))
 obtain⟨aX,b,g⟩:=bN g
 obtain⟨a,c,g⟩:=bN g
 exact g
theorem fF.ok(Y:aD)(X:Fr)(Z:U)(g:dF.g (fun aX a Z=>∃ n,dF.t Y n aX a Z) X Z):den prog E (a4 aO [W,W,W]) (a7 E [.tmp 2] Y) X Z:=
 fA (by kernel_rfl) (dF.ok Y X Z g)
def aM.t(Y:aD)(aX:Int)(Z:U):Prop:=
 (∃ n,dF.t Y n (if 0 > aX then 0 else aX) 64 Z)
def aM.g(Y:aD)(X:Fr)(Z:U):Prop:=aW .i64 (X 0) fun aX=>aM.t Y aX Z
theorem aM.ok(Y:aD)(X:Fr)(Z:U)(g:aM.g Y X Z):den prog E aO (a7 E [.tmp 2] Y) X Z:=
 a8 g fun aX a g=>c4 3 (r:=(a4 aO [W,W,W])) (by kernel_rfl) (fF.ok Y) (bT [(0,.int .i64 aX)] ⟨a,trivial⟩ (by kernel_rfl) g)
def t(aX:Int)(Z:U)(Y:aD):Prop:=aM.t Y aX Z
theorem ok{aX:Int}{Z:U}{Y:aD}(g:t aX Z Y):a0 id #[.int .i64 aX] Z Y:=
 dQ dH (c:=aO) (dE:=[.tmp 2]) Tryz.func48 (by kernel_rfl) (by kernel_rfl) (by kernel_rfl) (args:=[.int .i64 aX]) (by kernel_rfl) (aM.ok Y _ Z (bR rfl (g)))
end oY
namespace hN
noncomputable def aO:Code:=dO Tryz.f49
def aZ.t(Y:aD)(bY:M)(a bW:Nat)(Z:U):Prop:=
 a0 gV.id #[.slice bY a bW] Z fun a fX=>
 aU a fun a b c=>
 Y (.slice a b c) fX
def aZ.g(Y:aD)(X:Fr)(Z:U):Prop:=aU (X 5) fun bY a bW=>aZ.t Y bY a bW Z
theorem aZ.ok(Y:aD)(X:Fr)(Z:U)(g:aZ.g Y X Z):den prog E (a4 aO [W,W,W,W,W]) (a7 E [.tmp 4] Y) X Z:=
 bE g fun bY a bW b g=>bT [(5,.slice bY a bW)] ⟨b,trivial⟩ (by kernel_rfl) g
def bJ.g(a:M→Nat→Nat→M→Nat→Nat→M→Nat→Nat→Int→Int→U→Prop)(X:Fr)(Z:U):Prop:=aU (X 0) fun b c d=>aU (X 1) fun aJ aH aG=>aU (X 5) fun bY e bW=>aW .u64 (X 6) fun f=>aW .i64 (X 7) fun h=>a b c d aJ aH aG bY e bW f h Z
def b9.t(Y:aD)(a:M→Nat→Nat→M→Nat→Nat→M→Nat→Nat→Int→Int→U→Prop)(b:M)(c d:Nat)(aJ:M)(aH aG:Nat)(bY:M)(e bW:Nat)(f g:Int)(Z:U):Prop:=
 cond (decide (g < (((c:Nat):Int)))) (cond (decide (g < (((aH:Nat):Int)))) (c2 aJ aH g 1 fun h=>
 cX Z .u32 h fun h=>
 a6 (IntKind.u64.wrap h) fun h=>
 a6 (IntKind.u64.wrap (f+h)) fun h=>
 c2 b c g 1 fun i=>
 cX Z .u32 i fun i=>
 a6 (IntKind.u64.wrap i) fun i=>
 cond (decide (i < h)) (a6 (IntKind.u64.wrap (i+4294967296)) fun j=>
 a6 (IntKind.u64.wrap (j - h)) fun j=>
 a6 (IntKind.u32.wrap j) fun j=>
 dN Z 89 [.int .u32 j] fun j k=>
 hF k 89 h1 bY e bW (.slice (some j) 1 1) fun j k l m=>
 a6 (IntKind.i64.wrap (g+1)) fun n=>
 a b c d aJ aH aG j k l 1 n m) (a6 (IntKind.u64.wrap (i - h)) fun h=>
 a6 (IntKind.u32.wrap h) fun h=>
 dN Z 89 [.int .u32 h] fun h i=>
 hF i 89 h1 bY e bW (.slice (some h) 1 1) fun h i j k=>
 a6 (IntKind.i64.wrap (g+1)) fun l=>
 a b c d aJ aH aG h i j 0 l k)) (c2 b c g 1 fun h=>
 cX Z .u32 h fun h=>
 a6 (IntKind.u64.wrap h) fun h=>
 cond (decide (h < f)) (a6 (IntKind.u64.wrap (h+4294967296)) fun i=>
 a6 (IntKind.u64.wrap (i - f)) fun i=>
 a6 (IntKind.u32.wrap i) fun i=>
 dN Z 89 [.int .u32 i] fun i j=>
 hF j 89 h1 bY e bW (.slice (some i) 1 1) fun i j k l=>
 a6 (IntKind.i64.wrap (g+1)) fun m=>
 a b c d aJ aH aG i j k 1 m l) (a6 (IntKind.u64.wrap (h - f)) fun f=>
 a6 (IntKind.u32.wrap f) fun f=>
 dN Z 89 [.int .u32 f] fun f h=>
 hF h 89 h1 bY e bW (.slice (some f) 1 1) fun f h i j=>
 a6 (IntKind.i64.wrap (g+1)) fun g=>
 a b c d aJ aH aG f h i 0 g j))) (aZ.t Y bY e bW Z)
def b9.g(Y:aD)(a:M→Nat→Nat→M→Nat→Nat→M→Nat→Nat→Int→Int→U→Prop)(X:Fr)(Z:U):Prop:=aU (X 0) fun b c d=>aU (X 1) fun aJ aH aG=>aU (X 5) fun bY e bW=>aW .u64 (X 6) fun f=>aW .i64 (X 7) fun h=>b9.t Y a b c d aJ aH aG bY e bW f h Z
theorem b9.ok(Y:aD)(a:M→Nat→Nat→M→Nat→Nat→M→Nat→Nat→Int→Int→U→Prop)(X:Fr)(Z:U)(g:b9.g Y a X Z):den prog E (a4 aO [W,W,W,W,aR,W,aR,aR]) (a2.then (bJ.g a) (a2.inBlock 0 (a2.then (aZ.g Y) (a7 E [.tmp 4] Y)))) X Z:=
 bE g fun a b c d g=>bE g fun aJ aH aG e g=>bE g fun bY f bW h g=>a8 g fun i j g=>a8 g fun k l g=>bT [(0,.slice a b c),(1,.slice aJ aH aG),(5,.slice bY f bW),(6,.int .u64 i),(7,.int .i64 k)] ⟨d,e,h,j,l,trivial⟩ (by kernel_rfl) g
def bJ.t(Y:aD):Nat→M→Nat→Nat→M→Nat→Nat→M→Nat→Nat→Int→Int→U→Prop
 | 0=>fun _ _ _ _ _ _ _ _ _ _ _ _=>False
 | n+1=>fun a b c aJ aH aG bY d bW e f Z=>b9.t Y (bJ.t Y n) a b c aJ aH aG bY d bW e f Z
theorem bJ.ok(Y:aD)(X:Fr)(Z:U)(g:bJ.g (fun a b c aJ aH aG bY d bW e f Z=>∃ n,bJ.t Y n a b c aJ aH aG bY d bW e f Z) X Z):den prog E (a4 aO [W,W,W,W,aR,W,aR]) (a2.inBlock 0 (a2.then (aZ.g Y) (a7 E [.tmp 4] Y))) X Z:=by
 obtain⟨a,b,c,h,g⟩:=b0 g
 obtain⟨aJ,aH,aG,i,g⟩:=b0 g
 obtain⟨bY,d,bW,j,g⟩:=b0 g
 obtain⟨e,k,g⟩:=bN g
 obtain⟨f,l,g⟩:=bN g
 obtain⟨n,g⟩:=g
 refine fK (fun n=>bJ.g (bJ.t Y n)) (K:=(a4 aO [W,W,W,W,aR,W,aR,aR])) (by kernel_rfl) (fun X Z g=>?_) (fun n=>b9.ok Y (bJ.t Y n)) n X Z (bD h (bD i (bD j (bR k (bR l (g))))))
 obtain⟨a,b,c,h,g⟩:=b0 g
 obtain⟨aJ,aH,aG,i,g⟩:=b0 g
 obtain⟨bY,d,bW,j,g⟩:=b0 g
 obtain⟨e,k,g⟩:=bN g
 obtain⟨f,l,g⟩:=bN g
 exact g
theorem g2.ok(Y:aD)(X:Fr)(Z:U)(g:bJ.g (fun a b c aJ aH aG bY d bW e f Z=>∃ n,bJ.t Y n a b c aJ aH aG bY d bW e f Z) X Z):den prog E (a4 aO [W,W,W,W,aR,W]) (a2.then (aZ.g Y) (a7 E [.tmp 4] Y)) X Z:=
 fA (by kernel_rfl) (bJ.ok Y X Z g)
def bF.t(Y:aD)(a:M)(b c:Nat)(aJ:M)(aH aG:Nat)(bY:M)(d bW:Nat)(e:Int)(Z:U):Prop:=
 (∃ n,bJ.t Y n a b c aJ aH aG bY d bW e 0 Z)
def bF.g(Y:aD)(X:Fr)(Z:U):Prop:=aU (X 0) fun a b c=>aU (X 1) fun aJ aH aG=>aU (X 5) fun bY d bW=>aW .u64 (X 6) fun e=>bF.t Y a b c aJ aH aG bY d bW e Z
theorem bF.ok(Y:aD)(X:Fr)(Z:U)(g:bF.g Y X Z):den prog E (a4 aO [W,W,W,W,aR]) (a2.then (aZ.g Y) (a7 E [.tmp 4] Y)) X Z:=
 bE g fun a b c d g=>bE g fun aJ aH aG e g=>bE g fun bY f bW h g=>a8 g fun i j g=>c4 1 (r:=(a4 aO [W,W,W,W,aR,W])) (by kernel_rfl) (g2.ok Y) (bT [(0,.slice a b c),(1,.slice aJ aH aG),(5,.slice bY f bW),(6,.int .u64 i)] ⟨d,e,h,j,trivial⟩ (by kernel_rfl) g)
theorem g3.ok(Y:aD)(X:Fr)(Z:U)(g:bF.g Y X Z):den prog E (a4 aO [W,W,W,W]) (a7 E [.tmp 4] Y) X Z:=
 fZ (by kernel_rfl) (aZ.ok Y) (bF.ok Y X Z g)
def aM.t(Y:aD)(a:M)(b c:Nat)(aJ:M)(aH aG:Nat)(Z:U):Prop:=
 a0 h8.id #[.slice a b c,.slice aJ aH aG] Z fun d e=>
 aW .i64 d fun d=>
 cond (decide (d≤0)) (a0 hM.id #[.int .u64 0] e fun d f=>
 aU d fun d g h=>
 Y (.slice d g h) f) (h5 e 89 h1 0 (((b:Nat):Int)) fun d e=>
 bF.t Y a b c aJ aH aG (some d) ((0:Int).toNat) ((((b:Nat):Int)).toNat) 0 e)
def aM.g(Y:aD)(X:Fr)(Z:U):Prop:=aU (X 0) fun a b c=>aU (X 1) fun aJ aH aG=>aM.t Y a b c aJ aH aG Z
theorem aM.ok(Y:aD)(X:Fr)(Z:U)(g:aM.g Y X Z):den prog E aO (a7 E [.tmp 4] Y) X Z:=
 bE g fun a b c d g=>bE g fun aJ aH aG e g=>c4 4 (r:=(a4 aO [W,W,W,W])) (by kernel_rfl) (g3.ok Y) (bT [(0,.slice a b c),(1,.slice aJ aH aG)] ⟨d,e,trivial⟩ (by kernel_rfl) g)
def t(a:M)(b c:Nat)(aJ:M)(aH aG:Nat)(Z:U)(Y:aD):Prop:=aM.t Y a b c aJ aH aG Z
theorem ok{a:M}{b:Nat}{d:Nat}{aJ:M}{aH:Nat}{aG:Nat}{Z:U}{Y:aD}(g:t a b d aJ aH aG Z Y):a0 id #[.slice a b d,.slice aJ aH aG] Z Y:=
 dQ dH (c:=aO) (dE:=[.tmp 4]) Tryz.func49 (by kernel_rfl) (by kernel_rfl) (by kernel_rfl) (args:=[.slice a b d,.slice aJ aH aG]) (by kernel_rfl) (aM.ok Y _ Z (bD rfl (bD rfl (g))))
end hN
namespace gV
noncomputable def aO:Code:=dO Tryz.f50
def aZ.t(Y:aD)(a:M)(b c:Nat)(d:Int)(Z:U):Prop:=
 h5 Z 89 h1 d d fun b1 e=>
 hX 1 a b c none (some (.int .i64 d)) none fun a b c=>
 mF e 1 (some b1) d.toNat (.slice a b c) fun a a=>
 Y (.slice (some b1) d.toNat d.toNat) a
def aZ.g(Y:aD)(X:Fr)(Z:U):Prop:=aU (X 0) fun a b c=>aW .i64 (X 3) fun d=>aZ.t Y a b c d Z
theorem aZ.ok(Y:aD)(X:Fr)(Z:U)(g:aZ.g Y X Z):den prog E (a4 aO [W,W,W]) (a7 E [.tmp 2] Y) X Z:=
 bE g fun a b c d g=>a8 g fun e f g=>bT [(0,.slice a b c),(3,.int .i64 e)] ⟨d,f,trivial⟩ (by kernel_rfl) g
def cJ.g(a:M→Nat→Nat→Int→U→Prop)(X:Fr)(Z:U):Prop:=aU (X 0) fun b c d=>aW .i64 (X 3) fun e=>a b c d e Z
def cF.t(Y:aD)(a:M→Nat→Nat→Int→U→Prop)(b:M)(c d:Nat)(e:Int)(Z:U):Prop:=
 cond (decide (e > 0)) (a6 (IntKind.i64.wrap (e - 1)) fun f=>
 c2 b c f 1 fun f=>
 cX Z .u32 f fun f=>
 cond (f == 0) (a6 (IntKind.i64.wrap (e - 1)) fun f=>
 a b c d f Z) (aZ.t Y b c d e Z)) (aZ.t Y b c d e Z)
def cF.g(Y:aD)(a:M→Nat→Nat→Int→U→Prop)(X:Fr)(Z:U):Prop:=aU (X 0) fun b c d=>aW .i64 (X 3) fun e=>cF.t Y a b c d e Z
theorem cF.ok(Y:aD)(a:M→Nat→Nat→Int→U→Prop)(X:Fr)(Z:U)(g:cF.g Y a X Z):den prog E (a4 aO [W,W,aR,aR,aR]) (a2.then (cJ.g a) (a2.inBlock 0 (a2.then (aZ.g Y) (a7 E [.tmp 2] Y)))) X Z:=
 bE g fun a b c d g=>a8 g fun e f g=>bT [(0,.slice a b c),(3,.int .i64 e)] ⟨d,f,trivial⟩ (by kernel_rfl) g
def cJ.t(Y:aD):Nat→M→Nat→Nat→Int→U→Prop
 | 0=>fun _ _ _ _ _=>False
 | n+1=>fun a b c d Z=>cF.t Y (cJ.t Y n) a b c d Z
theorem cJ.ok(Y:aD)(X:Fr)(Z:U)(g:cJ.g (fun a b c d Z=>∃ n,cJ.t Y n a b c d Z) X Z):den prog E (a4 aO [W,W,aR,aR]) (a2.inBlock 0 (a2.then (aZ.g Y) (a7 E [.tmp 2] Y))) X Z:=by
 obtain⟨a,b,c,e,g⟩:=b0 g
 obtain⟨d,f,g⟩:=bN g
 obtain⟨n,g⟩:=g
 refine fK (fun n=>cJ.g (cJ.t Y n)) (K:=(a4 aO [W,W,aR,aR,aR])) (by kernel_rfl) (fun X Z g=>?_) (fun n=>cF.ok Y (cJ.t Y n)) n X Z (bD e (bR f (g)))
 obtain⟨a,b,c,e,g⟩:=b0 g
 obtain⟨d,f,g⟩:=bN g
 exact g
theorem hD.ok(Y:aD)(X:Fr)(Z:U)(g:cJ.g (fun a b c d Z=>∃ n,cJ.t Y n a b c d Z) X Z):den prog E (a4 aO [W,W,aR]) (a2.then (aZ.g Y) (a7 E [.tmp 2] Y)) X Z:=
 fA (by kernel_rfl) (cJ.ok Y X Z g)
theorem p2.ok(Y:aD)(X:Fr)(Z:U)(g:cJ.g (fun a b c d Z=>∃ n,cJ.t Y n a b c d Z) X Z):den prog E (a4 aO [W,W]) (a7 E [.tmp 2] Y) X Z:=
 fZ (by kernel_rfl) (aZ.ok Y) (hD.ok Y X Z g)
def aM.t(Y:aD)(a:M)(b c:Nat)(Z:U):Prop:=
 (∃ n,cJ.t Y n a b c (((b:Nat):Int)) Z)
def aM.g(Y:aD)(X:Fr)(Z:U):Prop:=aU (X 0) fun a b c=>aM.t Y a b c Z
theorem aM.ok(Y:aD)(X:Fr)(Z:U)(g:aM.g Y X Z):den prog E aO (a7 E [.tmp 2] Y) X Z:=
 bE g fun a b c d g=>c4 2 (r:=(a4 aO [W,W])) (by kernel_rfl) (p2.ok Y) (bT [(0,.slice a b c)] ⟨d,trivial⟩ (by kernel_rfl) g)
def t(a:M)(b c:Nat)(Z:U)(Y:aD):Prop:=aM.t Y a b c Z
theorem ok{a:M}{b:Nat}{d:Nat}{Z:U}{Y:aD}(g:t a b d Z Y):a0 id #[.slice a b d] Z Y:=
 dQ dH (c:=aO) (dE:=[.tmp 2]) Tryz.func50 (by kernel_rfl) (by kernel_rfl) (by kernel_rfl) (args:=[.slice a b d]) (by kernel_rfl) (aM.ok Y _ Z (bD rfl (g)))
end gV
namespace kB
noncomputable def aO:Code:=dO Tryz.f51
def aZ.t(Y:aD)(a:M)(b c:Nat)(aK:Int)(Z:U):Prop:=
 (32:Int) ≠ 0∧a6 (IntKind.i64.wrap (Int.tdiv aK 32)) fun d=>
 (32:Int) ≠ 0∧a6 (IntKind.i64.wrap (Int.tdiv aK 32)) fun e=>
 a6 (IntKind.i64.wrap (e+(((b:Nat):Int)))) fun e=>
 a6 (IntKind.i64.wrap (e+1)) fun e=>
 h5 Z 89 h1 d e fun f g=>
 (32:Int) ≠ 0∧a6 (Int.tmod aK 32) fun h=>
 0≤h∧a6 (hW .u32 1 h) fun h=>
 a0 j4.id #[.slice a b c,.int .u32 h,.int .u32 0] g fun a b=>
 aU a fun a c g=>
 hF b 89 h1 (some f) d.toNat e.toNat (.slice a c g) fun a b c d=>
 a0 gV.id #[.slice a b c] d fun a b=>
 aU a fun a c d=>
 Y (.slice a c d) b
def aZ.g(Y:aD)(X:Fr)(Z:U):Prop:=aU (X 0) fun a b c=>aW .i64 (X 1) fun aK=>aZ.t Y a b c aK Z
theorem aZ.ok(Y:aD)(X:Fr)(Z:U)(g:aZ.g Y X Z):den prog E (a4 aO [W,W]) (a7 E [.tmp 4] Y) X Z:=
 bE g fun a b c d g=>a8 g fun aK e g=>bT [(0,.slice a b c),(1,.int .i64 aK)] ⟨d,e,trivial⟩ (by kernel_rfl) g
def aM.t(Y:aD)(a:M)(b c:Nat)(aK:Int)(Z:U):Prop:=
 cond (decide (aK≤0)) (a0 gV.id #[.slice a b c] Z fun d e=>
 aU d fun d f g=>
 Y (.slice d f g) e) (cond ((((b:Nat):Int)) == 0) (a0 gV.id #[.slice a b c] Z fun d e=>
 aU d fun d f g=>
 Y (.slice d f g) e) (aZ.t Y a b c aK Z))
def aM.g(Y:aD)(X:Fr)(Z:U):Prop:=aU (X 0) fun a b c=>aW .i64 (X 1) fun aK=>aM.t Y a b c aK Z
theorem aM.ok(Y:aD)(X:Fr)(Z:U)(g:aM.g Y X Z):den prog E aO (a7 E [.tmp 4] Y) X Z:=
 bE g fun a b c d g=>a8 g fun aK e g=>c4 2 (r:=(a4 aO [W,W])) (by kernel_rfl) (aZ.ok Y) (bT [(0,.slice a b c),(1,.int .i64 aK)] ⟨d,e,trivial⟩ (by kernel_rfl) g)
def t(a:M)(b c:Nat)(aK:Int)(Z:U)(Y:aD):Prop:=aM.t Y a b c aK Z
theorem ok{a:M}{b:Nat}{d:Nat}{aK:Int}{Z:U}{Y:aD}(g:t a b d aK Z Y):a0 id #[.slice a b d,.int .i64 aK] Z Y:=
 dQ dH (c:=aO) (dE:=[.tmp 4]) Tryz.func51 (by kernel_rfl) (by kernel_rfl) (by kernel_rfl) (args:=[.slice a b d,.int .i64 aK]) (by kernel_rfl) (aM.ok Y _ Z (bD rfl (bR rfl (g))))
end kB
namespace jI
noncomputable def aO:Code:=dO Tryz.f53
def aZ.t(Y:aD)(a:M)(a b:Nat)(a9:M)(b bB:Nat)(c:Int)(Z:U):Prop:=
 c2 a9 b (((a:Nat):Int)) 1 fun a=>
 b3 Z a (.int .u64 c) fun a=>
 a0 mK.id #[.slice a9 b bB] a fun a fX=>
 c1 a fun a=>
 cR a fun a b c d=>
 dM d .i64 fun d e=>
 b6 e <| Y (.tuple #[.slice a b c,.int .i64 d]) fX
def aZ.g(Y:aD)(X:Fr)(Z:U):Prop:=aU (X 0) fun a b c=>aU (X 6) fun a9 d bB=>aW .u64 (X 7) fun e=>aZ.t Y a b c a9 d bB e Z
theorem aZ.ok(Y:aD)(X:Fr)(Z:U)(g:aZ.g Y X Z):den prog E (a4 aO [W,W,W,W,W]) (a7 E [.tmp 4,.tmp 5] Y) X Z:=
 bE g fun a b c d g=>bE g fun a9 e bB f g=>a8 g fun h i g=>bT [(0,.slice a b c),(6,.slice a9 e bB),(7,.int .u64 h)] ⟨d,f,i,trivial⟩ (by kernel_rfl) g
def bJ.g(a:M→Nat→Nat→Int→M→Nat→Nat→Int→Int→Int→U→Prop)(X:Fr)(Z:U):Prop:=aU (X 0) fun b c d=>aW .u64 (X 1) fun aK=>aU (X 6) fun a9 e bB=>aW .u64 (X 7) fun f=>aW .i64 (X 20) fun h=>aW .i64 (X 21) fun i=>a b c d aK a9 e bB f h i Z
def b9.t(Y:aD)(a:M→Nat→Nat→Int→M→Nat→Nat→Int→Int→Int→U→Prop)(b:M)(c d:Nat)(aK:Int)(a9:M)(e bB:Nat)(f g h:Int)(Z:U):Prop:=
 cond (decide (h < g)) (c2 b c h 1 fun i=>
 cX Z .u64 i fun i=>
 a0 pG.id #[.int .u64 i,.int .u64 aK] Z fun i j=>
 c1 i fun i=>
 dM i .u64 fun i k=>
 dM k .u64 fun k l=>
 b6 l <| mV k f 0 fun k l=>
 c2 a9 e h 1 fun m=>
 b3 j m (.int .u64 k) fun j=>
 a6 (IntKind.u64.wrap (i+l)) fun i=>
 a6 (IntKind.i64.wrap (h+1)) fun h=>
 a b c d aK a9 e bB i g h j) (aZ.t Y b c d a9 e bB f Z)
def b9.g(Y:aD)(a:M→Nat→Nat→Int→M→Nat→Nat→Int→Int→Int→U→Prop)(X:Fr)(Z:U):Prop:=aU (X 0) fun b c d=>aW .u64 (X 1) fun aK=>aU (X 6) fun a9 e bB=>aW .u64 (X 7) fun f=>aW .i64 (X 20) fun h=>aW .i64 (X 21) fun i=>b9.t Y a b c d aK a9 e bB f h i Z
theorem b9.ok(Y:aD)(a:M→Nat→Nat→Int→M→Nat→Nat→Int→Int→Int→U→Prop)(X:Fr)(Z:U)(g:b9.g Y a X Z):den prog E (a4 aO [W,W,W,W,aR,W,aR,aR]) (a2.then (bJ.g a) (a2.inBlock 0 (a2.then (aZ.g Y) (a7 E [.tmp 4,.tmp 5] Y)))) X Z:=
 bE g fun a b c d g=>a8 g fun aK e g=>bE g fun a9 f bB h g=>a8 g fun i j g=>a8 g fun k l g=>a8 g fun m n g=>bT [(0,.slice a b c),(1,.int .u64 aK),(6,.slice a9 f bB),(7,.int .u64 i),(20,.int .i64 k),(21,.int .i64 m)] ⟨d,e,h,j,l,n,trivial⟩ (by kernel_rfl) g
def bJ.t(Y:aD):Nat→M→Nat→Nat→Int→M→Nat→Nat→Int→Int→Int→U→Prop
 | 0=>fun _ _ _ _ _ _ _ _ _ _ _=>False
 | n+1=>fun a b c aK a9 d bB e f g Z=>b9.t Y (bJ.t Y n) a b c aK a9 d bB e f g Z
theorem bJ.ok(Y:aD)(X:Fr)(Z:U)(g:bJ.g (fun a b c aK a9 d bB e f h Z=>∃ n,bJ.t Y n a b c aK a9 d bB e f h Z) X Z):den prog E (a4 aO [W,W,W,W,aR,W,aR]) (a2.inBlock 0 (a2.then (aZ.g Y) (a7 E [.tmp 4,.tmp 5] Y))) X Z:=by
 obtain⟨a,b,c,i,g⟩:=b0 g
 obtain⟨aK,j,g⟩:=bN g
 obtain⟨a9,d,bB,k,g⟩:=b0 g
 obtain⟨e,l,g⟩:=bN g
 obtain⟨f,m,g⟩:=bN g
 obtain⟨h,o,g⟩:=bN g
 obtain⟨n,g⟩:=g
 refine fK (fun n=>bJ.g (bJ.t Y n)) (K:=(a4 aO [W,W,W,W,aR,W,aR,aR])) (by kernel_rfl) (fun X Z g=>?_) (fun n=>b9.ok Y (bJ.t Y n)) n X Z (bD i (bR j (bD k (bR l (bR m (bR o (g)))))))
 obtain⟨a,b,c,i,g⟩:=b0 g
 obtain⟨aK,j,g⟩:=bN g
 obtain⟨a9,d,bB,k,g⟩:=b0 g
 obtain⟨e,l,g⟩:=bN g
 obtain⟨f,m,g⟩:=bN g
 obtain⟨h,o,g⟩:=bN g
 exact g
theorem g2.ok(Y:aD)(X:Fr)(Z:U)(g:bJ.g (fun a b c aK a9 d bB e f h Z=>∃ n,bJ.t Y n a b c aK a9 d bB e f h Z) X Z):den prog E (a4 aO [W,W,W,W,aR,W]) (a2.then (aZ.g Y) (a7 E [.tmp 4,.tmp 5] Y)) X Z:=
 fA (by kernel_rfl) (bJ.ok Y X Z g)
def bF.t(Y:aD)(a:M)(b c:Nat)(aK:Int)(a9:M)(d bB:Nat)(e:Int)(Z:U):Prop:=
 (∃ n,bJ.t Y n a b c aK a9 d bB e (((b:Nat):Int)) 0 Z)
def bF.g(Y:aD)(X:Fr)(Z:U):Prop:=aU (X 0) fun a b c=>aW .u64 (X 1) fun aK=>aU (X 6) fun a9 d bB=>aW .u64 (X 7) fun e=>bF.t Y a b c aK a9 d bB e Z
theorem bF.ok(Y:aD)(X:Fr)(Z:U)(g:bF.g Y X Z):den prog E (a4 aO [W,W,W,W,aR]) (a2.then (aZ.g Y) (a7 E [.tmp 4,.tmp 5] Y)) X Z:=
 bE g fun a b c d g=>a8 g fun aK e g=>bE g fun a9 f bB h g=>a8 g fun i j g=>c4 1 (r:=(a4 aO [W,W,W,W,aR,W])) (by kernel_rfl) (g2.ok Y) (bT [(0,.slice a b c),(1,.int .u64 aK),(6,.slice a9 f bB),(7,.int .u64 i)] ⟨d,e,h,j,trivial⟩ (by kernel_rfl) g)
theorem g3.ok(Y:aD)(X:Fr)(Z:U)(g:bF.g Y X Z):den prog E (a4 aO [W,W,W,W]) (a7 E [.tmp 4,.tmp 5] Y) X Z:=
 fZ (by kernel_rfl) (aZ.ok Y) (bF.ok Y X Z g)
def aM.t(Y:aD)(a:M)(b c:Nat)(aK:Int)(Z:U):Prop:=
 a0 j1.id #[.slice a b c] Z fun d e=>
 eS d fun d=>
 cond (!d) (Y (.tuple #[.slice none 0 0,.int .i64 2]) e) (a6 (IntKind.i64.wrap ((((b:Nat):Int))+1)) fun d=>
 h5 e 35 j3 d d fun e f=>
 bF.t Y a b c aK (some e) d.toNat d.toNat 0 f)
def aM.g(Y:aD)(X:Fr)(Z:U):Prop:=aU (X 0) fun a b c=>aW .u64 (X 1) fun aK=>aM.t Y a b c aK Z
theorem aM.ok(Y:aD)(X:Fr)(Z:U)(g:aM.g Y X Z):den prog E aO (a7 E [.tmp 4,.tmp 5] Y) X Z:=
 bE g fun a b c d g=>a8 g fun aK e g=>c4 4 (r:=(a4 aO [W,W,W,W])) (by kernel_rfl) (g3.ok Y) (bT [(0,.slice a b c),(1,.int .u64 aK)] ⟨d,e,trivial⟩ (by kernel_rfl) g)
def t(a:M)(b c:Nat)(aK:Int)(Z:U)(Y:aD):Prop:=aM.t Y a b c aK Z
theorem ok{a:M}{b:Nat}{d:Nat}{aK:Int}{Z:U}{Y:aD}(g:t a b d aK Z Y):a0 id #[.slice a b d,.int .u64 aK] Z Y:=
 dQ dH (c:=aO) (dE:=[.tmp 4,.tmp 5]) Tryz.func53 (by kernel_rfl) (by kernel_rfl) (by kernel_rfl) (args:=[.slice a b d,.int .u64 aK]) (by kernel_rfl) (aM.ok Y _ Z (bD rfl (bR rfl (g))))
end jI
namespace iS
noncomputable def aO:Code:=dO Tryz.f54
def cF.t(Y:aD)(a:M)(a b:Nat)(a9:M)(b bB:Nat)(c:Int)(Z:U):Prop:=
 c2 a9 b (((a:Nat):Int)) 1 fun a=>
 b3 Z a (.int .u64 c) fun a=>
 a0 mK.id #[.slice a9 b bB] a fun a b=>
 c1 a fun a=>
 cR a fun a c d e=>
 dM e .i64 fun e f=>
 b6 f <| Y (.tuple #[.slice a c d,.int .i64 e]) b
def cF.g(Y:aD)(X:Fr)(Z:U):Prop:=aU (X 0) fun a b c=>aU (X 6) fun a9 d bB=>aW .u64 (X 7) fun e=>cF.t Y a b c a9 d bB e Z
theorem cF.ok(Y:aD)(X:Fr)(Z:U)(g:cF.g Y X Z):den prog E (a4 aO [W,W,W,W,W,W]) (a7 E [.tmp 4,.tmp 5] Y) X Z:=
 bE g fun a b c d g=>bE g fun a9 e bB f g=>a8 g fun h i g=>bT [(0,.slice a b c),(6,.slice a9 e bB),(7,.int .u64 h)] ⟨d,f,i,trivial⟩ (by kernel_rfl) g
def gG.g(a:M→Nat→Nat→M→Nat→Nat→M→Nat→Nat→Int→Int→Int→U→Prop)(X:Fr)(Z:U):Prop:=aU (X 0) fun b c d=>aU (X 1) fun aJ aH aG=>aU (X 6) fun a9 e bB=>aW .u64 (X 7) fun f=>aW .i64 (X 30) fun h=>aW .i64 (X 31) fun i=>a b c d aJ aH aG a9 e bB f h i Z
def eR.t(Y:aD)(a:M→Nat→Nat→M→Nat→Nat→M→Nat→Nat→Int→Int→Int→U→Prop)(b:M)(c d:Nat)(aJ:M)(aH aG:Nat)(a9:M)(e bB:Nat)(f g h:Int)(Z:U):Prop:=
 cond (decide (h < g)) (cond (decide (h < (((aH:Nat):Int)))) (c2 aJ aH h 1 fun i=>
 cX Z .u64 i fun i=>
 c2 b c h 1 fun j=>
 cX Z .u64 j fun j=>
 mV j i f fun i j=>
 c2 a9 e h 1 fun k=>
 b3 Z k (.int .u64 i) fun i=>
 a6 (IntKind.i64.wrap (h+1)) fun k=>
 a b c d aJ aH aG a9 e bB j g k i) (c2 b c h 1 fun i=>
 cX Z .u64 i fun i=>
 mV i 0 f fun i m32=>
 c2 a9 e h 1 fun j=>
 b3 Z j (.int .u64 i) fun i=>
 a6 (IntKind.i64.wrap (h+1)) fun h=>
 a b c d aJ aH aG a9 e bB m32 g h i)) (cF.t Y b c d a9 e bB f Z)
def eR.g(Y:aD)(a:M→Nat→Nat→M→Nat→Nat→M→Nat→Nat→Int→Int→Int→U→Prop)(X:Fr)(Z:U):Prop:=aU (X 0) fun b c d=>aU (X 1) fun aJ aH aG=>aU (X 6) fun a9 e bB=>aW .u64 (X 7) fun f=>aW .i64 (X 30) fun h=>aW .i64 (X 31) fun i=>eR.t Y a b c d aJ aH aG a9 e bB f h i Z
theorem eR.ok(Y:aD)(a:M→Nat→Nat→M→Nat→Nat→M→Nat→Nat→Int→Int→Int→U→Prop)(X:Fr)(Z:U)(g:eR.g Y a X Z):den prog E (a4 aO [W,W,W,W,W,aR,W,aR,aR]) (a2.then (gG.g a) (a2.inBlock 0 (a2.then (cF.g Y) (a7 E [.tmp 4,.tmp 5] Y)))) X Z:=
 bE g fun a b c d g=>bE g fun aJ aH aG e g=>bE g fun a9 f bB h g=>a8 g fun i j g=>a8 g fun k l g=>a8 g fun m n g=>bT [(0,.slice a b c),(1,.slice aJ aH aG),(6,.slice a9 f bB),(7,.int .u64 i),(30,.int .i64 k),(31,.int .i64 m)] ⟨d,e,h,j,l,n,trivial⟩ (by kernel_rfl) g
def gG.t(Y:aD):Nat→M→Nat→Nat→M→Nat→Nat→M→Nat→Nat→Int→Int→Int→U→Prop
 | 0=>fun _ _ _ _ _ _ _ _ _ _ _ _ _=>False
 | n+1=>fun a b c aJ aH aG a9 d bB e f g Z=>eR.t Y (gG.t Y n) a b c aJ aH aG a9 d bB e f g Z
theorem gG.ok(Y:aD)(X:Fr)(Z:U)(g:gG.g (fun a b c aJ aH aG a9 d bB e f h Z=>∃ n,gG.t Y n a b c aJ aH aG a9 d bB e f h Z) X Z):den prog E (a4 aO [W,W,W,W,W,aR,W,aR]) (a2.inBlock 0 (a2.then (cF.g Y) (a7 E [.tmp 4,.tmp 5] Y))) X Z:=by
 obtain⟨a,b,c,i,g⟩:=b0 g
 obtain⟨aJ,aH,aG,j,g⟩:=b0 g
 obtain⟨a9,d,bB,k,g⟩:=b0 g
 obtain⟨e,l,g⟩:=bN g
 obtain⟨f,m,g⟩:=bN g
 obtain⟨h,o,g⟩:=bN g
 obtain⟨n,g⟩:=g
 refine fK (fun n=>gG.g (gG.t Y n)) (K:=(a4 aO [W,W,W,W,W,aR,W,aR,aR])) (by kernel_rfl) (fun X Z g=>?_) (fun n=>eR.ok Y (gG.t Y n)) n X Z (bD i (bD j (bD k (bR l (bR m (bR o (g)))))))
 obtain⟨a,b,c,i,g⟩:=b0 g
 obtain⟨aJ,aH,aG,j,g⟩:=b0 g
 obtain⟨a9,d,bB,k,g⟩:=b0 g
 obtain⟨e,l,g⟩:=bN g
 obtain⟨f,m,g⟩:=bN g
 obtain⟨h,o,g⟩:=bN g
 exact g
theorem MY.ok(Y:aD)(X:Fr)(Z:U)(g:gG.g (fun a b c aJ aH aG a9 d bB e f h Z=>∃ n,gG.t Y n a b c aJ aH aG a9 d bB e f h Z) X Z):den prog E (a4 aO [W,W,W,W,W,aR,W]) (a2.then (cF.g Y) (a7 E [.tmp 4,.tmp 5] Y)) X Z:=
 fA (by kernel_rfl) (gG.ok Y X Z g)
def b9.t(Y:aD)(a:M)(b c:Nat)(aJ:M)(aH aG:Nat)(a9:M)(d bB:Nat)(e:Int)(Z:U):Prop:=
 (∃ n,gG.t Y n a b c aJ aH aG a9 d bB e (((b:Nat):Int)) 0 Z)
def b9.g(Y:aD)(X:Fr)(Z:U):Prop:=aU (X 0) fun a b c=>aU (X 1) fun aJ aH aG=>aU (X 6) fun a9 d bB=>aW .u64 (X 7) fun e=>b9.t Y a b c aJ aH aG a9 d bB e Z
theorem b9.ok(Y:aD)(X:Fr)(Z:U)(g:b9.g Y X Z):den prog E (a4 aO [W,W,W,W,W,aR]) (a2.then (cF.g Y) (a7 E [.tmp 4,.tmp 5] Y)) X Z:=
 bE g fun a b c d g=>bE g fun aJ aH aG e g=>bE g fun a9 f bB h g=>a8 g fun i j g=>c4 1 (r:=(a4 aO [W,W,W,W,W,aR,W])) (by kernel_rfl) (MY.ok Y) (bT [(0,.slice a b c),(1,.slice aJ aH aG),(6,.slice a9 f bB),(7,.int .u64 i)] ⟨d,e,h,j,trivial⟩ (by kernel_rfl) g)
theorem MZ.ok(Y:aD)(X:Fr)(Z:U)(g:b9.g Y X Z):den prog E (a4 aO [W,W,W,W,W]) (a7 E [.tmp 4,.tmp 5] Y) X Z:=
 fZ (by kernel_rfl) (cF.ok Y) (b9.ok Y X Z g)
def bF.t(Y:aD)(a:M)(b c:Nat)(aJ:M)(aH aG:Nat)(Z:U):Prop:=
 a6 (IntKind.i64.wrap ((((b:Nat):Int))+1)) fun d=>
 h5 Z 35 j3 d d fun e f=>
 b9.t Y a b c aJ aH aG (some e) d.toNat d.toNat 0 f
def bF.g(Y:aD)(X:Fr)(Z:U):Prop:=aU (X 0) fun a b c=>aU (X 1) fun aJ aH aG=>bF.t Y a b c aJ aH aG Z
theorem bF.ok(Y:aD)(X:Fr)(Z:U)(g:bF.g Y X Z):den prog E (a4 aO [W,W,W]) (a7 E [.tmp 4,.tmp 5] Y) X Z:=
 bE g fun a b c d g=>bE g fun aJ aH aG e g=>c4 2 (r:=(a4 aO [W,W,W,W,W])) (by kernel_rfl) (MZ.ok Y) (bT [(0,.slice a b c),(1,.slice aJ aH aG)] ⟨d,e,trivial⟩ (by kernel_rfl) g)
def aZ.t(Y:aD)(a:M)(b c:Nat)(aJ:M)(aH aG:Nat)(Z:U):Prop:=
 cond (decide ((((b:Nat):Int)) < (((aH:Nat):Int)))) (bF.t Y aJ aH aG a b c Z) (bF.t Y a b c aJ aH aG Z)
def aZ.g(Y:aD)(X:Fr)(Z:U):Prop:=aU (X 0) fun a b c=>aU (X 1) fun aJ aH aG=>aZ.t Y a b c aJ aH aG Z
theorem aZ.ok(Y:aD)(X:Fr)(Z:U)(g:aZ.g Y X Z):den prog E (a4 aO [W,W]) (a7 E [.tmp 4,.tmp 5] Y) X Z:=
 bE g fun a b c d g=>bE g fun aJ aH aG e g=>c4 1 (r:=(a4 aO [W,W,W])) (by kernel_rfl) (bF.ok Y) (bT [(0,.slice a b c),(1,.slice aJ aH aG)] ⟨d,e,trivial⟩ (by kernel_rfl) g)
def aM.t(Y:aD)(a:M)(b c:Nat)(aJ:M)(aH aG:Nat)(Z:U):Prop:=
 a0 j1.id #[.slice a b c] Z fun d e=>
 eS d fun d=>
 cond (!d) (Y (.tuple #[.slice none 0 0,.int .i64 2]) e) (a0 j1.id #[.slice aJ aH aG] e fun d e=>
 eS d fun d=>
 cond (!d) (Y (.tuple #[.slice none 0 0,.int .i64 2]) e) (aZ.t Y a b c aJ aH aG e))
def aM.g(Y:aD)(X:Fr)(Z:U):Prop:=aU (X 0) fun a b c=>aU (X 1) fun aJ aH aG=>aM.t Y a b c aJ aH aG Z
theorem aM.ok(Y:aD)(X:Fr)(Z:U)(g:aM.g Y X Z):den prog E aO (a7 E [.tmp 4,.tmp 5] Y) X Z:=
 bE g fun a b c d g=>bE g fun aJ aH aG e g=>c4 2 (r:=(a4 aO [W,W])) (by kernel_rfl) (aZ.ok Y) (bT [(0,.slice a b c),(1,.slice aJ aH aG)] ⟨d,e,trivial⟩ (by kernel_rfl) g)
def t(a:M)(b c:Nat)(aJ:M)(aH aG:Nat)(Z:U)(Y:aD):Prop:=aM.t Y a b c aJ aH aG Z
theorem ok{a:M}{b:Nat}{d:Nat}{aJ:M}{aH:Nat}{aG:Nat}{Z:U}{Y:aD}(g:t a b d aJ aH aG Z Y):a0 id #[.slice a b d,.slice aJ aH aG] Z Y:=
 dQ dH (c:=aO) (dE:=[.tmp 4,.tmp 5]) Tryz.func54 (by kernel_rfl) (by kernel_rfl) (by kernel_rfl) (args:=[.slice a b d,.slice aJ aH aG]) (by kernel_rfl) (aM.ok Y _ Z (bD rfl (bD rfl (g))))
end iS
namespace oW
noncomputable def aO:Code:=dO Tryz.f55
def cJ.g(a:Int→Int→U→Prop)(X:Fr)(Z:U):Prop:=aW .i64 (X 0) fun aX=>aW .i64 (X 4) fun b=>a aX b Z
def cF.t(Y:aD)(a:Int→Int→U→Prop)(aX b:Int)(Z:U):Prop:=
 a6 (IntKind.i64.wrap (aX+b)) fun eF=>
 a0 qV.id #[.int .i64 eF] Z fun c d=>
 c1 c fun c=>
 cR c fun c e f g=>
 cR g fun g h i j=>
 b6 j <| a0 jT.id #[.int .u64 1] d fun d fX=>
 aU d fun d j k=>
 a6 (IntKind.i64.wrap (2*aX)) fun l=>
 a6 (IntKind.i64.wrap (l+b)) fun l=>
 a6 (IntKind.i64.wrap (l+1)) fun l=>
 a0 j5.id #[.slice d j k,.int .i64 l] fX fun d j=>
 c1 d fun d=>
 cR d fun d k l m=>
 dM m .i64 fun m m=>
 b6 m <| a0 l0.id #[.slice d k l,.slice g h i] j fun g h=>
 c1 g fun g=>
 cR g fun g i j m=>
 cR m fun m m m m=>
 dM m .i64 fun m m=>
 b6 m <| a0 l0.id #[.slice d k l,.slice c e f] h fun c d=>
 c1 c fun c=>
 cR c fun c e f h=>
 cR h fun h h h h=>
 dM h .i64 fun h h=>
 b6 h <| a0 iL.id #[.slice g i j,.slice c e f] d fun c d=>
 aW .i64 c fun c=>
 cond (c == 0) (Y (.tuple #[.slice g i j,.int .i64 0]) d) (a6 (IntKind.i64.wrap (b*2)) fun b=>
 a aX b d)
def cF.g(Y:aD)(a:Int→Int→U→Prop)(X:Fr)(Z:U):Prop:=aW .i64 (X 0) fun aX=>aW .i64 (X 4) fun b=>cF.t Y a aX b Z
theorem cF.ok(Y:aD)(a:Int→Int→U→Prop)(X:Fr)(Z:U)(g:cF.g Y a X Z):den prog E (a4 aO [W,W,W,aR,aR]) (a2.then (cJ.g a) (a2.inBlock 0 (a7 E [.tmp 2,.tmp 3] Y))) X Z:=
 a8 g fun aX a g=>a8 g fun b c g=>bT [(0,.int .i64 aX),(4,.int .i64 b)] ⟨a,c,trivial⟩ (by kernel_rfl) g
def cJ.t(Y:aD):Nat→Int→Int→U→Prop
 | 0=>fun _ _ _=>False
 | n+1=>fun aX a Z=>cF.t Y (cJ.t Y n) aX a Z
theorem cJ.ok(Y:aD)(X:Fr)(Z:U)(g:cJ.g (fun aX a Z=>∃ n,cJ.t Y n aX a Z) X Z):den prog E (a4 aO [W,W,W,aR]) (a2.inBlock 0 (a7 E [.tmp 2,.tmp 3] Y)) X Z:=by
 obtain⟨aX,b,g⟩:=bN g
 obtain⟨a,c,g⟩:=bN g
 obtain⟨n,g⟩:=g
 refine fK (fun n=>cJ.g (cJ.t Y n)) (K:=(a4 aO [W,W,W,aR,aR])) (by kernel_rfl) (fun X Z g=>?_) (fun n=>cF.ok Y (cJ.t Y n)) n X Z (bR b (bR c (g)))
 obtain⟨aX,b,g⟩:=bN g
 obtain⟨a,c,g⟩:=bN g
 exact g
theorem hD.ok(Y:aD)(X:Fr)(Z:U)(g:cJ.g (fun aX a Z=>∃ n,cJ.t Y n aX a Z) X Z):den prog E (a4 aO [W,W,W]) (a7 E [.tmp 2,.tmp 3] Y) X Z:=
 fA (by kernel_rfl) (cJ.ok Y X Z g)
def aZ.t(Y:aD)(aX:Int)(Z:U):Prop:=
 (∃ n,cJ.t Y n aX 48 Z)
def aZ.g(Y:aD)(X:Fr)(Z:U):Prop:=aW .i64 (X 0) fun aX=>aZ.t Y aX Z
theorem aZ.ok(Y:aD)(X:Fr)(Z:U)(g:aZ.g Y X Z):den prog E (a4 aO [W,W]) (a7 E [.tmp 2,.tmp 3] Y) X Z:=
 a8 g fun aX a g=>c4 1 (r:=(a4 aO [W,W,W])) (by kernel_rfl) (hD.ok Y) (bT [(0,.int .i64 aX)] ⟨a,trivial⟩ (by kernel_rfl) g)
def aM.t(Y:aD)(aX:Int)(Z:U):Prop:=
 cond (decide (aX < 1)) (Y (.tuple #[.slice none 0 0,.int .i64 1]) Z) (cond (decide (aX > 70000)) (Y (.tuple #[.slice none 0 0,.int .i64 1]) Z) (aZ.t Y aX Z))
def aM.g(Y:aD)(X:Fr)(Z:U):Prop:=aW .i64 (X 0) fun aX=>aM.t Y aX Z
theorem aM.ok(Y:aD)(X:Fr)(Z:U)(g:aM.g Y X Z):den prog E aO (a7 E [.tmp 2,.tmp 3] Y) X Z:=
 a8 g fun aX a g=>c4 2 (r:=(a4 aO [W,W])) (by kernel_rfl) (aZ.ok Y) (bT [(0,.int .i64 aX)] ⟨a,trivial⟩ (by kernel_rfl) g)
def t(aX:Int)(Z:U)(Y:aD):Prop:=aM.t Y aX Z
theorem ok{aX:Int}{Z:U}{Y:aD}(g:t aX Z Y):a0 id #[.int .i64 aX] Z Y:=
 dQ dH (c:=aO) (dE:=[.tmp 2,.tmp 3]) Tryz.func55 (by kernel_rfl) (by kernel_rfl) (by kernel_rfl) (args:=[.int .i64 aX]) (by kernel_rfl) (aM.ok Y _ Z (bR rfl (g)))
end oW
namespace nP
noncomputable def aO:Code:=dO Tryz.f56
def aZ.t(Y:aD)(bS:M)(a bU:Nat)(Z:U):Prop:=
 a0 mK.id #[.slice bS a bU] Z fun a b=>
 c1 a fun a=>
 cR a fun a c d e=>
 dM e .i64 fun e f=>
 b6 f <| Y (.tuple #[.slice a c d,.int .i64 e]) b
def aZ.g(Y:aD)(X:Fr)(Z:U):Prop:=aU (X 8) fun bS a bU=>aZ.t Y bS a bU Z
theorem aZ.ok(Y:aD)(X:Fr)(Z:U)(g:aZ.g Y X Z):den prog E (a4 aO [W,W,W,W,W,W,W]) (a7 E [.tmp 4,.tmp 5] Y) X Z:=
 bE g fun bS a bU b g=>bT [(8,.slice bS a bU)] ⟨b,trivial⟩ (by kernel_rfl) g
def aM.t(Y:aD)(a:M)(b c:Nat)(aK:Int)(Z:U):Prop:=
 cond (decide (aK < 0)) (Y (.tuple #[.slice none 0 0,.int .i64 1]) Z) (a0 j1.id #[.slice a b c] Z fun d e=>
 eS d fun d=>
 cond (!d) (Y (.tuple #[.slice none 0 0,.int .i64 2]) e) ((64:Int) ≠ 0∧a6 (IntKind.i64.wrap (Int.tdiv aK 64)) fun d=>
 (64:Int) ≠ 0∧a6 (Int.tmod aK 64) fun f=>
 h5 e 35 j3 (((b:Nat):Int)) (((b:Nat):Int)) fun e g=>
 mF g 1 (some e) ((((b:Nat):Int)).toNat) (.slice a b c) fun a a=>
 cond (decide (d < (((b:Nat):Int)))) (c2 (some e) ((((b:Nat):Int)).toNat) d 1 fun c=>
 cX a .u64 c fun c=>
 0≤f∧a6 (hW .u64 1 f) fun f=>
 a6 (IntKind.u64.wrap (f - 1)) fun f=>
 a6 (iV .u64 c f) fun c=>
 c2 (some e) ((((b:Nat):Int)).toNat) d 1 fun f=>
 b3 a f (.int .u64 c) fun c=>
 a6 (IntKind.i64.wrap (d+1)) fun d=>
 hX 1 (some e) ((((b:Nat):Int)).toNat) ((((b:Nat):Int)).toNat) none (some (.int .i64 d)) none fun d f g=>
 aZ.t Y d f g c) (aZ.t Y (some e) ((((b:Nat):Int)).toNat) ((((b:Nat):Int)).toNat) a)))
def aM.g(Y:aD)(X:Fr)(Z:U):Prop:=aU (X 0) fun a b c=>aW .i64 (X 1) fun aK=>aM.t Y a b c aK Z
theorem aM.ok(Y:aD)(X:Fr)(Z:U)(g:aM.g Y X Z):den prog E aO (a7 E [.tmp 4,.tmp 5] Y) X Z:=
 bE g fun a b c d g=>a8 g fun aK e g=>c4 7 (r:=(a4 aO [W,W,W,W,W,W,W])) (by kernel_rfl) (aZ.ok Y) (bT [(0,.slice a b c),(1,.int .i64 aK)] ⟨d,e,trivial⟩ (by kernel_rfl) g)
def t(a:M)(b c:Nat)(aK:Int)(Z:U)(Y:aD):Prop:=aM.t Y a b c aK Z
theorem ok{a:M}{b:Nat}{d:Nat}{aK:Int}{Z:U}{Y:aD}(g:t a b d aK Z Y):a0 id #[.slice a b d,.int .i64 aK] Z Y:=
 dQ dH (c:=aO) (dE:=[.tmp 4,.tmp 5]) Tryz.func56 (by kernel_rfl) (by kernel_rfl) (by kernel_rfl) (args:=[.slice a b d,.int .i64 aK]) (by kernel_rfl) (aM.ok Y _ Z (bD rfl (bR rfl (g))))
end nP
namespace q3
noncomputable def aO:Code:=dO Tryz.f57
def aM.t(Y:aD)(a:M)(b c:Nat)(Z:U):Prop:=
 cond ((((b:Nat):Int)) == 0) (Y (.slice none 0 0) Z) (a0 q2.id #[] Z fun d e=>
 aU d fun d f g=>
 a0 nX.id #[.slice d f g,.slice a b c,.int .u64 1] e fun a b=>
 aU a fun a c d=>
 Y (.slice a c d) b)
def aM.g(Y:aD)(X:Fr)(Z:U):Prop:=aU (X 0) fun a b c=>aM.t Y a b c Z
theorem aM.ok(Y:aD)(X:Fr)(Z:U)(g:aM.g Y X Z):den prog E aO (a7 E [.tmp 2] Y) X Z:=
 bE g fun a b c d g=>bT [(0,.slice a b c)] ⟨d,trivial⟩ (by kernel_rfl) g
def t(a:M)(b c:Nat)(Z:U)(Y:aD):Prop:=aM.t Y a b c Z
theorem ok{a:M}{b:Nat}{d:Nat}{Z:U}{Y:aD}(g:t a b d Z Y):a0 id #[.slice a b d] Z Y:=
 dQ dH (c:=aO) (dE:=[.tmp 2]) Tryz.func57 (by kernel_rfl) (by kernel_rfl) (by kernel_rfl) (args:=[.slice a b d]) (by kernel_rfl) (aM.ok Y _ Z (bD rfl (g)))
end q3
namespace jM
noncomputable def aO:Code:=dO Tryz.f58
def dF.g(a:Int→M→Nat→Nat→Int→M→Nat→Nat→Int→M→Nat→Nat→Int→U→Prop)(X:Fr)(Z:U):Prop:=aW .u64 (X 1) fun aK=>aU (X 6) fun a9 b bB=>aW .u64 (X 7) fun c=>aU (X 8) fun bS d bU=>aW .u64 (X 9) fun e=>aU (X 10) fun f h i=>aW .u64 (X 11) fun j=>a aK a9 b bB c bS d bU e f h i j Z
def iA.t(Y:aD)(cE:Int→M→Nat→Nat→Int→M→Nat→Nat→Int→M→Nat→Nat→Int→U→Prop)(aK:Int)(a9:M)(a bB:Nat)(b:Int)(bS:M)(c bU:Nat)(d:Int)(e:M)(f g:Nat)(h:Int)(i:Bool)(Z:U):Prop:=
 cond i (Y (.tuple #[.int .u64 b,.slice a9 a bB]) Z) (cE aK a9 a bB b bS c bU d e f g h Z)
def iA.g(Y:aD)(cE:Int→M→Nat→Nat→Int→M→Nat→Nat→Int→M→Nat→Nat→Int→U→Prop)(X:Fr)(Z:U):Prop:=aW .u64 (X 1) fun aK=>aU (X 6) fun a9 a bB=>aW .u64 (X 7) fun b=>aU (X 8) fun bS c bU=>aW .u64 (X 9) fun d=>aU (X 10) fun e f h=>aW .u64 (X 11) fun i=>eS (X 144) fun j=>iA.t Y cE aK a9 a bB b bS c bU d e f h i j Z
theorem iA.ok(Y:aD)(cE:Int→M→Nat→Nat→Int→M→Nat→Nat→Int→M→Nat→Nat→Int→U→Prop)(X:Fr)(Z:U)(g:iA.g Y cE X Z):den prog E (a4 aO [W,W,W,W,W,aR,aR,aR,W,W,W,W,W,W,W,W,W,W,W]) (a2.inBlock 1 (a2.then (dF.g cE) (a2.inBlock 0 (a7 E [.tmp 4,.tmp 5] Y)))) X Z:=
 a8 g fun aK a g=>bE g fun a9 b bB c g=>a8 g fun d e g=>bE g fun bS f bU h g=>a8 g fun i j g=>bE g fun k l m n g=>a8 g fun o p g=>vJ g fun q r g=>bT [(1,.int .u64 aK),(6,.slice a9 b bB),(7,.int .u64 d),(8,.slice bS f bU),(9,.int .u64 i),(10,.slice k l m),(11,.int .u64 o),(144,.bool q)] ⟨a,c,e,h,j,n,p,r,trivial⟩ (by kernel_rfl) g
def gM.t(Y:aD)(cE:Int→M→Nat→Nat→Int→M→Nat→Nat→Int→M→Nat→Nat→Int→U→Prop)(aK:Int)(a9:M)(a bB:Nat)(b:Int)(bS:M)(c bU:Nat)(d:Int)(e:M)(f g:Nat)(h i:Int)(Z:U):Prop:=
 cond (i == 0) (Y (.tuple #[.int .u64 b,.slice a9 a bB]) Z) (a0 nX.id #[.slice bS c bU,.slice e f g,.int .u64 i] Z fun c j=>
 aU c fun c k l=>
 a0 pP.id #[.int .u64 d,.int .u64 i,.int .u64 h,.int .u64 aK] j fun d i=>
 aW .u64 d fun d=>
 cond ((((k:Nat):Int)) == 0) (iA.t Y cE aK a9 a bB b c k l d e f g h true i) (iA.t Y cE aK a9 a bB b c k l d e f g h (decide (d > aK)) i))
def gM.g(Y:aD)(cE:Int→M→Nat→Nat→Int→M→Nat→Nat→Int→M→Nat→Nat→Int→U→Prop)(X:Fr)(Z:U):Prop:=aW .u64 (X 1) fun aK=>aU (X 6) fun a9 a bB=>aW .u64 (X 7) fun b=>aU (X 8) fun bS c bU=>aW .u64 (X 9) fun d=>aU (X 10) fun e f h=>aW .u64 (X 11) fun i=>aW .u64 (X 16) fun j=>gM.t Y cE aK a9 a bB b bS c bU d e f h i j Z
theorem gM.ok(Y:aD)(cE:Int→M→Nat→Nat→Int→M→Nat→Nat→Int→M→Nat→Nat→Int→U→Prop)(X:Fr)(Z:U)(g:gM.g Y cE X Z):den prog E (a4 aO [W,W,W,W,W,aR,aR,aR,W,W,W,W,W,W,W,W]) (a2.inBlock 1 (a2.then (dF.g cE) (a2.inBlock 0 (a7 E [.tmp 4,.tmp 5] Y)))) X Z:=
 a8 g fun aK a g=>bE g fun a9 b bB c g=>a8 g fun d e g=>bE g fun bS f bU h g=>a8 g fun i j g=>bE g fun k l m n g=>a8 g fun o p g=>a8 g fun q s g=>c4 3 (r:=(a4 aO [W,W,W,W,W,aR,aR,aR,W,W,W,W,W,W,W,W,W,W,W])) (by kernel_rfl) (iA.ok Y cE) (bT [(1,.int .u64 aK),(6,.slice a9 b bB),(7,.int .u64 d),(8,.slice bS f bU),(9,.int .u64 i),(10,.slice k l m),(11,.int .u64 o),(16,.int .u64 q)] ⟨a,c,e,h,j,n,p,s,trivial⟩ (by kernel_rfl) g)
def e3.t(Y:aD)(cE:Int→M→Nat→Nat→Int→M→Nat→Nat→Int→M→Nat→Nat→Int→U→Prop)(aK:Int)(a9:M)(a bB:Nat)(b:Int)(bS:M)(c bU:Nat)(d:Int)(e:M)(f g:Nat)(h i:Int)(Z:U):Prop:=
 a0 nY.id #[.slice bS c bU,.slice e f g,.int .u64 aK] Z fun j k=>
 aW .u64 j fun j=>
 cond (decide (i > j)) (gM.t Y cE aK a9 a bB b bS c bU d e f g h j k) (gM.t Y cE aK a9 a bB b bS c bU d e f g h i k)
def e3.g(Y:aD)(cE:Int→M→Nat→Nat→Int→M→Nat→Nat→Int→M→Nat→Nat→Int→U→Prop)(X:Fr)(Z:U):Prop:=aW .u64 (X 1) fun aK=>aU (X 6) fun a9 a bB=>aW .u64 (X 7) fun b=>aU (X 8) fun bS c bU=>aW .u64 (X 9) fun d=>aU (X 10) fun e f h=>aW .u64 (X 11) fun i=>aW .u64 (X 16) fun j=>e3.t Y cE aK a9 a bB b bS c bU d e f h i j Z
theorem e3.ok(Y:aD)(cE:Int→M→Nat→Nat→Int→M→Nat→Nat→Int→M→Nat→Nat→Int→U→Prop)(X:Fr)(Z:U)(g:e3.g Y cE X Z):den prog E (a4 aO [W,W,W,W,W,aR,aR,aR,W,W,W,W,W,W,W]) (a2.inBlock 1 (a2.then (dF.g cE) (a2.inBlock 0 (a7 E [.tmp 4,.tmp 5] Y)))) X Z:=
 a8 g fun aK a g=>bE g fun a9 b bB c g=>a8 g fun d e g=>bE g fun bS f bU h g=>a8 g fun i j g=>bE g fun k l m n g=>a8 g fun o p g=>a8 g fun q s g=>c4 1 (r:=(a4 aO [W,W,W,W,W,aR,aR,aR,W,W,W,W,W,W,W,W])) (by kernel_rfl) (gM.ok Y cE) (bT [(1,.int .u64 aK),(6,.slice a9 b bB),(7,.int .u64 d),(8,.slice bS f bU),(9,.int .u64 i),(10,.slice k l m),(11,.int .u64 o),(16,.int .u64 q)] ⟨a,c,e,h,j,n,p,s,trivial⟩ (by kernel_rfl) g)
def eR.t(Y:aD)(cE:Int→M→Nat→Nat→Int→M→Nat→Nat→Int→M→Nat→Nat→Int→U→Prop)(aK:Int)(a9:M)(a bB:Nat)(b:Int)(bS:M)(c bU:Nat)(d:Int)(e:M)(f g:Nat)(h:Int)(Z:U):Prop:=
 a0 jH.id #[.slice bS c bU,.slice a9 a bB] Z fun i j=>
 c1 i fun i=>
 cR i fun i k l m=>
 dM m .i64 fun m m=>
 b6 m <| a0 nY.id #[.slice i k l,.slice e f g,.int .u64 aK] j fun j m=>
 aW .u64 j fun j=>
 a0 jI.id #[.slice e f g,.int .u64 j] m fun m n=>
 c1 m fun m=>
 cR m fun m o p q=>
 dM q .i64 fun q q=>
 b6 q <| a0 iL.id #[.slice m o p,.slice i k l] n fun i k=>
 aW .i64 i fun i=>
 cond (decide (i < 0)) (a6 (IntKind.u64.wrap (j+1)) fun i=>
 e3.t Y cE aK a9 a bB b bS c bU d e f g h i k) (e3.t Y cE aK a9 a bB b bS c bU d e f g h j k)
def eR.g(Y:aD)(cE:Int→M→Nat→Nat→Int→M→Nat→Nat→Int→M→Nat→Nat→Int→U→Prop)(X:Fr)(Z:U):Prop:=aW .u64 (X 1) fun aK=>aU (X 6) fun a9 a bB=>aW .u64 (X 7) fun b=>aU (X 8) fun bS c bU=>aW .u64 (X 9) fun d=>aU (X 10) fun e f h=>aW .u64 (X 11) fun i=>eR.t Y cE aK a9 a bB b bS c bU d e f h i Z
theorem eR.ok(Y:aD)(cE:Int→M→Nat→Nat→Int→M→Nat→Nat→Int→M→Nat→Nat→Int→U→Prop)(X:Fr)(Z:U)(g:eR.g Y cE X Z):den prog E (a4 aO [W,W,W,W,W,aR,aR,aR,W,W,W,W]) (a2.inBlock 1 (a2.then (dF.g cE) (a2.inBlock 0 (a7 E [.tmp 4,.tmp 5] Y)))) X Z:=
 a8 g fun aK a g=>bE g fun a9 b bB c g=>a8 g fun d e g=>bE g fun bS f bU h g=>a8 g fun i j g=>bE g fun k l m n g=>a8 g fun o p g=>c4 3 (r:=(a4 aO [W,W,W,W,W,aR,aR,aR,W,W,W,W,W,W,W])) (by kernel_rfl) (e3.ok Y cE) (bT [(1,.int .u64 aK),(6,.slice a9 b bB),(7,.int .u64 d),(8,.slice bS f bU),(9,.int .u64 i),(10,.slice k l m),(11,.int .u64 o)] ⟨a,c,e,h,j,n,p,trivial⟩ (by kernel_rfl) g)
def dD.t(Y:aD)(cE:Int→M→Nat→Nat→Int→M→Nat→Nat→Int→M→Nat→Nat→Int→U→Prop)(aK:Int)(a9:M)(a bB:Nat)(b:Int)(bS:M)(c bU:Nat)(d:Int)(e:M)(f g:Nat)(h:Int)(Z:U):Prop:=
 cond ((((f:Nat):Int)) == 0) (Y (.tuple #[.int .u64 b,.slice a9 a bB]) Z) (cond (decide (h > aK)) (Y (.tuple #[.int .u64 b,.slice a9 a bB]) Z) (eR.t Y cE aK a9 a bB b bS c bU d e f g h Z))
def dD.g(Y:aD)(cE:Int→M→Nat→Nat→Int→M→Nat→Nat→Int→M→Nat→Nat→Int→U→Prop)(X:Fr)(Z:U):Prop:=aW .u64 (X 1) fun aK=>aU (X 6) fun a9 a bB=>aW .u64 (X 7) fun b=>aU (X 8) fun bS c bU=>aW .u64 (X 9) fun d=>aU (X 10) fun e f h=>aW .u64 (X 11) fun i=>dD.t Y cE aK a9 a bB b bS c bU d e f h i Z
theorem dD.ok(Y:aD)(cE:Int→M→Nat→Nat→Int→M→Nat→Nat→Int→M→Nat→Nat→Int→U→Prop)(X:Fr)(Z:U)(g:dD.g Y cE X Z):den prog E (a4 aO [W,W,W,W,W,aR,aR,aR,W,W,W]) (a2.inBlock 1 (a2.then (dF.g cE) (a2.inBlock 0 (a7 E [.tmp 4,.tmp 5] Y)))) X Z:=
 a8 g fun aK a g=>bE g fun a9 b bB c g=>a8 g fun d e g=>bE g fun bS f bU h g=>a8 g fun i j g=>bE g fun k l m n g=>a8 g fun o p g=>c4 1 (r:=(a4 aO [W,W,W,W,W,aR,aR,aR,W,W,W,W])) (by kernel_rfl) (eR.ok Y cE) (bT [(1,.int .u64 aK),(6,.slice a9 b bB),(7,.int .u64 d),(8,.slice bS f bU),(9,.int .u64 i),(10,.slice k l m),(11,.int .u64 o)] ⟨a,c,e,h,j,n,p,trivial⟩ (by kernel_rfl) g)
def b9.t(Y:aD)(cE:Int→M→Nat→Nat→Int→M→Nat→Nat→Int→M→Nat→Nat→Int→U→Prop)(aK:Int)(a9:M)(a bB:Nat)(b:Int)(bS:M)(c bU:Nat)(d:Int)(e:M)(f g:Nat)(h:Int)(Z:U):Prop:=
 a0 nY.id #[.slice e f g,.slice bS c bU,.int .u64 aK] Z fun i j=>
 aW .u64 i fun i=>
 cond (decide (i > 0)) (a0 nX.id #[.slice e f g,.slice bS c bU,.int .u64 i] j fun k l=>
 aU k fun k m n=>
 a0 pP.id #[.int .u64 h,.int .u64 i,.int .u64 d,.int .u64 aK] l fun i l=>
 aW .u64 i fun i=>
 dD.t Y cE aK a9 a bB b bS c bU d k m n i l) (dD.t Y cE aK a9 a bB b bS c bU d e f g h j)
def b9.g(Y:aD)(cE:Int→M→Nat→Nat→Int→M→Nat→Nat→Int→M→Nat→Nat→Int→U→Prop)(X:Fr)(Z:U):Prop:=aW .u64 (X 1) fun aK=>aU (X 6) fun a9 a bB=>aW .u64 (X 7) fun b=>aU (X 8) fun bS c bU=>aW .u64 (X 9) fun d=>aU (X 10) fun e f h=>aW .u64 (X 11) fun i=>b9.t Y cE aK a9 a bB b bS c bU d e f h i Z
theorem b9.ok(Y:aD)(cE:Int→M→Nat→Nat→Int→M→Nat→Nat→Int→M→Nat→Nat→Int→U→Prop)(X:Fr)(Z:U)(g:b9.g Y cE X Z):den prog E (a4 aO [W,W,W,W,W,aR,aR,aR,W,W]) (a2.inBlock 1 (a2.then (dF.g cE) (a2.inBlock 0 (a7 E [.tmp 4,.tmp 5] Y)))) X Z:=
 a8 g fun aK a g=>bE g fun a9 b bB c g=>a8 g fun d e g=>bE g fun bS f bU h g=>a8 g fun i j g=>bE g fun k l m n g=>a8 g fun o p g=>c4 1 (r:=(a4 aO [W,W,W,W,W,aR,aR,aR,W,W,W])) (by kernel_rfl) (dD.ok Y cE) (bT [(1,.int .u64 aK),(6,.slice a9 b bB),(7,.int .u64 d),(8,.slice bS f bU),(9,.int .u64 i),(10,.slice k l m),(11,.int .u64 o)] ⟨a,c,e,h,j,n,p,trivial⟩ (by kernel_rfl) g)
def cF.t(Y:aD)(cE:Int→M→Nat→Nat→Int→M→Nat→Nat→Int→M→Nat→Nat→Int→U→Prop)(aK:Int)(a9:M)(a bB:Nat)(b:Int)(bS:M)(c bU:Nat)(d:Int)(e:M)(f g:Nat)(h:Int)(Z:U):Prop:=
 a6 (IntKind.u64.wrap (b+d)) fun i=>
 a6 (IntKind.u64.wrap (aK - 1)) fun j=>
 cond (decide (i > j)) (Y (.tuple #[.int .u64 b,.slice a9 a bB]) Z) (cond ((((a:Nat):Int)) == 0) (Y (.tuple #[.int .u64 b,.slice a9 a bB]) Z) (a0 iL.id #[.slice bS c bU,.slice a9 a bB] Z fun i j=>
 aW .i64 i fun i=>
 cond (decide (i≤0)) (Y (.tuple #[.int .u64 b,.slice a9 a bB]) j) (b9.t Y cE aK a9 a bB b bS c bU d e f g h j)))
def cF.g(Y:aD)(cE:Int→M→Nat→Nat→Int→M→Nat→Nat→Int→M→Nat→Nat→Int→U→Prop)(X:Fr)(Z:U):Prop:=aW .u64 (X 1) fun aK=>aU (X 6) fun a9 a bB=>aW .u64 (X 7) fun b=>aU (X 8) fun bS c bU=>aW .u64 (X 9) fun d=>aU (X 10) fun e f h=>aW .u64 (X 11) fun i=>cF.t Y cE aK a9 a bB b bS c bU d e f h i Z
theorem cF.ok(Y:aD)(cE:Int→M→Nat→Nat→Int→M→Nat→Nat→Int→M→Nat→Nat→Int→U→Prop)(X:Fr)(Z:U)(g:cF.g Y cE X Z):den prog E (a4 aO [W,W,W,W,W,aR,aR,aR,W]) (a2.inBlock 1 (a2.then (dF.g cE) (a2.inBlock 0 (a7 E [.tmp 4,.tmp 5] Y)))) X Z:=
 a8 g fun aK a g=>bE g fun a9 b bB c g=>a8 g fun d e g=>bE g fun bS f bU h g=>a8 g fun i j g=>bE g fun k l m n g=>a8 g fun o p g=>c4 1 (r:=(a4 aO [W,W,W,W,W,aR,aR,aR,W,W])) (by kernel_rfl) (b9.ok Y cE) (bT [(1,.int .u64 aK),(6,.slice a9 b bB),(7,.int .u64 d),(8,.slice bS f bU),(9,.int .u64 i),(10,.slice k l m),(11,.int .u64 o)] ⟨a,c,e,h,j,n,p,trivial⟩ (by kernel_rfl) g)
def bF.t(Y:aD)(cE:Int→M→Nat→Nat→Int→M→Nat→Nat→Int→M→Nat→Nat→Int→U→Prop)(aK:Int)(a9:M)(a bB:Nat)(b:Int)(bS:M)(c bU:Nat)(d:Int)(e:M)(f g:Nat)(h:Int)(Z:U):Prop:=
 a0 nY.id #[.slice a9 a bB,.slice bS c bU,.int .u64 aK] Z fun i j=>
 aW .u64 i fun i=>
 a6 (IntKind.u64.wrap (aK - 1)) fun k=>
 a6 (IntKind.u64.wrap (k - b)) fun k=>
 d ≠ 0∧a6 (IntKind.u64.wrap (Int.tdiv k d)) fun k=>
 cond (decide ((if k < i then k else i) > 0)) (a0 nX.id #[.slice a9 a bB,.slice bS c bU,.int .u64 (if k < i then k else i)] j fun l m=>
 aU l fun l n o=>
 a6 (IntKind.u64.wrap ((if k < i then k else i)*d)) fun i=>
 a6 (IntKind.u64.wrap (b+i)) fun i=>
 cF.t Y cE aK l n o i bS c bU d e f g h m) (cF.t Y cE aK a9 a bB b bS c bU d e f g h j)
def bF.g(Y:aD)(cE:Int→M→Nat→Nat→Int→M→Nat→Nat→Int→M→Nat→Nat→Int→U→Prop)(X:Fr)(Z:U):Prop:=aW .u64 (X 1) fun aK=>aU (X 6) fun a9 a bB=>aW .u64 (X 7) fun b=>aU (X 8) fun bS c bU=>aW .u64 (X 9) fun d=>aU (X 10) fun e f h=>aW .u64 (X 11) fun i=>bF.t Y cE aK a9 a bB b bS c bU d e f h i Z
theorem bF.ok(Y:aD)(cE:Int→M→Nat→Nat→Int→M→Nat→Nat→Int→M→Nat→Nat→Int→U→Prop)(X:Fr)(Z:U)(g:bF.g Y cE X Z):den prog E (a4 aO [W,W,W,W,W,aR,aR,aR]) (a2.inBlock 1 (a2.then (dF.g cE) (a2.inBlock 0 (a7 E [.tmp 4,.tmp 5] Y)))) X Z:=
 a8 g fun aK a g=>bE g fun a9 b bB c g=>a8 g fun d e g=>bE g fun bS f bU h g=>a8 g fun i j g=>bE g fun k l m n g=>a8 g fun o p g=>c4 1 (r:=(a4 aO [W,W,W,W,W,aR,aR,aR,W])) (by kernel_rfl) (cF.ok Y cE) (bT [(1,.int .u64 aK),(6,.slice a9 b bB),(7,.int .u64 d),(8,.slice bS f bU),(9,.int .u64 i),(10,.slice k l m),(11,.int .u64 o)] ⟨a,c,e,h,j,n,p,trivial⟩ (by kernel_rfl) g)
theorem w5.ok(Y:aD)(cE:Int→M→Nat→Nat→Int→M→Nat→Nat→Int→M→Nat→Nat→Int→U→Prop)(X:Fr)(Z:U)(g:bF.g Y cE X Z):den prog E (a4 aO [W,W,W,W,W,aR,aR]) (a2.then (dF.g cE) (a2.inBlock 0 (a7 E [.tmp 4,.tmp 5] Y))) X Z:=
 fA (by kernel_rfl) (bF.ok Y cE X Z g)
def dF.t(Y:aD):Nat→Int→M→Nat→Nat→Int→M→Nat→Nat→Int→M→Nat→Nat→Int→U→Prop
 | 0=>fun _ _ _ _ _ _ _ _ _ _ _ _ _ _=>False
 | n+1=>fun aK a9 a bB b bS c bU d e f g h Z=>bF.t Y (dF.t Y n) aK a9 a bB b bS c bU d e f g h Z
theorem dF.ok(Y:aD)(X:Fr)(Z:U)(g:dF.g (fun aK a9 a bB b bS c bU d e f h i Z=>∃ n,dF.t Y n aK a9 a bB b bS c bU d e f h i Z) X Z):den prog E (a4 aO [W,W,W,W,W,aR]) (a2.inBlock 0 (a7 E [.tmp 4,.tmp 5] Y)) X Z:=by
 obtain⟨aK,j,g⟩:=bN g
 obtain⟨a9,a,bB,k,g⟩:=b0 g
 obtain⟨b,l,g⟩:=bN g
 obtain⟨bS,c,bU,m,g⟩:=b0 g
 obtain⟨d,o,g⟩:=bN g
 obtain⟨e,f,h,p,g⟩:=b0 g
 obtain⟨i,q,g⟩:=bN g
 obtain⟨n,g⟩:=g
 refine fK (fun n=>dF.g (dF.t Y n)) (K:=(a4 aO [W,W,W,W,W,aR,aR])) (by kernel_rfl) (fun X Z g=>?_) (fun n=>w5.ok Y (dF.t Y n)) n X Z (bR j (bD k (bR l (bD m (bR o (bD p (bR q (g))))))))
 obtain⟨aK,j,g⟩:=bN g
 obtain⟨a9,a,bB,k,g⟩:=b0 g
 obtain⟨b,l,g⟩:=bN g
 obtain⟨bS,c,bU,m,g⟩:=b0 g
 obtain⟨d,o,g⟩:=bN g
 obtain⟨e,f,h,p,g⟩:=b0 g
 obtain⟨i,q,g⟩:=bN g
 exact g
theorem p3.ok(Y:aD)(X:Fr)(Z:U)(g:dF.g (fun aK a9 a bB b bS c bU d e f h i Z=>∃ n,dF.t Y n aK a9 a bB b bS c bU d e f h i Z) X Z):den prog E (a4 aO [W,W,W,W,W]) (a7 E [.tmp 4,.tmp 5] Y) X Z:=
 fA (by kernel_rfl) (dF.ok Y X Z g)
def aM.t(Y:aD)(a:M)(b c:Nat)(d:M)(e f:Nat)(aK:Int)(Z:U):Prop:=
 dN Z 99 [.slice a b c,.slice d e f] fun b1 a=>
 dP a (b1.add 0) fun b c d=>
 a0 q2.id #[] a fun e f=>
 aU e fun e g h=>
 (eN a.size a f)∧(b1.add 1).block < a.size∧dP f (b1.add 1) fun i j k=>
 a0 nX.id #[.slice e g h,.slice i j k,.int .u64 1] f fun e g=>
 aU e fun e h i=>
 (eN a.size f g)∧dP g (b1.add 1) fun a f j=>
 (∃ n,dF.t Y n aK b c d 0 e h i 1 a f j 1 g)
def aM.g(Y:aD)(X:Fr)(Z:U):Prop:=eA (X 0) fun a=>cW a fun a b=>aU a fun a c d=>cW b fun b e=>aU b fun b f h=>b6 e <| aW .u64 (X 1) fun aK=>aM.t Y a c d b f h aK Z
theorem aM.ok(Y:aD)(X:Fr)(Z:U)(g:aM.g Y X Z):den prog E aO (a7 E [.tmp 4,.tmp 5] Y) X Z:=by
 obtain⟨o,a,b⟩:=iG g
 obtain⟨p,q,rfl,c⟩:=e1 b
 obtain⟨d,e,f,rfl,h⟩:=b0 c
 obtain⟨s,t,rfl,i⟩:=e1 h
 obtain⟨j,k,l,rfl,m⟩:=b0 i
 obtain⟨rfl,g⟩:=hK m
 obtain⟨aK,n,g⟩:=bN g
 exact c4 5 (r:=(a4 aO [W,W,W,W,W])) (by kernel_rfl) (p3.ok Y) (bT [(0,.agg #[.slice d e f,.slice j k l]),(1,.int .u64 aK)] ⟨a,n,trivial⟩ (by kernel_rfl) g)
def t(a:M)(b c:Nat)(d:M)(e f:Nat)(aK:Int)(Z:U)(Y:aD):Prop:=aM.t Y a b c d e f aK Z
theorem ok{a:M}{b:Nat}{d:Nat}{e:M}{f:Nat}{h:Nat}{aK:Int}{Z:U}{Y:aD}(g:t a b d e f h aK Z Y):a0 id #[.agg #[.slice a b d,.slice e f h],.int .u64 aK] Z Y:=
 dQ dH (c:=aO) (dE:=[.tmp 4,.tmp 5]) Tryz.func58 (by kernel_rfl) (by kernel_rfl) (by kernel_rfl) (args:=[.agg #[.slice a b d,.slice e f h],.int .u64 aK]) (by kernel_rfl) (aM.ok Y _ Z (eW rfl (cK (bD rfl (cK (bD rfl (dY (bR rfl (g)))))))))
end jM
namespace lA
noncomputable def aO:Code:=dO Tryz.f59
def aZ.t(Y:aD)(a:M)(b c:Nat)(d:Int)(Z:U):Prop:=
 hX 1 a b c none (some (.int .i64 d)) none fun a b c=>Y (.slice a b c) Z
def aZ.g(Y:aD)(X:Fr)(Z:U):Prop:=aU (X 0) fun a b c=>aW .i64 (X 3) fun d=>aZ.t Y a b c d Z
theorem aZ.ok(Y:aD)(X:Fr)(Z:U)(g:aZ.g Y X Z):den prog E (a4 aO [W,W,W]) (a7 E [.tmp 2] Y) X Z:=
 bE g fun a b c d g=>a8 g fun e f g=>bT [(0,.slice a b c),(3,.int .i64 e)] ⟨d,f,trivial⟩ (by kernel_rfl) g
def cJ.g(a:M→Nat→Nat→Int→U→Prop)(X:Fr)(Z:U):Prop:=aU (X 0) fun b c d=>aW .i64 (X 3) fun e=>a b c d e Z
def cF.t(Y:aD)(a:M→Nat→Nat→Int→U→Prop)(b:M)(c d:Nat)(e:Int)(Z:U):Prop:=
 cond (decide (e > 0)) (a6 (IntKind.i64.wrap (e - 1)) fun f=>
 c2 b c f 1 fun f=>
 cX Z .u64 f fun f=>
 cond (f == 0) (a6 (IntKind.i64.wrap (e - 1)) fun f=>
 a b c d f Z) (aZ.t Y b c d e Z)) (aZ.t Y b c d e Z)
def cF.g(Y:aD)(a:M→Nat→Nat→Int→U→Prop)(X:Fr)(Z:U):Prop:=aU (X 0) fun b c d=>aW .i64 (X 3) fun e=>cF.t Y a b c d e Z
theorem cF.ok(Y:aD)(a:M→Nat→Nat→Int→U→Prop)(X:Fr)(Z:U)(g:cF.g Y a X Z):den prog E (a4 aO [W,W,aR,aR,aR]) (a2.then (cJ.g a) (a2.inBlock 0 (a2.then (aZ.g Y) (a7 E [.tmp 2] Y)))) X Z:=
 bE g fun a b c d g=>a8 g fun e f g=>bT [(0,.slice a b c),(3,.int .i64 e)] ⟨d,f,trivial⟩ (by kernel_rfl) g
def cJ.t(Y:aD):Nat→M→Nat→Nat→Int→U→Prop
 | 0=>fun _ _ _ _ _=>False
 | n+1=>fun a b c d Z=>cF.t Y (cJ.t Y n) a b c d Z
theorem cJ.ok(Y:aD)(X:Fr)(Z:U)(g:cJ.g (fun a b c d Z=>∃ n,cJ.t Y n a b c d Z) X Z):den prog E (a4 aO [W,W,aR,aR]) (a2.inBlock 0 (a2.then (aZ.g Y) (a7 E [.tmp 2] Y))) X Z:=by
 obtain⟨a,b,c,e,g⟩:=b0 g
 obtain⟨d,f,g⟩:=bN g
 obtain⟨n,g⟩:=g
 refine fK (fun n=>cJ.g (cJ.t Y n)) (K:=(a4 aO [W,W,aR,aR,aR])) (by kernel_rfl) (fun X Z g=>?_) (fun n=>cF.ok Y (cJ.t Y n)) n X Z (bD e (bR f (g)))
 obtain⟨a,b,c,e,g⟩:=b0 g
 obtain⟨d,f,g⟩:=bN g
 exact g
theorem hD.ok(Y:aD)(X:Fr)(Z:U)(g:cJ.g (fun a b c d Z=>∃ n,cJ.t Y n a b c d Z) X Z):den prog E (a4 aO [W,W,aR]) (a2.then (aZ.g Y) (a7 E [.tmp 2] Y)) X Z:=
 fA (by kernel_rfl) (cJ.ok Y X Z g)
theorem p2.ok(Y:aD)(X:Fr)(Z:U)(g:cJ.g (fun a b c d Z=>∃ n,cJ.t Y n a b c d Z) X Z):den prog E (a4 aO [W,W]) (a7 E [.tmp 2] Y) X Z:=
 fZ (by kernel_rfl) (aZ.ok Y) (hD.ok Y X Z g)
def aM.t(Y:aD)(a:M)(b c:Nat)(Z:U):Prop:=
 (∃ n,cJ.t Y n a b c (((b:Nat):Int)) Z)
def aM.g(Y:aD)(X:Fr)(Z:U):Prop:=aU (X 0) fun a b c=>aM.t Y a b c Z
theorem aM.ok(Y:aD)(X:Fr)(Z:U)(g:aM.g Y X Z):den prog E aO (a7 E [.tmp 2] Y) X Z:=
 bE g fun a b c d g=>c4 2 (r:=(a4 aO [W,W])) (by kernel_rfl) (p2.ok Y) (bT [(0,.slice a b c)] ⟨d,trivial⟩ (by kernel_rfl) g)
def t(a:M)(b c:Nat)(Z:U)(Y:aD):Prop:=aM.t Y a b c Z
theorem ok{a:M}{b:Nat}{d:Nat}{Z:U}{Y:aD}(g:t a b d Z Y):a0 id #[.slice a b d] Z Y:=
 dQ dH (c:=aO) (dE:=[.tmp 2]) Tryz.func59 (by kernel_rfl) (by kernel_rfl) (by kernel_rfl) (args:=[.slice a b d]) (by kernel_rfl) (aM.ok Y _ Z (bD rfl (g)))
end lA
namespace kD
noncomputable def aO:Code:=dO Tryz.f60
def aZ.t(Y:aD)(bS:M)(a bU:Nat)(Z:U):Prop:=
 a0 mK.id #[.slice bS a bU] Z fun a fX=>
 c1 a fun a=>
 cR a fun a b c d=>
 dM d .i64 fun d e=>
 b6 e <| Y (.tuple #[.slice a b c,.int .i64 d]) fX
def aZ.g(Y:aD)(X:Fr)(Z:U):Prop:=aU (X 8) fun bS a bU=>aZ.t Y bS a bU Z
theorem aZ.ok(Y:aD)(X:Fr)(Z:U)(g:aZ.g Y X Z):den prog E (a4 aO [W,W,W,W,W,W,W]) (a7 E [.tmp 4,.tmp 5] Y) X Z:=
 bE g fun bS a bU b g=>bT [(8,.slice bS a bU)] ⟨b,trivial⟩ (by kernel_rfl) g
def bJ.g(a:M→Nat→Nat→Int→Int→M→Nat→Nat→Int→Int→U→Prop)(X:Fr)(Z:U):Prop:=aU (X 0) fun b c d=>aW .i64 (X 6) fun e=>aW .i64 (X 7) fun f=>aU (X 8) fun bS h bU=>aW .i64 (X 29) fun i=>aW .i64 (X 30) fun j=>a b c d e f bS h bU i j Z
def b9.t(Y:aD)(a:M→Nat→Nat→Int→Int→M→Nat→Nat→Int→Int→U→Prop)(b:M)(c d:Nat)(e f:Int)(bS:M)(g bU:Nat)(h i:Int)(Z:U):Prop:=
 cond (decide (i < h)) (a6 (IntKind.i64.wrap (e+i)) fun j=>
 c2 b c j 1 fun j=>
 cX Z .u64 j fun j=>
 0≤f∧a6 (gP .u64 j f) fun j=>
 c2 bS g i 1 fun k=>
 b3 Z k (.int .u64 j) fun j=>
 a6 (IntKind.i64.wrap (e+i)) fun k=>
 a6 (IntKind.i64.wrap (k+1)) fun k=>
 cond (decide (k < (((c:Nat):Int)))) (c2 bS g i 1 fun k=>
 cX j .u64 k fun k=>
 a6 (IntKind.i64.wrap (e+i)) fun l=>
 a6 (IntKind.i64.wrap (l+1)) fun l=>
 c2 b c l 1 fun l=>
 cX j .u64 l fun l=>
 0≤(1:Int)∧a6 (hW .u64 l 1) fun l=>
 a6 (IntKind.i64.wrap (63 - f)) fun m=>
 0≤m∧a6 (hW .u64 l m) fun l=>
 a6 (s4 .u64 k l) fun k=>
 c2 bS g i 1 fun l=>
 b3 j l (.int .u64 k) fun k=>
 a6 (IntKind.i64.wrap (i+1)) fun l=>
 a b c d e f bS g bU h l k) (a6 (IntKind.i64.wrap (i+1)) fun i=>
 a b c d e f bS g bU h i j)) (aZ.t Y bS g bU Z)
def b9.g(Y:aD)(a:M→Nat→Nat→Int→Int→M→Nat→Nat→Int→Int→U→Prop)(X:Fr)(Z:U):Prop:=aU (X 0) fun b c d=>aW .i64 (X 6) fun e=>aW .i64 (X 7) fun f=>aU (X 8) fun bS h bU=>aW .i64 (X 29) fun i=>aW .i64 (X 30) fun j=>b9.t Y a b c d e f bS h bU i j Z
theorem b9.ok(Y:aD)(a:M→Nat→Nat→Int→Int→M→Nat→Nat→Int→Int→U→Prop)(X:Fr)(Z:U)(g:b9.g Y a X Z):den prog E (a4 aO [W,W,W,W,W,W,aR,W,aR,aR]) (a2.then (bJ.g a) (a2.inBlock 0 (a2.then (aZ.g Y) (a7 E [.tmp 4,.tmp 5] Y)))) X Z:=
 bE g fun a b c d g=>a8 g fun e f g=>a8 g fun h i g=>bE g fun bS j bU k g=>a8 g fun l m g=>a8 g fun n o g=>bT [(0,.slice a b c),(6,.int .i64 e),(7,.int .i64 h),(8,.slice bS j bU),(29,.int .i64 l),(30,.int .i64 n)] ⟨d,f,i,k,m,o,trivial⟩ (by kernel_rfl) g
def bJ.t(Y:aD):Nat→M→Nat→Nat→Int→Int→M→Nat→Nat→Int→Int→U→Prop
 | 0=>fun _ _ _ _ _ _ _ _ _ _ _=>False
 | n+1=>fun a b c d e bS f bU g h Z=>b9.t Y (bJ.t Y n) a b c d e bS f bU g h Z
theorem bJ.ok(Y:aD)(X:Fr)(Z:U)(g:bJ.g (fun a b c d e bS f bU h i Z=>∃ n,bJ.t Y n a b c d e bS f bU h i Z) X Z):den prog E (a4 aO [W,W,W,W,W,W,aR,W,aR]) (a2.inBlock 0 (a2.then (aZ.g Y) (a7 E [.tmp 4,.tmp 5] Y))) X Z:=by
 obtain⟨a,b,c,j,g⟩:=b0 g
 obtain⟨d,k,g⟩:=bN g
 obtain⟨e,l,g⟩:=bN g
 obtain⟨bS,f,bU,m,g⟩:=b0 g
 obtain⟨h,o,g⟩:=bN g
 obtain⟨i,p,g⟩:=bN g
 obtain⟨n,g⟩:=g
 refine fK (fun n=>bJ.g (bJ.t Y n)) (K:=(a4 aO [W,W,W,W,W,W,aR,W,aR,aR])) (by kernel_rfl) (fun X Z g=>?_) (fun n=>b9.ok Y (bJ.t Y n)) n X Z (bD j (bR k (bR l (bD m (bR o (bR p (g)))))))
 obtain⟨a,b,c,j,g⟩:=b0 g
 obtain⟨d,k,g⟩:=bN g
 obtain⟨e,l,g⟩:=bN g
 obtain⟨bS,f,bU,m,g⟩:=b0 g
 obtain⟨h,o,g⟩:=bN g
 obtain⟨i,p,g⟩:=bN g
 exact g
theorem g2.ok(Y:aD)(X:Fr)(Z:U)(g:bJ.g (fun a b c d e bS f bU h i Z=>∃ n,bJ.t Y n a b c d e bS f bU h i Z) X Z):den prog E (a4 aO [W,W,W,W,W,W,aR,W]) (a2.then (aZ.g Y) (a7 E [.tmp 4,.tmp 5] Y)) X Z:=
 fA (by kernel_rfl) (bJ.ok Y X Z g)
def bF.t(Y:aD)(a:M)(b c:Nat)(d e:Int)(bS:M)(f bU:Nat)(Z:U):Prop:=
 (∃ n,bJ.t Y n a b c d e bS f bU (((f:Nat):Int)) 0 Z)
def bF.g(Y:aD)(X:Fr)(Z:U):Prop:=aU (X 0) fun a b c=>aW .i64 (X 6) fun d=>aW .i64 (X 7) fun e=>aU (X 8) fun bS f bU=>bF.t Y a b c d e bS f bU Z
theorem bF.ok(Y:aD)(X:Fr)(Z:U)(g:bF.g Y X Z):den prog E (a4 aO [W,W,W,W,W,W,aR]) (a2.then (aZ.g Y) (a7 E [.tmp 4,.tmp 5] Y)) X Z:=
 bE g fun a b c d g=>a8 g fun e f g=>a8 g fun h i g=>bE g fun bS j bU k g=>c4 1 (r:=(a4 aO [W,W,W,W,W,W,aR,W])) (by kernel_rfl) (g2.ok Y) (bT [(0,.slice a b c),(6,.int .i64 e),(7,.int .i64 h),(8,.slice bS j bU)] ⟨d,f,i,k,trivial⟩ (by kernel_rfl) g)
theorem g3.ok(Y:aD)(X:Fr)(Z:U)(g:bF.g Y X Z):den prog E (a4 aO [W,W,W,W,W,W]) (a7 E [.tmp 4,.tmp 5] Y) X Z:=
 fZ (by kernel_rfl) (aZ.ok Y) (bF.ok Y X Z g)
def aM.t(Y:aD)(a:M)(b c:Nat)(aK:Int)(Z:U):Prop:=
 cond (decide (aK < 0)) (Y (.tuple #[.slice none 0 0,.int .i64 1]) Z) (a0 j1.id #[.slice a b c] Z fun d e=>
 eS d fun d=>
 cond (!d) (Y (.tuple #[.slice none 0 0,.int .i64 2]) e) ((64:Int) ≠ 0∧a6 (IntKind.i64.wrap (Int.tdiv aK 64)) fun d=>
 (64:Int) ≠ 0∧a6 (Int.tmod aK 64) fun f=>
 cond (decide (d≥(((b:Nat):Int)))) (Y (.tuple #[.slice none 0 0,.int .i64 0]) e) (a6 (IntKind.i64.wrap ((((b:Nat):Int)) - d)) fun g=>
 h5 e 35 j3 g g fun e h=>
 bF.t Y a b c d f (some e) g.toNat g.toNat h)))
def aM.g(Y:aD)(X:Fr)(Z:U):Prop:=aU (X 0) fun a b c=>aW .i64 (X 1) fun aK=>aM.t Y a b c aK Z
theorem aM.ok(Y:aD)(X:Fr)(Z:U)(g:aM.g Y X Z):den prog E aO (a7 E [.tmp 4,.tmp 5] Y) X Z:=
 bE g fun a b c d g=>a8 g fun aK e g=>c4 6 (r:=(a4 aO [W,W,W,W,W,W])) (by kernel_rfl) (g3.ok Y) (bT [(0,.slice a b c),(1,.int .i64 aK)] ⟨d,e,trivial⟩ (by kernel_rfl) g)
def t(a:M)(b c:Nat)(aK:Int)(Z:U)(Y:aD):Prop:=aM.t Y a b c aK Z
theorem ok{a:M}{b:Nat}{d:Nat}{aK:Int}{Z:U}{Y:aD}(g:t a b d aK Z Y):a0 id #[.slice a b d,.int .i64 aK] Z Y:=
 dQ dH (c:=aO) (dE:=[.tmp 4,.tmp 5]) Tryz.func60 (by kernel_rfl) (by kernel_rfl) (by kernel_rfl) (args:=[.slice a b d,.int .i64 aK]) (by kernel_rfl) (aM.ok Y _ Z (bD rfl (bR rfl (g))))
end kD
namespace nV
noncomputable def aO:Code:=dO Tryz.f61
def cJ.g(a:Int→Int→U→Prop)(X:Fr)(Z:U):Prop:=aW .i64 (X 0) fun aX=>aW .i64 (X 4) fun b=>a aX b Z
def cF.t(Y:aD)(a:Int→Int→U→Prop)(aX b:Int)(Z:U):Prop:=
 a6 (IntKind.i64.wrap (aX+b)) fun eF=>
 a0 qV.id #[.int .i64 eF] Z fun c d=>
 c1 c fun c=>
 cR c fun c e f g=>
 cR g fun g h i j=>
 b6 j <| a0 kD.id #[.slice c e f,.int .i64 b] d fun c fX=>
 c1 c fun c=>
 cR c fun c d e f=>
 dM f .i64 fun f f=>
 b6 f <| a0 kD.id #[.slice g h i,.int .i64 b] fX fun f g=>
 c1 f fun f=>
 cR f fun f h i j=>
 dM j .i64 fun j j=>
 b6 j <| a0 iL.id #[.slice c d e,.slice f h i] g fun f g=>
 aW .i64 f fun f=>
 cond (f == 0) (Y (.tuple #[.slice c d e,.int .i64 0]) g) (a6 (IntKind.i64.wrap (b*2)) fun b=>
 a aX b g)
def cF.g(Y:aD)(a:Int→Int→U→Prop)(X:Fr)(Z:U):Prop:=aW .i64 (X 0) fun aX=>aW .i64 (X 4) fun b=>cF.t Y a aX b Z
theorem cF.ok(Y:aD)(a:Int→Int→U→Prop)(X:Fr)(Z:U)(g:cF.g Y a X Z):den prog E (a4 aO [W,W,W,aR,aR]) (a2.then (cJ.g a) (a2.inBlock 0 (a7 E [.tmp 2,.tmp 3] Y))) X Z:=
 a8 g fun aX a g=>a8 g fun b c g=>bT [(0,.int .i64 aX),(4,.int .i64 b)] ⟨a,c,trivial⟩ (by kernel_rfl) g
def cJ.t(Y:aD):Nat→Int→Int→U→Prop
 | 0=>fun _ _ _=>False
 | n+1=>fun aX a Z=>cF.t Y (cJ.t Y n) aX a Z
theorem cJ.ok(Y:aD)(X:Fr)(Z:U)(g:cJ.g (fun aX a Z=>∃ n,cJ.t Y n aX a Z) X Z):den prog E (a4 aO [W,W,W,aR]) (a2.inBlock 0 (a7 E [.tmp 2,.tmp 3] Y)) X Z:=by
 obtain⟨aX,b,g⟩:=bN g
 obtain⟨a,c,g⟩:=bN g
 obtain⟨n,g⟩:=g
 refine fK (fun n=>cJ.g (cJ.t Y n)) (K:=(a4 aO [W,W,W,aR,aR])) (by kernel_rfl) (fun X Z g=>?_) (fun n=>cF.ok Y (cJ.t Y n)) n X Z (bR b (bR c (g)))
 obtain⟨aX,b,g⟩:=bN g
 obtain⟨a,c,g⟩:=bN g
 exact g
theorem hD.ok(Y:aD)(X:Fr)(Z:U)(g:cJ.g (fun aX a Z=>∃ n,cJ.t Y n aX a Z) X Z):den prog E (a4 aO [W,W,W]) (a7 E [.tmp 2,.tmp 3] Y) X Z:=
 fA (by kernel_rfl) (cJ.ok Y X Z g)
def aZ.t(Y:aD)(aX:Int)(Z:U):Prop:=
 (∃ n,cJ.t Y n aX 48 Z)
def aZ.g(Y:aD)(X:Fr)(Z:U):Prop:=aW .i64 (X 0) fun aX=>aZ.t Y aX Z
theorem aZ.ok(Y:aD)(X:Fr)(Z:U)(g:aZ.g Y X Z):den prog E (a4 aO [W,W]) (a7 E [.tmp 2,.tmp 3] Y) X Z:=
 a8 g fun aX a g=>c4 1 (r:=(a4 aO [W,W,W])) (by kernel_rfl) (hD.ok Y) (bT [(0,.int .i64 aX)] ⟨a,trivial⟩ (by kernel_rfl) g)
def aM.t(Y:aD)(aX:Int)(Z:U):Prop:=
 cond (decide (aX < 1)) (Y (.tuple #[.slice none 0 0,.int .i64 1]) Z) (cond (decide (aX > 70000)) (Y (.tuple #[.slice none 0 0,.int .i64 1]) Z) (aZ.t Y aX Z))
def aM.g(Y:aD)(X:Fr)(Z:U):Prop:=aW .i64 (X 0) fun aX=>aM.t Y aX Z
theorem aM.ok(Y:aD)(X:Fr)(Z:U)(g:aM.g Y X Z):den prog E aO (a7 E [.tmp 2,.tmp 3] Y) X Z:=
 a8 g fun aX a g=>c4 2 (r:=(a4 aO [W,W])) (by kernel_rfl) (aZ.ok Y) (bT [(0,.int .i64 aX)] ⟨a,trivial⟩ (by kernel_rfl) g)
def t(aX:Int)(Z:U)(Y:aD):Prop:=aM.t Y aX Z
theorem ok{aX:Int}{Z:U}{Y:aD}(g:t aX Z Y):a0 id #[.int .i64 aX] Z Y:=
 dQ dH (c:=aO) (dE:=[.tmp 2,.tmp 3]) Tryz.func61 (by kernel_rfl) (by kernel_rfl) (by kernel_rfl) (args:=[.int .i64 aX]) (by kernel_rfl) (aM.ok Y _ Z (bR rfl (g)))
end nV
namespace pJ
noncomputable def aO:Code:=dO Tryz.f62
def aZ.t(Y:aD)(a:M)(b c:Nat)(aJ:M)(aH aG:Nat)(Z:U):Prop:=
 a0 m7.id #[.slice a b c,.slice aJ aH aG] Z fun a b=>
 aU a fun a c d=>
 a0 sE.id #[.slice a c d] b fun a b=>
 c1 a fun a=>
 cR a fun a c d e=>
 dM e .i64 fun e f=>
 b6 f <| Y (.tuple #[.slice a c d,.int .i64 e]) b
def aZ.g(Y:aD)(X:Fr)(Z:U):Prop:=aU (X 0) fun a b c=>aU (X 1) fun aJ aH aG=>aZ.t Y a b c aJ aH aG Z
theorem aZ.ok(Y:aD)(X:Fr)(Z:U)(g:aZ.g Y X Z):den prog E (a4 aO [W,W]) (a7 E [.tmp 4,.tmp 5] Y) X Z:=
 bE g fun a b c d g=>bE g fun aJ aH aG e g=>bT [(0,.slice a b c),(1,.slice aJ aH aG)] ⟨d,e,trivial⟩ (by kernel_rfl) g
def aM.t(Y:aD)(a:M)(b c:Nat)(aJ:M)(aH aG:Nat)(Z:U):Prop:=
 a0 j1.id #[.slice a b c] Z fun d e=>
 eS d fun d=>
 cond (!d) (Y (.tuple #[.slice none 0 0,.int .i64 2]) e) (a0 j1.id #[.slice aJ aH aG] e fun d e=>
 eS d fun d=>
 cond (!d) (Y (.tuple #[.slice none 0 0,.int .i64 2]) e) (aZ.t Y a b c aJ aH aG e))
def aM.g(Y:aD)(X:Fr)(Z:U):Prop:=aU (X 0) fun a b c=>aU (X 1) fun aJ aH aG=>aM.t Y a b c aJ aH aG Z
theorem aM.ok(Y:aD)(X:Fr)(Z:U)(g:aM.g Y X Z):den prog E aO (a7 E [.tmp 4,.tmp 5] Y) X Z:=
 bE g fun a b c d g=>bE g fun aJ aH aG e g=>c4 2 (r:=(a4 aO [W,W])) (by kernel_rfl) (aZ.ok Y) (bT [(0,.slice a b c),(1,.slice aJ aH aG)] ⟨d,e,trivial⟩ (by kernel_rfl) g)
def t(a:M)(b c:Nat)(aJ:M)(aH aG:Nat)(Z:U)(Y:aD):Prop:=aM.t Y a b c aJ aH aG Z
theorem ok{a:M}{b:Nat}{d:Nat}{aJ:M}{aH:Nat}{aG:Nat}{Z:U}{Y:aD}(g:t a b d aJ aH aG Z Y):a0 id #[.slice a b d,.slice aJ aH aG] Z Y:=
 dQ dH (c:=aO) (dE:=[.tmp 4,.tmp 5]) Tryz.func62 (by kernel_rfl) (by kernel_rfl) (by kernel_rfl) (args:=[.slice a b d,.slice aJ aH aG]) (by kernel_rfl) (aM.ok Y _ Z (bD rfl (bD rfl (g))))
end pJ
namespace j5
noncomputable def aO:Code:=dO Tryz.f63
def aZ.t(Y:aD)(bS:M)(a bU:Nat)(Z:U):Prop:=
 a0 mK.id #[.slice bS a bU] Z fun a b=>
 c1 a fun a=>
 cR a fun a c d e=>
 dM e .i64 fun e f=>
 b6 f <| Y (.tuple #[.slice a c d,.int .i64 e]) b
def aZ.g(Y:aD)(X:Fr)(Z:U):Prop:=aU (X 8) fun bS a bU=>aZ.t Y bS a bU Z
theorem aZ.ok(Y:aD)(X:Fr)(Z:U)(g:aZ.g Y X Z):den prog E (a4 aO [W,W,W,W,W,W,W,W]) (a7 E [.tmp 4,.tmp 5] Y) X Z:=
 bE g fun bS a bU b g=>bT [(8,.slice bS a bU)] ⟨b,trivial⟩ (by kernel_rfl) g
def bJ.g(a:M→Nat→Nat→Int→Int→M→Nat→Nat→Int→Int→U→Prop)(X:Fr)(Z:U):Prop:=aU (X 0) fun b c d=>aW .i64 (X 6) fun e=>aW .i64 (X 7) fun f=>aU (X 8) fun bS h bU=>aW .i64 (X 34) fun i=>aW .i64 (X 35) fun j=>a b c d e f bS h bU i j Z
def b9.t(Y:aD)(a:M→Nat→Nat→Int→Int→M→Nat→Nat→Int→Int→U→Prop)(b:M)(c d:Nat)(e f:Int)(bS:M)(g bU:Nat)(h i:Int)(Z:U):Prop:=
 cond (decide (i < h)) (a6 (IntKind.i64.wrap (e+i)) fun j=>
 c2 bS g j 1 fun k=>
 cX Z .u64 k fun k=>
 c2 b c i 1 fun l=>
 cX Z .u64 l fun l=>
 0≤f∧a6 (hW .u64 l f) fun l=>
 a6 (s4 .u64 k l) fun k=>
 c2 bS g j 1 fun j=>
 b3 Z j (.int .u64 k) fun j=>
 a6 (IntKind.i64.wrap (e+i)) fun k=>
 a6 (IntKind.i64.wrap (k+1)) fun k=>
 c2 b c i 1 fun l=>
 cX j .u64 l fun l=>
 0≤(1:Int)∧a6 (gP .u64 l 1) fun l=>
 a6 (IntKind.i64.wrap (63 - f)) fun m=>
 0≤m∧a6 (gP .u64 l m) fun l=>
 c2 bS g k 1 fun k=>
 b3 j k (.int .u64 l) fun j=>
 a6 (IntKind.i64.wrap (i+1)) fun i=>
 a b c d e f bS g bU h i j) (aZ.t Y bS g bU Z)
def b9.g(Y:aD)(a:M→Nat→Nat→Int→Int→M→Nat→Nat→Int→Int→U→Prop)(X:Fr)(Z:U):Prop:=aU (X 0) fun b c d=>aW .i64 (X 6) fun e=>aW .i64 (X 7) fun f=>aU (X 8) fun bS h bU=>aW .i64 (X 34) fun i=>aW .i64 (X 35) fun j=>b9.t Y a b c d e f bS h bU i j Z
theorem b9.ok(Y:aD)(a:M→Nat→Nat→Int→Int→M→Nat→Nat→Int→Int→U→Prop)(X:Fr)(Z:U)(g:b9.g Y a X Z):den prog E (a4 aO [W,W,W,W,W,W,W,aR,W,aR,aR]) (a2.then (bJ.g a) (a2.inBlock 0 (a2.then (aZ.g Y) (a7 E [.tmp 4,.tmp 5] Y)))) X Z:=
 bE g fun a b c d g=>a8 g fun e f g=>a8 g fun h i g=>bE g fun bS j bU k g=>a8 g fun l m g=>a8 g fun n o g=>bT [(0,.slice a b c),(6,.int .i64 e),(7,.int .i64 h),(8,.slice bS j bU),(34,.int .i64 l),(35,.int .i64 n)] ⟨d,f,i,k,m,o,trivial⟩ (by kernel_rfl) g
def bJ.t(Y:aD):Nat→M→Nat→Nat→Int→Int→M→Nat→Nat→Int→Int→U→Prop
 | 0=>fun _ _ _ _ _ _ _ _ _ _ _=>False
 | n+1=>fun a b c d e bS f bU g h Z=>b9.t Y (bJ.t Y n) a b c d e bS f bU g h Z
theorem bJ.ok(Y:aD)(X:Fr)(Z:U)(g:bJ.g (fun a b c d e bS f bU h i Z=>∃ n,bJ.t Y n a b c d e bS f bU h i Z) X Z):den prog E (a4 aO [W,W,W,W,W,W,W,aR,W,aR]) (a2.inBlock 0 (a2.then (aZ.g Y) (a7 E [.tmp 4,.tmp 5] Y))) X Z:=by
 obtain⟨a,b,c,j,g⟩:=b0 g
 obtain⟨d,k,g⟩:=bN g
 obtain⟨e,l,g⟩:=bN g
 obtain⟨bS,f,bU,m,g⟩:=b0 g
 obtain⟨h,o,g⟩:=bN g
 obtain⟨i,p,g⟩:=bN g
 obtain⟨n,g⟩:=g
 refine fK (fun n=>bJ.g (bJ.t Y n)) (K:=(a4 aO [W,W,W,W,W,W,W,aR,W,aR,aR])) (by kernel_rfl) (fun X Z g=>?_) (fun n=>b9.ok Y (bJ.t Y n)) n X Z (bD j (bR k (bR l (bD m (bR o (bR p (g)))))))
 obtain⟨a,b,c,j,g⟩:=b0 g
 obtain⟨d,k,g⟩:=bN g
 obtain⟨e,l,g⟩:=bN g
 obtain⟨bS,f,bU,m,g⟩:=b0 g
 obtain⟨h,o,g⟩:=bN g
 obtain⟨i,p,g⟩:=bN g
 exact g
theorem g2.ok(Y:aD)(X:Fr)(Z:U)(g:bJ.g (fun a b c d e bS f bU h i Z=>∃ n,bJ.t Y n a b c d e bS f bU h i Z) X Z):den prog E (a4 aO [W,W,W,W,W,W,W,aR,W]) (a2.then (aZ.g Y) (a7 E [.tmp 4,.tmp 5] Y)) X Z:=
 fA (by kernel_rfl) (bJ.ok Y X Z g)
def bF.t(Y:aD)(a:M)(b c:Nat)(d e:Int)(bS:M)(f bU:Nat)(Z:U):Prop:=
 (∃ n,bJ.t Y n a b c d e bS f bU (((b:Nat):Int)) 0 Z)
def bF.g(Y:aD)(X:Fr)(Z:U):Prop:=aU (X 0) fun a b c=>aW .i64 (X 6) fun d=>aW .i64 (X 7) fun e=>aU (X 8) fun bS f bU=>bF.t Y a b c d e bS f bU Z
theorem bF.ok(Y:aD)(X:Fr)(Z:U)(g:bF.g Y X Z):den prog E (a4 aO [W,W,W,W,W,W,W,aR]) (a2.then (aZ.g Y) (a7 E [.tmp 4,.tmp 5] Y)) X Z:=
 bE g fun a b c d g=>a8 g fun e f g=>a8 g fun h i g=>bE g fun bS j bU k g=>c4 1 (r:=(a4 aO [W,W,W,W,W,W,W,aR,W])) (by kernel_rfl) (g2.ok Y) (bT [(0,.slice a b c),(6,.int .i64 e),(7,.int .i64 h),(8,.slice bS j bU)] ⟨d,f,i,k,trivial⟩ (by kernel_rfl) g)
theorem g3.ok(Y:aD)(X:Fr)(Z:U)(g:bF.g Y X Z):den prog E (a4 aO [W,W,W,W,W,W,W]) (a7 E [.tmp 4,.tmp 5] Y) X Z:=
 fZ (by kernel_rfl) (aZ.ok Y) (bF.ok Y X Z g)
def aM.t(Y:aD)(a:M)(b c:Nat)(aK:Int)(Z:U):Prop:=
 cond (decide (aK < 0)) (Y (.tuple #[.slice none 0 0,.int .i64 1]) Z) (a0 j1.id #[.slice a b c] Z fun d e=>
 eS d fun d=>
 cond (!d) (Y (.tuple #[.slice none 0 0,.int .i64 2]) e) (cond ((((b:Nat):Int)) == 0) (Y (.tuple #[.slice none 0 0,.int .i64 0]) e) (a0 nK.id #[.slice a b c] e fun d e=>
 aW .i64 d fun d=>
 a6 (IntKind.i64.wrap (524288 - d)) fun d=>
 cond (decide (aK > d)) (Y (.tuple #[.slice none 0 0,.int .i64 5]) e) ((64:Int) ≠ 0∧a6 (IntKind.i64.wrap (Int.tdiv aK 64)) fun d=>
 (64:Int) ≠ 0∧a6 (Int.tmod aK 64) fun f=>
 a6 (IntKind.i64.wrap (d+(((b:Nat):Int)))) fun g=>
 a6 (IntKind.i64.wrap (g+1)) fun g=>
 h5 e 35 j3 g g fun e h=>
 bF.t Y a b c d f (some e) g.toNat g.toNat h))))
def aM.g(Y:aD)(X:Fr)(Z:U):Prop:=aU (X 0) fun a b c=>aW .i64 (X 1) fun aK=>aM.t Y a b c aK Z
theorem aM.ok(Y:aD)(X:Fr)(Z:U)(g:aM.g Y X Z):den prog E aO (a7 E [.tmp 4,.tmp 5] Y) X Z:=
 bE g fun a b c d g=>a8 g fun aK e g=>c4 7 (r:=(a4 aO [W,W,W,W,W,W,W])) (by kernel_rfl) (g3.ok Y) (bT [(0,.slice a b c),(1,.int .i64 aK)] ⟨d,e,trivial⟩ (by kernel_rfl) g)
def t(a:M)(b c:Nat)(aK:Int)(Z:U)(Y:aD):Prop:=aM.t Y a b c aK Z
theorem ok{a:M}{b:Nat}{d:Nat}{aK:Int}{Z:U}{Y:aD}(g:t a b d aK Z Y):a0 id #[.slice a b d,.int .i64 aK] Z Y:=
 dQ dH (c:=aO) (dE:=[.tmp 4,.tmp 5]) Tryz.func63 (by kernel_rfl) (by kernel_rfl) (by kernel_rfl) (args:=[.slice a b d,.int .i64 aK]) (by kernel_rfl) (aM.ok Y _ Z (bD rfl (bR rfl (g))))
end j5
namespace o0
noncomputable def aO:Code:=dO Tryz.f64
def aZ.t(Y:aD)(a:M)(b c:Nat)(aJ:M)(aH aG:Nat)(Z:U):Prop:=
 a0 jH.id #[.slice a b c,.slice aJ aH aG] Z fun a b=>
 c1 a fun a=>
 cR a fun a c d e=>
 dM e .i64 fun e e=>
 b6 e <| Y (.slice a c d) b
def aZ.g(Y:aD)(X:Fr)(Z:U):Prop:=aU (X 0) fun a b c=>aU (X 1) fun aJ aH aG=>aZ.t Y a b c aJ aH aG Z
theorem aZ.ok(Y:aD)(X:Fr)(Z:U)(g:aZ.g Y X Z):den prog E (a4 aO [W,W]) (a7 E [.tmp 4] Y) X Z:=
 bE g fun a b c d g=>bE g fun aJ aH aG e g=>bT [(0,.slice a b c),(1,.slice aJ aH aG)] ⟨d,e,trivial⟩ (by kernel_rfl) g
def aM.t(Y:aD)(a:M)(b c:Nat)(aJ:M)(aH aG:Nat)(Z:U):Prop:=
 a0 iL.id #[.slice a b c,.slice aJ aH aG] Z fun d e=>
 aW .i64 d fun d=>
 cond (decide (d < 0)) (aZ.t Y aJ aH aG a b c e) (aZ.t Y a b c aJ aH aG e)
def aM.g(Y:aD)(X:Fr)(Z:U):Prop:=aU (X 0) fun a b c=>aU (X 1) fun aJ aH aG=>aM.t Y a b c aJ aH aG Z
theorem aM.ok(Y:aD)(X:Fr)(Z:U)(g:aM.g Y X Z):den prog E aO (a7 E [.tmp 4] Y) X Z:=
 bE g fun a b c d g=>bE g fun aJ aH aG e g=>c4 2 (r:=(a4 aO [W,W])) (by kernel_rfl) (aZ.ok Y) (bT [(0,.slice a b c),(1,.slice aJ aH aG)] ⟨d,e,trivial⟩ (by kernel_rfl) g)
def t(a:M)(b c:Nat)(aJ:M)(aH aG:Nat)(Z:U)(Y:aD):Prop:=aM.t Y a b c aJ aH aG Z
theorem ok{a:M}{b:Nat}{d:Nat}{aJ:M}{aH:Nat}{aG:Nat}{Z:U}{Y:aD}(g:t a b d aJ aH aG Z Y):a0 id #[.slice a b d,.slice aJ aH aG] Z Y:=
 dQ dH (c:=aO) (dE:=[.tmp 4]) Tryz.func64 (by kernel_rfl) (by kernel_rfl) (by kernel_rfl) (args:=[.slice a b d,.slice aJ aH aG]) (by kernel_rfl) (aM.ok Y _ Z (bD rfl (bD rfl (g))))
end o0
namespace nK
noncomputable def aO:Code:=dO Tryz.f65
def aM.t(Y:aD)(a:M)(b c:Nat)(Z:U):Prop:=
 a0 lA.id #[.slice a b c] Z fun a b=>
 aU a fun a c d=>
 cond ((((c:Nat):Int)) == 0) (Y (.int .i64 0) b) (a6 (IntKind.i64.wrap ((((c:Nat):Int)) - 1)) fun d=>
 a6 (IntKind.i64.wrap (64*d)) fun d=>
 a6 (IntKind.i64.wrap ((((c:Nat):Int)) - 1)) fun e=>
 c2 a c e 1 fun a=>
 cX b .u64 a fun a=>
 a0 lV.id #[.int .u64 a] b fun a b=>
 aW .i64 a fun a=>
 a6 (IntKind.i64.wrap (d+a)) fun a=>
 Y (.int .i64 a) b)
def aM.g(Y:aD)(X:Fr)(Z:U):Prop:=aU (X 0) fun a b c=>aM.t Y a b c Z
theorem aM.ok(Y:aD)(X:Fr)(Z:U)(g:aM.g Y X Z):den prog E aO (a7 E [.tmp 2] Y) X Z:=
 bE g fun a b c d g=>bT [(0,.slice a b c)] ⟨d,trivial⟩ (by kernel_rfl) g
def t(a:M)(b c:Nat)(Z:U)(Y:aD):Prop:=aM.t Y a b c Z
theorem ok{a:M}{b:Nat}{d:Nat}{Z:U}{Y:aD}(g:t a b d Z Y):a0 id #[.slice a b d] Z Y:=
 dQ dH (c:=aO) (dE:=[.tmp 2]) Tryz.func65 (by kernel_rfl) (by kernel_rfl) (by kernel_rfl) (args:=[.slice a b d]) (by kernel_rfl) (aM.ok Y _ Z (bD rfl (g)))
end nK
namespace iR
noncomputable def aO:Code:=dO Tryz.f68
def bF.t(Y:aD)(a:Int)(b:M)(c d:Nat)(e:Int)(f:M)(g h:Nat)(Z:U):Prop:=
 a0 gV.id #[.slice f g h] Z fun f g=>
 aU f fun f h i=>
 hX 1 b c d none (some (.int .i64 e)) none fun b c d=>
 a0 gV.id #[.slice b c d] g fun b c=>
 aU b fun b d e=>
 a0 kL.id #[.slice b d e,.int .i64 a] c fun a b=>
 aU a fun a c d=>
 Y (.tuple #[.slice f h i,.slice a c d]) b
def bF.g(Y:aD)(X:Fr)(Z:U):Prop:=aW .i64 (X 8) fun a=>aU (X 10) fun b c d=>aW .i64 (X 11) fun e=>aU (X 12) fun f h i=>bF.t Y a b c d e f h i Z
theorem bF.ok(Y:aD)(X:Fr)(Z:U)(g:bF.g Y X Z):den prog E (a4 aO [W,W,W,W,W,W,W,W,W,W,W]) (a7 E [.tmp 4,.tmp 5] Y) X Z:=
 a8 g fun a b g=>bE g fun c d e f g=>a8 g fun h i g=>bE g fun j k l m g=>bT [(8,.int .i64 a),(10,.slice c d e),(11,.int .i64 h),(12,.slice j k l)] ⟨b,f,i,m,trivial⟩ (by kernel_rfl) g
def eC.g(a:Int→M→Nat→Nat→M→Nat→Nat→Int→M→Nat→Nat→Int→U→Prop)(X:Fr)(Z:U):Prop:=aW .i64 (X 8) fun b=>aU (X 9) fun c d e=>aU (X 10) fun f h i=>aW .i64 (X 11) fun j=>aU (X 12) fun k l m=>aW .i64 (X 13) fun n=>a b c d e f h i j k l m n Z
def dD.t(Y:aD)(a:Int→M→Nat→Nat→M→Nat→Nat→Int→M→Nat→Nat→Int→U→Prop)(b:Int)(c:M)(d e:Nat)(f:M)(g h:Nat)(i:Int)(j:M)(k l:Nat)(m:Int)(Z:U):Prop:=
 cond (decide (m≥0)) (a6 (IntKind.i64.wrap (m+i)) fun n=>
 a6 (IntKind.i64.wrap (n+1)) fun n=>
 hX 1 f g h (some (.int .i64 m)) (some (.int .i64 n)) none fun n o p=>
 a0 g9.id #[.slice n o p,.slice c d e] Z fun n o=>
 aW .u32 n fun n=>
 c2 j k m 1 fun p=>
 b3 o p (.int .u32 n) fun n=>
 a6 (IntKind.i64.wrap (m - 1)) fun m=>
 a b c d e f g h i j k l m n) (bF.t Y b f g h i j k l Z)
def dD.g(Y:aD)(a:Int→M→Nat→Nat→M→Nat→Nat→Int→M→Nat→Nat→Int→U→Prop)(X:Fr)(Z:U):Prop:=aW .i64 (X 8) fun b=>aU (X 9) fun c d e=>aU (X 10) fun f h i=>aW .i64 (X 11) fun j=>aU (X 12) fun k l m=>aW .i64 (X 13) fun n=>dD.t Y a b c d e f h i j k l m n Z
theorem dD.ok(Y:aD)(a:Int→M→Nat→Nat→M→Nat→Nat→Int→M→Nat→Nat→Int→U→Prop)(X:Fr)(Z:U)(g:dD.g Y a X Z):den prog E (a4 aO [W,W,W,W,W,W,W,W,W,W,aR,W,aR,aR]) (a2.then (eC.g a) (a2.inBlock 2 (a2.then (bF.g Y) (a7 E [.tmp 4,.tmp 5] Y)))) X Z:=
 a8 g fun a b g=>bE g fun c d e f g=>bE g fun h i j k g=>a8 g fun l m g=>bE g fun n o p q g=>a8 g fun r s g=>bT [(8,.int .i64 a),(9,.slice c d e),(10,.slice h i j),(11,.int .i64 l),(12,.slice n o p),(13,.int .i64 r)] ⟨b,f,k,m,q,s,trivial⟩ (by kernel_rfl) g
def eC.t(Y:aD):Nat→Int→M→Nat→Nat→M→Nat→Nat→Int→M→Nat→Nat→Int→U→Prop
 | 0=>fun _ _ _ _ _ _ _ _ _ _ _ _ _=>False
 | n+1=>fun a b c d e f g h i j k l Z=>dD.t Y (eC.t Y n) a b c d e f g h i j k l Z
theorem eC.ok(Y:aD)(X:Fr)(Z:U)(g:eC.g (fun a b c d e f h i j k l m Z=>∃ n,eC.t Y n a b c d e f h i j k l m Z) X Z):den prog E (a4 aO [W,W,W,W,W,W,W,W,W,W,aR,W,aR]) (a2.inBlock 2 (a2.then (bF.g Y) (a7 E [.tmp 4,.tmp 5] Y))) X Z:=by
 obtain⟨a,o,g⟩:=bN g
 obtain⟨b,c,d,p,g⟩:=b0 g
 obtain⟨e,f,h,q,g⟩:=b0 g
 obtain⟨i,r,g⟩:=bN g
 obtain⟨j,k,l,s,g⟩:=b0 g
 obtain⟨m,u,g⟩:=bN g
 obtain⟨n,g⟩:=g
 refine fK (fun n=>eC.g (eC.t Y n)) (K:=(a4 aO [W,W,W,W,W,W,W,W,W,W,aR,W,aR,aR])) (by kernel_rfl) (fun X Z g=>?_) (fun n=>dD.ok Y (eC.t Y n)) n X Z (bR o (bD p (bD q (bR r (bD s (bR u (g)))))))
 obtain⟨a,o,g⟩:=bN g
 obtain⟨b,c,d,p,g⟩:=b0 g
 obtain⟨e,f,h,q,g⟩:=b0 g
 obtain⟨i,r,g⟩:=bN g
 obtain⟨j,k,l,s,g⟩:=b0 g
 obtain⟨m,u,g⟩:=bN g
 exact g
theorem p0.ok(Y:aD)(X:Fr)(Z:U)(g:eC.g (fun a b c d e f h i j k l m Z=>∃ n,eC.t Y n a b c d e f h i j k l m Z) X Z):den prog E (a4 aO [W,W,W,W,W,W,W,W,W,W,aR,W]) (a2.then (bF.g Y) (a7 E [.tmp 4,.tmp 5] Y)) X Z:=
 fA (by kernel_rfl) (eC.ok Y X Z g)
def cF.t(Y:aD)(a:Int)(b:M)(c d:Nat)(e:M)(f g:Nat)(h:Int)(i:M)(j k:Nat)(Z:U):Prop:=
 a6 (IntKind.i64.wrap ((((f:Nat):Int)) - h)) fun l=>
 a6 (IntKind.i64.wrap (l - 1)) fun l=>
 (∃ n,eC.t Y n a b c d e f g h i j k l Z)
def cF.g(Y:aD)(X:Fr)(Z:U):Prop:=aW .i64 (X 8) fun a=>aU (X 9) fun b c d=>aU (X 10) fun e f h=>aW .i64 (X 11) fun i=>aU (X 12) fun j k l=>cF.t Y a b c d e f h i j k l Z
theorem cF.ok(Y:aD)(X:Fr)(Z:U)(g:cF.g Y X Z):den prog E (a4 aO [W,W,W,W,W,W,W,W,W,W,aR]) (a2.then (bF.g Y) (a7 E [.tmp 4,.tmp 5] Y)) X Z:=
 a8 g fun a b g=>bE g fun c d e f g=>bE g fun h i j k g=>a8 g fun l m g=>bE g fun n o p q g=>c4 1 (r:=(a4 aO [W,W,W,W,W,W,W,W,W,W,aR,W])) (by kernel_rfl) (p0.ok Y) (bT [(8,.int .i64 a),(9,.slice c d e),(10,.slice h i j),(11,.int .i64 l),(12,.slice n o p)] ⟨b,f,k,m,q,trivial⟩ (by kernel_rfl) g)
theorem p1.ok(Y:aD)(X:Fr)(Z:U)(g:cF.g Y X Z):den prog E (a4 aO [W,W,W,W,W,W,W,W,W,W]) (a7 E [.tmp 4,.tmp 5] Y) X Z:=
 fZ (by kernel_rfl) (bF.ok Y) (cF.ok Y X Z g)
def aZ.t(Y:aD)(a:Int)(b:M)(c d:Nat)(e:M)(f g:Nat)(Z:U):Prop:=
 a6 (IntKind.i64.wrap ((((f:Nat):Int)) - (((c:Nat):Int)))) fun h=>
 h5 Z 89 h1 h h fun i j=>
 cF.t Y a b c d e f g (((c:Nat):Int)) (some i) h.toNat h.toNat j
def aZ.g(Y:aD)(X:Fr)(Z:U):Prop:=aW .i64 (X 8) fun a=>aU (X 9) fun b c d=>aU (X 10) fun e f h=>aZ.t Y a b c d e f h Z
theorem aZ.ok(Y:aD)(X:Fr)(Z:U)(g:aZ.g Y X Z):den prog E (a4 aO [W,W,W,W,W,W,W,W]) (a7 E [.tmp 4,.tmp 5] Y) X Z:=
 a8 g fun a b g=>bE g fun c d e f g=>bE g fun h i j k g=>c4 2 (r:=(a4 aO [W,W,W,W,W,W,W,W,W,W])) (by kernel_rfl) (p1.ok Y) (bT [(8,.int .i64 a),(9,.slice c d e),(10,.slice h i j)] ⟨b,f,k,trivial⟩ (by kernel_rfl) g)
def gR.g(a:M→Nat→Nat→Int→M→Nat→Nat→M→Nat→Nat→U→Prop)(X:Fr)(Z:U):Prop:=aU (X 0) fun b c d=>aW .i64 (X 8) fun e=>aU (X 9) fun f h i=>aU (X 10) fun j k l=>a b c d e f h i j k l Z
def iA.t(Y:aD)(a:M→Nat→Nat→Int→M→Nat→Nat→M→Nat→Nat→U→Prop)(b:M)(c d:Nat)(e:Int)(f:M)(g h:Nat)(i:M)(j k:Nat)(Z:U):Prop:=
 cond (decide ((((j:Nat):Int))≤(((c:Nat):Int)))) (dN Z 89 [.int .u32 0] fun l m=>
 hF m 89 h1 i j k (.slice (some l) 1 1) fun l m n o=>
 a b c d e f g h l m n o) (aZ.t Y e f g h i j k Z)
def iA.g(Y:aD)(a:M→Nat→Nat→Int→M→Nat→Nat→M→Nat→Nat→U→Prop)(X:Fr)(Z:U):Prop:=aU (X 0) fun b c d=>aW .i64 (X 8) fun e=>aU (X 9) fun f h i=>aU (X 10) fun j k l=>iA.t Y a b c d e f h i j k l Z
theorem iA.ok(Y:aD)(a:M→Nat→Nat→Int→M→Nat→Nat→M→Nat→Nat→U→Prop)(X:Fr)(Z:U)(g:iA.g Y a X Z):den prog E (a4 aO [W,W,W,W,W,W,W,aR,aR,aR]) (a2.then (gR.g a) (a2.inBlock 0 (a2.then (aZ.g Y) (a7 E [.tmp 4,.tmp 5] Y)))) X Z:=
 bE g fun a b c d g=>a8 g fun e f g=>bE g fun h i j k g=>bE g fun l m n o g=>bT [(0,.slice a b c),(8,.int .i64 e),(9,.slice h i j),(10,.slice l m n)] ⟨d,f,k,o,trivial⟩ (by kernel_rfl) g
def gR.t(Y:aD):Nat→M→Nat→Nat→Int→M→Nat→Nat→M→Nat→Nat→U→Prop
 | 0=>fun _ _ _ _ _ _ _ _ _ _ _=>False
 | n+1=>fun a b c d e f g h i j Z=>iA.t Y (gR.t Y n) a b c d e f g h i j Z
theorem gR.ok(Y:aD)(X:Fr)(Z:U)(g:gR.g (fun a b c d e f h i j k Z=>∃ n,gR.t Y n a b c d e f h i j k Z) X Z):den prog E (a4 aO [W,W,W,W,W,W,W,aR,aR]) (a2.inBlock 0 (a2.then (aZ.g Y) (a7 E [.tmp 4,.tmp 5] Y))) X Z:=by
 obtain⟨a,b,c,l,g⟩:=b0 g
 obtain⟨d,m,g⟩:=bN g
 obtain⟨e,f,h,o,g⟩:=b0 g
 obtain⟨i,j,k,p,g⟩:=b0 g
 obtain⟨n,g⟩:=g
 refine fK (fun n=>gR.g (gR.t Y n)) (K:=(a4 aO [W,W,W,W,W,W,W,aR,aR,aR])) (by kernel_rfl) (fun X Z g=>?_) (fun n=>iA.ok Y (gR.t Y n)) n X Z (bD l (bR m (bD o (bD p (g)))))
 obtain⟨a,b,c,l,g⟩:=b0 g
 obtain⟨d,m,g⟩:=bN g
 obtain⟨e,f,h,o,g⟩:=b0 g
 obtain⟨i,j,k,p,g⟩:=b0 g
 exact g
theorem w5.ok(Y:aD)(X:Fr)(Z:U)(g:gR.g (fun a b c d e f h i j k Z=>∃ n,gR.t Y n a b c d e f h i j k Z) X Z):den prog E (a4 aO [W,W,W,W,W,W,W,aR]) (a2.then (aZ.g Y) (a7 E [.tmp 4,.tmp 5] Y)) X Z:=
 fA (by kernel_rfl) (gR.ok Y X Z g)
theorem M0.ok(Y:aD)(X:Fr)(Z:U)(g:gR.g (fun a b c d e f h i j k Z=>∃ n,gR.t Y n a b c d e f h i j k Z) X Z):den prog E (a4 aO [W,W,W,W,W,W,W]) (a7 E [.tmp 4,.tmp 5] Y) X Z:=
 fZ (by kernel_rfl) (aZ.ok Y) (w5.ok Y X Z g)
def aM.t(Y:aD)(a:M)(b c:Nat)(aJ:M)(aH aG:Nat)(Z:U):Prop:=
 cond ((((aH:Nat):Int)) == 0) (a0 hM.id #[.int .u64 0] Z fun d e=>
 aU d fun d f g=>
 a0 hM.id #[.int .u64 0] e fun e h=>
 aU e fun e i j=>
 Y (.tuple #[.slice d f g,.slice e i j]) h) (a0 h8.id #[.slice a b c,.slice aJ aH aG] Z fun d e=>
 aW .i64 d fun d=>
 cond (decide (d < 0)) (a0 hM.id #[.int .u64 0] e fun d f=>
 aU d fun d g h=>
 a0 gV.id #[.slice a b c] f fun f i=>
 aU f fun f j k=>
 Y (.tuple #[.slice d g h,.slice f j k]) i) (cond ((((aH:Nat):Int)) == 1) (c2 aJ aH 0 1 fun d=>
 cX e .u32 d fun d=>
 a0 jC.id #[.slice a b c,.int .u32 d] e fun d f=>
 c1 d fun d=>
 cR d fun d g h i=>
 dM i .u32 fun i j=>
 b6 j <| a6 (IntKind.u64.wrap i) fun i=>
 a0 hM.id #[.int .u64 i] f fun f i=>
 aU f fun f j k=>
 Y (.tuple #[.slice d g h,.slice f j k]) i) (a6 (IntKind.i64.wrap ((((aH:Nat):Int)) - 1)) fun d=>
 hX 1 aJ aH aG (some (.int .i64 d)) none none fun d f g=>
 a0 kA.id #[.slice d f g] e fun d e=>
 aW .i64 d fun d=>
 a6 (IntKind.i64.wrap (32 - d)) fun d=>
 a0 kB.id #[.slice aJ aH aG,.int .i64 d] e fun e f=>
 aU e fun e g h=>
 a0 kB.id #[.slice a b c,.int .i64 d] f fun f i=>
 aU f fun f j k=>
 (∃ n,gR.t Y n a b c d e g h f j k i))))
def aM.g(Y:aD)(X:Fr)(Z:U):Prop:=aU (X 0) fun a b c=>aU (X 1) fun aJ aH aG=>aM.t Y a b c aJ aH aG Z
theorem aM.ok(Y:aD)(X:Fr)(Z:U)(g:aM.g Y X Z):den prog E aO (a7 E [.tmp 4,.tmp 5] Y) X Z:=
 bE g fun a b c d g=>bE g fun aJ aH aG e g=>c4 7 (r:=(a4 aO [W,W,W,W,W,W,W])) (by kernel_rfl) (M0.ok Y) (bT [(0,.slice a b c),(1,.slice aJ aH aG)] ⟨d,e,trivial⟩ (by kernel_rfl) g)
def t(a:M)(b c:Nat)(aJ:M)(aH aG:Nat)(Z:U)(Y:aD):Prop:=aM.t Y a b c aJ aH aG Z
theorem ok{a:M}{b:Nat}{d:Nat}{aJ:M}{aH:Nat}{aG:Nat}{Z:U}{Y:aD}(g:t a b d aJ aH aG Z Y):a0 id #[.slice a b d,.slice aJ aH aG] Z Y:=
 dQ dH (c:=aO) (dE:=[.tmp 4,.tmp 5]) Tryz.func68 (by kernel_rfl) (by kernel_rfl) (by kernel_rfl) (args:=[.slice a b d,.slice aJ aH aG]) (by kernel_rfl) (aM.ok Y _ Z (bD rfl (bD rfl (g))))
end iR
namespace kZ
noncomputable def aO:Code:=dO Tryz.f69
def aZ.t(Y:aD)(a:M)(b c:Nat)(aK:Int)(bY:M)(c bW:Nat)(Z:U):Prop:=
 (32:Int) ≠ 0∧a6 (IntKind.i64.wrap (Int.tdiv aK 32)) fun d=>
 c2 a b d 1 fun a=>
 cX Z .u32 a fun a=>
 (32:Int) ≠ 0∧a6 (Int.tmod aK 32) fun b=>
 0≤b∧a6 (hW .u32 1 b) fun b=>
 b ≠ 0∧a6 (Int.tmod a b) fun a=>
 dN Z 89 [.int .u32 a] fun a b=>
 hF b 89 h1 bY c bW (.slice (some a) 1 1) fun a b c d=>
 a0 gV.id #[.slice a b c] d fun a b=>
 aU a fun a c d=>
 Y (.slice a c d) b
def aZ.g(Y:aD)(X:Fr)(Z:U):Prop:=aU (X 0) fun a b c=>aW .i64 (X 1) fun aK=>aU (X 5) fun bY d bW=>aZ.t Y a b c aK bY d bW Z
theorem aZ.ok(Y:aD)(X:Fr)(Z:U)(g:aZ.g Y X Z):den prog E (a4 aO [W,W,W,W,W]) (a7 E [.tmp 4] Y) X Z:=
 bE g fun a b c d g=>a8 g fun aK e g=>bE g fun bY f bW h g=>bT [(0,.slice a b c),(1,.int .i64 aK),(5,.slice bY f bW)] ⟨d,e,h,trivial⟩ (by kernel_rfl) g
def cJ.g(a:M→Nat→Nat→Int→M→Nat→Nat→U→Prop)(X:Fr)(Z:U):Prop:=aU (X 0) fun b c d=>aW .i64 (X 1) fun aK=>aU (X 5) fun bY e bW=>a b c d aK bY e bW Z
def cF.t(Y:aD)(a:M→Nat→Nat→Int→M→Nat→Nat→U→Prop)(b:M)(c d:Nat)(aK:Int)(bY:M)(e bW:Nat)(Z:U):Prop:=
 (32:Int) ≠ 0∧a6 (IntKind.i64.wrap (Int.tdiv aK 32)) fun f=>
 cond (decide ((((e:Nat):Int)) < f)) (dN Z 89 [.int .u32 0] fun f g=>
 hF g 89 h1 bY e bW (.slice (some f) 1 1) fun f g h i=>
 a b c d aK f g h i) (aZ.t Y b c d aK bY e bW Z)
def cF.g(Y:aD)(a:M→Nat→Nat→Int→M→Nat→Nat→U→Prop)(X:Fr)(Z:U):Prop:=aU (X 0) fun b c d=>aW .i64 (X 1) fun aK=>aU (X 5) fun bY e bW=>cF.t Y a b c d aK bY e bW Z
theorem cF.ok(Y:aD)(a:M→Nat→Nat→Int→M→Nat→Nat→U→Prop)(X:Fr)(Z:U)(g:cF.g Y a X Z):den prog E (a4 aO [W,W,W,W,aR,aR,aR]) (a2.then (cJ.g a) (a2.inBlock 0 (a2.then (aZ.g Y) (a7 E [.tmp 4] Y)))) X Z:=
 bE g fun a b c d g=>a8 g fun aK e g=>bE g fun bY f bW h g=>bT [(0,.slice a b c),(1,.int .i64 aK),(5,.slice bY f bW)] ⟨d,e,h,trivial⟩ (by kernel_rfl) g
def cJ.t(Y:aD):Nat→M→Nat→Nat→Int→M→Nat→Nat→U→Prop
 | 0=>fun _ _ _ _ _ _ _ _=>False
 | n+1=>fun a b c aK bY d bW Z=>cF.t Y (cJ.t Y n) a b c aK bY d bW Z
theorem cJ.ok(Y:aD)(X:Fr)(Z:U)(g:cJ.g (fun a b c aK bY d bW Z=>∃ n,cJ.t Y n a b c aK bY d bW Z) X Z):den prog E (a4 aO [W,W,W,W,aR,aR]) (a2.inBlock 0 (a2.then (aZ.g Y) (a7 E [.tmp 4] Y))) X Z:=by
 obtain⟨a,b,c,e,g⟩:=b0 g
 obtain⟨aK,f,g⟩:=bN g
 obtain⟨bY,d,bW,h,g⟩:=b0 g
 obtain⟨n,g⟩:=g
 refine fK (fun n=>cJ.g (cJ.t Y n)) (K:=(a4 aO [W,W,W,W,aR,aR,aR])) (by kernel_rfl) (fun X Z g=>?_) (fun n=>cF.ok Y (cJ.t Y n)) n X Z (bD e (bR f (bD h (g))))
 obtain⟨a,b,c,e,g⟩:=b0 g
 obtain⟨aK,f,g⟩:=bN g
 obtain⟨bY,d,bW,h,g⟩:=b0 g
 exact g
theorem hD.ok(Y:aD)(X:Fr)(Z:U)(g:cJ.g (fun a b c aK bY d bW Z=>∃ n,cJ.t Y n a b c aK bY d bW Z) X Z):den prog E (a4 aO [W,W,W,W,aR]) (a2.then (aZ.g Y) (a7 E [.tmp 4] Y)) X Z:=
 fA (by kernel_rfl) (cJ.ok Y X Z g)
theorem p2.ok(Y:aD)(X:Fr)(Z:U)(g:cJ.g (fun a b c aK bY d bW Z=>∃ n,cJ.t Y n a b c aK bY d bW Z) X Z):den prog E (a4 aO [W,W,W,W]) (a7 E [.tmp 4] Y) X Z:=
 fZ (by kernel_rfl) (aZ.ok Y) (hD.ok Y X Z g)
def aM.t(Y:aD)(a:M)(b c:Nat)(aK:Int)(Z:U):Prop:=
 cond (decide (aK≤0)) (a0 hM.id #[.int .u64 0] Z fun d e=>
 aU d fun d f g=>
 Y (.slice d f g) e) ((32:Int) ≠ 0∧a6 (IntKind.i64.wrap (Int.tdiv aK 32)) fun d=>
 cond (decide (d≥(((b:Nat):Int)))) (a0 gV.id #[.slice a b c] Z fun d e=>
 aU d fun d f g=>
 Y (.slice d f g) e) ((32:Int) ≠ 0∧a6 (IntKind.i64.wrap (Int.tdiv aK 32)) fun d=>
 hX 1 a b c none (some (.int .i64 d)) none fun d e f=>
 a0 gV.id #[.slice d e f] Z fun d e=>
 aU d fun d f g=>
 (∃ n,cJ.t Y n a b c aK d f g e)))
def aM.g(Y:aD)(X:Fr)(Z:U):Prop:=aU (X 0) fun a b c=>aW .i64 (X 1) fun aK=>aM.t Y a b c aK Z
theorem aM.ok(Y:aD)(X:Fr)(Z:U)(g:aM.g Y X Z):den prog E aO (a7 E [.tmp 4] Y) X Z:=
 bE g fun a b c d g=>a8 g fun aK e g=>c4 4 (r:=(a4 aO [W,W,W,W])) (by kernel_rfl) (p2.ok Y) (bT [(0,.slice a b c),(1,.int .i64 aK)] ⟨d,e,trivial⟩ (by kernel_rfl) g)
def t(a:M)(b c:Nat)(aK:Int)(Z:U)(Y:aD):Prop:=aM.t Y a b c aK Z
theorem ok{a:M}{b:Nat}{d:Nat}{aK:Int}{Z:U}{Y:aD}(g:t a b d aK Z Y):a0 id #[.slice a b d,.int .i64 aK] Z Y:=
 dQ dH (c:=aO) (dE:=[.tmp 4]) Tryz.func69 (by kernel_rfl) (by kernel_rfl) (by kernel_rfl) (args:=[.slice a b d,.int .i64 aK]) (by kernel_rfl) (aM.ok Y _ Z (bD rfl (bR rfl (g))))
end kZ
namespace rH
noncomputable def aO:Code:=dO Tryz.f71
def aM.t(Y:aD)(a:Bool)(b:M)(c d:Nat)(aK:Int)(Z:U):Prop:=
 dN Z 82 [.bool a,.slice b c d] fun b1 a=>
 dN a 82 hP.a3 fun a b=>
 cond (decide (aK≥0)) (eG b (b1.add 0) fun c=>
 dP b (b1.add 1) fun d e f=>
 a0 kM.id #[.agg #[.bool c,.slice d e f],.int .i64 aK] b fun c fX=>
 eA c fun c=>
 e9 c fun c d=>
 cR d fun d e f g=>
 b6 g <| b3 fX (a.add 0) (.bool c) fun c=>
 b3 c (a.add 1) (.slice d e f) fun c=>
 eG c (a.add 0) fun d=>
 dP c (a.add 1) fun e f g=>
 Y (.agg #[.bool d,.slice e f g]) c) (eG b (b1.add 0) fun c=>
 dP b (b1.add 1) fun d e f=>
 a6 (IntKind.i64.wrap (0 - aK)) fun g=>
 a0 lF.id #[.agg #[.bool c,.slice d e f],.int .i64 g] b fun b c=>
 eA b fun b=>
 e9 b fun b d=>
 cR d fun d e f g=>
 b6 g <| b3 c (a.add 0) (.bool b) fun b=>
 b3 b (a.add 1) (.slice d e f) fun b=>
 eG b (a.add 0) fun c=>
 dP b (a.add 1) fun a d e=>
 Y (.agg #[.bool c,.slice a d e]) b)
def aM.g(Y:aD)(X:Fr)(Z:U):Prop:=eA (X 0) fun a=>cW a fun a b=>eS a fun a=>cW b fun b c=>aU b fun b d e=>b6 c <| aW .i64 (X 1) fun aK=>aM.t Y a b d e aK Z
theorem aM.ok(Y:aD)(X:Fr)(Z:U)(g:aM.g Y X Z):den prog E aO (a7 E [.cell 4 82] Y) X Z:=by
 obtain⟨m,a,b⟩:=iG g
 obtain⟨n,o,rfl,c⟩:=e1 b
 obtain⟨d,rfl,e⟩:=iE c
 obtain⟨p,q,rfl,f⟩:=e1 e
 obtain⟨h,i,j,rfl,k⟩:=b0 f
 obtain⟨rfl,g⟩:=hK k
 obtain⟨aK,l,g⟩:=bN g
 exact bT [(0,.agg #[.bool d,.slice h i j]),(1,.int .i64 aK)] ⟨a,l,trivial⟩ (by kernel_rfl) g
def t(a:Bool)(b:M)(c d:Nat)(aK:Int)(Z:U)(Y:aD):Prop:=aM.t Y a b c d aK Z
theorem ok{a:Bool}{b:M}{d:Nat}{e:Nat}{aK:Int}{Z:U}{Y:aD}(g:t a b d e aK Z Y):a0 id #[.agg #[.bool a,.slice b d e],.int .i64 aK] Z Y:=
 dQ dH (c:=aO) (dE:=[.cell 4 82]) Tryz.func71 (by kernel_rfl) (by kernel_rfl) (by kernel_rfl) (args:=[.agg #[.bool a,.slice b d e],.int .i64 aK]) (by kernel_rfl) (aM.ok Y _ Z (eW rfl (cK (cY rfl (cK (bD rfl (dY (bR rfl (g)))))))))
end rH
namespace lE
noncomputable def aO:Code:=dO Tryz.f72
def aM.t(Y:aD)(a:Bool)(b:M)(c d:Nat)(e:Bool)(f:M)(g h:Nat)(Z:U):Prop:=
 dN Z 82 [.bool a,.slice b c d] fun b1 a=>
 dN a 82 [.bool e,.slice f g h] fun a b=>
 eG b (b1.add 0) fun c=>
 dP b (b1.add 1) fun d e f=>
 eG b (a.add 0) fun g=>
 dP b (a.add 1) fun a h i=>
 a0 kN.id #[.agg #[.bool c,.slice d e f],.agg #[.bool g,.slice a h i]] b fun a b=>
 eA a fun a=>
 e9 a fun a c=>
 cR c fun c d e f=>
 b6 f <| a0 j6.id #[.agg #[.bool a,.slice c d e]] b fun a b=>
 aW .i64 a fun a=>
 Y (.int .i64 a) b
def aM.g(Y:aD)(X:Fr)(Z:U):Prop:=eA (X 0) fun a=>cW a fun a b=>eS a fun a=>cW b fun b c=>aU b fun b d e=>b6 c <| eA (X 1) fun c=>cW c fun c f=>eS c fun c=>cW f fun f h=>aU f fun f i j=>b6 h <| aM.t Y a b d e c f i j Z
theorem aM.ok(Y:aD)(X:Fr)(Z:U)(g:aM.g Y X Z):den prog E aO (a7 E [.tmp 4] Y) X Z:=by
 obtain⟨v,a,b⟩:=iG g
 obtain⟨w,x,rfl,c⟩:=e1 b
 obtain⟨d,rfl,e⟩:=iE c
 obtain⟨y,z,rfl,f⟩:=e1 e
 obtain⟨h,i,j,rfl,k⟩:=b0 f
 obtain⟨rfl,g⟩:=hK k
 obtain⟨A,l,m⟩:=iG g
 obtain⟨B,C,rfl,n⟩:=e1 m
 obtain⟨o,rfl,p⟩:=iE n
 obtain⟨D,F,rfl,q⟩:=e1 p
 obtain⟨r,s,t,rfl,u⟩:=b0 q
 obtain⟨rfl,g⟩:=hK u
 exact bT [(0,.agg #[.bool d,.slice h i j]),(1,.agg #[.bool o,.slice r s t])] ⟨a,l,trivial⟩ (by kernel_rfl) g
def t(a:Bool)(b:M)(c d:Nat)(e:Bool)(f:M)(g h:Nat)(Z:U)(Y:aD):Prop:=aM.t Y a b c d e f g h Z
theorem ok{a:Bool}{b:M}{d:Nat}{e:Nat}{f:Bool}{h:M}{i:Nat}{j:Nat}{Z:U}{Y:aD}(g:t a b d e f h i j Z Y):a0 id #[.agg #[.bool a,.slice b d e],.agg #[.bool f,.slice h i j]] Z Y:=
 dQ dH (c:=aO) (dE:=[.tmp 4]) Tryz.func72 (by kernel_rfl) (by kernel_rfl) (by kernel_rfl) (args:=[.agg #[.bool a,.slice b d e],.agg #[.bool f,.slice h i j]]) (by kernel_rfl) (aM.ok Y _ Z (eW rfl (cK (cY rfl (cK (bD rfl (dY (eW rfl (cK (cY rfl (cK (bD rfl (dY (g))))))))))))))
end lE
namespace kM
noncomputable def aO:Code:=dO Tryz.f73
def aM.t(Y:aD)(a:Bool)(b:M)(c d:Nat)(aK:Int)(Z:U):Prop:=
 dN Z 82 [.bool a,.slice b c d] fun b1 a=>
 dN a 82 hP.a3 fun a b=>
 (b1.add 0).block < b.size∧eG b (b1.add 0) fun c=>
 (b1.add 1).block < b.size∧dP b (b1.add 1) fun d e f=>
 a0 kB.id #[.slice d e f,.int .i64 aK] b fun d fX=>
 aU d fun d e f=>
 (eN b.size b fX)∧a0 fJ.id #[.bool c,.slice d e f] fX fun c d=>
 eA c fun c=>
 e9 c fun c e=>
 cR e fun e f g h=>
 b6 h <| (eN b.size fX d)∧b3 d (a.add 0) (.bool c) fun b=>
 b3 b (a.add 1) (.slice e f g) fun b=>
 eG b (a.add 0) fun c=>
 dP b (a.add 1) fun a d e=>
 Y (.agg #[.bool c,.slice a d e]) b
def aM.g(Y:aD)(X:Fr)(Z:U):Prop:=eA (X 0) fun a=>cW a fun a b=>eS a fun a=>cW b fun b c=>aU b fun b d e=>b6 c <| aW .i64 (X 1) fun aK=>aM.t Y a b d e aK Z
theorem aM.ok(Y:aD)(X:Fr)(Z:U)(g:aM.g Y X Z):den prog E aO (a7 E [.cell 4 82] Y) X Z:=by
 obtain⟨m,a,b⟩:=iG g
 obtain⟨n,o,rfl,c⟩:=e1 b
 obtain⟨d,rfl,e⟩:=iE c
 obtain⟨p,q,rfl,f⟩:=e1 e
 obtain⟨h,i,j,rfl,k⟩:=b0 f
 obtain⟨rfl,g⟩:=hK k
 obtain⟨aK,l,g⟩:=bN g
 exact bT [(0,.agg #[.bool d,.slice h i j]),(1,.int .i64 aK)] ⟨a,l,trivial⟩ (by kernel_rfl) g
def t(a:Bool)(b:M)(c d:Nat)(aK:Int)(Z:U)(Y:aD):Prop:=aM.t Y a b c d aK Z
theorem ok{a:Bool}{b:M}{d:Nat}{e:Nat}{aK:Int}{Z:U}{Y:aD}(g:t a b d e aK Z Y):a0 id #[.agg #[.bool a,.slice b d e],.int .i64 aK] Z Y:=
 dQ dH (c:=aO) (dE:=[.cell 4 82]) Tryz.func73 (by kernel_rfl) (by kernel_rfl) (by kernel_rfl) (args:=[.agg #[.bool a,.slice b d e],.int .i64 aK]) (by kernel_rfl) (aM.ok Y _ Z (eW rfl (cK (cY rfl (cK (bD rfl (dY (bR rfl (g)))))))))
end kM
namespace sT
noncomputable def aO:Code:=dO Tryz.f74
def aM.t(Y:aD)(a:Bool)(b:M)(c d:Nat)(Z:U):Prop:=
 dN Z 82 [.bool a,.slice b c d] fun b1 a=>
 dN a 82 hP.a3 fun a b=>
 dP b (b1.add 1) fun c d e=>
 a0 fJ.id #[.bool false,.slice c d e] b fun b c=>
 eA b fun b=>
 e9 b fun b d=>
 cR d fun d e f g=>
 b6 g <| b3 c (a.add 0) (.bool b) fun b=>
 b3 b (a.add 1) (.slice d e f) fun b=>
 eG b (a.add 0) fun c=>
 dP b (a.add 1) fun a d e=>
 Y (.agg #[.bool c,.slice a d e]) b
def aM.g(Y:aD)(X:Fr)(Z:U):Prop:=eA (X 0) fun a=>cW a fun a b=>eS a fun a=>cW b fun b c=>aU b fun b d e=>b6 c <| aM.t Y a b d e Z
theorem aM.ok(Y:aD)(X:Fr)(Z:U)(g:aM.g Y X Z):den prog E aO (a7 E [.cell 2 82] Y) X Z:=by
 obtain⟨l,a,b⟩:=iG g
 obtain⟨m,n,rfl,c⟩:=e1 b
 obtain⟨d,rfl,e⟩:=iE c
 obtain⟨o,p,rfl,f⟩:=e1 e
 obtain⟨h,i,j,rfl,k⟩:=b0 f
 obtain⟨rfl,g⟩:=hK k
 exact bT [(0,.agg #[.bool d,.slice h i j])] ⟨a,trivial⟩ (by kernel_rfl) g
def t(a:Bool)(b:M)(c d:Nat)(Z:U)(Y:aD):Prop:=aM.t Y a b c d Z
theorem ok{a:Bool}{b:M}{d:Nat}{e:Nat}{Z:U}{Y:aD}(g:t a b d e Z Y):a0 id #[.agg #[.bool a,.slice b d e]] Z Y:=
 dQ dH (c:=aO) (dE:=[.cell 2 82]) Tryz.func74 (by kernel_rfl) (by kernel_rfl) (by kernel_rfl) (args:=[.agg #[.bool a,.slice b d e]]) (by kernel_rfl) (aM.ok Y _ Z (eW rfl (cK (cY rfl (cK (bD rfl (dY (g))))))))
end sT
namespace j4
noncomputable def aO:Code:=dO Tryz.f75
def aZ.t(Y:aD)(cM:M)(a cO:Nat)(b:Int)(Z:U):Prop:=
 a6 (IntKind.u32.wrap b) fun b=>
 dN Z 89 [.int .u32 b] fun b c=>
 hF c 89 h1 cM a cO (.slice (some b) 1 1) fun a b c d=>
 a0 gV.id #[.slice a b c] d fun a fX=>
 aU a fun a b c=>
 Y (.slice a b c) fX
def aZ.g(Y:aD)(X:Fr)(Z:U):Prop:=aU (X 7) fun cM a cO=>aW .u64 (X 8) fun b=>aZ.t Y cM a cO b Z
theorem aZ.ok(Y:aD)(X:Fr)(Z:U)(g:aZ.g Y X Z):den prog E (a4 aO [W,W,W,W]) (a7 E [.tmp 6] Y) X Z:=
 bE g fun cM a cO b g=>a8 g fun c d g=>bT [(7,.slice cM a cO),(8,.int .u64 c)] ⟨b,d,trivial⟩ (by kernel_rfl) g
def bJ.g(a:M→Nat→Nat→Int→M→Nat→Nat→Int→Int→U→Prop)(X:Fr)(Z:U):Prop:=aU (X 0) fun b c d=>aW .u32 (X 1) fun aK=>aU (X 7) fun cM e cO=>aW .u64 (X 8) fun f=>aW .i64 (X 9) fun h=>a b c d aK cM e cO f h Z
def b9.t(Y:aD)(a:M→Nat→Nat→Int→M→Nat→Nat→Int→Int→U→Prop)(b:M)(c d:Nat)(aK:Int)(cM:M)(e cO:Nat)(f g:Int)(Z:U):Prop:=
 cond (decide (g < (((c:Nat):Int)))) (c2 b c g 1 fun h=>
 cX Z .u32 h fun h=>
 a6 (IntKind.u64.wrap h) fun h=>
 a6 (IntKind.u64.wrap aK) fun i=>
 a6 (IntKind.u64.wrap (h*i)) fun h=>
 a6 (IntKind.u64.wrap (f+h)) fun h=>
 a6 (iV .u64 h 4294967295) fun i=>
 a6 (IntKind.u32.wrap i) fun i=>
 dN Z 89 [.int .u32 i] fun i j=>
 hF j 89 h1 cM e cO (.slice (some i) 1 1) fun i j k l=>
 0≤(32:Int)∧a6 (gP .u64 h 32) fun h=>
 a6 (IntKind.i64.wrap (g+1)) fun g=>
 a b c d aK i j k h g l) (aZ.t Y cM e cO f Z)
def b9.g(Y:aD)(a:M→Nat→Nat→Int→M→Nat→Nat→Int→Int→U→Prop)(X:Fr)(Z:U):Prop:=aU (X 0) fun b c d=>aW .u32 (X 1) fun aK=>aU (X 7) fun cM e cO=>aW .u64 (X 8) fun f=>aW .i64 (X 9) fun h=>b9.t Y a b c d aK cM e cO f h Z
theorem b9.ok(Y:aD)(a:M→Nat→Nat→Int→M→Nat→Nat→Int→Int→U→Prop)(X:Fr)(Z:U)(g:b9.g Y a X Z):den prog E (a4 aO [W,W,W,aR,W,aR,aR]) (a2.then (bJ.g a) (a2.inBlock 0 (a2.then (aZ.g Y) (a7 E [.tmp 6] Y)))) X Z:=
 bE g fun a b c d g=>a8 g fun aK e g=>bE g fun cM f cO h g=>a8 g fun i j g=>a8 g fun k l g=>bT [(0,.slice a b c),(1,.int .u32 aK),(7,.slice cM f cO),(8,.int .u64 i),(9,.int .i64 k)] ⟨d,e,h,j,l,trivial⟩ (by kernel_rfl) g
def bJ.t(Y:aD):Nat→M→Nat→Nat→Int→M→Nat→Nat→Int→Int→U→Prop
 | 0=>fun _ _ _ _ _ _ _ _ _ _=>False
 | n+1=>fun a b c aK cM d cO e f Z=>b9.t Y (bJ.t Y n) a b c aK cM d cO e f Z
theorem bJ.ok(Y:aD)(X:Fr)(Z:U)(g:bJ.g (fun a b c aK cM d cO e f Z=>∃ n,bJ.t Y n a b c aK cM d cO e f Z) X Z):den prog E (a4 aO [W,W,W,aR,W,aR]) (a2.inBlock 0 (a2.then (aZ.g Y) (a7 E [.tmp 6] Y))) X Z:=by
 obtain⟨a,b,c,h,g⟩:=b0 g
 obtain⟨aK,i,g⟩:=bN g
 obtain⟨cM,d,cO,j,g⟩:=b0 g
 obtain⟨e,k,g⟩:=bN g
 obtain⟨f,l,g⟩:=bN g
 obtain⟨n,g⟩:=g
 refine fK (fun n=>bJ.g (bJ.t Y n)) (K:=(a4 aO [W,W,W,aR,W,aR,aR])) (by kernel_rfl) (fun X Z g=>?_) (fun n=>b9.ok Y (bJ.t Y n)) n X Z (bD h (bR i (bD j (bR k (bR l (g))))))
 obtain⟨a,b,c,h,g⟩:=b0 g
 obtain⟨aK,i,g⟩:=bN g
 obtain⟨cM,d,cO,j,g⟩:=b0 g
 obtain⟨e,k,g⟩:=bN g
 obtain⟨f,l,g⟩:=bN g
 exact g
theorem g2.ok(Y:aD)(X:Fr)(Z:U)(g:bJ.g (fun a b c aK cM d cO e f Z=>∃ n,bJ.t Y n a b c aK cM d cO e f Z) X Z):den prog E (a4 aO [W,W,W,aR,W]) (a2.then (aZ.g Y) (a7 E [.tmp 6] Y)) X Z:=
 fA (by kernel_rfl) (bJ.ok Y X Z g)
def bF.t(Y:aD)(a:M)(b c:Nat)(aK:Int)(cM:M)(d cO:Nat)(e:Int)(Z:U):Prop:=
 (∃ n,bJ.t Y n a b c aK cM d cO e 0 Z)
def bF.g(Y:aD)(X:Fr)(Z:U):Prop:=aU (X 0) fun a b c=>aW .u32 (X 1) fun aK=>aU (X 7) fun cM d cO=>aW .u64 (X 8) fun e=>bF.t Y a b c aK cM d cO e Z
theorem bF.ok(Y:aD)(X:Fr)(Z:U)(g:bF.g Y X Z):den prog E (a4 aO [W,W,W,aR]) (a2.then (aZ.g Y) (a7 E [.tmp 6] Y)) X Z:=
 bE g fun a b c d g=>a8 g fun aK e g=>bE g fun cM f cO h g=>a8 g fun i j g=>c4 1 (r:=(a4 aO [W,W,W,aR,W])) (by kernel_rfl) (g2.ok Y) (bT [(0,.slice a b c),(1,.int .u32 aK),(7,.slice cM f cO),(8,.int .u64 i)] ⟨d,e,h,j,trivial⟩ (by kernel_rfl) g)
theorem g3.ok(Y:aD)(X:Fr)(Z:U)(g:bF.g Y X Z):den prog E (a4 aO [W,W,W]) (a7 E [.tmp 6] Y) X Z:=
 fZ (by kernel_rfl) (aZ.ok Y) (bF.ok Y X Z g)
def aM.t(Y:aD)(a:M)(b c:Nat)(aK d:Int)(Z:U):Prop:=
 a6 (IntKind.i64.wrap ((((b:Nat):Int))+1)) fun eF=>
 h5 Z 89 h1 0 eF fun eY e=>
 a6 (IntKind.u64.wrap d) fun d=>
 bF.t Y a b c aK (some eY) ((0:Int).toNat) eF.toNat d e
def aM.g(Y:aD)(X:Fr)(Z:U):Prop:=aU (X 0) fun a b c=>aW .u32 (X 1) fun aK=>aW .u32 (X 2) fun d=>aM.t Y a b c aK d Z
theorem aM.ok(Y:aD)(X:Fr)(Z:U)(g:aM.g Y X Z):den prog E aO (a7 E [.tmp 6] Y) X Z:=
 bE g fun a b c d g=>a8 g fun aK e g=>a8 g fun f h g=>c4 3 (r:=(a4 aO [W,W,W])) (by kernel_rfl) (g3.ok Y) (bT [(0,.slice a b c),(1,.int .u32 aK),(2,.int .u32 f)] ⟨d,e,h,trivial⟩ (by kernel_rfl) g)
def t(a:M)(b c:Nat)(aK d:Int)(Z:U)(Y:aD):Prop:=aM.t Y a b c aK d Z
theorem ok{a:M}{b:Nat}{d:Nat}{aK:Int}{e:Int}{Z:U}{Y:aD}(g:t a b d aK e Z Y):a0 id #[.slice a b d,.int .u32 aK,.int .u32 e] Z Y:=
 dQ dH (c:=aO) (dE:=[.tmp 6]) Tryz.func75 (by kernel_rfl) (by kernel_rfl) (by kernel_rfl) (args:=[.slice a b d,.int .u32 aK,.int .u32 e]) (by kernel_rfl) (aM.ok Y _ Z (bD rfl (bR rfl (bR rfl (g)))))
end j4
namespace k4
noncomputable def aO:Code:=dO Tryz.f76
def aZ.t(Y:aD)(eY a dX:Addr)(Z:U):Prop:=
 eG Z (eY.add 0) fun b=>
 dP Z (eY.add 1) fun c d e=>
 eG Z (a.add 0) fun f=>
 dP Z (a.add 1) fun a g h=>
 a0 nC.id #[.agg #[.bool b,.slice c d e],.agg #[.bool f,.slice a g h]] Z fun a b=>
 eA a fun a=>
 e9 a fun a c=>
 cR c fun c d e f=>
 b6 f <| b3 b (dX.add 0) (.bool a) fun a=>
 b3 a (dX.add 1) (.slice c d e) fun a=>
 eG a (dX.add 0) fun b=>
 dP a (dX.add 1) fun c d e=>
 Y (.agg #[.bool b,.slice c d e]) a
def aZ.g(Y:aD)(X:Fr)(Z:U):Prop:=fU (X 2) fun eY=>fU (X 3) fun a=>fU (X 4) fun dX=>aZ.t Y eY a dX Z
theorem aZ.ok(Y:aD)(X:Fr)(Z:U)(g:aZ.g Y X Z):den prog E (a4 aO [W,W]) (a7 E [.cell 4 82] Y) X Z:=
 hH g fun eY a g=>hH g fun b c g=>hH g fun dX d g=>bT [(2,.pointer (some eY)),(3,.pointer (some b)),(4,.pointer (some dX))] ⟨a,c,d,trivial⟩ (by kernel_rfl) g
def aM.t(Y:aD)(a:Bool)(b:M)(c d:Nat)(e:Bool)(f:M)(g h:Nat)(Z:U):Prop:=
 dN Z 82 [.bool a,.slice b c d] fun b1 a=>
 dN a 82 [.bool e,.slice f g h] fun a b=>
 dN b 82 hP.a3 fun b c=>
 eG c (a.add 0) fun d=>
 cond d (b1.block < c.size∧eG c (b1.add 0) fun d=>
 dP c (b1.add 1) fun e f g=>
 a0 l1.id #[.agg #[.bool d,.slice e f g]] c fun d e=>
 eA d fun d=>
 e9 d fun d f=>
 cR f fun f g h i=>
 b6 i <| (eN c.size c e)∧a.block < c.size∧eG e (a.add 0) fun i=>
 dP e (a.add 1) fun j k l=>
 a0 l1.id #[.agg #[.bool i,.slice j k l]] e fun i j=>
 eA i fun i=>
 e9 i fun i k=>
 cR k fun k l m n=>
 b6 n <| (eN c.size e j)∧b3 j (b1.add 0) (.bool d) fun d=>
 b3 d (b1.add 1) (.slice f g h) fun d=>
 b3 d (a.add 0) (.bool i) fun d=>
 b3 d (a.add 1) (.slice k l m) fun d=>
 aZ.t Y b1 a b d) (aZ.t Y b1 a b c)
def aM.g(Y:aD)(X:Fr)(Z:U):Prop:=eA (X 0) fun a=>cW a fun a b=>eS a fun a=>cW b fun b c=>aU b fun b d e=>b6 c <| eA (X 1) fun c=>cW c fun c f=>eS c fun c=>cW f fun f h=>aU f fun f i j=>b6 h <| aM.t Y a b d e c f i j Z
theorem aM.ok(Y:aD)(X:Fr)(Z:U)(g:aM.g Y X Z):den prog E aO (a7 E [.cell 4 82] Y) X Z:=by
 obtain⟨w,a,b⟩:=iG g
 obtain⟨x,y,rfl,c⟩:=e1 b
 obtain⟨d,rfl,e⟩:=iE c
 obtain⟨z,A,rfl,f⟩:=e1 e
 obtain⟨h,i,j,rfl,k⟩:=b0 f
 obtain⟨rfl,g⟩:=hK k
 obtain⟨B,l,m⟩:=iG g
 obtain⟨C,D,rfl,n⟩:=e1 m
 obtain⟨o,rfl,p⟩:=iE n
 obtain⟨F,G,rfl,q⟩:=e1 p
 obtain⟨s,t,u,rfl,v⟩:=b0 q
 obtain⟨rfl,g⟩:=hK v
 exact c4 2 (r:=(a4 aO [W,W])) (by kernel_rfl) (aZ.ok Y) (bT [(0,.agg #[.bool d,.slice h i j]),(1,.agg #[.bool o,.slice s t u])] ⟨a,l,trivial⟩ (by kernel_rfl) g)
def t(a:Bool)(b:M)(c d:Nat)(e:Bool)(f:M)(g h:Nat)(Z:U)(Y:aD):Prop:=aM.t Y a b c d e f g h Z
theorem ok{a:Bool}{b:M}{d:Nat}{e:Nat}{f:Bool}{h:M}{i:Nat}{j:Nat}{Z:U}{Y:aD}(g:t a b d e f h i j Z Y):a0 id #[.agg #[.bool a,.slice b d e],.agg #[.bool f,.slice h i j]] Z Y:=
 dQ dH (c:=aO) (dE:=[.cell 4 82]) Tryz.func76 (by kernel_rfl) (by kernel_rfl) (by kernel_rfl) (args:=[.agg #[.bool a,.slice b d e],.agg #[.bool f,.slice h i j]]) (by kernel_rfl) (aM.ok Y _ Z (eW rfl (cK (cY rfl (cK (bD rfl (dY (eW rfl (cK (cY rfl (cK (bD rfl (dY (g))))))))))))))
end k4
namespace lF
noncomputable def aO:Code:=dO Tryz.f77
def aZ.t(Y:aD)(aK:Int)(eY dX a:Addr)(Z:U):Prop:=
 eG Z (eY.add 0) fun b=>
 cond b (dP Z (eY.add 1) fun b c d=>
 a0 kZ.id #[.slice b c d,.int .i64 aK] Z fun b c=>
 aU b fun b b d=>
 cond (decide ((((b:Nat):Int)) > 0)) (a.block < c.size∧eG c (a.add 0) fun b=>
 dP c (a.add 1) fun d e f=>
 a0 mP.id #[.int .i64 1] c fun g h=>
 eA g fun g=>
 e9 g fun g i=>
 cR i fun i j k l=>
 b6 l <| (eN c.size c h)∧a0 kN.id #[.agg #[.bool b,.slice d e f],.agg #[.bool g,.slice i j k]] h fun b d=>
 eA b fun b=>
 e9 b fun b e=>
 cR e fun e f g i=>
 b6 i <| (eN c.size h d)∧b3 d (dX.add 0) (.bool b) fun b=>
 b3 b (dX.add 1) (.slice e f g) fun b=>
 eG b (dX.add 0) fun d=>
 dP b (dX.add 1) fun e f g=>
 Y (.agg #[.bool d,.slice e f g]) b) (eG c (a.add 0) fun b=>
 dP c (a.add 1) fun d e f=>
 b3 c (dX.add 0) (.bool b) fun b=>
 b3 b (dX.add 1) (.slice d e f) fun b=>
 eG b (dX.add 0) fun c=>
 dP b (dX.add 1) fun d e f=>
 Y (.agg #[.bool c,.slice d e f]) b)) (eG Z (a.add 0) fun b=>
 dP Z (a.add 1) fun a c d=>
 b3 Z (dX.add 0) (.bool b) fun b=>
 b3 b (dX.add 1) (.slice a c d) fun a=>
 eG a (dX.add 0) fun b=>
 dP a (dX.add 1) fun c d e=>
 Y (.agg #[.bool b,.slice c d e]) a)
def aZ.g(Y:aD)(X:Fr)(Z:U):Prop:=aW .i64 (X 1) fun aK=>fU (X 2) fun eY=>fU (X 4) fun dX=>fU (X 5) fun a=>aZ.t Y aK eY dX a Z
theorem aZ.ok(Y:aD)(X:Fr)(Z:U)(g:aZ.g Y X Z):den prog E (a4 aO [W,W,W]) (a7 E [.cell 4 82] Y) X Z:=
 a8 g fun aK a g=>hH g fun eY b g=>hH g fun dX c g=>hH g fun d e g=>bT [(1,.int .i64 aK),(2,.pointer (some eY)),(4,.pointer (some dX)),(5,.pointer (some d))] ⟨a,b,c,e,trivial⟩ (by kernel_rfl) g
def aM.t(Y:aD)(a:Bool)(b:M)(c d:Nat)(aK:Int)(Z:U):Prop:=
 dN Z 82 [.bool a,.slice b c d] fun b1 a=>
 dN a 82 hP.a3 fun a b=>
 cond (decide (aK≤0)) (eG b (b1.add 0) fun c=>
 dP b (b1.add 1) fun d e f=>
 a0 fJ.id #[.bool c,.slice d e f] b fun c fX=>
 eA c fun c=>
 e9 c fun c d=>
 cR d fun d e f g=>
 b6 g <| b3 fX (a.add 0) (.bool c) fun c=>
 b3 c (a.add 1) (.slice d e f) fun c=>
 eG c (a.add 0) fun d=>
 dP c (a.add 1) fun e f g=>
 Y (.agg #[.bool d,.slice e f g]) c) ((b1.add 0).block < b.size∧eG b (b1.add 0) fun c=>
 (b1.add 1).block < b.size∧dP b (b1.add 1) fun d e f=>
 (a0 kL.id #[.slice d e f,.int .i64 aK] b fun g h=>
 aU g fun g i j=>
 (eN b.size b h)∧(a0 fJ.id #[.bool c,.slice g i j] h fun k l=>
 eA k fun k=>
 e9 k fun k m=>
 cR m fun m n o p=>
 b6 p <| (eN b.size h l)∧dN l 82 hP.a3 fun p q=>
 (eN b.size l q)∧b3 q (p.add 0) (.bool k) fun k=>
 b3 k (p.add 1) (.slice m n o) fun k=>
 aZ.t Y aK b1 a p k)∧(dN h 82 hP.a3 fun k l=>
 (eN b.size h l)∧a0 fJ.id #[.bool c,.slice g i j] l fun g h=>
 eA g fun g=>
 e9 g fun g i=>
 cR i fun i j m n=>
 b6 n <| (eN b.size l h)∧b3 h (k.add 0) (.bool g) fun g=>
 b3 g (k.add 1) (.slice i j m) fun g=>
 aZ.t Y aK b1 a k g))∧(dN b 82 hP.a3 fun g h=>
 (eN b.size b h)∧a0 kL.id #[.slice d e f,.int .i64 aK] h fun d e=>
 aU d fun d f i=>
 (eN b.size h e)∧a0 fJ.id #[.bool c,.slice d f i] e fun c d=>
 eA c fun c=>
 e9 c fun c f=>
 cR f fun f h i j=>
 b6 j <| (eN b.size e d)∧b3 d (g.add 0) (.bool c) fun b=>
 b3 b (g.add 1) (.slice f h i) fun b=>
 aZ.t Y aK b1 a g b))
def aM.g(Y:aD)(X:Fr)(Z:U):Prop:=eA (X 0) fun a=>cW a fun a b=>eS a fun a=>cW b fun b c=>aU b fun b d e=>b6 c <| aW .i64 (X 1) fun aK=>aM.t Y a b d e aK Z
theorem aM.ok(Y:aD)(X:Fr)(Z:U)(g:aM.g Y X Z):den prog E aO (a7 E [.cell 4 82] Y) X Z:=by
 obtain⟨m,a,b⟩:=iG g
 obtain⟨n,o,rfl,c⟩:=e1 b
 obtain⟨d,rfl,e⟩:=iE c
 obtain⟨p,q,rfl,f⟩:=e1 e
 obtain⟨h,i,j,rfl,k⟩:=b0 f
 obtain⟨rfl,g⟩:=hK k
 obtain⟨aK,l,g⟩:=bN g
 exact c4 3 (r:=(a4 aO [W,W,W])) (by kernel_rfl) (aZ.ok Y) (bT [(0,.agg #[.bool d,.slice h i j]),(1,.int .i64 aK)] ⟨a,l,trivial⟩ (by kernel_rfl) g)
def t(a:Bool)(b:M)(c d:Nat)(aK:Int)(Z:U)(Y:aD):Prop:=aM.t Y a b c d aK Z
theorem ok{a:Bool}{b:M}{d:Nat}{e:Nat}{aK:Int}{Z:U}{Y:aD}(g:t a b d e aK Z Y):a0 id #[.agg #[.bool a,.slice b d e],.int .i64 aK] Z Y:=
 dQ dH (c:=aO) (dE:=[.cell 4 82]) Tryz.func77 (by kernel_rfl) (by kernel_rfl) (by kernel_rfl) (args:=[.agg #[.bool a,.slice b d e],.int .i64 aK]) (by kernel_rfl) (aM.ok Y _ Z (eW rfl (cK (cY rfl (cK (bD rfl (dY (bR rfl (g)))))))))
end lF
namespace kN
noncomputable def aO:Code:=dO Tryz.f78
def aM.t(Y:aD)(a:Bool)(b:M)(c d:Nat)(e:Bool)(f:M)(g h:Nat)(Z:U):Prop:=
 dN Z 82 [.bool a,.slice b c d] fun b1 a=>
 dN a 82 [.bool e,.slice f g h] fun a b=>
 dN b 82 hP.a3 fun b c=>
 b1.block < c.size∧eG c (b1.add 0) fun d=>
 dP c (b1.add 1) fun e f g=>
 a.block < c.size∧eG c (a.add 0) fun h=>
 dP c (a.add 1) fun a i j=>
 a0 l1.id #[.agg #[.bool h,.slice a i j]] c fun a h=>
 eA a fun a=>
 e9 a fun a i=>
 cR i fun i j k l=>
 b6 l <| (eN c.size c h)∧a0 k3.id #[.agg #[.bool d,.slice e f g],.agg #[.bool a,.slice i j k]] h fun a d=>
 eA a fun a=>
 e9 a fun a e=>
 cR e fun e f g i=>
 b6 i <| (eN c.size h d)∧b3 d (b.add 0) (.bool a) fun a=>
 b3 a (b.add 1) (.slice e f g) fun a=>
 eG a (b.add 0) fun c=>
 dP a (b.add 1) fun b d e=>
 Y (.agg #[.bool c,.slice b d e]) a
def aM.g(Y:aD)(X:Fr)(Z:U):Prop:=eA (X 0) fun a=>cW a fun a b=>eS a fun a=>cW b fun b c=>aU b fun b d e=>b6 c <| eA (X 1) fun c=>cW c fun c f=>eS c fun c=>cW f fun f h=>aU f fun f i j=>b6 h <| aM.t Y a b d e c f i j Z
theorem aM.ok(Y:aD)(X:Fr)(Z:U)(g:aM.g Y X Z):den prog E aO (a7 E [.cell 4 82] Y) X Z:=by
 obtain⟨v,a,b⟩:=iG g
 obtain⟨w,x,rfl,c⟩:=e1 b
 obtain⟨d,rfl,e⟩:=iE c
 obtain⟨y,z,rfl,f⟩:=e1 e
 obtain⟨h,i,j,rfl,k⟩:=b0 f
 obtain⟨rfl,g⟩:=hK k
 obtain⟨A,l,m⟩:=iG g
 obtain⟨B,C,rfl,n⟩:=e1 m
 obtain⟨o,rfl,p⟩:=iE n
 obtain⟨D,F,rfl,q⟩:=e1 p
 obtain⟨r,s,t,rfl,u⟩:=b0 q
 obtain⟨rfl,g⟩:=hK u
 exact bT [(0,.agg #[.bool d,.slice h i j]),(1,.agg #[.bool o,.slice r s t])] ⟨a,l,trivial⟩ (by kernel_rfl) g
def t(a:Bool)(b:M)(c d:Nat)(e:Bool)(f:M)(g h:Nat)(Z:U)(Y:aD):Prop:=aM.t Y a b c d e f g h Z
theorem ok{a:Bool}{b:M}{d:Nat}{e:Nat}{f:Bool}{h:M}{i:Nat}{j:Nat}{Z:U}{Y:aD}(g:t a b d e f h i j Z Y):a0 id #[.agg #[.bool a,.slice b d e],.agg #[.bool f,.slice h i j]] Z Y:=
 dQ dH (c:=aO) (dE:=[.cell 4 82]) Tryz.func78 (by kernel_rfl) (by kernel_rfl) (by kernel_rfl) (args:=[.agg #[.bool a,.slice b d e],.agg #[.bool f,.slice h i j]]) (by kernel_rfl) (aM.ok Y _ Z (eW rfl (cK (cY rfl (cK (bD rfl (dY (eW rfl (cK (cY rfl (cK (bD rfl (dY (g))))))))))))))
end kN
namespace nT
noncomputable def aO:Code:=dO Tryz.f79
def aM.t(Y:aD)(a:Bool)(b:M)(c d:Nat)(e:Bool)(f:M)(g h:Nat)(Z:U):Prop:=
 dN Z 82 [.bool a,.slice b c d] fun b1 a=>
 dN a 82 [.bool e,.slice f g h] fun a b=>
 dN b 82 hP.a3 fun b c=>
 (b1.add 0).block < c.size∧eG c (b1.add 0) fun d=>
 (a.add 0).block < c.size∧eG c (a.add 0) fun e=>
 (b1.add 1).block < c.size∧dP c (b1.add 1) fun f g h=>
 (a.add 1).block < c.size∧dP c (a.add 1) fun a i j=>
 a0 h9.id #[.slice f g h,.slice a i j] c fun a f=>
 aU a fun a g h=>
 (eN c.size c f)∧a0 fJ.id #[.bool (!(d == e)),.slice a g h] f fun a d=>
 eA a fun a=>
 e9 a fun a e=>
 cR e fun e g h i=>
 b6 i <| (eN c.size f d)∧b3 d (b.add 0) (.bool a) fun a=>
 b3 a (b.add 1) (.slice e g h) fun a=>
 eG a (b.add 0) fun c=>
 dP a (b.add 1) fun b d e=>
 Y (.agg #[.bool c,.slice b d e]) a
def aM.g(Y:aD)(X:Fr)(Z:U):Prop:=eA (X 0) fun a=>cW a fun a b=>eS a fun a=>cW b fun b c=>aU b fun b d e=>b6 c <| eA (X 1) fun c=>cW c fun c f=>eS c fun c=>cW f fun f h=>aU f fun f i j=>b6 h <| aM.t Y a b d e c f i j Z
theorem aM.ok(Y:aD)(X:Fr)(Z:U)(g:aM.g Y X Z):den prog E aO (a7 E [.cell 4 82] Y) X Z:=by
 obtain⟨v,a,b⟩:=iG g
 obtain⟨w,x,rfl,c⟩:=e1 b
 obtain⟨d,rfl,e⟩:=iE c
 obtain⟨y,z,rfl,f⟩:=e1 e
 obtain⟨h,i,j,rfl,k⟩:=b0 f
 obtain⟨rfl,g⟩:=hK k
 obtain⟨A,l,m⟩:=iG g
 obtain⟨B,C,rfl,n⟩:=e1 m
 obtain⟨o,rfl,p⟩:=iE n
 obtain⟨D,F,rfl,q⟩:=e1 p
 obtain⟨r,s,t,rfl,u⟩:=b0 q
 obtain⟨rfl,g⟩:=hK u
 exact bT [(0,.agg #[.bool d,.slice h i j]),(1,.agg #[.bool o,.slice r s t])] ⟨a,l,trivial⟩ (by kernel_rfl) g
def t(a:Bool)(b:M)(c d:Nat)(e:Bool)(f:M)(g h:Nat)(Z:U)(Y:aD):Prop:=aM.t Y a b c d e f g h Z
theorem ok{a:Bool}{b:M}{d:Nat}{e:Nat}{f:Bool}{h:M}{i:Nat}{j:Nat}{Z:U}{Y:aD}(g:t a b d e f h i j Z Y):a0 id #[.agg #[.bool a,.slice b d e],.agg #[.bool f,.slice h i j]] Z Y:=
 dQ dH (c:=aO) (dE:=[.cell 4 82]) Tryz.func79 (by kernel_rfl) (by kernel_rfl) (by kernel_rfl) (args:=[.agg #[.bool a,.slice b d e],.agg #[.bool f,.slice h i j]]) (by kernel_rfl) (aM.ok Y _ Z (eW rfl (cK (cY rfl (cK (bD rfl (dY (eW rfl (cK (cY rfl (cK (bD rfl (dY (g))))))))))))))
end nT
namespace jC
noncomputable def aO:Code:=dO Tryz.f80
def aZ.t(Y:aD)(a9:M)(a bB:Nat)(b:Int)(Z:U):Prop:=
 a0 gV.id #[.slice a9 a bB] Z fun a c=>
 aU a fun a d e=>
 a6 (IntKind.u32.wrap b) fun b=>
 Y (.tuple #[.slice a d e,.int .u32 b]) c
def aZ.g(Y:aD)(X:Fr)(Z:U):Prop:=aU (X 6) fun a9 a bB=>aW .u64 (X 7) fun b=>aZ.t Y a9 a bB b Z
theorem aZ.ok(Y:aD)(X:Fr)(Z:U)(g:aZ.g Y X Z):den prog E (a4 aO [W,W,W,W,W]) (a7 E [.tmp 4,.tmp 5] Y) X Z:=
 bE g fun a9 a bB b g=>a8 g fun c d g=>bT [(6,.slice a9 a bB),(7,.int .u64 c)] ⟨b,d,trivial⟩ (by kernel_rfl) g
def bJ.g(a:M→Nat→Nat→Int→M→Nat→Nat→Int→Int→U→Prop)(X:Fr)(Z:U):Prop:=aU (X 0) fun b c d=>aW .u32 (X 1) fun aK=>aU (X 6) fun a9 e bB=>aW .u64 (X 7) fun f=>aW .i64 (X 8) fun h=>a b c d aK a9 e bB f h Z
def b9.t(Y:aD)(a:M→Nat→Nat→Int→M→Nat→Nat→Int→Int→U→Prop)(b:M)(c d:Nat)(aK:Int)(a9:M)(e bB:Nat)(f g:Int)(Z:U):Prop:=
 cond (decide (g≥0)) (0≤(32:Int)∧a6 (hW .u64 f 32) fun h=>
 c2 b c g 1 fun i=>
 cX Z .u32 i fun i=>
 a6 (IntKind.u64.wrap i) fun i=>
 a6 (IntKind.u64.wrap (h+i)) fun h=>
 a6 (IntKind.u64.wrap aK) fun i=>
 i ≠ 0∧a6 (IntKind.u64.wrap (Int.tdiv h i)) fun i=>
 a6 (IntKind.u32.wrap i) fun i=>
 c2 a9 e g 1 fun j=>
 b3 Z j (.int .u32 i) fun i=>
 a6 (IntKind.u64.wrap aK) fun j=>
 j ≠ 0∧a6 (Int.tmod h j) fun h=>
 a6 (IntKind.i64.wrap (g - 1)) fun g=>
 a b c d aK a9 e bB h g i) (aZ.t Y a9 e bB f Z)
def b9.g(Y:aD)(a:M→Nat→Nat→Int→M→Nat→Nat→Int→Int→U→Prop)(X:Fr)(Z:U):Prop:=aU (X 0) fun b c d=>aW .u32 (X 1) fun aK=>aU (X 6) fun a9 e bB=>aW .u64 (X 7) fun f=>aW .i64 (X 8) fun h=>b9.t Y a b c d aK a9 e bB f h Z
theorem b9.ok(Y:aD)(a:M→Nat→Nat→Int→M→Nat→Nat→Int→Int→U→Prop)(X:Fr)(Z:U)(g:b9.g Y a X Z):den prog E (a4 aO [W,W,W,W,aR,W,aR,aR]) (a2.then (bJ.g a) (a2.inBlock 0 (a2.then (aZ.g Y) (a7 E [.tmp 4,.tmp 5] Y)))) X Z:=
 bE g fun a b c d g=>a8 g fun aK e g=>bE g fun a9 f bB h g=>a8 g fun i j g=>a8 g fun k l g=>bT [(0,.slice a b c),(1,.int .u32 aK),(6,.slice a9 f bB),(7,.int .u64 i),(8,.int .i64 k)] ⟨d,e,h,j,l,trivial⟩ (by kernel_rfl) g
def bJ.t(Y:aD):Nat→M→Nat→Nat→Int→M→Nat→Nat→Int→Int→U→Prop
 | 0=>fun _ _ _ _ _ _ _ _ _ _=>False
 | n+1=>fun a b c aK a9 d bB e f Z=>b9.t Y (bJ.t Y n) a b c aK a9 d bB e f Z
theorem bJ.ok(Y:aD)(X:Fr)(Z:U)(g:bJ.g (fun a b c aK a9 d bB e f Z=>∃ n,bJ.t Y n a b c aK a9 d bB e f Z) X Z):den prog E (a4 aO [W,W,W,W,aR,W,aR]) (a2.inBlock 0 (a2.then (aZ.g Y) (a7 E [.tmp 4,.tmp 5] Y))) X Z:=by
 obtain⟨a,b,c,h,g⟩:=b0 g
 obtain⟨aK,i,g⟩:=bN g
 obtain⟨a9,d,bB,j,g⟩:=b0 g
 obtain⟨e,k,g⟩:=bN g
 obtain⟨f,l,g⟩:=bN g
 obtain⟨n,g⟩:=g
 refine fK (fun n=>bJ.g (bJ.t Y n)) (K:=(a4 aO [W,W,W,W,aR,W,aR,aR])) (by kernel_rfl) (fun X Z g=>?_) (fun n=>b9.ok Y (bJ.t Y n)) n X Z (bD h (bR i (bD j (bR k (bR l (g))))))
 obtain⟨a,b,c,h,g⟩:=b0 g
 obtain⟨aK,i,g⟩:=bN g
 obtain⟨a9,d,bB,j,g⟩:=b0 g
 obtain⟨e,k,g⟩:=bN g
 obtain⟨f,l,g⟩:=bN g
 exact g
theorem g2.ok(Y:aD)(X:Fr)(Z:U)(g:bJ.g (fun a b c aK a9 d bB e f Z=>∃ n,bJ.t Y n a b c aK a9 d bB e f Z) X Z):den prog E (a4 aO [W,W,W,W,aR,W]) (a2.then (aZ.g Y) (a7 E [.tmp 4,.tmp 5] Y)) X Z:=
 fA (by kernel_rfl) (bJ.ok Y X Z g)
def bF.t(Y:aD)(a:M)(b c:Nat)(aK:Int)(a9:M)(d bB:Nat)(e:Int)(Z:U):Prop:=
 a6 (IntKind.i64.wrap ((((b:Nat):Int)) - 1)) fun f=>(∃ n,bJ.t Y n a b c aK a9 d bB e f Z)
def bF.g(Y:aD)(X:Fr)(Z:U):Prop:=aU (X 0) fun a b c=>aW .u32 (X 1) fun aK=>aU (X 6) fun a9 d bB=>aW .u64 (X 7) fun e=>bF.t Y a b c aK a9 d bB e Z
theorem bF.ok(Y:aD)(X:Fr)(Z:U)(g:bF.g Y X Z):den prog E (a4 aO [W,W,W,W,aR]) (a2.then (aZ.g Y) (a7 E [.tmp 4,.tmp 5] Y)) X Z:=
 bE g fun a b c d g=>a8 g fun aK e g=>bE g fun a9 f bB h g=>a8 g fun i j g=>c4 1 (r:=(a4 aO [W,W,W,W,aR,W])) (by kernel_rfl) (g2.ok Y) (bT [(0,.slice a b c),(1,.int .u32 aK),(6,.slice a9 f bB),(7,.int .u64 i)] ⟨d,e,h,j,trivial⟩ (by kernel_rfl) g)
theorem g3.ok(Y:aD)(X:Fr)(Z:U)(g:bF.g Y X Z):den prog E (a4 aO [W,W,W,W]) (a7 E [.tmp 4,.tmp 5] Y) X Z:=
 fZ (by kernel_rfl) (aZ.ok Y) (bF.ok Y X Z g)
def aM.t(Y:aD)(a:M)(b c:Nat)(aK:Int)(Z:U):Prop:=
 cond (aK == 0) (a0 hM.id #[.int .u64 0] Z fun d e=>
 aU d fun d f g=>
 Y (.tuple #[.slice d f g,.int .u32 0]) e) (h5 Z 89 h1 (((b:Nat):Int)) (((b:Nat):Int)) fun dX d=>
 bF.t Y a b c aK (some dX) ((((b:Nat):Int)).toNat) ((((b:Nat):Int)).toNat) 0 d)
def aM.g(Y:aD)(X:Fr)(Z:U):Prop:=aU (X 0) fun a b c=>aW .u32 (X 1) fun aK=>aM.t Y a b c aK Z
theorem aM.ok(Y:aD)(X:Fr)(Z:U)(g:aM.g Y X Z):den prog E aO (a7 E [.tmp 4,.tmp 5] Y) X Z:=
 bE g fun a b c d g=>a8 g fun aK e g=>c4 4 (r:=(a4 aO [W,W,W,W])) (by kernel_rfl) (g3.ok Y) (bT [(0,.slice a b c),(1,.int .u32 aK)] ⟨d,e,trivial⟩ (by kernel_rfl) g)
def t(a:M)(b c:Nat)(aK:Int)(Z:U)(Y:aD):Prop:=aM.t Y a b c aK Z
theorem ok{a:M}{b:Nat}{d:Nat}{aK:Int}{Z:U}{Y:aD}(g:t a b d aK Z Y):a0 id #[.slice a b d,.int .u32 aK] Z Y:=
 dQ dH (c:=aO) (dE:=[.tmp 4,.tmp 5]) Tryz.func80 (by kernel_rfl) (by kernel_rfl) (by kernel_rfl) (args:=[.slice a b d,.int .u32 aK]) (by kernel_rfl) (aM.ok Y _ Z (bD rfl (bR rfl (g))))
end jC
namespace lG
noncomputable def aO:Code:=dO Tryz.f81
def aZ.t(Y:aD)(bS:M)(a bU:Nat)(b:M)(c d:Nat)(e:Int)(Z:U):Prop:=
 a0 hN.id #[.slice bS a bU,.slice b c d] Z fun a b=>
 aU a fun a c d=>
 Y (.tuple #[.slice a c d,.int .i64 e]) b
def aZ.g(Y:aD)(X:Fr)(Z:U):Prop:=aU (X 8) fun bS a bU=>aU (X 9) fun b c d=>aW .i64 (X 10) fun e=>aZ.t Y bS a bU b c d e Z
theorem aZ.ok(Y:aD)(X:Fr)(Z:U)(g:aZ.g Y X Z):den prog E (a4 aO [W,W,W,W,W]) (a7 E [.tmp 4,.tmp 5] Y) X Z:=
 bE g fun bS a bU b g=>bE g fun c d e f g=>a8 g fun h i g=>bT [(8,.slice bS a bU),(9,.slice c d e),(10,.int .i64 h)] ⟨b,f,i,trivial⟩ (by kernel_rfl) g
def bJ.g(a:Int→M→Nat→Nat→M→Nat→Nat→M→Nat→Nat→Int→Int→U→Prop)(X:Fr)(Z:U):Prop:=aW .u32 (X 0) fun aX=>aU (X 6) fun a9 b bB=>aU (X 8) fun bS c bU=>aU (X 9) fun d e f=>aW .i64 (X 10) fun h=>aW .u32 (X 11) fun i=>a aX a9 b bB bS c bU d e f h i Z
def b9.t(Y:aD)(a:Int→M→Nat→Nat→M→Nat→Nat→M→Nat→Nat→Int→Int→U→Prop)(aX:Int)(a9:M)(b bB:Nat)(bS:M)(c bU:Nat)(d:M)(e f:Nat)(g h:Int)(Z:U):Prop:=
 cond (decide ((((b:Nat):Int)) > 0)) (a0 jC.id #[.slice a9 b bB,.int .u32 h] Z fun i j=>
 c1 i fun i=>
 cR i fun i k l m=>
 dM m .u32 fun m m=>
 b6 m <| (4:Int) ≠ 0∧a6 (Int.tmod h 4) fun m=>
 cond (m == 1) (a0 g8.id #[.slice bS c bU,.slice i k l] j fun m n=>
 aU m fun m o p=>
 a0 jC.id #[.slice a9 b bB,.int .u32 aX] n fun n q=>
 c1 n fun n=>
 cR n fun n r s u=>
 dM u .u32 fun u u=>
 b6 u <| a0 jC.id #[.slice n r s,.int .u32 aX] q fun n q=>
 c1 n fun n=>
 cR n fun n r s u=>
 dM u .u32 fun u u=>
 b6 u <| a6 (IntKind.i64.wrap (g+1)) fun u=>
 a6 (IntKind.u32.wrap (h+2)) fun v=>
 a aX n r s m o p d e f u v q) (a0 g8.id #[.slice d e f,.slice i k l] j fun i j=>
 aU i fun i k l=>
 a0 jC.id #[.slice a9 b bB,.int .u32 aX] j fun b j=>
 c1 b fun b=>
 cR b fun b m n o=>
 dM o .u32 fun o o=>
 b6 o <| a0 jC.id #[.slice b m n,.int .u32 aX] j fun b j=>
 c1 b fun b=>
 cR b fun b m n o=>
 dM o .u32 fun o o=>
 b6 o <| a6 (IntKind.i64.wrap (g+1)) fun o=>
 a6 (IntKind.u32.wrap (h+2)) fun h=>
 a aX b m n bS c bU i k l o h j)) (aZ.t Y bS c bU d e f g Z)
def b9.g(Y:aD)(a:Int→M→Nat→Nat→M→Nat→Nat→M→Nat→Nat→Int→Int→U→Prop)(X:Fr)(Z:U):Prop:=aW .u32 (X 0) fun aX=>aU (X 6) fun a9 b bB=>aU (X 8) fun bS c bU=>aU (X 9) fun d e f=>aW .i64 (X 10) fun h=>aW .u32 (X 11) fun i=>b9.t Y a aX a9 b bB bS c bU d e f h i Z
theorem b9.ok(Y:aD)(a:Int→M→Nat→Nat→M→Nat→Nat→M→Nat→Nat→Int→Int→U→Prop)(X:Fr)(Z:U)(g:b9.g Y a X Z):den prog E (a4 aO [W,W,W,W,aR,W,aR,aR]) (a2.then (bJ.g a) (a2.inBlock 0 (a2.then (aZ.g Y) (a7 E [.tmp 4,.tmp 5] Y)))) X Z:=
 a8 g fun aX a g=>bE g fun a9 b bB c g=>bE g fun bS d bU e g=>bE g fun f h i j g=>a8 g fun k l g=>a8 g fun m n g=>bT [(0,.int .u32 aX),(6,.slice a9 b bB),(8,.slice bS d bU),(9,.slice f h i),(10,.int .i64 k),(11,.int .u32 m)] ⟨a,c,e,j,l,n,trivial⟩ (by kernel_rfl) g
def bJ.t(Y:aD):Nat→Int→M→Nat→Nat→M→Nat→Nat→M→Nat→Nat→Int→Int→U→Prop
 | 0=>fun _ _ _ _ _ _ _ _ _ _ _ _ _=>False
 | n+1=>fun aX a9 a bB bS b bU c d e f g Z=>b9.t Y (bJ.t Y n) aX a9 a bB bS b bU c d e f g Z
theorem bJ.ok(Y:aD)(X:Fr)(Z:U)(g:bJ.g (fun aX a9 a bB bS b bU c d e f h Z=>∃ n,bJ.t Y n aX a9 a bB bS b bU c d e f h Z) X Z):den prog E (a4 aO [W,W,W,W,aR,W,aR]) (a2.inBlock 0 (a2.then (aZ.g Y) (a7 E [.tmp 4,.tmp 5] Y))) X Z:=by
 obtain⟨aX,i,g⟩:=bN g
 obtain⟨a9,a,bB,j,g⟩:=b0 g
 obtain⟨bS,b,bU,k,g⟩:=b0 g
 obtain⟨c,d,e,l,g⟩:=b0 g
 obtain⟨f,m,g⟩:=bN g
 obtain⟨h,o,g⟩:=bN g
 obtain⟨n,g⟩:=g
 refine fK (fun n=>bJ.g (bJ.t Y n)) (K:=(a4 aO [W,W,W,W,aR,W,aR,aR])) (by kernel_rfl) (fun X Z g=>?_) (fun n=>b9.ok Y (bJ.t Y n)) n X Z (bR i (bD j (bD k (bD l (bR m (bR o (g)))))))
 obtain⟨aX,i,g⟩:=bN g
 obtain⟨a9,a,bB,j,g⟩:=b0 g
 obtain⟨bS,b,bU,k,g⟩:=b0 g
 obtain⟨c,d,e,l,g⟩:=b0 g
 obtain⟨f,m,g⟩:=bN g
 obtain⟨h,o,g⟩:=bN g
 exact g
theorem g2.ok(Y:aD)(X:Fr)(Z:U)(g:bJ.g (fun aX a9 a bB bS b bU c d e f h Z=>∃ n,bJ.t Y n aX a9 a bB bS b bU c d e f h Z) X Z):den prog E (a4 aO [W,W,W,W,aR,W]) (a2.then (aZ.g Y) (a7 E [.tmp 4,.tmp 5] Y)) X Z:=
 fA (by kernel_rfl) (bJ.ok Y X Z g)
def bF.t(Y:aD)(aX:Int)(a9:M)(a bB:Nat)(bS:M)(b bU:Nat)(c:M)(d e:Nat)(f:Int)(Z:U):Prop:=
 (∃ n,bJ.t Y n aX a9 a bB bS b bU c d e f 1 Z)
def bF.g(Y:aD)(X:Fr)(Z:U):Prop:=aW .u32 (X 0) fun aX=>aU (X 6) fun a9 a bB=>aU (X 8) fun bS b bU=>aU (X 9) fun c d e=>aW .i64 (X 10) fun f=>bF.t Y aX a9 a bB bS b bU c d e f Z
theorem bF.ok(Y:aD)(X:Fr)(Z:U)(g:bF.g Y X Z):den prog E (a4 aO [W,W,W,W,aR]) (a2.then (aZ.g Y) (a7 E [.tmp 4,.tmp 5] Y)) X Z:=
 a8 g fun aX a g=>bE g fun a9 b bB c g=>bE g fun bS d bU e g=>bE g fun f h i j g=>a8 g fun k l g=>c4 1 (r:=(a4 aO [W,W,W,W,aR,W])) (by kernel_rfl) (g2.ok Y) (bT [(0,.int .u32 aX),(6,.slice a9 b bB),(8,.slice bS d bU),(9,.slice f h i),(10,.int .i64 k)] ⟨a,c,e,j,l,trivial⟩ (by kernel_rfl) g)
theorem g3.ok(Y:aD)(X:Fr)(Z:U)(g:bF.g Y X Z):den prog E (a4 aO [W,W,W,W]) (a7 E [.tmp 4,.tmp 5] Y) X Z:=
 fZ (by kernel_rfl) (aZ.ok Y) (bF.ok Y X Z g)
def aM.t(Y:aD)(aX aK:Int)(Z:U):Prop:=
 a0 nW.id #[.int .i64 aK] Z fun a b=>
 aU a fun a c d=>
 a0 jC.id #[.slice a c d,.int .u32 aX] b fun a b=>
 c1 a fun a=>
 cR a fun a c d e=>
 dM e .u32 fun e e=>
 b6 e <| a0 hM.id #[.int .u64 0] b fun b e=>
 aU b fun b f g=>
 a0 hM.id #[.int .u64 0] e fun e h=>
 aU e fun e i j=>
 bF.t Y aX a c d b f g e i j 0 h
def aM.g(Y:aD)(X:Fr)(Z:U):Prop:=aW .u32 (X 0) fun aX=>aW .i64 (X 1) fun aK=>aM.t Y aX aK Z
theorem aM.ok(Y:aD)(X:Fr)(Z:U)(g:aM.g Y X Z):den prog E aO (a7 E [.tmp 4,.tmp 5] Y) X Z:=
 a8 g fun aX a g=>a8 g fun aK b g=>c4 4 (r:=(a4 aO [W,W,W,W])) (by kernel_rfl) (g3.ok Y) (bT [(0,.int .u32 aX),(1,.int .i64 aK)] ⟨a,b,trivial⟩ (by kernel_rfl) g)
def t(aX aK:Int)(Z:U)(Y:aD):Prop:=aM.t Y aX aK Z
theorem ok{aX:Int}{aK:Int}{Z:U}{Y:aD}(g:t aX aK Z Y):a0 id #[.int .u32 aX,.int .i64 aK] Z Y:=
 dQ dH (c:=aO) (dE:=[.tmp 4,.tmp 5]) Tryz.func81 (by kernel_rfl) (by kernel_rfl) (by kernel_rfl) (args:=[.int .u32 aX,.int .i64 aK]) (by kernel_rfl) (aM.ok Y _ Z (bR rfl (bR rfl (g))))
end lG
namespace sK
noncomputable def aO:Code:=dO Tryz.f82
def aM.t(Y:aD)(aX:Int)(Z:U):Prop:=
 cond (decide (aX < 0)) (a0 hM.id #[.int .u64 0] Z fun a b=>
 aU a fun a c d=>
 Y (.slice a c d) b) (a6 (IntKind.u64.wrap aX) fun a=>
 a0 hM.id #[.int .u64 a] Z fun a b=>
 aU a fun a c d=>
 Y (.slice a c d) b)
def aM.g(Y:aD)(X:Fr)(Z:U):Prop:=aW .i64 (X 0) fun aX=>aM.t Y aX Z
theorem aM.ok(Y:aD)(X:Fr)(Z:U)(g:aM.g Y X Z):den prog E aO (a7 E [.tmp 2] Y) X Z:=
 a8 g fun aX a g=>bT [(0,.int .i64 aX)] ⟨a,trivial⟩ (by kernel_rfl) g
def t(aX:Int)(Z:U)(Y:aD):Prop:=aM.t Y aX Z
theorem ok{aX:Int}{Z:U}{Y:aD}(g:t aX Z Y):a0 id #[.int .i64 aX] Z Y:=
 dQ dH (c:=aO) (dE:=[.tmp 2]) Tryz.func82 (by kernel_rfl) (by kernel_rfl) (by kernel_rfl) (args:=[.int .i64 aX]) (by kernel_rfl) (aM.ok Y _ Z (bR rfl (g)))
end sK
namespace j1
noncomputable def aO:Code:=dO Tryz.f85
def aM.t(Y:aD)(a:M)(b c:Nat)(Z:U):Prop:=
 cond (decide ((((b:Nat):Int))≤8192)) (cond ((((b:Nat):Int)) == 0) (Y (.bool true) Z) (a6 (IntKind.i64.wrap ((((b:Nat):Int)) - 1)) fun eF=>
 c2 a b eF 1 fun eY=>
 cX Z .u64 eY fun a=>
 Y (.bool (a != 0)) Z)) (Y (.bool false) Z)
def aM.g(Y:aD)(X:Fr)(Z:U):Prop:=aU (X 0) fun a b c=>aM.t Y a b c Z
theorem aM.ok(Y:aD)(X:Fr)(Z:U)(g:aM.g Y X Z):den prog E aO (a7 E [.tmp 2] Y) X Z:=
 bE g fun a b c d g=>bT [(0,.slice a b c)] ⟨d,trivial⟩ (by kernel_rfl) g
def t(a:M)(b c:Nat)(Z:U)(Y:aD):Prop:=aM.t Y a b c Z
theorem ok{a:M}{b:Nat}{d:Nat}{Z:U}{Y:aD}(g:t a b d Z Y):a0 id #[.slice a b d] Z Y:=
 dQ dH (c:=aO) (dE:=[.tmp 2]) Tryz.func85 (by kernel_rfl) (by kernel_rfl) (by kernel_rfl) (args:=[.slice a b d]) (by kernel_rfl) (aM.ok Y _ Z (bD rfl (g)))
end j1
namespace pG
noncomputable def aO:Code:=dO Tryz.f86
def aM.t(Y:aD)(aX aK:Int)(Z:U):Prop:=
 a6 (iV .u64 aX 4294967295) fun eF=>
 0≤(32:Int)∧a6 (gP .u64 aX 32) fun a=>
 a6 (iV .u64 aK 4294967295) fun b=>
 0≤(32:Int)∧a6 (gP .u64 aK 32) fun c=>
 a6 (IntKind.u64.wrap (eF*b)) fun d=>
 a6 (IntKind.u64.wrap (a*b)) fun b=>
 0≤(32:Int)∧a6 (gP .u64 d 32) fun d=>
 a6 (IntKind.u64.wrap (b+d)) fun b=>
 a6 (iV .u64 b 4294967295) fun d=>
 0≤(32:Int)∧a6 (gP .u64 b 32) fun b=>
 a6 (IntKind.u64.wrap (eF*c)) fun e=>
 a6 (IntKind.u64.wrap (d+e)) fun d=>
 a6 (IntKind.u64.wrap (a*c)) fun a=>
 a6 (IntKind.u64.wrap (a+b)) fun a=>
 0≤(32:Int)∧a6 (gP .u64 d 32) fun b=>
 a6 (IntKind.u64.wrap (a+b)) fun a=>
 a6 (IntKind.u64.wrap (aX*aK)) fun b=>
 Y (.tuple #[.int .u64 a,.int .u64 b]) Z
def aM.g(Y:aD)(X:Fr)(Z:U):Prop:=aW .u64 (X 0) fun aX=>aW .u64 (X 1) fun aK=>aM.t Y aX aK Z
theorem aM.ok(Y:aD)(X:Fr)(Z:U)(g:aM.g Y X Z):den prog E aO (a7 E [.tmp 4,.tmp 5] Y) X Z:=
 a8 g fun aX a g=>a8 g fun aK b g=>bT [(0,.int .u64 aX),(1,.int .u64 aK)] ⟨a,b,trivial⟩ (by kernel_rfl) g
def t(aX aK:Int)(Z:U)(Y:aD):Prop:=aM.t Y aX aK Z
theorem ok{aX:Int}{aK:Int}{Z:U}{Y:aD}(g:t aX aK Z Y):a0 id #[.int .u64 aX,.int .u64 aK] Z Y:=
 dQ dH (c:=aO) (dE:=[.tmp 4,.tmp 5]) Tryz.func86 (by kernel_rfl) (by kernel_rfl) (by kernel_rfl) (args:=[.int .u64 aX,.int .u64 aK]) (by kernel_rfl) (aM.ok Y _ Z (bR rfl (bR rfl (g))))
end pG
namespace mK
noncomputable def aO:Code:=dO Tryz.f88
def aM.t(Y:aD)(a:M)(b c:Nat)(Z:U):Prop:=
 a0 lA.id #[.slice a b c] Z fun a b=>
 aU a fun a c d=>
 cond (decide ((((c:Nat):Int)) > 8192)) (Y (.tuple #[.slice none 0 0,.int .i64 5]) b) (Y (.tuple #[.slice a c d,.int .i64 0]) b)
def aM.g(Y:aD)(X:Fr)(Z:U):Prop:=aU (X 0) fun a b c=>aM.t Y a b c Z
theorem aM.ok(Y:aD)(X:Fr)(Z:U)(g:aM.g Y X Z):den prog E aO (a7 E [.tmp 2,.tmp 3] Y) X Z:=
 bE g fun a b c d g=>bT [(0,.slice a b c)] ⟨d,trivial⟩ (by kernel_rfl) g
def t(a:M)(b c:Nat)(Z:U)(Y:aD):Prop:=aM.t Y a b c Z
theorem ok{a:M}{b:Nat}{d:Nat}{Z:U}{Y:aD}(g:t a b d Z Y):a0 id #[.slice a b d] Z Y:=
 dQ dH (c:=aO) (dE:=[.tmp 2,.tmp 3]) Tryz.func88 (by kernel_rfl) (by kernel_rfl) (by kernel_rfl) (args:=[.slice a b d]) (by kernel_rfl) (aM.ok Y _ Z (bD rfl (g)))
end mK
namespace qV
noncomputable def aO:Code:=dO Tryz.f89
def aM.t(Y:aD)(aX:Int)(Z:U):Prop:=
 a0 l4.id #[.int .u64 5,.int .i64 aX] Z fun a b=>
 c1 a fun a=>
 cR a fun a c d e=>
 dM e .u64 fun e f=>
 b6 f <| a0 l4.id #[.int .u64 239,.int .i64 aX] b fun b f=>
 c1 b fun b=>
 cR b fun b g h i=>
 dM i .u64 fun i j=>
 b6 j <| a0 jI.id #[.slice a c d,.int .u64 16] f fun a c=>
 c1 a fun a=>
 cR a fun a d f j=>
 dM j .i64 fun j j=>
 b6 j <| a0 jI.id #[.slice b g h,.int .u64 4] c fun b c=>
 c1 b fun b=>
 cR b fun b g h j=>
 dM j .i64 fun j j=>
 b6 j <| a0 jH.id #[.slice a d f,.slice b g h] c fun a b=>
 c1 a fun a=>
 cR a fun a c d f=>
 dM f .i64 fun f f=>
 b6 f <| a6 (IntKind.u64.wrap (16*e)) fun e=>
 a6 (IntKind.u64.wrap (4*i)) fun f=>
 a6 (IntKind.u64.wrap (e+f)) fun e=>
 a0 sJ.id #[.slice a c d,.int .u64 e] b fun a b=>
 c1 a fun a=>
 cR a fun a c d e=>
 cR e fun e f g h=>
 b6 h <| Y (.tuple #[.slice a c d,.slice e f g]) b
def aM.g(Y:aD)(X:Fr)(Z:U):Prop:=aW .i64 (X 0) fun aX=>aM.t Y aX Z
theorem aM.ok(Y:aD)(X:Fr)(Z:U)(g:aM.g Y X Z):den prog E aO (a7 E [.tmp 2,.tmp 3] Y) X Z:=
 a8 g fun aX a g=>bT [(0,.int .i64 aX)] ⟨a,trivial⟩ (by kernel_rfl) g
def t(aX:Int)(Z:U)(Y:aD):Prop:=aM.t Y aX Z
theorem ok{aX:Int}{Z:U}{Y:aD}(g:t aX Z Y):a0 id #[.int .i64 aX] Z Y:=
 dQ dH (c:=aO) (dE:=[.tmp 2,.tmp 3]) Tryz.func89 (by kernel_rfl) (by kernel_rfl) (by kernel_rfl) (args:=[.int .i64 aX]) (by kernel_rfl) (aM.ok Y _ Z (bR rfl (g)))
end qV
namespace l0
noncomputable def aO:Code:=dO Tryz.f90
def aZ.t(Y:aD)(a:M)(b c:Nat)(aJ:M)(aH aG:Nat)(Z:U):Prop:=
 cond ((((aH:Nat):Int)) == 0) (Y (.tuple #[.slice none 0 0,.slice none 0 0,.int .i64 4]) Z) (a0 iL.id #[.slice a b c,.slice aJ aH aG] Z fun d e=>
 aW .i64 d fun d=>
 cond (decide (d < 0)) (a0 pC.id #[.slice a b c] e fun d f=>
 c1 d fun d=>
 cR d fun d g h i=>
 dM i .i64 fun i i=>
 b6 i <| Y (.tuple #[.slice none 0 0,.slice d g h,.int .i64 0]) f) (cond ((((aH:Nat):Int)) == 1) (c2 aJ aH 0 1 fun d=>
 cX e .u64 d fun d=>
 a0 jU.id #[.slice a b c,.int .u64 d] e fun d f=>
 c1 d fun d=>
 cR d fun d g h i=>
 dM i .u64 fun i j=>
 dM j .i64 fun j j=>
 b6 j <| a0 jT.id #[.int .u64 i] f fun f i=>
 aU f fun f j k=>
 Y (.tuple #[.slice d g h,.slice f j k,.int .i64 0]) i) (a6 (IntKind.i64.wrap ((((aH:Nat):Int)) - 1)) fun d=>
 c2 aJ aH d 1 fun d=>
 cX e .u64 d fun d=>
 a0 qN.id #[.int .u64 d] e fun d e=>
 aW .i64 d fun d=>
 a6 (IntKind.i64.wrap ((((b:Nat):Int))+1)) fun f=>
 a0 lC.id #[.slice a b c,.int .i64 d,.int .i64 f] e fun a b=>
 aU a fun a c e=>
 a0 lC.id #[.slice aJ aH aG,.int .i64 d,.int .i64 (((aH:Nat):Int))] b fun b f=>
 aU b fun b g h=>
 a0 iN.id #[.slice a c e,.slice b g h] f fun b f=>
 aU b fun b h i=>
 hX 1 a c e none (some (.int .i64 (((g:Nat):Int)))) none fun a c e=>
 a0 pC.id #[.slice a c e] f fun a c=>
 c1 a fun a=>
 cR a fun a e f g=>
 dM g .i64 fun g g=>
 b6 g <| a0 kD.id #[.slice a e f,.int .i64 d] c fun a c=>
 c1 a fun a=>
 cR a fun a d e f=>
 dM f .i64 fun f f=>
 b6 f <| a0 pC.id #[.slice b h i] c fun b c=>
 c1 b fun b=>
 cR b fun b f g h=>
 dM h .i64 fun h h=>
 b6 h <| Y (.tuple #[.slice b f g,.slice a d e,.int .i64 0]) c)))
def aZ.g(Y:aD)(X:Fr)(Z:U):Prop:=aU (X 0) fun a b c=>aU (X 1) fun aJ aH aG=>aZ.t Y a b c aJ aH aG Z
theorem aZ.ok(Y:aD)(X:Fr)(Z:U)(g:aZ.g Y X Z):den prog E (a4 aO [W,W]) (a7 E [.tmp 4,.tmp 5,.tmp 6] Y) X Z:=
 bE g fun a b c d g=>bE g fun aJ aH aG e g=>bT [(0,.slice a b c),(1,.slice aJ aH aG)] ⟨d,e,trivial⟩ (by kernel_rfl) g
def aM.t(Y:aD)(a:M)(b c:Nat)(aJ:M)(aH aG:Nat)(Z:U):Prop:=
 a0 j1.id #[.slice a b c] Z fun d e=>
 eS d fun d=>
 cond (!d) (Y (.tuple #[.slice none 0 0,.slice none 0 0,.int .i64 2]) e) (a0 j1.id #[.slice aJ aH aG] e fun d e=>
 eS d fun d=>
 cond (!d) (Y (.tuple #[.slice none 0 0,.slice none 0 0,.int .i64 2]) e) (aZ.t Y a b c aJ aH aG e))
def aM.g(Y:aD)(X:Fr)(Z:U):Prop:=aU (X 0) fun a b c=>aU (X 1) fun aJ aH aG=>aM.t Y a b c aJ aH aG Z
theorem aM.ok(Y:aD)(X:Fr)(Z:U)(g:aM.g Y X Z):den prog E aO (a7 E [.tmp 4,.tmp 5,.tmp 6] Y) X Z:=
 bE g fun a b c d g=>bE g fun aJ aH aG e g=>c4 2 (r:=(a4 aO [W,W])) (by kernel_rfl) (aZ.ok Y) (bT [(0,.slice a b c),(1,.slice aJ aH aG)] ⟨d,e,trivial⟩ (by kernel_rfl) g)
def t(a:M)(b c:Nat)(aJ:M)(aH aG:Nat)(Z:U)(Y:aD):Prop:=aM.t Y a b c aJ aH aG Z
theorem ok{a:M}{b:Nat}{d:Nat}{aJ:M}{aH:Nat}{aG:Nat}{Z:U}{Y:aD}(g:t a b d aJ aH aG Z Y):a0 id #[.slice a b d,.slice aJ aH aG] Z Y:=
 dQ dH (c:=aO) (dE:=[.tmp 4,.tmp 5,.tmp 6]) Tryz.func90 (by kernel_rfl) (by kernel_rfl) (by kernel_rfl) (args:=[.slice a b d,.slice aJ aH aG]) (by kernel_rfl) (aM.ok Y _ Z (bD rfl (bD rfl (g))))
end l0
namespace nX
noncomputable def aO:Code:=dO Tryz.f91
def aM.t(Y:aD)(a:M)(b c:Nat)(aJ:M)(aH aG:Nat)(d:Int)(Z:U):Prop:=
 a0 jI.id #[.slice aJ aH aG,.int .u64 d] Z fun d e=>
 c1 d fun d=>
 cR d fun d f g h=>
 dM h .i64 fun h h=>
 b6 h <| a0 jH.id #[.slice a b c,.slice d f g] e fun a b=>
 c1 a fun a=>
 cR a fun a c d e=>
 dM e .i64 fun e e=>
 b6 e <| Y (.slice a c d) b
def aM.g(Y:aD)(X:Fr)(Z:U):Prop:=aU (X 0) fun a b c=>aU (X 1) fun aJ aH aG=>aW .u64 (X 2) fun d=>aM.t Y a b c aJ aH aG d Z
theorem aM.ok(Y:aD)(X:Fr)(Z:U)(g:aM.g Y X Z):den prog E aO (a7 E [.tmp 6] Y) X Z:=
 bE g fun a b c d g=>bE g fun aJ aH aG e g=>a8 g fun f h g=>bT [(0,.slice a b c),(1,.slice aJ aH aG),(2,.int .u64 f)] ⟨d,e,h,trivial⟩ (by kernel_rfl) g
def t(a:M)(b c:Nat)(aJ:M)(aH aG:Nat)(d:Int)(Z:U)(Y:aD):Prop:=aM.t Y a b c aJ aH aG d Z
theorem ok{a:M}{b:Nat}{d:Nat}{aJ:M}{aH:Nat}{aG:Nat}{e:Int}{Z:U}{Y:aD}(g:t a b d aJ aH aG e Z Y):a0 id #[.slice a b d,.slice aJ aH aG,.int .u64 e] Z Y:=
 dQ dH (c:=aO) (dE:=[.tmp 6]) Tryz.func91 (by kernel_rfl) (by kernel_rfl) (by kernel_rfl) (args:=[.slice a b d,.slice aJ aH aG,.int .u64 e]) (by kernel_rfl) (aM.ok Y _ Z (bD rfl (bD rfl (bR rfl (g)))))
end nX
namespace q2
noncomputable def aO:Code:=dO Tryz.f92
def aM.t(Y:aD)(Z:U):Prop:=
 a0 jT.id #[.int .u64 1] Z fun a b=>
 aU a fun a c d=>
 a0 j5.id #[.slice a c d,.int .i64 320] b fun a b=>
 c1 a fun a=>
 cR a fun a c d e=>
 dM e .i64 fun e e=>
 b6 e <| Y (.slice a c d) b
def aM.g(Y:aD)(X:Fr)(Z:U):Prop:=aM.t Y  Z
theorem aM.ok(Y:aD)(X:Fr)(Z:U)(g:aM.g Y X Z):den prog E aO (a7 E [.tmp 0] Y) X Z:=
 bT [] trivial (by kernel_rfl) g
def t(Z:U)(Y:aD):Prop:=aM.t Y Z
theorem ok{Z:U}{Y:aD}(g:t  Z Y):a0 id #[] Z Y:=
 dQ dH (c:=aO) (dE:=[.tmp 0]) Tryz.func92 (by kernel_rfl) (by kernel_rfl) (by kernel_rfl) (args:=[]) (by kernel_rfl) (aM.ok Y _ Z (g))
end q2
namespace nY
noncomputable def aO:Code:=dO Tryz.f93
def aZ.t(Y:aD)(cM:M)(a cO:Nat)(Z:U):Prop:=
 c2 cM a 0 1 fun a=>fB Z a fun a=>aW .u64 a fun a=>Y (.int .u64 a) Z
def aZ.g(Y:aD)(X:Fr)(Z:U):Prop:=aU (X 7) fun cM a cO=>aZ.t Y cM a cO Z
theorem aZ.ok(Y:aD)(X:Fr)(Z:U)(g:aZ.g Y X Z):den prog E (a4 aO [W,W,W,W]) (a7 E [.tmp 6] Y) X Z:=
 bE g fun cM a cO b g=>bT [(7,.slice cM a cO)] ⟨b,trivial⟩ (by kernel_rfl) g
def aM.t(Y:aD)(a:M)(b c:Nat)(aJ:M)(aH aG:Nat)(d:Int)(Z:U):Prop:=
 a0 l0.id #[.slice a b c,.slice aJ aH aG] Z fun a b=>
 c1 a fun a=>
 cR a fun a c e f=>
 cR f fun f f f f=>
 dM f .i64 fun f f=>
 b6 f <| cond ((((c:Nat):Int)) == 0) (Y (.int .u64 0) b) (cond (decide ((((c:Nat):Int)) > 1)) (Y (.int .u64 d) b) (c2 a c 0 1 fun f=>
 cX b .u64 f fun f=>
 cond (decide (f > d)) (Y (.int .u64 d) b) (aZ.t Y a c e b)))
def aM.g(Y:aD)(X:Fr)(Z:U):Prop:=aU (X 0) fun a b c=>aU (X 1) fun aJ aH aG=>aW .u64 (X 2) fun d=>aM.t Y a b c aJ aH aG d Z
theorem aM.ok(Y:aD)(X:Fr)(Z:U)(g:aM.g Y X Z):den prog E aO (a7 E [.tmp 6] Y) X Z:=
 bE g fun a b c d g=>bE g fun aJ aH aG e g=>a8 g fun f h g=>c4 4 (r:=(a4 aO [W,W,W,W])) (by kernel_rfl) (aZ.ok Y) (bT [(0,.slice a b c),(1,.slice aJ aH aG),(2,.int .u64 f)] ⟨d,e,h,trivial⟩ (by kernel_rfl) g)
def t(a:M)(b c:Nat)(aJ:M)(aH aG:Nat)(d:Int)(Z:U)(Y:aD):Prop:=aM.t Y a b c aJ aH aG d Z
theorem ok{a:M}{b:Nat}{d:Nat}{aJ:M}{aH:Nat}{aG:Nat}{e:Int}{Z:U}{Y:aD}(g:t a b d aJ aH aG e Z Y):a0 id #[.slice a b d,.slice aJ aH aG,.int .u64 e] Z Y:=
 dQ dH (c:=aO) (dE:=[.tmp 6]) Tryz.func93 (by kernel_rfl) (by kernel_rfl) (by kernel_rfl) (args:=[.slice a b d,.slice aJ aH aG,.int .u64 e]) (by kernel_rfl) (aM.ok Y _ Z (bD rfl (bD rfl (bR rfl (g)))))
end nY
namespace pP
noncomputable def aO:Code:=dO Tryz.f94
def aZ.t(Y:aD)(aX aK:Int)(a b:Int)(Z:U):Prop:=
 a6 (IntKind.u64.wrap (aK*a)) fun a=>
 a6 (IntKind.u64.wrap (aX+a)) fun a=>
 a6 (IntKind.u64.wrap (b+1)) fun b=>
 Y (.int .u64 (if b < a then b else a)) Z
def aZ.g(Y:aD)(X:Fr)(Z:U):Prop:=aW .u64 (X 0) fun aX=>aW .u64 (X 1) fun aK=>aW .u64 (X 2) fun a=>aW .u64 (X 3) fun b=>aZ.t Y aX aK a b Z
theorem aZ.ok(Y:aD)(X:Fr)(Z:U)(g:aZ.g Y X Z):den prog E (a4 aO [W,W]) (a7 E [.tmp 8] Y) X Z:=
 a8 g fun aX a g=>a8 g fun aK b g=>a8 g fun c d g=>a8 g fun e f g=>bT [(0,.int .u64 aX),(1,.int .u64 aK),(2,.int .u64 c),(3,.int .u64 e)] ⟨a,b,d,f,trivial⟩ (by kernel_rfl) g
def aM.t(Y:aD)(aX aK:Int)(a b:Int)(Z:U):Prop:=
 cond (decide (a > b)) (a6 (IntKind.u64.wrap (b+1)) fun eF=>
 Y (.int .u64 eF) Z) ((if 1 > a then 1 else a) ≠ 0∧a6 (IntKind.u64.wrap (Int.tdiv b (if 1 > a then 1 else a))) fun c=>
 a6 (IntKind.u64.wrap (c+1)) fun c=>
 cond (decide (aK > c)) (a6 (IntKind.u64.wrap (b+1)) fun c=>
 Y (.int .u64 c) Z) (aZ.t Y aX aK a b Z))
def aM.g(Y:aD)(X:Fr)(Z:U):Prop:=aW .u64 (X 0) fun aX=>aW .u64 (X 1) fun aK=>aW .u64 (X 2) fun a=>aW .u64 (X 3) fun b=>aM.t Y aX aK a b Z
theorem aM.ok(Y:aD)(X:Fr)(Z:U)(g:aM.g Y X Z):den prog E aO (a7 E [.tmp 8] Y) X Z:=
 a8 g fun aX a g=>a8 g fun aK b g=>a8 g fun c d g=>a8 g fun e f g=>c4 2 (r:=(a4 aO [W,W])) (by kernel_rfl) (aZ.ok Y) (bT [(0,.int .u64 aX),(1,.int .u64 aK),(2,.int .u64 c),(3,.int .u64 e)] ⟨a,b,d,f,trivial⟩ (by kernel_rfl) g)
def t(aX aK:Int)(a b:Int)(Z:U)(Y:aD):Prop:=aM.t Y aX aK a b Z
theorem ok{aX:Int}{aK:Int}{a:Int}{b:Int}{Z:U}{Y:aD}(g:t aX aK a b Z Y):a0 id #[.int .u64 aX,.int .u64 aK,.int .u64 a,.int .u64 b] Z Y:=
 dQ dH (c:=aO) (dE:=[.tmp 8]) Tryz.func94 (by kernel_rfl) (by kernel_rfl) (by kernel_rfl) (args:=[.int .u64 aX,.int .u64 aK,.int .u64 a,.int .u64 b]) (by kernel_rfl) (aM.ok Y _ Z (bR rfl (bR rfl (bR rfl (bR rfl (g))))))
end pP
namespace jH
noncomputable def aO:Code:=dO Tryz.f95
def bF.t(Y:aD)(a9:M)(a bB:Nat)(Z:U):Prop:=
 a0 mK.id #[.slice a9 a bB] Z fun a b=>
 c1 a fun a=>
 cR a fun a c d e=>
 dM e .i64 fun e f=>
 b6 f <| Y (.tuple #[.slice a c d,.int .i64 e]) b
def bF.g(Y:aD)(X:Fr)(Z:U):Prop:=aU (X 6) fun a9 a bB=>bF.t Y a9 a bB Z
theorem bF.ok(Y:aD)(X:Fr)(Z:U)(g:bF.g Y X Z):den prog E (a4 aO [W,W,W,W,W,W]) (a7 E [.tmp 4,.tmp 5] Y) X Z:=
 bE g fun a9 a bB b g=>bT [(6,.slice a9 a bB)] ⟨b,trivial⟩ (by kernel_rfl) g
def eC.g(a:M→Nat→Nat→M→Nat→Nat→M→Nat→Nat→Int→Int→Int→U→Prop)(X:Fr)(Z:U):Prop:=aU (X 0) fun b c d=>aU (X 1) fun aJ aH aG=>aU (X 6) fun a9 e bB=>aW .u64 (X 7) fun f=>aW .i64 (X 26) fun h=>aW .i64 (X 27) fun i=>a b c d aJ aH aG a9 e bB f h i Z
def dD.t(Y:aD)(a:M→Nat→Nat→M→Nat→Nat→M→Nat→Nat→Int→Int→Int→U→Prop)(b:M)(c d:Nat)(aJ:M)(aH aG:Nat)(a9:M)(e bB:Nat)(f g h:Int)(Z:U):Prop:=
 cond (decide (h < g)) (cond (decide (h < (((aH:Nat):Int)))) (c2 aJ aH h 1 fun i=>
 cX Z .u64 i fun i=>
 c2 b c h 1 fun j=>
 cX Z .u64 j fun j=>
 p6 j i f fun i j=>
 c2 a9 e h 1 fun k=>
 b3 Z k (.int .u64 i) fun i=>
 a6 (IntKind.i64.wrap (h+1)) fun k=>
 a b c d aJ aH aG a9 e bB j g k i) (c2 b c h 1 fun i=>
 cX Z .u64 i fun i=>
 p6 i 0 f fun f m32=>
 c2 a9 e h 1 fun i=>
 b3 Z i (.int .u64 f) fun f=>
 a6 (IntKind.i64.wrap (h+1)) fun h=>
 a b c d aJ aH aG a9 e bB m32 g h f)) (bF.t Y a9 e bB Z)
def dD.g(Y:aD)(a:M→Nat→Nat→M→Nat→Nat→M→Nat→Nat→Int→Int→Int→U→Prop)(X:Fr)(Z:U):Prop:=aU (X 0) fun b c d=>aU (X 1) fun aJ aH aG=>aU (X 6) fun a9 e bB=>aW .u64 (X 7) fun f=>aW .i64 (X 26) fun h=>aW .i64 (X 27) fun i=>dD.t Y a b c d aJ aH aG a9 e bB f h i Z
theorem dD.ok(Y:aD)(a:M→Nat→Nat→M→Nat→Nat→M→Nat→Nat→Int→Int→Int→U→Prop)(X:Fr)(Z:U)(g:dD.g Y a X Z):den prog E (a4 aO [W,W,W,W,W,aR,W,aR,aR]) (a2.then (eC.g a) (a2.inBlock 0 (a2.then (bF.g Y) (a7 E [.tmp 4,.tmp 5] Y)))) X Z:=
 bE g fun a b c d g=>bE g fun aJ aH aG e g=>bE g fun a9 f bB h g=>a8 g fun i j g=>a8 g fun k l g=>a8 g fun m n g=>bT [(0,.slice a b c),(1,.slice aJ aH aG),(6,.slice a9 f bB),(7,.int .u64 i),(26,.int .i64 k),(27,.int .i64 m)] ⟨d,e,h,j,l,n,trivial⟩ (by kernel_rfl) g
def eC.t(Y:aD):Nat→M→Nat→Nat→M→Nat→Nat→M→Nat→Nat→Int→Int→Int→U→Prop
 | 0=>fun _ _ _ _ _ _ _ _ _ _ _ _ _=>False
 | n+1=>fun a b c aJ aH aG a9 d bB e f g Z=>dD.t Y (eC.t Y n) a b c aJ aH aG a9 d bB e f g Z
theorem eC.ok(Y:aD)(X:Fr)(Z:U)(g:eC.g (fun a b c aJ aH aG a9 d bB e f h Z=>∃ n,eC.t Y n a b c aJ aH aG a9 d bB e f h Z) X Z):den prog E (a4 aO [W,W,W,W,W,aR,W,aR]) (a2.inBlock 0 (a2.then (bF.g Y) (a7 E [.tmp 4,.tmp 5] Y))) X Z:=by
 obtain⟨a,b,c,i,g⟩:=b0 g
 obtain⟨aJ,aH,aG,j,g⟩:=b0 g
 obtain⟨a9,d,bB,k,g⟩:=b0 g
 obtain⟨e,l,g⟩:=bN g
 obtain⟨f,m,g⟩:=bN g
 obtain⟨h,o,g⟩:=bN g
 obtain⟨n,g⟩:=g
 refine fK (fun n=>eC.g (eC.t Y n)) (K:=(a4 aO [W,W,W,W,W,aR,W,aR,aR])) (by kernel_rfl) (fun X Z g=>?_) (fun n=>dD.ok Y (eC.t Y n)) n X Z (bD i (bD j (bD k (bR l (bR m (bR o (g)))))))
 obtain⟨a,b,c,i,g⟩:=b0 g
 obtain⟨aJ,aH,aG,j,g⟩:=b0 g
 obtain⟨a9,d,bB,k,g⟩:=b0 g
 obtain⟨e,l,g⟩:=bN g
 obtain⟨f,m,g⟩:=bN g
 obtain⟨h,o,g⟩:=bN g
 exact g
theorem p0.ok(Y:aD)(X:Fr)(Z:U)(g:eC.g (fun a b c aJ aH aG a9 d bB e f h Z=>∃ n,eC.t Y n a b c aJ aH aG a9 d bB e f h Z) X Z):den prog E (a4 aO [W,W,W,W,W,aR,W]) (a2.then (bF.g Y) (a7 E [.tmp 4,.tmp 5] Y)) X Z:=
 fA (by kernel_rfl) (eC.ok Y X Z g)
def cF.t(Y:aD)(a:M)(b c:Nat)(aJ:M)(aH aG:Nat)(a9:M)(d bB:Nat)(e:Int)(Z:U):Prop:=
 (∃ n,eC.t Y n a b c aJ aH aG a9 d bB e (((b:Nat):Int)) 0 Z)
def cF.g(Y:aD)(X:Fr)(Z:U):Prop:=aU (X 0) fun a b c=>aU (X 1) fun aJ aH aG=>aU (X 6) fun a9 d bB=>aW .u64 (X 7) fun e=>cF.t Y a b c aJ aH aG a9 d bB e Z
theorem cF.ok(Y:aD)(X:Fr)(Z:U)(g:cF.g Y X Z):den prog E (a4 aO [W,W,W,W,W,aR]) (a2.then (bF.g Y) (a7 E [.tmp 4,.tmp 5] Y)) X Z:=
 bE g fun a b c d g=>bE g fun aJ aH aG e g=>bE g fun a9 f bB h g=>a8 g fun i j g=>c4 1 (r:=(a4 aO [W,W,W,W,W,aR,W])) (by kernel_rfl) (p0.ok Y) (bT [(0,.slice a b c),(1,.slice aJ aH aG),(6,.slice a9 f bB),(7,.int .u64 i)] ⟨d,e,h,j,trivial⟩ (by kernel_rfl) g)
theorem p1.ok(Y:aD)(X:Fr)(Z:U)(g:cF.g Y X Z):den prog E (a4 aO [W,W,W,W,W]) (a7 E [.tmp 4,.tmp 5] Y) X Z:=
 fZ (by kernel_rfl) (bF.ok Y) (cF.ok Y X Z g)
def aZ.t(Y:aD)(a:M)(b c:Nat)(aJ:M)(aH aG:Nat)(Z:U):Prop:=
 a0 iL.id #[.slice a b c,.slice aJ aH aG] Z fun d e=>
 aW .i64 d fun d=>
 cond (decide (d < 0)) (Y (.tuple #[.slice none 0 0,.int .i64 3]) e) (h5 e 35 j3 (((b:Nat):Int)) (((b:Nat):Int)) fun d e=>
 cF.t Y a b c aJ aH aG (some d) ((((b:Nat):Int)).toNat) ((((b:Nat):Int)).toNat) 0 e)
def aZ.g(Y:aD)(X:Fr)(Z:U):Prop:=aU (X 0) fun a b c=>aU (X 1) fun aJ aH aG=>aZ.t Y a b c aJ aH aG Z
theorem aZ.ok(Y:aD)(X:Fr)(Z:U)(g:aZ.g Y X Z):den prog E (a4 aO [W,W]) (a7 E [.tmp 4,.tmp 5] Y) X Z:=
 bE g fun a b c d g=>bE g fun aJ aH aG e g=>c4 3 (r:=(a4 aO [W,W,W,W,W])) (by kernel_rfl) (p1.ok Y) (bT [(0,.slice a b c),(1,.slice aJ aH aG)] ⟨d,e,trivial⟩ (by kernel_rfl) g)
def aM.t(Y:aD)(a:M)(b c:Nat)(aJ:M)(aH aG:Nat)(Z:U):Prop:=
 a0 j1.id #[.slice a b c] Z fun d e=>
 eS d fun d=>
 cond (!d) (Y (.tuple #[.slice none 0 0,.int .i64 2]) e) (a0 j1.id #[.slice aJ aH aG] e fun d e=>
 eS d fun d=>
 cond (!d) (Y (.tuple #[.slice none 0 0,.int .i64 2]) e) (aZ.t Y a b c aJ aH aG e))
def aM.g(Y:aD)(X:Fr)(Z:U):Prop:=aU (X 0) fun a b c=>aU (X 1) fun aJ aH aG=>aM.t Y a b c aJ aH aG Z
theorem aM.ok(Y:aD)(X:Fr)(Z:U)(g:aM.g Y X Z):den prog E aO (a7 E [.tmp 4,.tmp 5] Y) X Z:=
 bE g fun a b c d g=>bE g fun aJ aH aG e g=>c4 2 (r:=(a4 aO [W,W])) (by kernel_rfl) (aZ.ok Y) (bT [(0,.slice a b c),(1,.slice aJ aH aG)] ⟨d,e,trivial⟩ (by kernel_rfl) g)
def t(a:M)(b c:Nat)(aJ:M)(aH aG:Nat)(Z:U)(Y:aD):Prop:=aM.t Y a b c aJ aH aG Z
theorem ok{a:M}{b:Nat}{d:Nat}{aJ:M}{aH:Nat}{aG:Nat}{Z:U}{Y:aD}(g:t a b d aJ aH aG Z Y):a0 id #[.slice a b d,.slice aJ aH aG] Z Y:=
 dQ dH (c:=aO) (dE:=[.tmp 4,.tmp 5]) Tryz.func95 (by kernel_rfl) (by kernel_rfl) (by kernel_rfl) (args:=[.slice a b d,.slice aJ aH aG]) (by kernel_rfl) (aM.ok Y _ Z (bD rfl (bD rfl (g))))
end jH
namespace sE
noncomputable def aO:Code:=dO Tryz.f96
def aM.t(Y:aD)(a:M)(b c:Nat)(Z:U):Prop:=
 cond (decide ((((b:Nat):Int)) > 8192)) (Y (.tuple #[.slice none 0 0,.int .i64 5]) Z) (Y (.tuple #[.slice a b c,.int .i64 0]) Z)
def aM.g(Y:aD)(X:Fr)(Z:U):Prop:=aU (X 0) fun a b c=>aM.t Y a b c Z
theorem aM.ok(Y:aD)(X:Fr)(Z:U)(g:aM.g Y X Z):den prog E aO (a7 E [.tmp 2,.tmp 3] Y) X Z:=
 bE g fun a b c d g=>bT [(0,.slice a b c)] ⟨d,trivial⟩ (by kernel_rfl) g
def t(a:M)(b c:Nat)(Z:U)(Y:aD):Prop:=aM.t Y a b c Z
theorem ok{a:M}{b:Nat}{d:Nat}{Z:U}{Y:aD}(g:t a b d Z Y):a0 id #[.slice a b d] Z Y:=
 dQ dH (c:=aO) (dE:=[.tmp 2,.tmp 3]) Tryz.func96 (by kernel_rfl) (by kernel_rfl) (by kernel_rfl) (args:=[.slice a b d]) (by kernel_rfl) (aM.ok Y _ Z (bD rfl (g)))
end sE
namespace m7
noncomputable def aO:Code:=dO Tryz.f97
def aM.t(Y:aD)(a:M)(b c:Nat)(aJ:M)(aH aG:Nat)(Z:U):Prop:=
 a6 (IntKind.i64.wrap ((((b:Nat):Int))+(((aH:Nat):Int)))) fun eF=>
 h5 Z 35 j3 eF eF fun eY d=>
 a0 pI.id #[.slice (some eY) eF.toNat eF.toNat,.slice a b c,.slice aJ aH aG] d fun a b=>
 c1 a fun a=>
 b6 a <| a0 lD.id #[.slice (some eY) eF.toNat eF.toNat] b fun a b=>
 aU a fun a c d=>
 Y (.slice a c d) b
def aM.g(Y:aD)(X:Fr)(Z:U):Prop:=aU (X 0) fun a b c=>aU (X 1) fun aJ aH aG=>aM.t Y a b c aJ aH aG Z
theorem aM.ok(Y:aD)(X:Fr)(Z:U)(g:aM.g Y X Z):den prog E aO (a7 E [.tmp 4] Y) X Z:=
 bE g fun a b c d g=>bE g fun aJ aH aG e g=>bT [(0,.slice a b c),(1,.slice aJ aH aG)] ⟨d,e,trivial⟩ (by kernel_rfl) g
def t(a:M)(b c:Nat)(aJ:M)(aH aG:Nat)(Z:U)(Y:aD):Prop:=aM.t Y a b c aJ aH aG Z
theorem ok{a:M}{b:Nat}{d:Nat}{aJ:M}{aH:Nat}{aG:Nat}{Z:U}{Y:aD}(g:t a b d aJ aH aG Z Y):a0 id #[.slice a b d,.slice aJ aH aG] Z Y:=
 dQ dH (c:=aO) (dE:=[.tmp 4]) Tryz.func97 (by kernel_rfl) (by kernel_rfl) (by kernel_rfl) (args:=[.slice a b d,.slice aJ aH aG]) (by kernel_rfl) (aM.ok Y _ Z (bD rfl (bD rfl (g))))
end m7
namespace lV
noncomputable def aO:Code:=dO Tryz.f98
def cF.t(Y:aD)(aX a:Int)(Z:U):Prop:=
 a6 (IntKind.u8.wrap aX) fun b=>
 u4 (⟨#[0,1,2,2,3,3,3,3,4,4,4,4,4,4,4,4,5,5,5,5,5,5,5,5,5,5,5,5,5,5,5,5,6,6,6,6,6,6,6,6,6,6,6,6,6,6,6,6,6,6,6,6,6,6,6,6,6,6,6,6,6,6,6,6,7,7,7,7,7,7,7,7,7,7,7,7,7,7,7,7,7,7,7,7,7,7,7,7,7,7,7,7,7,7,7,7,7,7,7,7,7,7,7,7,7,7,7,7,7,7,7,7,7,7,7,7,7,7,7,7,7,7,7,7,7,7,7,7,8,8,8,8,8,8,8,8,8,8,8,8,8,8,8,8,8,8,8,8,8,8,8,8,8,8,8,8,8,8,8,8,8,8,8,8,8,8,8,8,8,8,8,8,8,8,8,8,8,8,8,8,8,8,8,8,8,8,8,8,8,8,8,8,8,8,8,8,8,8,8,8,8,8,8,8,8,8,8,8,8,8,8,8,8,8,8,8,8,8,8,8,8,8,8,8,8,8,8,8,8,8,8,8,8,8,8,8,8,8,8,8,8,8,8,8,8,8,8,8,8,8,8,8,8,8,8,8]⟩:ByteArray) b fun b=>
 a6 (IntKind.i64.wrap b) fun b=>
 a6 (IntKind.i64.wrap (a+b)) fun a=>
 Y (.int .i64 a) Z
def cF.g(Y:aD)(X:Fr)(Z:U):Prop:=aW .u64 (X 0) fun aX=>aW .i64 (X 2) fun a=>cF.t Y aX a Z
theorem cF.ok(Y:aD)(X:Fr)(Z:U)(g:cF.g Y X Z):den prog E (a4 aO [W,W,W,W]) (a7 E [.tmp 2] Y) X Z:=
 a8 g fun aX a g=>a8 g fun b c g=>bT [(0,.int .u64 aX),(2,.int .i64 b)] ⟨a,c,trivial⟩ (by kernel_rfl) g
def bF.t(Y:aD)(aX a:Int)(Z:U):Prop:=
 cond (decide (aX≥256)) (0≤(8:Int)∧a6 (gP .u64 aX 8) fun b=>
 a6 (IntKind.i64.wrap (a+8)) fun c=>
 cF.t Y b c Z) (cF.t Y aX a Z)
def bF.g(Y:aD)(X:Fr)(Z:U):Prop:=aW .u64 (X 0) fun aX=>aW .i64 (X 2) fun a=>bF.t Y aX a Z
theorem bF.ok(Y:aD)(X:Fr)(Z:U)(g:bF.g Y X Z):den prog E (a4 aO [W,W,W]) (a7 E [.tmp 2] Y) X Z:=
 a8 g fun aX a g=>a8 g fun b c g=>c4 1 (r:=(a4 aO [W,W,W,W])) (by kernel_rfl) (cF.ok Y) (bT [(0,.int .u64 aX),(2,.int .i64 b)] ⟨a,c,trivial⟩ (by kernel_rfl) g)
def aZ.t(Y:aD)(aX a:Int)(Z:U):Prop:=
 cond (decide (aX≥65536)) (0≤(16:Int)∧a6 (gP .u64 aX 16) fun b=>
 a6 (IntKind.i64.wrap (a+16)) fun c=>
 bF.t Y b c Z) (bF.t Y aX a Z)
def aZ.g(Y:aD)(X:Fr)(Z:U):Prop:=aW .u64 (X 0) fun aX=>aW .i64 (X 2) fun a=>aZ.t Y aX a Z
theorem aZ.ok(Y:aD)(X:Fr)(Z:U)(g:aZ.g Y X Z):den prog E (a4 aO [W,W]) (a7 E [.tmp 2] Y) X Z:=
 a8 g fun aX a g=>a8 g fun b c g=>c4 1 (r:=(a4 aO [W,W,W])) (by kernel_rfl) (bF.ok Y) (bT [(0,.int .u64 aX),(2,.int .i64 b)] ⟨a,c,trivial⟩ (by kernel_rfl) g)
def aM.t(Y:aD)(aX:Int)(Z:U):Prop:=
 cond (decide (aX≥4294967296)) (0≤(32:Int)∧a6 (gP .u64 aX 32) fun eF=>
 aZ.t Y eF 32 Z) (aZ.t Y aX 0 Z)
def aM.g(Y:aD)(X:Fr)(Z:U):Prop:=aW .u64 (X 0) fun aX=>aM.t Y aX Z
theorem aM.ok(Y:aD)(X:Fr)(Z:U)(g:aM.g Y X Z):den prog E aO (a7 E [.tmp 2] Y) X Z:=
 a8 g fun aX a g=>c4 2 (r:=(a4 aO [W,W])) (by kernel_rfl) (aZ.ok Y) (bT [(0,.int .u64 aX)] ⟨a,trivial⟩ (by kernel_rfl) g)
def t(aX:Int)(Z:U)(Y:aD):Prop:=aM.t Y aX Z
theorem ok{aX:Int}{Z:U}{Y:aD}(g:t aX Z Y):a0 id #[.int .u64 aX] Z Y:=
 dQ dH (c:=aO) (dE:=[.tmp 2]) Tryz.func98 (by kernel_rfl) (by kernel_rfl) (by kernel_rfl) (args:=[.int .u64 aX]) (by kernel_rfl) (aM.ok Y _ Z (bR rfl (g)))
end lV
namespace g9
noncomputable def aO:Code:=dO Tryz.f99
def aZ.t(Y:aD)(a:Int)(Z:U):Prop:=
 a6 (IntKind.u32.wrap a) fun a=>Y (.int .u32 a) Z
def aZ.g(Y:aD)(X:Fr)(Z:U):Prop:=aW .u64 (X 7) fun a=>aZ.t Y a Z
theorem aZ.ok(Y:aD)(X:Fr)(Z:U)(g:aZ.g Y X Z):den prog E (a4 aO [W,W,W,W,W,W,W]) (a7 E [.tmp 4] Y) X Z:=
 a8 g fun a b g=>bT [(7,.int .u64 a)] ⟨b,trivial⟩ (by kernel_rfl) g
def cJ.g(a:M→Nat→Nat→M→Nat→Nat→Int→Int→Int→U→Prop)(X:Fr)(Z:U):Prop:=aU (X 0) fun b c d=>aU (X 1) fun aJ aH aG=>aW .i64 (X 5) fun e=>aW .u64 (X 7) fun f=>aW .u64 (X 9) fun h=>a b c d aJ aH aG e f h Z
def dD.t(Y:aD)(a:M→Nat→Nat→M→Nat→Nat→Int→Int→Int→U→Prop)(b:M)(c d:Nat)(aJ:M)(aH aG:Nat)(e f:Int)(g h:Int)(Z:U):Prop:=
 a6 (IntKind.u64.wrap (h - (if g < h then g else h))) fun g=>a b c d aJ aH aG e f g Z
def dD.g(Y:aD)(a:M→Nat→Nat→M→Nat→Nat→Int→Int→Int→U→Prop)(X:Fr)(Z:U):Prop:=aU (X 0) fun b c d=>aU (X 1) fun aJ aH aG=>aW .i64 (X 5) fun e=>aW .u64 (X 7) fun f=>aW .u64 (X 8) fun h=>aW .u64 (X 9) fun i=>dD.t Y a b c d aJ aH aG e f h i Z
theorem dD.ok(Y:aD)(a:M→Nat→Nat→M→Nat→Nat→Int→Int→Int→U→Prop)(X:Fr)(Z:U)(g:dD.g Y a X Z):den prog E (a4 aO [W,W,W,W,W,W,aR,aR,aR,W,aR,W,W,W]) (a2.inBlock 3 (a2.then (cJ.g a) (a2.inBlock 2 (a2.then (aZ.g Y) (a7 E [.tmp 4] Y))))) X Z:=
 bE g fun a b c d g=>bE g fun aJ aH aG e g=>a8 g fun f h g=>a8 g fun i j g=>a8 g fun k l g=>a8 g fun m n g=>bT [(0,.slice a b c),(1,.slice aJ aH aG),(5,.int .i64 f),(7,.int .u64 i),(8,.int .u64 k),(9,.int .u64 m)] ⟨d,e,h,j,l,n,trivial⟩ (by kernel_rfl) g
def gZ.g(a:M→Nat→Nat→M→Nat→Nat→Int→Int→Int→Int→Int→U→Prop)(X:Fr)(Z:U):Prop:=aU (X 0) fun b c d=>aU (X 1) fun aJ aH aG=>aW .i64 (X 5) fun e=>aW .u64 (X 7) fun f=>aW .u64 (X 8) fun h=>aW .u64 (X 9) fun i=>aW .i64 (X 13) fun j=>a b c d aJ aH aG e f h i j Z
def gM.t(Y:aD)(a:M→Nat→Nat→M→Nat→Nat→Int→Int→Int→U→Prop)(b:M→Nat→Nat→M→Nat→Nat→Int→Int→Int→Int→Int→U→Prop)(c:M)(d e:Nat)(aJ:M)(aH aG:Nat)(f g:Int)(h i j:Int)(Z:U):Prop:=
 cond (decide (j≤f)) (c2 c d j 1 fun k=>
 cX Z .u32 k fun k=>
 a6 (IntKind.u64.wrap k) fun k=>
 a6 (IntKind.u64.wrap (h+k)) fun k=>
 cond (decide (j < f)) (c2 aJ aH j 1 fun l=>
 cX Z .u32 l fun l=>
 a6 (IntKind.u64.wrap l) fun l=>
 a6 (IntKind.u64.wrap (k+l)) fun l=>
 a6 (iV .u64 l 4294967295) fun m=>
 a6 (IntKind.u32.wrap m) fun m=>
 c2 c d j 1 fun n=>
 b3 Z n (.int .u32 m) fun m=>
 0≤(32:Int)∧a6 (gP .u64 l 32) fun l=>
 a6 (IntKind.i64.wrap (j+1)) fun n=>
 b c d e aJ aH aG f g l i n m) (a6 (iV .u64 k 4294967295) fun l=>
 a6 (IntKind.u32.wrap l) fun l=>
 c2 c d j 1 fun m=>
 b3 Z m (.int .u32 l) fun l=>
 0≤(32:Int)∧a6 (gP .u64 k 32) fun k=>
 a6 (IntKind.i64.wrap (j+1)) fun j=>
 b c d e aJ aH aG f g k i j l)) (dD.t Y a c d e aJ aH aG f g h i Z)
def gM.g(Y:aD)(a:M→Nat→Nat→M→Nat→Nat→Int→Int→Int→U→Prop)(b:M→Nat→Nat→M→Nat→Nat→Int→Int→Int→Int→Int→U→Prop)(X:Fr)(Z:U):Prop:=aU (X 0) fun c d e=>aU (X 1) fun aJ aH aG=>aW .i64 (X 5) fun f=>aW .u64 (X 7) fun h=>aW .u64 (X 8) fun i=>aW .u64 (X 9) fun j=>aW .i64 (X 13) fun k=>gM.t Y a b c d e aJ aH aG f h i j k Z
theorem gM.ok(Y:aD)(a:M→Nat→Nat→M→Nat→Nat→Int→Int→Int→U→Prop)(b:M→Nat→Nat→M→Nat→Nat→Int→Int→Int→Int→Int→U→Prop)(X:Fr)(Z:U)(g:gM.g Y a b X Z):den prog E (a4 aO [W,W,W,W,W,W,aR,aR,aR,W,aR,W,W,aR,W,aR,aR]) (a2.then (gZ.g b) (a2.inBlock 4 (a2.then (dD.g Y a) (a2.inBlock 3 (a2.then (cJ.g a) (a2.inBlock 2 (a2.then (aZ.g Y) (a7 E [.tmp 4] Y)))))))) X Z:=
 bE g fun a b c d g=>bE g fun aJ aH aG e g=>a8 g fun f h g=>a8 g fun i j g=>a8 g fun k l g=>a8 g fun m n g=>a8 g fun o p g=>bT [(0,.slice a b c),(1,.slice aJ aH aG),(5,.int .i64 f),(7,.int .u64 i),(8,.int .u64 k),(9,.int .u64 m),(13,.int .i64 o)] ⟨d,e,h,j,l,n,p,trivial⟩ (by kernel_rfl) g
def gZ.t(Y:aD)(a:M→Nat→Nat→M→Nat→Nat→Int→Int→Int→U→Prop):Nat→M→Nat→Nat→M→Nat→Nat→Int→Int→Int→Int→Int→U→Prop
 | 0=>fun _ _ _ _ _ _ _ _ _ _ _ _=>False
 | n+1=>fun b c d aJ aH aG e f g h i Z=>gM.t Y a (gZ.t Y a n) b c d aJ aH aG e f g h i Z
theorem gZ.ok(Y:aD)(a:M→Nat→Nat→M→Nat→Nat→Int→Int→Int→U→Prop)(X:Fr)(Z:U)(g:gZ.g (fun b c d aJ aH aG e f h i j Z=>∃ n,gZ.t Y a n b c d aJ aH aG e f h i j Z) X Z):den prog E (a4 aO [W,W,W,W,W,W,aR,aR,aR,W,aR,W,W,aR,W,aR]) (a2.inBlock 4 (a2.then (dD.g Y a) (a2.inBlock 3 (a2.then (cJ.g a) (a2.inBlock 2 (a2.then (aZ.g Y) (a7 E [.tmp 4] Y))))))) X Z:=by
 obtain⟨b,c,d,k,g⟩:=b0 g
 obtain⟨aJ,aH,aG,l,g⟩:=b0 g
 obtain⟨e,m,g⟩:=bN g
 obtain⟨f,o,g⟩:=bN g
 obtain⟨h,p,g⟩:=bN g
 obtain⟨i,q,g⟩:=bN g
 obtain⟨j,r,g⟩:=bN g
 obtain⟨n,g⟩:=g
 refine fK (fun n=>gZ.g (gZ.t Y a n)) (K:=(a4 aO [W,W,W,W,W,W,aR,aR,aR,W,aR,W,W,aR,W,aR,aR])) (by kernel_rfl) (fun X Z g=>?_) (fun n=>gM.ok Y a (gZ.t Y a n)) n X Z (bD k (bD l (bR m (bR o (bR p (bR q (bR r (g))))))))
 obtain⟨b,c,d,k,g⟩:=b0 g
 obtain⟨aJ,aH,aG,l,g⟩:=b0 g
 obtain⟨e,m,g⟩:=bN g
 obtain⟨f,o,g⟩:=bN g
 obtain⟨h,p,g⟩:=bN g
 obtain⟨i,q,g⟩:=bN g
 obtain⟨j,r,g⟩:=bN g
 exact g
theorem BO.ok(Y:aD)(a:M→Nat→Nat→M→Nat→Nat→Int→Int→Int→U→Prop)(X:Fr)(Z:U)(g:gZ.g (fun b c d aJ aH aG e f h i j Z=>∃ n,gZ.t Y a n b c d aJ aH aG e f h i j Z) X Z):den prog E (a4 aO [W,W,W,W,W,W,aR,aR,aR,W,aR,W,W,aR,W]) (a2.then (dD.g Y a) (a2.inBlock 3 (a2.then (cJ.g a) (a2.inBlock 2 (a2.then (aZ.g Y) (a7 E [.tmp 4] Y)))))) X Z:=
 fA (by kernel_rfl) (gZ.ok Y a X Z g)
def eR.t(Y:aD)(a:M→Nat→Nat→M→Nat→Nat→Int→Int→Int→U→Prop)(b:M)(c d:Nat)(aJ:M)(aH aG:Nat)(e f:Int)(g h:Int)(Z:U):Prop:=
 (∃ n,gZ.t Y a n b c d aJ aH aG e f g h 0 Z)
def eR.g(Y:aD)(a:M→Nat→Nat→M→Nat→Nat→Int→Int→Int→U→Prop)(X:Fr)(Z:U):Prop:=aU (X 0) fun b c d=>aU (X 1) fun aJ aH aG=>aW .i64 (X 5) fun e=>aW .u64 (X 7) fun f=>aW .u64 (X 8) fun h=>aW .u64 (X 9) fun i=>eR.t Y a b c d aJ aH aG e f h i Z
theorem eR.ok(Y:aD)(a:M→Nat→Nat→M→Nat→Nat→Int→Int→Int→U→Prop)(X:Fr)(Z:U)(g:eR.g Y a X Z):den prog E (a4 aO [W,W,W,W,W,W,aR,aR,aR,W,aR,W,W,aR]) (a2.then (dD.g Y a) (a2.inBlock 3 (a2.then (cJ.g a) (a2.inBlock 2 (a2.then (aZ.g Y) (a7 E [.tmp 4] Y)))))) X Z:=
 bE g fun b c d e g=>bE g fun aJ aH aG f g=>a8 g fun h i g=>a8 g fun j k g=>a8 g fun l m g=>a8 g fun n o g=>c4 1 (r:=(a4 aO [W,W,W,W,W,W,aR,aR,aR,W,aR,W,W,aR,W])) (by kernel_rfl) (BO.ok Y a) (bT [(0,.slice b c d),(1,.slice aJ aH aG),(5,.int .i64 h),(7,.int .u64 j),(8,.int .u64 l),(9,.int .u64 n)] ⟨e,f,i,k,m,o,trivial⟩ (by kernel_rfl) g)
theorem BP.ok(Y:aD)(a:M→Nat→Nat→M→Nat→Nat→Int→Int→Int→U→Prop)(X:Fr)(Z:U)(g:eR.g Y a X Z):den prog E (a4 aO [W,W,W,W,W,W,aR,aR,aR,W,aR,W,W]) (a2.inBlock 3 (a2.then (cJ.g a) (a2.inBlock 2 (a2.then (aZ.g Y) (a7 E [.tmp 4] Y))))) X Z:=
 fZ (by kernel_rfl) (dD.ok Y a) (eR.ok Y a X Z g)
def b9.t(Y:aD)(a:M→Nat→Nat→M→Nat→Nat→Int→Int→Int→U→Prop)(b:M)(c d:Nat)(aJ:M)(aH aG:Nat)(e f g:Int)(Z:U):Prop:=
 a6 (IntKind.u64.wrap (f - 1)) fun f=>eR.t Y a b c d aJ aH aG e f 0 g Z
def b9.g(Y:aD)(a:M→Nat→Nat→M→Nat→Nat→Int→Int→Int→U→Prop)(X:Fr)(Z:U):Prop:=aU (X 0) fun b c d=>aU (X 1) fun aJ aH aG=>aW .i64 (X 5) fun e=>aW .u64 (X 7) fun f=>aW .u64 (X 9) fun h=>b9.t Y a b c d aJ aH aG e f h Z
theorem b9.ok(Y:aD)(a:M→Nat→Nat→M→Nat→Nat→Int→Int→Int→U→Prop)(X:Fr)(Z:U)(g:b9.g Y a X Z):den prog E (a4 aO [W,W,W,W,W,W,aR,aR,aR,W,aR]) (a2.inBlock 3 (a2.then (cJ.g a) (a2.inBlock 2 (a2.then (aZ.g Y) (a7 E [.tmp 4] Y))))) X Z:=
 bE g fun b c d e g=>bE g fun aJ aH aG f g=>a8 g fun h i g=>a8 g fun j k g=>a8 g fun l m g=>c4 2 (r:=(a4 aO [W,W,W,W,W,W,aR,aR,aR,W,aR,W,W])) (by kernel_rfl) (BP.ok Y a) (bT [(0,.slice b c d),(1,.slice aJ aH aG),(5,.int .i64 h),(7,.int .u64 j),(9,.int .u64 l)] ⟨e,f,i,k,m,trivial⟩ (by kernel_rfl) g)
theorem p3.ok(Y:aD)(a:M→Nat→Nat→M→Nat→Nat→Int→Int→Int→U→Prop)(X:Fr)(Z:U)(g:b9.g Y a X Z):den prog E (a4 aO [W,W,W,W,W,W,aR,aR,aR,W]) (a2.then (cJ.g a) (a2.inBlock 2 (a2.then (aZ.g Y) (a7 E [.tmp 4] Y)))) X Z:=
 fA (by kernel_rfl) (b9.ok Y a X Z g)
def cF.t(Y:aD)(a:M→Nat→Nat→M→Nat→Nat→Int→Int→Int→U→Prop)(b:M)(c d:Nat)(aJ:M)(aH aG:Nat)(e f g:Int)(Z:U):Prop:=
 cond (decide (g > 0)) (b9.t Y a b c d aJ aH aG e f g Z) (aZ.t Y f Z)
def cF.g(Y:aD)(a:M→Nat→Nat→M→Nat→Nat→Int→Int→Int→U→Prop)(X:Fr)(Z:U):Prop:=aU (X 0) fun b c d=>aU (X 1) fun aJ aH aG=>aW .i64 (X 5) fun e=>aW .u64 (X 7) fun f=>aW .u64 (X 9) fun h=>cF.t Y a b c d aJ aH aG e f h Z
theorem cF.ok(Y:aD)(a:M→Nat→Nat→M→Nat→Nat→Int→Int→Int→U→Prop)(X:Fr)(Z:U)(g:cF.g Y a X Z):den prog E (a4 aO [W,W,W,W,W,W,aR,aR,aR]) (a2.then (cJ.g a) (a2.inBlock 2 (a2.then (aZ.g Y) (a7 E [.tmp 4] Y)))) X Z:=
 bE g fun b c d e g=>bE g fun aJ aH aG f g=>a8 g fun h i g=>a8 g fun j k g=>a8 g fun l m g=>c4 1 (r:=(a4 aO [W,W,W,W,W,W,aR,aR,aR,W])) (by kernel_rfl) (p3.ok Y a) (bT [(0,.slice b c d),(1,.slice aJ aH aG),(5,.int .i64 h),(7,.int .u64 j),(9,.int .u64 l)] ⟨e,f,i,k,m,trivial⟩ (by kernel_rfl) g)
def cJ.t(Y:aD):Nat→M→Nat→Nat→M→Nat→Nat→Int→Int→Int→U→Prop
 | 0=>fun _ _ _ _ _ _ _ _ _ _=>False
 | n+1=>fun a b c aJ aH aG d e f Z=>cF.t Y (cJ.t Y n) a b c aJ aH aG d e f Z
theorem cJ.ok(Y:aD)(X:Fr)(Z:U)(g:cJ.g (fun a b c aJ aH aG d e f Z=>∃ n,cJ.t Y n a b c aJ aH aG d e f Z) X Z):den prog E (a4 aO [W,W,W,W,W,W,aR,aR]) (a2.inBlock 2 (a2.then (aZ.g Y) (a7 E [.tmp 4] Y))) X Z:=by
 obtain⟨a,b,c,h,g⟩:=b0 g
 obtain⟨aJ,aH,aG,i,g⟩:=b0 g
 obtain⟨d,j,g⟩:=bN g
 obtain⟨e,k,g⟩:=bN g
 obtain⟨f,l,g⟩:=bN g
 obtain⟨n,g⟩:=g
 refine fK (fun n=>cJ.g (cJ.t Y n)) (K:=(a4 aO [W,W,W,W,W,W,aR,aR,aR])) (by kernel_rfl) (fun X Z g=>?_) (fun n=>cF.ok Y (cJ.t Y n)) n X Z (bD h (bD i (bR j (bR k (bR l (g))))))
 obtain⟨a,b,c,h,g⟩:=b0 g
 obtain⟨aJ,aH,aG,i,g⟩:=b0 g
 obtain⟨d,j,g⟩:=bN g
 obtain⟨e,k,g⟩:=bN g
 obtain⟨f,l,g⟩:=bN g
 exact g
theorem M1.ok(Y:aD)(X:Fr)(Z:U)(g:cJ.g (fun a b c aJ aH aG d e f Z=>∃ n,cJ.t Y n a b c aJ aH aG d e f Z) X Z):den prog E (a4 aO [W,W,W,W,W,W,aR]) (a2.then (aZ.g Y) (a7 E [.tmp 4] Y)) X Z:=
 fA (by kernel_rfl) (cJ.ok Y X Z g)
theorem M3.ok(Y:aD)(X:Fr)(Z:U)(g:cJ.g (fun a b c aJ aH aG d e f Z=>∃ n,cJ.t Y n a b c aJ aH aG d e f Z) X Z):den prog E (a4 aO [W,W,W,W,W,W]) (a7 E [.tmp 4] Y) X Z:=
 fZ (by kernel_rfl) (aZ.ok Y) (M1.ok Y X Z g)
def kC.g(a:M→Nat→Nat→M→Nat→Nat→Int→Int→Int→Int→Int→U→Prop)(X:Fr)(Z:U):Prop:=aU (X 0) fun b c d=>aU (X 1) fun aJ aH aG=>aW .i64 (X 5) fun e=>aW .u64 (X 7) fun f=>aW .u64 (X 8) fun h=>aW .u64 (X 9) fun i=>aW .i64 (X 10) fun j=>a b c d aJ aH aG e f h i j Z
def qJ.t(Y:aD)(a:M→Nat→Nat→M→Nat→Nat→Int→Int→Int→Int→Int→U→Prop)(b:M)(c d:Nat)(aJ:M)(aH aG:Nat)(e f:Int)(g h i:Int)(Z:U):Prop:=
 cond (decide (i≤e)) (cond (decide (i < e)) (c2 aJ aH i 1 fun j=>
 cX Z .u32 j fun j=>
 a6 (IntKind.u64.wrap j) fun j=>
 a6 (IntKind.u64.wrap (f*j)) fun j=>
 a6 (IntKind.u64.wrap (g+j)) fun j=>
 a6 (iV .u64 j 4294967295) fun k=>
 a6 (IntKind.u64.wrap (k+h)) fun k=>
 0≤(32:Int)∧a6 (gP .u64 j 32) fun j=>
 c2 b c i 1 fun l=>
 cX Z .u32 l fun l=>
 a6 (IntKind.u64.wrap l) fun l=>
 cond (decide (l < k)) (a6 (IntKind.u64.wrap (l+4294967296)) fun m=>
 a6 (IntKind.u64.wrap (m - k)) fun m=>
 a6 (IntKind.u32.wrap m) fun m=>
 c2 b c i 1 fun o=>
 b3 Z o (.int .u32 m) fun m=>
 a6 (IntKind.i64.wrap (i+1)) fun o=>
 a b c d aJ aH aG e f j 1 o m) (a6 (IntKind.u64.wrap (l - k)) fun k=>
 a6 (IntKind.u32.wrap k) fun k=>
 c2 b c i 1 fun l=>
 b3 Z l (.int .u32 k) fun k=>
 a6 (IntKind.i64.wrap (i+1)) fun l=>
 a b c d aJ aH aG e f j 0 l k)) (a6 (iV .u64 g 4294967295) fun j=>
 a6 (IntKind.u64.wrap (j+h)) fun j=>
 0≤(32:Int)∧a6 (gP .u64 g 32) fun g=>
 c2 b c i 1 fun k=>
 cX Z .u32 k fun k=>
 a6 (IntKind.u64.wrap k) fun k=>
 cond (decide (k < j)) (a6 (IntKind.u64.wrap (k+4294967296)) fun l=>
 a6 (IntKind.u64.wrap (l - j)) fun l=>
 a6 (IntKind.u32.wrap l) fun l=>
 c2 b c i 1 fun m=>
 b3 Z m (.int .u32 l) fun l=>
 a6 (IntKind.i64.wrap (i+1)) fun m=>
 a b c d aJ aH aG e f g 1 m l) (a6 (IntKind.u64.wrap (k - j)) fun j=>
 a6 (IntKind.u32.wrap j) fun j=>
 c2 b c i 1 fun k=>
 b3 Z k (.int .u32 j) fun j=>
 a6 (IntKind.i64.wrap (i+1)) fun i=>
 a b c d aJ aH aG e f g 0 i j))) ((∃ n,cJ.t Y n b c d aJ aH aG e f h Z))
def qJ.g(Y:aD)(a:M→Nat→Nat→M→Nat→Nat→Int→Int→Int→Int→Int→U→Prop)(X:Fr)(Z:U):Prop:=aU (X 0) fun b c d=>aU (X 1) fun aJ aH aG=>aW .i64 (X 5) fun e=>aW .u64 (X 7) fun f=>aW .u64 (X 8) fun h=>aW .u64 (X 9) fun i=>aW .i64 (X 10) fun j=>qJ.t Y a b c d aJ aH aG e f h i j Z
theorem qJ.ok(Y:aD)(a:M→Nat→Nat→M→Nat→Nat→Int→Int→Int→Int→Int→U→Prop)(X:Fr)(Z:U)(g:qJ.g Y a X Z):den prog E (a4 aO [W,W,W,W,W,aR,W,aR,aR]) (a2.then (kC.g a) (a2.inBlock 0 (a2.then (cJ.g (fun a b c aJ aH aG d e f Z=>∃ n,cJ.t Y n a b c aJ aH aG d e f Z)) (a7 E [.tmp 4] Y)))) X Z:=
 bE g fun a b c h g=>bE g fun aJ aH aG i g=>a8 g fun d j g=>a8 g fun e k g=>a8 g fun l m g=>a8 g fun f o g=>a8 g fun p q g=>bT [(0,.slice a b c),(1,.slice aJ aH aG),(5,.int .i64 d),(7,.int .u64 e),(8,.int .u64 l),(9,.int .u64 f),(10,.int .i64 p)] ⟨h,i,j,k,m,o,q,trivial⟩ (by kernel_rfl) g
def kC.t(Y:aD):Nat→M→Nat→Nat→M→Nat→Nat→Int→Int→Int→Int→Int→U→Prop
 | 0=>fun _ _ _ _ _ _ _ _ _ _ _ _=>False
 | n+1=>fun a b c aJ aH aG d e f g h Z=>qJ.t Y (kC.t Y n) a b c aJ aH aG d e f g h Z
theorem kC.ok(Y:aD)(X:Fr)(Z:U)(g:kC.g (fun a b c aJ aH aG d e h f i Z=>∃ n,kC.t Y n a b c aJ aH aG d e h f i Z) X Z):den prog E (a4 aO [W,W,W,W,W,aR,W,aR]) (a2.inBlock 0 (a2.then (cJ.g (fun a b c aJ aH aG d e f Z=>∃ n,cJ.t Y n a b c aJ aH aG d e f Z)) (a7 E [.tmp 4] Y))) X Z:=by
 obtain⟨a,b,c,j,g⟩:=b0 g
 obtain⟨aJ,aH,aG,k,g⟩:=b0 g
 obtain⟨d,l,g⟩:=bN g
 obtain⟨e,m,g⟩:=bN g
 obtain⟨h,o,g⟩:=bN g
 obtain⟨f,p,g⟩:=bN g
 obtain⟨i,q,g⟩:=bN g
 obtain⟨n,g⟩:=g
 refine fK (fun n=>kC.g (kC.t Y n)) (K:=(a4 aO [W,W,W,W,W,aR,W,aR,aR])) (by kernel_rfl) (fun X Z g=>?_) (fun n=>qJ.ok Y (kC.t Y n)) n X Z (bD j (bD k (bR l (bR m (bR o (bR p (bR q (g))))))))
 obtain⟨a,b,c,j,g⟩:=b0 g
 obtain⟨aJ,aH,aG,k,g⟩:=b0 g
 obtain⟨d,l,g⟩:=bN g
 obtain⟨e,m,g⟩:=bN g
 obtain⟨h,o,g⟩:=bN g
 obtain⟨f,p,g⟩:=bN g
 obtain⟨i,q,g⟩:=bN g
 exact g
theorem M4.ok(Y:aD)(X:Fr)(Z:U)(g:kC.g (fun a b c aJ aH aG d e f h i Z=>∃ n,kC.t Y n a b c aJ aH aG d e f h i Z) X Z):den prog E (a4 aO [W,W,W,W,W,aR,W]) (a2.then (cJ.g (fun a b c aJ aH aG d e h Z=>∃ n,cJ.t Y n a b c aJ aH aG d e h Z)) (a7 E [.tmp 4] Y)) X Z:=
 fA (by kernel_rfl) (kC.ok Y X Z g)
def qK.t(Y:aD)(a:M)(b c:Nat)(aJ:M)(aH aG:Nat)(d e:Int)(f g:Int)(Z:U):Prop:=
 (∃ n,kC.t Y n a b c aJ aH aG d e f g 0 Z)
def qK.g(Y:aD)(X:Fr)(Z:U):Prop:=aU (X 0) fun a b c=>aU (X 1) fun aJ aH aG=>aW .i64 (X 5) fun d=>aW .u64 (X 7) fun e=>aW .u64 (X 8) fun f=>aW .u64 (X 9) fun h=>qK.t Y a b c aJ aH aG d e f h Z
theorem qK.ok(Y:aD)(X:Fr)(Z:U)(g:qK.g Y X Z):den prog E (a4 aO [W,W,W,W,W,aR]) (a2.then (cJ.g (fun a b c aJ aH aG d e f Z=>∃ n,cJ.t Y n a b c aJ aH aG d e f Z)) (a7 E [.tmp 4] Y)) X Z:=
 bE g fun a b c h g=>bE g fun aJ aH aG i g=>a8 g fun d j g=>a8 g fun e k g=>a8 g fun l m g=>a8 g fun f o g=>c4 1 (r:=(a4 aO [W,W,W,W,W,aR,W])) (by kernel_rfl) (M4.ok Y) (bT [(0,.slice a b c),(1,.slice aJ aH aG),(5,.int .i64 d),(7,.int .u64 e),(8,.int .u64 l),(9,.int .u64 f)] ⟨h,i,j,k,m,o,trivial⟩ (by kernel_rfl) g)
theorem M5.ok(Y:aD)(X:Fr)(Z:U)(g:qK.g Y X Z):den prog E (a4 aO [W,W,W,W,W]) (a7 E [.tmp 4] Y) X Z:=
 fZ (by kernel_rfl) (M3.ok Y) (qK.ok Y X Z g)
def aM.t(Y:aD)(a:M)(b c:Nat)(aJ:M)(aH aG:Nat)(Z:U):Prop:=
 c2 a b (((aH:Nat):Int)) 1 fun b1=>
 cX Z .u32 b1 fun d=>
 a6 (IntKind.u64.wrap d) fun d=>
 0≤(32:Int)∧a6 (hW .u64 d 32) fun d=>
 a6 (IntKind.i64.wrap ((((aH:Nat):Int)) - 1)) fun e=>
 c2 a b e 1 fun e=>
 cX Z .u32 e fun e=>
 a6 (IntKind.u64.wrap e) fun e=>
 a6 (IntKind.u64.wrap (d+e)) fun d=>
 a6 (IntKind.i64.wrap ((((aH:Nat):Int)) - 1)) fun e=>
 c2 aJ aH e 1 fun e=>
 cX Z .u32 e fun e=>
 a6 (IntKind.u64.wrap e) fun e=>
 e ≠ 0∧a6 (IntKind.u64.wrap (Int.tdiv d e)) fun d=>
 qK.t Y a b c aJ aH aG (((aH:Nat):Int)) (if 4294967295 < d then 4294967295 else d) 0 0 Z
def aM.g(Y:aD)(X:Fr)(Z:U):Prop:=aU (X 0) fun a b c=>aU (X 1) fun aJ aH aG=>aM.t Y a b c aJ aH aG Z
theorem aM.ok(Y:aD)(X:Fr)(Z:U)(g:aM.g Y X Z):den prog E aO (a7 E [.tmp 4] Y) X Z:=
 bE g fun a b c d g=>bE g fun aJ aH aG e g=>c4 5 (r:=(a4 aO [W,W,W,W,W])) (by kernel_rfl) (M5.ok Y) (bT [(0,.slice a b c),(1,.slice aJ aH aG)] ⟨d,e,trivial⟩ (by kernel_rfl) g)
def t(a:M)(b c:Nat)(aJ:M)(aH aG:Nat)(Z:U)(Y:aD):Prop:=aM.t Y a b c aJ aH aG Z
theorem ok{a:M}{b:Nat}{d:Nat}{aJ:M}{aH:Nat}{aG:Nat}{Z:U}{Y:aD}(g:t a b d aJ aH aG Z Y):a0 id #[.slice a b d,.slice aJ aH aG] Z Y:=
 dQ dH (c:=aO) (dE:=[.tmp 4]) Tryz.func99 (by kernel_rfl) (by kernel_rfl) (by kernel_rfl) (args:=[.slice a b d,.slice aJ aH aG]) (by kernel_rfl) (aM.ok Y _ Z (bD rfl (bD rfl (g))))
end g9
end Go.Proofs.YtjijdlkpmngolaaGreat.G
