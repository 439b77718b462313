import Derived.Test.YtllhckjfhefcdaaGreatDoorKE
namespace Go.Proofs.YtllhckjfhefcdaaGreatDoor.G
open Go.Gv
set_option linter.unusedVariables false
set_option maxRecDepth 100000
namespace iE
noncomputable def r:Code:=c6 Tryz.f27
def aC.t(Y:K)(a:U)(a5 b:Nat)(Z:V):Prop:=
 aF g5.id #[.slice a a5 b] Z fun a b=>
 aG a fun a c d=>
 Y (.slice a c d) b
def aC.g(Y:K)(X:Fr)(Z:V):Prop:=aG (X 5) fun a a5 b=>aC.t Y a a5 b Z
theorem aC.ok(Y:K)(X:Fr)(Z:V)(g:aC.g Y X Z):den prog E (aS r [W,W,W,W]) (aZ E [.tmp 4] Y) X Z:=
 a8 g fun a a5 b c g=>bO [(5,.slice a a5 b)] ⟨c,trivial⟩ (by kernel_rfl) g
def bG.g(bN:U→Nat→Nat→U→Nat→Nat→U→Nat→Nat→Int→Int→V→Prop)(X:Fr)(Z:V):Prop:=aG (X 0) fun S a R=>aG (X 1) fun b y c=>aG (X 5) fun d a5 e=>aV .u64 (X 6) fun f=>aV .i64 (X 7) fun h=>bN S a R b y c d a5 e f h Z
def dD.t(Y:K)(a:U→Nat→Nat→U→Nat→Nat→U→Nat→Nat→Int→Int→V→Prop)(S:U)(b R:Nat)(c:U)(y d:Nat)(e:U)(a5 f:Nat)(g h:Int)(Z:V):Prop:=
 cond (decide (h < (((b:Nat):Int)))) (cL S b h 1 fun i=>
 cI Z .u32 i fun i=>
 a2 (IntKind.u64.wrap i) fun i=>
 a2 (IntKind.u64.wrap (g+i)) fun i=>
 cond (decide (h < (((y:Nat):Int)))) (cL c y h 1 fun j=>
 cI Z .u32 j fun j=>
 a2 (IntKind.u64.wrap j) fun j=>
 a2 (IntKind.u64.wrap (i+j)) fun j=>
 a2 (iG .u64 j 4294967295) fun l=>
 a2 (IntKind.u32.wrap l) fun l=>
 b4 Z 82 [.int .u32 l] fun l m=>
 gW m 82 hW e a5 f (.slice (some l) 1 1) fun l m n v=>
 0≤(32:Int)∧a2 (gL .u64 j 32) fun j=>
 a2 (IntKind.i64.wrap (h+1)) fun D=>
 a S b R c y d l m n j D v) (a2 (iG .u64 i 4294967295) fun D=>
 a2 (IntKind.u32.wrap D) fun D=>
 b4 Z 82 [.int .u32 D] fun D j=>
 gW j 82 hW e a5 f (.slice (some D) 1 1) fun D j l m=>
 0≤(32:Int)∧a2 (gL .u64 i 32) fun i=>
 a2 (IntKind.i64.wrap (h+1)) fun n=>
 a S b R c y d D j l i n m)) (cond (decide (h < (((y:Nat):Int)))) (cL c y h 1 fun D=>
 cI Z .u32 D fun D=>
 a2 (IntKind.u64.wrap D) fun D=>
 a2 (IntKind.u64.wrap (g+D)) fun D=>
 a2 (iG .u64 D 4294967295) fun i=>
 a2 (IntKind.u32.wrap i) fun i=>
 b4 Z 82 [.int .u32 i] fun i j=>
 gW j 82 hW e a5 f (.slice (some i) 1 1) fun i j l m=>
 0≤(32:Int)∧a2 (gL .u64 D 32) fun D=>
 a2 (IntKind.i64.wrap (h+1)) fun n=>
 a S b R c y d i j l D n m) (a2 (iG .u64 g 4294967295) fun D=>
 a2 (IntKind.u32.wrap D) fun D=>
 b4 Z 82 [.int .u32 D] fun D i=>
 gW i 82 hW e a5 f (.slice (some D) 1 1) fun D e f i=>
 0≤(32:Int)∧a2 (gL .u64 g 32) fun g=>
 a2 (IntKind.i64.wrap (h+1)) fun h=>
 a S b R c y d D e f g h i))
def dD.g(Y:K)(a:U→Nat→Nat→U→Nat→Nat→U→Nat→Nat→Int→Int→V→Prop)(X:Fr)(Z:V):Prop:=aG (X 0) fun S b R=>aG (X 1) fun c y d=>aG (X 5) fun e a5 f=>aV .u64 (X 6) fun h=>aV .i64 (X 7) fun i=>dD.t Y a S b R c y d e a5 f h i Z
theorem dD.ok(Y:K)(a:U→Nat→Nat→U→Nat→Nat→U→Nat→Nat→Int→Int→V→Prop)(X:Fr)(Z:V)(g:dD.g Y a X Z):den prog E (aS r [W,W,W,x,W,x,x,W]) (aH.then (bG.g a) (aH.inBlock 0 (aH.then (aC.g Y) (aZ E [.tmp 4] Y)))) X Z:=
 a8 g fun S a R b g=>a8 g fun c y d e g=>a8 g fun f a5 h i g=>bM g fun j l g=>bM g fun m n g=>bO [(0,.slice S a R),(1,.slice c y d),(5,.slice f a5 h),(6,.int .u64 j),(7,.int .i64 m)] ⟨b,e,i,l,n,trivial⟩ (by kernel_rfl) g
def b0.t(Y:K)(a:U→Nat→Nat→U→Nat→Nat→U→Nat→Nat→Int→Int→V→Prop)(S:U)(b R:Nat)(c:U)(y d:Nat)(e:U)(a5 f:Nat)(g h:Int)(Z:V):Prop:=
 cond (decide (h < (((b:Nat):Int)))) (dD.t Y a S b R c y d e a5 f g h Z) (cond (decide (h < (((y:Nat):Int)))) (dD.t Y a S b R c y d e a5 f g h Z) (cond (decide (g > 0)) (dD.t Y a S b R c y d e a5 f g h Z) (aC.t Y e a5 f Z)))
def b0.g(Y:K)(a:U→Nat→Nat→U→Nat→Nat→U→Nat→Nat→Int→Int→V→Prop)(X:Fr)(Z:V):Prop:=aG (X 0) fun S b R=>aG (X 1) fun c y d=>aG (X 5) fun e a5 f=>aV .u64 (X 6) fun h=>aV .i64 (X 7) fun i=>b0.t Y a S b R c y d e a5 f h i Z
theorem b0.ok(Y:K)(a:U→Nat→Nat→U→Nat→Nat→U→Nat→Nat→Int→Int→V→Prop)(X:Fr)(Z:V)(g:b0.g Y a X Z):den prog E (aS r [W,W,W,x,W,x,x]) (aH.then (bG.g a) (aH.inBlock 0 (aH.then (aC.g Y) (aZ E [.tmp 4] Y)))) X Z:=
 a8 g fun S b R c g=>a8 g fun d y e f g=>a8 g fun h a5 i j g=>bM g fun l m g=>bM g fun n t g=>cT 1 (s:=(aS r [W,W,W,x,W,x,x,W])) (by kernel_rfl) (dD.ok Y a) (bO [(0,.slice S b R),(1,.slice d y e),(5,.slice h a5 i),(6,.int .u64 l),(7,.int .i64 n)] ⟨c,f,j,m,t,trivial⟩ (by kernel_rfl) g)
def bG.t(Y:K):Nat→U→Nat→Nat→U→Nat→Nat→U→Nat→Nat→Int→Int→V→Prop
 | 0=>fun _ _ _ _ _ _ _ _ _ _ _ _=>False
 | n+1=>fun S a R b y c d a5 e f g Z=>b0.t Y (bG.t Y n) S a R b y c d a5 e f g Z
theorem bG.ok(Y:K)(X:Fr)(Z:V)(g:bG.g (fun S a R b y c d a5 e f h Z=>∃ n,bG.t Y n S a R b y c d a5 e f h Z) X Z):den prog E (aS r [W,W,W,x,W,x]) (aH.inBlock 0 (aH.then (aC.g Y) (aZ E [.tmp 4] Y))) X Z:=by
 obtain⟨S,a,R,i,g⟩:=bQ g
 obtain⟨b,y,c,j,g⟩:=bQ g
 obtain⟨d,a5,e,l,g⟩:=bQ g
 obtain⟨f,m,g⟩:=bS g
 obtain⟨h,v,g⟩:=bS g
 obtain⟨n,g⟩:=g
 refine e1 (fun n=>bG.g (bG.t Y n)) (N:=(aS r [W,W,W,x,W,x,x])) (by kernel_rfl) (fun X Z g=>?_) (fun n=>b0.ok Y (bG.t Y n)) n X Z (k i (k j (k l (bI m (bI v (g))))))
 obtain⟨S,a,R,i,g⟩:=bQ g
 obtain⟨b,y,c,j,g⟩:=bQ g
 obtain⟨d,a5,e,l,g⟩:=bQ g
 obtain⟨f,m,g⟩:=bS g
 obtain⟨h,v,g⟩:=bS g
 exact g
theorem uF.ok(Y:K)(X:Fr)(Z:V)(g:bG.g (fun S a R b y c d a5 e f h Z=>∃ n,bG.t Y n S a R b y c d a5 e f h Z) X Z):den prog E (aS r [W,W,W,x,W]) (aH.then (aC.g Y) (aZ E [.tmp 4] Y)) X Z:=
 eR (by kernel_rfl) (bG.ok Y X Z g)
def a7.t(Y:K)(S:U)(a R:Nat)(b:U)(y c:Nat)(d:U)(a5 e:Nat)(f:Int)(Z:V):Prop:=
 (∃ n,bG.t Y n S a R b y c d a5 e f 0 Z)
def a7.g(Y:K)(X:Fr)(Z:V):Prop:=aG (X 0) fun S a R=>aG (X 1) fun b y c=>aG (X 5) fun d a5 e=>aV .u64 (X 6) fun f=>a7.t Y S a R b y c d a5 e f Z
theorem a7.ok(Y:K)(X:Fr)(Z:V)(g:a7.g Y X Z):den prog E (aS r [W,W,W,x]) (aH.then (aC.g Y) (aZ E [.tmp 4] Y)) X Z:=
 a8 g fun S a R b g=>a8 g fun c y d e g=>a8 g fun f a5 h i g=>bM g fun j l g=>cT 1 (s:=(aS r [W,W,W,x,W])) (by kernel_rfl) (uF.ok Y) (bO [(0,.slice S a R),(1,.slice c y d),(5,.slice f a5 h),(6,.int .u64 j)] ⟨b,e,i,l,trivial⟩ (by kernel_rfl) g)
theorem uG.ok(Y:K)(X:Fr)(Z:V)(g:a7.g Y X Z):den prog E (aS r [W,W,W]) (aZ E [.tmp 4] Y) X Z:=
 e5 (by kernel_rfl) (aC.ok Y) (a7.ok Y X Z g)
def F.t(Y:K)(S:U)(a R:Nat)(b:U)(y c:Nat)(Z:V):Prop:=
 a2 (IntKind.i64.wrap ((if (((y:Nat):Int)) > (((a:Nat):Int)) then(((y:Nat):Int)) else(((a:Nat):Int)))+1)) fun d=>
 h8 Z 82 hW 0 d fun e f=>
 a7.t Y S a R b y c (some e) ((0:Int).toNat) d.toNat 0 f
def F.g(Y:K)(X:Fr)(Z:V):Prop:=aG (X 0) fun S a R=>aG (X 1) fun b y c=>F.t Y S a R b y c Z
theorem F.ok(Y:K)(X:Fr)(Z:V)(g:F.g Y X Z):den prog E r (aZ E [.tmp 4] Y) X Z:=
 a8 g fun S a R b g=>a8 g fun c y d e g=>cT 3 (s:=(aS r [W,W,W])) (by kernel_rfl) (uG.ok Y) (bO [(0,.slice S a R),(1,.slice c y d)] ⟨b,e,trivial⟩ (by kernel_rfl) g)
def t(S:U)(a R:Nat)(b:U)(y c:Nat)(Z:V)(Y:K):Prop:=F.t Y S a R b y c Z
theorem ok{S:U}{a:Nat}{R:Nat}{b:U}{y:Nat}{c:Nat}{Z:V}{Y:K}(g:t S a R b y c Z Y):aF id #[.slice S a R,.slice b y c] Z Y:=
 c7 c8 (L:=r) (cY:=[.tmp 4]) Tryz.func27 (by kernel_rfl) (by kernel_rfl) (by kernel_rfl) (args:=[.slice S a R,.slice b y c]) (by kernel_rfl) (F.ok Y _ Z (k rfl (k rfl (g))))
end iE
namespace jP
noncomputable def r:Code:=c6 Tryz.f28
def F.t(Y:K)(a3:Int)(Z:V):Prop:=
 a2 (iG .u64 a3 4294967295) fun a=>
 a2 (IntKind.u32.wrap a) fun a=>
 0≤(32:Int)∧a2 (gL .u64 a3 32) fun b=>
 a2 (IntKind.u32.wrap b) fun b=>
 b4 Z 82 [.int .u32 a,.int .u32 b] fun a b=>
 aF g5.id #[.slice (some a) 2 2] b fun a b=>
 aG a fun a c d=>
 Y (.slice a c d) b
def F.g(Y:K)(X:Fr)(Z:V):Prop:=aV .u64 (X 0) fun a3=>F.t Y a3 Z
theorem F.ok(Y:K)(X:Fr)(Z:V)(g:F.g Y X Z):den prog E r (aZ E [.tmp 2] Y) X Z:=
 bM g fun a3 a g=>bO [(0,.int .u64 a3)] ⟨a,trivial⟩ (by kernel_rfl) g
def t(a3:Int)(Z:V)(Y:K):Prop:=F.t Y a3 Z
theorem ok{a3:Int}{Z:V}{Y:K}(g:t a3 Z Y):aF id #[.int .u64 a3] Z Y:=
 c7 c8 (L:=r) (cY:=[.tmp 2]) Tryz.func28 (by kernel_rfl) (by kernel_rfl) (by kernel_rfl) (args:=[.int .u64 a3]) (by kernel_rfl) (F.ok Y _ Z (bI rfl (g)))
end jP
namespace jR
noncomputable def r:Code:=c6 Tryz.f29
def cA.t(Y:K)(S:U)(a R:Nat)(b:U)(c d:Nat)(e:Int)(Z:V):Prop:=
 cL b c (((a:Nat):Int)) 1 fun a=>
 aW Z a (.int .u64 e) fun a=>
 aF pC.id #[.slice b c d] a fun a b=>
 c0 a fun a=>
 b6 a fun a c d e=>
 dG e .i64 fun e f=>
 bC f <| Y (.tuple #[.slice a c d,.int .i64 e]) b
def cA.g(Y:K)(X:Fr)(Z:V):Prop:=aG (X 0) fun S a R=>aG (X 6) fun b c d=>aV .u64 (X 7) fun e=>cA.t Y S a R b c d e Z
theorem cA.ok(Y:K)(X:Fr)(Z:V)(g:cA.g Y X Z):den prog E (aS r [W,W,W,W,W,W]) (aZ E [.tmp 4,.tmp 5] Y) X Z:=
 a8 g fun S a R b g=>a8 g fun c d e f g=>bM g fun h i g=>bO [(0,.slice S a R),(6,.slice c d e),(7,.int .u64 h)] ⟨b,f,i,trivial⟩ (by kernel_rfl) g
def gN.g(bN:U→Nat→Nat→U→Nat→Nat→U→Nat→Nat→Int→Int→Int→V→Prop)(X:Fr)(Z:V):Prop:=aG (X 0) fun S a R=>aG (X 1) fun b y c=>aG (X 6) fun d e f=>aV .u64 (X 7) fun h=>aV .i64 (X 30) fun i=>aV .i64 (X 31) fun j=>bN S a R b y c d e f h i j Z
def eC.t(Y:K)(a:U→Nat→Nat→U→Nat→Nat→U→Nat→Nat→Int→Int→Int→V→Prop)(S:U)(b R:Nat)(c:U)(y d:Nat)(e:U)(f g:Nat)(h i j:Int)(Z:V):Prop:=
 cond (decide (j < i)) (cond (decide (j < (((y:Nat):Int)))) (cL c y j 1 fun l=>
 cI Z .u64 l fun l=>
 cL S b j 1 fun m=>
 cI Z .u64 m fun m=>
 o3 m l h fun l m=>
 cL e f j 1 fun n=>
 aW Z n (.int .u64 l) fun l=>
 a2 (IntKind.i64.wrap (j+1)) fun n=>
 a S b R c y d e f g m i n l) (cL S b j 1 fun l=>
 cI Z .u64 l fun l=>
 o3 l 0 h fun l m=>
 cL e f j 1 fun n=>
 aW Z n (.int .u64 l) fun l=>
 a2 (IntKind.i64.wrap (j+1)) fun j=>
 a S b R c y d e f g m i j l)) (cA.t Y S b R e f g h Z)
def eC.g(Y:K)(a:U→Nat→Nat→U→Nat→Nat→U→Nat→Nat→Int→Int→Int→V→Prop)(X:Fr)(Z:V):Prop:=aG (X 0) fun S b R=>aG (X 1) fun c y d=>aG (X 6) fun e f h=>aV .u64 (X 7) fun i=>aV .i64 (X 30) fun j=>aV .i64 (X 31) fun l=>eC.t Y a S b R c y d e f h i j l Z
theorem eC.ok(Y:K)(a:U→Nat→Nat→U→Nat→Nat→U→Nat→Nat→Int→Int→Int→V→Prop)(X:Fr)(Z:V)(g:eC.g Y a X Z):den prog E (aS r [W,W,W,W,W,x,W,x,x]) (aH.then (gN.g a) (aH.inBlock 0 (aH.then (cA.g Y) (aZ E [.tmp 4,.tmp 5] Y)))) X Z:=
 a8 g fun S a R b g=>a8 g fun c y d e g=>a8 g fun f h i j g=>bM g fun l m g=>bM g fun n t g=>bM g fun v D g=>bO [(0,.slice S a R),(1,.slice c y d),(6,.slice f h i),(7,.int .u64 l),(30,.int .i64 n),(31,.int .i64 v)] ⟨b,e,j,m,t,D,trivial⟩ (by kernel_rfl) g
def gN.t(Y:K):Nat→U→Nat→Nat→U→Nat→Nat→U→Nat→Nat→Int→Int→Int→V→Prop
 | 0=>fun _ _ _ _ _ _ _ _ _ _ _ _ _=>False
 | n+1=>fun S a R b y c d e f g h i Z=>eC.t Y (gN.t Y n) S a R b y c d e f g h i Z
theorem gN.ok(Y:K)(X:Fr)(Z:V)(g:gN.g (fun S a R b y c d e f h i j Z=>∃ n,gN.t Y n S a R b y c d e f h i j Z) X Z):den prog E (aS r [W,W,W,W,W,x,W,x]) (aH.inBlock 0 (aH.then (cA.g Y) (aZ E [.tmp 4,.tmp 5] Y))) X Z:=by
 obtain⟨S,a,R,l,g⟩:=bQ g
 obtain⟨b,y,c,m,g⟩:=bQ g
 obtain⟨d,e,f,v,g⟩:=bQ g
 obtain⟨h,D,g⟩:=bS g
 obtain⟨i,G,g⟩:=bS g
 obtain⟨j,H,g⟩:=bS g
 obtain⟨n,g⟩:=g
 refine e1 (fun n=>gN.g (gN.t Y n)) (N:=(aS r [W,W,W,W,W,x,W,x,x])) (by kernel_rfl) (fun X Z g=>?_) (fun n=>eC.ok Y (gN.t Y n)) n X Z (k l (k m (k v (bI D (bI G (bI H (g)))))))
 obtain⟨S,a,R,l,g⟩:=bQ g
 obtain⟨b,y,c,m,g⟩:=bQ g
 obtain⟨d,e,f,v,g⟩:=bQ g
 obtain⟨h,D,g⟩:=bS g
 obtain⟨i,G,g⟩:=bS g
 obtain⟨j,H,g⟩:=bS g
 exact g
theorem n4.ok(Y:K)(X:Fr)(Z:V)(g:gN.g (fun S a R b y c d e f h i j Z=>∃ n,gN.t Y n S a R b y c d e f h i j Z) X Z):den prog E (aS r [W,W,W,W,W,x,W]) (aH.then (cA.g Y) (aZ E [.tmp 4,.tmp 5] Y)) X Z:=
 eR (by kernel_rfl) (gN.ok Y X Z g)
def b0.t(Y:K)(S:U)(a R:Nat)(b:U)(y c:Nat)(d:U)(e f:Nat)(g:Int)(Z:V):Prop:=
 (∃ n,gN.t Y n S a R b y c d e f g (((a:Nat):Int)) 0 Z)
def b0.g(Y:K)(X:Fr)(Z:V):Prop:=aG (X 0) fun S a R=>aG (X 1) fun b y c=>aG (X 6) fun d e f=>aV .u64 (X 7) fun h=>b0.t Y S a R b y c d e f h Z
theorem b0.ok(Y:K)(X:Fr)(Z:V)(g:b0.g Y X Z):den prog E (aS r [W,W,W,W,W,x]) (aH.then (cA.g Y) (aZ E [.tmp 4,.tmp 5] Y)) X Z:=
 a8 g fun S a R b g=>a8 g fun c y d e g=>a8 g fun f h i j g=>bM g fun l m g=>cT 1 (s:=(aS r [W,W,W,W,W,x,W])) (by kernel_rfl) (n4.ok Y) (bO [(0,.slice S a R),(1,.slice c y d),(6,.slice f h i),(7,.int .u64 l)] ⟨b,e,j,m,trivial⟩ (by kernel_rfl) g)
theorem KW.ok(Y:K)(X:Fr)(Z:V)(g:b0.g Y X Z):den prog E (aS r [W,W,W,W,W]) (aZ E [.tmp 4,.tmp 5] Y) X Z:=
 e5 (by kernel_rfl) (cA.ok Y) (b0.ok Y X Z g)
def a7.t(Y:K)(S:U)(a R:Nat)(b:U)(y c:Nat)(Z:V):Prop:=
 a2 (IntKind.i64.wrap ((((a:Nat):Int))+1)) fun d=>
 h8 Z 27 j9 d d fun e f=>
 b0.t Y S a R b y c (some e) d.toNat d.toNat 0 f
def a7.g(Y:K)(X:Fr)(Z:V):Prop:=aG (X 0) fun S a R=>aG (X 1) fun b y c=>a7.t Y S a R b y c Z
theorem a7.ok(Y:K)(X:Fr)(Z:V)(g:a7.g Y X Z):den prog E (aS r [W,W,W]) (aZ E [.tmp 4,.tmp 5] Y) X Z:=
 a8 g fun S a R b g=>a8 g fun c y d e g=>cT 2 (s:=(aS r [W,W,W,W,W])) (by kernel_rfl) (KW.ok Y) (bO [(0,.slice S a R),(1,.slice c y d)] ⟨b,e,trivial⟩ (by kernel_rfl) g)
def aC.t(Y:K)(S:U)(a R:Nat)(b:U)(y c:Nat)(Z:V):Prop:=
 cond (decide ((((a:Nat):Int)) < (((y:Nat):Int)))) (a7.t Y b y c S a R Z) (a7.t Y S a R b y c Z)
def aC.g(Y:K)(X:Fr)(Z:V):Prop:=aG (X 0) fun S a R=>aG (X 1) fun b y c=>aC.t Y S a R b y c Z
theorem aC.ok(Y:K)(X:Fr)(Z:V)(g:aC.g Y X Z):den prog E (aS r [W,W]) (aZ E [.tmp 4,.tmp 5] Y) X Z:=
 a8 g fun S a R b g=>a8 g fun c y d e g=>cT 1 (s:=(aS r [W,W,W])) (by kernel_rfl) (a7.ok Y) (bO [(0,.slice S a R),(1,.slice c y d)] ⟨b,e,trivial⟩ (by kernel_rfl) g)
def F.t(Y:K)(S:U)(a R:Nat)(b:U)(y c:Nat)(Z:V):Prop:=
 aF j0.id #[.slice S a R] Z fun d e=>
 b9 d fun d=>
 cond (!d) (Y (.tuple #[.slice none 0 0,.int .i64 2]) e) (aF j0.id #[.slice b y c] e fun d e=>
 b9 d fun d=>
 cond (!d) (Y (.tuple #[.slice none 0 0,.int .i64 2]) e) (aC.t Y S a R b y c e))
def F.g(Y:K)(X:Fr)(Z:V):Prop:=aG (X 0) fun S a R=>aG (X 1) fun b y c=>F.t Y S a R b y c Z
theorem F.ok(Y:K)(X:Fr)(Z:V)(g:F.g Y X Z):den prog E r (aZ E [.tmp 4,.tmp 5] Y) X Z:=
 a8 g fun S a R b g=>a8 g fun c y d e g=>cT 2 (s:=(aS r [W,W])) (by kernel_rfl) (aC.ok Y) (bO [(0,.slice S a R),(1,.slice c y d)] ⟨b,e,trivial⟩ (by kernel_rfl) g)
def t(S:U)(a R:Nat)(b:U)(y c:Nat)(Z:V)(Y:K):Prop:=F.t Y S a R b y c Z
theorem ok{S:U}{a:Nat}{R:Nat}{b:U}{y:Nat}{c:Nat}{Z:V}{Y:K}(g:t S a R b y c Z Y):aF id #[.slice S a R,.slice b y c] Z Y:=
 c7 c8 (L:=r) (cY:=[.tmp 4,.tmp 5]) Tryz.func29 (by kernel_rfl) (by kernel_rfl) (by kernel_rfl) (args:=[.slice S a R,.slice b y c]) (by kernel_rfl) (F.ok Y _ Z (k rfl (k rfl (g))))
end jR
namespace jF
noncomputable def r:Code:=c6 Tryz.f30
def F.t(Y:K)(a:Bool)(b:U)(y c:Nat)(d:Int)(Z:V):Prop:=
 b4 Z 25 fL.aK fun e f=>
 cond (d != 0) (aW f (e.add 0) (.bool false) fun g=>
 aW g (e.add 1) (.slice none 0 0) fun g=>
 bB g (e.add 0) fun h=>
 a6 g (e.add 1) fun i j l=>
 Y (.tuple #[.agg #[.bool h,.slice i j l],.int .i64 d]) g) (aF mL.id #[.bool a,.slice b y c] f fun a b=>
 bU a fun a=>
 cF a fun a c=>
 b6 c fun c d f g=>
 bC g <| aW b (e.add 0) (.bool a) fun a=>
 aW a (e.add 1) (.slice c d f) fun a=>
 bB a (e.add 0) fun b=>
 a6 a (e.add 1) fun c d e=>
 Y (.tuple #[.agg #[.bool b,.slice c d e],.int .i64 0]) a)
def F.g(Y:K)(X:Fr)(Z:V):Prop:=b9 (X 0) fun a=>aG (X 1) fun b y c=>aV .i64 (X 2) fun d=>F.t Y a b y c d Z
theorem F.ok(Y:K)(X:Fr)(Z:V)(g:F.g Y X Z):den prog E r (aZ E [.cell 6 25,.tmp 7] Y) X Z:=
 p6 g fun a b g=>a8 g fun c y d e g=>bM g fun f h g=>bO [(0,.bool a),(1,.slice c y d),(2,.int .i64 f)] ⟨b,e,h,trivial⟩ (by kernel_rfl) g
def t(a:Bool)(b:U)(y c:Nat)(d:Int)(Z:V)(Y:K):Prop:=F.t Y a b y c d Z
theorem ok{a:Bool}{b:U}{y:Nat}{c:Nat}{d:Int}{Z:V}{Y:K}(g:t a b y c d Z Y):aF id #[.bool a,.slice b y c,.int .i64 d] Z Y:=
 c7 c8 (L:=r) (cY:=[.cell 6 25,.tmp 7]) Tryz.func30 (by kernel_rfl) (by kernel_rfl) (by kernel_rfl) (args:=[.bool a,.slice b y c,.int .i64 d]) (by kernel_rfl) (F.ok Y _ Z (aO rfl (k rfl (bI rfl (g)))))
end jF
namespace hL
noncomputable def r:Code:=c6 Tryz.f31
def aC.t(Y:K)(Z:V):Prop:=
 Y (.int .i64 0) Z
def aC.g(Y:K)(X:Fr)(Z:V):Prop:=aC.t Y  Z
theorem aC.ok(Y:K)(X:Fr)(Z:V)(g:aC.g Y X Z):den prog E (aS r [W,W,W,W]) (aZ E [.tmp 4] Y) X Z:=
 bO [] trivial (by kernel_rfl) g
def bG.g(bN:U→Nat→Nat→U→Nat→Nat→Int→V→Prop)(X:Fr)(Z:V):Prop:=aG (X 5) fun a a5 b=>aG (X 6) fun c d e=>aV .i64 (X 7) fun f=>bN a a5 b c d e f Z
def b0.t(Y:K)(a:U→Nat→Nat→U→Nat→Nat→Int→V→Prop)(b:U)(a5 c:Nat)(d:U)(e f:Nat)(g:Int)(Z:V):Prop:=
 cond (decide (g≥0)) (cL b a5 g 1 fun h=>
 cI Z .u64 h fun h=>
 cL d e g 1 fun i=>
 cI Z .u64 i fun i=>
 cond (h != i) (cL b a5 g 1 fun h=>
 cI Z .u64 h fun h=>
 cL d e g 1 fun i=>
 cI Z .u64 i fun i=>
 cond (decide (h < i)) (Y (.int .i64 (-1)) Z) (Y (.int .i64 1) Z)) (a2 (IntKind.i64.wrap (g - 1)) fun g=>
 a b a5 c d e f g Z)) (aC.t Y Z)
def b0.g(Y:K)(a:U→Nat→Nat→U→Nat→Nat→Int→V→Prop)(X:Fr)(Z:V):Prop:=aG (X 5) fun b a5 c=>aG (X 6) fun d e f=>aV .i64 (X 7) fun h=>b0.t Y a b a5 c d e f h Z
theorem b0.ok(Y:K)(a:U→Nat→Nat→U→Nat→Nat→Int→V→Prop)(X:Fr)(Z:V)(g:b0.g Y a X Z):den prog E (aS r [W,W,W,x,W,x,x]) (aH.then (bG.g a) (aH.inBlock 0 (aH.then (aC.g Y) (aZ E [.tmp 4] Y)))) X Z:=
 a8 g fun a a5 b c g=>a8 g fun d e f h g=>bM g fun i j g=>bO [(5,.slice a a5 b),(6,.slice d e f),(7,.int .i64 i)] ⟨c,h,j,trivial⟩ (by kernel_rfl) g
def bG.t(Y:K):Nat→U→Nat→Nat→U→Nat→Nat→Int→V→Prop
 | 0=>fun _ _ _ _ _ _ _ _=>False
 | n+1=>fun a a5 b c d e f Z=>b0.t Y (bG.t Y n) a a5 b c d e f Z
theorem bG.ok(Y:K)(X:Fr)(Z:V)(g:bG.g (fun a a5 b c d e f Z=>∃ n,bG.t Y n a a5 b c d e f Z) X Z):den prog E (aS r [W,W,W,x,W,x]) (aH.inBlock 0 (aH.then (aC.g Y) (aZ E [.tmp 4] Y))) X Z:=by
 obtain⟨a,a5,b,h,g⟩:=bQ g
 obtain⟨c,d,e,i,g⟩:=bQ g
 obtain⟨f,j,g⟩:=bS g
 obtain⟨n,g⟩:=g
 refine e1 (fun n=>bG.g (bG.t Y n)) (N:=(aS r [W,W,W,x,W,x,x])) (by kernel_rfl) (fun X Z g=>?_) (fun n=>b0.ok Y (bG.t Y n)) n X Z (k h (k i (bI j (g))))
 obtain⟨a,a5,b,h,g⟩:=bQ g
 obtain⟨c,d,e,i,g⟩:=bQ g
 obtain⟨f,j,g⟩:=bS g
 exact g
theorem eP.ok(Y:K)(X:Fr)(Z:V)(g:bG.g (fun a a5 b c d e f Z=>∃ n,bG.t Y n a a5 b c d e f Z) X Z):den prog E (aS r [W,W,W,x,W]) (aH.then (aC.g Y) (aZ E [.tmp 4] Y)) X Z:=
 eR (by kernel_rfl) (bG.ok Y X Z g)
def a7.t(Y:K)(a:U)(a5 b:Nat)(c:U)(d e:Nat)(Z:V):Prop:=
 a2 (IntKind.i64.wrap ((((a5:Nat):Int)) - 1)) fun f=>(∃ n,bG.t Y n a a5 b c d e f Z)
def a7.g(Y:K)(X:Fr)(Z:V):Prop:=aG (X 5) fun a a5 b=>aG (X 6) fun c d e=>a7.t Y a a5 b c d e Z
theorem a7.ok(Y:K)(X:Fr)(Z:V)(g:a7.g Y X Z):den prog E (aS r [W,W,W,x]) (aH.then (aC.g Y) (aZ E [.tmp 4] Y)) X Z:=
 a8 g fun a a5 b c g=>a8 g fun d e f h g=>cT 1 (s:=(aS r [W,W,W,x,W])) (by kernel_rfl) (eP.ok Y) (bO [(5,.slice a a5 b),(6,.slice d e f)] ⟨c,h,trivial⟩ (by kernel_rfl) g)
theorem gV.ok(Y:K)(X:Fr)(Z:V)(g:a7.g Y X Z):den prog E (aS r [W,W,W]) (aZ E [.tmp 4] Y) X Z:=
 e5 (by kernel_rfl) (aC.ok Y) (a7.ok Y X Z g)
def F.t(Y:K)(S:U)(a R:Nat)(b:U)(y c:Nat)(Z:V):Prop:=
 aF mG.id #[.slice S a R] Z fun a d=>
 aG a fun a e f=>
 aF mG.id #[.slice b y c] d fun b c=>
 aG b fun b d g=>
 cond ((((e:Nat):Int)) != (((d:Nat):Int))) (cond (decide ((((e:Nat):Int)) < (((d:Nat):Int)))) (Y (.int .i64 (-1)) c) (Y (.int .i64 1) c)) (a7.t Y a e f b d g c)
def F.g(Y:K)(X:Fr)(Z:V):Prop:=aG (X 0) fun S a R=>aG (X 1) fun b y c=>F.t Y S a R b y c Z
theorem F.ok(Y:K)(X:Fr)(Z:V)(g:F.g Y X Z):den prog E r (aZ E [.tmp 4] Y) X Z:=
 a8 g fun S a R b g=>a8 g fun c y d e g=>cT 3 (s:=(aS r [W,W,W])) (by kernel_rfl) (gV.ok Y) (bO [(0,.slice S a R),(1,.slice c y d)] ⟨b,e,trivial⟩ (by kernel_rfl) g)
def t(S:U)(a R:Nat)(b:U)(y c:Nat)(Z:V)(Y:K):Prop:=F.t Y S a R b y c Z
theorem ok{S:U}{a:Nat}{R:Nat}{b:U}{y:Nat}{c:Nat}{Z:V}{Y:K}(g:t S a R b y c Z Y):aF id #[.slice S a R,.slice b y c] Z Y:=
 c7 c8 (L:=r) (cY:=[.tmp 4]) Tryz.func31 (by kernel_rfl) (by kernel_rfl) (by kernel_rfl) (args:=[.slice S a R,.slice b y c]) (by kernel_rfl) (F.ok Y _ Z (k rfl (k rfl (g))))
end hL
namespace jS
noncomputable def r:Code:=c6 Tryz.f32
def a7.t(Y:K)(a:U)(b c:Nat)(Z:V):Prop:=
 aF pC.id #[.slice a b c] Z fun a b=>
 c0 a fun a=>
 b6 a fun a c d e=>
 dG e .i64 fun e f=>
 bC f <| Y (.tuple #[.slice a c d,.int .i64 e]) b
def a7.g(Y:K)(X:Fr)(Z:V):Prop:=aG (X 6) fun a b c=>a7.t Y a b c Z
theorem a7.ok(Y:K)(X:Fr)(Z:V)(g:a7.g Y X Z):den prog E (aS r [W,W,W,W,W,W]) (aZ E [.tmp 4,.tmp 5] Y) X Z:=
 a8 g fun a b c d g=>bO [(6,.slice a b c)] ⟨d,trivial⟩ (by kernel_rfl) g
def dN.g(bN:U→Nat→Nat→U→Nat→Nat→U→Nat→Nat→Int→Int→Int→V→Prop)(X:Fr)(Z:V):Prop:=aG (X 0) fun S a R=>aG (X 1) fun b y c=>aG (X 6) fun d e f=>aV .u64 (X 7) fun h=>aV .i64 (X 26) fun i=>aV .i64 (X 27) fun j=>bN S a R b y c d e f h i j Z
def dD.t(Y:K)(a:U→Nat→Nat→U→Nat→Nat→U→Nat→Nat→Int→Int→Int→V→Prop)(S:U)(b R:Nat)(c:U)(y d:Nat)(e:U)(f g:Nat)(h i j:Int)(Z:V):Prop:=
 cond (decide (j < i)) (cond (decide (j < (((y:Nat):Int)))) (cL c y j 1 fun l=>
 cI Z .u64 l fun l=>
 cL S b j 1 fun m=>
 cI Z .u64 m fun m=>
 rT m l h fun l m=>
 cL e f j 1 fun n=>
 aW Z n (.int .u64 l) fun l=>
 a2 (IntKind.i64.wrap (j+1)) fun n=>
 a S b R c y d e f g m i n l) (cL S b j 1 fun l=>
 cI Z .u64 l fun l=>
 rT l 0 h fun h l=>
 cL e f j 1 fun m=>
 aW Z m (.int .u64 h) fun h=>
 a2 (IntKind.i64.wrap (j+1)) fun j=>
 a S b R c y d e f g l i j h)) (a7.t Y e f g Z)
def dD.g(Y:K)(a:U→Nat→Nat→U→Nat→Nat→U→Nat→Nat→Int→Int→Int→V→Prop)(X:Fr)(Z:V):Prop:=aG (X 0) fun S b R=>aG (X 1) fun c y d=>aG (X 6) fun e f h=>aV .u64 (X 7) fun i=>aV .i64 (X 26) fun j=>aV .i64 (X 27) fun l=>dD.t Y a S b R c y d e f h i j l Z
theorem dD.ok(Y:K)(a:U→Nat→Nat→U→Nat→Nat→U→Nat→Nat→Int→Int→Int→V→Prop)(X:Fr)(Z:V)(g:dD.g Y a X Z):den prog E (aS r [W,W,W,W,W,x,W,x,x]) (aH.then (dN.g a) (aH.inBlock 0 (aH.then (a7.g Y) (aZ E [.tmp 4,.tmp 5] Y)))) X Z:=
 a8 g fun S a R b g=>a8 g fun c y d e g=>a8 g fun f h i j g=>bM g fun l m g=>bM g fun n t g=>bM g fun v D g=>bO [(0,.slice S a R),(1,.slice c y d),(6,.slice f h i),(7,.int .u64 l),(26,.int .i64 n),(27,.int .i64 v)] ⟨b,e,j,m,t,D,trivial⟩ (by kernel_rfl) g
def dN.t(Y:K):Nat→U→Nat→Nat→U→Nat→Nat→U→Nat→Nat→Int→Int→Int→V→Prop
 | 0=>fun _ _ _ _ _ _ _ _ _ _ _ _ _=>False
 | n+1=>fun S a R b y c d e f g h i Z=>dD.t Y (dN.t Y n) S a R b y c d e f g h i Z
theorem dN.ok(Y:K)(X:Fr)(Z:V)(g:dN.g (fun S a R b y c d e f h i j Z=>∃ n,dN.t Y n S a R b y c d e f h i j Z) X Z):den prog E (aS r [W,W,W,W,W,x,W,x]) (aH.inBlock 0 (aH.then (a7.g Y) (aZ E [.tmp 4,.tmp 5] Y))) X Z:=by
 obtain⟨S,a,R,l,g⟩:=bQ g
 obtain⟨b,y,c,m,g⟩:=bQ g
 obtain⟨d,e,f,v,g⟩:=bQ g
 obtain⟨h,D,g⟩:=bS g
 obtain⟨i,G,g⟩:=bS g
 obtain⟨j,H,g⟩:=bS g
 obtain⟨n,g⟩:=g
 refine e1 (fun n=>dN.g (dN.t Y n)) (N:=(aS r [W,W,W,W,W,x,W,x,x])) (by kernel_rfl) (fun X Z g=>?_) (fun n=>dD.ok Y (dN.t Y n)) n X Z (k l (k m (k v (bI D (bI G (bI H (g)))))))
 obtain⟨S,a,R,l,g⟩:=bQ g
 obtain⟨b,y,c,m,g⟩:=bQ g
 obtain⟨d,e,f,v,g⟩:=bQ g
 obtain⟨h,D,g⟩:=bS g
 obtain⟨i,G,g⟩:=bS g
 obtain⟨j,H,g⟩:=bS g
 exact g
theorem uF.ok(Y:K)(X:Fr)(Z:V)(g:dN.g (fun S a R b y c d e f h i j Z=>∃ n,dN.t Y n S a R b y c d e f h i j Z) X Z):den prog E (aS r [W,W,W,W,W,x,W]) (aH.then (a7.g Y) (aZ E [.tmp 4,.tmp 5] Y)) X Z:=
 eR (by kernel_rfl) (dN.ok Y X Z g)
def cA.t(Y:K)(S:U)(a R:Nat)(b:U)(y c:Nat)(d:U)(e f:Nat)(g:Int)(Z:V):Prop:=
 (∃ n,dN.t Y n S a R b y c d e f g (((a:Nat):Int)) 0 Z)
def cA.g(Y:K)(X:Fr)(Z:V):Prop:=aG (X 0) fun S a R=>aG (X 1) fun b y c=>aG (X 6) fun d e f=>aV .u64 (X 7) fun h=>cA.t Y S a R b y c d e f h Z
theorem cA.ok(Y:K)(X:Fr)(Z:V)(g:cA.g Y X Z):den prog E (aS r [W,W,W,W,W,x]) (aH.then (a7.g Y) (aZ E [.tmp 4,.tmp 5] Y)) X Z:=
 a8 g fun S a R b g=>a8 g fun c y d e g=>a8 g fun f h i j g=>bM g fun l m g=>cT 1 (s:=(aS r [W,W,W,W,W,x,W])) (by kernel_rfl) (uF.ok Y) (bO [(0,.slice S a R),(1,.slice c y d),(6,.slice f h i),(7,.int .u64 l)] ⟨b,e,j,m,trivial⟩ (by kernel_rfl) g)
theorem uG.ok(Y:K)(X:Fr)(Z:V)(g:cA.g Y X Z):den prog E (aS r [W,W,W,W,W]) (aZ E [.tmp 4,.tmp 5] Y) X Z:=
 e5 (by kernel_rfl) (a7.ok Y) (cA.ok Y X Z g)
def aC.t(Y:K)(S:U)(a R:Nat)(b:U)(y c:Nat)(Z:V):Prop:=
 aF hL.id #[.slice S a R,.slice b y c] Z fun d e=>
 aV .i64 d fun d=>
 cond (decide (d < 0)) (Y (.tuple #[.slice none 0 0,.int .i64 3]) e) (h8 e 27 j9 (((a:Nat):Int)) (((a:Nat):Int)) fun d e=>
 cA.t Y S a R b y c (some d) ((((a:Nat):Int)).toNat) ((((a:Nat):Int)).toNat) 0 e)
def aC.g(Y:K)(X:Fr)(Z:V):Prop:=aG (X 0) fun S a R=>aG (X 1) fun b y c=>aC.t Y S a R b y c Z
theorem aC.ok(Y:K)(X:Fr)(Z:V)(g:aC.g Y X Z):den prog E (aS r [W,W]) (aZ E [.tmp 4,.tmp 5] Y) X Z:=
 a8 g fun S a R b g=>a8 g fun c y d e g=>cT 3 (s:=(aS r [W,W,W,W,W])) (by kernel_rfl) (uG.ok Y) (bO [(0,.slice S a R),(1,.slice c y d)] ⟨b,e,trivial⟩ (by kernel_rfl) g)
def F.t(Y:K)(S:U)(a R:Nat)(b:U)(y c:Nat)(Z:V):Prop:=
 aF j0.id #[.slice S a R] Z fun d e=>
 b9 d fun d=>
 cond (!d) (Y (.tuple #[.slice none 0 0,.int .i64 2]) e) (aF j0.id #[.slice b y c] e fun d e=>
 b9 d fun d=>
 cond (!d) (Y (.tuple #[.slice none 0 0,.int .i64 2]) e) (aC.t Y S a R b y c e))
def F.g(Y:K)(X:Fr)(Z:V):Prop:=aG (X 0) fun S a R=>aG (X 1) fun b y c=>F.t Y S a R b y c Z
theorem F.ok(Y:K)(X:Fr)(Z:V)(g:F.g Y X Z):den prog E r (aZ E [.tmp 4,.tmp 5] Y) X Z:=
 a8 g fun S a R b g=>a8 g fun c y d e g=>cT 2 (s:=(aS r [W,W])) (by kernel_rfl) (aC.ok Y) (bO [(0,.slice S a R),(1,.slice c y d)] ⟨b,e,trivial⟩ (by kernel_rfl) g)
def t(S:U)(a R:Nat)(b:U)(y c:Nat)(Z:V)(Y:K):Prop:=F.t Y S a R b y c Z
theorem ok{S:U}{a:Nat}{R:Nat}{b:U}{y:Nat}{c:Nat}{Z:V}{Y:K}(g:t S a R b y c Z Y):aF id #[.slice S a R,.slice b y c] Z Y:=
 c7 c8 (L:=r) (cY:=[.tmp 4,.tmp 5]) Tryz.func32 (by kernel_rfl) (by kernel_rfl) (by kernel_rfl) (args:=[.slice S a R,.slice b y c]) (by kernel_rfl) (F.ok Y _ Z (k rfl (k rfl (g))))
end jS
namespace mL
noncomputable def r:Code:=c6 Tryz.f33
def F.t(Y:K)(a:Bool)(b:U)(y c:Nat)(Z:V):Prop:=
 b4 Z 25 fL.aK fun d e=>
 cond a (aW e (d.add 0) (.bool (decide ((((y:Nat):Int)) > 0))) fun a=>
 aW a (d.add 1) (.slice b y c) fun a=>
 bB a (d.add 0) fun f=>
 a6 a (d.add 1) fun g h i=>
 Y (.agg #[.bool f,.slice g h i]) a) (aW e (d.add 0) (.bool false) fun a=>
 aW a (d.add 1) (.slice b y c) fun a=>
 bB a (d.add 0) fun b=>
 a6 a (d.add 1) fun c d e=>
 Y (.agg #[.bool b,.slice c d e]) a)
def F.g(Y:K)(X:Fr)(Z:V):Prop:=b9 (X 0) fun a=>aG (X 1) fun b y c=>F.t Y a b y c Z
theorem F.ok(Y:K)(X:Fr)(Z:V)(g:F.g Y X Z):den prog E r (aZ E [.cell 4 25] Y) X Z:=
 p6 g fun a b g=>a8 g fun c y d e g=>bO [(0,.bool a),(1,.slice c y d)] ⟨b,e,trivial⟩ (by kernel_rfl) g
def t(a:Bool)(b:U)(y c:Nat)(Z:V)(Y:K):Prop:=F.t Y a b y c Z
theorem ok{a:Bool}{b:U}{y:Nat}{c:Nat}{Z:V}{Y:K}(g:t a b y c Z Y):aF id #[.bool a,.slice b y c] Z Y:=
 c7 c8 (L:=r) (cY:=[.cell 4 25]) Tryz.func33 (by kernel_rfl) (by kernel_rfl) (by kernel_rfl) (args:=[.bool a,.slice b y c]) (by kernel_rfl) (F.ok Y _ Z (aO rfl (k rfl (g))))
end mL
namespace mI
noncomputable def r:Code:=c6 Tryz.f34
def F.t(Y:K)(a3:Int)(Z:V):Prop:=
 cond (a3 == 0) (Y (.slice none 0 0) Z) (b4 Z 27 [.int .u64 a3] fun a b=>Y (.slice (some a) 1 1) b)
def F.g(Y:K)(X:Fr)(Z:V):Prop:=aV .u64 (X 0) fun a3=>F.t Y a3 Z
theorem F.ok(Y:K)(X:Fr)(Z:V)(g:F.g Y X Z):den prog E r (aZ E [.tmp 2] Y) X Z:=
 bM g fun a3 a g=>bO [(0,.int .u64 a3)] ⟨a,trivial⟩ (by kernel_rfl) g
def t(a3:Int)(Z:V)(Y:K):Prop:=F.t Y a3 Z
theorem ok{a3:Int}{Z:V}{Y:K}(g:t a3 Z Y):aF id #[.int .u64 a3] Z Y:=
 c7 c8 (L:=r) (cY:=[.tmp 2]) Tryz.func34 (by kernel_rfl) (by kernel_rfl) (by kernel_rfl) (args:=[.int .u64 a3]) (by kernel_rfl) (F.ok Y _ Z (bI rfl (g)))
end mI
namespace pJ
noncomputable def r:Code:=c6 Tryz.f35
def aC.t(Y:K)(S:U)(a R:Nat)(b:U)(y c:Nat)(Z:V):Prop:=
 aF oH.id #[.slice S a R,.slice b y c] Z fun a b=>
 aG a fun a c d=>
 aF tV.id #[.slice a c d] b fun a b=>
 c0 a fun a=>
 b6 a fun a c d e=>
 dG e .i64 fun e f=>
 bC f <| Y (.tuple #[.slice a c d,.int .i64 e]) b
def aC.g(Y:K)(X:Fr)(Z:V):Prop:=aG (X 0) fun S a R=>aG (X 1) fun b y c=>aC.t Y S a R b y c Z
theorem aC.ok(Y:K)(X:Fr)(Z:V)(g:aC.g Y X Z):den prog E (aS r [W,W]) (aZ E [.tmp 4,.tmp 5] Y) X Z:=
 a8 g fun S a R b g=>a8 g fun c y d e g=>bO [(0,.slice S a R),(1,.slice c y d)] ⟨b,e,trivial⟩ (by kernel_rfl) g
def F.t(Y:K)(S:U)(a R:Nat)(b:U)(y c:Nat)(Z:V):Prop:=
 aF j0.id #[.slice S a R] Z fun d e=>
 b9 d fun d=>
 cond (!d) (Y (.tuple #[.slice none 0 0,.int .i64 2]) e) (aF j0.id #[.slice b y c] e fun d e=>
 b9 d fun d=>
 cond (!d) (Y (.tuple #[.slice none 0 0,.int .i64 2]) e) (aC.t Y S a R b y c e))
def F.g(Y:K)(X:Fr)(Z:V):Prop:=aG (X 0) fun S a R=>aG (X 1) fun b y c=>F.t Y S a R b y c Z
theorem F.ok(Y:K)(X:Fr)(Z:V)(g:F.g Y X Z):den prog E r (aZ E [.tmp 4,.tmp 5] Y) X Z:=
 a8 g fun S a R b g=>a8 g fun c y d e g=>cT 2 (s:=(aS r [W,W])) (by kernel_rfl) (aC.ok Y) (bO [(0,.slice S a R),(1,.slice c y d)] ⟨b,e,trivial⟩ (by kernel_rfl) g)
def t(S:U)(a R:Nat)(b:U)(y c:Nat)(Z:V)(Y:K):Prop:=F.t Y S a R b y c Z
theorem ok{S:U}{a:Nat}{R:Nat}{b:U}{y:Nat}{c:Nat}{Z:V}{Y:K}(g:t S a R b y c Z Y):aF id #[.slice S a R,.slice b y c] Z Y:=
 c7 c8 (L:=r) (cY:=[.tmp 4,.tmp 5]) Tryz.func35 (by kernel_rfl) (by kernel_rfl) (by kernel_rfl) (args:=[.slice S a R,.slice b y c]) (by kernel_rfl) (F.ok Y _ Z (k rfl (k rfl (g))))
end pJ
namespace pE
noncomputable def r:Code:=c6 Tryz.f36
def F.t(Y:K)(S:U)(a R:Nat)(Z:V):Prop:=
 aF mG.id #[.slice S a R] Z fun a b=>
 aG a fun a c d=>
 cond ((((c:Nat):Int)) == 0) (Y (.int .i64 0) b) (a2 (IntKind.i64.wrap ((((c:Nat):Int)) - 1)) fun d=>
 a2 (IntKind.i64.wrap (64*d)) fun d=>
 a2 (IntKind.i64.wrap ((((c:Nat):Int)) - 1)) fun e=>
 cL a c e 1 fun a=>
 cI b .u64 a fun a=>
 aF m2.id #[.int .u64 a] b fun a b=>
 aV .i64 a fun a=>
 a2 (IntKind.i64.wrap (d+a)) fun a=>
 Y (.int .i64 a) b)
def F.g(Y:K)(X:Fr)(Z:V):Prop:=aG (X 0) fun S a R=>F.t Y S a R Z
theorem F.ok(Y:K)(X:Fr)(Z:V)(g:F.g Y X Z):den prog E r (aZ E [.tmp 2] Y) X Z:=
 a8 g fun S a R b g=>bO [(0,.slice S a R)] ⟨b,trivial⟩ (by kernel_rfl) g
def t(S:U)(a R:Nat)(Z:V)(Y:K):Prop:=F.t Y S a R Z
theorem ok{S:U}{a:Nat}{R:Nat}{Z:V}{Y:K}(g:t S a R Z Y):aF id #[.slice S a R] Z Y:=
 c7 c8 (L:=r) (cY:=[.tmp 2]) Tryz.func36 (by kernel_rfl) (by kernel_rfl) (by kernel_rfl) (args:=[.slice S a R]) (by kernel_rfl) (F.ok Y _ Z (k rfl (g)))
end pE
namespace j0
noncomputable def r:Code:=c6 Tryz.f37
def F.t(Y:K)(S:U)(a R:Nat)(Z:V):Prop:=
 cond (decide ((((a:Nat):Int))≤8192)) (cond ((((a:Nat):Int)) == 0) (Y (.bool true) Z) (a2 (IntKind.i64.wrap ((((a:Nat):Int)) - 1)) fun b=>
 cL S a b 1 fun a=>
 cI Z .u64 a fun a=>
 Y (.bool (a != 0)) Z)) (Y (.bool false) Z)
def F.g(Y:K)(X:Fr)(Z:V):Prop:=aG (X 0) fun S a R=>F.t Y S a R Z
theorem F.ok(Y:K)(X:Fr)(Z:V)(g:F.g Y X Z):den prog E r (aZ E [.tmp 2] Y) X Z:=
 a8 g fun S a R b g=>bO [(0,.slice S a R)] ⟨b,trivial⟩ (by kernel_rfl) g
def t(S:U)(a R:Nat)(Z:V)(Y:K):Prop:=F.t Y S a R Z
theorem ok{S:U}{a:Nat}{R:Nat}{Z:V}{Y:K}(g:t S a R Z Y):aF id #[.slice S a R] Z Y:=
 c7 c8 (L:=r) (cY:=[.tmp 2]) Tryz.func37 (by kernel_rfl) (by kernel_rfl) (by kernel_rfl) (args:=[.slice S a R]) (by kernel_rfl) (F.ok Y _ Z (k rfl (g)))
end j0
namespace oT
noncomputable def r:Code:=c6 Tryz.f38
def F.t(Y:K)(a:Bool)(b:U)(c d:Nat)(Z:V):Prop:=
 b4 Z 25 [.bool a,.slice b c d] fun a b=>
 b4 b 25 fL.aK fun b c=>
 bB c (a.add 0) fun d=>
 a6 c (a.add 1) fun e f g=>
 aF iW.id #[.agg #[.bool d,.slice e f g]] c fun c d=>
 b9 c fun c=>
 cond (!c) (aW d (b.add 0) (.bool false) fun c=>
 aW c (b.add 1) (.slice none 0 0) fun c=>
 bB c (b.add 0) fun e=>
 a6 c (b.add 1) fun f g h=>
 Y (.tuple #[.agg #[.bool e,.slice f g h],.int .i64 2]) c) (bB d (a.add 0) fun c=>
 a6 d (a.add 1) fun a e f=>
 aF fN.id #[.agg #[.bool c,.slice a e f]] d fun a c=>
 bU a fun a=>
 cF a fun a d=>
 b6 d fun d e f g=>
 bC g <| aF h2.id #[.agg #[.bool a,.slice d e f]] c fun a c=>
 bU a fun a=>
 cF a fun a d=>
 b6 d fun d e f g=>
 bC g <| aF gZ.id #[.agg #[.bool a,.slice d e f]] c fun a c=>
 c0 a fun a=>
 bR a fun a d=>
 bU a fun a=>
 cF a fun a e=>
 b6 e fun e f g h=>
 bC h <| dG d .i64 fun d h=>
 bC h <| aW c (b.add 0) (.bool a) fun a=>
 aW a (b.add 1) (.slice e f g) fun a=>
 bB a (b.add 0) fun c=>
 a6 a (b.add 1) fun b e f=>
 Y (.tuple #[.agg #[.bool c,.slice b e f],.int .i64 d]) a)
def F.g(Y:K)(X:Fr)(Z:V):Prop:=bU (X 0) fun a=>bR a fun a b=>b9 a fun a=>bR b fun b c=>aG b fun b d e=>bC c <| F.t Y a b d e Z
theorem F.ok(Y:K)(X:Fr)(Z:V)(g:F.g Y X Z):den prog E r (aZ E [.cell 2 25,.tmp 3] Y) X Z:=by
 obtain⟨m,a,b⟩:=eH g
 obtain⟨n,t,rfl,c⟩:=cH b
 obtain⟨d,rfl,e⟩:=dY c
 obtain⟨v,D,rfl,f⟩:=cH e
 obtain⟨h,i,j,rfl,l⟩:=bQ f
 obtain⟨rfl,g⟩:=eD l
 exact bO [(0,.agg #[.bool d,.slice h i j])] ⟨a,trivial⟩ (by kernel_rfl) g
def t(a:Bool)(b:U)(c d:Nat)(Z:V)(Y:K):Prop:=F.t Y a b c d Z
theorem ok{a:Bool}{b:U}{c:Nat}{d:Nat}{Z:V}{Y:K}(g:t a b c d Z Y):aF id #[.agg #[.bool a,.slice b c d]] Z Y:=
 c7 c8 (L:=r) (cY:=[.cell 2 25,.tmp 3]) Tryz.func38 (by kernel_rfl) (by kernel_rfl) (by kernel_rfl) (args:=[.agg #[.bool a,.slice b c d]]) (by kernel_rfl) (F.ok Y _ Z (bZ rfl (aM (aO rfl (aM (k rfl (bP (g))))))))
end oT
namespace h3
noncomputable def r:Code:=c6 Tryz.f39
def cA.t(Y:K)(a3:Int)(a b c:Addr)(Z:V):Prop:=
 cond (a3 == 0) (bB Z (b.add 0) fun d=>
 a6 Z (b.add 1) fun e f g=>
 bB Z (c.add 0) fun h=>
 a6 Z (c.add 1) fun i j l=>
 aF k2.id #[.agg #[.bool d,.slice e f g],.agg #[.bool h,.slice i j l]] Z fun d e=>
 bU d fun d=>
 cF d fun d f=>
 b6 f fun f g h i=>
 bC i <| aF gZ.id #[.agg #[.bool d,.slice f g h]] e fun d e=>
 c0 d fun d=>
 bR d fun d f=>
 bU d fun d=>
 cF d fun d g=>
 b6 g fun g h i j=>
 bC j <| dG f .i64 fun f j=>
 bC j <| aW e (a.add 0) (.bool d) fun d=>
 aW d (a.add 1) (.slice g h i) fun d=>
 bB d (a.add 0) fun e=>
 a6 d (a.add 1) fun g h i=>
 Y (.tuple #[.agg #[.bool e,.slice g h i],.int .i64 f]) d) (cond (a3 == 1) (bB Z (b.add 0) fun d=>
 a6 Z (b.add 1) fun e f g=>
 bB Z (c.add 0) fun h=>
 a6 Z (c.add 1) fun i j l=>
 aF k4.id #[.agg #[.bool d,.slice e f g],.agg #[.bool h,.slice i j l]] Z fun d e=>
 bU d fun d=>
 cF d fun d f=>
 b6 f fun f g h i=>
 bC i <| aF gZ.id #[.agg #[.bool d,.slice f g h]] e fun d e=>
 c0 d fun d=>
 bR d fun d f=>
 bU d fun d=>
 cF d fun d g=>
 b6 g fun g h i j=>
 bC j <| dG f .i64 fun f j=>
 bC j <| aW e (a.add 0) (.bool d) fun d=>
 aW d (a.add 1) (.slice g h i) fun d=>
 bB d (a.add 0) fun e=>
 a6 d (a.add 1) fun g h i=>
 Y (.tuple #[.agg #[.bool e,.slice g h i],.int .i64 f]) d) (cond (a3 == 2) (bB Z (b.add 0) fun d=>
 a6 Z (b.add 1) fun e f g=>
 bB Z (c.add 0) fun h=>
 a6 Z (c.add 1) fun i j l=>
 aF oN.id #[.agg #[.bool d,.slice e f g],.agg #[.bool h,.slice i j l]] Z fun d e=>
 bU d fun d=>
 cF d fun d f=>
 b6 f fun f g h i=>
 bC i <| aF gZ.id #[.agg #[.bool d,.slice f g h]] e fun d e=>
 c0 d fun d=>
 bR d fun d f=>
 bU d fun d=>
 cF d fun d g=>
 b6 g fun g h i j=>
 bC j <| dG f .i64 fun f j=>
 bC j <| aW e (a.add 0) (.bool d) fun d=>
 aW d (a.add 1) (.slice g h i) fun d=>
 bB d (a.add 0) fun e=>
 a6 d (a.add 1) fun g h i=>
 Y (.tuple #[.agg #[.bool e,.slice g h i],.int .i64 f]) d) (cond (a3 == 3) (bB Z (b.add 0) fun d=>
 a6 Z (b.add 1) fun e f g=>
 bB Z (c.add 0) fun h=>
 a6 Z (c.add 1) fun i j l=>
 aF lN.id #[.agg #[.bool d,.slice e f g],.agg #[.bool h,.slice i j l]] Z fun d e=>
 bU d fun d=>
 cF d fun d f=>
 b6 f fun f g h i=>
 bC i <| aF gZ.id #[.agg #[.bool d,.slice f g h]] e fun d e=>
 c0 d fun d=>
 bR d fun d f=>
 bU d fun d=>
 cF d fun d g=>
 b6 g fun g h i j=>
 bC j <| dG f .i64 fun f j=>
 bC j <| aW e (a.add 0) (.bool d) fun d=>
 aW d (a.add 1) (.slice g h i) fun d=>
 bB d (a.add 0) fun e=>
 a6 d (a.add 1) fun g h i=>
 Y (.tuple #[.agg #[.bool e,.slice g h i],.int .i64 f]) d) (cond (a3 == 4) (bB Z (b.add 0) fun d=>
 a6 Z (b.add 1) fun e f g=>
 bB Z (c.add 0) fun h=>
 a6 Z (c.add 1) fun i j l=>
 aF oP.id #[.agg #[.bool d,.slice e f g],.agg #[.bool h,.slice i j l]] Z fun d e=>
 bU d fun d=>
 cF d fun d f=>
 b6 f fun f g h i=>
 bC i <| aF gZ.id #[.agg #[.bool d,.slice f g h]] e fun d e=>
 c0 d fun d=>
 bR d fun d f=>
 bU d fun d=>
 cF d fun d g=>
 b6 g fun g h i j=>
 bC j <| dG f .i64 fun f j=>
 bC j <| aW e (a.add 0) (.bool d) fun d=>
 aW d (a.add 1) (.slice g h i) fun d=>
 bB d (a.add 0) fun e=>
 a6 d (a.add 1) fun g h i=>
 Y (.tuple #[.agg #[.bool e,.slice g h i],.int .i64 f]) d) (cond (a3 == 5) (bB Z (b.add 0) fun d=>
 a6 Z (b.add 1) fun e f g=>
 bB Z (c.add 0) fun h=>
 a6 Z (c.add 1) fun i j l=>
 aF n2.id #[.agg #[.bool d,.slice e f g],.agg #[.bool h,.slice i j l]] Z fun d e=>
 bU d fun d=>
 cF d fun d f=>
 b6 f fun f g h i=>
 bC i <| aF gZ.id #[.agg #[.bool d,.slice f g h]] e fun d e=>
 c0 d fun d=>
 bR d fun d f=>
 bU d fun d=>
 cF d fun d g=>
 b6 g fun g h i j=>
 bC j <| dG f .i64 fun f j=>
 bC j <| aW e (a.add 0) (.bool d) fun d=>
 aW d (a.add 1) (.slice g h i) fun d=>
 bB d (a.add 0) fun e=>
 a6 d (a.add 1) fun g h i=>
 Y (.tuple #[.agg #[.bool e,.slice g h i],.int .i64 f]) d) (bB Z (b.add 0) fun d=>
 a6 Z (b.add 1) fun b e f=>
 bB Z (c.add 0) fun g=>
 a6 Z (c.add 1) fun c h i=>
 aF oQ.id #[.agg #[.bool d,.slice b e f],.agg #[.bool g,.slice c h i]] Z fun b c=>
 bU b fun b=>
 cF b fun b d=>
 b6 d fun d e f g=>
 bC g <| aF gZ.id #[.agg #[.bool b,.slice d e f]] c fun b c=>
 c0 b fun b=>
 bR b fun b d=>
 bU b fun b=>
 cF b fun b e=>
 b6 e fun e f g h=>
 bC h <| dG d .i64 fun d h=>
 bC h <| aW c (a.add 0) (.bool b) fun b=>
 aW b (a.add 1) (.slice e f g) fun b=>
 bB b (a.add 0) fun c=>
 a6 b (a.add 1) fun a e f=>
 Y (.tuple #[.agg #[.bool c,.slice a e f],.int .i64 d]) b))))))
def cA.g(Y:K)(X:Fr)(Z:V):Prop:=aV .i64 (X 0) fun a3=>cJ (X 6) fun a=>cJ (X 8) fun b=>cJ (X 9) fun c=>cA.t Y a3 a b c Z
theorem cA.ok(Y:K)(X:Fr)(Z:V)(g:cA.g Y X Z):den prog E (aS r [W,W,W,W]) (aZ E [.cell 6 25,.tmp 7] Y) X Z:=
 bM g fun a3 a g=>cX g fun b c g=>cX g fun d e g=>cX g fun f h g=>bO [(0,.int .i64 a3),(6,.pointer (some b)),(8,.pointer (some d)),(9,.pointer (some f))] ⟨a,c,e,h,trivial⟩ (by kernel_rfl) g
def a7.t(Y:K)(a3:Int)(a b c:Addr)(Z:V):Prop:=
 cond (decide (a3≥3)) (bB Z (c.add 0) fun d=>
 a6 Z (c.add 1) fun e f g=>
 aF jV.id #[.agg #[.bool d,.slice e f g]] Z fun d e=>
 aV .i64 d fun d=>
 cond (d == 0) (aW e (a.add 0) (.bool false) fun d=>
 aW d (a.add 1) (.slice none 0 0) fun d=>
 bB d (a.add 0) fun f=>
 a6 d (a.add 1) fun g h i=>
 Y (.tuple #[.agg #[.bool f,.slice g h i],.int .i64 4]) d) (cA.t Y a3 a b c e)) (cA.t Y a3 a b c Z)
def a7.g(Y:K)(X:Fr)(Z:V):Prop:=aV .i64 (X 0) fun a3=>cJ (X 6) fun a=>cJ (X 8) fun b=>cJ (X 9) fun c=>a7.t Y a3 a b c Z
theorem a7.ok(Y:K)(X:Fr)(Z:V)(g:a7.g Y X Z):den prog E (aS r [W,W,W]) (aZ E [.cell 6 25,.tmp 7] Y) X Z:=
 bM g fun a3 a g=>cX g fun b c g=>cX g fun d e g=>cX g fun f h g=>cT 1 (s:=(aS r [W,W,W,W])) (by kernel_rfl) (cA.ok Y) (bO [(0,.int .i64 a3),(6,.pointer (some b)),(8,.pointer (some d)),(9,.pointer (some f))] ⟨a,c,e,h,trivial⟩ (by kernel_rfl) g)
def aC.t(Y:K)(a3:Int)(a b c:Addr)(Z:V):Prop:=
 a.block < Z.size∧bB Z (a.add 0) fun d=>
 a6 Z (a.add 1) fun a e f=>
 b.block < Z.size∧bB Z (b.add 0) fun g=>
 a6 Z (b.add 1) fun b h i=>
 (aF fN.id #[.agg #[.bool d,.slice a e f]] Z fun j l=>
 bU j fun j=>
 cF j fun j m=>
 b6 m fun m n v D=>
 bC D <| (cG Z.size Z l)∧(aF fN.id #[.agg #[.bool g,.slice b h i]] l fun D E=>
 bU D fun D=>
 cF D fun D G=>
 b6 G fun G H P K5=>
 bC K5 <| (cG Z.size l E)∧(b4 E 37 gB.aK fun K5 K6=>
 (cG Z.size E K6)∧b4 K6 37 gB.aK fun K7 K8=>
 (cG Z.size K6 K8)∧aW K8 (K5.add 0) (.bool j) fun K6=>
 aW K6 (K5.add 1) (.slice m n v) fun K6=>
 aW K6 (K7.add 0) (.bool D) fun K6=>
 aW K6 (K7.add 1) (.slice G H P) fun K6=>
 a7.t Y a3 c K5 K7 K6)∧(b4 E 37 gB.aK fun K5 K6=>
 (cG Z.size E K6)∧b4 K6 37 gB.aK fun E K7=>
 (cG Z.size K6 K7)∧aW K7 (E.add 0) (.bool j) fun K6=>
 aW K6 (E.add 1) (.slice m n v) fun K6=>
 aW K6 (K5.add 0) (.bool D) fun D=>
 aW D (K5.add 1) (.slice G H P) fun D=>
 a7.t Y a3 c E K5 D))∧(b4 l 37 gB.aK fun D E=>
 (cG Z.size l E)∧(aF fN.id #[.agg #[.bool g,.slice b h i]] E fun G H=>
 bU G fun G=>
 cF G fun G P=>
 b6 P fun P K5 K6 K7=>
 bC K7 <| (cG Z.size E H)∧b4 H 37 gB.aK fun K7 K8=>
 (cG Z.size H K8)∧aW K8 (D.add 0) (.bool j) fun H=>
 aW H (D.add 1) (.slice m n v) fun H=>
 aW H (K7.add 0) (.bool G) fun G=>
 aW G (K7.add 1) (.slice P K5 K6) fun G=>
 a7.t Y a3 c D K7 G)∧(b4 E 37 gB.aK fun G H=>
 (cG Z.size E H)∧aF fN.id #[.agg #[.bool g,.slice b h i]] H fun E P=>
 bU E fun E=>
 cF E fun E K5=>
 b6 K5 fun K5 K6 K7 K8=>
 bC K8 <| (cG Z.size H P)∧aW P (D.add 0) (.bool j) fun H=>
 aW H (D.add 1) (.slice m n v) fun H=>
 aW H (G.add 0) (.bool E) fun E=>
 aW E (G.add 1) (.slice K5 K6 K7) fun E=>
 a7.t Y a3 c D G E))∧(b4 l 37 gB.aK fun D E=>
 (cG Z.size l E)∧(aF fN.id #[.agg #[.bool g,.slice b h i]] E fun G H=>
 bU G fun G=>
 cF G fun G P=>
 b6 P fun P l K5 K6=>
 bC K6 <| (cG Z.size E H)∧b4 H 37 gB.aK fun K6 K7=>
 (cG Z.size H K7)∧aW K7 (K6.add 0) (.bool j) fun H=>
 aW H (K6.add 1) (.slice m n v) fun H=>
 aW H (D.add 0) (.bool G) fun G=>
 aW G (D.add 1) (.slice P l K5) fun G=>
 a7.t Y a3 c K6 D G)∧(b4 E 37 gB.aK fun G H=>
 (cG Z.size E H)∧aF fN.id #[.agg #[.bool g,.slice b h i]] H fun E P=>
 bU E fun E=>
 cF E fun E l=>
 b6 l fun l K5 K6 K7=>
 bC K7 <| (cG Z.size H P)∧aW P (G.add 0) (.bool j) fun H=>
 aW H (G.add 1) (.slice m n v) fun H=>
 aW H (D.add 0) (.bool E) fun E=>
 aW E (D.add 1) (.slice l K5 K6) fun E=>
 a7.t Y a3 c G D E)))∧(b4 Z 37 gB.aK fun D E=>
 (cG Z.size Z E)∧(aF fN.id #[.agg #[.bool d,.slice a e f]] E fun G H=>
 bU G fun G=>
 cF G fun G P=>
 b6 P fun P j l m=>
 bC m <| (cG Z.size E H)∧(aF fN.id #[.agg #[.bool g,.slice b h i]] H fun m n=>
 bU m fun m=>
 cF m fun m v=>
 b6 v fun v K5 K6 K7=>
 bC K7 <| (cG Z.size H n)∧b4 n 37 gB.aK fun K7 K8=>
 (cG Z.size n K8)∧aW K8 (D.add 0) (.bool G) fun n=>
 aW n (D.add 1) (.slice P j l) fun n=>
 aW n (K7.add 0) (.bool m) fun m=>
 aW m (K7.add 1) (.slice v K5 K6) fun m=>
 a7.t Y a3 c D K7 m)∧(b4 H 37 gB.aK fun m n=>
 (cG Z.size H n)∧aF fN.id #[.agg #[.bool g,.slice b h i]] n fun H v=>
 bU H fun H=>
 cF H fun H K5=>
 b6 K5 fun K5 K6 K7 K8=>
 bC K8 <| (cG Z.size n v)∧aW v (D.add 0) (.bool G) fun G=>
 aW G (D.add 1) (.slice P j l) fun G=>
 aW G (m.add 0) (.bool H) fun G=>
 aW G (m.add 1) (.slice K5 K6 K7) fun G=>
 a7.t Y a3 c D m G))∧(b4 E 37 gB.aK fun G H=>
 (cG Z.size E H)∧aF fN.id #[.agg #[.bool d,.slice a e f]] H fun E P=>
 bU E fun E=>
 cF E fun E j=>
 b6 j fun j l m n=>
 bC n <| (cG Z.size H P)∧aF fN.id #[.agg #[.bool g,.slice b h i]] P fun H n=>
 bU H fun H=>
 cF H fun H v=>
 b6 v fun v K5 K6 K7=>
 bC K7 <| (cG Z.size P n)∧aW n (D.add 0) (.bool E) fun E=>
 aW E (D.add 1) (.slice j l m) fun E=>
 aW E (G.add 0) (.bool H) fun E=>
 aW E (G.add 1) (.slice v K5 K6) fun E=>
 a7.t Y a3 c D G E))∧(b4 Z 37 gB.aK fun D E=>
 (cG Z.size Z E)∧(aF fN.id #[.agg #[.bool d,.slice a e f]] E fun G H=>
 bU G fun G=>
 cF G fun G P=>
 b6 P fun P j l m=>
 bC m <| (cG Z.size E H)∧(aF fN.id #[.agg #[.bool g,.slice b h i]] H fun m n=>
 bU m fun m=>
 cF m fun m v=>
 b6 v fun v K5 K6 K7=>
 bC K7 <| (cG Z.size H n)∧b4 n 37 gB.aK fun K7 K8=>
 (cG Z.size n K8)∧aW K8 (K7.add 0) (.bool G) fun n=>
 aW n (K7.add 1) (.slice P j l) fun n=>
 aW n (D.add 0) (.bool m) fun m=>
 aW m (D.add 1) (.slice v K5 K6) fun m=>
 a7.t Y a3 c K7 D m)∧(b4 H 37 gB.aK fun m n=>
 (cG Z.size H n)∧aF fN.id #[.agg #[.bool g,.slice b h i]] n fun H v=>
 bU H fun H=>
 cF H fun H K5=>
 b6 K5 fun K5 K6 K7 K8=>
 bC K8 <| (cG Z.size n v)∧aW v (m.add 0) (.bool G) fun G=>
 aW G (m.add 1) (.slice P j l) fun G=>
 aW G (D.add 0) (.bool H) fun G=>
 aW G (D.add 1) (.slice K5 K6 K7) fun G=>
 a7.t Y a3 c m D G))∧(b4 E 37 gB.aK fun G H=>
 (cG Z.size E H)∧aF fN.id #[.agg #[.bool d,.slice a e f]] H fun E P=>
 bU E fun E=>
 cF E fun E a=>
 b6 a fun a d e f=>
 bC f <| (cG Z.size H P)∧aF fN.id #[.agg #[.bool g,.slice b h i]] P fun H b=>
 bU H fun H=>
 cF H fun H f=>
 b6 f fun f g h i=>
 bC i <| (cG Z.size P b)∧aW b (G.add 0) (.bool E) fun E=>
 aW E (G.add 1) (.slice a d e) fun E=>
 aW E (D.add 0) (.bool H) fun E=>
 aW E (D.add 1) (.slice f g h) fun E=>
 a7.t Y a3 c G D E))
def aC.g(Y:K)(X:Fr)(Z:V):Prop:=aV .i64 (X 0) fun a3=>cJ (X 4) fun a=>cJ (X 5) fun b=>cJ (X 6) fun c=>aC.t Y a3 a b c Z
theorem aC.ok(Y:K)(X:Fr)(Z:V)(g:aC.g Y X Z):den prog E (aS r [W,W]) (aZ E [.cell 6 25,.tmp 7] Y) X Z:=
 bM g fun a3 a g=>cX g fun b c g=>cX g fun d e g=>cX g fun f h g=>cT 1 (s:=(aS r [W,W,W])) (by kernel_rfl) (a7.ok Y) (bO [(0,.int .i64 a3),(4,.pointer (some b)),(5,.pointer (some d)),(6,.pointer (some f))] ⟨a,c,e,h,trivial⟩ (by kernel_rfl) g)
def F.t(Y:K)(a3:Int)(aT:Bool)(a:U)(b c:Nat)(cU:Bool)(d:U)(e f:Nat)(Z:V):Prop:=
 b4 Z 25 [.bool aT,.slice a b c] fun a b=>
 b4 b 25 [.bool cU,.slice d e f] fun b c=>
 b4 c 25 fL.aK fun c d=>
 bB d (a.add 0) fun e=>
 a6 d (a.add 1) fun f g h=>
 aF iW.id #[.agg #[.bool e,.slice f g h]] d fun d e=>
 b9 d fun d=>
 cond (!d) (aW e (c.add 0) (.bool false) fun d=>
 aW d (c.add 1) (.slice none 0 0) fun d=>
 bB d (c.add 0) fun f=>
 a6 d (c.add 1) fun g h i=>
 Y (.tuple #[.agg #[.bool f,.slice g h i],.int .i64 2]) d) (bB e (b.add 0) fun d=>
 a6 e (b.add 1) fun f g h=>
 aF iW.id #[.agg #[.bool d,.slice f g h]] e fun d e=>
 b9 d fun d=>
 cond (!d) (aW e (c.add 0) (.bool false) fun d=>
 aW d (c.add 1) (.slice none 0 0) fun d=>
 bB d (c.add 0) fun f=>
 a6 d (c.add 1) fun g h i=>
 Y (.tuple #[.agg #[.bool f,.slice g h i],.int .i64 2]) d) (aC.t Y a3 a b c e))
def F.g(Y:K)(X:Fr)(Z:V):Prop:=aV .i64 (X 0) fun a3=>bU (X 1) fun dV=>bR dV fun a b=>b9 a fun aT=>bR b fun a b=>aG a fun a c d=>bC b <| bU (X 2) fun j5=>bR j5 fun b e=>b9 b fun cU=>bR e fun b e=>aG b fun b f h=>bC e <| F.t Y a3 aT a c d cU b f h Z
theorem F.ok(Y:K)(X:Fr)(Z:V)(g:F.g Y X Z):den prog E r (aZ E [.cell 6 25,.tmp 7] Y) X Z:=by
 obtain⟨a3,a,g⟩:=bS g
 obtain⟨dV,b,c⟩:=eH g
 obtain⟨K6,K7,rfl,d⟩:=cH c
 obtain⟨aT,rfl,e⟩:=dY d
 obtain⟨K8,K9,rfl,f⟩:=cH e
 obtain⟨h,i,j,rfl,l⟩:=bQ f
 obtain⟨rfl,g⟩:=eD l
 obtain⟨j5,m,n⟩:=eH g
 obtain⟨La,Lb,rfl,t⟩:=cH n
 obtain⟨cU,rfl,v⟩:=dY t
 obtain⟨Lc,Ld,rfl,D⟩:=cH v
 obtain⟨G,H,P,rfl,K5⟩:=bQ D
 obtain⟨rfl,g⟩:=eD K5
 exact cT 2 (s:=(aS r [W,W])) (by kernel_rfl) (aC.ok Y) (bO [(0,.int .i64 a3),(1,.agg #[.bool aT,.slice h i j]),(2,.agg #[.bool cU,.slice G H P])] ⟨a,b,m,trivial⟩ (by kernel_rfl) g)
def t(a3:Int)(aT:Bool)(a:U)(b c:Nat)(cU:Bool)(d:U)(e f:Nat)(Z:V)(Y:K):Prop:=F.t Y a3 aT a b c cU d e f Z
theorem ok{a3:Int}{aT:Bool}{a:U}{b:Nat}{c:Nat}{cU:Bool}{d:U}{e:Nat}{f:Nat}{Z:V}{Y:K}(g:t a3 aT a b c cU d e f Z Y):aF id #[.int .i64 a3,.agg #[.bool aT,.slice a b c],.agg #[.bool cU,.slice d e f]] Z Y:=
 c7 c8 (L:=r) (cY:=[.cell 6 25,.tmp 7]) Tryz.func39 (by kernel_rfl) (by kernel_rfl) (by kernel_rfl) (args:=[.int .i64 a3,.agg #[.bool aT,.slice a b c],.agg #[.bool cU,.slice d e f]]) (by kernel_rfl) (F.ok Y _ Z (bI rfl (bZ rfl (aM (aO rfl (aM (k rfl (bP (bZ rfl (aM (aO rfl (aM (k rfl (bP (g)))))))))))))))
end h3
namespace k5
noncomputable def r:Code:=c6 Tryz.f40
def F.t(Y:K)(a3:Int)(aT:Bool)(a:U)(b c:Nat)(d:Int)(Z:V):Prop:=
 b4 Z 25 [.bool aT,.slice a b c] fun a b=>
 b4 b 25 fL.aK fun b c=>
 cond (decide (d < 0)) (aW c (b.add 0) (.bool false) fun e=>
 aW e (b.add 1) (.slice none 0 0) fun e=>
 bB e (b.add 0) fun f=>
 a6 e (b.add 1) fun g h i=>
 Y (.tuple #[.agg #[.bool f,.slice g h i],.int .i64 1]) e) (bB c (a.add 0) fun e=>
 a6 c (a.add 1) fun f g h=>
 aF iW.id #[.agg #[.bool e,.slice f g h]] c fun c e=>
 b9 c fun c=>
 cond (!c) (aW e (b.add 0) (.bool false) fun c=>
 aW c (b.add 1) (.slice none 0 0) fun c=>
 bB c (b.add 0) fun f=>
 a6 c (b.add 1) fun g h i=>
 Y (.tuple #[.agg #[.bool f,.slice g h i],.int .i64 2]) c) (bB e (a.add 0) fun c=>
 a6 e (a.add 1) fun a f g=>
 aF fN.id #[.agg #[.bool c,.slice a f g]] e fun a c=>
 bU a fun a=>
 cF a fun a e=>
 b6 e fun e f g h=>
 bC h <| b4 c 37 gB.aK fun c h=>
 aW h (c.add 0) (.bool a) fun a=>
 aW a (c.add 1) (.slice e f g) fun a=>
 cond (a3 == 0) (cond (decide (d > 524288)) (bB a (c.add 0) fun e=>
 a6 a (c.add 1) fun f g h=>
 aF jV.id #[.agg #[.bool e,.slice f g h]] a fun e f=>
 aV .i64 e fun e=>
 cond (e != 0) (aW f (b.add 0) (.bool false) fun e=>
 aW e (b.add 1) (.slice none 0 0) fun e=>
 bB e (b.add 0) fun g=>
 a6 e (b.add 1) fun h i j=>
 Y (.tuple #[.agg #[.bool g,.slice h i j],.int .i64 5]) e) (bB f (c.add 0) fun e=>
 a6 f (c.add 1) fun g h i=>
 aF nF.id #[.agg #[.bool e,.slice g h i],.int .i64 d] f fun e f=>
 bU e fun e=>
 cF e fun e g=>
 b6 g fun g h i j=>
 bC j <| aF gZ.id #[.agg #[.bool e,.slice g h i]] f fun e f=>
 c0 e fun e=>
 bR e fun e g=>
 bU e fun e=>
 cF e fun e h=>
 b6 h fun h i j l=>
 bC l <| dG g .i64 fun g l=>
 bC l <| aW f (b.add 0) (.bool e) fun e=>
 aW e (b.add 1) (.slice h i j) fun e=>
 bB e (b.add 0) fun f=>
 a6 e (b.add 1) fun h i j=>
 Y (.tuple #[.agg #[.bool f,.slice h i j],.int .i64 g]) e)) (bB a (c.add 0) fun e=>
 a6 a (c.add 1) fun f g h=>
 aF nF.id #[.agg #[.bool e,.slice f g h],.int .i64 d] a fun e f=>
 bU e fun e=>
 cF e fun e g=>
 b6 g fun g h i j=>
 bC j <| aF gZ.id #[.agg #[.bool e,.slice g h i]] f fun e f=>
 c0 e fun e=>
 bR e fun e g=>
 bU e fun e=>
 cF e fun e h=>
 b6 h fun h i j l=>
 bC l <| dG g .i64 fun g l=>
 bC l <| aW f (b.add 0) (.bool e) fun e=>
 aW e (b.add 1) (.slice h i j) fun e=>
 bB e (b.add 0) fun f=>
 a6 e (b.add 1) fun h i j=>
 Y (.tuple #[.agg #[.bool f,.slice h i j],.int .i64 g]) e)) (cond (a3 == 1) (bB a (c.add 0) fun e=>
 a6 a (c.add 1) fun f g h=>
 aF mP.id #[.agg #[.bool e,.slice f g h],.int .i64 d] a fun e f=>
 bU e fun e=>
 cF e fun e g=>
 b6 g fun g h i j=>
 bC j <| aF gZ.id #[.agg #[.bool e,.slice g h i]] f fun e f=>
 c0 e fun e=>
 bR e fun e g=>
 bU e fun e=>
 cF e fun e h=>
 b6 h fun h i j l=>
 bC l <| dG g .i64 fun g l=>
 bC l <| aW f (b.add 0) (.bool e) fun e=>
 aW e (b.add 1) (.slice h i j) fun e=>
 bB e (b.add 0) fun f=>
 a6 e (b.add 1) fun h i j=>
 Y (.tuple #[.agg #[.bool f,.slice h i j],.int .i64 g]) e) (cond (a3 == 2) (bB a (c.add 0) fun e=>
 a6 a (c.add 1) fun f g h=>
 aF oR.id #[.agg #[.bool e,.slice f g h],.int .i64 d] a fun e f=>
 bU e fun e=>
 cF e fun e g=>
 b6 g fun g h i j=>
 bC j <| aF gZ.id #[.agg #[.bool e,.slice g h i]] f fun e f=>
 c0 e fun e=>
 bR e fun e g=>
 bU e fun e=>
 cF e fun e h=>
 b6 h fun h i j l=>
 bC l <| dG g .i64 fun g l=>
 bC l <| aW f (b.add 0) (.bool e) fun e=>
 aW e (b.add 1) (.slice h i j) fun e=>
 bB e (b.add 0) fun f=>
 a6 e (b.add 1) fun h i j=>
 Y (.tuple #[.agg #[.bool f,.slice h i j],.int .i64 g]) e) (bB a (c.add 0) fun e=>
 a6 a (c.add 1) fun c f g=>
 aF oS.id #[.agg #[.bool e,.slice c f g],.int .i64 d] a fun a c=>
 bU a fun a=>
 cF a fun a d=>
 b6 d fun d e f g=>
 bC g <| aF gZ.id #[.agg #[.bool a,.slice d e f]] c fun a c=>
 c0 a fun a=>
 bR a fun a d=>
 bU a fun a=>
 cF a fun a e=>
 b6 e fun e f g h=>
 bC h <| dG d .i64 fun d h=>
 bC h <| aW c (b.add 0) (.bool a) fun a=>
 aW a (b.add 1) (.slice e f g) fun a=>
 bB a (b.add 0) fun c=>
 a6 a (b.add 1) fun b e f=>
 Y (.tuple #[.agg #[.bool c,.slice b e f],.int .i64 d]) a)))))
def F.g(Y:K)(X:Fr)(Z:V):Prop:=aV .i64 (X 0) fun a3=>bU (X 1) fun dV=>bR dV fun a b=>b9 a fun aT=>bR b fun a b=>aG a fun a c d=>bC b <| aV .i64 (X 2) fun b=>F.t Y a3 aT a c d b Z
theorem F.ok(Y:K)(X:Fr)(Z:V)(g:F.g Y X Z):den prog E r (aZ E [.cell 6 25,.tmp 7] Y) X Z:=by
 obtain⟨a3,a,g⟩:=bS g
 obtain⟨dV,b,c⟩:=eH g
 obtain⟨t,v,rfl,d⟩:=cH c
 obtain⟨aT,rfl,e⟩:=dY d
 obtain⟨D,G,rfl,f⟩:=cH e
 obtain⟨h,i,j,rfl,l⟩:=bQ f
 obtain⟨rfl,g⟩:=eD l
 obtain⟨m,n,g⟩:=bS g
 exact bO [(0,.int .i64 a3),(1,.agg #[.bool aT,.slice h i j]),(2,.int .i64 m)] ⟨a,b,n,trivial⟩ (by kernel_rfl) g
def t(a3:Int)(aT:Bool)(a:U)(b c:Nat)(d:Int)(Z:V)(Y:K):Prop:=F.t Y a3 aT a b c d Z
theorem ok{a3:Int}{aT:Bool}{a:U}{b:Nat}{c:Nat}{d:Int}{Z:V}{Y:K}(g:t a3 aT a b c d Z Y):aF id #[.int .i64 a3,.agg #[.bool aT,.slice a b c],.int .i64 d] Z Y:=
 c7 c8 (L:=r) (cY:=[.cell 6 25,.tmp 7]) Tryz.func40 (by kernel_rfl) (by kernel_rfl) (by kernel_rfl) (args:=[.int .i64 a3,.agg #[.bool aT,.slice a b c],.int .i64 d]) (by kernel_rfl) (F.ok Y _ Z (bI rfl (bZ rfl (aM (aO rfl (aM (k rfl (bP (bI rfl (g))))))))))
end k5
namespace l2
noncomputable def r:Code:=c6 Tryz.f41
def F.t(Y:K)(a3 aQ:Int)(Z:V):Prop:=
 a2 (IntKind.i64.wrap (a3+1)) fun a=>
 a2 (IntKind.u64.wrap a) fun a=>
 0≤(24:Int)∧a2 (jM .u64 a 24) fun a=>
 a2 (IntKind.u64.wrap (11944390636716687360+a)) fun a=>
 a2 (IntKind.u64.wrap aQ) fun b=>
 a2 (IntKind.u64.wrap (a+b)) fun a=>
 Y (.int .u64 a) Z
def F.g(Y:K)(X:Fr)(Z:V):Prop:=aV .i64 (X 0) fun a3=>aV .i64 (X 1) fun aQ=>F.t Y a3 aQ Z
theorem F.ok(Y:K)(X:Fr)(Z:V)(g:F.g Y X Z):den prog E r (aZ E [.tmp 4] Y) X Z:=
 bM g fun a3 a g=>bM g fun aQ b g=>bO [(0,.int .i64 a3),(1,.int .i64 aQ)] ⟨a,b,trivial⟩ (by kernel_rfl) g
def t(a3 aQ:Int)(Z:V)(Y:K):Prop:=F.t Y a3 aQ Z
theorem ok{a3:Int}{aQ:Int}{Z:V}{Y:K}(g:t a3 aQ Z Y):aF id #[.int .i64 a3,.int .i64 aQ] Z Y:=
 c7 c8 (L:=r) (cY:=[.tmp 4]) Tryz.func41 (by kernel_rfl) (by kernel_rfl) (by kernel_rfl) (args:=[.int .i64 a3,.int .i64 aQ]) (by kernel_rfl) (F.ok Y _ Z (bI rfl (bI rfl (g))))
end l2
namespace oL
noncomputable def r:Code:=c6 Tryz.f42
def F.t(Y:K)(a:Bool)(b:U)(c d:Nat)(Z:V):Prop:=
 b4 Z 25 [.bool a,.slice b c d] fun a b=>
 b4 b 25 fL.aK fun b c=>
 bB c (a.add 0) fun d=>
 a6 c (a.add 1) fun e f g=>
 aF eQ.id #[.agg #[.bool d,.slice e f g]] c fun c d=>
 b9 c fun c=>
 cond (!c) (aW d (b.add 0) (.bool false) fun c=>
 aW c (b.add 1) (.slice none 0 0) fun c=>
 bB c (b.add 0) fun e=>
 a6 c (b.add 1) fun f g h=>
 Y (.tuple #[.agg #[.bool e,.slice f g h],.int .i64 2]) c) (a6 d (a.add 1) fun c e f=>
 aF nV.id #[.slice c e f] d fun c d=>
 c0 c fun c=>
 b6 c fun c e f g=>
 dG g .i64 fun g h=>
 bC h <| bB d (a.add 0) fun a=>
 aF jF.id #[.bool (!a),.slice c e f,.int .i64 g] d fun a c=>
 c0 a fun a=>
 bR a fun a d=>
 bU a fun a=>
 cF a fun a e=>
 b6 e fun e f g h=>
 bC h <| dG d .i64 fun d h=>
 bC h <| aW c (b.add 0) (.bool a) fun a=>
 aW a (b.add 1) (.slice e f g) fun a=>
 bB a (b.add 0) fun c=>
 a6 a (b.add 1) fun b e f=>
 Y (.tuple #[.agg #[.bool c,.slice b e f],.int .i64 d]) a)
def F.g(Y:K)(X:Fr)(Z:V):Prop:=bU (X 0) fun a=>bR a fun a b=>b9 a fun a=>bR b fun b c=>aG b fun b d e=>bC c <| F.t Y a b d e Z
theorem F.ok(Y:K)(X:Fr)(Z:V)(g:F.g Y X Z):den prog E r (aZ E [.cell 2 25,.tmp 3] Y) X Z:=by
 obtain⟨m,a,b⟩:=eH g
 obtain⟨n,t,rfl,c⟩:=cH b
 obtain⟨d,rfl,e⟩:=dY c
 obtain⟨v,D,rfl,f⟩:=cH e
 obtain⟨h,i,j,rfl,l⟩:=bQ f
 obtain⟨rfl,g⟩:=eD l
 exact bO [(0,.agg #[.bool d,.slice h i j])] ⟨a,trivial⟩ (by kernel_rfl) g
def t(a:Bool)(b:U)(c d:Nat)(Z:V)(Y:K):Prop:=F.t Y a b c d Z
theorem ok{a:Bool}{b:U}{c:Nat}{d:Nat}{Z:V}{Y:K}(g:t a b c d Z Y):aF id #[.agg #[.bool a,.slice b c d]] Z Y:=
 c7 c8 (L:=r) (cY:=[.cell 2 25,.tmp 3]) Tryz.func42 (by kernel_rfl) (by kernel_rfl) (by kernel_rfl) (args:=[.agg #[.bool a,.slice b c d]]) (by kernel_rfl) (F.ok Y _ Z (bZ rfl (aM (aO rfl (aM (k rfl (bP (g))))))))
end oL
namespace n0
noncomputable def r:Code:=c6 Tryz.f43
def aC.t(Y:K)(a b c:Addr)(Z:V):Prop:=
 a.block < Z.size∧bB Z (a.add 0) fun d=>
 a6 Z (a.add 1) fun a e f=>
 (b.add 0).block < Z.size∧bB Z (b.add 0) fun g=>
 (b.add 1).block < Z.size∧a6 Z (b.add 1) fun b h i=>
 aF mL.id #[.bool (!g),.slice b h i] Z fun b g=>
 bU b fun b=>
 cF b fun b h=>
 b6 h fun h i j l=>
 bC l <| (cG Z.size Z g)∧aF kQ.id #[.agg #[.bool d,.slice a e f],.agg #[.bool b,.slice h i j]] g fun a b=>
 c0 a fun a=>
 bR a fun a d=>
 bU a fun a=>
 cF a fun a e=>
 b6 e fun e f h i=>
 bC i <| dG d .i64 fun d i=>
 bC i <| (cG Z.size g b)∧aW b (c.add 0) (.bool a) fun a=>
 aW a (c.add 1) (.slice e f h) fun a=>
 bB a (c.add 0) fun b=>
 a6 a (c.add 1) fun c e f=>
 Y (.tuple #[.agg #[.bool b,.slice c e f],.int .i64 d]) a
def aC.g(Y:K)(X:Fr)(Z:V):Prop:=cJ (X 2) fun a=>cJ (X 3) fun b=>cJ (X 4) fun c=>aC.t Y a b c Z
theorem aC.ok(Y:K)(X:Fr)(Z:V)(g:aC.g Y X Z):den prog E (aS r [W,W]) (aZ E [.cell 4 25,.tmp 5] Y) X Z:=
 cX g fun a b g=>cX g fun c d g=>cX g fun e f g=>bO [(2,.pointer (some a)),(3,.pointer (some c)),(4,.pointer (some e))] ⟨b,d,f,trivial⟩ (by kernel_rfl) g
def F.t(Y:K)(a:Bool)(b:U)(c d:Nat)(aT:Bool)(e:U)(f g:Nat)(Z:V):Prop:=
 b4 Z 25 [.bool a,.slice b c d] fun a b=>
 b4 b 25 [.bool aT,.slice e f g] fun b c=>
 b4 c 25 fL.aK fun c d=>
 bB d (a.add 0) fun e=>
 a6 d (a.add 1) fun f g h=>
 aF eQ.id #[.agg #[.bool e,.slice f g h]] d fun d e=>
 b9 d fun d=>
 cond (!d) (aW e (c.add 0) (.bool false) fun d=>
 aW d (c.add 1) (.slice none 0 0) fun d=>
 bB d (c.add 0) fun f=>
 a6 d (c.add 1) fun g h i=>
 Y (.tuple #[.agg #[.bool f,.slice g h i],.int .i64 2]) d) (bB e (b.add 0) fun d=>
 a6 e (b.add 1) fun f g h=>
 aF eQ.id #[.agg #[.bool d,.slice f g h]] e fun d e=>
 b9 d fun d=>
 cond (!d) (aW e (c.add 0) (.bool false) fun d=>
 aW d (c.add 1) (.slice none 0 0) fun d=>
 bB d (c.add 0) fun f=>
 a6 d (c.add 1) fun g h i=>
 Y (.tuple #[.agg #[.bool f,.slice g h i],.int .i64 2]) d) (aC.t Y a b c e))
def F.g(Y:K)(X:Fr)(Z:V):Prop:=bU (X 0) fun a=>bR a fun a b=>b9 a fun a=>bR b fun b c=>aG b fun b d e=>bC c <| bU (X 1) fun dV=>bR dV fun c f=>b9 c fun aT=>bR f fun c f=>aG c fun c h i=>bC f <| F.t Y a b d e aT c h i Z
theorem F.ok(Y:K)(X:Fr)(Z:V)(g:F.g Y X Z):den prog E r (aZ E [.cell 4 25,.tmp 5] Y) X Z:=by
 obtain⟨K6,a,b⟩:=eH g
 obtain⟨K7,K8,rfl,c⟩:=cH b
 obtain⟨d,rfl,e⟩:=dY c
 obtain⟨K9,La,rfl,f⟩:=cH e
 obtain⟨h,i,j,rfl,l⟩:=bQ f
 obtain⟨rfl,g⟩:=eD l
 obtain⟨dV,m,n⟩:=eH g
 obtain⟨Lb,Lc,rfl,t⟩:=cH n
 obtain⟨aT,rfl,v⟩:=dY t
 obtain⟨Ld,Le,rfl,D⟩:=cH v
 obtain⟨G,H,P,rfl,K5⟩:=bQ D
 obtain⟨rfl,g⟩:=eD K5
 exact cT 2 (s:=(aS r [W,W])) (by kernel_rfl) (aC.ok Y) (bO [(0,.agg #[.bool d,.slice h i j]),(1,.agg #[.bool aT,.slice G H P])] ⟨a,m,trivial⟩ (by kernel_rfl) g)
def t(a:Bool)(b:U)(c d:Nat)(aT:Bool)(e:U)(f g:Nat)(Z:V)(Y:K):Prop:=F.t Y a b c d aT e f g Z
theorem ok{a:Bool}{b:U}{c:Nat}{d:Nat}{aT:Bool}{e:U}{f:Nat}{h:Nat}{Z:V}{Y:K}(g:t a b c d aT e f h Z Y):aF id #[.agg #[.bool a,.slice b c d],.agg #[.bool aT,.slice e f h]] Z Y:=
 c7 c8 (L:=r) (cY:=[.cell 4 25,.tmp 5]) Tryz.func43 (by kernel_rfl) (by kernel_rfl) (by kernel_rfl) (args:=[.agg #[.bool a,.slice b c d],.agg #[.bool aT,.slice e f h]]) (by kernel_rfl) (F.ok Y _ Z (bZ rfl (aM (aO rfl (aM (k rfl (bP (bZ rfl (aM (aO rfl (aM (k rfl (bP (g))))))))))))))
end n0
namespace oM
noncomputable def r:Code:=c6 Tryz.f44
def F.t(Y:K)(a:Bool)(b:U)(c d:Nat)(aQ:Int)(Z:V):Prop:=
 b4 Z 25 [.bool a,.slice b c d] fun a b=>
 b4 b 25 fL.aK fun b c=>
 cond (decide (aQ < 0)) (aW c (b.add 0) (.bool false) fun d=>
 aW d (b.add 1) (.slice none 0 0) fun d=>
 bB d (b.add 0) fun e=>
 a6 d (b.add 1) fun f g h=>
 Y (.tuple #[.agg #[.bool e,.slice f g h],.int .i64 1]) d) (bB c (a.add 0) fun d=>
 a6 c (a.add 1) fun e f g=>
 aF eQ.id #[.agg #[.bool d,.slice e f g]] c fun c d=>
 b9 c fun c=>
 cond (!c) (aW d (b.add 0) (.bool false) fun c=>
 aW c (b.add 1) (.slice none 0 0) fun c=>
 bB c (b.add 0) fun e=>
 a6 c (b.add 1) fun f g h=>
 Y (.tuple #[.agg #[.bool e,.slice f g h],.int .i64 2]) c) (a6 d (a.add 1) fun c e f=>
 aF lI.id #[.slice c e f,.int .i64 aQ] d fun c d=>
 c0 c fun c=>
 b6 c fun c e f g=>
 dG g .i64 fun g h=>
 bC h <| bB d (a.add 0) fun a=>
 aF jF.id #[.bool a,.slice c e f,.int .i64 g] d fun a c=>
 c0 a fun a=>
 bR a fun a d=>
 bU a fun a=>
 cF a fun a e=>
 b6 e fun e f g h=>
 bC h <| dG d .i64 fun d h=>
 bC h <| aW c (b.add 0) (.bool a) fun a=>
 aW a (b.add 1) (.slice e f g) fun a=>
 bB a (b.add 0) fun c=>
 a6 a (b.add 1) fun b e f=>
 Y (.tuple #[.agg #[.bool c,.slice b e f],.int .i64 d]) a))
def F.g(Y:K)(X:Fr)(Z:V):Prop:=bU (X 0) fun a=>bR a fun a b=>b9 a fun a=>bR b fun b c=>aG b fun b d e=>bC c <| aV .i64 (X 1) fun aQ=>F.t Y a b d e aQ Z
theorem F.ok(Y:K)(X:Fr)(Z:V)(g:F.g Y X Z):den prog E r (aZ E [.cell 4 25,.tmp 5] Y) X Z:=by
 obtain⟨n,a,b⟩:=eH g
 obtain⟨t,v,rfl,c⟩:=cH b
 obtain⟨d,rfl,e⟩:=dY c
 obtain⟨D,G,rfl,f⟩:=cH e
 obtain⟨h,i,j,rfl,l⟩:=bQ f
 obtain⟨rfl,g⟩:=eD l
 obtain⟨aQ,m,g⟩:=bS g
 exact bO [(0,.agg #[.bool d,.slice h i j]),(1,.int .i64 aQ)] ⟨a,m,trivial⟩ (by kernel_rfl) g
def t(a:Bool)(b:U)(c d:Nat)(aQ:Int)(Z:V)(Y:K):Prop:=F.t Y a b c d aQ Z
theorem ok{a:Bool}{b:U}{c:Nat}{d:Nat}{aQ:Int}{Z:V}{Y:K}(g:t a b c d aQ Z Y):aF id #[.agg #[.bool a,.slice b c d],.int .i64 aQ] Z Y:=
 c7 c8 (L:=r) (cY:=[.cell 4 25,.tmp 5]) Tryz.func44 (by kernel_rfl) (by kernel_rfl) (by kernel_rfl) (args:=[.agg #[.bool a,.slice b c d],.int .i64 aQ]) (by kernel_rfl) (F.ok Y _ Z (bZ rfl (aM (aO rfl (aM (k rfl (bP (bI rfl (g)))))))))
end oM
namespace rC
noncomputable def r:Code:=c6 Tryz.f45
def F.t(Y:K)(a:Bool)(b:U)(c d:Nat)(aQ:Int)(Z:V):Prop:=
 b4 Z 25 [.bool a,.slice b c d] fun a b=>
 b4 b 25 fL.aK fun b c=>
 bB c (a.add 0) fun d=>
 a6 c (a.add 1) fun a e f=>
 aF kS.id #[.int .i64 0,.agg #[.bool d,.slice a e f],.int .i64 aQ] c fun a c=>
 c0 a fun a=>
 bR a fun a d=>
 bU a fun a=>
 cF a fun a e=>
 b6 e fun e f g h=>
 bC h <| dG d .i64 fun d h=>
 bC h <| aW c (b.add 0) (.bool a) fun a=>
 aW a (b.add 1) (.slice e f g) fun a=>
 bB a (b.add 0) fun c=>
 a6 a (b.add 1) fun b e f=>
 Y (.tuple #[.agg #[.bool c,.slice b e f],.int .i64 d]) a
def F.g(Y:K)(X:Fr)(Z:V):Prop:=bU (X 0) fun a=>bR a fun a b=>b9 a fun a=>bR b fun b c=>aG b fun b d e=>bC c <| aV .i64 (X 1) fun aQ=>F.t Y a b d e aQ Z
theorem F.ok(Y:K)(X:Fr)(Z:V)(g:F.g Y X Z):den prog E r (aZ E [.cell 4 25,.tmp 5] Y) X Z:=by
 obtain⟨n,a,b⟩:=eH g
 obtain⟨t,v,rfl,c⟩:=cH b
 obtain⟨d,rfl,e⟩:=dY c
 obtain⟨D,G,rfl,f⟩:=cH e
 obtain⟨h,i,j,rfl,l⟩:=bQ f
 obtain⟨rfl,g⟩:=eD l
 obtain⟨aQ,m,g⟩:=bS g
 exact bO [(0,.agg #[.bool d,.slice h i j]),(1,.int .i64 aQ)] ⟨a,m,trivial⟩ (by kernel_rfl) g
def t(a:Bool)(b:U)(c d:Nat)(aQ:Int)(Z:V)(Y:K):Prop:=F.t Y a b c d aQ Z
theorem ok{a:Bool}{b:U}{c:Nat}{d:Nat}{aQ:Int}{Z:V}{Y:K}(g:t a b c d aQ Z Y):aF id #[.agg #[.bool a,.slice b c d],.int .i64 aQ] Z Y:=
 c7 c8 (L:=r) (cY:=[.cell 4 25,.tmp 5]) Tryz.func45 (by kernel_rfl) (by kernel_rfl) (by kernel_rfl) (args:=[.agg #[.bool a,.slice b c d],.int .i64 aQ]) (by kernel_rfl) (F.ok Y _ Z (bZ rfl (aM (aO rfl (aM (k rfl (bP (bI rfl (g)))))))))
end rC
namespace rD
noncomputable def r:Code:=c6 Tryz.f46
def F.t(Y:K)(a:Bool)(b:U)(c d:Nat)(aQ:Int)(Z:V):Prop:=
 b4 Z 25 [.bool a,.slice b c d] fun a b=>
 b4 b 25 fL.aK fun b c=>
 bB c (a.add 0) fun d=>
 a6 c (a.add 1) fun a e f=>
 aF kS.id #[.int .i64 1,.agg #[.bool d,.slice a e f],.int .i64 aQ] c fun a c=>
 c0 a fun a=>
 bR a fun a d=>
 bU a fun a=>
 cF a fun a e=>
 b6 e fun e f g h=>
 bC h <| dG d .i64 fun d h=>
 bC h <| aW c (b.add 0) (.bool a) fun a=>
 aW a (b.add 1) (.slice e f g) fun a=>
 bB a (b.add 0) fun c=>
 a6 a (b.add 1) fun b e f=>
 Y (.tuple #[.agg #[.bool c,.slice b e f],.int .i64 d]) a
def F.g(Y:K)(X:Fr)(Z:V):Prop:=bU (X 0) fun a=>bR a fun a b=>b9 a fun a=>bR b fun b c=>aG b fun b d e=>bC c <| aV .i64 (X 1) fun aQ=>F.t Y a b d e aQ Z
theorem F.ok(Y:K)(X:Fr)(Z:V)(g:F.g Y X Z):den prog E r (aZ E [.cell 4 25,.tmp 5] Y) X Z:=by
 obtain⟨n,a,b⟩:=eH g
 obtain⟨t,v,rfl,c⟩:=cH b
 obtain⟨d,rfl,e⟩:=dY c
 obtain⟨D,G,rfl,f⟩:=cH e
 obtain⟨h,i,j,rfl,l⟩:=bQ f
 obtain⟨rfl,g⟩:=eD l
 obtain⟨aQ,m,g⟩:=bS g
 exact bO [(0,.agg #[.bool d,.slice h i j]),(1,.int .i64 aQ)] ⟨a,m,trivial⟩ (by kernel_rfl) g
def t(a:Bool)(b:U)(c d:Nat)(aQ:Int)(Z:V)(Y:K):Prop:=F.t Y a b c d aQ Z
theorem ok{a:Bool}{b:U}{c:Nat}{d:Nat}{aQ:Int}{Z:V}{Y:K}(g:t a b c d aQ Z Y):aF id #[.agg #[.bool a,.slice b c d],.int .i64 aQ] Z Y:=
 c7 c8 (L:=r) (cY:=[.cell 4 25,.tmp 5]) Tryz.func46 (by kernel_rfl) (by kernel_rfl) (by kernel_rfl) (args:=[.agg #[.bool a,.slice b c d],.int .i64 aQ]) (by kernel_rfl) (F.ok Y _ Z (bZ rfl (aM (aO rfl (aM (k rfl (bP (bI rfl (g)))))))))
end rD
namespace rE
noncomputable def r:Code:=c6 Tryz.f47
def F.t(Y:K)(a:Bool)(b:U)(c d:Nat)(aQ:Int)(Z:V):Prop:=
 b4 Z 25 [.bool a,.slice b c d] fun a b=>
 b4 b 25 fL.aK fun b c=>
 bB c (a.add 0) fun d=>
 a6 c (a.add 1) fun a e f=>
 aF kS.id #[.int .i64 2,.agg #[.bool d,.slice a e f],.int .i64 aQ] c fun a c=>
 c0 a fun a=>
 bR a fun a d=>
 bU a fun a=>
 cF a fun a e=>
 b6 e fun e f g h=>
 bC h <| dG d .i64 fun d h=>
 bC h <| aW c (b.add 0) (.bool a) fun a=>
 aW a (b.add 1) (.slice e f g) fun a=>
 bB a (b.add 0) fun c=>
 a6 a (b.add 1) fun b e f=>
 Y (.tuple #[.agg #[.bool c,.slice b e f],.int .i64 d]) a
def F.g(Y:K)(X:Fr)(Z:V):Prop:=bU (X 0) fun a=>bR a fun a b=>b9 a fun a=>bR b fun b c=>aG b fun b d e=>bC c <| aV .i64 (X 1) fun aQ=>F.t Y a b d e aQ Z
theorem F.ok(Y:K)(X:Fr)(Z:V)(g:F.g Y X Z):den prog E r (aZ E [.cell 4 25,.tmp 5] Y) X Z:=by
 obtain⟨n,a,b⟩:=eH g
 obtain⟨t,v,rfl,c⟩:=cH b
 obtain⟨d,rfl,e⟩:=dY c
 obtain⟨D,G,rfl,f⟩:=cH e
 obtain⟨h,i,j,rfl,l⟩:=bQ f
 obtain⟨rfl,g⟩:=eD l
 obtain⟨aQ,m,g⟩:=bS g
 exact bO [(0,.agg #[.bool d,.slice h i j]),(1,.int .i64 aQ)] ⟨a,m,trivial⟩ (by kernel_rfl) g
def t(a:Bool)(b:U)(c d:Nat)(aQ:Int)(Z:V)(Y:K):Prop:=F.t Y a b c d aQ Z
theorem ok{a:Bool}{b:U}{c:Nat}{d:Nat}{aQ:Int}{Z:V}{Y:K}(g:t a b c d aQ Z Y):aF id #[.agg #[.bool a,.slice b c d],.int .i64 aQ] Z Y:=
 c7 c8 (L:=r) (cY:=[.cell 4 25,.tmp 5]) Tryz.func47 (by kernel_rfl) (by kernel_rfl) (by kernel_rfl) (args:=[.agg #[.bool a,.slice b c d],.int .i64 aQ]) (by kernel_rfl) (F.ok Y _ Z (bZ rfl (aM (aO rfl (aM (k rfl (bP (bI rfl (g)))))))))
end rE
namespace rF
noncomputable def r:Code:=c6 Tryz.f48
def F.t(Y:K)(a:Bool)(b:U)(c d:Nat)(aT:Bool)(e:U)(f g:Nat)(Z:V):Prop:=
 b4 Z 25 [.bool a,.slice b c d] fun a b=>
 b4 b 25 [.bool aT,.slice e f g] fun b c=>
 b4 c 25 fL.aK fun c d=>
 bB d (a.add 0) fun e=>
 a6 d (a.add 1) fun a f g=>
 bB d (b.add 0) fun h=>
 a6 d (b.add 1) fun b i j=>
 aF lK.id #[.int .i64 0,.agg #[.bool e,.slice a f g],.agg #[.bool h,.slice b i j]] d fun a b=>
 c0 a fun a=>
 bR a fun a d=>
 bU a fun a=>
 cF a fun a e=>
 b6 e fun e f g h=>
 bC h <| dG d .i64 fun d h=>
 bC h <| aW b (c.add 0) (.bool a) fun a=>
 aW a (c.add 1) (.slice e f g) fun a=>
 bB a (c.add 0) fun b=>
 a6 a (c.add 1) fun c e f=>
 Y (.tuple #[.agg #[.bool b,.slice c e f],.int .i64 d]) a
def F.g(Y:K)(X:Fr)(Z:V):Prop:=bU (X 0) fun a=>bR a fun a b=>b9 a fun a=>bR b fun b c=>aG b fun b d e=>bC c <| bU (X 1) fun dV=>bR dV fun c f=>b9 c fun aT=>bR f fun c f=>aG c fun c h i=>bC f <| F.t Y a b d e aT c h i Z
theorem F.ok(Y:K)(X:Fr)(Z:V)(g:F.g Y X Z):den prog E r (aZ E [.cell 4 25,.tmp 5] Y) X Z:=by
 obtain⟨K6,a,b⟩:=eH g
 obtain⟨K7,K8,rfl,c⟩:=cH b
 obtain⟨d,rfl,e⟩:=dY c
 obtain⟨K9,La,rfl,f⟩:=cH e
 obtain⟨h,i,j,rfl,l⟩:=bQ f
 obtain⟨rfl,g⟩:=eD l
 obtain⟨dV,m,n⟩:=eH g
 obtain⟨Lb,Lc,rfl,t⟩:=cH n
 obtain⟨aT,rfl,v⟩:=dY t
 obtain⟨Ld,Le,rfl,D⟩:=cH v
 obtain⟨G,H,P,rfl,K5⟩:=bQ D
 obtain⟨rfl,g⟩:=eD K5
 exact bO [(0,.agg #[.bool d,.slice h i j]),(1,.agg #[.bool aT,.slice G H P])] ⟨a,m,trivial⟩ (by kernel_rfl) g
def t(a:Bool)(b:U)(c d:Nat)(aT:Bool)(e:U)(f g:Nat)(Z:V)(Y:K):Prop:=F.t Y a b c d aT e f g Z
theorem ok{a:Bool}{b:U}{c:Nat}{d:Nat}{aT:Bool}{e:U}{f:Nat}{h:Nat}{Z:V}{Y:K}(g:t a b c d aT e f h Z Y):aF id #[.agg #[.bool a,.slice b c d],.agg #[.bool aT,.slice e f h]] Z Y:=
 c7 c8 (L:=r) (cY:=[.cell 4 25,.tmp 5]) Tryz.func48 (by kernel_rfl) (by kernel_rfl) (by kernel_rfl) (args:=[.agg #[.bool a,.slice b c d],.agg #[.bool aT,.slice e f h]]) (by kernel_rfl) (F.ok Y _ Z (bZ rfl (aM (aO rfl (aM (k rfl (bP (bZ rfl (aM (aO rfl (aM (k rfl (bP (g))))))))))))))
end rF
namespace rG
noncomputable def r:Code:=c6 Tryz.f49
def F.t(Y:K)(a:Bool)(b:U)(c d:Nat)(aT:Bool)(e:U)(f g:Nat)(Z:V):Prop:=
 b4 Z 25 [.bool a,.slice b c d] fun a b=>
 b4 b 25 [.bool aT,.slice e f g] fun b c=>
 b4 c 25 fL.aK fun c d=>
 bB d (a.add 0) fun e=>
 a6 d (a.add 1) fun a f g=>
 bB d (b.add 0) fun h=>
 a6 d (b.add 1) fun b i j=>
 aF lK.id #[.int .i64 1,.agg #[.bool e,.slice a f g],.agg #[.bool h,.slice b i j]] d fun a b=>
 c0 a fun a=>
 bR a fun a d=>
 bU a fun a=>
 cF a fun a e=>
 b6 e fun e f g h=>
 bC h <| dG d .i64 fun d h=>
 bC h <| aW b (c.add 0) (.bool a) fun a=>
 aW a (c.add 1) (.slice e f g) fun a=>
 bB a (c.add 0) fun b=>
 a6 a (c.add 1) fun c e f=>
 Y (.tuple #[.agg #[.bool b,.slice c e f],.int .i64 d]) a
def F.g(Y:K)(X:Fr)(Z:V):Prop:=bU (X 0) fun a=>bR a fun a b=>b9 a fun a=>bR b fun b c=>aG b fun b d e=>bC c <| bU (X 1) fun dV=>bR dV fun c f=>b9 c fun aT=>bR f fun c f=>aG c fun c h i=>bC f <| F.t Y a b d e aT c h i Z
theorem F.ok(Y:K)(X:Fr)(Z:V)(g:F.g Y X Z):den prog E r (aZ E [.cell 4 25,.tmp 5] Y) X Z:=by
 obtain⟨K6,a,b⟩:=eH g
 obtain⟨K7,K8,rfl,c⟩:=cH b
 obtain⟨d,rfl,e⟩:=dY c
 obtain⟨K9,La,rfl,f⟩:=cH e
 obtain⟨h,i,j,rfl,l⟩:=bQ f
 obtain⟨rfl,g⟩:=eD l
 obtain⟨dV,m,n⟩:=eH g
 obtain⟨Lb,Lc,rfl,t⟩:=cH n
 obtain⟨aT,rfl,v⟩:=dY t
 obtain⟨Ld,Le,rfl,D⟩:=cH v
 obtain⟨G,H,P,rfl,K5⟩:=bQ D
 obtain⟨rfl,g⟩:=eD K5
 exact bO [(0,.agg #[.bool d,.slice h i j]),(1,.agg #[.bool aT,.slice G H P])] ⟨a,m,trivial⟩ (by kernel_rfl) g
def t(a:Bool)(b:U)(c d:Nat)(aT:Bool)(e:U)(f g:Nat)(Z:V)(Y:K):Prop:=F.t Y a b c d aT e f g Z
theorem ok{a:Bool}{b:U}{c:Nat}{d:Nat}{aT:Bool}{e:U}{f:Nat}{h:Nat}{Z:V}{Y:K}(g:t a b c d aT e f h Z Y):aF id #[.agg #[.bool a,.slice b c d],.agg #[.bool aT,.slice e f h]] Z Y:=
 c7 c8 (L:=r) (cY:=[.cell 4 25,.tmp 5]) Tryz.func49 (by kernel_rfl) (by kernel_rfl) (by kernel_rfl) (args:=[.agg #[.bool a,.slice b c d],.agg #[.bool aT,.slice e f h]]) (by kernel_rfl) (F.ok Y _ Z (bZ rfl (aM (aO rfl (aM (k rfl (bP (bZ rfl (aM (aO rfl (aM (k rfl (bP (g))))))))))))))
end rG
namespace rH
noncomputable def r:Code:=c6 Tryz.f50
def F.t(Y:K)(a:Bool)(b:U)(c d:Nat)(aT:Bool)(e:U)(f g:Nat)(Z:V):Prop:=
 b4 Z 25 [.bool a,.slice b c d] fun a b=>
 b4 b 25 [.bool aT,.slice e f g] fun b c=>
 b4 c 25 fL.aK fun c d=>
 bB d (a.add 0) fun e=>
 a6 d (a.add 1) fun a f g=>
 bB d (b.add 0) fun h=>
 a6 d (b.add 1) fun b i j=>
 aF lK.id #[.int .i64 2,.agg #[.bool e,.slice a f g],.agg #[.bool h,.slice b i j]] d fun a b=>
 c0 a fun a=>
 bR a fun a d=>
 bU a fun a=>
 cF a fun a e=>
 b6 e fun e f g h=>
 bC h <| dG d .i64 fun d h=>
 bC h <| aW b (c.add 0) (.bool a) fun a=>
 aW a (c.add 1) (.slice e f g) fun a=>
 bB a (c.add 0) fun b=>
 a6 a (c.add 1) fun c e f=>
 Y (.tuple #[.agg #[.bool b,.slice c e f],.int .i64 d]) a
def F.g(Y:K)(X:Fr)(Z:V):Prop:=bU (X 0) fun a=>bR a fun a b=>b9 a fun a=>bR b fun b c=>aG b fun b d e=>bC c <| bU (X 1) fun dV=>bR dV fun c f=>b9 c fun aT=>bR f fun c f=>aG c fun c h i=>bC f <| F.t Y a b d e aT c h i Z
theorem F.ok(Y:K)(X:Fr)(Z:V)(g:F.g Y X Z):den prog E r (aZ E [.cell 4 25,.tmp 5] Y) X Z:=by
 obtain⟨K6,a,b⟩:=eH g
 obtain⟨K7,K8,rfl,c⟩:=cH b
 obtain⟨d,rfl,e⟩:=dY c
 obtain⟨K9,La,rfl,f⟩:=cH e
 obtain⟨h,i,j,rfl,l⟩:=bQ f
 obtain⟨rfl,g⟩:=eD l
 obtain⟨dV,m,n⟩:=eH g
 obtain⟨Lb,Lc,rfl,t⟩:=cH n
 obtain⟨aT,rfl,v⟩:=dY t
 obtain⟨Ld,Le,rfl,D⟩:=cH v
 obtain⟨G,H,P,rfl,K5⟩:=bQ D
 obtain⟨rfl,g⟩:=eD K5
 exact bO [(0,.agg #[.bool d,.slice h i j]),(1,.agg #[.bool aT,.slice G H P])] ⟨a,m,trivial⟩ (by kernel_rfl) g
def t(a:Bool)(b:U)(c d:Nat)(aT:Bool)(e:U)(f g:Nat)(Z:V)(Y:K):Prop:=F.t Y a b c d aT e f g Z
theorem ok{a:Bool}{b:U}{c:Nat}{d:Nat}{aT:Bool}{e:U}{f:Nat}{h:Nat}{Z:V}{Y:K}(g:t a b c d aT e f h Z Y):aF id #[.agg #[.bool a,.slice b c d],.agg #[.bool aT,.slice e f h]] Z Y:=
 c7 c8 (L:=r) (cY:=[.cell 4 25,.tmp 5]) Tryz.func50 (by kernel_rfl) (by kernel_rfl) (by kernel_rfl) (args:=[.agg #[.bool a,.slice b c d],.agg #[.bool aT,.slice e f h]]) (by kernel_rfl) (F.ok Y _ Z (bZ rfl (aM (aO rfl (aM (k rfl (bP (bZ rfl (aM (aO rfl (aM (k rfl (bP (g))))))))))))))
end rH
namespace mN
noncomputable def r:Code:=c6 Tryz.f51
def a7.t(Y:K)(a b:Addr)(c:U)(d e:Nat)(f:Int)(Z:V):Prop:=
 bB Z (a.add 0) fun a=>
 aF jF.id #[.bool a,.slice c d e,.int .i64 f] Z fun a c=>
 c0 a fun a=>
 bR a fun a d=>
 bU a fun a=>
 cF a fun a e=>
 b6 e fun e f g h=>
 bC h <| dG d .i64 fun d h=>
 bC h <| aW c (b.add 0) (.bool a) fun a=>
 aW a (b.add 1) (.slice e f g) fun a=>
 bB a (b.add 0) fun c=>
 a6 a (b.add 1) fun b e f=>
 Y (.tuple #[.agg #[.bool c,.slice b e f],.int .i64 d]) a
def a7.g(Y:K)(X:Fr)(Z:V):Prop:=cJ (X 3) fun a=>cJ (X 4) fun b=>aG (X 7) fun c d e=>aV .i64 (X 8) fun f=>a7.t Y a b c d e f Z
theorem a7.ok(Y:K)(X:Fr)(Z:V)(g:a7.g Y X Z):den prog E (aS r [W,W,W,W,W,W]) (aZ E [.cell 4 25,.tmp 5] Y) X Z:=
 cX g fun a b g=>cX g fun c d g=>a8 g fun e f h i g=>bM g fun j l g=>bO [(3,.pointer (some a)),(4,.pointer (some c)),(7,.slice e f h),(8,.int .i64 j)] ⟨b,d,i,l,trivial⟩ (by kernel_rfl) g
def aC.t(Y:K)(a b c:Addr)(Z:V):Prop:=
 a6 Z (b.add 1) fun d d e=>
 cond ((((d:Nat):Int)) == 0) (aW Z (c.add 0) (.bool false) fun d=>
 aW d (c.add 1) (.slice none 0 0) fun d=>
 bB d (c.add 0) fun e=>
 a6 d (c.add 1) fun f g h=>
 Y (.tuple #[.agg #[.bool e,.slice f g h],.int .i64 4]) d) (a6 Z (a.add 1) fun d e f=>
 a6 Z (b.add 1) fun g h i=>
 aF m9.id #[.slice d e f,.slice g h i] Z fun d e=>
 c0 d fun d=>
 b6 d fun d d d d=>
 b6 d fun d f g h=>
 dG h .i64 fun h i=>
 bC i <| cond (h != 0) (aW e (c.add 0) (.bool false) fun i=>
 aW i (c.add 1) (.slice none 0 0) fun i=>
 bB i (c.add 0) fun j=>
 a6 i (c.add 1) fun l m n=>
 Y (.tuple #[.agg #[.bool j,.slice l m n],.int .i64 h]) i) (bB e (a.add 0) fun a=>
 bB e (b.add 0) fun i=>
 cond (!(a == i)) (cond (decide ((((f:Nat):Int)) > 0)) (a6 e (b.add 1) fun a i j=>
 aF jS.id #[.slice a i j,.slice d f g] e fun a i=>
 c0 a fun a=>
 b6 a fun a j l m=>
 dG m .i64 fun m n=>
 bC n <| a7.t Y b c a j l m i) (a7.t Y b c d f g h e)) (a7.t Y b c d f g h e)))
def aC.g(Y:K)(X:Fr)(Z:V):Prop:=cJ (X 2) fun a=>cJ (X 3) fun b=>cJ (X 4) fun c=>aC.t Y a b c Z
theorem aC.ok(Y:K)(X:Fr)(Z:V)(g:aC.g Y X Z):den prog E (aS r [W,W]) (aZ E [.cell 4 25,.tmp 5] Y) X Z:=
 cX g fun a b g=>cX g fun c d g=>cX g fun e f g=>cT 4 (s:=(aS r [W,W,W,W,W,W])) (by kernel_rfl) (a7.ok Y) (bO [(2,.pointer (some a)),(3,.pointer (some c)),(4,.pointer (some e))] ⟨b,d,f,trivial⟩ (by kernel_rfl) g)
def F.t(Y:K)(a:Bool)(b:U)(c d:Nat)(aT:Bool)(e:U)(f g:Nat)(Z:V):Prop:=
 b4 Z 25 [.bool a,.slice b c d] fun a b=>
 b4 b 25 [.bool aT,.slice e f g] fun b c=>
 b4 c 25 fL.aK fun c d=>
 bB d (a.add 0) fun e=>
 a6 d (a.add 1) fun f g h=>
 aF eQ.id #[.agg #[.bool e,.slice f g h]] d fun d e=>
 b9 d fun d=>
 cond (!d) (aW e (c.add 0) (.bool false) fun d=>
 aW d (c.add 1) (.slice none 0 0) fun d=>
 bB d (c.add 0) fun f=>
 a6 d (c.add 1) fun g h i=>
 Y (.tuple #[.agg #[.bool f,.slice g h i],.int .i64 2]) d) (bB e (b.add 0) fun d=>
 a6 e (b.add 1) fun f g h=>
 aF eQ.id #[.agg #[.bool d,.slice f g h]] e fun d e=>
 b9 d fun d=>
 cond (!d) (aW e (c.add 0) (.bool false) fun d=>
 aW d (c.add 1) (.slice none 0 0) fun d=>
 bB d (c.add 0) fun f=>
 a6 d (c.add 1) fun g h i=>
 Y (.tuple #[.agg #[.bool f,.slice g h i],.int .i64 2]) d) (aC.t Y a b c e))
def F.g(Y:K)(X:Fr)(Z:V):Prop:=bU (X 0) fun a=>bR a fun a b=>b9 a fun a=>bR b fun b c=>aG b fun b d e=>bC c <| bU (X 1) fun dV=>bR dV fun c f=>b9 c fun aT=>bR f fun c f=>aG c fun c h i=>bC f <| F.t Y a b d e aT c h i Z
theorem F.ok(Y:K)(X:Fr)(Z:V)(g:F.g Y X Z):den prog E r (aZ E [.cell 4 25,.tmp 5] Y) X Z:=by
 obtain⟨K6,a,b⟩:=eH g
 obtain⟨K7,K8,rfl,c⟩:=cH b
 obtain⟨d,rfl,e⟩:=dY c
 obtain⟨K9,La,rfl,f⟩:=cH e
 obtain⟨h,i,j,rfl,l⟩:=bQ f
 obtain⟨rfl,g⟩:=eD l
 obtain⟨dV,m,n⟩:=eH g
 obtain⟨Lb,Lc,rfl,t⟩:=cH n
 obtain⟨aT,rfl,v⟩:=dY t
 obtain⟨Ld,Le,rfl,D⟩:=cH v
 obtain⟨G,H,P,rfl,K5⟩:=bQ D
 obtain⟨rfl,g⟩:=eD K5
 exact cT 2 (s:=(aS r [W,W])) (by kernel_rfl) (aC.ok Y) (bO [(0,.agg #[.bool d,.slice h i j]),(1,.agg #[.bool aT,.slice G H P])] ⟨a,m,trivial⟩ (by kernel_rfl) g)
def t(a:Bool)(b:U)(c d:Nat)(aT:Bool)(e:U)(f g:Nat)(Z:V)(Y:K):Prop:=F.t Y a b c d aT e f g Z
theorem ok{a:Bool}{b:U}{c:Nat}{d:Nat}{aT:Bool}{e:U}{f:Nat}{h:Nat}{Z:V}{Y:K}(g:t a b c d aT e f h Z Y):aF id #[.agg #[.bool a,.slice b c d],.agg #[.bool aT,.slice e f h]] Z Y:=
 c7 c8 (L:=r) (cY:=[.cell 4 25,.tmp 5]) Tryz.func51 (by kernel_rfl) (by kernel_rfl) (by kernel_rfl) (args:=[.agg #[.bool a,.slice b c d],.agg #[.bool aT,.slice e f h]]) (by kernel_rfl) (F.ok Y _ Z (bZ rfl (aM (aO rfl (aM (k rfl (bP (bZ rfl (aM (aO rfl (aM (k rfl (bP (g))))))))))))))
end mN
namespace qE
noncomputable def r:Code:=c6 Tryz.f52
def F.t(Y:K)(S:U)(a R:Nat)(Z:V):Prop:=
 h8 Z 27 j9 (((a:Nat):Int)) (((a:Nat):Int)) fun b c=>
 mW c 1 (some b) ((((a:Nat):Int)).toNat) (.slice S a R) fun c c=>
 Y (.slice (some b) ((((a:Nat):Int)).toNat) ((((a:Nat):Int)).toNat)) c
def F.g(Y:K)(X:Fr)(Z:V):Prop:=aG (X 0) fun S a R=>F.t Y S a R Z
theorem F.ok(Y:K)(X:Fr)(Z:V)(g:F.g Y X Z):den prog E r (aZ E [.tmp 2] Y) X Z:=
 a8 g fun S a R b g=>bO [(0,.slice S a R)] ⟨b,trivial⟩ (by kernel_rfl) g
def t(S:U)(a R:Nat)(Z:V)(Y:K):Prop:=F.t Y S a R Z
theorem ok{S:U}{a:Nat}{R:Nat}{Z:V}{Y:K}(g:t S a R Z Y):aF id #[.slice S a R] Z Y:=
 c7 c8 (L:=r) (cY:=[.tmp 2]) Tryz.func52 (by kernel_rfl) (by kernel_rfl) (by kernel_rfl) (args:=[.slice S a R]) (by kernel_rfl) (F.ok Y _ Z (k rfl (g)))
end qE
namespace pD
noncomputable def r:Code:=c6 Tryz.f53
def aC.t(Y:K)(Z:V):Prop:=
 Y (.bool true) Z
def aC.g(Y:K)(X:Fr)(Z:V):Prop:=aC.t Y  Z
theorem aC.ok(Y:K)(X:Fr)(Z:V)(g:aC.g Y X Z):den prog E (aS r [W,W,W]) (aZ E [.tmp 4] Y) X Z:=
 bO [] trivial (by kernel_rfl) g
def bG.g(bN:U→Nat→Nat→U→Nat→Nat→Int→V→Prop)(X:Fr)(Z:V):Prop:=aG (X 0) fun S a R=>aG (X 1) fun b y c=>aV .i64 (X 5) fun d=>bN S a R b y c d Z
def b0.t(Y:K)(a:U→Nat→Nat→U→Nat→Nat→Int→V→Prop)(S:U)(b R:Nat)(c:U)(y d:Nat)(e:Int)(Z:V):Prop:=
 cond (decide (e < (((b:Nat):Int)))) (cL S b e 1 fun f=>
 cI Z .u64 f fun f=>
 cL c y e 1 fun g=>
 cI Z .u64 g fun g=>
 cond (f != g) (Y (.bool false) Z) (a2 (IntKind.i64.wrap (e+1)) fun e=>
 a S b R c y d e Z)) (aC.t Y Z)
def b0.g(Y:K)(a:U→Nat→Nat→U→Nat→Nat→Int→V→Prop)(X:Fr)(Z:V):Prop:=aG (X 0) fun S b R=>aG (X 1) fun c y d=>aV .i64 (X 5) fun e=>b0.t Y a S b R c y d e Z
theorem b0.ok(Y:K)(a:U→Nat→Nat→U→Nat→Nat→Int→V→Prop)(X:Fr)(Z:V)(g:b0.g Y a X Z):den prog E (aS r [W,W,x,W,x,x]) (aH.then (bG.g a) (aH.inBlock 0 (aH.then (aC.g Y) (aZ E [.tmp 4] Y)))) X Z:=
 a8 g fun S a R b g=>a8 g fun c y d e g=>bM g fun f h g=>bO [(0,.slice S a R),(1,.slice c y d),(5,.int .i64 f)] ⟨b,e,h,trivial⟩ (by kernel_rfl) g
def bG.t(Y:K):Nat→U→Nat→Nat→U→Nat→Nat→Int→V→Prop
 | 0=>fun _ _ _ _ _ _ _ _=>False
 | n+1=>fun S a R b y c d Z=>b0.t Y (bG.t Y n) S a R b y c d Z
theorem bG.ok(Y:K)(X:Fr)(Z:V)(g:bG.g (fun S a R b y c d Z=>∃ n,bG.t Y n S a R b y c d Z) X Z):den prog E (aS r [W,W,x,W,x]) (aH.inBlock 0 (aH.then (aC.g Y) (aZ E [.tmp 4] Y))) X Z:=by
 obtain⟨S,a,R,e,g⟩:=bQ g
 obtain⟨b,y,c,f,g⟩:=bQ g
 obtain⟨d,h,g⟩:=bS g
 obtain⟨n,g⟩:=g
 refine e1 (fun n=>bG.g (bG.t Y n)) (N:=(aS r [W,W,x,W,x,x])) (by kernel_rfl) (fun X Z g=>?_) (fun n=>b0.ok Y (bG.t Y n)) n X Z (k e (k f (bI h (g))))
 obtain⟨S,a,R,e,g⟩:=bQ g
 obtain⟨b,y,c,f,g⟩:=bQ g
 obtain⟨d,h,g⟩:=bS g
 exact g
theorem eP.ok(Y:K)(X:Fr)(Z:V)(g:bG.g (fun S a R b y c d Z=>∃ n,bG.t Y n S a R b y c d Z) X Z):den prog E (aS r [W,W,x,W]) (aH.then (aC.g Y) (aZ E [.tmp 4] Y)) X Z:=
 eR (by kernel_rfl) (bG.ok Y X Z g)
def a7.t(Y:K)(S:U)(a R:Nat)(b:U)(y c:Nat)(Z:V):Prop:=
 (∃ n,bG.t Y n S a R b y c 0 Z)
def a7.g(Y:K)(X:Fr)(Z:V):Prop:=aG (X 0) fun S a R=>aG (X 1) fun b y c=>a7.t Y S a R b y c Z
theorem a7.ok(Y:K)(X:Fr)(Z:V)(g:a7.g Y X Z):den prog E (aS r [W,W,x]) (aH.then (aC.g Y) (aZ E [.tmp 4] Y)) X Z:=
 a8 g fun S a R b g=>a8 g fun c y d e g=>cT 1 (s:=(aS r [W,W,x,W])) (by kernel_rfl) (eP.ok Y) (bO [(0,.slice S a R),(1,.slice c y d)] ⟨b,e,trivial⟩ (by kernel_rfl) g)
theorem gV.ok(Y:K)(X:Fr)(Z:V)(g:a7.g Y X Z):den prog E (aS r [W,W]) (aZ E [.tmp 4] Y) X Z:=
 e5 (by kernel_rfl) (aC.ok Y) (a7.ok Y X Z g)
def F.t(Y:K)(S:U)(a R:Nat)(b:U)(y c:Nat)(Z:V):Prop:=
 cond ((((a:Nat):Int)) != (((y:Nat):Int))) (Y (.bool false) Z) (a7.t Y S a R b y c Z)
def F.g(Y:K)(X:Fr)(Z:V):Prop:=aG (X 0) fun S a R=>aG (X 1) fun b y c=>F.t Y S a R b y c Z
theorem F.ok(Y:K)(X:Fr)(Z:V)(g:F.g Y X Z):den prog E r (aZ E [.tmp 4] Y) X Z:=
 a8 g fun S a R b g=>a8 g fun c y d e g=>cT 2 (s:=(aS r [W,W])) (by kernel_rfl) (gV.ok Y) (bO [(0,.slice S a R),(1,.slice c y d)] ⟨b,e,trivial⟩ (by kernel_rfl) g)
def t(S:U)(a R:Nat)(b:U)(y c:Nat)(Z:V)(Y:K):Prop:=F.t Y S a R b y c Z
theorem ok{S:U}{a:Nat}{R:Nat}{b:U}{y:Nat}{c:Nat}{Z:V}{Y:K}(g:t S a R b y c Z Y):aF id #[.slice S a R,.slice b y c] Z Y:=
 c7 c8 (L:=r) (cY:=[.tmp 4]) Tryz.func53 (by kernel_rfl) (by kernel_rfl) (by kernel_rfl) (args:=[.slice S a R,.slice b y c]) (by kernel_rfl) (F.ok Y _ Z (k rfl (k rfl (g))))
end pD
namespace iW
noncomputable def r:Code:=c6 Tryz.f54
def F.t(Y:K)(a:Bool)(b:U)(c d:Nat)(Z:V):Prop:=
 b4 Z 25 [.bool a,.slice b c d] fun a b=>
 a6 b (a.add 1) fun c d e=>
 aF qG.id #[.slice c d e] b fun b c=>
 b9 b fun b=>
 cond b (bB c (a.add 0) fun b=>
 cond b (a6 c (a.add 1) fun a a b=>
 Y (.bool (!((((a:Nat):Int)) == 0))) c) (Y (.bool (!false)) c)) (Y (.bool false) c)
def F.g(Y:K)(X:Fr)(Z:V):Prop:=bU (X 0) fun a=>bR a fun a b=>b9 a fun a=>bR b fun b c=>aG b fun b d e=>bC c <| F.t Y a b d e Z
theorem F.ok(Y:K)(X:Fr)(Z:V)(g:F.g Y X Z):den prog E r (aZ E [.tmp 2] Y) X Z:=by
 obtain⟨m,a,b⟩:=eH g
 obtain⟨n,t,rfl,c⟩:=cH b
 obtain⟨d,rfl,e⟩:=dY c
 obtain⟨v,D,rfl,f⟩:=cH e
 obtain⟨h,i,j,rfl,l⟩:=bQ f
 obtain⟨rfl,g⟩:=eD l
 exact bO [(0,.agg #[.bool d,.slice h i j])] ⟨a,trivial⟩ (by kernel_rfl) g
def t(a:Bool)(b:U)(c d:Nat)(Z:V)(Y:K):Prop:=F.t Y a b c d Z
theorem ok{a:Bool}{b:U}{c:Nat}{d:Nat}{Z:V}{Y:K}(g:t a b c d Z Y):aF id #[.agg #[.bool a,.slice b c d]] Z Y:=
 c7 c8 (L:=r) (cY:=[.tmp 2]) Tryz.func54 (by kernel_rfl) (by kernel_rfl) (by kernel_rfl) (args:=[.agg #[.bool a,.slice b c d]]) (by kernel_rfl) (F.ok Y _ Z (bZ rfl (aM (aO rfl (aM (k rfl (bP (g))))))))
end iW
namespace oV
noncomputable def r:Code:=c6 Tryz.f55
def F.t(Y:K)(a:Bool)(b:U)(c d:Nat)(Z:V):Prop:=
 b4 Z 25 [.bool a,.slice b c d] fun a b=>
 bB b (a.add 0) fun c=>
 a6 b (a.add 1) fun a d e=>
 aF fN.id #[.agg #[.bool c,.slice a d e]] b fun a b=>
 bU a fun a=>
 cF a fun a c=>
 b6 c fun c d e f=>
 bC f <| aF jV.id #[.agg #[.bool a,.slice c d e]] b fun a b=>
 aV .i64 a fun a=>
 Y (.int .i64 a) b
def F.g(Y:K)(X:Fr)(Z:V):Prop:=bU (X 0) fun a=>bR a fun a b=>b9 a fun a=>bR b fun b c=>aG b fun b d e=>bC c <| F.t Y a b d e Z
theorem F.ok(Y:K)(X:Fr)(Z:V)(g:F.g Y X Z):den prog E r (aZ E [.tmp 2] Y) X Z:=by
 obtain⟨m,a,b⟩:=eH g
 obtain⟨n,t,rfl,c⟩:=cH b
 obtain⟨d,rfl,e⟩:=dY c
 obtain⟨v,D,rfl,f⟩:=cH e
 obtain⟨h,i,j,rfl,l⟩:=bQ f
 obtain⟨rfl,g⟩:=eD l
 exact bO [(0,.agg #[.bool d,.slice h i j])] ⟨a,trivial⟩ (by kernel_rfl) g
def t(a:Bool)(b:U)(c d:Nat)(Z:V)(Y:K):Prop:=F.t Y a b c d Z
theorem ok{a:Bool}{b:U}{c:Nat}{d:Nat}{Z:V}{Y:K}(g:t a b c d Z Y):aF id #[.agg #[.bool a,.slice b c d]] Z Y:=
 c7 c8 (L:=r) (cY:=[.tmp 2]) Tryz.func55 (by kernel_rfl) (by kernel_rfl) (by kernel_rfl) (args:=[.agg #[.bool a,.slice b c d]]) (by kernel_rfl) (F.ok Y _ Z (bZ rfl (aM (aO rfl (aM (k rfl (bP (g))))))))
end oV
namespace oU
noncomputable def r:Code:=c6 Tryz.f56
def F.t(Y:K)(a:Bool)(b:U)(c d:Nat)(Z:V):Prop:=
 b4 Z 25 [.bool a,.slice b c d] fun a b=>
 bB b (a.add 0) fun c=>
 a6 b (a.add 1) fun d e f=>
 aF iW.id #[.agg #[.bool c,.slice d e f]] b fun b c=>
 b9 b fun b=>
 cond (!b) (Y (.tuple #[.int .i64 0,.int .i64 2]) c) (bB c (a.add 0) fun b=>
 a6 c (a.add 1) fun a d e=>
 aF fN.id #[.agg #[.bool b,.slice a d e]] c fun a b=>
 bU a fun a=>
 cF a fun a c=>
 b6 c fun c d e f=>
 bC f <| aF n1.id #[.agg #[.bool a,.slice c d e]] b fun a b=>
 c0 a fun a=>
 dG a .i64 fun a c=>
 cF c fun c d=>
 bC d <| cond (!c) (Y (.tuple #[.int .i64 0,.int .i64 5]) b) (Y (.tuple #[.int .i64 a,.int .i64 0]) b))
def F.g(Y:K)(X:Fr)(Z:V):Prop:=bU (X 0) fun a=>bR a fun a b=>b9 a fun a=>bR b fun b c=>aG b fun b d e=>bC c <| F.t Y a b d e Z
theorem F.ok(Y:K)(X:Fr)(Z:V)(g:F.g Y X Z):den prog E r (aZ E [.tmp 2,.tmp 3] Y) X Z:=by
 obtain⟨m,a,b⟩:=eH g
 obtain⟨n,t,rfl,c⟩:=cH b
 obtain⟨d,rfl,e⟩:=dY c
 obtain⟨v,D,rfl,f⟩:=cH e
 obtain⟨h,i,j,rfl,l⟩:=bQ f
 obtain⟨rfl,g⟩:=eD l
 exact bO [(0,.agg #[.bool d,.slice h i j])] ⟨a,trivial⟩ (by kernel_rfl) g
def t(a:Bool)(b:U)(c d:Nat)(Z:V)(Y:K):Prop:=F.t Y a b c d Z
theorem ok{a:Bool}{b:U}{c:Nat}{d:Nat}{Z:V}{Y:K}(g:t a b c d Z Y):aF id #[.agg #[.bool a,.slice b c d]] Z Y:=
 c7 c8 (L:=r) (cY:=[.tmp 2,.tmp 3]) Tryz.func56 (by kernel_rfl) (by kernel_rfl) (by kernel_rfl) (args:=[.agg #[.bool a,.slice b c d]]) (by kernel_rfl) (F.ok Y _ Z (bZ rfl (aM (aO rfl (aM (k rfl (bP (g))))))))
end oU
namespace nC
noncomputable def r:Code:=c6 Tryz.f57
def a7.t(Y:K)(a b:Addr)(Z:V):Prop:=
 a6 Z (a.add 1) fun a c d=>
 a6 Z (b.add 1) fun b e f=>
 aF hL.id #[.slice a c d,.slice b e f] Z fun a b=>
 aV .i64 a fun a=>
 Y (.tuple #[.int .i64 a,.int .i64 0]) b
def a7.g(Y:K)(X:Fr)(Z:V):Prop:=cJ (X 2) fun a=>cJ (X 3) fun b=>a7.t Y a b Z
theorem a7.ok(Y:K)(X:Fr)(Z:V)(g:a7.g Y X Z):den prog E (aS r [W,W,W]) (aZ E [.tmp 4,.tmp 5] Y) X Z:=
 cX g fun a b g=>cX g fun c d g=>bO [(2,.pointer (some a)),(3,.pointer (some c))] ⟨b,d,trivial⟩ (by kernel_rfl) g
def aC.t(Y:K)(a b:Addr)(Z:V):Prop:=
 bB Z (a.add 0) fun c=>
 cond c (bB Z (b.add 0) fun c=>
 cond (!c) (Y (.tuple #[.int .i64 (-1),.int .i64 0]) Z) (bB Z (a.add 0) fun c=>
 cond (!c) (bB Z (b.add 0) fun c=>
 cond c (Y (.tuple #[.int .i64 1,.int .i64 0]) Z) (bB Z (a.add 0) fun c=>
 cond c (a6 Z (b.add 1) fun c d e=>
 a6 Z (a.add 1) fun f g h=>
 aF hL.id #[.slice c d e,.slice f g h] Z fun c d=>
 aV .i64 c fun c=>
 Y (.tuple #[.int .i64 c,.int .i64 0]) d) (a7.t Y a b Z))) (bB Z (a.add 0) fun c=>
 cond c (a6 Z (b.add 1) fun c d e=>
 a6 Z (a.add 1) fun f g h=>
 aF hL.id #[.slice c d e,.slice f g h] Z fun c d=>
 aV .i64 c fun c=>
 Y (.tuple #[.int .i64 c,.int .i64 0]) d) (a7.t Y a b Z)))) (bB Z (a.add 0) fun c=>
 cond (!c) (bB Z (b.add 0) fun c=>
 cond c (Y (.tuple #[.int .i64 1,.int .i64 0]) Z) (bB Z (a.add 0) fun c=>
 cond c (a6 Z (b.add 1) fun c d e=>
 a6 Z (a.add 1) fun f g h=>
 aF hL.id #[.slice c d e,.slice f g h] Z fun c d=>
 aV .i64 c fun c=>
 Y (.tuple #[.int .i64 c,.int .i64 0]) d) (a7.t Y a b Z))) (bB Z (a.add 0) fun c=>
 cond c (a6 Z (b.add 1) fun c d e=>
 a6 Z (a.add 1) fun f g h=>
 aF hL.id #[.slice c d e,.slice f g h] Z fun c d=>
 aV .i64 c fun c=>
 Y (.tuple #[.int .i64 c,.int .i64 0]) d) (a7.t Y a b Z)))
def aC.g(Y:K)(X:Fr)(Z:V):Prop:=cJ (X 2) fun a=>cJ (X 3) fun b=>aC.t Y a b Z
theorem aC.ok(Y:K)(X:Fr)(Z:V)(g:aC.g Y X Z):den prog E (aS r [W,W]) (aZ E [.tmp 4,.tmp 5] Y) X Z:=
 cX g fun a b g=>cX g fun c d g=>cT 1 (s:=(aS r [W,W,W])) (by kernel_rfl) (a7.ok Y) (bO [(2,.pointer (some a)),(3,.pointer (some c))] ⟨b,d,trivial⟩ (by kernel_rfl) g)
def F.t(Y:K)(a:Bool)(b:U)(c d:Nat)(aT:Bool)(e:U)(f g:Nat)(Z:V):Prop:=
 b4 Z 25 [.bool a,.slice b c d] fun a b=>
 b4 b 25 [.bool aT,.slice e f g] fun b c=>
 bB c (a.add 0) fun d=>
 a6 c (a.add 1) fun e f g=>
 aF eQ.id #[.agg #[.bool d,.slice e f g]] c fun c d=>
 b9 c fun c=>
 cond (!c) (Y (.tuple #[.int .i64 0,.int .i64 2]) d) (bB d (b.add 0) fun c=>
 a6 d (b.add 1) fun e f g=>
 aF eQ.id #[.agg #[.bool c,.slice e f g]] d fun c d=>
 b9 c fun c=>
 cond (!c) (Y (.tuple #[.int .i64 0,.int .i64 2]) d) (aC.t Y a b d))
def F.g(Y:K)(X:Fr)(Z:V):Prop:=bU (X 0) fun a=>bR a fun a b=>b9 a fun a=>bR b fun b c=>aG b fun b d e=>bC c <| bU (X 1) fun dV=>bR dV fun c f=>b9 c fun aT=>bR f fun c f=>aG c fun c h i=>bC f <| F.t Y a b d e aT c h i Z
theorem F.ok(Y:K)(X:Fr)(Z:V)(g:F.g Y X Z):den prog E r (aZ E [.tmp 4,.tmp 5] Y) X Z:=by
 obtain⟨K6,a,b⟩:=eH g
 obtain⟨K7,K8,rfl,c⟩:=cH b
 obtain⟨d,rfl,e⟩:=dY c
 obtain⟨K9,La,rfl,f⟩:=cH e
 obtain⟨h,i,j,rfl,l⟩:=bQ f
 obtain⟨rfl,g⟩:=eD l
 obtain⟨dV,m,n⟩:=eH g
 obtain⟨Lb,Lc,rfl,t⟩:=cH n
 obtain⟨aT,rfl,v⟩:=dY t
 obtain⟨Ld,Le,rfl,D⟩:=cH v
 obtain⟨G,H,P,rfl,K5⟩:=bQ D
 obtain⟨rfl,g⟩:=eD K5
 exact cT 2 (s:=(aS r [W,W])) (by kernel_rfl) (aC.ok Y) (bO [(0,.agg #[.bool d,.slice h i j]),(1,.agg #[.bool aT,.slice G H P])] ⟨a,m,trivial⟩ (by kernel_rfl) g)
def t(a:Bool)(b:U)(c d:Nat)(aT:Bool)(e:U)(f g:Nat)(Z:V)(Y:K):Prop:=F.t Y a b c d aT e f g Z
theorem ok{a:Bool}{b:U}{c:Nat}{d:Nat}{aT:Bool}{e:U}{f:Nat}{h:Nat}{Z:V}{Y:K}(g:t a b c d aT e f h Z Y):aF id #[.agg #[.bool a,.slice b c d],.agg #[.bool aT,.slice e f h]] Z Y:=
 c7 c8 (L:=r) (cY:=[.tmp 4,.tmp 5]) Tryz.func57 (by kernel_rfl) (by kernel_rfl) (by kernel_rfl) (args:=[.agg #[.bool a,.slice b c d],.agg #[.bool aT,.slice e f h]]) (by kernel_rfl) (F.ok Y _ Z (bZ rfl (aM (aO rfl (aM (k rfl (bP (bZ rfl (aM (aO rfl (aM (k rfl (bP (g))))))))))))))
end nC
namespace n3
noncomputable def r:Code:=c6 Tryz.f58
def aC.t(Y:K)(a b:Addr)(Z:V):Prop:=
 a.block < Z.size∧bB Z (a.add 0) fun c=>
 a6 Z (a.add 1) fun a d e=>
 aF fN.id #[.agg #[.bool c,.slice a d e]] Z fun a c=>
 bU a fun a=>
 cF a fun a d=>
 b6 d fun d e f g=>
 bC g <| (cG Z.size Z c)∧b.block < Z.size∧bB c (b.add 0) fun g=>
 a6 c (b.add 1) fun b h i=>
 aF fN.id #[.agg #[.bool g,.slice b h i]] c fun b g=>
 bU b fun b=>
 cF b fun b h=>
 b6 h fun h i j l=>
 bC l <| (cG Z.size c g)∧aF nH.id #[.agg #[.bool a,.slice d e f],.agg #[.bool b,.slice h i j]] g fun a b=>
 aV .i64 a fun a=>
 (cG Z.size g b)∧Y (.tuple #[.int .i64 a,.int .i64 0]) b
def aC.g(Y:K)(X:Fr)(Z:V):Prop:=cJ (X 2) fun a=>cJ (X 3) fun b=>aC.t Y a b Z
theorem aC.ok(Y:K)(X:Fr)(Z:V)(g:aC.g Y X Z):den prog E (aS r [W,W]) (aZ E [.tmp 4,.tmp 5] Y) X Z:=
 cX g fun a b g=>cX g fun c d g=>bO [(2,.pointer (some a)),(3,.pointer (some c))] ⟨b,d,trivial⟩ (by kernel_rfl) g
def F.t(Y:K)(a:Bool)(b:U)(c d:Nat)(aT:Bool)(e:U)(f g:Nat)(Z:V):Prop:=
 b4 Z 25 [.bool a,.slice b c d] fun a b=>
 b4 b 25 [.bool aT,.slice e f g] fun b c=>
 bB c (a.add 0) fun d=>
 a6 c (a.add 1) fun e f g=>
 aF iW.id #[.agg #[.bool d,.slice e f g]] c fun c d=>
 b9 c fun c=>
 cond (!c) (Y (.tuple #[.int .i64 0,.int .i64 2]) d) (bB d (b.add 0) fun c=>
 a6 d (b.add 1) fun e f g=>
 aF iW.id #[.agg #[.bool c,.slice e f g]] d fun c d=>
 b9 c fun c=>
 cond (!c) (Y (.tuple #[.int .i64 0,.int .i64 2]) d) (aC.t Y a b d))
def F.g(Y:K)(X:Fr)(Z:V):Prop:=bU (X 0) fun a=>bR a fun a b=>b9 a fun a=>bR b fun b c=>aG b fun b d e=>bC c <| bU (X 1) fun dV=>bR dV fun c f=>b9 c fun aT=>bR f fun c f=>aG c fun c h i=>bC f <| F.t Y a b d e aT c h i Z
theorem F.ok(Y:K)(X:Fr)(Z:V)(g:F.g Y X Z):den prog E r (aZ E [.tmp 4,.tmp 5] Y) X Z:=by
 obtain⟨K6,a,b⟩:=eH g
 obtain⟨K7,K8,rfl,c⟩:=cH b
 obtain⟨d,rfl,e⟩:=dY c
 obtain⟨K9,La,rfl,f⟩:=cH e
 obtain⟨h,i,j,rfl,l⟩:=bQ f
 obtain⟨rfl,g⟩:=eD l
 obtain⟨dV,m,n⟩:=eH g
 obtain⟨Lb,Lc,rfl,t⟩:=cH n
 obtain⟨aT,rfl,v⟩:=dY t
 obtain⟨Ld,Le,rfl,D⟩:=cH v
 obtain⟨G,H,P,rfl,K5⟩:=bQ D
 obtain⟨rfl,g⟩:=eD K5
 exact cT 2 (s:=(aS r [W,W])) (by kernel_rfl) (aC.ok Y) (bO [(0,.agg #[.bool d,.slice h i j]),(1,.agg #[.bool aT,.slice G H P])] ⟨a,m,trivial⟩ (by kernel_rfl) g)
def t(a:Bool)(b:U)(c d:Nat)(aT:Bool)(e:U)(f g:Nat)(Z:V)(Y:K):Prop:=F.t Y a b c d aT e f g Z
theorem ok{a:Bool}{b:U}{c:Nat}{d:Nat}{aT:Bool}{e:U}{f:Nat}{h:Nat}{Z:V}{Y:K}(g:t a b c d aT e f h Z Y):aF id #[.agg #[.bool a,.slice b c d],.agg #[.bool aT,.slice e f h]] Z Y:=
 c7 c8 (L:=r) (cY:=[.tmp 4,.tmp 5]) Tryz.func58 (by kernel_rfl) (by kernel_rfl) (by kernel_rfl) (args:=[.agg #[.bool a,.slice b c d],.agg #[.bool aT,.slice e f h]]) (by kernel_rfl) (F.ok Y _ Z (bZ rfl (aM (aO rfl (aM (k rfl (bP (bZ rfl (aM (aO rfl (aM (k rfl (bP (g))))))))))))))
end n3
namespace g5
noncomputable def r:Code:=c6 Tryz.f59
def aC.t(Y:K)(S:U)(a R:Nat)(b:Int)(Z:V):Prop:=
 h8 Z 82 hW b b fun c d=>
 h7 1 S a R none (some (.int .i64 b)) none fun a e f=>
 mW d 1 (some c) b.toNat (.slice a e f) fun a a=>
 Y (.slice (some c) b.toNat b.toNat) a
def aC.g(Y:K)(X:Fr)(Z:V):Prop:=aG (X 0) fun S a R=>aV .i64 (X 3) fun b=>aC.t Y S a R b Z
theorem aC.ok(Y:K)(X:Fr)(Z:V)(g:aC.g Y X Z):den prog E (aS r [W,W,W]) (aZ E [.tmp 2] Y) X Z:=
 a8 g fun S a R b g=>bM g fun c d g=>bO [(0,.slice S a R),(3,.int .i64 c)] ⟨b,d,trivial⟩ (by kernel_rfl) g
def cZ.g(bN:U→Nat→Nat→Int→V→Prop)(X:Fr)(Z:V):Prop:=aG (X 0) fun S a R=>aV .i64 (X 3) fun b=>bN S a R b Z
def cA.t(Y:K)(a:U→Nat→Nat→Int→V→Prop)(S:U)(b R:Nat)(c:Int)(Z:V):Prop:=
 cond (decide (c > 0)) (a2 (IntKind.i64.wrap (c - 1)) fun d=>
 cL S b d 1 fun d=>
 cI Z .u32 d fun d=>
 cond (d == 0) (a2 (IntKind.i64.wrap (c - 1)) fun d=>
 a S b R d Z) (aC.t Y S b R c Z)) (aC.t Y S b R c Z)
def cA.g(Y:K)(a:U→Nat→Nat→Int→V→Prop)(X:Fr)(Z:V):Prop:=aG (X 0) fun S b R=>aV .i64 (X 3) fun c=>cA.t Y a S b R c Z
theorem cA.ok(Y:K)(a:U→Nat→Nat→Int→V→Prop)(X:Fr)(Z:V)(g:cA.g Y a X Z):den prog E (aS r [W,W,x,x,x]) (aH.then (cZ.g a) (aH.inBlock 0 (aH.then (aC.g Y) (aZ E [.tmp 2] Y)))) X Z:=
 a8 g fun S a R b g=>bM g fun c d g=>bO [(0,.slice S a R),(3,.int .i64 c)] ⟨b,d,trivial⟩ (by kernel_rfl) g
def cZ.t(Y:K):Nat→U→Nat→Nat→Int→V→Prop
 | 0=>fun _ _ _ _ _=>False
 | n+1=>fun S a R b Z=>cA.t Y (cZ.t Y n) S a R b Z
theorem cZ.ok(Y:K)(X:Fr)(Z:V)(g:cZ.g (fun S a R b Z=>∃ n,cZ.t Y n S a R b Z) X Z):den prog E (aS r [W,W,x,x]) (aH.inBlock 0 (aH.then (aC.g Y) (aZ E [.tmp 2] Y))) X Z:=by
 obtain⟨S,a,R,c,g⟩:=bQ g
 obtain⟨b,d,g⟩:=bS g
 obtain⟨n,g⟩:=g
 refine e1 (fun n=>cZ.g (cZ.t Y n)) (N:=(aS r [W,W,x,x,x])) (by kernel_rfl) (fun X Z g=>?_) (fun n=>cA.ok Y (cZ.t Y n)) n X Z (k c (bI d (g)))
 obtain⟨S,a,R,c,g⟩:=bQ g
 obtain⟨b,d,g⟩:=bS g
 exact g
theorem gT.ok(Y:K)(X:Fr)(Z:V)(g:cZ.g (fun S a R b Z=>∃ n,cZ.t Y n S a R b Z) X Z):den prog E (aS r [W,W,x]) (aH.then (aC.g Y) (aZ E [.tmp 2] Y)) X Z:=
 eR (by kernel_rfl) (cZ.ok Y X Z g)
theorem uI.ok(Y:K)(X:Fr)(Z:V)(g:cZ.g (fun S a R b Z=>∃ n,cZ.t Y n S a R b Z) X Z):den prog E (aS r [W,W]) (aZ E [.tmp 2] Y) X Z:=
 e5 (by kernel_rfl) (aC.ok Y) (gT.ok Y X Z g)
def F.t(Y:K)(S:U)(a R:Nat)(Z:V):Prop:=
 (∃ n,cZ.t Y n S a R (((a:Nat):Int)) Z)
def F.g(Y:K)(X:Fr)(Z:V):Prop:=aG (X 0) fun S a R=>F.t Y S a R Z
theorem F.ok(Y:K)(X:Fr)(Z:V)(g:F.g Y X Z):den prog E r (aZ E [.tmp 2] Y) X Z:=
 a8 g fun S a R b g=>cT 2 (s:=(aS r [W,W])) (by kernel_rfl) (uI.ok Y) (bO [(0,.slice S a R)] ⟨b,trivial⟩ (by kernel_rfl) g)
def t(S:U)(a R:Nat)(Z:V)(Y:K):Prop:=F.t Y S a R Z
theorem ok{S:U}{a:Nat}{R:Nat}{Z:V}{Y:K}(g:t S a R Z Y):aF id #[.slice S a R] Z Y:=
 c7 c8 (L:=r) (cY:=[.tmp 2]) Tryz.func59 (by kernel_rfl) (by kernel_rfl) (by kernel_rfl) (args:=[.slice S a R]) (by kernel_rfl) (F.ok Y _ Z (k rfl (g)))
end g5
namespace pC
noncomputable def r:Code:=c6 Tryz.f61
def F.t(Y:K)(S:U)(a R:Nat)(Z:V):Prop:=
 aF mG.id #[.slice S a R] Z fun a b=>
 aG a fun a c d=>
 cond (decide ((((c:Nat):Int)) > 8192)) (Y (.tuple #[.slice none 0 0,.int .i64 5]) b) (Y (.tuple #[.slice a c d,.int .i64 0]) b)
def F.g(Y:K)(X:Fr)(Z:V):Prop:=aG (X 0) fun S a R=>F.t Y S a R Z
theorem F.ok(Y:K)(X:Fr)(Z:V)(g:F.g Y X Z):den prog E r (aZ E [.tmp 2,.tmp 3] Y) X Z:=
 a8 g fun S a R b g=>bO [(0,.slice S a R)] ⟨b,trivial⟩ (by kernel_rfl) g
def t(S:U)(a R:Nat)(Z:V)(Y:K):Prop:=F.t Y S a R Z
theorem ok{S:U}{a:Nat}{R:Nat}{Z:V}{Y:K}(g:t S a R Z Y):aF id #[.slice S a R] Z Y:=
 c7 c8 (L:=r) (cY:=[.tmp 2,.tmp 3]) Tryz.func61 (by kernel_rfl) (by kernel_rfl) (by kernel_rfl) (args:=[.slice S a R]) (by kernel_rfl) (F.ok Y _ Z (k rfl (g)))
end pC
namespace mG
noncomputable def r:Code:=c6 Tryz.f62
def aC.t(Y:K)(S:U)(a R:Nat)(b:Int)(Z:V):Prop:=
 h7 1 S a R none (some (.int .i64 b)) none fun a b c=>Y (.slice a b c) Z
def aC.g(Y:K)(X:Fr)(Z:V):Prop:=aG (X 0) fun S a R=>aV .i64 (X 3) fun b=>aC.t Y S a R b Z
theorem aC.ok(Y:K)(X:Fr)(Z:V)(g:aC.g Y X Z):den prog E (aS r [W,W,W]) (aZ E [.tmp 2] Y) X Z:=
 a8 g fun S a R b g=>bM g fun c d g=>bO [(0,.slice S a R),(3,.int .i64 c)] ⟨b,d,trivial⟩ (by kernel_rfl) g
def cZ.g(bN:U→Nat→Nat→Int→V→Prop)(X:Fr)(Z:V):Prop:=aG (X 0) fun S a R=>aV .i64 (X 3) fun b=>bN S a R b Z
def cA.t(Y:K)(a:U→Nat→Nat→Int→V→Prop)(S:U)(b R:Nat)(c:Int)(Z:V):Prop:=
 cond (decide (c > 0)) (a2 (IntKind.i64.wrap (c - 1)) fun d=>
 cL S b d 1 fun d=>
 cI Z .u64 d fun d=>
 cond (d == 0) (a2 (IntKind.i64.wrap (c - 1)) fun d=>
 a S b R d Z) (aC.t Y S b R c Z)) (aC.t Y S b R c Z)
def cA.g(Y:K)(a:U→Nat→Nat→Int→V→Prop)(X:Fr)(Z:V):Prop:=aG (X 0) fun S b R=>aV .i64 (X 3) fun c=>cA.t Y a S b R c Z
theorem cA.ok(Y:K)(a:U→Nat→Nat→Int→V→Prop)(X:Fr)(Z:V)(g:cA.g Y a X Z):den prog E (aS r [W,W,x,x,x]) (aH.then (cZ.g a) (aH.inBlock 0 (aH.then (aC.g Y) (aZ E [.tmp 2] Y)))) X Z:=
 a8 g fun S a R b g=>bM g fun c d g=>bO [(0,.slice S a R),(3,.int .i64 c)] ⟨b,d,trivial⟩ (by kernel_rfl) g
def cZ.t(Y:K):Nat→U→Nat→Nat→Int→V→Prop
 | 0=>fun _ _ _ _ _=>False
 | n+1=>fun S a R b Z=>cA.t Y (cZ.t Y n) S a R b Z
theorem cZ.ok(Y:K)(X:Fr)(Z:V)(g:cZ.g (fun S a R b Z=>∃ n,cZ.t Y n S a R b Z) X Z):den prog E (aS r [W,W,x,x]) (aH.inBlock 0 (aH.then (aC.g Y) (aZ E [.tmp 2] Y))) X Z:=by
 obtain⟨S,a,R,c,g⟩:=bQ g
 obtain⟨b,d,g⟩:=bS g
 obtain⟨n,g⟩:=g
 refine e1 (fun n=>cZ.g (cZ.t Y n)) (N:=(aS r [W,W,x,x,x])) (by kernel_rfl) (fun X Z g=>?_) (fun n=>cA.ok Y (cZ.t Y n)) n X Z (k c (bI d (g)))
 obtain⟨S,a,R,c,g⟩:=bQ g
 obtain⟨b,d,g⟩:=bS g
 exact g
theorem gT.ok(Y:K)(X:Fr)(Z:V)(g:cZ.g (fun S a R b Z=>∃ n,cZ.t Y n S a R b Z) X Z):den prog E (aS r [W,W,x]) (aH.then (aC.g Y) (aZ E [.tmp 2] Y)) X Z:=
 eR (by kernel_rfl) (cZ.ok Y X Z g)
theorem uI.ok(Y:K)(X:Fr)(Z:V)(g:cZ.g (fun S a R b Z=>∃ n,cZ.t Y n S a R b Z) X Z):den prog E (aS r [W,W]) (aZ E [.tmp 2] Y) X Z:=
 e5 (by kernel_rfl) (aC.ok Y) (gT.ok Y X Z g)
def F.t(Y:K)(S:U)(a R:Nat)(Z:V):Prop:=
 (∃ n,cZ.t Y n S a R (((a:Nat):Int)) Z)
def F.g(Y:K)(X:Fr)(Z:V):Prop:=aG (X 0) fun S a R=>F.t Y S a R Z
theorem F.ok(Y:K)(X:Fr)(Z:V)(g:F.g Y X Z):den prog E r (aZ E [.tmp 2] Y) X Z:=
 a8 g fun S a R b g=>cT 2 (s:=(aS r [W,W])) (by kernel_rfl) (uI.ok Y) (bO [(0,.slice S a R)] ⟨b,trivial⟩ (by kernel_rfl) g)
def t(S:U)(a R:Nat)(Z:V)(Y:K):Prop:=F.t Y S a R Z
theorem ok{S:U}{a:Nat}{R:Nat}{Z:V}{Y:K}(g:t S a R Z Y):aF id #[.slice S a R] Z Y:=
 c7 c8 (L:=r) (cY:=[.tmp 2]) Tryz.func62 (by kernel_rfl) (by kernel_rfl) (by kernel_rfl) (args:=[.slice S a R]) (by kernel_rfl) (F.ok Y _ Z (k rfl (g)))
end mG
namespace tV
noncomputable def r:Code:=c6 Tryz.f64
def F.t(Y:K)(S:U)(a R:Nat)(Z:V):Prop:=
 cond (decide ((((a:Nat):Int)) > 8192)) (Y (.tuple #[.slice none 0 0,.int .i64 5]) Z) (Y (.tuple #[.slice S a R,.int .i64 0]) Z)
def F.g(Y:K)(X:Fr)(Z:V):Prop:=aG (X 0) fun S a R=>F.t Y S a R Z
theorem F.ok(Y:K)(X:Fr)(Z:V)(g:F.g Y X Z):den prog E r (aZ E [.tmp 2,.tmp 3] Y) X Z:=
 a8 g fun S a R b g=>bO [(0,.slice S a R)] ⟨b,trivial⟩ (by kernel_rfl) g
def t(S:U)(a R:Nat)(Z:V)(Y:K):Prop:=F.t Y S a R Z
theorem ok{S:U}{a:Nat}{R:Nat}{Z:V}{Y:K}(g:t S a R Z Y):aF id #[.slice S a R] Z Y:=
 c7 c8 (L:=r) (cY:=[.tmp 2,.tmp 3]) Tryz.func64 (by kernel_rfl) (by kernel_rfl) (by kernel_rfl) (args:=[.slice S a R]) (by kernel_rfl) (F.ok Y _ Z (k rfl (g)))
end tV
namespace oH
noncomputable def r:Code:=c6 Tryz.f65
def F.t(Y:K)(S:U)(a R:Nat)(b:U)(y c:Nat)(Z:V):Prop:=
 a2 (IntKind.i64.wrap ((((a:Nat):Int))+(((y:Nat):Int)))) fun d=>
 h8 Z 27 j9 d d fun e f=>
 aF q8.id #[.slice (some e) d.toNat d.toNat,.slice S a R,.slice b y c] f fun a b=>
 c0 a fun a=>
 bC a <| aF mK.id #[.slice (some e) d.toNat d.toNat] b fun a b=>
 aG a fun a c d=>
 Y (.slice a c d) b
def F.g(Y:K)(X:Fr)(Z:V):Prop:=aG (X 0) fun S a R=>aG (X 1) fun b y c=>F.t Y S a R b y c Z
theorem F.ok(Y:K)(X:Fr)(Z:V)(g:F.g Y X Z):den prog E r (aZ E [.tmp 4] Y) X Z:=
 a8 g fun S a R b g=>a8 g fun c y d e g=>bO [(0,.slice S a R),(1,.slice c y d)] ⟨b,e,trivial⟩ (by kernel_rfl) g
def t(S:U)(a R:Nat)(b:U)(y c:Nat)(Z:V)(Y:K):Prop:=F.t Y S a R b y c Z
theorem ok{S:U}{a:Nat}{R:Nat}{b:U}{y:Nat}{c:Nat}{Z:V}{Y:K}(g:t S a R b y c Z Y):aF id #[.slice S a R,.slice b y c] Z Y:=
 c7 c8 (L:=r) (cY:=[.tmp 4]) Tryz.func65 (by kernel_rfl) (by kernel_rfl) (by kernel_rfl) (args:=[.slice S a R,.slice b y c]) (by kernel_rfl) (F.ok Y _ Z (k rfl (k rfl (g))))
end oH
namespace m2
noncomputable def r:Code:=c6 Tryz.f66
def cA.t(Y:K)(a3 a:Int)(Z:V):Prop:=
 a2 (IntKind.u8.wrap a3) fun b=>
 vS (⟨#[0,1,2,2,3,3,3,3,4,4,4,4,4,4,4,4,5,5,5,5,5,5,5,5,5,5,5,5,5,5,5,5,6,6,6,6,6,6,6,6,6,6,6,6,6,6,6,6,6,6,6,6,6,6,6,6,6,6,6,6,6,6,6,6,7,7,7,7,7,7,7,7,7,7,7,7,7,7,7,7,7,7,7,7,7,7,7,7,7,7,7,7,7,7,7,7,7,7,7,7,7,7,7,7,7,7,7,7,7,7,7,7,7,7,7,7,7,7,7,7,7,7,7,7,7,7,7,7,8,8,8,8,8,8,8,8,8,8,8,8,8,8,8,8,8,8,8,8,8,8,8,8,8,8,8,8,8,8,8,8,8,8,8,8,8,8,8,8,8,8,8,8,8,8,8,8,8,8,8,8,8,8,8,8,8,8,8,8,8,8,8,8,8,8,8,8,8,8,8,8,8,8,8,8,8,8,8,8,8,8,8,8,8,8,8,8,8,8,8,8,8,8,8,8,8,8,8,8,8,8,8,8,8,8,8,8,8,8,8,8,8,8,8,8,8,8,8,8,8,8,8,8,8,8,8,8]⟩:ByteArray) b fun b=>
 a2 (IntKind.i64.wrap b) fun b=>
 a2 (IntKind.i64.wrap (a+b)) fun a=>
 Y (.int .i64 a) Z
def cA.g(Y:K)(X:Fr)(Z:V):Prop:=aV .u64 (X 0) fun a3=>aV .i64 (X 2) fun a=>cA.t Y a3 a Z
theorem cA.ok(Y:K)(X:Fr)(Z:V)(g:cA.g Y X Z):den prog E (aS r [W,W,W,W]) (aZ E [.tmp 2] Y) X Z:=
 bM g fun a3 a g=>bM g fun b c g=>bO [(0,.int .u64 a3),(2,.int .i64 b)] ⟨a,c,trivial⟩ (by kernel_rfl) g
def a7.t(Y:K)(a3 a:Int)(Z:V):Prop:=
 cond (decide (a3≥256)) (0≤(8:Int)∧a2 (gL .u64 a3 8) fun b=>
 a2 (IntKind.i64.wrap (a+8)) fun c=>
 cA.t Y b c Z) (cA.t Y a3 a Z)
def a7.g(Y:K)(X:Fr)(Z:V):Prop:=aV .u64 (X 0) fun a3=>aV .i64 (X 2) fun a=>a7.t Y a3 a Z
theorem a7.ok(Y:K)(X:Fr)(Z:V)(g:a7.g Y X Z):den prog E (aS r [W,W,W]) (aZ E [.tmp 2] Y) X Z:=
 bM g fun a3 a g=>bM g fun b c g=>cT 1 (s:=(aS r [W,W,W,W])) (by kernel_rfl) (cA.ok Y) (bO [(0,.int .u64 a3),(2,.int .i64 b)] ⟨a,c,trivial⟩ (by kernel_rfl) g)
def aC.t(Y:K)(a3 a:Int)(Z:V):Prop:=
 cond (decide (a3≥65536)) (0≤(16:Int)∧a2 (gL .u64 a3 16) fun b=>
 a2 (IntKind.i64.wrap (a+16)) fun c=>
 a7.t Y b c Z) (a7.t Y a3 a Z)
def aC.g(Y:K)(X:Fr)(Z:V):Prop:=aV .u64 (X 0) fun a3=>aV .i64 (X 2) fun a=>aC.t Y a3 a Z
theorem aC.ok(Y:K)(X:Fr)(Z:V)(g:aC.g Y X Z):den prog E (aS r [W,W]) (aZ E [.tmp 2] Y) X Z:=
 bM g fun a3 a g=>bM g fun b c g=>cT 1 (s:=(aS r [W,W,W])) (by kernel_rfl) (a7.ok Y) (bO [(0,.int .u64 a3),(2,.int .i64 b)] ⟨a,c,trivial⟩ (by kernel_rfl) g)
def F.t(Y:K)(a3:Int)(Z:V):Prop:=
 cond (decide (a3≥4294967296)) (0≤(32:Int)∧a2 (gL .u64 a3 32) fun a=>
 aC.t Y a 32 Z) (aC.t Y a3 0 Z)
def F.g(Y:K)(X:Fr)(Z:V):Prop:=aV .u64 (X 0) fun a3=>F.t Y a3 Z
theorem F.ok(Y:K)(X:Fr)(Z:V)(g:F.g Y X Z):den prog E r (aZ E [.tmp 2] Y) X Z:=
 bM g fun a3 a g=>cT 2 (s:=(aS r [W,W])) (by kernel_rfl) (aC.ok Y) (bO [(0,.int .u64 a3)] ⟨a,trivial⟩ (by kernel_rfl) g)
def t(a3:Int)(Z:V)(Y:K):Prop:=F.t Y a3 Z
theorem ok{a3:Int}{Z:V}{Y:K}(g:t a3 Z Y):aF id #[.int .u64 a3] Z Y:=
 c7 c8 (L:=r) (cY:=[.tmp 2]) Tryz.func66 (by kernel_rfl) (by kernel_rfl) (by kernel_rfl) (args:=[.int .u64 a3]) (by kernel_rfl) (F.ok Y _ Z (bI rfl (g)))
end m2
namespace gZ
noncomputable def r:Code:=c6 Tryz.f67
def F.t(Y:K)(a:Bool)(b:U)(c d:Nat)(Z:V):Prop:=
 b4 Z 37 [.bool a,.slice b c d] fun a b=>
 b4 b 25 fL.aK fun b c=>
 a6 c (a.add 1) fun d d e=>
 cond (decide ((((d:Nat):Int)) > 16384)) (aW c (b.add 0) (.bool false) fun d=>
 aW d (b.add 1) (.slice none 0 0) fun d=>
 bB d (b.add 0) fun e=>
 a6 d (b.add 1) fun f g h=>
 Y (.tuple #[.agg #[.bool e,.slice f g h],.int .i64 5]) d) (bB c (a.add 0) fun d=>
 a6 c (a.add 1) fun a e f=>
 aF nE.id #[.agg #[.bool d,.slice a e f]] c fun a c=>
 bU a fun a=>
 cF a fun a d=>
 b6 d fun d e f g=>
 bC g <| aW c (b.add 0) (.bool a) fun a=>
 aW a (b.add 1) (.slice d e f) fun a=>
 bB a (b.add 0) fun c=>
 a6 a (b.add 1) fun b d e=>
 Y (.tuple #[.agg #[.bool c,.slice b d e],.int .i64 0]) a)
def F.g(Y:K)(X:Fr)(Z:V):Prop:=bU (X 0) fun a=>bR a fun a b=>b9 a fun a=>bR b fun b c=>aG b fun b d e=>bC c <| F.t Y a b d e Z
theorem F.ok(Y:K)(X:Fr)(Z:V)(g:F.g Y X Z):den prog E r (aZ E [.cell 2 25,.tmp 3] Y) X Z:=by
 obtain⟨m,a,b⟩:=eH g
 obtain⟨n,t,rfl,c⟩:=cH b
 obtain⟨d,rfl,e⟩:=dY c
 obtain⟨v,D,rfl,f⟩:=cH e
 obtain⟨h,i,j,rfl,l⟩:=bQ f
 obtain⟨rfl,g⟩:=eD l
 exact bO [(0,.agg #[.bool d,.slice h i j])] ⟨a,trivial⟩ (by kernel_rfl) g
def t(a:Bool)(b:U)(c d:Nat)(Z:V)(Y:K):Prop:=F.t Y a b c d Z
theorem ok{a:Bool}{b:U}{c:Nat}{d:Nat}{Z:V}{Y:K}(g:t a b c d Z Y):aF id #[.agg #[.bool a,.slice b c d]] Z Y:=
 c7 c8 (L:=r) (cY:=[.cell 2 25,.tmp 3]) Tryz.func67 (by kernel_rfl) (by kernel_rfl) (by kernel_rfl) (args:=[.agg #[.bool a,.slice b c d]]) (by kernel_rfl) (F.ok Y _ Z (bZ rfl (aM (aO rfl (aM (k rfl (bP (g))))))))
end gZ
namespace h2
noncomputable def r:Code:=c6 Tryz.f68
def F.t(Y:K)(a:Bool)(b:U)(c d:Nat)(Z:V):Prop:=
 b4 Z 37 [.bool a,.slice b c d] fun a b=>
 b4 b 37 gB.aK fun b c=>
 bB c (a.add 0) fun d=>
 a6 c (a.add 1) fun a e f=>
 aF fK.id #[.bool (!d),.slice a e f] c fun a c=>
 bU a fun a=>
 cF a fun a d=>
 b6 d fun d e f g=>
 bC g <| aW c (b.add 0) (.bool a) fun a=>
 aW a (b.add 1) (.slice d e f) fun a=>
 bB a (b.add 0) fun c=>
 a6 a (b.add 1) fun b d e=>
 Y (.agg #[.bool c,.slice b d e]) a
def F.g(Y:K)(X:Fr)(Z:V):Prop:=bU (X 0) fun a=>bR a fun a b=>b9 a fun a=>bR b fun b c=>aG b fun b d e=>bC c <| F.t Y a b d e Z
theorem F.ok(Y:K)(X:Fr)(Z:V)(g:F.g Y X Z):den prog E r (aZ E [.cell 2 37] Y) X Z:=by
 obtain⟨m,a,b⟩:=eH g
 obtain⟨n,t,rfl,c⟩:=cH b
 obtain⟨d,rfl,e⟩:=dY c
 obtain⟨v,D,rfl,f⟩:=cH e
 obtain⟨h,i,j,rfl,l⟩:=bQ f
 obtain⟨rfl,g⟩:=eD l
 exact bO [(0,.agg #[.bool d,.slice h i j])] ⟨a,trivial⟩ (by kernel_rfl) g
def t(a:Bool)(b:U)(c d:Nat)(Z:V)(Y:K):Prop:=F.t Y a b c d Z
theorem ok{a:Bool}{b:U}{c:Nat}{d:Nat}{Z:V}{Y:K}(g:t a b c d Z Y):aF id #[.agg #[.bool a,.slice b c d]] Z Y:=
 c7 c8 (L:=r) (cY:=[.cell 2 37]) Tryz.func68 (by kernel_rfl) (by kernel_rfl) (by kernel_rfl) (args:=[.agg #[.bool a,.slice b c d]]) (by kernel_rfl) (F.ok Y _ Z (bZ rfl (aM (aO rfl (aM (k rfl (bP (g))))))))
end h2
namespace fN
noncomputable def r:Code:=c6 Tryz.f69
def F.t(Y:K)(a:Bool)(b:U)(c d:Nat)(Z:V):Prop:=
 b4 Z 25 [.bool a,.slice b c d] fun a b=>
 b4 b 37 gB.aK fun b c=>
 (a.add 0).block < c.size∧bB c (a.add 0) fun d=>
 (a.add 1).block < c.size∧a6 c (a.add 1) fun a e f=>
 aF lD.id #[.slice a e f] c fun a e=>
 aG a fun a f g=>
 (cG c.size c e)∧aF fK.id #[.bool d,.slice a f g] e fun a d=>
 bU a fun a=>
 cF a fun a f=>
 b6 f fun f g h i=>
 bC i <| (cG c.size e d)∧aW d (b.add 0) (.bool a) fun a=>
 aW a (b.add 1) (.slice f g h) fun a=>
 bB a (b.add 0) fun c=>
 a6 a (b.add 1) fun b d e=>
 Y (.agg #[.bool c,.slice b d e]) a
def F.g(Y:K)(X:Fr)(Z:V):Prop:=bU (X 0) fun a=>bR a fun a b=>b9 a fun a=>bR b fun b c=>aG b fun b d e=>bC c <| F.t Y a b d e Z
theorem F.ok(Y:K)(X:Fr)(Z:V)(g:F.g Y X Z):den prog E r (aZ E [.cell 2 37] Y) X Z:=by
 obtain⟨m,a,b⟩:=eH g
 obtain⟨n,t,rfl,c⟩:=cH b
 obtain⟨d,rfl,e⟩:=dY c
 obtain⟨v,D,rfl,f⟩:=cH e
 obtain⟨h,i,j,rfl,l⟩:=bQ f
 obtain⟨rfl,g⟩:=eD l
 exact bO [(0,.agg #[.bool d,.slice h i j])] ⟨a,trivial⟩ (by kernel_rfl) g
def t(a:Bool)(b:U)(c d:Nat)(Z:V)(Y:K):Prop:=F.t Y a b c d Z
theorem ok{a:Bool}{b:U}{c:Nat}{d:Nat}{Z:V}{Y:K}(g:t a b c d Z Y):aF id #[.agg #[.bool a,.slice b c d]] Z Y:=
 c7 c8 (L:=r) (cY:=[.cell 2 37]) Tryz.func69 (by kernel_rfl) (by kernel_rfl) (by kernel_rfl) (args:=[.agg #[.bool a,.slice b c d]]) (by kernel_rfl) (F.ok Y _ Z (bZ rfl (aM (aO rfl (aM (k rfl (bP (g))))))))
end fN
namespace jV
noncomputable def r:Code:=c6 Tryz.f70
def F.t(Y:K)(a:Bool)(b:U)(c d:Nat)(Z:V):Prop:=
 b4 Z 37 [.bool a,.slice b c d] fun a b=>
 a6 b (a.add 1) fun c c d=>
 cond ((((c:Nat):Int)) == 0) (Y (.int .i64 0) b) (bB b (a.add 0) fun a=>
 cond a (Y (.int .i64 (-1)) b) (Y (.int .i64 1) b))
def F.g(Y:K)(X:Fr)(Z:V):Prop:=bU (X 0) fun a=>bR a fun a b=>b9 a fun a=>bR b fun b c=>aG b fun b d e=>bC c <| F.t Y a b d e Z
theorem F.ok(Y:K)(X:Fr)(Z:V)(g:F.g Y X Z):den prog E r (aZ E [.tmp 2] Y) X Z:=by
 obtain⟨m,a,b⟩:=eH g
 obtain⟨n,t,rfl,c⟩:=cH b
 obtain⟨d,rfl,e⟩:=dY c
 obtain⟨v,D,rfl,f⟩:=cH e
 obtain⟨h,i,j,rfl,l⟩:=bQ f
 obtain⟨rfl,g⟩:=eD l
 exact bO [(0,.agg #[.bool d,.slice h i j])] ⟨a,trivial⟩ (by kernel_rfl) g
def t(a:Bool)(b:U)(c d:Nat)(Z:V)(Y:K):Prop:=F.t Y a b c d Z
theorem ok{a:Bool}{b:U}{c:Nat}{d:Nat}{Z:V}{Y:K}(g:t a b c d Z Y):aF id #[.agg #[.bool a,.slice b c d]] Z Y:=
 c7 c8 (L:=r) (cY:=[.tmp 2]) Tryz.func70 (by kernel_rfl) (by kernel_rfl) (by kernel_rfl) (args:=[.agg #[.bool a,.slice b c d]]) (by kernel_rfl) (F.ok Y _ Z (bZ rfl (aM (aO rfl (aM (k rfl (bP (g))))))))
end jV
namespace k2
noncomputable def r:Code:=c6 Tryz.f71
def F.t(Y:K)(a:Bool)(b:U)(c d:Nat)(aT:Bool)(e:U)(f g:Nat)(Z:V):Prop:=
 b4 Z 37 [.bool a,.slice b c d] fun a b=>
 b4 b 37 [.bool aT,.slice e f g] fun b c=>
 b4 c 37 gB.aK fun c d=>
 bB d (a.add 0) fun e=>
 bB d (b.add 0) fun f=>
 cond (e == f) ((a.add 0).block < d.size∧bB d (a.add 0) fun e=>
 (a.add 1).block < d.size∧a6 d (a.add 1) fun f g h=>
 (b.add 1).block < d.size∧a6 d (b.add 1) fun i j l=>
 aF iE.id #[.slice f g h,.slice i j l] d fun f g=>
 aG f fun f h i=>
 (cG d.size d g)∧aF fK.id #[.bool e,.slice f h i] g fun e f=>
 bU e fun e=>
 cF e fun e h=>
 b6 h fun h i j l=>
 bC l <| (cG d.size g f)∧aW f (c.add 0) (.bool e) fun e=>
 aW e (c.add 1) (.slice h i j) fun e=>
 bB e (c.add 0) fun f=>
 a6 e (c.add 1) fun g h i=>
 Y (.agg #[.bool f,.slice g h i]) e) (a6 d (a.add 1) fun e f g=>
 a6 d (b.add 1) fun h i j=>
 aF kL.id #[.slice e f g,.slice h i j] d fun d e=>
 aV .i64 d fun d=>
 cond (decide (d≥0)) ((a.add 0).block < e.size∧bB e (a.add 0) fun d=>
 (a.add 1).block < e.size∧a6 e (a.add 1) fun f g h=>
 (b.add 1).block < e.size∧a6 e (b.add 1) fun i j l=>
 aF iT.id #[.slice f g h,.slice i j l] e fun f g=>
 aG f fun f h i=>
 (cG e.size e g)∧aF fK.id #[.bool d,.slice f h i] g fun d f=>
 bU d fun d=>
 cF d fun d h=>
 b6 h fun h i j l=>
 bC l <| (cG e.size g f)∧aW f (c.add 0) (.bool d) fun d=>
 aW d (c.add 1) (.slice h i j) fun d=>
 bB d (c.add 0) fun f=>
 a6 d (c.add 1) fun g h i=>
 Y (.agg #[.bool f,.slice g h i]) d) ((b.add 0).block < e.size∧bB e (b.add 0) fun d=>
 (b.add 1).block < e.size∧a6 e (b.add 1) fun b f g=>
 (a.add 1).block < e.size∧a6 e (a.add 1) fun a h i=>
 aF iT.id #[.slice b f g,.slice a h i] e fun a b=>
 aG a fun a f g=>
 (cG e.size e b)∧aF fK.id #[.bool d,.slice a f g] b fun a d=>
 bU a fun a=>
 cF a fun a f=>
 b6 f fun f g h i=>
 bC i <| (cG e.size b d)∧aW d (c.add 0) (.bool a) fun a=>
 aW a (c.add 1) (.slice f g h) fun a=>
 bB a (c.add 0) fun b=>
 a6 a (c.add 1) fun c d e=>
 Y (.agg #[.bool b,.slice c d e]) a))
def F.g(Y:K)(X:Fr)(Z:V):Prop:=bU (X 0) fun a=>bR a fun a b=>b9 a fun a=>bR b fun b c=>aG b fun b d e=>bC c <| bU (X 1) fun dV=>bR dV fun c f=>b9 c fun aT=>bR f fun c f=>aG c fun c h i=>bC f <| F.t Y a b d e aT c h i Z
theorem F.ok(Y:K)(X:Fr)(Z:V)(g:F.g Y X Z):den prog E r (aZ E [.cell 4 37] Y) X Z:=by
 obtain⟨K6,a,b⟩:=eH g
 obtain⟨K7,K8,rfl,c⟩:=cH b
 obtain⟨d,rfl,e⟩:=dY c
 obtain⟨K9,La,rfl,f⟩:=cH e
 obtain⟨h,i,j,rfl,l⟩:=bQ f
 obtain⟨rfl,g⟩:=eD l
 obtain⟨dV,m,n⟩:=eH g
 obtain⟨Lb,Lc,rfl,t⟩:=cH n
 obtain⟨aT,rfl,v⟩:=dY t
 obtain⟨Ld,Le,rfl,D⟩:=cH v
 obtain⟨G,H,P,rfl,K5⟩:=bQ D
 obtain⟨rfl,g⟩:=eD K5
 exact bO [(0,.agg #[.bool d,.slice h i j]),(1,.agg #[.bool aT,.slice G H P])] ⟨a,m,trivial⟩ (by kernel_rfl) g
def t(a:Bool)(b:U)(c d:Nat)(aT:Bool)(e:U)(f g:Nat)(Z:V)(Y:K):Prop:=F.t Y a b c d aT e f g Z
theorem ok{a:Bool}{b:U}{c:Nat}{d:Nat}{aT:Bool}{e:U}{f:Nat}{h:Nat}{Z:V}{Y:K}(g:t a b c d aT e f h Z Y):aF id #[.agg #[.bool a,.slice b c d],.agg #[.bool aT,.slice e f h]] Z Y:=
 c7 c8 (L:=r) (cY:=[.cell 4 37]) Tryz.func71 (by kernel_rfl) (by kernel_rfl) (by kernel_rfl) (args:=[.agg #[.bool a,.slice b c d],.agg #[.bool aT,.slice e f h]]) (by kernel_rfl) (F.ok Y _ Z (bZ rfl (aM (aO rfl (aM (k rfl (bP (bZ rfl (aM (aO rfl (aM (k rfl (bP (g))))))))))))))
end k2
namespace k4
noncomputable def r:Code:=c6 Tryz.f72
def F.t(Y:K)(a:Bool)(b:U)(c d:Nat)(aT:Bool)(e:U)(f g:Nat)(Z:V):Prop:=
 b4 Z 37 [.bool a,.slice b c d] fun a b=>
 b4 b 37 [.bool aT,.slice e f g] fun b c=>
 b4 c 37 gB.aK fun c d=>
 a.block < d.size∧bB d (a.add 0) fun e=>
 a6 d (a.add 1) fun a f g=>
 b.block < d.size∧bB d (b.add 0) fun h=>
 a6 d (b.add 1) fun b i j=>
 aF h2.id #[.agg #[.bool h,.slice b i j]] d fun b h=>
 bU b fun b=>
 cF b fun b i=>
 b6 i fun i j l m=>
 bC m <| (cG d.size d h)∧aF k2.id #[.agg #[.bool e,.slice a f g],.agg #[.bool b,.slice i j l]] h fun a b=>
 bU a fun a=>
 cF a fun a e=>
 b6 e fun e f g i=>
 bC i <| (cG d.size h b)∧aW b (c.add 0) (.bool a) fun a=>
 aW a (c.add 1) (.slice e f g) fun a=>
 bB a (c.add 0) fun b=>
 a6 a (c.add 1) fun c d e=>
 Y (.agg #[.bool b,.slice c d e]) a
def F.g(Y:K)(X:Fr)(Z:V):Prop:=bU (X 0) fun a=>bR a fun a b=>b9 a fun a=>bR b fun b c=>aG b fun b d e=>bC c <| bU (X 1) fun dV=>bR dV fun c f=>b9 c fun aT=>bR f fun c f=>aG c fun c h i=>bC f <| F.t Y a b d e aT c h i Z
theorem F.ok(Y:K)(X:Fr)(Z:V)(g:F.g Y X Z):den prog E r (aZ E [.cell 4 37] Y) X Z:=by
 obtain⟨K6,a,b⟩:=eH g
 obtain⟨K7,K8,rfl,c⟩:=cH b
 obtain⟨d,rfl,e⟩:=dY c
 obtain⟨K9,La,rfl,f⟩:=cH e
 obtain⟨h,i,j,rfl,l⟩:=bQ f
 obtain⟨rfl,g⟩:=eD l
 obtain⟨dV,m,n⟩:=eH g
 obtain⟨Lb,Lc,rfl,t⟩:=cH n
 obtain⟨aT,rfl,v⟩:=dY t
 obtain⟨Ld,Le,rfl,D⟩:=cH v
 obtain⟨G,H,P,rfl,K5⟩:=bQ D
 obtain⟨rfl,g⟩:=eD K5
 exact bO [(0,.agg #[.bool d,.slice h i j]),(1,.agg #[.bool aT,.slice G H P])] ⟨a,m,trivial⟩ (by kernel_rfl) g
def t(a:Bool)(b:U)(c d:Nat)(aT:Bool)(e:U)(f g:Nat)(Z:V)(Y:K):Prop:=F.t Y a b c d aT e f g Z
theorem ok{a:Bool}{b:U}{c:Nat}{d:Nat}{aT:Bool}{e:U}{f:Nat}{h:Nat}{Z:V}{Y:K}(g:t a b c d aT e f h Z Y):aF id #[.agg #[.bool a,.slice b c d],.agg #[.bool aT,.slice e f h]] Z Y:=
 c7 c8 (L:=r) (cY:=[.cell 4 37]) Tryz.func72 (by kernel_rfl) (by kernel_rfl) (by kernel_rfl) (args:=[.agg #[.bool a,.slice b c d],.agg #[.bool aT,.slice e f h]]) (by kernel_rfl) (F.ok Y _ Z (bZ rfl (aM (aO rfl (aM (k rfl (bP (bZ rfl (aM (aO rfl (aM (k rfl (bP (g))))))))))))))
end k4
namespace oN
noncomputable def r:Code:=c6 Tryz.f73
def F.t(Y:K)(a:Bool)(b:U)(c d:Nat)(aT:Bool)(e:U)(f g:Nat)(Z:V):Prop:=
 b4 Z 37 [.bool a,.slice b c d] fun a b=>
 b4 b 37 [.bool aT,.slice e f g] fun b c=>
 b4 c 37 gB.aK fun c d=>
 (a.add 0).block < d.size∧bB d (a.add 0) fun e=>
 (b.add 0).block < d.size∧bB d (b.add 0) fun f=>
 (a.add 1).block < d.size∧a6 d (a.add 1) fun a g h=>
 (b.add 1).block < d.size∧a6 d (b.add 1) fun b i j=>
 aF iF.id #[.slice a g h,.slice b i j] d fun a b=>
 aG a fun a g h=>
 (cG d.size d b)∧aF fK.id #[.bool (!(e == f)),.slice a g h] b fun a e=>
 bU a fun a=>
 cF a fun a f=>
 b6 f fun f g h i=>
 bC i <| (cG d.size b e)∧aW e (c.add 0) (.bool a) fun a=>
 aW a (c.add 1) (.slice f g h) fun a=>
 bB a (c.add 0) fun b=>
 a6 a (c.add 1) fun c d e=>
 Y (.agg #[.bool b,.slice c d e]) a
def F.g(Y:K)(X:Fr)(Z:V):Prop:=bU (X 0) fun a=>bR a fun a b=>b9 a fun a=>bR b fun b c=>aG b fun b d e=>bC c <| bU (X 1) fun dV=>bR dV fun c f=>b9 c fun aT=>bR f fun c f=>aG c fun c h i=>bC f <| F.t Y a b d e aT c h i Z
theorem F.ok(Y:K)(X:Fr)(Z:V)(g:F.g Y X Z):den prog E r (aZ E [.cell 4 37] Y) X Z:=by
 obtain⟨K6,a,b⟩:=eH g
 obtain⟨K7,K8,rfl,c⟩:=cH b
 obtain⟨d,rfl,e⟩:=dY c
 obtain⟨K9,La,rfl,f⟩:=cH e
 obtain⟨h,i,j,rfl,l⟩:=bQ f
 obtain⟨rfl,g⟩:=eD l
 obtain⟨dV,m,n⟩:=eH g
 obtain⟨Lb,Lc,rfl,t⟩:=cH n
 obtain⟨aT,rfl,v⟩:=dY t
 obtain⟨Ld,Le,rfl,D⟩:=cH v
 obtain⟨G,H,P,rfl,K5⟩:=bQ D
 obtain⟨rfl,g⟩:=eD K5
 exact bO [(0,.agg #[.bool d,.slice h i j]),(1,.agg #[.bool aT,.slice G H P])] ⟨a,m,trivial⟩ (by kernel_rfl) g
def t(a:Bool)(b:U)(c d:Nat)(aT:Bool)(e:U)(f g:Nat)(Z:V)(Y:K):Prop:=F.t Y a b c d aT e f g Z
theorem ok{a:Bool}{b:U}{c:Nat}{d:Nat}{aT:Bool}{e:U}{f:Nat}{h:Nat}{Z:V}{Y:K}(g:t a b c d aT e f h Z Y):aF id #[.agg #[.bool a,.slice b c d],.agg #[.bool aT,.slice e f h]] Z Y:=
 c7 c8 (L:=r) (cY:=[.cell 4 37]) Tryz.func73 (by kernel_rfl) (by kernel_rfl) (by kernel_rfl) (args:=[.agg #[.bool a,.slice b c d],.agg #[.bool aT,.slice e f h]]) (by kernel_rfl) (F.ok Y _ Z (bZ rfl (aM (aO rfl (aM (k rfl (bP (bZ rfl (aM (aO rfl (aM (k rfl (bP (g))))))))))))))
end oN
namespace lN
noncomputable def r:Code:=c6 Tryz.f74
def aC.t(Y:K)(a b c:Addr)(Z:V):Prop:=
 bB Z (a.add 0) fun d=>
 a6 Z (a.add 1) fun a e f=>
 bB Z (b.add 0) fun g=>
 a6 Z (b.add 1) fun b h i=>
 aF nG.id #[.agg #[.bool d,.slice a e f],.agg #[.bool g,.slice b h i]] Z fun a b=>
 c0 a fun a=>
 bR a fun a d=>
 bU a fun a=>
 cF a fun a e=>
 b6 e fun e f g h=>
 bC h <| bR d fun d h=>
 bU d fun d=>
 cF d fun d i=>
 b6 i fun i j l m=>
 bC m <| bC h <| b4 b 37 gB.aK fun b h=>
 b4 h 37 gB.aK fun h m=>
 aW m (b.add 0) (.bool a) fun a=>
 aW a (b.add 1) (.slice e f g) fun a=>
 aW a (h.add 0) (.bool d) fun a=>
 aW a (h.add 1) (.slice i j l) fun a=>
 bB a (b.add 0) fun d=>
 a6 a (b.add 1) fun b e f=>
 aW a (c.add 0) (.bool d) fun a=>
 aW a (c.add 1) (.slice b e f) fun a=>
 bB a (c.add 0) fun b=>
 a6 a (c.add 1) fun c d e=>
 Y (.agg #[.bool b,.slice c d e]) a
def aC.g(Y:K)(X:Fr)(Z:V):Prop:=cJ (X 2) fun a=>cJ (X 3) fun b=>cJ (X 4) fun c=>aC.t Y a b c Z
theorem aC.ok(Y:K)(X:Fr)(Z:V)(g:aC.g Y X Z):den prog E (aS r [W,W]) (aZ E [.cell 4 37] Y) X Z:=
 cX g fun a b g=>cX g fun c d g=>cX g fun e f g=>bO [(2,.pointer (some a)),(3,.pointer (some c)),(4,.pointer (some e))] ⟨b,d,f,trivial⟩ (by kernel_rfl) g
def F.t(Y:K)(a:Bool)(b:U)(c d:Nat)(aT:Bool)(e:U)(f g:Nat)(Z:V):Prop:=
 b4 Z 37 [.bool a,.slice b c d] fun a b=>
 b4 b 37 [.bool aT,.slice e f g] fun b c=>
 b4 c 37 gB.aK fun c d=>
 bB d (b.add 0) fun e=>
 cond e (a.block < d.size∧bB d (a.add 0) fun e=>
 a6 d (a.add 1) fun f g h=>
 aF h2.id #[.agg #[.bool e,.slice f g h]] d fun e f=>
 bU e fun e=>
 cF e fun e g=>
 b6 g fun g h i j=>
 bC j <| (cG d.size d f)∧b.block < d.size∧bB f (b.add 0) fun j=>
 a6 f (b.add 1) fun l m n=>
 aF h2.id #[.agg #[.bool j,.slice l m n]] f fun j l=>
 bU j fun j=>
 cF j fun j m=>
 b6 m fun m n v D=>
 bC D <| (cG d.size f l)∧aW l (a.add 0) (.bool e) fun D=>
 aW D (a.add 1) (.slice g h i) fun D=>
 aW D (b.add 0) (.bool j) fun D=>
 aW D (b.add 1) (.slice m n v) fun D=>
 aC.t Y a b c D) (aC.t Y a b c d)
def F.g(Y:K)(X:Fr)(Z:V):Prop:=bU (X 0) fun a=>bR a fun a b=>b9 a fun a=>bR b fun b c=>aG b fun b d e=>bC c <| bU (X 1) fun dV=>bR dV fun c f=>b9 c fun aT=>bR f fun c f=>aG c fun c h i=>bC f <| F.t Y a b d e aT c h i Z
theorem F.ok(Y:K)(X:Fr)(Z:V)(g:F.g Y X Z):den prog E r (aZ E [.cell 4 37] Y) X Z:=by
 obtain⟨K6,a,b⟩:=eH g
 obtain⟨K7,K8,rfl,c⟩:=cH b
 obtain⟨d,rfl,e⟩:=dY c
 obtain⟨K9,La,rfl,f⟩:=cH e
 obtain⟨h,i,j,rfl,l⟩:=bQ f
 obtain⟨rfl,g⟩:=eD l
 obtain⟨dV,m,n⟩:=eH g
 obtain⟨Lb,Lc,rfl,t⟩:=cH n
 obtain⟨aT,rfl,v⟩:=dY t
 obtain⟨Ld,Le,rfl,D⟩:=cH v
 obtain⟨G,H,P,rfl,K5⟩:=bQ D
 obtain⟨rfl,g⟩:=eD K5
 exact cT 2 (s:=(aS r [W,W])) (by kernel_rfl) (aC.ok Y) (bO [(0,.agg #[.bool d,.slice h i j]),(1,.agg #[.bool aT,.slice G H P])] ⟨a,m,trivial⟩ (by kernel_rfl) g)
def t(a:Bool)(b:U)(c d:Nat)(aT:Bool)(e:U)(f g:Nat)(Z:V)(Y:K):Prop:=F.t Y a b c d aT e f g Z
theorem ok{a:Bool}{b:U}{c:Nat}{d:Nat}{aT:Bool}{e:U}{f:Nat}{h:Nat}{Z:V}{Y:K}(g:t a b c d aT e f h Z Y):aF id #[.agg #[.bool a,.slice b c d],.agg #[.bool aT,.slice e f h]] Z Y:=
 c7 c8 (L:=r) (cY:=[.cell 4 37]) Tryz.func74 (by kernel_rfl) (by kernel_rfl) (by kernel_rfl) (args:=[.agg #[.bool a,.slice b c d],.agg #[.bool aT,.slice e f h]]) (by kernel_rfl) (F.ok Y _ Z (bZ rfl (aM (aO rfl (aM (k rfl (bP (bZ rfl (aM (aO rfl (aM (k rfl (bP (g))))))))))))))
end lN
namespace oP
noncomputable def r:Code:=c6 Tryz.f75
def F.t(Y:K)(a:Bool)(b:U)(c d:Nat)(aT:Bool)(e:U)(f g:Nat)(Z:V):Prop:=
 b4 Z 37 [.bool a,.slice b c d] fun a b=>
 b4 b 37 [.bool aT,.slice e f g] fun b c=>
 b4 c 37 gB.aK fun c d=>
 a.block < d.size∧bB d (a.add 0) fun e=>
 a6 d (a.add 1) fun a f g=>
 aF h2.id #[.agg #[.bool e,.slice a f g]] d fun a e=>
 bU a fun a=>
 cF a fun a f=>
 b6 f fun f g h i=>
 bC i <| (cG d.size d e)∧b.block < d.size∧bB e (b.add 0) fun i=>
 a6 e (b.add 1) fun b j l=>
 aF lN.id #[.agg #[.bool a,.slice f g h],.agg #[.bool i,.slice b j l]] e fun a b=>
 bU a fun a=>
 cF a fun a f=>
 b6 f fun f g h i=>
 bC i <| (cG d.size e b)∧aF h2.id #[.agg #[.bool a,.slice f g h]] b fun a e=>
 bU a fun a=>
 cF a fun a f=>
 b6 f fun f g h i=>
 bC i <| (cG d.size b e)∧aW e (c.add 0) (.bool a) fun a=>
 aW a (c.add 1) (.slice f g h) fun a=>
 bB a (c.add 0) fun b=>
 a6 a (c.add 1) fun c d e=>
 Y (.agg #[.bool b,.slice c d e]) a
def F.g(Y:K)(X:Fr)(Z:V):Prop:=bU (X 0) fun a=>bR a fun a b=>b9 a fun a=>bR b fun b c=>aG b fun b d e=>bC c <| bU (X 1) fun dV=>bR dV fun c f=>b9 c fun aT=>bR f fun c f=>aG c fun c h i=>bC f <| F.t Y a b d e aT c h i Z
theorem F.ok(Y:K)(X:Fr)(Z:V)(g:F.g Y X Z):den prog E r (aZ E [.cell 4 37] Y) X Z:=by
 obtain⟨K6,a,b⟩:=eH g
 obtain⟨K7,K8,rfl,c⟩:=cH b
 obtain⟨d,rfl,e⟩:=dY c
 obtain⟨K9,La,rfl,f⟩:=cH e
 obtain⟨h,i,j,rfl,l⟩:=bQ f
 obtain⟨rfl,g⟩:=eD l
 obtain⟨dV,m,n⟩:=eH g
 obtain⟨Lb,Lc,rfl,t⟩:=cH n
 obtain⟨aT,rfl,v⟩:=dY t
 obtain⟨Ld,Le,rfl,D⟩:=cH v
 obtain⟨G,H,P,rfl,K5⟩:=bQ D
 obtain⟨rfl,g⟩:=eD K5
 exact bO [(0,.agg #[.bool d,.slice h i j]),(1,.agg #[.bool aT,.slice G H P])] ⟨a,m,trivial⟩ (by kernel_rfl) g
def t(a:Bool)(b:U)(c d:Nat)(aT:Bool)(e:U)(f g:Nat)(Z:V)(Y:K):Prop:=F.t Y a b c d aT e f g Z
theorem ok{a:Bool}{b:U}{c:Nat}{d:Nat}{aT:Bool}{e:U}{f:Nat}{h:Nat}{Z:V}{Y:K}(g:t a b c d aT e f h Z Y):aF id #[.agg #[.bool a,.slice b c d],.agg #[.bool aT,.slice e f h]] Z Y:=
 c7 c8 (L:=r) (cY:=[.cell 4 37]) Tryz.func75 (by kernel_rfl) (by kernel_rfl) (by kernel_rfl) (args:=[.agg #[.bool a,.slice b c d],.agg #[.bool aT,.slice e f h]]) (by kernel_rfl) (F.ok Y _ Z (bZ rfl (aM (aO rfl (aM (k rfl (bP (bZ rfl (aM (aO rfl (aM (k rfl (bP (g))))))))))))))
end oP
namespace n2
noncomputable def r:Code:=c6 Tryz.f76
def aC.t(Y:K)(a b c:Addr)(Z:V):Prop:=
 bB Z (a.add 0) fun d=>
 a6 Z (a.add 1) fun a e f=>
 bB Z (b.add 0) fun g=>
 a6 Z (b.add 1) fun b h i=>
 aF nI.id #[.agg #[.bool d,.slice a e f],.agg #[.bool g,.slice b h i]] Z fun a b=>
 bU a fun a=>
 cF a fun a d=>
 b6 d fun d e f g=>
 bC g <| aW b (c.add 0) (.bool a) fun a=>
 aW a (c.add 1) (.slice d e f) fun a=>
 bB a (c.add 0) fun b=>
 a6 a (c.add 1) fun c d e=>
 Y (.agg #[.bool b,.slice c d e]) a
def aC.g(Y:K)(X:Fr)(Z:V):Prop:=cJ (X 2) fun a=>cJ (X 3) fun b=>cJ (X 4) fun c=>aC.t Y a b c Z
theorem aC.ok(Y:K)(X:Fr)(Z:V)(g:aC.g Y X Z):den prog E (aS r [W,W]) (aZ E [.cell 4 37] Y) X Z:=
 cX g fun a b g=>cX g fun c d g=>cX g fun e f g=>bO [(2,.pointer (some a)),(3,.pointer (some c)),(4,.pointer (some e))] ⟨b,d,f,trivial⟩ (by kernel_rfl) g
def F.t(Y:K)(a:Bool)(b:U)(c d:Nat)(aT:Bool)(e:U)(f g:Nat)(Z:V):Prop:=
 b4 Z 37 [.bool a,.slice b c d] fun a b=>
 b4 b 37 [.bool aT,.slice e f g] fun b c=>
 b4 c 37 gB.aK fun c d=>
 bB d (b.add 0) fun e=>
 cond e (a.block < d.size∧bB d (a.add 0) fun e=>
 a6 d (a.add 1) fun f g h=>
 aF h2.id #[.agg #[.bool e,.slice f g h]] d fun e f=>
 bU e fun e=>
 cF e fun e g=>
 b6 g fun g h i j=>
 bC j <| (cG d.size d f)∧b.block < d.size∧bB f (b.add 0) fun j=>
 a6 f (b.add 1) fun l m n=>
 aF h2.id #[.agg #[.bool j,.slice l m n]] f fun j l=>
 bU j fun j=>
 cF j fun j m=>
 b6 m fun m n v D=>
 bC D <| (cG d.size f l)∧aW l (a.add 0) (.bool e) fun D=>
 aW D (a.add 1) (.slice g h i) fun D=>
 aW D (b.add 0) (.bool j) fun D=>
 aW D (b.add 1) (.slice m n v) fun D=>
 aC.t Y a b c D) (aC.t Y a b c d)
def F.g(Y:K)(X:Fr)(Z:V):Prop:=bU (X 0) fun a=>bR a fun a b=>b9 a fun a=>bR b fun b c=>aG b fun b d e=>bC c <| bU (X 1) fun dV=>bR dV fun c f=>b9 c fun aT=>bR f fun c f=>aG c fun c h i=>bC f <| F.t Y a b d e aT c h i Z
theorem F.ok(Y:K)(X:Fr)(Z:V)(g:F.g Y X Z):den prog E r (aZ E [.cell 4 37] Y) X Z:=by
 obtain⟨K6,a,b⟩:=eH g
 obtain⟨K7,K8,rfl,c⟩:=cH b
 obtain⟨d,rfl,e⟩:=dY c
 obtain⟨K9,La,rfl,f⟩:=cH e
 obtain⟨h,i,j,rfl,l⟩:=bQ f
 obtain⟨rfl,g⟩:=eD l
 obtain⟨dV,m,n⟩:=eH g
 obtain⟨Lb,Lc,rfl,t⟩:=cH n
 obtain⟨aT,rfl,v⟩:=dY t
 obtain⟨Ld,Le,rfl,D⟩:=cH v
 obtain⟨G,H,P,rfl,K5⟩:=bQ D
 obtain⟨rfl,g⟩:=eD K5
 exact cT 2 (s:=(aS r [W,W])) (by kernel_rfl) (aC.ok Y) (bO [(0,.agg #[.bool d,.slice h i j]),(1,.agg #[.bool aT,.slice G H P])] ⟨a,m,trivial⟩ (by kernel_rfl) g)
def t(a:Bool)(b:U)(c d:Nat)(aT:Bool)(e:U)(f g:Nat)(Z:V)(Y:K):Prop:=F.t Y a b c d aT e f g Z
theorem ok{a:Bool}{b:U}{c:Nat}{d:Nat}{aT:Bool}{e:U}{f:Nat}{h:Nat}{Z:V}{Y:K}(g:t a b c d aT e f h Z Y):aF id #[.agg #[.bool a,.slice b c d],.agg #[.bool aT,.slice e f h]] Z Y:=
 c7 c8 (L:=r) (cY:=[.cell 4 37]) Tryz.func76 (by kernel_rfl) (by kernel_rfl) (by kernel_rfl) (args:=[.agg #[.bool a,.slice b c d],.agg #[.bool aT,.slice e f h]]) (by kernel_rfl) (F.ok Y _ Z (bZ rfl (aM (aO rfl (aM (k rfl (bP (bZ rfl (aM (aO rfl (aM (k rfl (bP (g))))))))))))))
end n2
namespace oQ
noncomputable def r:Code:=c6 Tryz.f77
def F.t(Y:K)(a:Bool)(b:U)(c d:Nat)(aT:Bool)(e:U)(f g:Nat)(Z:V):Prop:=
 b4 Z 37 [.bool a,.slice b c d] fun a b=>
 b4 b 37 [.bool aT,.slice e f g] fun b c=>
 b4 c 37 gB.aK fun c d=>
 a.block < d.size∧bB d (a.add 0) fun e=>
 a6 d (a.add 1) fun f g h=>
 b.block < d.size∧bB d (b.add 0) fun i=>
 a6 d (b.add 1) fun j l m=>
 a.block < d.size∧bB d (a.add 0) fun n=>
 a6 d (a.add 1) fun a v D=>
 b.block < d.size∧bB d (b.add 0) fun E=>
 a6 d (b.add 1) fun b G H=>
 aF lN.id #[.agg #[.bool n,.slice a v D],.agg #[.bool E,.slice b G H]] d fun D E=>
 bU D fun D=>
 cF D fun D G=>
 b6 G fun G H a b=>
 bC b <| (cG d.size d E)∧aF oN.id #[.agg #[.bool i,.slice j l m],.agg #[.bool D,.slice G H a]] E fun D G=>
 bU D fun D=>
 cF D fun D H=>
 b6 H fun H a b i=>
 bC i <| (cG d.size E G)∧aF k4.id #[.agg #[.bool e,.slice f g h],.agg #[.bool D,.slice H a b]] G fun D E=>
 bU D fun D=>
 cF D fun D H=>
 b6 H fun H a b e=>
 bC e <| (cG d.size G E)∧aW E (c.add 0) (.bool D) fun D=>
 aW D (c.add 1) (.slice H a b) fun D=>
 bB D (c.add 0) fun E=>
 a6 D (c.add 1) fun G H a=>
 Y (.agg #[.bool E,.slice G H a]) D
def F.g(Y:K)(X:Fr)(Z:V):Prop:=bU (X 0) fun a=>bR a fun a b=>b9 a fun a=>bR b fun b c=>aG b fun b d e=>bC c <| bU (X 1) fun dV=>bR dV fun c f=>b9 c fun aT=>bR f fun c f=>aG c fun c h i=>bC f <| F.t Y a b d e aT c h i Z
theorem F.ok(Y:K)(X:Fr)(Z:V)(g:F.g Y X Z):den prog E r (aZ E [.cell 4 37] Y) X Z:=by
 obtain⟨K6,a,b⟩:=eH g
 obtain⟨K7,K8,rfl,c⟩:=cH b
 obtain⟨d,rfl,e⟩:=dY c
 obtain⟨K9,La,rfl,f⟩:=cH e
 obtain⟨h,i,j,rfl,l⟩:=bQ f
 obtain⟨rfl,g⟩:=eD l
 obtain⟨dV,m,n⟩:=eH g
 obtain⟨Lb,Lc,rfl,t⟩:=cH n
 obtain⟨aT,rfl,v⟩:=dY t
 obtain⟨Ld,Le,rfl,D⟩:=cH v
 obtain⟨G,H,P,rfl,K5⟩:=bQ D
 obtain⟨rfl,g⟩:=eD K5
 exact bO [(0,.agg #[.bool d,.slice h i j]),(1,.agg #[.bool aT,.slice G H P])] ⟨a,m,trivial⟩ (by kernel_rfl) g
def t(a:Bool)(b:U)(c d:Nat)(aT:Bool)(e:U)(f g:Nat)(Z:V)(Y:K):Prop:=F.t Y a b c d aT e f g Z
theorem ok{a:Bool}{b:U}{c:Nat}{d:Nat}{aT:Bool}{e:U}{f:Nat}{h:Nat}{Z:V}{Y:K}(g:t a b c d aT e f h Z Y):aF id #[.agg #[.bool a,.slice b c d],.agg #[.bool aT,.slice e f h]] Z Y:=
 c7 c8 (L:=r) (cY:=[.cell 4 37]) Tryz.func77 (by kernel_rfl) (by kernel_rfl) (by kernel_rfl) (args:=[.agg #[.bool a,.slice b c d],.agg #[.bool aT,.slice e f h]]) (by kernel_rfl) (F.ok Y _ Z (bZ rfl (aM (aO rfl (aM (k rfl (bP (bZ rfl (aM (aO rfl (aM (k rfl (bP (g))))))))))))))
end oQ
namespace nF
noncomputable def r:Code:=c6 Tryz.f78
def F.t(Y:K)(a:Bool)(b:U)(c d:Nat)(aQ:Int)(Z:V):Prop:=
 b4 Z 37 [.bool a,.slice b c d] fun a b=>
 b4 b 37 gB.aK fun b c=>
 (a.add 0).block < c.size∧bB c (a.add 0) fun d=>
 (a.add 1).block < c.size∧a6 c (a.add 1) fun a e f=>
 aF lF.id #[.slice a e f,.int .i64 aQ] c fun a e=>
 aG a fun a f g=>
 (cG c.size c e)∧aF fK.id #[.bool d,.slice a f g] e fun a d=>
 bU a fun a=>
 cF a fun a f=>
 b6 f fun f g h i=>
 bC i <| (cG c.size e d)∧aW d (b.add 0) (.bool a) fun a=>
 aW a (b.add 1) (.slice f g h) fun a=>
 bB a (b.add 0) fun c=>
 a6 a (b.add 1) fun b d e=>
 Y (.agg #[.bool c,.slice b d e]) a
def F.g(Y:K)(X:Fr)(Z:V):Prop:=bU (X 0) fun a=>bR a fun a b=>b9 a fun a=>bR b fun b c=>aG b fun b d e=>bC c <| aV .i64 (X 1) fun aQ=>F.t Y a b d e aQ Z
theorem F.ok(Y:K)(X:Fr)(Z:V)(g:F.g Y X Z):den prog E r (aZ E [.cell 4 37] Y) X Z:=by
 obtain⟨n,a,b⟩:=eH g
 obtain⟨t,v,rfl,c⟩:=cH b
 obtain⟨d,rfl,e⟩:=dY c
 obtain⟨D,G,rfl,f⟩:=cH e
 obtain⟨h,i,j,rfl,l⟩:=bQ f
 obtain⟨rfl,g⟩:=eD l
 obtain⟨aQ,m,g⟩:=bS g
 exact bO [(0,.agg #[.bool d,.slice h i j]),(1,.int .i64 aQ)] ⟨a,m,trivial⟩ (by kernel_rfl) g
def t(a:Bool)(b:U)(c d:Nat)(aQ:Int)(Z:V)(Y:K):Prop:=F.t Y a b c d aQ Z
theorem ok{a:Bool}{b:U}{c:Nat}{d:Nat}{aQ:Int}{Z:V}{Y:K}(g:t a b c d aQ Z Y):aF id #[.agg #[.bool a,.slice b c d],.int .i64 aQ] Z Y:=
 c7 c8 (L:=r) (cY:=[.cell 4 37]) Tryz.func78 (by kernel_rfl) (by kernel_rfl) (by kernel_rfl) (args:=[.agg #[.bool a,.slice b c d],.int .i64 aQ]) (by kernel_rfl) (F.ok Y _ Z (bZ rfl (aM (aO rfl (aM (k rfl (bP (bI rfl (g)))))))))
end nF
namespace mP
noncomputable def r:Code:=c6 Tryz.f79
def aC.t(Y:K)(aQ:Int)(a b c:Addr)(Z:V):Prop:=
 bB Z (a.add 0) fun d=>
 cond d (a6 Z (a.add 1) fun a d e=>
 aF l0.id #[.slice a d e,.int .i64 aQ] Z fun a d=>
 aG a fun a a e=>
 cond (decide ((((a:Nat):Int)) > 0)) (c.block < d.size∧bB d (c.add 0) fun a=>
 a6 d (c.add 1) fun e f g=>
 aF mO.id #[.int .i64 1] d fun h i=>
 bU h fun h=>
 cF h fun h j=>
 b6 j fun j l m n=>
 bC n <| (cG d.size d i)∧aF k4.id #[.agg #[.bool a,.slice e f g],.agg #[.bool h,.slice j l m]] i fun a e=>
 bU a fun a=>
 cF a fun a f=>
 b6 f fun f g h j=>
 bC j <| (cG d.size i e)∧aW e (b.add 0) (.bool a) fun a=>
 aW a (b.add 1) (.slice f g h) fun a=>
 bB a (b.add 0) fun e=>
 a6 a (b.add 1) fun f g h=>
 Y (.agg #[.bool e,.slice f g h]) a) (bB d (c.add 0) fun a=>
 a6 d (c.add 1) fun e f g=>
 aW d (b.add 0) (.bool a) fun a=>
 aW a (b.add 1) (.slice e f g) fun a=>
 bB a (b.add 0) fun d=>
 a6 a (b.add 1) fun e f g=>
 Y (.agg #[.bool d,.slice e f g]) a)) (bB Z (c.add 0) fun a=>
 a6 Z (c.add 1) fun c d e=>
 aW Z (b.add 0) (.bool a) fun a=>
 aW a (b.add 1) (.slice c d e) fun a=>
 bB a (b.add 0) fun c=>
 a6 a (b.add 1) fun b d e=>
 Y (.agg #[.bool c,.slice b d e]) a)
def aC.g(Y:K)(X:Fr)(Z:V):Prop:=aV .i64 (X 1) fun aQ=>cJ (X 2) fun a=>cJ (X 4) fun b=>cJ (X 5) fun c=>aC.t Y aQ a b c Z
theorem aC.ok(Y:K)(X:Fr)(Z:V)(g:aC.g Y X Z):den prog E (aS r [W,W,W]) (aZ E [.cell 4 37] Y) X Z:=
 bM g fun aQ a g=>cX g fun b c g=>cX g fun d e g=>cX g fun f h g=>bO [(1,.int .i64 aQ),(2,.pointer (some b)),(4,.pointer (some d)),(5,.pointer (some f))] ⟨a,c,e,h,trivial⟩ (by kernel_rfl) g
def F.t(Y:K)(a:Bool)(b:U)(c d:Nat)(aQ:Int)(Z:V):Prop:=
 b4 Z 37 [.bool a,.slice b c d] fun a b=>
 b4 b 37 gB.aK fun b c=>
 cond (decide (aQ≤0)) (bB c (a.add 0) fun d=>
 a6 c (a.add 1) fun e f g=>
 aF fK.id #[.bool d,.slice e f g] c fun d e=>
 bU d fun d=>
 cF d fun d f=>
 b6 f fun f g h i=>
 bC i <| aW e (b.add 0) (.bool d) fun d=>
 aW d (b.add 1) (.slice f g h) fun d=>
 bB d (b.add 0) fun e=>
 a6 d (b.add 1) fun f g h=>
 Y (.agg #[.bool e,.slice f g h]) d) ((a.add 0).block < c.size∧bB c (a.add 0) fun d=>
 (a.add 1).block < c.size∧a6 c (a.add 1) fun e f g=>
 (aF nW.id #[.slice e f g,.int .i64 aQ] c fun h i=>
 aG h fun h j l=>
 (cG c.size c i)∧(aF fK.id #[.bool d,.slice h j l] i fun m n=>
 bU m fun m=>
 cF m fun m v=>
 b6 v fun v D E G=>
 bC G <| (cG c.size i n)∧b4 n 37 gB.aK fun G H=>
 (cG c.size n H)∧aW H (G.add 0) (.bool m) fun H=>
 aW H (G.add 1) (.slice v D E) fun D=>
 aC.t Y aQ a b G D)∧(b4 i 37 gB.aK fun D E=>
 (cG c.size i E)∧aF fK.id #[.bool d,.slice h j l] E fun G H=>
 bU G fun G=>
 cF G fun G h=>
 b6 h fun h i j l=>
 bC l <| (cG c.size E H)∧aW H (D.add 0) (.bool G) fun E=>
 aW E (D.add 1) (.slice h i j) fun E=>
 aC.t Y aQ a b D E))∧(b4 c 37 gB.aK fun D E=>
 (cG c.size c E)∧aF nW.id #[.slice e f g,.int .i64 aQ] E fun G H=>
 aG G fun G e f=>
 (cG c.size E H)∧aF fK.id #[.bool d,.slice G e f] H fun E G=>
 bU E fun E=>
 cF E fun E d=>
 b6 d fun d e f g=>
 bC g <| (cG c.size H G)∧aW G (D.add 0) (.bool E) fun E=>
 aW E (D.add 1) (.slice d e f) fun E=>
 aC.t Y aQ a b D E))
def F.g(Y:K)(X:Fr)(Z:V):Prop:=bU (X 0) fun a=>bR a fun a b=>b9 a fun a=>bR b fun b c=>aG b fun b d e=>bC c <| aV .i64 (X 1) fun aQ=>F.t Y a b d e aQ Z
theorem F.ok(Y:K)(X:Fr)(Z:V)(g:F.g Y X Z):den prog E r (aZ E [.cell 4 37] Y) X Z:=by
 obtain⟨n,a,b⟩:=eH g
 obtain⟨t,v,rfl,c⟩:=cH b
 obtain⟨d,rfl,e⟩:=dY c
 obtain⟨D,G,rfl,f⟩:=cH e
 obtain⟨h,i,j,rfl,l⟩:=bQ f
 obtain⟨rfl,g⟩:=eD l
 obtain⟨aQ,m,g⟩:=bS g
 exact cT 3 (s:=(aS r [W,W,W])) (by kernel_rfl) (aC.ok Y) (bO [(0,.agg #[.bool d,.slice h i j]),(1,.int .i64 aQ)] ⟨a,m,trivial⟩ (by kernel_rfl) g)
def t(a:Bool)(b:U)(c d:Nat)(aQ:Int)(Z:V)(Y:K):Prop:=F.t Y a b c d aQ Z
theorem ok{a:Bool}{b:U}{c:Nat}{d:Nat}{aQ:Int}{Z:V}{Y:K}(g:t a b c d aQ Z Y):aF id #[.agg #[.bool a,.slice b c d],.int .i64 aQ] Z Y:=
 c7 c8 (L:=r) (cY:=[.cell 4 37]) Tryz.func79 (by kernel_rfl) (by kernel_rfl) (by kernel_rfl) (args:=[.agg #[.bool a,.slice b c d],.int .i64 aQ]) (by kernel_rfl) (F.ok Y _ Z (bZ rfl (aM (aO rfl (aM (k rfl (bP (bI rfl (g)))))))))
end mP
namespace oR
noncomputable def r:Code:=c6 Tryz.f80
def F.t(Y:K)(a:Bool)(b:U)(c d:Nat)(aQ:Int)(Z:V):Prop:=
 b4 Z 37 [.bool a,.slice b c d] fun a b=>
 b4 b 37 gB.aK fun b c=>
 bB c (a.add 0) fun d=>
 a6 c (a.add 1) fun a e f=>
 aF h2.id #[.agg #[.bool d,.slice a e f]] c fun a c=>
 bU a fun a=>
 cF a fun a d=>
 b6 d fun d e f g=>
 bC g <| aF mP.id #[.agg #[.bool a,.slice d e f],.int .i64 aQ] c fun a c=>
 bU a fun a=>
 cF a fun a d=>
 b6 d fun d e f g=>
 bC g <| aF h2.id #[.agg #[.bool a,.slice d e f]] c fun a c=>
 bU a fun a=>
 cF a fun a d=>
 b6 d fun d e f g=>
 bC g <| aW c (b.add 0) (.bool a) fun a=>
 aW a (b.add 1) (.slice d e f) fun a=>
 bB a (b.add 0) fun c=>
 a6 a (b.add 1) fun b d e=>
 Y (.agg #[.bool c,.slice b d e]) a
def F.g(Y:K)(X:Fr)(Z:V):Prop:=bU (X 0) fun a=>bR a fun a b=>b9 a fun a=>bR b fun b c=>aG b fun b d e=>bC c <| aV .i64 (X 1) fun aQ=>F.t Y a b d e aQ Z
theorem F.ok(Y:K)(X:Fr)(Z:V)(g:F.g Y X Z):den prog E r (aZ E [.cell 4 37] Y) X Z:=by
 obtain⟨n,a,b⟩:=eH g
 obtain⟨t,v,rfl,c⟩:=cH b
 obtain⟨d,rfl,e⟩:=dY c
 obtain⟨D,G,rfl,f⟩:=cH e
 obtain⟨h,i,j,rfl,l⟩:=bQ f
 obtain⟨rfl,g⟩:=eD l
 obtain⟨aQ,m,g⟩:=bS g
 exact bO [(0,.agg #[.bool d,.slice h i j]),(1,.int .i64 aQ)] ⟨a,m,trivial⟩ (by kernel_rfl) g
def t(a:Bool)(b:U)(c d:Nat)(aQ:Int)(Z:V)(Y:K):Prop:=F.t Y a b c d aQ Z
theorem ok{a:Bool}{b:U}{c:Nat}{d:Nat}{aQ:Int}{Z:V}{Y:K}(g:t a b c d aQ Z Y):aF id #[.agg #[.bool a,.slice b c d],.int .i64 aQ] Z Y:=
 c7 c8 (L:=r) (cY:=[.cell 4 37]) Tryz.func80 (by kernel_rfl) (by kernel_rfl) (by kernel_rfl) (args:=[.agg #[.bool a,.slice b c d],.int .i64 aQ]) (by kernel_rfl) (F.ok Y _ Z (bZ rfl (aM (aO rfl (aM (k rfl (bP (bI rfl (g)))))))))
end oR
namespace oS
noncomputable def r:Code:=c6 Tryz.f81
def F.t(Y:K)(a:Bool)(b:U)(c d:Nat)(aQ:Int)(Z:V):Prop:=
 b4 Z 37 [.bool a,.slice b c d] fun a b=>
 b4 b 37 gB.aK fun b c=>
 cond (decide (aQ≤0)) (bB c (a.add 0) fun d=>
 a6 c (a.add 1) fun e f g=>
 aF fK.id #[.bool d,.slice e f g] c fun d e=>
 bU d fun d=>
 cF d fun d f=>
 b6 f fun f g h i=>
 bC i <| aW e (b.add 0) (.bool d) fun d=>
 aW d (b.add 1) (.slice f g h) fun d=>
 bB d (b.add 0) fun e=>
 a6 d (b.add 1) fun f g h=>
 Y (.agg #[.bool e,.slice f g h]) d) (a6 c (a.add 1) fun d e f=>
 aF kA.id #[.slice d e f] c fun c d=>
 aV .i64 c fun c=>
 cond (decide (aQ > c)) (aW d (b.add 0) (.bool false) fun c=>
 aW c (b.add 1) (.slice none 0 0) fun c=>
 bB c (b.add 0) fun e=>
 a6 c (b.add 1) fun f g h=>
 Y (.agg #[.bool e,.slice f g h]) c) (a.block < d.size∧bB d (a.add 0) fun c=>
 a6 d (a.add 1) fun a e f=>
 aF qP.id #[.int .i64 aQ] d fun g h=>
 aG g fun g i j=>
 (cG d.size d h)∧aF fK.id #[.bool false,.slice g i j] h fun g i=>
 bU g fun g=>
 cF g fun g j=>
 b6 j fun j l m n=>
 bC n <| (cG d.size h i)∧aF nI.id #[.agg #[.bool c,.slice a e f],.agg #[.bool g,.slice j l m]] i fun a c=>
 bU a fun a=>
 cF a fun a e=>
 b6 e fun e f g h=>
 bC h <| (cG d.size i c)∧aW c (b.add 0) (.bool a) fun a=>
 aW a (b.add 1) (.slice e f g) fun a=>
 bB a (b.add 0) fun c=>
 a6 a (b.add 1) fun b d e=>
 Y (.agg #[.bool c,.slice b d e]) a))
def F.g(Y:K)(X:Fr)(Z:V):Prop:=bU (X 0) fun a=>bR a fun a b=>b9 a fun a=>bR b fun b c=>aG b fun b d e=>bC c <| aV .i64 (X 1) fun aQ=>F.t Y a b d e aQ Z
theorem F.ok(Y:K)(X:Fr)(Z:V)(g:F.g Y X Z):den prog E r (aZ E [.cell 4 37] Y) X Z:=by
 obtain⟨n,a,b⟩:=eH g
 obtain⟨t,v,rfl,c⟩:=cH b
 obtain⟨d,rfl,e⟩:=dY c
 obtain⟨D,G,rfl,f⟩:=cH e
 obtain⟨h,i,j,rfl,l⟩:=bQ f
 obtain⟨rfl,g⟩:=eD l
 obtain⟨aQ,m,g⟩:=bS g
 exact bO [(0,.agg #[.bool d,.slice h i j]),(1,.int .i64 aQ)] ⟨a,m,trivial⟩ (by kernel_rfl) g
def t(a:Bool)(b:U)(c d:Nat)(aQ:Int)(Z:V)(Y:K):Prop:=F.t Y a b c d aQ Z
theorem ok{a:Bool}{b:U}{c:Nat}{d:Nat}{aQ:Int}{Z:V}{Y:K}(g:t a b c d aQ Z Y):aF id #[.agg #[.bool a,.slice b c d],.int .i64 aQ] Z Y:=
 c7 c8 (L:=r) (cY:=[.cell 4 37]) Tryz.func81 (by kernel_rfl) (by kernel_rfl) (by kernel_rfl) (args:=[.agg #[.bool a,.slice b c d],.int .i64 aQ]) (by kernel_rfl) (F.ok Y _ Z (bZ rfl (aM (aO rfl (aM (k rfl (bP (bI rfl (g)))))))))
end oS
namespace nV
noncomputable def r:Code:=c6 Tryz.f82
def F.t(Y:K)(S:U)(a R:Nat)(Z:V):Prop:=
 aF mG.id #[.slice S a R] Z fun a b=>
 aG a fun a c d=>
 cond (decide ((((c:Nat):Int)) > 8192)) (Y (.tuple #[.slice none 0 0,.int .i64 5]) b) (h8 b 27 j9 (((c:Nat):Int)) (((c:Nat):Int)) fun b e=>
 mW e 1 (some b) ((((c:Nat):Int)).toNat) (.slice a c d) fun a a=>
 Y (.tuple #[.slice (some b) ((((c:Nat):Int)).toNat) ((((c:Nat):Int)).toNat),.int .i64 0]) a)
def F.g(Y:K)(X:Fr)(Z:V):Prop:=aG (X 0) fun S a R=>F.t Y S a R Z
theorem F.ok(Y:K)(X:Fr)(Z:V)(g:F.g Y X Z):den prog E r (aZ E [.tmp 2,.tmp 3] Y) X Z:=
 a8 g fun S a R b g=>bO [(0,.slice S a R)] ⟨b,trivial⟩ (by kernel_rfl) g
def t(S:U)(a R:Nat)(Z:V)(Y:K):Prop:=F.t Y S a R Z
theorem ok{S:U}{a:Nat}{R:Nat}{Z:V}{Y:K}(g:t S a R Z Y):aF id #[.slice S a R] Z Y:=
 c7 c8 (L:=r) (cY:=[.tmp 2,.tmp 3]) Tryz.func82 (by kernel_rfl) (by kernel_rfl) (by kernel_rfl) (args:=[.slice S a R]) (by kernel_rfl) (F.ok Y _ Z (k rfl (g)))
end nV
namespace lI
noncomputable def r:Code:=c6 Tryz.f83
def aC.t(Y:K)(a:U)(b c:Nat)(Z:V):Prop:=
 aF pC.id #[.slice a b c] Z fun a b=>
 c0 a fun a=>
 b6 a fun a c d e=>
 dG e .i64 fun e f=>
 bC f <| Y (.tuple #[.slice a c d,.int .i64 e]) b
def aC.g(Y:K)(X:Fr)(Z:V):Prop:=aG (X 8) fun a b c=>aC.t Y a b c Z
theorem aC.ok(Y:K)(X:Fr)(Z:V)(g:aC.g Y X Z):den prog E (aS r [W,W,W,W,W,W,W,W]) (aZ E [.tmp 4,.tmp 5] Y) X Z:=
 a8 g fun a b c d g=>bO [(8,.slice a b c)] ⟨d,trivial⟩ (by kernel_rfl) g
def bG.g(bN:U→Nat→Nat→Int→Int→U→Nat→Nat→Int→Int→V→Prop)(X:Fr)(Z:V):Prop:=aG (X 0) fun S a R=>aV .i64 (X 6) fun b=>aV .i64 (X 7) fun c=>aG (X 8) fun d e f=>aV .i64 (X 34) fun h=>aV .i64 (X 35) fun i=>bN S a R b c d e f h i Z
def b0.t(Y:K)(a:U→Nat→Nat→Int→Int→U→Nat→Nat→Int→Int→V→Prop)(S:U)(b R:Nat)(c d:Int)(e:U)(f g:Nat)(h i:Int)(Z:V):Prop:=
 cond (decide (i < h)) (a2 (IntKind.i64.wrap (c+i)) fun j=>
 cL e f j 1 fun l=>
 cI Z .u64 l fun l=>
 cL S b i 1 fun m=>
 cI Z .u64 m fun m=>
 0≤d∧a2 (jM .u64 m d) fun m=>
 a2 (uL .u64 l m) fun l=>
 cL e f j 1 fun j=>
 aW Z j (.int .u64 l) fun j=>
 a2 (IntKind.i64.wrap (c+i)) fun l=>
 a2 (IntKind.i64.wrap (l+1)) fun l=>
 cL S b i 1 fun m=>
 cI j .u64 m fun m=>
 0≤(1:Int)∧a2 (gL .u64 m 1) fun m=>
 a2 (IntKind.i64.wrap (63 - d)) fun n=>
 0≤n∧a2 (gL .u64 m n) fun m=>
 cL e f l 1 fun l=>
 aW j l (.int .u64 m) fun j=>
 a2 (IntKind.i64.wrap (i+1)) fun i=>
 a S b R c d e f g h i j) (aC.t Y e f g Z)
def b0.g(Y:K)(a:U→Nat→Nat→Int→Int→U→Nat→Nat→Int→Int→V→Prop)(X:Fr)(Z:V):Prop:=aG (X 0) fun S b R=>aV .i64 (X 6) fun c=>aV .i64 (X 7) fun d=>aG (X 8) fun e f h=>aV .i64 (X 34) fun i=>aV .i64 (X 35) fun j=>b0.t Y a S b R c d e f h i j Z
theorem b0.ok(Y:K)(a:U→Nat→Nat→Int→Int→U→Nat→Nat→Int→Int→V→Prop)(X:Fr)(Z:V)(g:b0.g Y a X Z):den prog E (aS r [W,W,W,W,W,W,W,x,W,x,x]) (aH.then (bG.g a) (aH.inBlock 0 (aH.then (aC.g Y) (aZ E [.tmp 4,.tmp 5] Y)))) X Z:=
 a8 g fun S a R b g=>bM g fun c d g=>bM g fun e f g=>a8 g fun h i j l g=>bM g fun m n g=>bM g fun t v g=>bO [(0,.slice S a R),(6,.int .i64 c),(7,.int .i64 e),(8,.slice h i j),(34,.int .i64 m),(35,.int .i64 t)] ⟨b,d,f,l,n,v,trivial⟩ (by kernel_rfl) g
def bG.t(Y:K):Nat→U→Nat→Nat→Int→Int→U→Nat→Nat→Int→Int→V→Prop
 | 0=>fun _ _ _ _ _ _ _ _ _ _ _=>False
 | n+1=>fun S a R b c d e f g h Z=>b0.t Y (bG.t Y n) S a R b c d e f g h Z
theorem bG.ok(Y:K)(X:Fr)(Z:V)(g:bG.g (fun S a R b c d e f h i Z=>∃ n,bG.t Y n S a R b c d e f h i Z) X Z):den prog E (aS r [W,W,W,W,W,W,W,x,W,x]) (aH.inBlock 0 (aH.then (aC.g Y) (aZ E [.tmp 4,.tmp 5] Y))) X Z:=by
 obtain⟨S,a,R,j,g⟩:=bQ g
 obtain⟨b,l,g⟩:=bS g
 obtain⟨c,m,g⟩:=bS g
 obtain⟨d,e,f,v,g⟩:=bQ g
 obtain⟨h,D,g⟩:=bS g
 obtain⟨i,G,g⟩:=bS g
 obtain⟨n,g⟩:=g
 refine e1 (fun n=>bG.g (bG.t Y n)) (N:=(aS r [W,W,W,W,W,W,W,x,W,x,x])) (by kernel_rfl) (fun X Z g=>?_) (fun n=>b0.ok Y (bG.t Y n)) n X Z (k j (bI l (bI m (k v (bI D (bI G (g)))))))
 obtain⟨S,a,R,j,g⟩:=bQ g
 obtain⟨b,l,g⟩:=bS g
 obtain⟨c,m,g⟩:=bS g
 obtain⟨d,e,f,v,g⟩:=bQ g
 obtain⟨h,D,g⟩:=bS g
 obtain⟨i,G,g⟩:=bS g
 exact g
theorem eP.ok(Y:K)(X:Fr)(Z:V)(g:bG.g (fun S a R b c d e f h i Z=>∃ n,bG.t Y n S a R b c d e f h i Z) X Z):den prog E (aS r [W,W,W,W,W,W,W,x,W]) (aH.then (aC.g Y) (aZ E [.tmp 4,.tmp 5] Y)) X Z:=
 eR (by kernel_rfl) (bG.ok Y X Z g)
def a7.t(Y:K)(S:U)(a R:Nat)(b c:Int)(d:U)(e f:Nat)(Z:V):Prop:=
 (∃ n,bG.t Y n S a R b c d e f (((a:Nat):Int)) 0 Z)
def a7.g(Y:K)(X:Fr)(Z:V):Prop:=aG (X 0) fun S a R=>aV .i64 (X 6) fun b=>aV .i64 (X 7) fun c=>aG (X 8) fun d e f=>a7.t Y S a R b c d e f Z
theorem a7.ok(Y:K)(X:Fr)(Z:V)(g:a7.g Y X Z):den prog E (aS r [W,W,W,W,W,W,W,x]) (aH.then (aC.g Y) (aZ E [.tmp 4,.tmp 5] Y)) X Z:=
 a8 g fun S a R b g=>bM g fun c d g=>bM g fun e f g=>a8 g fun h i j l g=>cT 1 (s:=(aS r [W,W,W,W,W,W,W,x,W])) (by kernel_rfl) (eP.ok Y) (bO [(0,.slice S a R),(6,.int .i64 c),(7,.int .i64 e),(8,.slice h i j)] ⟨b,d,f,l,trivial⟩ (by kernel_rfl) g)
theorem gV.ok(Y:K)(X:Fr)(Z:V)(g:a7.g Y X Z):den prog E (aS r [W,W,W,W,W,W,W]) (aZ E [.tmp 4,.tmp 5] Y) X Z:=
 e5 (by kernel_rfl) (aC.ok Y) (a7.ok Y X Z g)
def F.t(Y:K)(S:U)(a R:Nat)(aQ:Int)(Z:V):Prop:=
 cond (decide (aQ < 0)) (Y (.tuple #[.slice none 0 0,.int .i64 1]) Z) (aF j0.id #[.slice S a R] Z fun b c=>
 b9 b fun b=>
 cond (!b) (Y (.tuple #[.slice none 0 0,.int .i64 2]) c) (cond ((((a:Nat):Int)) == 0) (Y (.tuple #[.slice none 0 0,.int .i64 0]) c) (aF pE.id #[.slice S a R] c fun b c=>
 aV .i64 b fun b=>
 a2 (IntKind.i64.wrap (524288 - b)) fun b=>
 cond (decide (aQ > b)) (Y (.tuple #[.slice none 0 0,.int .i64 5]) c) ((64:Int) ≠ 0∧a2 (IntKind.i64.wrap (Int.tdiv aQ 64)) fun b=>
 (64:Int) ≠ 0∧a2 (Int.tmod aQ 64) fun d=>
 a2 (IntKind.i64.wrap (b+(((a:Nat):Int)))) fun e=>
 a2 (IntKind.i64.wrap (e+1)) fun e=>
 h8 c 27 j9 e e fun c f=>
 a7.t Y S a R b d (some c) e.toNat e.toNat f))))
def F.g(Y:K)(X:Fr)(Z:V):Prop:=aG (X 0) fun S a R=>aV .i64 (X 1) fun aQ=>F.t Y S a R aQ Z
theorem F.ok(Y:K)(X:Fr)(Z:V)(g:F.g Y X Z):den prog E r (aZ E [.tmp 4,.tmp 5] Y) X Z:=
 a8 g fun S a R b g=>bM g fun aQ c g=>cT 7 (s:=(aS r [W,W,W,W,W,W,W])) (by kernel_rfl) (gV.ok Y) (bO [(0,.slice S a R),(1,.int .i64 aQ)] ⟨b,c,trivial⟩ (by kernel_rfl) g)
def t(S:U)(a R:Nat)(aQ:Int)(Z:V)(Y:K):Prop:=F.t Y S a R aQ Z
theorem ok{S:U}{a:Nat}{R:Nat}{aQ:Int}{Z:V}{Y:K}(g:t S a R aQ Z Y):aF id #[.slice S a R,.int .i64 aQ] Z Y:=
 c7 c8 (L:=r) (cY:=[.tmp 4,.tmp 5]) Tryz.func83 (by kernel_rfl) (by kernel_rfl) (by kernel_rfl) (args:=[.slice S a R,.int .i64 aQ]) (by kernel_rfl) (F.ok Y _ Z (k rfl (bI rfl (g))))
end lI
namespace kS
noncomputable def r:Code:=c6 Tryz.f84
def a7.t(Y:K)(a3:Int)(a b:Addr)(c:U)(d e:Nat)(f:Bool)(g:Int)(Z:V):Prop:=
 bB Z (a.add 0) fun a=>
 aF pP.id #[.int .i64 a3,.bool a,.slice c d e,.bool f,.int .i64 g] Z fun a c=>
 c0 a fun a=>
 bR a fun a d=>
 bU a fun a=>
 cF a fun a e=>
 b6 e fun e f g h=>
 bC h <| dG d .i64 fun d h=>
 bC h <| aW c (b.add 0) (.bool a) fun a=>
 aW a (b.add 1) (.slice e f g) fun a=>
 bB a (b.add 0) fun c=>
 a6 a (b.add 1) fun b e f=>
 Y (.tuple #[.agg #[.bool c,.slice b e f],.int .i64 d]) a
def a7.g(Y:K)(X:Fr)(Z:V):Prop:=aV .i64 (X 0) fun a3=>cJ (X 4) fun a=>cJ (X 6) fun b=>aG (X 8) fun c d e=>b9 (X 10) fun f=>aV .i64 (X 11) fun h=>a7.t Y a3 a b c d e f h Z
theorem a7.ok(Y:K)(X:Fr)(Z:V)(g:a7.g Y X Z):den prog E (aS r [W,W,W,W,W,W,W,W]) (aZ E [.cell 6 25,.tmp 7] Y) X Z:=
 bM g fun a3 a g=>cX g fun b c g=>cX g fun d e g=>a8 g fun f h i j g=>p6 g fun l m g=>bM g fun n t g=>bO [(0,.int .i64 a3),(4,.pointer (some b)),(6,.pointer (some d)),(8,.slice f h i),(10,.bool l),(11,.int .i64 n)] ⟨a,c,e,j,m,t,trivial⟩ (by kernel_rfl) g
def aC.t(Y:K)(a3 a:Int)(b c:Addr)(d:U)(e f:Nat)(g:Bool)(Z:V):Prop:=
 a6 Z (b.add 1) fun h i j=>
 a2 (IntKind.i64.wrap (a - 1)) fun l=>
 aF nX.id #[.slice h i j,.int .i64 l] Z fun h i=>
 b9 h fun h=>
 cond h (a6 i (b.add 1) fun h j l=>
 aF kN.id #[.slice h j l] i fun h j=>
 aV .i64 h fun h=>
 a2 (IntKind.i64.wrap (a - 1)) fun a=>
 cond (h == a) (a7.t Y a3 b c d e f g 0 j) (a7.t Y a3 b c d e f g 1 j)) (a7.t Y a3 b c d e f g (-1) i)
def aC.g(Y:K)(X:Fr)(Z:V):Prop:=aV .i64 (X 0) fun a3=>aV .i64 (X 2) fun a=>cJ (X 4) fun b=>cJ (X 6) fun c=>aG (X 8) fun d e f=>b9 (X 10) fun h=>aC.t Y a3 a b c d e f h Z
theorem aC.ok(Y:K)(X:Fr)(Z:V)(g:aC.g Y X Z):den prog E (aS r [W,W,W,W,W,W]) (aZ E [.cell 6 25,.tmp 7] Y) X Z:=
 bM g fun a3 a g=>bM g fun b c g=>cX g fun d e g=>cX g fun f h g=>a8 g fun i j l m g=>p6 g fun n t g=>cT 2 (s:=(aS r [W,W,W,W,W,W,W,W])) (by kernel_rfl) (a7.ok Y) (bO [(0,.int .i64 a3),(2,.int .i64 b),(4,.pointer (some d)),(6,.pointer (some f)),(8,.slice i j l),(10,.bool n)] ⟨a,c,e,h,m,t,trivial⟩ (by kernel_rfl) g)
def F.t(Y:K)(a3:Int)(aT:Bool)(a:U)(b c:Nat)(d:Int)(Z:V):Prop:=
 b4 Z 25 [.bool aT,.slice a b c] fun a b=>
 b4 b 25 fL.aK fun b c=>
 cond (decide (d < 0)) (aW c (b.add 0) (.bool false) fun e=>
 aW e (b.add 1) (.slice none 0 0) fun e=>
 bB e (b.add 0) fun f=>
 a6 e (b.add 1) fun g h i=>
 Y (.tuple #[.agg #[.bool f,.slice g h i],.int .i64 1]) e) (bB c (a.add 0) fun e=>
 a6 c (a.add 1) fun f g h=>
 aF eQ.id #[.agg #[.bool e,.slice f g h]] c fun c e=>
 b9 c fun c=>
 cond (!c) (aW e (b.add 0) (.bool false) fun c=>
 aW c (b.add 1) (.slice none 0 0) fun c=>
 bB c (b.add 0) fun f=>
 a6 c (b.add 1) fun g h i=>
 Y (.tuple #[.agg #[.bool f,.slice g h i],.int .i64 2]) c) (a6 e (a.add 1) fun c f g=>
 aF kY.id #[.slice c f g,.int .i64 d] e fun c e=>
 c0 c fun c=>
 b6 c fun c f g h=>
 dG h .i64 fun h i=>
 bC i <| cond (h != 0) (aW e (b.add 0) (.bool false) fun i=>
 aW i (b.add 1) (.slice none 0 0) fun i=>
 bB i (b.add 0) fun j=>
 a6 i (b.add 1) fun l m n=>
 Y (.tuple #[.agg #[.bool j,.slice l m n],.int .i64 h]) i) (a6 e (a.add 1) fun h h i=>
 cond (decide ((((h:Nat):Int)) > 0)) (a6 e (a.add 1) fun h i j=>
 aF kN.id #[.slice h i j] e fun h i=>
 aV .i64 h fun h=>
 aC.t Y a3 d a b c f g (decide (h < d)) i) (aC.t Y a3 d a b c f g false e))))
def F.g(Y:K)(X:Fr)(Z:V):Prop:=aV .i64 (X 0) fun a3=>bU (X 1) fun dV=>bR dV fun a b=>b9 a fun aT=>bR b fun a b=>aG a fun a c d=>bC b <| aV .i64 (X 2) fun b=>F.t Y a3 aT a c d b Z
theorem F.ok(Y:K)(X:Fr)(Z:V)(g:F.g Y X Z):den prog E r (aZ E [.cell 6 25,.tmp 7] Y) X Z:=by
 obtain⟨a3,a,g⟩:=bS g
 obtain⟨dV,b,c⟩:=eH g
 obtain⟨t,v,rfl,d⟩:=cH c
 obtain⟨aT,rfl,e⟩:=dY d
 obtain⟨D,G,rfl,f⟩:=cH e
 obtain⟨h,i,j,rfl,l⟩:=bQ f
 obtain⟨rfl,g⟩:=eD l
 obtain⟨m,n,g⟩:=bS g
 exact cT 6 (s:=(aS r [W,W,W,W,W,W])) (by kernel_rfl) (aC.ok Y) (bO [(0,.int .i64 a3),(1,.agg #[.bool aT,.slice h i j]),(2,.int .i64 m)] ⟨a,b,n,trivial⟩ (by kernel_rfl) g)
def t(a3:Int)(aT:Bool)(a:U)(b c:Nat)(d:Int)(Z:V)(Y:K):Prop:=F.t Y a3 aT a b c d Z
theorem ok{a3:Int}{aT:Bool}{a:U}{b:Nat}{c:Nat}{d:Int}{Z:V}{Y:K}(g:t a3 aT a b c d Z Y):aF id #[.int .i64 a3,.agg #[.bool aT,.slice a b c],.int .i64 d] Z Y:=
 c7 c8 (L:=r) (cY:=[.cell 6 25,.tmp 7]) Tryz.func84 (by kernel_rfl) (by kernel_rfl) (by kernel_rfl) (args:=[.int .i64 a3,.agg #[.bool aT,.slice a b c],.int .i64 d]) (by kernel_rfl) (F.ok Y _ Z (bI rfl (bZ rfl (aM (aO rfl (aM (k rfl (bP (bI rfl (g))))))))))
end kS
namespace lK
noncomputable def r:Code:=c6 Tryz.f85
def aC.t(Y:K)(a3:Int)(a b c:Addr)(Z:V):Prop:=
 a6 Z (b.add 1) fun d d e=>
 cond ((((d:Nat):Int)) == 0) (aW Z (c.add 0) (.bool false) fun d=>
 aW d (c.add 1) (.slice none 0 0) fun d=>
 bB d (c.add 0) fun e=>
 a6 d (c.add 1) fun f g h=>
 Y (.tuple #[.agg #[.bool e,.slice f g h],.int .i64 4]) d) (a6 Z (a.add 1) fun d e f=>
 a6 Z (b.add 1) fun g h i=>
 aF m9.id #[.slice d e f,.slice g h i] Z fun d e=>
 c0 d fun d=>
 b6 d fun d f g h=>
 b6 h fun h i j l=>
 dG l .i64 fun l m=>
 bC m <| cond (l != 0) (aW e (c.add 0) (.bool false) fun m=>
 aW m (c.add 1) (.slice none 0 0) fun m=>
 bB m (c.add 0) fun n=>
 a6 m (c.add 1) fun v D E=>
 Y (.tuple #[.agg #[.bool n,.slice v D E],.int .i64 l]) m) (a6 e (b.add 1) fun D E l=>
 aF jS.id #[.slice D E l,.slice h i j] e fun D E=>
 c0 D fun D=>
 b6 D fun D e l m=>
 dG m .i64 fun m n=>
 bC n <| cond (m != 0) (aW E (c.add 0) (.bool false) fun n=>
 aW n (c.add 1) (.slice none 0 0) fun n=>
 bB n (c.add 0) fun v=>
 a6 n (c.add 1) fun G H P=>
 Y (.tuple #[.agg #[.bool v,.slice G H P],.int .i64 m]) n) ((a.add 0).block < E.size∧bB E (a.add 0) fun G=>
 (b.add 0).block < E.size∧bB E (b.add 0) fun H=>
 aF hL.id #[.slice h i j,.slice D e l] E fun D P=>
 aV .i64 D fun D=>
 (cG E.size E P)∧aF pP.id #[.int .i64 a3,.bool (!(G == H)),.slice d f g,.bool (decide ((((i:Nat):Int)) > 0)),.int .i64 D] P fun D G=>
 c0 D fun D=>
 bR D fun D H=>
 bU D fun D=>
 cF D fun D a=>
 b6 a fun a b d e=>
 bC e <| dG H .i64 fun H e=>
 bC e <| (cG E.size P G)∧aW G (c.add 0) (.bool D) fun D=>
 aW D (c.add 1) (.slice a b d) fun D=>
 bB D (c.add 0) fun E=>
 a6 D (c.add 1) fun G P a=>
 Y (.tuple #[.agg #[.bool E,.slice G P a],.int .i64 H]) D)))
def aC.g(Y:K)(X:Fr)(Z:V):Prop:=aV .i64 (X 0) fun a3=>cJ (X 4) fun a=>cJ (X 5) fun b=>cJ (X 6) fun c=>aC.t Y a3 a b c Z
theorem aC.ok(Y:K)(X:Fr)(Z:V)(g:aC.g Y X Z):den prog E (aS r [W,W]) (aZ E [.cell 6 25,.tmp 7] Y) X Z:=
 bM g fun a3 a g=>cX g fun b c g=>cX g fun d e g=>cX g fun f h g=>bO [(0,.int .i64 a3),(4,.pointer (some b)),(5,.pointer (some d)),(6,.pointer (some f))] ⟨a,c,e,h,trivial⟩ (by kernel_rfl) g
def F.t(Y:K)(a3:Int)(aT:Bool)(a:U)(b c:Nat)(cU:Bool)(d:U)(e f:Nat)(Z:V):Prop:=
 b4 Z 25 [.bool aT,.slice a b c] fun a b=>
 b4 b 25 [.bool cU,.slice d e f] fun b c=>
 b4 c 25 fL.aK fun c d=>
 bB d (a.add 0) fun e=>
 a6 d (a.add 1) fun f g h=>
 aF eQ.id #[.agg #[.bool e,.slice f g h]] d fun d e=>
 b9 d fun d=>
 cond (!d) (aW e (c.add 0) (.bool false) fun d=>
 aW d (c.add 1) (.slice none 0 0) fun d=>
 bB d (c.add 0) fun f=>
 a6 d (c.add 1) fun g h i=>
 Y (.tuple #[.agg #[.bool f,.slice g h i],.int .i64 2]) d) (bB e (b.add 0) fun d=>
 a6 e (b.add 1) fun f g h=>
 aF eQ.id #[.agg #[.bool d,.slice f g h]] e fun d e=>
 b9 d fun d=>
 cond (!d) (aW e (c.add 0) (.bool false) fun d=>
 aW d (c.add 1) (.slice none 0 0) fun d=>
 bB d (c.add 0) fun f=>
 a6 d (c.add 1) fun g h i=>
 Y (.tuple #[.agg #[.bool f,.slice g h i],.int .i64 2]) d) (aC.t Y a3 a b c e))
def F.g(Y:K)(X:Fr)(Z:V):Prop:=aV .i64 (X 0) fun a3=>bU (X 1) fun dV=>bR dV fun a b=>b9 a fun aT=>bR b fun a b=>aG a fun a c d=>bC b <| bU (X 2) fun j5=>bR j5 fun b e=>b9 b fun cU=>bR e fun b e=>aG b fun b f h=>bC e <| F.t Y a3 aT a c d cU b f h Z
theorem F.ok(Y:K)(X:Fr)(Z:V)(g:F.g Y X Z):den prog E r (aZ E [.cell 6 25,.tmp 7] Y) X Z:=by
 obtain⟨a3,a,g⟩:=bS g
 obtain⟨dV,b,c⟩:=eH g
 obtain⟨K6,K7,rfl,d⟩:=cH c
 obtain⟨aT,rfl,e⟩:=dY d
 obtain⟨K8,K9,rfl,f⟩:=cH e
 obtain⟨h,i,j,rfl,l⟩:=bQ f
 obtain⟨rfl,g⟩:=eD l
 obtain⟨j5,m,n⟩:=eH g
 obtain⟨La,Lb,rfl,t⟩:=cH n
 obtain⟨cU,rfl,v⟩:=dY t
 obtain⟨Lc,Ld,rfl,D⟩:=cH v
 obtain⟨G,H,P,rfl,K5⟩:=bQ D
 obtain⟨rfl,g⟩:=eD K5
 exact cT 2 (s:=(aS r [W,W])) (by kernel_rfl) (aC.ok Y) (bO [(0,.int .i64 a3),(1,.agg #[.bool aT,.slice h i j]),(2,.agg #[.bool cU,.slice G H P])] ⟨a,b,m,trivial⟩ (by kernel_rfl) g)
def t(a3:Int)(aT:Bool)(a:U)(b c:Nat)(cU:Bool)(d:U)(e f:Nat)(Z:V)(Y:K):Prop:=F.t Y a3 aT a b c cU d e f Z
theorem ok{a3:Int}{aT:Bool}{a:U}{b:Nat}{c:Nat}{cU:Bool}{d:U}{e:Nat}{f:Nat}{Z:V}{Y:K}(g:t a3 aT a b c cU d e f Z Y):aF id #[.int .i64 a3,.agg #[.bool aT,.slice a b c],.agg #[.bool cU,.slice d e f]] Z Y:=
 c7 c8 (L:=r) (cY:=[.cell 6 25,.tmp 7]) Tryz.func85 (by kernel_rfl) (by kernel_rfl) (by kernel_rfl) (args:=[.int .i64 a3,.agg #[.bool aT,.slice a b c],.agg #[.bool cU,.slice d e f]]) (by kernel_rfl) (F.ok Y _ Z (bI rfl (bZ rfl (aM (aO rfl (aM (k rfl (bP (bZ rfl (aM (aO rfl (aM (k rfl (bP (g)))))))))))))))
end lK
namespace m9
noncomputable def r:Code:=c6 Tryz.f86
def aC.t(Y:K)(S:U)(a R:Nat)(b:U)(y c:Nat)(Z:V):Prop:=
 cond ((((y:Nat):Int)) == 0) (Y (.tuple #[.slice none 0 0,.slice none 0 0,.int .i64 4]) Z) (aF hL.id #[.slice S a R,.slice b y c] Z fun d e=>
 aV .i64 d fun d=>
 cond (decide (d < 0)) (aF nV.id #[.slice S a R] e fun d f=>
 c0 d fun d=>
 b6 d fun d g h i=>
 dG i .i64 fun i i=>
 bC i <| Y (.tuple #[.slice none 0 0,.slice d g h,.int .i64 0]) f) (cond ((((y:Nat):Int)) == 1) (cL b y 0 1 fun d=>
 cI e .u64 d fun d=>
 aF m5.id #[.slice S a R,.int .u64 d] e fun d f=>
 c0 d fun d=>
 b6 d fun d g h i=>
 dG i .u64 fun i j=>
 dG j .i64 fun j j=>
 bC j <| aF mI.id #[.int .u64 i] f fun f i=>
 aG f fun f j l=>
 Y (.tuple #[.slice d g h,.slice f j l,.int .i64 0]) i) (a2 (IntKind.i64.wrap ((((y:Nat):Int)) - 1)) fun d=>
 cL b y d 1 fun d=>
 cI e .u64 d fun d=>
 aF r7.id #[.int .u64 d] e fun d e=>
 aV .i64 d fun d=>
 a2 (IntKind.i64.wrap ((((a:Nat):Int))+1)) fun f=>
 aF mJ.id #[.slice S a R,.int .i64 d,.int .i64 f] e fun a e=>
 aG a fun a f g=>
 aF mJ.id #[.slice b y c,.int .i64 d,.int .i64 (((y:Nat):Int))] e fun b c=>
 aG b fun b e h=>
 aF iK.id #[.slice a f g,.slice b e h] c fun b c=>
 aG b fun b h i=>
 h7 1 a f g none (some (.int .i64 (((e:Nat):Int)))) none fun a e f=>
 aF nV.id #[.slice a e f] c fun a c=>
 c0 a fun a=>
 b6 a fun a e f g=>
 dG g .i64 fun g g=>
 bC g <| aF kY.id #[.slice a e f,.int .i64 d] c fun a c=>
 c0 a fun a=>
 b6 a fun a d e f=>
 dG f .i64 fun f f=>
 bC f <| aF nV.id #[.slice b h i] c fun b c=>
 c0 b fun b=>
 b6 b fun b f g h=>
 dG h .i64 fun h h=>
 bC h <| Y (.tuple #[.slice b f g,.slice a d e,.int .i64 0]) c)))
def aC.g(Y:K)(X:Fr)(Z:V):Prop:=aG (X 0) fun S a R=>aG (X 1) fun b y c=>aC.t Y S a R b y c Z
theorem aC.ok(Y:K)(X:Fr)(Z:V)(g:aC.g Y X Z):den prog E (aS r [W,W]) (aZ E [.tmp 4,.tmp 5,.tmp 6] Y) X Z:=
 a8 g fun S a R b g=>a8 g fun c y d e g=>bO [(0,.slice S a R),(1,.slice c y d)] ⟨b,e,trivial⟩ (by kernel_rfl) g
def F.t(Y:K)(S:U)(a R:Nat)(b:U)(y c:Nat)(Z:V):Prop:=
 aF j0.id #[.slice S a R] Z fun d e=>
 b9 d fun d=>
 cond (!d) (Y (.tuple #[.slice none 0 0,.slice none 0 0,.int .i64 2]) e) (aF j0.id #[.slice b y c] e fun d e=>
 b9 d fun d=>
 cond (!d) (Y (.tuple #[.slice none 0 0,.slice none 0 0,.int .i64 2]) e) (aC.t Y S a R b y c e))
def F.g(Y:K)(X:Fr)(Z:V):Prop:=aG (X 0) fun S a R=>aG (X 1) fun b y c=>F.t Y S a R b y c Z
theorem F.ok(Y:K)(X:Fr)(Z:V)(g:F.g Y X Z):den prog E r (aZ E [.tmp 4,.tmp 5,.tmp 6] Y) X Z:=
 a8 g fun S a R b g=>a8 g fun c y d e g=>cT 2 (s:=(aS r [W,W])) (by kernel_rfl) (aC.ok Y) (bO [(0,.slice S a R),(1,.slice c y d)] ⟨b,e,trivial⟩ (by kernel_rfl) g)
def t(S:U)(a R:Nat)(b:U)(y c:Nat)(Z:V)(Y:K):Prop:=F.t Y S a R b y c Z
theorem ok{S:U}{a:Nat}{R:Nat}{b:U}{y:Nat}{c:Nat}{Z:V}{Y:K}(g:t S a R b y c Z Y):aF id #[.slice S a R,.slice b y c] Z Y:=
 c7 c8 (L:=r) (cY:=[.tmp 4,.tmp 5,.tmp 6]) Tryz.func86 (by kernel_rfl) (by kernel_rfl) (by kernel_rfl) (args:=[.slice S a R,.slice b y c]) (by kernel_rfl) (F.ok Y _ Z (k rfl (k rfl (g))))
end m9
namespace qG
noncomputable def r:Code:=c6 Tryz.f87
def F.t(Y:K)(S:U)(a R:Nat)(Z:V):Prop:=
 cond (decide ((((a:Nat):Int))≤8192)) (cond ((((a:Nat):Int)) == 0) (Y (.bool true) Z) (a2 (IntKind.i64.wrap ((((a:Nat):Int)) - 1)) fun b=>
 cL S a b 1 fun a=>
 cI Z .u64 a fun a=>
 Y (.bool (a != 0)) Z)) (Y (.bool false) Z)
def F.g(Y:K)(X:Fr)(Z:V):Prop:=aG (X 0) fun S a R=>F.t Y S a R Z
theorem F.ok(Y:K)(X:Fr)(Z:V)(g:F.g Y X Z):den prog E r (aZ E [.tmp 2] Y) X Z:=
 a8 g fun S a R b g=>bO [(0,.slice S a R)] ⟨b,trivial⟩ (by kernel_rfl) g
def t(S:U)(a R:Nat)(Z:V)(Y:K):Prop:=F.t Y S a R Z
theorem ok{S:U}{a:Nat}{R:Nat}{Z:V}{Y:K}(g:t S a R Z Y):aF id #[.slice S a R] Z Y:=
 c7 c8 (L:=r) (cY:=[.tmp 2]) Tryz.func87 (by kernel_rfl) (by kernel_rfl) (by kernel_rfl) (args:=[.slice S a R]) (by kernel_rfl) (F.ok Y _ Z (k rfl (g)))
end qG
namespace n1
noncomputable def r:Code:=c6 Tryz.f88
def aC.t(Y:K)(a:Int)(Z:V):Prop:=
 a2 (IntKind.i64.wrap a) fun a=>Y (.tuple #[.int .i64 a,.bool true]) Z
def aC.g(Y:K)(X:Fr)(Z:V):Prop:=aV .u64 (X 4) fun a=>aC.t Y a Z
theorem aC.ok(Y:K)(X:Fr)(Z:V)(g:aC.g Y X Z):den prog E (aS r [W,W,W]) (aZ E [.tmp 2,.tmp 3] Y) X Z:=
 bM g fun a b g=>bO [(4,.int .u64 a)] ⟨b,trivial⟩ (by kernel_rfl) g
def F.t(Y:K)(a:Bool)(b:U)(c d:Nat)(Z:V):Prop:=
 b4 Z 37 [.bool a,.slice b c d] fun a b=>
 a6 b (a.add 1) fun c d e=>
 aF qF.id #[.slice c d e] b fun b c=>
 c0 b fun b=>
 dG b .u64 fun b d=>
 cF d fun d e=>
 bC e <| cond (!d) (Y (.tuple #[.int .i64 0,.bool false]) c) (bB c (a.add 0) fun d=>
 cond d (cond (b == 9223372036854775808) (Y (.tuple #[.int .i64 (-9223372036854775808),.bool true]) c) (cond (decide (b≥9223372036854775808)) (Y (.tuple #[.int .i64 0,.bool false]) c) (bB c (a.add 0) fun d=>
 cond d (a2 (IntKind.i64.wrap b) fun d=>
 a2 (IntKind.i64.wrap (0 - d)) fun d=>
 Y (.tuple #[.int .i64 d,.bool true]) c) (aC.t Y b c)))) (cond (decide (b≥9223372036854775808)) (Y (.tuple #[.int .i64 0,.bool false]) c) (bB c (a.add 0) fun a=>
 cond a (a2 (IntKind.i64.wrap b) fun a=>
 a2 (IntKind.i64.wrap (0 - a)) fun a=>
 Y (.tuple #[.int .i64 a,.bool true]) c) (aC.t Y b c))))
def F.g(Y:K)(X:Fr)(Z:V):Prop:=bU (X 0) fun a=>bR a fun a b=>b9 a fun a=>bR b fun b c=>aG b fun b d e=>bC c <| F.t Y a b d e Z
theorem F.ok(Y:K)(X:Fr)(Z:V)(g:F.g Y X Z):den prog E r (aZ E [.tmp 2,.tmp 3] Y) X Z:=by
 obtain⟨m,a,b⟩:=eH g
 obtain⟨n,t,rfl,c⟩:=cH b
 obtain⟨d,rfl,e⟩:=dY c
 obtain⟨v,D,rfl,f⟩:=cH e
 obtain⟨h,i,j,rfl,l⟩:=bQ f
 obtain⟨rfl,g⟩:=eD l
 exact cT 3 (s:=(aS r [W,W,W])) (by kernel_rfl) (aC.ok Y) (bO [(0,.agg #[.bool d,.slice h i j])] ⟨a,trivial⟩ (by kernel_rfl) g)
def t(a:Bool)(b:U)(c d:Nat)(Z:V)(Y:K):Prop:=F.t Y a b c d Z
theorem ok{a:Bool}{b:U}{c:Nat}{d:Nat}{Z:V}{Y:K}(g:t a b c d Z Y):aF id #[.agg #[.bool a,.slice b c d]] Z Y:=
 c7 c8 (L:=r) (cY:=[.tmp 2,.tmp 3]) Tryz.func88 (by kernel_rfl) (by kernel_rfl) (by kernel_rfl) (args:=[.agg #[.bool a,.slice b c d]]) (by kernel_rfl) (F.ok Y _ Z (bZ rfl (aM (aO rfl (aM (k rfl (bP (g))))))))
end n1
namespace nH
noncomputable def r:Code:=c6 Tryz.f89
def F.t(Y:K)(a:Bool)(b:U)(c d:Nat)(aT:Bool)(e:U)(f g:Nat)(Z:V):Prop:=
 b4 Z 37 [.bool a,.slice b c d] fun a b=>
 b4 b 37 [.bool aT,.slice e f g] fun b c=>
 bB c (a.add 0) fun d=>
 a6 c (a.add 1) fun a e f=>
 bB c (b.add 0) fun g=>
 a6 c (b.add 1) fun b h i=>
 aF k4.id #[.agg #[.bool d,.slice a e f],.agg #[.bool g,.slice b h i]] c fun a b=>
 bU a fun a=>
 cF a fun a c=>
 b6 c fun c d e f=>
 bC f <| aF jV.id #[.agg #[.bool a,.slice c d e]] b fun a b=>
 aV .i64 a fun a=>
 Y (.int .i64 a) b
def F.g(Y:K)(X:Fr)(Z:V):Prop:=bU (X 0) fun a=>bR a fun a b=>b9 a fun a=>bR b fun b c=>aG b fun b d e=>bC c <| bU (X 1) fun dV=>bR dV fun c f=>b9 c fun aT=>bR f fun c f=>aG c fun c h i=>bC f <| F.t Y a b d e aT c h i Z
theorem F.ok(Y:K)(X:Fr)(Z:V)(g:F.g Y X Z):den prog E r (aZ E [.tmp 4] Y) X Z:=by
 obtain⟨K6,a,b⟩:=eH g
 obtain⟨K7,K8,rfl,c⟩:=cH b
 obtain⟨d,rfl,e⟩:=dY c
 obtain⟨K9,La,rfl,f⟩:=cH e
 obtain⟨h,i,j,rfl,l⟩:=bQ f
 obtain⟨rfl,g⟩:=eD l
 obtain⟨dV,m,n⟩:=eH g
 obtain⟨Lb,Lc,rfl,t⟩:=cH n
 obtain⟨aT,rfl,v⟩:=dY t
 obtain⟨Ld,Le,rfl,D⟩:=cH v
 obtain⟨G,H,P,rfl,K5⟩:=bQ D
 obtain⟨rfl,g⟩:=eD K5
 exact bO [(0,.agg #[.bool d,.slice h i j]),(1,.agg #[.bool aT,.slice G H P])] ⟨a,m,trivial⟩ (by kernel_rfl) g
def t(a:Bool)(b:U)(c d:Nat)(aT:Bool)(e:U)(f g:Nat)(Z:V)(Y:K):Prop:=F.t Y a b c d aT e f g Z
theorem ok{a:Bool}{b:U}{c:Nat}{d:Nat}{aT:Bool}{e:U}{f:Nat}{h:Nat}{Z:V}{Y:K}(g:t a b c d aT e f h Z Y):aF id #[.agg #[.bool a,.slice b c d],.agg #[.bool aT,.slice e f h]] Z Y:=
 c7 c8 (L:=r) (cY:=[.tmp 4]) Tryz.func89 (by kernel_rfl) (by kernel_rfl) (by kernel_rfl) (args:=[.agg #[.bool a,.slice b c d],.agg #[.bool aT,.slice e f h]]) (by kernel_rfl) (F.ok Y _ Z (bZ rfl (aM (aO rfl (aM (k rfl (bP (bZ rfl (aM (aO rfl (aM (k rfl (bP (g))))))))))))))
end nH
namespace q8
noncomputable def r:Code:=c6 Tryz.f90
def aC.t(Y:K)(S:U)(a R:Nat)(b:U)(y c:Nat)(d:U)(b8 bX:Nat)(Z:V):Prop:=
 cond (decide ((((b8:Nat):Int)) < 40)) (aF j3.id #[.slice S a R,.slice b y c,.slice d b8 bX] Z fun e f=>
 c0 e fun e=>
 bC e <| Y (.tuple #[]) f) (a2 (IntKind.i64.wrap (2*(((b8:Nat):Int)))) fun e=>
 cond (decide ((((y:Nat):Int))≥e)) (aF oI.id #[.slice S a R,.slice b y c,.slice d b8 bX] Z fun e f=>
 c0 e fun e=>
 bC e <| Y (.tuple #[]) f) (aF tU.id #[.slice S a R,.slice b y c,.slice d b8 bX] Z fun a b=>
 c0 a fun a=>
 bC a <| Y (.tuple #[]) b))
def aC.g(Y:K)(X:Fr)(Z:V):Prop:=aG (X 0) fun S a R=>aG (X 1) fun b y c=>aG (X 2) fun d b8 bX=>aC.t Y S a R b y c d b8 bX Z
theorem aC.ok(Y:K)(X:Fr)(Z:V)(g:aC.g Y X Z):den prog E (aS r [W]) (aZ E [] Y) X Z:=
 a8 g fun S a R b g=>a8 g fun c y d e g=>a8 g fun f b8 bX h g=>bO [(0,.slice S a R),(1,.slice c y d),(2,.slice f b8 bX)] ⟨b,e,h,trivial⟩ (by kernel_rfl) g
def F.t(Y:K)(S:U)(a R:Nat)(b:U)(y c:Nat)(d:U)(b8 bX:Nat)(Z:V):Prop:=
 cond (decide ((((y:Nat):Int)) < (((b8:Nat):Int)))) (aC.t Y S a R d b8 bX b y c Z) (aC.t Y S a R b y c d b8 bX Z)
def F.g(Y:K)(X:Fr)(Z:V):Prop:=aG (X 0) fun S a R=>aG (X 1) fun b y c=>aG (X 2) fun d b8 bX=>F.t Y S a R b y c d b8 bX Z
theorem F.ok(Y:K)(X:Fr)(Z:V)(g:F.g Y X Z):den prog E r (aZ E [] Y) X Z:=
 a8 g fun S a R b g=>a8 g fun c y d e g=>a8 g fun f b8 bX h g=>cT 1 (s:=(aS r [W])) (by kernel_rfl) (aC.ok Y) (bO [(0,.slice S a R),(1,.slice c y d),(2,.slice f b8 bX)] ⟨b,e,h,trivial⟩ (by kernel_rfl) g)
def t(S:U)(a R:Nat)(b:U)(y c:Nat)(d:U)(b8 bX:Nat)(Z:V)(Y:K):Prop:=F.t Y S a R b y c d b8 bX Z
theorem ok{S:U}{a:Nat}{R:Nat}{b:U}{y:Nat}{c:Nat}{d:U}{b8:Nat}{bX:Nat}{Z:V}{Y:K}(g:t S a R b y c d b8 bX Z Y):aF id #[.slice S a R,.slice b y c,.slice d b8 bX] Z Y:=
 c7 c8 (L:=r) (cY:=[]) Tryz.func90 (by kernel_rfl) (by kernel_rfl) (by kernel_rfl) (args:=[.slice S a R,.slice b y c,.slice d b8 bX]) (by kernel_rfl) (F.ok Y _ Z (k rfl (k rfl (k rfl (g)))))
end q8
namespace mK
noncomputable def r:Code:=c6 Tryz.f91
def aC.t(Y:K)(S:U)(a R:Nat)(b:Int)(Z:V):Prop:=
 h7 1 S a R none (some (.int .i64 b)) (some (.int .i64 b)) fun a b c=>Y (.slice a b c) Z
def aC.g(Y:K)(X:Fr)(Z:V):Prop:=aG (X 0) fun S a R=>aV .i64 (X 3) fun b=>aC.t Y S a R b Z
theorem aC.ok(Y:K)(X:Fr)(Z:V)(g:aC.g Y X Z):den prog E (aS r [W,W,W]) (aZ E [.tmp 2] Y) X Z:=
 a8 g fun S a R b g=>bM g fun c d g=>bO [(0,.slice S a R),(3,.int .i64 c)] ⟨b,d,trivial⟩ (by kernel_rfl) g
def cZ.g(bN:U→Nat→Nat→Int→V→Prop)(X:Fr)(Z:V):Prop:=aG (X 0) fun S a R=>aV .i64 (X 3) fun b=>bN S a R b Z
def cA.t(Y:K)(a:U→Nat→Nat→Int→V→Prop)(S:U)(b R:Nat)(c:Int)(Z:V):Prop:=
 cond (decide (c > 0)) (a2 (IntKind.i64.wrap (c - 1)) fun d=>
 cL S b d 1 fun d=>
 cI Z .u64 d fun d=>
 cond (d == 0) (a2 (IntKind.i64.wrap (c - 1)) fun d=>
 a S b R d Z) (aC.t Y S b R c Z)) (aC.t Y S b R c Z)
def cA.g(Y:K)(a:U→Nat→Nat→Int→V→Prop)(X:Fr)(Z:V):Prop:=aG (X 0) fun S b R=>aV .i64 (X 3) fun c=>cA.t Y a S b R c Z
theorem cA.ok(Y:K)(a:U→Nat→Nat→Int→V→Prop)(X:Fr)(Z:V)(g:cA.g Y a X Z):den prog E (aS r [W,W,x,x,x]) (aH.then (cZ.g a) (aH.inBlock 0 (aH.then (aC.g Y) (aZ E [.tmp 2] Y)))) X Z:=
 a8 g fun S a R b g=>bM g fun c d g=>bO [(0,.slice S a R),(3,.int .i64 c)] ⟨b,d,trivial⟩ (by kernel_rfl) g
def cZ.t(Y:K):Nat→U→Nat→Nat→Int→V→Prop
 | 0=>fun _ _ _ _ _=>False
 | n+1=>fun S a R b Z=>cA.t Y (cZ.t Y n) S a R b Z
theorem cZ.ok(Y:K)(X:Fr)(Z:V)(g:cZ.g (fun S a R b Z=>∃ n,cZ.t Y n S a R b Z) X Z):den prog E (aS r [W,W,x,x]) (aH.inBlock 0 (aH.then (aC.g Y) (aZ E [.tmp 2] Y))) X Z:=by
 obtain⟨S,a,R,c,g⟩:=bQ g
 obtain⟨b,d,g⟩:=bS g
 obtain⟨n,g⟩:=g
 refine e1 (fun n=>cZ.g (cZ.t Y n)) (N:=(aS r [W,W,x,x,x])) (by kernel_rfl) (fun X Z g=>?_) (fun n=>cA.ok Y (cZ.t Y n)) n X Z (k c (bI d (g)))
 obtain⟨S,a,R,c,g⟩:=bQ g
 obtain⟨b,d,g⟩:=bS g
 exact g
theorem gT.ok(Y:K)(X:Fr)(Z:V)(g:cZ.g (fun S a R b Z=>∃ n,cZ.t Y n S a R b Z) X Z):den prog E (aS r [W,W,x]) (aH.then (aC.g Y) (aZ E [.tmp 2] Y)) X Z:=
 eR (by kernel_rfl) (cZ.ok Y X Z g)
theorem uI.ok(Y:K)(X:Fr)(Z:V)(g:cZ.g (fun S a R b Z=>∃ n,cZ.t Y n S a R b Z) X Z):den prog E (aS r [W,W]) (aZ E [.tmp 2] Y) X Z:=
 e5 (by kernel_rfl) (aC.ok Y) (gT.ok Y X Z g)
def F.t(Y:K)(S:U)(a R:Nat)(Z:V):Prop:=
 (∃ n,cZ.t Y n S a R (((a:Nat):Int)) Z)
def F.g(Y:K)(X:Fr)(Z:V):Prop:=aG (X 0) fun S a R=>F.t Y S a R Z
theorem F.ok(Y:K)(X:Fr)(Z:V)(g:F.g Y X Z):den prog E r (aZ E [.tmp 2] Y) X Z:=
 a8 g fun S a R b g=>cT 2 (s:=(aS r [W,W])) (by kernel_rfl) (uI.ok Y) (bO [(0,.slice S a R)] ⟨b,trivial⟩ (by kernel_rfl) g)
def t(S:U)(a R:Nat)(Z:V)(Y:K):Prop:=F.t Y S a R Z
theorem ok{S:U}{a:Nat}{R:Nat}{Z:V}{Y:K}(g:t S a R Z Y):aF id #[.slice S a R] Z Y:=
 c7 c8 (L:=r) (cY:=[.tmp 2]) Tryz.func91 (by kernel_rfl) (by kernel_rfl) (by kernel_rfl) (args:=[.slice S a R]) (by kernel_rfl) (F.ok Y _ Z (k rfl (g)))
end mK
namespace lD
noncomputable def r:Code:=c6 Tryz.f92
def aC.t(Y:K)(a:U)(dB b:Nat)(Z:V):Prop:=
 aF g5.id #[.slice a dB b] Z fun a b=>
 aG a fun a c d=>
 Y (.slice a c d) b
def aC.g(Y:K)(X:Fr)(Z:V):Prop:=aG (X 3) fun a dB b=>aC.t Y a dB b Z
theorem aC.ok(Y:K)(X:Fr)(Z:V)(g:aC.g Y X Z):den prog E (aS r [W,W,W]) (aZ E [.tmp 2] Y) X Z:=
 a8 g fun a dB b c g=>bO [(3,.slice a dB b)] ⟨c,trivial⟩ (by kernel_rfl) g
def bG.g(bN:U→Nat→Nat→U→Nat→Nat→Int→V→Prop)(X:Fr)(Z:V):Prop:=aG (X 0) fun S a R=>aG (X 3) fun b dB c=>aV .i64 (X 4) fun d=>bN S a R b dB c d Z
def b0.t(Y:K)(a:U→Nat→Nat→U→Nat→Nat→Int→V→Prop)(S:U)(b R:Nat)(c:U)(dB d:Nat)(e:Int)(Z:V):Prop:=
 cond (decide (e < (((b:Nat):Int)))) (cL S b e 1 fun f=>
 cI Z .u64 f fun f=>
 a2 (iG .u64 f 4294967295) fun f=>
 a2 (IntKind.u32.wrap f) fun f=>
 cL S b e 1 fun g=>
 cI Z .u64 g fun g=>
 0≤(32:Int)∧a2 (gL .u64 g 32) fun g=>
 a2 (IntKind.u32.wrap g) fun g=>
 b4 Z 82 [.int .u32 f,.int .u32 g] fun f g=>
 gW g 82 hW c dB d (.slice (some f) 2 2) fun f g h i=>
 a2 (IntKind.i64.wrap (e+1)) fun e=>
 a S b R f g h e i) (aC.t Y c dB d Z)
def b0.g(Y:K)(a:U→Nat→Nat→U→Nat→Nat→Int→V→Prop)(X:Fr)(Z:V):Prop:=aG (X 0) fun S b R=>aG (X 3) fun c dB d=>aV .i64 (X 4) fun e=>b0.t Y a S b R c dB d e Z
theorem b0.ok(Y:K)(a:U→Nat→Nat→U→Nat→Nat→Int→V→Prop)(X:Fr)(Z:V)(g:b0.g Y a X Z):den prog E (aS r [W,W,x,W,x,x]) (aH.then (bG.g a) (aH.inBlock 0 (aH.then (aC.g Y) (aZ E [.tmp 2] Y)))) X Z:=
 a8 g fun S a R b g=>a8 g fun c dB d e g=>bM g fun f h g=>bO [(0,.slice S a R),(3,.slice c dB d),(4,.int .i64 f)] ⟨b,e,h,trivial⟩ (by kernel_rfl) g
def bG.t(Y:K):Nat→U→Nat→Nat→U→Nat→Nat→Int→V→Prop
 | 0=>fun _ _ _ _ _ _ _ _=>False
 | n+1=>fun S a R b dB c d Z=>b0.t Y (bG.t Y n) S a R b dB c d Z
theorem bG.ok(Y:K)(X:Fr)(Z:V)(g:bG.g (fun S a R b dB c d Z=>∃ n,bG.t Y n S a R b dB c d Z) X Z):den prog E (aS r [W,W,x,W,x]) (aH.inBlock 0 (aH.then (aC.g Y) (aZ E [.tmp 2] Y))) X Z:=by
 obtain⟨S,a,R,e,g⟩:=bQ g
 obtain⟨b,dB,c,f,g⟩:=bQ g
 obtain⟨d,h,g⟩:=bS g
 obtain⟨n,g⟩:=g
 refine e1 (fun n=>bG.g (bG.t Y n)) (N:=(aS r [W,W,x,W,x,x])) (by kernel_rfl) (fun X Z g=>?_) (fun n=>b0.ok Y (bG.t Y n)) n X Z (k e (k f (bI h (g))))
 obtain⟨S,a,R,e,g⟩:=bQ g
 obtain⟨b,dB,c,f,g⟩:=bQ g
 obtain⟨d,h,g⟩:=bS g
 exact g
theorem eP.ok(Y:K)(X:Fr)(Z:V)(g:bG.g (fun S a R b dB c d Z=>∃ n,bG.t Y n S a R b dB c d Z) X Z):den prog E (aS r [W,W,x,W]) (aH.then (aC.g Y) (aZ E [.tmp 2] Y)) X Z:=
 eR (by kernel_rfl) (bG.ok Y X Z g)
def a7.t(Y:K)(S:U)(a R:Nat)(b:U)(dB c:Nat)(Z:V):Prop:=
 (∃ n,bG.t Y n S a R b dB c 0 Z)
def a7.g(Y:K)(X:Fr)(Z:V):Prop:=aG (X 0) fun S a R=>aG (X 3) fun b dB c=>a7.t Y S a R b dB c Z
theorem a7.ok(Y:K)(X:Fr)(Z:V)(g:a7.g Y X Z):den prog E (aS r [W,W,x]) (aH.then (aC.g Y) (aZ E [.tmp 2] Y)) X Z:=
 a8 g fun S a R b g=>a8 g fun c dB d e g=>cT 1 (s:=(aS r [W,W,x,W])) (by kernel_rfl) (eP.ok Y) (bO [(0,.slice S a R),(3,.slice c dB d)] ⟨b,e,trivial⟩ (by kernel_rfl) g)
theorem gV.ok(Y:K)(X:Fr)(Z:V)(g:a7.g Y X Z):den prog E (aS r [W,W]) (aZ E [.tmp 2] Y) X Z:=
 e5 (by kernel_rfl) (aC.ok Y) (a7.ok Y X Z g)
def F.t(Y:K)(S:U)(a R:Nat)(Z:V):Prop:=
 a2 (IntKind.i64.wrap (2*(((a:Nat):Int)))) fun b=>
 h8 Z 82 hW 0 b fun c d=>
 a7.t Y S a R (some c) ((0:Int).toNat) b.toNat d
def F.g(Y:K)(X:Fr)(Z:V):Prop:=aG (X 0) fun S a R=>F.t Y S a R Z
theorem F.ok(Y:K)(X:Fr)(Z:V)(g:F.g Y X Z):den prog E r (aZ E [.tmp 2] Y) X Z:=
 a8 g fun S a R b g=>cT 2 (s:=(aS r [W,W])) (by kernel_rfl) (gV.ok Y) (bO [(0,.slice S a R)] ⟨b,trivial⟩ (by kernel_rfl) g)
def t(S:U)(a R:Nat)(Z:V)(Y:K):Prop:=F.t Y S a R Z
theorem ok{S:U}{a:Nat}{R:Nat}{Z:V}{Y:K}(g:t S a R Z Y):aF id #[.slice S a R] Z Y:=
 c7 c8 (L:=r) (cY:=[.tmp 2]) Tryz.func92 (by kernel_rfl) (by kernel_rfl) (by kernel_rfl) (args:=[.slice S a R]) (by kernel_rfl) (F.ok Y _ Z (k rfl (g)))
end lD
end Go.Proofs.YtllhckjfhefcdaaGreatDoor.G
