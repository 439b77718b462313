import Derived.Test.YtllhckjfhefcdaaGreatDoorKE
namespace Go.Proofs.YtllhckjfhefcdaaGreatDoor.G
open Go.Gv
set_option linter.unusedVariables false
set_option maxRecDepth 100000
namespace kL
noncomputable def r:Code:=c6 Tryz.f93
def aC.t(Y:K)(Z:V):Prop:=
 Y (.int .i64 0) Z
def aC.g(Y:K)(X:Fr)(Z:V):Prop:=aC.t Y  Z
theorem aC.ok(Y:K)(X:Fr)(Z:V)(g:aC.g Y X Z):den prog E (aS r [W,W,W]) (aZ E [.tmp 4] Y) X Z:=
 bO [] trivial (by kernel_rfl) g
def bG.g(bN:U→Nat→Nat→U→Nat→Nat→Int→V→Prop)(X:Fr)(Z:V):Prop:=aG (X 0) fun S a R=>aG (X 1) fun b y c=>aV .i64 (X 5) fun d=>bN S a R b y c d Z
def b0.t(Y:K)(a:U→Nat→Nat→U→Nat→Nat→Int→V→Prop)(S:U)(b R:Nat)(c:U)(y d:Nat)(e:Int)(Z:V):Prop:=
 cond (decide (e≥0)) (cL S b e 1 fun f=>
 cI Z .u32 f fun f=>
 cL c y e 1 fun g=>
 cI Z .u32 g fun g=>
 cond (decide (f < g)) (Y (.int .i64 (-1)) Z) (cL S b e 1 fun f=>
 cI Z .u32 f fun f=>
 cL c y e 1 fun g=>
 cI Z .u32 g fun g=>
 cond (decide (f > g)) (Y (.int .i64 1) Z) (a2 (IntKind.i64.wrap (e - 1)) fun e=>
 a S b R c y d e Z))) (aC.t Y Z)
def b0.g(Y:K)(a:U→Nat→Nat→U→Nat→Nat→Int→V→Prop)(X:Fr)(Z:V):Prop:=aG (X 0) fun S b R=>aG (X 1) fun c y d=>aV .i64 (X 5) fun e=>b0.t Y a S b R c y d e Z
theorem b0.ok(Y:K)(a:U→Nat→Nat→U→Nat→Nat→Int→V→Prop)(X:Fr)(Z:V)(g:b0.g Y a X Z):den prog E (aS r [W,W,x,W,x,x]) (aH.then (bG.g a) (aH.inBlock 0 (aH.then (aC.g Y) (aZ E [.tmp 4] Y)))) X Z:=
 a8 g fun S a R b g=>a8 g fun c y d e g=>bM g fun f h g=>bO [(0,.slice S a R),(1,.slice c y d),(5,.int .i64 f)] ⟨b,e,h,trivial⟩ (by kernel_rfl) g
def bG.t(Y:K):Nat→U→Nat→Nat→U→Nat→Nat→Int→V→Prop
 | 0=>fun _ _ _ _ _ _ _ _=>False
 | n+1=>fun S a R b y c d Z=>b0.t Y (bG.t Y n) S a R b y c d Z
theorem bG.ok(Y:K)(X:Fr)(Z:V)(g:bG.g (fun S a R b y c d Z=>∃ n,bG.t Y n S a R b y c d Z) X Z):den prog E (aS r [W,W,x,W,x]) (aH.inBlock 0 (aH.then (aC.g Y) (aZ E [.tmp 4] Y))) X Z:=by
 obtain⟨S,a,R,e,g⟩:=bQ g
 obtain⟨b,y,c,f,g⟩:=bQ g
 obtain⟨d,h,g⟩:=bS g
 obtain⟨n,g⟩:=g
 refine e1 (fun n=>bG.g (bG.t Y n)) (N:=(aS r [W,W,x,W,x,x])) (by kernel_rfl) (fun X Z g=>?_) (fun n=>b0.ok Y (bG.t Y n)) n X Z (k e (k f (bI h (g))))
 obtain⟨S,a,R,e,g⟩:=bQ g
 obtain⟨b,y,c,f,g⟩:=bQ g
 obtain⟨d,h,g⟩:=bS g
 exact g
theorem eP.ok(Y:K)(X:Fr)(Z:V)(g:bG.g (fun S a R b y c d Z=>∃ n,bG.t Y n S a R b y c d Z) X Z):den prog E (aS r [W,W,x,W]) (aH.then (aC.g Y) (aZ E [.tmp 4] Y)) X Z:=
 eR (by kernel_rfl) (bG.ok Y X Z g)
def a7.t(Y:K)(S:U)(a R:Nat)(b:U)(y c:Nat)(Z:V):Prop:=
 a2 (IntKind.i64.wrap ((((a:Nat):Int)) - 1)) fun d=>(∃ n,bG.t Y n S a R b y c d Z)
def a7.g(Y:K)(X:Fr)(Z:V):Prop:=aG (X 0) fun S a R=>aG (X 1) fun b y c=>a7.t Y S a R b y c Z
theorem a7.ok(Y:K)(X:Fr)(Z:V)(g:a7.g Y X Z):den prog E (aS r [W,W,x]) (aH.then (aC.g Y) (aZ E [.tmp 4] Y)) X Z:=
 a8 g fun S a R b g=>a8 g fun c y d e g=>cT 1 (s:=(aS r [W,W,x,W])) (by kernel_rfl) (eP.ok Y) (bO [(0,.slice S a R),(1,.slice c y d)] ⟨b,e,trivial⟩ (by kernel_rfl) g)
theorem gV.ok(Y:K)(X:Fr)(Z:V)(g:a7.g Y X Z):den prog E (aS r [W,W]) (aZ E [.tmp 4] Y) X Z:=
 e5 (by kernel_rfl) (aC.ok Y) (a7.ok Y X Z g)
def F.t(Y:K)(S:U)(a R:Nat)(b:U)(y c:Nat)(Z:V):Prop:=
 cond ((((a:Nat):Int)) != (((y:Nat):Int))) (cond (decide ((((a:Nat):Int)) < (((y:Nat):Int)))) (Y (.int .i64 (-1)) Z) (Y (.int .i64 1) Z)) (a7.t Y S a R b y c Z)
def F.g(Y:K)(X:Fr)(Z:V):Prop:=aG (X 0) fun S a R=>aG (X 1) fun b y c=>F.t Y S a R b y c Z
theorem F.ok(Y:K)(X:Fr)(Z:V)(g:F.g Y X Z):den prog E r (aZ E [.tmp 4] Y) X Z:=
 a8 g fun S a R b g=>a8 g fun c y d e g=>cT 2 (s:=(aS r [W,W])) (by kernel_rfl) (gV.ok Y) (bO [(0,.slice S a R),(1,.slice c y d)] ⟨b,e,trivial⟩ (by kernel_rfl) g)
def t(S:U)(a R:Nat)(b:U)(y c:Nat)(Z:V)(Y:K):Prop:=F.t Y S a R b y c Z
theorem ok{S:U}{a:Nat}{R:Nat}{b:U}{y:Nat}{c:Nat}{Z:V}{Y:K}(g:t S a R b y c Z Y):aF id #[.slice S a R,.slice b y c] Z Y:=
 c7 c8 (L:=r) (cY:=[.tmp 4]) Tryz.func93 (by kernel_rfl) (by kernel_rfl) (by kernel_rfl) (args:=[.slice S a R,.slice b y c]) (by kernel_rfl) (F.ok Y _ Z (k rfl (k rfl (g))))
end kL
namespace iT
noncomputable def r:Code:=c6 Tryz.f94
def aC.t(Y:K)(a:U)(a5 b:Nat)(Z:V):Prop:=
 aF g5.id #[.slice a a5 b] Z fun a b=>
 aG a fun a c d=>
 Y (.slice a c d) b
def aC.g(Y:K)(X:Fr)(Z:V):Prop:=aG (X 5) fun a a5 b=>aC.t Y a a5 b Z
theorem aC.ok(Y:K)(X:Fr)(Z:V)(g:aC.g Y X Z):den prog E (aS r [W,W,W,W,W]) (aZ E [.tmp 4] Y) X Z:=
 a8 g fun a a5 b c g=>bO [(5,.slice a a5 b)] ⟨c,trivial⟩ (by kernel_rfl) g
def bG.g(bN:U→Nat→Nat→U→Nat→Nat→U→Nat→Nat→Int→Int→V→Prop)(X:Fr)(Z:V):Prop:=aG (X 0) fun S a R=>aG (X 1) fun b y c=>aG (X 5) fun d a5 e=>aV .u64 (X 6) fun f=>aV .i64 (X 7) fun h=>bN S a R b y c d a5 e f h Z
def b0.t(Y:K)(a:U→Nat→Nat→U→Nat→Nat→U→Nat→Nat→Int→Int→V→Prop)(S:U)(b R:Nat)(c:U)(y d:Nat)(e:U)(a5 f:Nat)(g h:Int)(Z:V):Prop:=
 cond (decide (h < (((b:Nat):Int)))) (cond (decide (h < (((y:Nat):Int)))) (cL c y h 1 fun i=>
 cI Z .u32 i fun i=>
 a2 (IntKind.u64.wrap i) fun i=>
 a2 (IntKind.u64.wrap (g+i)) fun i=>
 cL S b h 1 fun j=>
 cI Z .u32 j fun j=>
 a2 (IntKind.u64.wrap j) fun j=>
 cond (decide (j < i)) (a2 (IntKind.u64.wrap (j+4294967296)) fun l=>
 a2 (IntKind.u64.wrap (l - i)) fun l=>
 a2 (IntKind.u32.wrap l) fun l=>
 b4 Z 82 [.int .u32 l] fun l m=>
 gW m 82 hW e a5 f (.slice (some l) 1 1) fun l m n v=>
 a2 (IntKind.i64.wrap (h+1)) fun D=>
 a S b R c y d l m n 1 D v) (a2 (IntKind.u64.wrap (j - i)) fun D=>
 a2 (IntKind.u32.wrap D) fun D=>
 b4 Z 82 [.int .u32 D] fun D i=>
 gW i 82 hW e a5 f (.slice (some D) 1 1) fun D i j l=>
 a2 (IntKind.i64.wrap (h+1)) fun m=>
 a S b R c y d D i j 0 m l)) (cL S b h 1 fun D=>
 cI Z .u32 D fun D=>
 a2 (IntKind.u64.wrap D) fun D=>
 cond (decide (D < g)) (a2 (IntKind.u64.wrap (D+4294967296)) fun i=>
 a2 (IntKind.u64.wrap (i - g)) fun i=>
 a2 (IntKind.u32.wrap i) fun i=>
 b4 Z 82 [.int .u32 i] fun i j=>
 gW j 82 hW e a5 f (.slice (some i) 1 1) fun i j l m=>
 a2 (IntKind.i64.wrap (h+1)) fun n=>
 a S b R c y d i j l 1 n m) (a2 (IntKind.u64.wrap (D - g)) fun D=>
 a2 (IntKind.u32.wrap D) fun D=>
 b4 Z 82 [.int .u32 D] fun D g=>
 gW g 82 hW e a5 f (.slice (some D) 1 1) fun D g i j=>
 a2 (IntKind.i64.wrap (h+1)) fun h=>
 a S b R c y d D g i 0 h j))) (aC.t Y e a5 f Z)
def b0.g(Y:K)(a:U→Nat→Nat→U→Nat→Nat→U→Nat→Nat→Int→Int→V→Prop)(X:Fr)(Z:V):Prop:=aG (X 0) fun S b R=>aG (X 1) fun c y d=>aG (X 5) fun e a5 f=>aV .u64 (X 6) fun h=>aV .i64 (X 7) fun i=>b0.t Y a S b R c y d e a5 f h i Z
theorem b0.ok(Y:K)(a:U→Nat→Nat→U→Nat→Nat→U→Nat→Nat→Int→Int→V→Prop)(X:Fr)(Z:V)(g:b0.g Y a X Z):den prog E (aS r [W,W,W,W,x,W,x,x]) (aH.then (bG.g a) (aH.inBlock 0 (aH.then (aC.g Y) (aZ E [.tmp 4] Y)))) X Z:=
 a8 g fun S a R b g=>a8 g fun c y d e g=>a8 g fun f a5 h i g=>bM g fun j l g=>bM g fun m n g=>bO [(0,.slice S a R),(1,.slice c y d),(5,.slice f a5 h),(6,.int .u64 j),(7,.int .i64 m)] ⟨b,e,i,l,n,trivial⟩ (by kernel_rfl) g
def bG.t(Y:K):Nat→U→Nat→Nat→U→Nat→Nat→U→Nat→Nat→Int→Int→V→Prop
 | 0=>fun _ _ _ _ _ _ _ _ _ _ _ _=>False
 | n+1=>fun S a R b y c d a5 e f g Z=>b0.t Y (bG.t Y n) S a R b y c d a5 e f g Z
theorem bG.ok(Y:K)(X:Fr)(Z:V)(g:bG.g (fun S a R b y c d a5 e f h Z=>∃ n,bG.t Y n S a R b y c d a5 e f h Z) X Z):den prog E (aS r [W,W,W,W,x,W,x]) (aH.inBlock 0 (aH.then (aC.g Y) (aZ E [.tmp 4] Y))) X Z:=by
 obtain⟨S,a,R,i,g⟩:=bQ g
 obtain⟨b,y,c,j,g⟩:=bQ g
 obtain⟨d,a5,e,l,g⟩:=bQ g
 obtain⟨f,m,g⟩:=bS g
 obtain⟨h,v,g⟩:=bS g
 obtain⟨n,g⟩:=g
 refine e1 (fun n=>bG.g (bG.t Y n)) (N:=(aS r [W,W,W,W,x,W,x,x])) (by kernel_rfl) (fun X Z g=>?_) (fun n=>b0.ok Y (bG.t Y n)) n X Z (k i (k j (k l (bI m (bI v (g))))))
 obtain⟨S,a,R,i,g⟩:=bQ g
 obtain⟨b,y,c,j,g⟩:=bQ g
 obtain⟨d,a5,e,l,g⟩:=bQ g
 obtain⟨f,m,g⟩:=bS g
 obtain⟨h,v,g⟩:=bS g
 exact g
theorem eP.ok(Y:K)(X:Fr)(Z:V)(g:bG.g (fun S a R b y c d a5 e f h Z=>∃ n,bG.t Y n S a R b y c d a5 e f h Z) X Z):den prog E (aS r [W,W,W,W,x,W]) (aH.then (aC.g Y) (aZ E [.tmp 4] Y)) X Z:=
 eR (by kernel_rfl) (bG.ok Y X Z g)
def a7.t(Y:K)(S:U)(a R:Nat)(b:U)(y c:Nat)(d:U)(a5 e:Nat)(f:Int)(Z:V):Prop:=
 (∃ n,bG.t Y n S a R b y c d a5 e f 0 Z)
def a7.g(Y:K)(X:Fr)(Z:V):Prop:=aG (X 0) fun S a R=>aG (X 1) fun b y c=>aG (X 5) fun d a5 e=>aV .u64 (X 6) fun f=>a7.t Y S a R b y c d a5 e f Z
theorem a7.ok(Y:K)(X:Fr)(Z:V)(g:a7.g Y X Z):den prog E (aS r [W,W,W,W,x]) (aH.then (aC.g Y) (aZ E [.tmp 4] Y)) X Z:=
 a8 g fun S a R b g=>a8 g fun c y d e g=>a8 g fun f a5 h i g=>bM g fun j l g=>cT 1 (s:=(aS r [W,W,W,W,x,W])) (by kernel_rfl) (eP.ok Y) (bO [(0,.slice S a R),(1,.slice c y d),(5,.slice f a5 h),(6,.int .u64 j)] ⟨b,e,i,l,trivial⟩ (by kernel_rfl) g)
theorem gV.ok(Y:K)(X:Fr)(Z:V)(g:a7.g Y X Z):den prog E (aS r [W,W,W,W]) (aZ E [.tmp 4] Y) X Z:=
 e5 (by kernel_rfl) (aC.ok Y) (a7.ok Y X Z g)
def F.t(Y:K)(S:U)(a R:Nat)(b:U)(y c:Nat)(Z:V):Prop:=
 aF kL.id #[.slice S a R,.slice b y c] Z fun d e=>
 aV .i64 d fun d=>
 cond (decide (d≤0)) (aF jP.id #[.int .u64 0] e fun d f=>
 aG d fun d g h=>
 Y (.slice d g h) f) (h8 e 82 hW 0 (((a:Nat):Int)) fun d e=>
 a7.t Y S a R b y c (some d) ((0:Int).toNat) ((((a:Nat):Int)).toNat) 0 e)
def F.g(Y:K)(X:Fr)(Z:V):Prop:=aG (X 0) fun S a R=>aG (X 1) fun b y c=>F.t Y S a R b y c Z
theorem F.ok(Y:K)(X:Fr)(Z:V)(g:F.g Y X Z):den prog E r (aZ E [.tmp 4] Y) X Z:=
 a8 g fun S a R b g=>a8 g fun c y d e g=>cT 4 (s:=(aS r [W,W,W,W])) (by kernel_rfl) (gV.ok Y) (bO [(0,.slice S a R),(1,.slice c y d)] ⟨b,e,trivial⟩ (by kernel_rfl) g)
def t(S:U)(a R:Nat)(b:U)(y c:Nat)(Z:V)(Y:K):Prop:=F.t Y S a R b y c Z
theorem ok{S:U}{a:Nat}{R:Nat}{b:U}{y:Nat}{c:Nat}{Z:V}{Y:K}(g:t S a R b y c Z Y):aF id #[.slice S a R,.slice b y c] Z Y:=
 c7 c8 (L:=r) (cY:=[.tmp 4]) Tryz.func94 (by kernel_rfl) (by kernel_rfl) (by kernel_rfl) (args:=[.slice S a R,.slice b y c]) (by kernel_rfl) (F.ok Y _ Z (k rfl (k rfl (g))))
end iT
namespace iF
noncomputable def r:Code:=c6 Tryz.f95
def aC.t(Y:K)(a:U)(a5 b:Nat)(Z:V):Prop:=
 aF g5.id #[.slice a a5 b] Z fun a b=>
 aG a fun a c d=>
 Y (.slice a c d) b
def aC.g(Y:K)(X:Fr)(Z:V):Prop:=aG (X 5) fun a a5 b=>aC.t Y a a5 b Z
theorem aC.ok(Y:K)(X:Fr)(Z:V)(g:aC.g Y X Z):den prog E (aS r [W,W,W]) (aZ E [.tmp 4] Y) X Z:=
 a8 g fun a a5 b c g=>bO [(5,.slice a a5 b)] ⟨c,trivial⟩ (by kernel_rfl) g
def bG.g(bN:U→Nat→Nat→U→Nat→Nat→U→Nat→Nat→Int→V→Prop)(X:Fr)(Z:V):Prop:=aG (X 0) fun S a R=>aG (X 1) fun b y c=>aG (X 5) fun d a5 e=>aV .i64 (X 6) fun f=>bN S a R b y c d a5 e f Z
def dD.t(Y:K)(a:U→Nat→Nat→U→Nat→Nat→U→Nat→Nat→Int→V→Prop)(S:U)(b R:Nat)(c:U)(y d:Nat)(e:U)(a5 f:Nat)(g:Int)(Z:V):Prop:=
 a2 (IntKind.i64.wrap (g+1)) fun g=>a S b R c y d e a5 f g Z
def dD.g(Y:K)(a:U→Nat→Nat→U→Nat→Nat→U→Nat→Nat→Int→V→Prop)(X:Fr)(Z:V):Prop:=aG (X 0) fun S b R=>aG (X 1) fun c y d=>aG (X 5) fun e a5 f=>aV .i64 (X 6) fun h=>dD.t Y a S b R c y d e a5 f h Z
theorem dD.ok(Y:K)(a:U→Nat→Nat→U→Nat→Nat→U→Nat→Nat→Int→V→Prop)(X:Fr)(Z:V)(g:dD.g Y a X Z):den prog E (aS r [W,W,x,W,x,x,W,W]) (aH.then (bG.g a) (aH.inBlock 0 (aH.then (aC.g Y) (aZ E [.tmp 4] Y)))) X Z:=
 a8 g fun S a R b g=>a8 g fun c y d e g=>a8 g fun f a5 h i g=>bM g fun j l g=>bO [(0,.slice S a R),(1,.slice c y d),(5,.slice f a5 h),(6,.int .i64 j)] ⟨b,e,i,l,trivial⟩ (by kernel_rfl) g
def eL.t(Y:K)(a:U→Nat→Nat→U→Nat→Nat→U→Nat→Nat→Int→V→Prop)(S:U)(b R:Nat)(c:U)(y d:Nat)(e:U)(a5 f:Nat)(g h:Int)(Z:V):Prop:=
 a2 (IntKind.i64.wrap (g+(((y:Nat):Int)))) fun i=>
 a2 (IntKind.u32.wrap h) fun h=>
 cL e a5 i 1 fun i=>
 aW Z i (.int .u32 h) fun h=>
 dD.t Y a S b R c y d e a5 f g h
def eL.g(Y:K)(a:U→Nat→Nat→U→Nat→Nat→U→Nat→Nat→Int→V→Prop)(X:Fr)(Z:V):Prop:=aG (X 0) fun S b R=>aG (X 1) fun c y d=>aG (X 5) fun e a5 f=>aV .i64 (X 6) fun h=>aV .u64 (X 7) fun i=>eL.t Y a S b R c y d e a5 f h i Z
theorem eL.ok(Y:K)(a:U→Nat→Nat→U→Nat→Nat→U→Nat→Nat→Int→V→Prop)(X:Fr)(Z:V)(g:eL.g Y a X Z):den prog E (aS r [W,W,x,W,x,x,W,x,x,W,W,W]) (aH.inBlock 1 (aH.then (dD.g Y a) (aH.then (bG.g a) (aH.inBlock 0 (aH.then (aC.g Y) (aZ E [.tmp 4] Y)))))) X Z:=
 a8 g fun S a R b g=>a8 g fun c y d e g=>a8 g fun f a5 h i g=>bM g fun j l g=>bM g fun m n g=>bO [(0,.slice S a R),(1,.slice c y d),(5,.slice f a5 h),(6,.int .i64 j),(7,.int .u64 m)] ⟨b,e,i,l,n,trivial⟩ (by kernel_rfl) g
def hE.g(bN:U→Nat→Nat→U→Nat→Nat→U→Nat→Nat→Int→Int→Int→Int→V→Prop)(X:Fr)(Z:V):Prop:=aG (X 0) fun S a R=>aG (X 1) fun b y c=>aG (X 5) fun d a5 e=>aV .i64 (X 6) fun f=>aV .u64 (X 7) fun h=>aV .u64 (X 8) fun i=>aV .i64 (X 9) fun j=>bN S a R b y c d a5 e f h i j Z
def lE.t(Y:K)(a:U→Nat→Nat→U→Nat→Nat→U→Nat→Nat→Int→V→Prop)(b:U→Nat→Nat→U→Nat→Nat→U→Nat→Nat→Int→Int→Int→Int→V→Prop)(S:U)(c R:Nat)(d:U)(y e:Nat)(f:U)(a5 g:Nat)(h i:Int)(j l:Int)(Z:V):Prop:=
 cond (decide (l < (((y:Nat):Int)))) (a2 (IntKind.i64.wrap (h+l)) fun m=>
 cL f a5 m 1 fun m=>
 cI Z .u32 m fun m=>
 a2 (IntKind.u64.wrap m) fun m=>
 cL d y l 1 fun n=>
 cI Z .u32 n fun n=>
 a2 (IntKind.u64.wrap n) fun n=>
 a2 (IntKind.u64.wrap (j*n)) fun n=>
 a2 (IntKind.u64.wrap (m+n)) fun m=>
 a2 (IntKind.u64.wrap (i+m)) fun m=>
 a2 (IntKind.i64.wrap (h+l)) fun n=>
 a2 (iG .u64 m 4294967295) fun v=>
 a2 (IntKind.u32.wrap v) fun v=>
 cL f a5 n 1 fun n=>
 aW Z n (.int .u32 v) fun n=>
 0≤(32:Int)∧a2 (gL .u64 m 32) fun m=>
 a2 (IntKind.i64.wrap (l+1)) fun l=>
 b S c R d y e f a5 g h m j l n) (eL.t Y a S c R d y e f a5 g h i Z)
def lE.g(Y:K)(a:U→Nat→Nat→U→Nat→Nat→U→Nat→Nat→Int→V→Prop)(b:U→Nat→Nat→U→Nat→Nat→U→Nat→Nat→Int→Int→Int→Int→V→Prop)(X:Fr)(Z:V):Prop:=aG (X 0) fun S c R=>aG (X 1) fun d y e=>aG (X 5) fun f a5 h=>aV .i64 (X 6) fun i=>aV .u64 (X 7) fun j=>aV .u64 (X 8) fun l=>aV .i64 (X 9) fun m=>lE.t Y a b S c R d y e f a5 h i j l m Z
theorem lE.ok(Y:K)(a:U→Nat→Nat→U→Nat→Nat→U→Nat→Nat→Int→V→Prop)(b:U→Nat→Nat→U→Nat→Nat→U→Nat→Nat→Int→Int→Int→Int→V→Prop)(X:Fr)(Z:V)(g:lE.g Y a b X Z):den prog E (aS r [W,W,x,W,x,x,W,x,x,W,W,x,W,x,x]) (aH.then (hE.g b) (aH.inBlock 2 (aH.then (eL.g Y a) (aH.inBlock 1 (aH.then (dD.g Y a) (aH.then (bG.g a) (aH.inBlock 0 (aH.then (aC.g Y) (aZ E [.tmp 4] Y))))))))) X Z:=
 a8 g fun S a R b g=>a8 g fun c y d e g=>a8 g fun f a5 h i g=>bM g fun j l g=>bM g fun m n g=>bM g fun t v g=>bM g fun D G g=>bO [(0,.slice S a R),(1,.slice c y d),(5,.slice f a5 h),(6,.int .i64 j),(7,.int .u64 m),(8,.int .u64 t),(9,.int .i64 D)] ⟨b,e,i,l,n,v,G,trivial⟩ (by kernel_rfl) g
def hE.t(Y:K)(a:U→Nat→Nat→U→Nat→Nat→U→Nat→Nat→Int→V→Prop):Nat→U→Nat→Nat→U→Nat→Nat→U→Nat→Nat→Int→Int→Int→Int→V→Prop
 | 0=>fun _ _ _ _ _ _ _ _ _ _ _ _ _ _=>False
 | n+1=>fun S b R c y d e a5 f g h i j Z=>lE.t Y a (hE.t Y a n) S b R c y d e a5 f g h i j Z
theorem hE.ok(Y:K)(a:U→Nat→Nat→U→Nat→Nat→U→Nat→Nat→Int→V→Prop)(X:Fr)(Z:V)(g:hE.g (fun S b R c y d e a5 f h i j l Z=>∃ n,hE.t Y a n S b R c y d e a5 f h i j l Z) X Z):den prog E (aS r [W,W,x,W,x,x,W,x,x,W,W,x,W,x]) (aH.inBlock 2 (aH.then (eL.g Y a) (aH.inBlock 1 (aH.then (dD.g Y a) (aH.then (bG.g a) (aH.inBlock 0 (aH.then (aC.g Y) (aZ E [.tmp 4] Y)))))))) X Z:=by
 obtain⟨S,b,R,m,g⟩:=bQ g
 obtain⟨c,y,d,v,g⟩:=bQ g
 obtain⟨e,a5,f,D,g⟩:=bQ g
 obtain⟨h,G,g⟩:=bS g
 obtain⟨i,H,g⟩:=bS g
 obtain⟨j,P,g⟩:=bS g
 obtain⟨l,K5,g⟩:=bS g
 obtain⟨n,g⟩:=g
 refine e1 (fun n=>hE.g (hE.t Y a n)) (N:=(aS r [W,W,x,W,x,x,W,x,x,W,W,x,W,x,x])) (by kernel_rfl) (fun X Z g=>?_) (fun n=>lE.ok Y a (hE.t Y a n)) n X Z (k m (k v (k D (bI G (bI H (bI P (bI K5 (g))))))))
 obtain⟨S,b,R,m,g⟩:=bQ g
 obtain⟨c,y,d,v,g⟩:=bQ g
 obtain⟨e,a5,f,D,g⟩:=bQ g
 obtain⟨h,G,g⟩:=bS g
 obtain⟨i,H,g⟩:=bS g
 obtain⟨j,P,g⟩:=bS g
 obtain⟨l,K5,g⟩:=bS g
 exact g
theorem pV.ok(Y:K)(a:U→Nat→Nat→U→Nat→Nat→U→Nat→Nat→Int→V→Prop)(X:Fr)(Z:V)(g:hE.g (fun S b R c y d e a5 f h i j l Z=>∃ n,hE.t Y a n S b R c y d e a5 f h i j l Z) X Z):den prog E (aS r [W,W,x,W,x,x,W,x,x,W,W,x,W]) (aH.then (eL.g Y a) (aH.inBlock 1 (aH.then (dD.g Y a) (aH.then (bG.g a) (aH.inBlock 0 (aH.then (aC.g Y) (aZ E [.tmp 4] Y))))))) X Z:=
 eR (by kernel_rfl) (hE.ok Y a X Z g)
def gJ.t(Y:K)(a:U→Nat→Nat→U→Nat→Nat→U→Nat→Nat→Int→V→Prop)(S:U)(b R:Nat)(c:U)(y d:Nat)(e:U)(a5 f:Nat)(g h i:Int)(Z:V):Prop:=
 (∃ n,hE.t Y a n S b R c y d e a5 f g h i 0 Z)
def gJ.g(Y:K)(a:U→Nat→Nat→U→Nat→Nat→U→Nat→Nat→Int→V→Prop)(X:Fr)(Z:V):Prop:=aG (X 0) fun S b R=>aG (X 1) fun c y d=>aG (X 5) fun e a5 f=>aV .i64 (X 6) fun h=>aV .u64 (X 7) fun i=>aV .u64 (X 8) fun j=>gJ.t Y a S b R c y d e a5 f h i j Z
theorem gJ.ok(Y:K)(a:U→Nat→Nat→U→Nat→Nat→U→Nat→Nat→Int→V→Prop)(X:Fr)(Z:V)(g:gJ.g Y a X Z):den prog E (aS r [W,W,x,W,x,x,W,x,x,W,W,x]) (aH.then (eL.g Y a) (aH.inBlock 1 (aH.then (dD.g Y a) (aH.then (bG.g a) (aH.inBlock 0 (aH.then (aC.g Y) (aZ E [.tmp 4] Y))))))) X Z:=
 a8 g fun S b R c g=>a8 g fun d y e f g=>a8 g fun h a5 i j g=>bM g fun l m g=>bM g fun n t g=>bM g fun v D g=>cT 1 (s:=(aS r [W,W,x,W,x,x,W,x,x,W,W,x,W])) (by kernel_rfl) (pV.ok Y a) (bO [(0,.slice S b R),(1,.slice d y e),(5,.slice h a5 i),(6,.int .i64 l),(7,.int .u64 n),(8,.int .u64 v)] ⟨c,f,j,m,t,D,trivial⟩ (by kernel_rfl) g)
theorem rQ.ok(Y:K)(a:U→Nat→Nat→U→Nat→Nat→U→Nat→Nat→Int→V→Prop)(X:Fr)(Z:V)(g:gJ.g Y a X Z):den prog E (aS r [W,W,x,W,x,x,W,x,x,W,W]) (aH.inBlock 1 (aH.then (dD.g Y a) (aH.then (bG.g a) (aH.inBlock 0 (aH.then (aC.g Y) (aZ E [.tmp 4] Y)))))) X Z:=
 e5 (by kernel_rfl) (eL.ok Y a) (gJ.ok Y a X Z g)
def eC.t(Y:K)(a:U→Nat→Nat→U→Nat→Nat→U→Nat→Nat→Int→V→Prop)(S:U)(b R:Nat)(c:U)(y d:Nat)(e:U)(a5 f:Nat)(g:Int)(Z:V):Prop:=
 cL S b g 1 fun h=>
 cI Z .u32 h fun h=>
 a2 (IntKind.u64.wrap h) fun h=>
 gJ.t Y a S b R c y d e a5 f g 0 h Z
def eC.g(Y:K)(a:U→Nat→Nat→U→Nat→Nat→U→Nat→Nat→Int→V→Prop)(X:Fr)(Z:V):Prop:=aG (X 0) fun S b R=>aG (X 1) fun c y d=>aG (X 5) fun e a5 f=>aV .i64 (X 6) fun h=>eC.t Y a S b R c y d e a5 f h Z
theorem eC.ok(Y:K)(a:U→Nat→Nat→U→Nat→Nat→U→Nat→Nat→Int→V→Prop)(X:Fr)(Z:V)(g:eC.g Y a X Z):den prog E (aS r [W,W,x,W,x,x,W,x,x]) (aH.inBlock 1 (aH.then (dD.g Y a) (aH.then (bG.g a) (aH.inBlock 0 (aH.then (aC.g Y) (aZ E [.tmp 4] Y)))))) X Z:=
 a8 g fun S b R c g=>a8 g fun d y e f g=>a8 g fun h a5 i j g=>bM g fun l m g=>cT 2 (s:=(aS r [W,W,x,W,x,x,W,x,x,W,W])) (by kernel_rfl) (rQ.ok Y a) (bO [(0,.slice S b R),(1,.slice d y e),(5,.slice h a5 i),(6,.int .i64 l)] ⟨c,f,j,m,trivial⟩ (by kernel_rfl) g)
theorem rR.ok(Y:K)(a:U→Nat→Nat→U→Nat→Nat→U→Nat→Nat→Int→V→Prop)(X:Fr)(Z:V)(g:eC.g Y a X Z):den prog E (aS r [W,W,x,W,x,x,W,x]) (aH.then (dD.g Y a) (aH.then (bG.g a) (aH.inBlock 0 (aH.then (aC.g Y) (aZ E [.tmp 4] Y))))) X Z:=
 eR (by kernel_rfl) (eC.ok Y a X Z g)
theorem uH.ok(Y:K)(a:U→Nat→Nat→U→Nat→Nat→U→Nat→Nat→Int→V→Prop)(X:Fr)(Z:V)(g:eC.g Y a X Z):den prog E (aS r [W,W,x,W,x,x,W]) (aH.then (bG.g a) (aH.inBlock 0 (aH.then (aC.g Y) (aZ E [.tmp 4] Y)))) X Z:=
 e5 (by kernel_rfl) (dD.ok Y a) (rR.ok Y a X Z g)
def b0.t(Y:K)(a:U→Nat→Nat→U→Nat→Nat→U→Nat→Nat→Int→V→Prop)(S:U)(b R:Nat)(c:U)(y d:Nat)(e:U)(a5 f:Nat)(g:Int)(Z:V):Prop:=
 cond (decide (g < (((b:Nat):Int)))) (eC.t Y a S b R c y d e a5 f g Z) (aC.t Y e a5 f Z)
def b0.g(Y:K)(a:U→Nat→Nat→U→Nat→Nat→U→Nat→Nat→Int→V→Prop)(X:Fr)(Z:V):Prop:=aG (X 0) fun S b R=>aG (X 1) fun c y d=>aG (X 5) fun e a5 f=>aV .i64 (X 6) fun h=>b0.t Y a S b R c y d e a5 f h Z
theorem b0.ok(Y:K)(a:U→Nat→Nat→U→Nat→Nat→U→Nat→Nat→Int→V→Prop)(X:Fr)(Z:V)(g:b0.g Y a X Z):den prog E (aS r [W,W,x,W,x,x]) (aH.then (bG.g a) (aH.inBlock 0 (aH.then (aC.g Y) (aZ E [.tmp 4] Y)))) X Z:=
 a8 g fun S b R c g=>a8 g fun d y e f g=>a8 g fun h a5 i j g=>bM g fun l m g=>cT 1 (s:=(aS r [W,W,x,W,x,x,W])) (by kernel_rfl) (uH.ok Y a) (bO [(0,.slice S b R),(1,.slice d y e),(5,.slice h a5 i),(6,.int .i64 l)] ⟨c,f,j,m,trivial⟩ (by kernel_rfl) g)
def bG.t(Y:K):Nat→U→Nat→Nat→U→Nat→Nat→U→Nat→Nat→Int→V→Prop
 | 0=>fun _ _ _ _ _ _ _ _ _ _ _=>False
 | n+1=>fun S a R b y c d a5 e f Z=>b0.t Y (bG.t Y n) S a R b y c d a5 e f Z
theorem bG.ok(Y:K)(X:Fr)(Z:V)(g:bG.g (fun S a R b y c d a5 e f Z=>∃ n,bG.t Y n S a R b y c d a5 e f Z) X Z):den prog E (aS r [W,W,x,W,x]) (aH.inBlock 0 (aH.then (aC.g Y) (aZ E [.tmp 4] Y))) X Z:=by
 obtain⟨S,a,R,h,g⟩:=bQ g
 obtain⟨b,y,c,i,g⟩:=bQ g
 obtain⟨d,a5,e,j,g⟩:=bQ g
 obtain⟨f,l,g⟩:=bS g
 obtain⟨n,g⟩:=g
 refine e1 (fun n=>bG.g (bG.t Y n)) (N:=(aS r [W,W,x,W,x,x])) (by kernel_rfl) (fun X Z g=>?_) (fun n=>b0.ok Y (bG.t Y n)) n X Z (k h (k i (k j (bI l (g)))))
 obtain⟨S,a,R,h,g⟩:=bQ g
 obtain⟨b,y,c,i,g⟩:=bQ g
 obtain⟨d,a5,e,j,g⟩:=bQ g
 obtain⟨f,l,g⟩:=bS g
 exact g
theorem w1.ok(Y:K)(X:Fr)(Z:V)(g:bG.g (fun S a R b y c d a5 e f Z=>∃ n,bG.t Y n S a R b y c d a5 e f Z) X Z):den prog E (aS r [W,W,x,W]) (aH.then (aC.g Y) (aZ E [.tmp 4] Y)) X Z:=
 eR (by kernel_rfl) (bG.ok Y X Z g)
def a7.t(Y:K)(S:U)(a R:Nat)(b:U)(y c:Nat)(d:U)(a5 e:Nat)(Z:V):Prop:=
 (∃ n,bG.t Y n S a R b y c d a5 e 0 Z)
def a7.g(Y:K)(X:Fr)(Z:V):Prop:=aG (X 0) fun S a R=>aG (X 1) fun b y c=>aG (X 5) fun d a5 e=>a7.t Y S a R b y c d a5 e Z
theorem a7.ok(Y:K)(X:Fr)(Z:V)(g:a7.g Y X Z):den prog E (aS r [W,W,x]) (aH.then (aC.g Y) (aZ E [.tmp 4] Y)) X Z:=
 a8 g fun S a R b g=>a8 g fun c y d e g=>a8 g fun f a5 h i g=>cT 1 (s:=(aS r [W,W,x,W])) (by kernel_rfl) (w1.ok Y) (bO [(0,.slice S a R),(1,.slice c y d),(5,.slice f a5 h)] ⟨b,e,i,trivial⟩ (by kernel_rfl) g)
theorem Bf.ok(Y:K)(X:Fr)(Z:V)(g:a7.g Y X Z):den prog E (aS r [W,W]) (aZ E [.tmp 4] Y) X Z:=
 e5 (by kernel_rfl) (aC.ok Y) (a7.ok Y X Z g)
def F.t(Y:K)(S:U)(a R:Nat)(b:U)(y c:Nat)(Z:V):Prop:=
 a2 (IntKind.i64.wrap ((((a:Nat):Int))+(((y:Nat):Int)))) fun d=>
 h8 Z 82 hW d d fun e f=>
 a7.t Y S a R b y c (some e) d.toNat d.toNat f
def F.g(Y:K)(X:Fr)(Z:V):Prop:=aG (X 0) fun S a R=>aG (X 1) fun b y c=>F.t Y S a R b y c Z
theorem F.ok(Y:K)(X:Fr)(Z:V)(g:F.g Y X Z):den prog E r (aZ E [.tmp 4] Y) X Z:=
 a8 g fun S a R b g=>a8 g fun c y d e g=>cT 2 (s:=(aS r [W,W])) (by kernel_rfl) (Bf.ok Y) (bO [(0,.slice S a R),(1,.slice c y d)] ⟨b,e,trivial⟩ (by kernel_rfl) g)
def t(S:U)(a R:Nat)(b:U)(y c:Nat)(Z:V)(Y:K):Prop:=F.t Y S a R b y c Z
theorem ok{S:U}{a:Nat}{R:Nat}{b:U}{y:Nat}{c:Nat}{Z:V}{Y:K}(g:t S a R b y c Z Y):aF id #[.slice S a R,.slice b y c] Z Y:=
 c7 c8 (L:=r) (cY:=[.tmp 4]) Tryz.func95 (by kernel_rfl) (by kernel_rfl) (by kernel_rfl) (args:=[.slice S a R,.slice b y c]) (by kernel_rfl) (F.ok Y _ Z (k rfl (k rfl (g))))
end iF
namespace nG
noncomputable def r:Code:=c6 Tryz.f96
def aC.t(Y:K)(a b c:Addr)(d:U)(e f:Nat)(g:U)(h i:Nat)(Z:V):Prop:=
 aF jP.id #[.int .u64 1] Z fun j l=>
 aG j fun j m n=>
 (cG Z.size Z l)∧aF iE.id #[.slice d e f,.slice j m n] l fun d e=>
 aG d fun d f j=>
 (cG Z.size l e)∧aF fK.id #[.bool true,.slice d f j] e fun d f=>
 bU d fun d=>
 cF d fun d j=>
 b6 j fun j l m n=>
 bC n <| (cG Z.size e f)∧(a.add 1).block < Z.size∧a6 f (a.add 1) fun a e n=>
 aF iT.id #[.slice a e n,.slice g h i] f fun a e=>
 aG a fun a g h=>
 (cG Z.size f e)∧aF fK.id #[.bool false,.slice a g h] e fun a f=>
 bU a fun a=>
 cF a fun a g=>
 b6 g fun g h i n=>
 bC n <| (cG Z.size e f)∧aW f (b.add 0) (.bool d) fun d=>
 aW d (b.add 1) (.slice j l m) fun d=>
 aW d (c.add 0) (.bool a) fun a=>
 aW a (c.add 1) (.slice g h i) fun a=>
 bB a (b.add 0) fun d=>
 a6 a (b.add 1) fun b e f=>
 bB a (c.add 0) fun g=>
 a6 a (c.add 1) fun c h i=>
 Y (.tuple #[.agg #[.bool d,.slice b e f],.agg #[.bool g,.slice c h i]]) a
def aC.g(Y:K)(X:Fr)(Z:V):Prop:=cJ (X 3) fun a=>cJ (X 4) fun b=>cJ (X 5) fun c=>aG (X 6) fun d e f=>aG (X 7) fun h i j=>aC.t Y a b c d e f h i j Z
theorem aC.ok(Y:K)(X:Fr)(Z:V)(g:aC.g Y X Z):den prog E (aS r [W,W,W,W]) (aZ E [.cell 4 37,.cell 5 37] Y) X Z:=
 cX g fun a b g=>cX g fun c d g=>cX g fun e f g=>a8 g fun h i j l g=>a8 g fun m n t v g=>bO [(3,.pointer (some a)),(4,.pointer (some c)),(5,.pointer (some e)),(6,.slice h i j),(7,.slice m n t)] ⟨b,d,f,l,v,trivial⟩ (by kernel_rfl) g
def F.t(Y:K)(a:Bool)(b:U)(c d:Nat)(aT:Bool)(e:U)(f g:Nat)(Z:V):Prop:=
 b4 Z 37 [.bool a,.slice b c d] fun a b=>
 b4 b 37 [.bool aT,.slice e f g] fun b c=>
 b4 c 37 gB.aK fun c d=>
 b4 d 37 gB.aK fun d e=>
 bB e (b.add 0) fun f=>
 a6 e (b.add 1) fun g h i=>
 aF jV.id #[.agg #[.bool f,.slice g h i]] e fun e f=>
 aV .i64 e fun e=>
 cond (decide (e≤0)) (aW f (c.add 0) (.bool false) fun e=>
 aW e (c.add 1) (.slice none 0 0) fun e=>
 aW e (d.add 0) (.bool false) fun e=>
 aW e (d.add 1) (.slice none 0 0) fun e=>
 bB e (c.add 0) fun g=>
 a6 e (c.add 1) fun h i j=>
 bB e (d.add 0) fun l=>
 a6 e (d.add 1) fun m n v=>
 Y (.tuple #[.agg #[.bool g,.slice h i j],.agg #[.bool l,.slice m n v]]) e) (a6 f (a.add 1) fun e g h=>
 a6 f (b.add 1) fun i j l=>
 aF iU.id #[.slice e g h,.slice i j l] f fun e f=>
 c0 e fun e=>
 b6 e fun e g h i=>
 b6 i fun i j l m=>
 bC m <| bB f (a.add 0) fun m=>
 cond (!m) (bB f (a.add 0) fun m=>
 aF fK.id #[.bool m,.slice e g h] f fun m n=>
 bU m fun m=>
 cF m fun m v=>
 b6 v fun v D E G=>
 bC G <| aF fK.id #[.bool false,.slice i j l] n fun G n=>
 bU G fun G=>
 cF G fun G H=>
 b6 H fun H P K5 K6=>
 bC K6 <| aW n (c.add 0) (.bool m) fun m=>
 aW m (c.add 1) (.slice v D E) fun D=>
 aW D (d.add 0) (.bool G) fun D=>
 aW D (d.add 1) (.slice H P K5) fun D=>
 bB D (c.add 0) fun E=>
 a6 D (c.add 1) fun G H P=>
 bB D (d.add 0) fun m=>
 a6 D (d.add 1) fun n v K5=>
 Y (.tuple #[.agg #[.bool E,.slice G H P],.agg #[.bool m,.slice n v K5]]) D) (cond ((((j:Nat):Int)) == 0) (bB f (a.add 0) fun D=>
 aF fK.id #[.bool D,.slice e g h] f fun D E=>
 bU D fun D=>
 cF D fun D G=>
 b6 G fun G H P a=>
 bC a <| aF fK.id #[.bool false,.slice i j l] E fun E a=>
 bU E fun E=>
 cF E fun E m=>
 b6 m fun m n v K5=>
 bC K5 <| aW a (c.add 0) (.bool D) fun D=>
 aW D (c.add 1) (.slice G H P) fun D=>
 aW D (d.add 0) (.bool E) fun D=>
 aW D (d.add 1) (.slice m n v) fun D=>
 bB D (c.add 0) fun E=>
 a6 D (c.add 1) fun G H P=>
 bB D (d.add 0) fun a=>
 a6 D (d.add 1) fun m n v=>
 Y (.tuple #[.agg #[.bool E,.slice G H P],.agg #[.bool a,.slice m n v]]) D) (aC.t Y b c d e g h i j l f)))
def F.g(Y:K)(X:Fr)(Z:V):Prop:=bU (X 0) fun a=>bR a fun a b=>b9 a fun a=>bR b fun b c=>aG b fun b d e=>bC c <| bU (X 1) fun dV=>bR dV fun c f=>b9 c fun aT=>bR f fun c f=>aG c fun c h i=>bC f <| F.t Y a b d e aT c h i Z
theorem F.ok(Y:K)(X:Fr)(Z:V)(g:F.g Y X Z):den prog E r (aZ E [.cell 4 37,.cell 5 37] Y) X Z:=by
 obtain⟨K6,a,b⟩:=eH g
 obtain⟨K7,K8,rfl,c⟩:=cH b
 obtain⟨d,rfl,e⟩:=dY c
 obtain⟨K9,La,rfl,f⟩:=cH e
 obtain⟨h,i,j,rfl,l⟩:=bQ f
 obtain⟨rfl,g⟩:=eD l
 obtain⟨dV,m,n⟩:=eH g
 obtain⟨Lb,Lc,rfl,t⟩:=cH n
 obtain⟨aT,rfl,v⟩:=dY t
 obtain⟨Ld,Le,rfl,D⟩:=cH v
 obtain⟨G,H,P,rfl,K5⟩:=bQ D
 obtain⟨rfl,g⟩:=eD K5
 exact cT 4 (s:=(aS r [W,W,W,W])) (by kernel_rfl) (aC.ok Y) (bO [(0,.agg #[.bool d,.slice h i j]),(1,.agg #[.bool aT,.slice G H P])] ⟨a,m,trivial⟩ (by kernel_rfl) g)
def t(a:Bool)(b:U)(c d:Nat)(aT:Bool)(e:U)(f g:Nat)(Z:V)(Y:K):Prop:=F.t Y a b c d aT e f g Z
theorem ok{a:Bool}{b:U}{c:Nat}{d:Nat}{aT:Bool}{e:U}{f:Nat}{h:Nat}{Z:V}{Y:K}(g:t a b c d aT e f h Z Y):aF id #[.agg #[.bool a,.slice b c d],.agg #[.bool aT,.slice e f h]] Z Y:=
 c7 c8 (L:=r) (cY:=[.cell 4 37,.cell 5 37]) Tryz.func96 (by kernel_rfl) (by kernel_rfl) (by kernel_rfl) (args:=[.agg #[.bool a,.slice b c d],.agg #[.bool aT,.slice e f h]]) (by kernel_rfl) (F.ok Y _ Z (bZ rfl (aM (aO rfl (aM (k rfl (bP (bZ rfl (aM (aO rfl (aM (k rfl (bP (g))))))))))))))
end nG
namespace nI
noncomputable def r:Code:=c6 Tryz.f97
def F.t(Y:K)(a:Bool)(b:U)(c d:Nat)(aT:Bool)(e:U)(f g:Nat)(Z:V):Prop:=
 b4 Z 37 [.bool a,.slice b c d] fun a b=>
 b4 b 37 [.bool aT,.slice e f g] fun b c=>
 b4 c 37 gB.aK fun c d=>
 bB d (a.add 0) fun e=>
 a6 d (a.add 1) fun a f g=>
 bB d (b.add 0) fun h=>
 a6 d (b.add 1) fun i j l=>
 aF nG.id #[.agg #[.bool e,.slice a f g],.agg #[.bool h,.slice i j l]] d fun a d=>
 c0 a fun a=>
 bR a fun a e=>
 bU a fun a=>
 cF a fun a f=>
 b6 f fun f g h i=>
 bC i <| bR e fun e i=>
 bU e fun e=>
 cF e fun e j=>
 b6 j fun j l m n=>
 bC n <| bC i <| b4 d 37 gB.aK fun d i=>
 b4 i 37 gB.aK fun i n=>
 aW n (d.add 0) (.bool a) fun a=>
 aW a (d.add 1) (.slice f g h) fun a=>
 aW a (i.add 0) (.bool e) fun a=>
 aW a (i.add 1) (.slice j l m) fun a=>
 i.block < a.size∧bB a (i.add 0) fun e=>
 a6 a (i.add 1) fun f g h=>
 aF nF.id #[.agg #[.bool e,.slice f g h],.int .i64 1] a fun e f=>
 bU e fun e=>
 cF e fun e g=>
 b6 g fun g h i j=>
 bC j <| (cG a.size a f)∧b.block < a.size∧bB f (b.add 0) fun j=>
 a6 f (b.add 1) fun b l m=>
 aF nH.id #[.agg #[.bool e,.slice g h i],.agg #[.bool j,.slice b l m]] f fun b e=>
 aV .i64 b fun b=>
 (cG a.size f e)∧cond (decide (b > 0)) (d.block < e.size∧bB e (d.add 0) fun a=>
 a6 e (d.add 1) fun f g h=>
 aF mO.id #[.int .i64 1] e fun i j=>
 bU i fun i=>
 cF i fun i l=>
 b6 l fun l m n v=>
 bC v <| (cG e.size e j)∧aF k2.id #[.agg #[.bool a,.slice f g h],.agg #[.bool i,.slice l m n]] j fun a f=>
 bU a fun a=>
 cF a fun a g=>
 b6 g fun g h i l=>
 bC l <| (cG e.size j f)∧aW f (c.add 0) (.bool a) fun a=>
 aW a (c.add 1) (.slice g h i) fun a=>
 bB a (c.add 0) fun f=>
 a6 a (c.add 1) fun g h i=>
 Y (.agg #[.bool f,.slice g h i]) a) (cond (b == 0) (bB e (d.add 0) fun a=>
 a6 e (d.add 1) fun b f g=>
 aF oO.id #[.agg #[.bool a,.slice b f g]] e fun a b=>
 b9 a fun a=>
 cond (!a) (d.block < b.size∧bB b (d.add 0) fun a=>
 a6 b (d.add 1) fun f g h=>
 aF mO.id #[.int .i64 1] b fun i j=>
 bU i fun i=>
 cF i fun i l=>
 b6 l fun l m n v=>
 bC v <| (cG b.size b j)∧aF k2.id #[.agg #[.bool a,.slice f g h],.agg #[.bool i,.slice l m n]] j fun a f=>
 bU a fun a=>
 cF a fun a g=>
 b6 g fun g h i l=>
 bC l <| (cG b.size j f)∧aW f (c.add 0) (.bool a) fun a=>
 aW a (c.add 1) (.slice g h i) fun a=>
 bB a (c.add 0) fun f=>
 a6 a (c.add 1) fun g h i=>
 Y (.agg #[.bool f,.slice g h i]) a) (bB b (d.add 0) fun a=>
 a6 b (d.add 1) fun f g h=>
 aW b (c.add 0) (.bool a) fun a=>
 aW a (c.add 1) (.slice f g h) fun a=>
 bB a (c.add 0) fun b=>
 a6 a (c.add 1) fun f g h=>
 Y (.agg #[.bool b,.slice f g h]) a)) (bB e (d.add 0) fun a=>
 a6 e (d.add 1) fun b d f=>
 aW e (c.add 0) (.bool a) fun a=>
 aW a (c.add 1) (.slice b d f) fun a=>
 bB a (c.add 0) fun b=>
 a6 a (c.add 1) fun c d e=>
 Y (.agg #[.bool b,.slice c d e]) a))
def F.g(Y:K)(X:Fr)(Z:V):Prop:=bU (X 0) fun a=>bR a fun a b=>b9 a fun a=>bR b fun b c=>aG b fun b d e=>bC c <| bU (X 1) fun dV=>bR dV fun c f=>b9 c fun aT=>bR f fun c f=>aG c fun c h i=>bC f <| F.t Y a b d e aT c h i Z
theorem F.ok(Y:K)(X:Fr)(Z:V)(g:F.g Y X Z):den prog E r (aZ E [.cell 4 37] Y) X Z:=by
 obtain⟨K6,a,b⟩:=eH g
 obtain⟨K7,K8,rfl,c⟩:=cH b
 obtain⟨d,rfl,e⟩:=dY c
 obtain⟨K9,La,rfl,f⟩:=cH e
 obtain⟨h,i,j,rfl,l⟩:=bQ f
 obtain⟨rfl,g⟩:=eD l
 obtain⟨dV,m,n⟩:=eH g
 obtain⟨Lb,Lc,rfl,t⟩:=cH n
 obtain⟨aT,rfl,v⟩:=dY t
 obtain⟨Ld,Le,rfl,D⟩:=cH v
 obtain⟨G,H,P,rfl,K5⟩:=bQ D
 obtain⟨rfl,g⟩:=eD K5
 exact bO [(0,.agg #[.bool d,.slice h i j]),(1,.agg #[.bool aT,.slice G H P])] ⟨a,m,trivial⟩ (by kernel_rfl) g
def t(a:Bool)(b:U)(c d:Nat)(aT:Bool)(e:U)(f g:Nat)(Z:V)(Y:K):Prop:=F.t Y a b c d aT e f g Z
theorem ok{a:Bool}{b:U}{c:Nat}{d:Nat}{aT:Bool}{e:U}{f:Nat}{h:Nat}{Z:V}{Y:K}(g:t a b c d aT e f h Z Y):aF id #[.agg #[.bool a,.slice b c d],.agg #[.bool aT,.slice e f h]] Z Y:=
 c7 c8 (L:=r) (cY:=[.cell 4 37]) Tryz.func97 (by kernel_rfl) (by kernel_rfl) (by kernel_rfl) (args:=[.agg #[.bool a,.slice b c d],.agg #[.bool aT,.slice e f h]]) (by kernel_rfl) (F.ok Y _ Z (bZ rfl (aM (aO rfl (aM (k rfl (bP (bZ rfl (aM (aO rfl (aM (k rfl (bP (g))))))))))))))
end nI
namespace lF
noncomputable def r:Code:=c6 Tryz.f98
def aC.t(Y:K)(S:U)(a R:Nat)(aQ:Int)(Z:V):Prop:=
 (32:Int) ≠ 0∧a2 (IntKind.i64.wrap (Int.tdiv aQ 32)) fun b=>
 (32:Int) ≠ 0∧a2 (IntKind.i64.wrap (Int.tdiv aQ 32)) fun c=>
 a2 (IntKind.i64.wrap (c+(((a:Nat):Int)))) fun c=>
 a2 (IntKind.i64.wrap (c+1)) fun c=>
 h8 Z 82 hW b c fun d e=>
 (32:Int) ≠ 0∧a2 (Int.tmod aQ 32) fun f=>
 0≤f∧a2 (jM .u32 1 f) fun f=>
 aF m4.id #[.slice S a R,.int .u32 f,.int .u32 0] e fun a e=>
 aG a fun a f g=>
 gW e 82 hW (some d) b.toNat c.toNat (.slice a f g) fun a b c d=>
 aF g5.id #[.slice a b c] d fun a b=>
 aG a fun a c d=>
 Y (.slice a c d) b
def aC.g(Y:K)(X:Fr)(Z:V):Prop:=aG (X 0) fun S a R=>aV .i64 (X 1) fun aQ=>aC.t Y S a R aQ Z
theorem aC.ok(Y:K)(X:Fr)(Z:V)(g:aC.g Y X Z):den prog E (aS r [W,W]) (aZ E [.tmp 4] Y) X Z:=
 a8 g fun S a R b g=>bM g fun aQ c g=>bO [(0,.slice S a R),(1,.int .i64 aQ)] ⟨b,c,trivial⟩ (by kernel_rfl) g
def F.t(Y:K)(S:U)(a R:Nat)(aQ:Int)(Z:V):Prop:=
 cond (decide (aQ≤0)) (aF g5.id #[.slice S a R] Z fun b c=>
 aG b fun b d e=>
 Y (.slice b d e) c) (cond ((((a:Nat):Int)) == 0) (aF g5.id #[.slice S a R] Z fun b c=>
 aG b fun b d e=>
 Y (.slice b d e) c) (aC.t Y S a R aQ Z))
def F.g(Y:K)(X:Fr)(Z:V):Prop:=aG (X 0) fun S a R=>aV .i64 (X 1) fun aQ=>F.t Y S a R aQ Z
theorem F.ok(Y:K)(X:Fr)(Z:V)(g:F.g Y X Z):den prog E r (aZ E [.tmp 4] Y) X Z:=
 a8 g fun S a R b g=>bM g fun aQ c g=>cT 2 (s:=(aS r [W,W])) (by kernel_rfl) (aC.ok Y) (bO [(0,.slice S a R),(1,.int .i64 aQ)] ⟨b,c,trivial⟩ (by kernel_rfl) g)
def t(S:U)(a R:Nat)(aQ:Int)(Z:V)(Y:K):Prop:=F.t Y S a R aQ Z
theorem ok{S:U}{a:Nat}{R:Nat}{aQ:Int}{Z:V}{Y:K}(g:t S a R aQ Z Y):aF id #[.slice S a R,.int .i64 aQ] Z Y:=
 c7 c8 (L:=r) (cY:=[.tmp 4]) Tryz.func98 (by kernel_rfl) (by kernel_rfl) (by kernel_rfl) (args:=[.slice S a R,.int .i64 aQ]) (by kernel_rfl) (F.ok Y _ Z (k rfl (bI rfl (g))))
end lF
namespace nW
noncomputable def r:Code:=c6 Tryz.f99
def F.t(Y:K)(S:U)(a R:Nat)(aQ:Int)(Z:V):Prop:=
 cond (decide (aQ≤0)) (aF g5.id #[.slice S a R] Z fun b c=>
 aG b fun b d e=>
 Y (.slice b d e) c) ((32:Int) ≠ 0∧a2 (IntKind.i64.wrap (Int.tdiv aQ 32)) fun b=>
 cond (decide (b≥(((a:Nat):Int)))) (aF jP.id #[.int .u64 0] Z fun b c=>
 aG b fun b d e=>
 Y (.slice b d e) c) ((32:Int) ≠ 0∧a2 (IntKind.i64.wrap (Int.tdiv aQ 32)) fun b=>
 h7 1 S a R (some (.int .i64 b)) none none fun a b c=>
 (32:Int) ≠ 0∧a2 (Int.tmod aQ 32) fun d=>
 0≤d∧a2 (jM .u32 1 d) fun d=>
 aF mH.id #[.slice a b c,.int .u32 d] Z fun a b=>
 c0 a fun a=>
 b6 a fun a c d e=>
 dG e .u32 fun e e=>
 bC e <| Y (.slice a c d) b))
def F.g(Y:K)(X:Fr)(Z:V):Prop:=aG (X 0) fun S a R=>aV .i64 (X 1) fun aQ=>F.t Y S a R aQ Z
theorem F.ok(Y:K)(X:Fr)(Z:V)(g:F.g Y X Z):den prog E r (aZ E [.tmp 4] Y) X Z:=
 a8 g fun S a R b g=>bM g fun aQ c g=>bO [(0,.slice S a R),(1,.int .i64 aQ)] ⟨b,c,trivial⟩ (by kernel_rfl) g
def t(S:U)(a R:Nat)(aQ:Int)(Z:V)(Y:K):Prop:=F.t Y S a R aQ Z
theorem ok{S:U}{a:Nat}{R:Nat}{aQ:Int}{Z:V}{Y:K}(g:t S a R aQ Z Y):aF id #[.slice S a R,.int .i64 aQ] Z Y:=
 c7 c8 (L:=r) (cY:=[.tmp 4]) Tryz.func99 (by kernel_rfl) (by kernel_rfl) (by kernel_rfl) (args:=[.slice S a R,.int .i64 aQ]) (by kernel_rfl) (F.ok Y _ Z (k rfl (bI rfl (g))))
end nW
namespace l0
noncomputable def r:Code:=c6 Tryz.f100
def aC.t(Y:K)(S:U)(a R:Nat)(aQ:Int)(b:U)(a5 c:Nat)(Z:V):Prop:=
 (32:Int) ≠ 0∧a2 (IntKind.i64.wrap (Int.tdiv aQ 32)) fun d=>
 cL S a d 1 fun a=>
 cI Z .u32 a fun a=>
 (32:Int) ≠ 0∧a2 (Int.tmod aQ 32) fun d=>
 0≤d∧a2 (jM .u32 1 d) fun d=>
 d ≠ 0∧a2 (Int.tmod a d) fun a=>
 b4 Z 82 [.int .u32 a] fun a d=>
 gW d 82 hW b a5 c (.slice (some a) 1 1) fun a b c d=>
 aF g5.id #[.slice a b c] d fun a b=>
 aG a fun a c d=>
 Y (.slice a c d) b
def aC.g(Y:K)(X:Fr)(Z:V):Prop:=aG (X 0) fun S a R=>aV .i64 (X 1) fun aQ=>aG (X 5) fun b a5 c=>aC.t Y S a R aQ b a5 c Z
theorem aC.ok(Y:K)(X:Fr)(Z:V)(g:aC.g Y X Z):den prog E (aS r [W,W,W,W,W]) (aZ E [.tmp 4] Y) X Z:=
 a8 g fun S a R b g=>bM g fun aQ c g=>a8 g fun d a5 e f g=>bO [(0,.slice S a R),(1,.int .i64 aQ),(5,.slice d a5 e)] ⟨b,c,f,trivial⟩ (by kernel_rfl) g
def cZ.g(bN:U→Nat→Nat→Int→U→Nat→Nat→V→Prop)(X:Fr)(Z:V):Prop:=aG (X 0) fun S a R=>aV .i64 (X 1) fun aQ=>aG (X 5) fun b a5 c=>bN S a R aQ b a5 c Z
def cA.t(Y:K)(a:U→Nat→Nat→Int→U→Nat→Nat→V→Prop)(S:U)(b R:Nat)(aQ:Int)(c:U)(a5 d:Nat)(Z:V):Prop:=
 (32:Int) ≠ 0∧a2 (IntKind.i64.wrap (Int.tdiv aQ 32)) fun e=>
 cond (decide ((((a5:Nat):Int)) < e)) (b4 Z 82 [.int .u32 0] fun e f=>
 gW f 82 hW c a5 d (.slice (some e) 1 1) fun e f g h=>
 a S b R aQ e f g h) (aC.t Y S b R aQ c a5 d Z)
def cA.g(Y:K)(a:U→Nat→Nat→Int→U→Nat→Nat→V→Prop)(X:Fr)(Z:V):Prop:=aG (X 0) fun S b R=>aV .i64 (X 1) fun aQ=>aG (X 5) fun c a5 d=>cA.t Y a S b R aQ c a5 d Z
theorem cA.ok(Y:K)(a:U→Nat→Nat→Int→U→Nat→Nat→V→Prop)(X:Fr)(Z:V)(g:cA.g Y a X Z):den prog E (aS r [W,W,W,W,x,x,x]) (aH.then (cZ.g a) (aH.inBlock 0 (aH.then (aC.g Y) (aZ E [.tmp 4] Y)))) X Z:=
 a8 g fun S a R b g=>bM g fun aQ c g=>a8 g fun d a5 e f g=>bO [(0,.slice S a R),(1,.int .i64 aQ),(5,.slice d a5 e)] ⟨b,c,f,trivial⟩ (by kernel_rfl) g
def cZ.t(Y:K):Nat→U→Nat→Nat→Int→U→Nat→Nat→V→Prop
 | 0=>fun _ _ _ _ _ _ _ _=>False
 | n+1=>fun S a R aQ b a5 c Z=>cA.t Y (cZ.t Y n) S a R aQ b a5 c Z
theorem cZ.ok(Y:K)(X:Fr)(Z:V)(g:cZ.g (fun S a R aQ b a5 c Z=>∃ n,cZ.t Y n S a R aQ b a5 c Z) X Z):den prog E (aS r [W,W,W,W,x,x]) (aH.inBlock 0 (aH.then (aC.g Y) (aZ E [.tmp 4] Y))) X Z:=by
 obtain⟨S,a,R,d,g⟩:=bQ g
 obtain⟨aQ,e,g⟩:=bS g
 obtain⟨b,a5,c,f,g⟩:=bQ g
 obtain⟨n,g⟩:=g
 refine e1 (fun n=>cZ.g (cZ.t Y n)) (N:=(aS r [W,W,W,W,x,x,x])) (by kernel_rfl) (fun X Z g=>?_) (fun n=>cA.ok Y (cZ.t Y n)) n X Z (k d (bI e (k f (g))))
 obtain⟨S,a,R,d,g⟩:=bQ g
 obtain⟨aQ,e,g⟩:=bS g
 obtain⟨b,a5,c,f,g⟩:=bQ g
 exact g
theorem gT.ok(Y:K)(X:Fr)(Z:V)(g:cZ.g (fun S a R aQ b a5 c Z=>∃ n,cZ.t Y n S a R aQ b a5 c Z) X Z):den prog E (aS r [W,W,W,W,x]) (aH.then (aC.g Y) (aZ E [.tmp 4] Y)) X Z:=
 eR (by kernel_rfl) (cZ.ok Y X Z g)
theorem uI.ok(Y:K)(X:Fr)(Z:V)(g:cZ.g (fun S a R aQ b a5 c Z=>∃ n,cZ.t Y n S a R aQ b a5 c Z) X Z):den prog E (aS r [W,W,W,W]) (aZ E [.tmp 4] Y) X Z:=
 e5 (by kernel_rfl) (aC.ok Y) (gT.ok Y X Z g)
def F.t(Y:K)(S:U)(a R:Nat)(aQ:Int)(Z:V):Prop:=
 cond (decide (aQ≤0)) (aF jP.id #[.int .u64 0] Z fun b c=>
 aG b fun b d e=>
 Y (.slice b d e) c) ((32:Int) ≠ 0∧a2 (IntKind.i64.wrap (Int.tdiv aQ 32)) fun b=>
 cond (decide (b≥(((a:Nat):Int)))) (aF g5.id #[.slice S a R] Z fun b c=>
 aG b fun b d e=>
 Y (.slice b d e) c) ((32:Int) ≠ 0∧a2 (IntKind.i64.wrap (Int.tdiv aQ 32)) fun b=>
 h7 1 S a R none (some (.int .i64 b)) none fun b c d=>
 aF g5.id #[.slice b c d] Z fun b c=>
 aG b fun b d e=>
 (∃ n,cZ.t Y n S a R aQ b d e c)))
def F.g(Y:K)(X:Fr)(Z:V):Prop:=aG (X 0) fun S a R=>aV .i64 (X 1) fun aQ=>F.t Y S a R aQ Z
theorem F.ok(Y:K)(X:Fr)(Z:V)(g:F.g Y X Z):den prog E r (aZ E [.tmp 4] Y) X Z:=
 a8 g fun S a R b g=>bM g fun aQ c g=>cT 4 (s:=(aS r [W,W,W,W])) (by kernel_rfl) (uI.ok Y) (bO [(0,.slice S a R),(1,.int .i64 aQ)] ⟨b,c,trivial⟩ (by kernel_rfl) g)
def t(S:U)(a R:Nat)(aQ:Int)(Z:V)(Y:K):Prop:=F.t Y S a R aQ Z
theorem ok{S:U}{a:Nat}{R:Nat}{aQ:Int}{Z:V}{Y:K}(g:t S a R aQ Z Y):aF id #[.slice S a R,.int .i64 aQ] Z Y:=
 c7 c8 (L:=r) (cY:=[.tmp 4]) Tryz.func100 (by kernel_rfl) (by kernel_rfl) (by kernel_rfl) (args:=[.slice S a R,.int .i64 aQ]) (by kernel_rfl) (F.ok Y _ Z (k rfl (bI rfl (g))))
end l0
namespace kA
noncomputable def r:Code:=c6 Tryz.f101
def aC.t(Y:K)(a:Int)(Z:V):Prop:=
 Y (.int .i64 a) Z
def aC.g(Y:K)(X:Fr)(Z:V):Prop:=aV .i64 (X 3) fun a=>aC.t Y a Z
theorem aC.ok(Y:K)(X:Fr)(Z:V)(g:aC.g Y X Z):den prog E (aS r [W,W,W,W]) (aZ E [.tmp 2] Y) X Z:=
 bM g fun a b g=>bO [(3,.int .i64 a)] ⟨b,trivial⟩ (by kernel_rfl) g
def bG.g(bN:Int→Int→V→Prop)(X:Fr)(Z:V):Prop:=aV .i64 (X 3) fun a=>aV .u32 (X 4) fun b=>bN a b Z
def b0.t(Y:K)(a:Int→Int→V→Prop)(b c:Int)(Z:V):Prop:=
 cond (decide (c > 0)) (a2 (IntKind.i64.wrap (b+1)) fun d=>
 (2:Int) ≠ 0∧a2 (IntKind.u32.wrap (Int.tdiv c 2)) fun c=>
 a d c Z) (aC.t Y b Z)
def b0.g(Y:K)(a:Int→Int→V→Prop)(X:Fr)(Z:V):Prop:=aV .i64 (X 3) fun b=>aV .u32 (X 4) fun c=>b0.t Y a b c Z
theorem b0.ok(Y:K)(a:Int→Int→V→Prop)(X:Fr)(Z:V)(g:b0.g Y a X Z):den prog E (aS r [W,W,W,x,W,x,x]) (aH.then (bG.g a) (aH.inBlock 0 (aH.then (aC.g Y) (aZ E [.tmp 2] Y)))) X Z:=
 bM g fun a b g=>bM g fun c d g=>bO [(3,.int .i64 a),(4,.int .u32 c)] ⟨b,d,trivial⟩ (by kernel_rfl) g
def bG.t(Y:K):Nat→Int→Int→V→Prop
 | 0=>fun _ _ _=>False
 | n+1=>fun a b Z=>b0.t Y (bG.t Y n) a b Z
theorem bG.ok(Y:K)(X:Fr)(Z:V)(g:bG.g (fun a b Z=>∃ n,bG.t Y n a b Z) X Z):den prog E (aS r [W,W,W,x,W,x]) (aH.inBlock 0 (aH.then (aC.g Y) (aZ E [.tmp 2] Y))) X Z:=by
 obtain⟨a,c,g⟩:=bS g
 obtain⟨b,d,g⟩:=bS g
 obtain⟨n,g⟩:=g
 refine e1 (fun n=>bG.g (bG.t Y n)) (N:=(aS r [W,W,W,x,W,x,x])) (by kernel_rfl) (fun X Z g=>?_) (fun n=>b0.ok Y (bG.t Y n)) n X Z (bI c (bI d (g)))
 obtain⟨a,c,g⟩:=bS g
 obtain⟨b,d,g⟩:=bS g
 exact g
theorem eP.ok(Y:K)(X:Fr)(Z:V)(g:bG.g (fun a b Z=>∃ n,bG.t Y n a b Z) X Z):den prog E (aS r [W,W,W,x,W]) (aH.then (aC.g Y) (aZ E [.tmp 2] Y)) X Z:=
 eR (by kernel_rfl) (bG.ok Y X Z g)
def a7.t(Y:K)(S:U)(a R:Nat)(b:Int)(Z:V):Prop:=
 a2 (IntKind.i64.wrap ((((a:Nat):Int)) - 1)) fun c=>
 cL S a c 1 fun a=>
 cI Z .u32 a fun a=>
 (∃ n,bG.t Y n b a Z)
def a7.g(Y:K)(X:Fr)(Z:V):Prop:=aG (X 0) fun S a R=>aV .i64 (X 3) fun b=>a7.t Y S a R b Z
theorem a7.ok(Y:K)(X:Fr)(Z:V)(g:a7.g Y X Z):den prog E (aS r [W,W,W,x]) (aH.then (aC.g Y) (aZ E [.tmp 2] Y)) X Z:=
 a8 g fun S a R b g=>bM g fun c d g=>cT 1 (s:=(aS r [W,W,W,x,W])) (by kernel_rfl) (eP.ok Y) (bO [(0,.slice S a R),(3,.int .i64 c)] ⟨b,d,trivial⟩ (by kernel_rfl) g)
theorem gV.ok(Y:K)(X:Fr)(Z:V)(g:a7.g Y X Z):den prog E (aS r [W,W,W]) (aZ E [.tmp 2] Y) X Z:=
 e5 (by kernel_rfl) (aC.ok Y) (a7.ok Y X Z g)
def F.t(Y:K)(S:U)(a R:Nat)(Z:V):Prop:=
 cond ((((a:Nat):Int)) == 0) (Y (.int .i64 0) Z) (a2 (IntKind.i64.wrap ((((a:Nat):Int)) - 1)) fun b=>
 a2 (IntKind.i64.wrap (32*b)) fun b=>
 a7.t Y S a R b Z)
def F.g(Y:K)(X:Fr)(Z:V):Prop:=aG (X 0) fun S a R=>F.t Y S a R Z
theorem F.ok(Y:K)(X:Fr)(Z:V)(g:F.g Y X Z):den prog E r (aZ E [.tmp 2] Y) X Z:=
 a8 g fun S a R b g=>cT 3 (s:=(aS r [W,W,W])) (by kernel_rfl) (gV.ok Y) (bO [(0,.slice S a R)] ⟨b,trivial⟩ (by kernel_rfl) g)
def t(S:U)(a R:Nat)(Z:V)(Y:K):Prop:=F.t Y S a R Z
theorem ok{S:U}{a:Nat}{R:Nat}{Z:V}{Y:K}(g:t S a R Z Y):aF id #[.slice S a R] Z Y:=
 c7 c8 (L:=r) (cY:=[.tmp 2]) Tryz.func101 (by kernel_rfl) (by kernel_rfl) (by kernel_rfl) (args:=[.slice S a R]) (by kernel_rfl) (F.ok Y _ Z (k rfl (g)))
end kA
namespace qP
noncomputable def r:Code:=c6 Tryz.f102
def F.t(Y:K)(a3:Int)(Z:V):Prop:=
 aF jP.id #[.int .u64 1] Z fun a b=>
 aG a fun a c d=>
 aF lF.id #[.slice a c d,.int .i64 a3] b fun a b=>
 aG a fun a c d=>
 Y (.slice a c d) b
def F.g(Y:K)(X:Fr)(Z:V):Prop:=aV .i64 (X 0) fun a3=>F.t Y a3 Z
theorem F.ok(Y:K)(X:Fr)(Z:V)(g:F.g Y X Z):den prog E r (aZ E [.tmp 2] Y) X Z:=
 bM g fun a3 a g=>bO [(0,.int .i64 a3)] ⟨a,trivial⟩ (by kernel_rfl) g
def t(a3:Int)(Z:V)(Y:K):Prop:=F.t Y a3 Z
theorem ok{a3:Int}{Z:V}{Y:K}(g:t a3 Z Y):aF id #[.int .i64 a3] Z Y:=
 c7 c8 (L:=r) (cY:=[.tmp 2]) Tryz.func102 (by kernel_rfl) (by kernel_rfl) (by kernel_rfl) (args:=[.int .i64 a3]) (by kernel_rfl) (F.ok Y _ Z (bI rfl (g)))
end qP
namespace kY
noncomputable def r:Code:=c6 Tryz.f103
def aC.t(Y:K)(a:U)(b c:Nat)(Z:V):Prop:=
 aF pC.id #[.slice a b c] Z fun a b=>
 c0 a fun a=>
 b6 a fun a c d e=>
 dG e .i64 fun e f=>
 bC f <| Y (.tuple #[.slice a c d,.int .i64 e]) b
def aC.g(Y:K)(X:Fr)(Z:V):Prop:=aG (X 8) fun a b c=>aC.t Y a b c Z
theorem aC.ok(Y:K)(X:Fr)(Z:V)(g:aC.g Y X Z):den prog E (aS r [W,W,W,W,W,W,W]) (aZ E [.tmp 4,.tmp 5] Y) X Z:=
 a8 g fun a b c d g=>bO [(8,.slice a b c)] ⟨d,trivial⟩ (by kernel_rfl) g
def bG.g(bN:U→Nat→Nat→Int→Int→U→Nat→Nat→Int→Int→V→Prop)(X:Fr)(Z:V):Prop:=aG (X 0) fun S a R=>aV .i64 (X 6) fun b=>aV .i64 (X 7) fun c=>aG (X 8) fun d e f=>aV .i64 (X 29) fun h=>aV .i64 (X 30) fun i=>bN S a R b c d e f h i Z
def b0.t(Y:K)(a:U→Nat→Nat→Int→Int→U→Nat→Nat→Int→Int→V→Prop)(S:U)(b R:Nat)(c d:Int)(e:U)(f g:Nat)(h i:Int)(Z:V):Prop:=
 cond (decide (i < h)) (a2 (IntKind.i64.wrap (c+i)) fun j=>
 cL S b j 1 fun j=>
 cI Z .u64 j fun j=>
 0≤d∧a2 (gL .u64 j d) fun j=>
 cL e f i 1 fun l=>
 aW Z l (.int .u64 j) fun j=>
 a2 (IntKind.i64.wrap (c+i)) fun l=>
 a2 (IntKind.i64.wrap (l+1)) fun l=>
 cond (decide (l < (((b:Nat):Int)))) (cL e f i 1 fun l=>
 cI j .u64 l fun l=>
 a2 (IntKind.i64.wrap (c+i)) fun m=>
 a2 (IntKind.i64.wrap (m+1)) fun m=>
 cL S b m 1 fun m=>
 cI j .u64 m fun m=>
 0≤(1:Int)∧a2 (jM .u64 m 1) fun m=>
 a2 (IntKind.i64.wrap (63 - d)) fun n=>
 0≤n∧a2 (jM .u64 m n) fun m=>
 a2 (uL .u64 l m) fun l=>
 cL e f i 1 fun m=>
 aW j m (.int .u64 l) fun l=>
 a2 (IntKind.i64.wrap (i+1)) fun m=>
 a S b R c d e f g h m l) (a2 (IntKind.i64.wrap (i+1)) fun i=>
 a S b R c d e f g h i j)) (aC.t Y e f g Z)
def b0.g(Y:K)(a:U→Nat→Nat→Int→Int→U→Nat→Nat→Int→Int→V→Prop)(X:Fr)(Z:V):Prop:=aG (X 0) fun S b R=>aV .i64 (X 6) fun c=>aV .i64 (X 7) fun d=>aG (X 8) fun e f h=>aV .i64 (X 29) fun i=>aV .i64 (X 30) fun j=>b0.t Y a S b R c d e f h i j Z
theorem b0.ok(Y:K)(a:U→Nat→Nat→Int→Int→U→Nat→Nat→Int→Int→V→Prop)(X:Fr)(Z:V)(g:b0.g Y a X Z):den prog E (aS r [W,W,W,W,W,W,x,W,x,x]) (aH.then (bG.g a) (aH.inBlock 0 (aH.then (aC.g Y) (aZ E [.tmp 4,.tmp 5] Y)))) X Z:=
 a8 g fun S a R b g=>bM g fun c d g=>bM g fun e f g=>a8 g fun h i j l g=>bM g fun m n g=>bM g fun t v g=>bO [(0,.slice S a R),(6,.int .i64 c),(7,.int .i64 e),(8,.slice h i j),(29,.int .i64 m),(30,.int .i64 t)] ⟨b,d,f,l,n,v,trivial⟩ (by kernel_rfl) g
def bG.t(Y:K):Nat→U→Nat→Nat→Int→Int→U→Nat→Nat→Int→Int→V→Prop
 | 0=>fun _ _ _ _ _ _ _ _ _ _ _=>False
 | n+1=>fun S a R b c d e f g h Z=>b0.t Y (bG.t Y n) S a R b c d e f g h Z
theorem bG.ok(Y:K)(X:Fr)(Z:V)(g:bG.g (fun S a R b c d e f h i Z=>∃ n,bG.t Y n S a R b c d e f h i Z) X Z):den prog E (aS r [W,W,W,W,W,W,x,W,x]) (aH.inBlock 0 (aH.then (aC.g Y) (aZ E [.tmp 4,.tmp 5] Y))) X Z:=by
 obtain⟨S,a,R,j,g⟩:=bQ g
 obtain⟨b,l,g⟩:=bS g
 obtain⟨c,m,g⟩:=bS g
 obtain⟨d,e,f,v,g⟩:=bQ g
 obtain⟨h,D,g⟩:=bS g
 obtain⟨i,G,g⟩:=bS g
 obtain⟨n,g⟩:=g
 refine e1 (fun n=>bG.g (bG.t Y n)) (N:=(aS r [W,W,W,W,W,W,x,W,x,x])) (by kernel_rfl) (fun X Z g=>?_) (fun n=>b0.ok Y (bG.t Y n)) n X Z (k j (bI l (bI m (k v (bI D (bI G (g)))))))
 obtain⟨S,a,R,j,g⟩:=bQ g
 obtain⟨b,l,g⟩:=bS g
 obtain⟨c,m,g⟩:=bS g
 obtain⟨d,e,f,v,g⟩:=bQ g
 obtain⟨h,D,g⟩:=bS g
 obtain⟨i,G,g⟩:=bS g
 exact g
theorem eP.ok(Y:K)(X:Fr)(Z:V)(g:bG.g (fun S a R b c d e f h i Z=>∃ n,bG.t Y n S a R b c d e f h i Z) X Z):den prog E (aS r [W,W,W,W,W,W,x,W]) (aH.then (aC.g Y) (aZ E [.tmp 4,.tmp 5] Y)) X Z:=
 eR (by kernel_rfl) (bG.ok Y X Z g)
def a7.t(Y:K)(S:U)(a R:Nat)(b c:Int)(d:U)(e f:Nat)(Z:V):Prop:=
 (∃ n,bG.t Y n S a R b c d e f (((e:Nat):Int)) 0 Z)
def a7.g(Y:K)(X:Fr)(Z:V):Prop:=aG (X 0) fun S a R=>aV .i64 (X 6) fun b=>aV .i64 (X 7) fun c=>aG (X 8) fun d e f=>a7.t Y S a R b c d e f Z
theorem a7.ok(Y:K)(X:Fr)(Z:V)(g:a7.g Y X Z):den prog E (aS r [W,W,W,W,W,W,x]) (aH.then (aC.g Y) (aZ E [.tmp 4,.tmp 5] Y)) X Z:=
 a8 g fun S a R b g=>bM g fun c d g=>bM g fun e f g=>a8 g fun h i j l g=>cT 1 (s:=(aS r [W,W,W,W,W,W,x,W])) (by kernel_rfl) (eP.ok Y) (bO [(0,.slice S a R),(6,.int .i64 c),(7,.int .i64 e),(8,.slice h i j)] ⟨b,d,f,l,trivial⟩ (by kernel_rfl) g)
theorem gV.ok(Y:K)(X:Fr)(Z:V)(g:a7.g Y X Z):den prog E (aS r [W,W,W,W,W,W]) (aZ E [.tmp 4,.tmp 5] Y) X Z:=
 e5 (by kernel_rfl) (aC.ok Y) (a7.ok Y X Z g)
def F.t(Y:K)(S:U)(a R:Nat)(aQ:Int)(Z:V):Prop:=
 cond (decide (aQ < 0)) (Y (.tuple #[.slice none 0 0,.int .i64 1]) Z) (aF j0.id #[.slice S a R] Z fun b c=>
 b9 b fun b=>
 cond (!b) (Y (.tuple #[.slice none 0 0,.int .i64 2]) c) ((64:Int) ≠ 0∧a2 (IntKind.i64.wrap (Int.tdiv aQ 64)) fun b=>
 (64:Int) ≠ 0∧a2 (Int.tmod aQ 64) fun d=>
 cond (decide (b≥(((a:Nat):Int)))) (Y (.tuple #[.slice none 0 0,.int .i64 0]) c) (a2 (IntKind.i64.wrap ((((a:Nat):Int)) - b)) fun e=>
 h8 c 27 j9 e e fun c f=>
 a7.t Y S a R b d (some c) e.toNat e.toNat f)))
def F.g(Y:K)(X:Fr)(Z:V):Prop:=aG (X 0) fun S a R=>aV .i64 (X 1) fun aQ=>F.t Y S a R aQ Z
theorem F.ok(Y:K)(X:Fr)(Z:V)(g:F.g Y X Z):den prog E r (aZ E [.tmp 4,.tmp 5] Y) X Z:=
 a8 g fun S a R b g=>bM g fun aQ c g=>cT 6 (s:=(aS r [W,W,W,W,W,W])) (by kernel_rfl) (gV.ok Y) (bO [(0,.slice S a R),(1,.int .i64 aQ)] ⟨b,c,trivial⟩ (by kernel_rfl) g)
def t(S:U)(a R:Nat)(aQ:Int)(Z:V)(Y:K):Prop:=F.t Y S a R aQ Z
theorem ok{S:U}{a:Nat}{R:Nat}{aQ:Int}{Z:V}{Y:K}(g:t S a R aQ Z Y):aF id #[.slice S a R,.int .i64 aQ] Z Y:=
 c7 c8 (L:=r) (cY:=[.tmp 4,.tmp 5]) Tryz.func103 (by kernel_rfl) (by kernel_rfl) (by kernel_rfl) (args:=[.slice S a R,.int .i64 aQ]) (by kernel_rfl) (F.ok Y _ Z (k rfl (bI rfl (g))))
end kY
namespace kN
noncomputable def r:Code:=c6 Tryz.f104
def aC.t(Y:K)(Z:V):Prop:=
 Y (.int .i64 0) Z
def aC.g(Y:K)(X:Fr)(Z:V):Prop:=aC.t Y  Z
theorem aC.ok(Y:K)(X:Fr)(Z:V)(g:aC.g Y X Z):den prog E (aS r [W,W]) (aZ E [.tmp 2] Y) X Z:=
 bO [] trivial (by kernel_rfl) g
def bG.g(bN:U→Nat→Nat→Int→Int→V→Prop)(X:Fr)(Z:V):Prop:=aG (X 0) fun S a R=>aV .i64 (X 5) fun b=>aV .i64 (X 6) fun c=>bN S a R b c Z
def b0.t(Y:K)(a:U→Nat→Nat→Int→Int→V→Prop)(S:U)(b R:Nat)(c d:Int)(Z:V):Prop:=
 cond (decide (d < c)) (cL S b d 1 fun e=>
 cI Z .u64 e fun e=>
 cond (e != 0) (a2 (IntKind.i64.wrap (64*d)) fun e=>
 cL S b d 1 fun f=>
 cI Z .u64 f fun f=>
 aF sA.id #[.int .u64 f] Z fun f g=>
 aV .i64 f fun f=>
 a2 (IntKind.i64.wrap (e+f)) fun e=>
 Y (.int .i64 e) g) (a2 (IntKind.i64.wrap (d+1)) fun d=>
 a S b R c d Z)) (aC.t Y Z)
def b0.g(Y:K)(a:U→Nat→Nat→Int→Int→V→Prop)(X:Fr)(Z:V):Prop:=aG (X 0) fun S b R=>aV .i64 (X 5) fun c=>aV .i64 (X 6) fun d=>b0.t Y a S b R c d Z
theorem b0.ok(Y:K)(a:U→Nat→Nat→Int→Int→V→Prop)(X:Fr)(Z:V)(g:b0.g Y a X Z):den prog E (aS r [W,x,W,x,x]) (aH.then (bG.g a) (aH.inBlock 0 (aH.then (aC.g Y) (aZ E [.tmp 2] Y)))) X Z:=
 a8 g fun S a R b g=>bM g fun c d g=>bM g fun e f g=>bO [(0,.slice S a R),(5,.int .i64 c),(6,.int .i64 e)] ⟨b,d,f,trivial⟩ (by kernel_rfl) g
def bG.t(Y:K):Nat→U→Nat→Nat→Int→Int→V→Prop
 | 0=>fun _ _ _ _ _ _=>False
 | n+1=>fun S a R b c Z=>b0.t Y (bG.t Y n) S a R b c Z
theorem bG.ok(Y:K)(X:Fr)(Z:V)(g:bG.g (fun S a R b c Z=>∃ n,bG.t Y n S a R b c Z) X Z):den prog E (aS r [W,x,W,x]) (aH.inBlock 0 (aH.then (aC.g Y) (aZ E [.tmp 2] Y))) X Z:=by
 obtain⟨S,a,R,d,g⟩:=bQ g
 obtain⟨b,e,g⟩:=bS g
 obtain⟨c,f,g⟩:=bS g
 obtain⟨n,g⟩:=g
 refine e1 (fun n=>bG.g (bG.t Y n)) (N:=(aS r [W,x,W,x,x])) (by kernel_rfl) (fun X Z g=>?_) (fun n=>b0.ok Y (bG.t Y n)) n X Z (k d (bI e (bI f (g))))
 obtain⟨S,a,R,d,g⟩:=bQ g
 obtain⟨b,e,g⟩:=bS g
 obtain⟨c,f,g⟩:=bS g
 exact g
theorem eP.ok(Y:K)(X:Fr)(Z:V)(g:bG.g (fun S a R b c Z=>∃ n,bG.t Y n S a R b c Z) X Z):den prog E (aS r [W,x,W]) (aH.then (aC.g Y) (aZ E [.tmp 2] Y)) X Z:=
 eR (by kernel_rfl) (bG.ok Y X Z g)
def a7.t(Y:K)(S:U)(a R:Nat)(Z:V):Prop:=
 (∃ n,bG.t Y n S a R (((a:Nat):Int)) 0 Z)
def a7.g(Y:K)(X:Fr)(Z:V):Prop:=aG (X 0) fun S a R=>a7.t Y S a R Z
theorem a7.ok(Y:K)(X:Fr)(Z:V)(g:a7.g Y X Z):den prog E (aS r [W,x]) (aH.then (aC.g Y) (aZ E [.tmp 2] Y)) X Z:=
 a8 g fun S a R b g=>cT 1 (s:=(aS r [W,x,W])) (by kernel_rfl) (eP.ok Y) (bO [(0,.slice S a R)] ⟨b,trivial⟩ (by kernel_rfl) g)
theorem gV.ok(Y:K)(X:Fr)(Z:V)(g:a7.g Y X Z):den prog E (aS r [W]) (aZ E [.tmp 2] Y) X Z:=
 e5 (by kernel_rfl) (aC.ok Y) (a7.ok Y X Z g)
def F.t(Y:K)(S:U)(a R:Nat)(Z:V):Prop:=
 a7.t Y S a R Z
def F.g(Y:K)(X:Fr)(Z:V):Prop:=aG (X 0) fun S a R=>F.t Y S a R Z
theorem F.ok(Y:K)(X:Fr)(Z:V)(g:F.g Y X Z):den prog E r (aZ E [.tmp 2] Y) X Z:=
 a8 g fun S a R b g=>cT 1 (s:=(aS r [W])) (by kernel_rfl) (gV.ok Y) (bO [(0,.slice S a R)] ⟨b,trivial⟩ (by kernel_rfl) g)
def t(S:U)(a R:Nat)(Z:V)(Y:K):Prop:=F.t Y S a R Z
theorem ok{S:U}{a:Nat}{R:Nat}{Z:V}{Y:K}(g:t S a R Z Y):aF id #[.slice S a R] Z Y:=
 c7 c8 (L:=r) (cY:=[.tmp 2]) Tryz.func104 (by kernel_rfl) (by kernel_rfl) (by kernel_rfl) (args:=[.slice S a R]) (by kernel_rfl) (F.ok Y _ Z (k rfl (g)))
end kN
namespace nX
noncomputable def r:Code:=c6 Tryz.f105
def aC.t(Y:K)(S:U)(a R:Nat)(aQ:Int)(Z:V):Prop:=
 (64:Int) ≠ 0∧a2 (IntKind.i64.wrap (Int.tdiv aQ 64)) fun b=>
 cL S a b 1 fun a=>
 cI Z .u64 a fun a=>
 (64:Int) ≠ 0∧a2 (Int.tmod aQ 64) fun b=>
 0≤b∧a2 (gL .u64 a b) fun a=>
 a2 (iG .u64 a 1) fun a=>
 Y (.bool (a == 1)) Z
def aC.g(Y:K)(X:Fr)(Z:V):Prop:=aG (X 0) fun S a R=>aV .i64 (X 1) fun aQ=>aC.t Y S a R aQ Z
theorem aC.ok(Y:K)(X:Fr)(Z:V)(g:aC.g Y X Z):den prog E (aS r [W,W]) (aZ E [.tmp 4] Y) X Z:=
 a8 g fun S a R b g=>bM g fun aQ c g=>bO [(0,.slice S a R),(1,.int .i64 aQ)] ⟨b,c,trivial⟩ (by kernel_rfl) g
def F.t(Y:K)(S:U)(a R:Nat)(aQ:Int)(Z:V):Prop:=
 cond (decide (aQ < 0)) (Y (.bool false) Z) ((64:Int) ≠ 0∧a2 (IntKind.i64.wrap (Int.tdiv aQ 64)) fun b=>
 cond (decide (b≥(((a:Nat):Int)))) (Y (.bool false) Z) (aC.t Y S a R aQ Z))
def F.g(Y:K)(X:Fr)(Z:V):Prop:=aG (X 0) fun S a R=>aV .i64 (X 1) fun aQ=>F.t Y S a R aQ Z
theorem F.ok(Y:K)(X:Fr)(Z:V)(g:F.g Y X Z):den prog E r (aZ E [.tmp 4] Y) X Z:=
 a8 g fun S a R b g=>bM g fun aQ c g=>cT 2 (s:=(aS r [W,W])) (by kernel_rfl) (aC.ok Y) (bO [(0,.slice S a R),(1,.int .i64 aQ)] ⟨b,c,trivial⟩ (by kernel_rfl) g)
def t(S:U)(a R:Nat)(aQ:Int)(Z:V)(Y:K):Prop:=F.t Y S a R aQ Z
theorem ok{S:U}{a:Nat}{R:Nat}{aQ:Int}{Z:V}{Y:K}(g:t S a R aQ Z Y):aF id #[.slice S a R,.int .i64 aQ] Z Y:=
 c7 c8 (L:=r) (cY:=[.tmp 4]) Tryz.func105 (by kernel_rfl) (by kernel_rfl) (by kernel_rfl) (args:=[.slice S a R,.int .i64 aQ]) (by kernel_rfl) (F.ok Y _ Z (k rfl (bI rfl (g))))
end nX
namespace pP
noncomputable def r:Code:=c6 Tryz.f106
def F.t(Y:K)(a3:Int)(fF:Bool)(a:U)(b8 bX:Nat)(fH:Bool)(b:Int)(Z:V):Prop:=
 b4 Z 25 fL.aK fun c d=>
 aF nX.id #[.slice a b8 bX,.int .i64 0] d fun d e=>
 b9 d fun d=>
 aF rB.id #[.int .i64 a3,.bool fF,.bool d,.bool fH,.int .i64 b] e fun b d=>
 b9 b fun b=>
 cond (!b) (aF jF.id #[.bool fF,.slice a b8 bX,.int .i64 0] d fun b e=>
 c0 b fun b=>
 bR b fun b f=>
 bU b fun b=>
 cF b fun b g=>
 b6 g fun g h i j=>
 bC j <| dG f .i64 fun f j=>
 bC j <| aW e (c.add 0) (.bool b) fun b=>
 aW b (c.add 1) (.slice g h i) fun b=>
 bB b (c.add 0) fun e=>
 a6 b (c.add 1) fun g h i=>
 Y (.tuple #[.agg #[.bool e,.slice g h i],.int .i64 f]) b) (aF mI.id #[.int .u64 1] d fun b d=>
 aG b fun b e f=>
 aF jR.id #[.slice a b8 bX,.slice b e f] d fun a b=>
 c0 a fun a=>
 b6 a fun a d e f=>
 dG f .i64 fun f g=>
 bC g <| aF jF.id #[.bool fF,.slice a d e,.int .i64 f] b fun a b=>
 c0 a fun a=>
 bR a fun a d=>
 bU a fun a=>
 cF a fun a e=>
 b6 e fun e f g h=>
 bC h <| dG d .i64 fun d h=>
 bC h <| aW b (c.add 0) (.bool a) fun a=>
 aW a (c.add 1) (.slice e f g) fun a=>
 bB a (c.add 0) fun b=>
 a6 a (c.add 1) fun c e f=>
 Y (.tuple #[.agg #[.bool b,.slice c e f],.int .i64 d]) a)
def F.g(Y:K)(X:Fr)(Z:V):Prop:=aV .i64 (X 0) fun a3=>b9 (X 1) fun fF=>aG (X 2) fun a b8 bX=>b9 (X 3) fun fH=>aV .i64 (X 4) fun b=>F.t Y a3 fF a b8 bX fH b Z
theorem F.ok(Y:K)(X:Fr)(Z:V)(g:F.g Y X Z):den prog E r (aZ E [.cell 10 25,.tmp 11] Y) X Z:=
 bM g fun a3 a g=>p6 g fun fF b g=>a8 g fun c b8 bX d g=>p6 g fun fH e g=>bM g fun f h g=>bO [(0,.int .i64 a3),(1,.bool fF),(2,.slice c b8 bX),(3,.bool fH),(4,.int .i64 f)] ⟨a,b,d,e,h,trivial⟩ (by kernel_rfl) g
def t(a3:Int)(fF:Bool)(a:U)(b8 bX:Nat)(fH:Bool)(b:Int)(Z:V)(Y:K):Prop:=F.t Y a3 fF a b8 bX fH b Z
theorem ok{a3:Int}{fF:Bool}{a:U}{b8:Nat}{bX:Nat}{fH:Bool}{b:Int}{Z:V}{Y:K}(g:t a3 fF a b8 bX fH b Z Y):aF id #[.int .i64 a3,.bool fF,.slice a b8 bX,.bool fH,.int .i64 b] Z Y:=
 c7 c8 (L:=r) (cY:=[.cell 10 25,.tmp 11]) Tryz.func106 (by kernel_rfl) (by kernel_rfl) (by kernel_rfl) (args:=[.int .i64 a3,.bool fF,.slice a b8 bX,.bool fH,.int .i64 b]) (by kernel_rfl) (F.ok Y _ Z (bI rfl (aO rfl (k rfl (aO rfl (bI rfl (g)))))))
end pP
namespace m5
noncomputable def r:Code:=c6 Tryz.f107
def aC.t(Y:K)(a:U)(b c:Nat)(d:Int)(Z:V):Prop:=
 aF pC.id #[.slice a b c] Z fun a b=>
 c0 a fun a=>
 b6 a fun a c e f=>
 dG f .i64 fun f f=>
 bC f <| Y (.tuple #[.slice a c e,.int .u64 d,.int .i64 0]) b
def aC.g(Y:K)(X:Fr)(Z:V):Prop:=aG (X 7) fun a b c=>aV .u64 (X 8) fun d=>aC.t Y a b c d Z
theorem aC.ok(Y:K)(X:Fr)(Z:V)(g:aC.g Y X Z):den prog E (aS r [W,W,W,W,W,W]) (aZ E [.tmp 4,.tmp 5,.tmp 6] Y) X Z:=
 a8 g fun a b c d g=>bM g fun e f g=>bO [(7,.slice a b c),(8,.int .u64 e)] ⟨d,f,trivial⟩ (by kernel_rfl) g
def bG.g(bN:U→Nat→Nat→Int→U→Nat→Nat→Int→Int→V→Prop)(X:Fr)(Z:V):Prop:=aG (X 0) fun S a R=>aV .u64 (X 1) fun aQ=>aG (X 7) fun b c d=>aV .u64 (X 8) fun e=>aV .i64 (X 9) fun f=>bN S a R aQ b c d e f Z
def b0.t(Y:K)(a:U→Nat→Nat→Int→U→Nat→Nat→Int→Int→V→Prop)(S:U)(b R:Nat)(aQ:Int)(c:U)(d e:Nat)(f g:Int)(Z:V):Prop:=
 cond (decide (g≥0)) (cL S b g 1 fun h=>
 cI Z .u64 h fun h=>
 aF gQ.id #[.int .u64 f,.int .u64 h,.int .u64 aQ] Z fun h i=>
 c0 h fun h=>
 dG h .u64 fun h j=>
 dG j .u64 fun j l=>
 bC l <| cL c d g 1 fun l=>
 aW i l (.int .u64 h) fun h=>
 a2 (IntKind.i64.wrap (g - 1)) fun g=>
 a S b R aQ c d e j g h) (aC.t Y c d e f Z)
def b0.g(Y:K)(a:U→Nat→Nat→Int→U→Nat→Nat→Int→Int→V→Prop)(X:Fr)(Z:V):Prop:=aG (X 0) fun S b R=>aV .u64 (X 1) fun aQ=>aG (X 7) fun c d e=>aV .u64 (X 8) fun f=>aV .i64 (X 9) fun h=>b0.t Y a S b R aQ c d e f h Z
theorem b0.ok(Y:K)(a:U→Nat→Nat→Int→U→Nat→Nat→Int→Int→V→Prop)(X:Fr)(Z:V)(g:b0.g Y a X Z):den prog E (aS r [W,W,W,W,W,x,W,x,x]) (aH.then (bG.g a) (aH.inBlock 0 (aH.then (aC.g Y) (aZ E [.tmp 4,.tmp 5,.tmp 6] Y)))) X Z:=
 a8 g fun S a R b g=>bM g fun aQ c g=>a8 g fun d e f h g=>bM g fun i j g=>bM g fun l m g=>bO [(0,.slice S a R),(1,.int .u64 aQ),(7,.slice d e f),(8,.int .u64 i),(9,.int .i64 l)] ⟨b,c,h,j,m,trivial⟩ (by kernel_rfl) g
def bG.t(Y:K):Nat→U→Nat→Nat→Int→U→Nat→Nat→Int→Int→V→Prop
 | 0=>fun _ _ _ _ _ _ _ _ _ _=>False
 | n+1=>fun S a R aQ b c d e f Z=>b0.t Y (bG.t Y n) S a R aQ b c d e f Z
theorem bG.ok(Y:K)(X:Fr)(Z:V)(g:bG.g (fun S a R aQ b c d e f Z=>∃ n,bG.t Y n S a R aQ b c d e f Z) X Z):den prog E (aS r [W,W,W,W,W,x,W,x]) (aH.inBlock 0 (aH.then (aC.g Y) (aZ E [.tmp 4,.tmp 5,.tmp 6] Y))) X Z:=by
 obtain⟨S,a,R,h,g⟩:=bQ g
 obtain⟨aQ,i,g⟩:=bS g
 obtain⟨b,c,d,j,g⟩:=bQ g
 obtain⟨e,l,g⟩:=bS g
 obtain⟨f,m,g⟩:=bS g
 obtain⟨n,g⟩:=g
 refine e1 (fun n=>bG.g (bG.t Y n)) (N:=(aS r [W,W,W,W,W,x,W,x,x])) (by kernel_rfl) (fun X Z g=>?_) (fun n=>b0.ok Y (bG.t Y n)) n X Z (k h (bI i (k j (bI l (bI m (g))))))
 obtain⟨S,a,R,h,g⟩:=bQ g
 obtain⟨aQ,i,g⟩:=bS g
 obtain⟨b,c,d,j,g⟩:=bQ g
 obtain⟨e,l,g⟩:=bS g
 obtain⟨f,m,g⟩:=bS g
 exact g
theorem eP.ok(Y:K)(X:Fr)(Z:V)(g:bG.g (fun S a R aQ b c d e f Z=>∃ n,bG.t Y n S a R aQ b c d e f Z) X Z):den prog E (aS r [W,W,W,W,W,x,W]) (aH.then (aC.g Y) (aZ E [.tmp 4,.tmp 5,.tmp 6] Y)) X Z:=
 eR (by kernel_rfl) (bG.ok Y X Z g)
def a7.t(Y:K)(S:U)(a R:Nat)(aQ:Int)(b:U)(c d:Nat)(e:Int)(Z:V):Prop:=
 a2 (IntKind.i64.wrap ((((a:Nat):Int)) - 1)) fun f=>(∃ n,bG.t Y n S a R aQ b c d e f Z)
def a7.g(Y:K)(X:Fr)(Z:V):Prop:=aG (X 0) fun S a R=>aV .u64 (X 1) fun aQ=>aG (X 7) fun b c d=>aV .u64 (X 8) fun e=>a7.t Y S a R aQ b c d e Z
theorem a7.ok(Y:K)(X:Fr)(Z:V)(g:a7.g Y X Z):den prog E (aS r [W,W,W,W,W,x]) (aH.then (aC.g Y) (aZ E [.tmp 4,.tmp 5,.tmp 6] Y)) X Z:=
 a8 g fun S a R b g=>bM g fun aQ c g=>a8 g fun d e f h g=>bM g fun i j g=>cT 1 (s:=(aS r [W,W,W,W,W,x,W])) (by kernel_rfl) (eP.ok Y) (bO [(0,.slice S a R),(1,.int .u64 aQ),(7,.slice d e f),(8,.int .u64 i)] ⟨b,c,h,j,trivial⟩ (by kernel_rfl) g)
theorem gV.ok(Y:K)(X:Fr)(Z:V)(g:a7.g Y X Z):den prog E (aS r [W,W,W,W,W]) (aZ E [.tmp 4,.tmp 5,.tmp 6] Y) X Z:=
 e5 (by kernel_rfl) (aC.ok Y) (a7.ok Y X Z g)
def F.t(Y:K)(S:U)(a R:Nat)(aQ:Int)(Z:V):Prop:=
 aF j0.id #[.slice S a R] Z fun b c=>
 b9 b fun b=>
 cond (!b) (Y (.tuple #[.slice none 0 0,.int .u64 0,.int .i64 2]) c) (cond (aQ == 0) (Y (.tuple #[.slice none 0 0,.int .u64 0,.int .i64 4]) c) (h8 c 27 j9 (((a:Nat):Int)) (((a:Nat):Int)) fun b c=>
 a7.t Y S a R aQ (some b) ((((a:Nat):Int)).toNat) ((((a:Nat):Int)).toNat) 0 c))
def F.g(Y:K)(X:Fr)(Z:V):Prop:=aG (X 0) fun S a R=>aV .u64 (X 1) fun aQ=>F.t Y S a R aQ Z
theorem F.ok(Y:K)(X:Fr)(Z:V)(g:F.g Y X Z):den prog E r (aZ E [.tmp 4,.tmp 5,.tmp 6] Y) X Z:=
 a8 g fun S a R b g=>bM g fun aQ c g=>cT 5 (s:=(aS r [W,W,W,W,W])) (by kernel_rfl) (gV.ok Y) (bO [(0,.slice S a R),(1,.int .u64 aQ)] ⟨b,c,trivial⟩ (by kernel_rfl) g)
def t(S:U)(a R:Nat)(aQ:Int)(Z:V)(Y:K):Prop:=F.t Y S a R aQ Z
theorem ok{S:U}{a:Nat}{R:Nat}{aQ:Int}{Z:V}{Y:K}(g:t S a R aQ Z Y):aF id #[.slice S a R,.int .u64 aQ] Z Y:=
 c7 c8 (L:=r) (cY:=[.tmp 4,.tmp 5,.tmp 6]) Tryz.func107 (by kernel_rfl) (by kernel_rfl) (by kernel_rfl) (args:=[.slice S a R,.int .u64 aQ]) (by kernel_rfl) (F.ok Y _ Z (k rfl (bI rfl (g))))
end m5
namespace r7
noncomputable def r:Code:=c6 Tryz.f108
def F.t(Y:K)(a3:Int)(Z:V):Prop:=
 aF m2.id #[.int .u64 a3] Z fun a b=>
 aV .i64 a fun a=>
 a2 (IntKind.i64.wrap (64 - a)) fun a=>
 Y (.int .i64 a) b
def F.g(Y:K)(X:Fr)(Z:V):Prop:=aV .u64 (X 0) fun a3=>F.t Y a3 Z
theorem F.ok(Y:K)(X:Fr)(Z:V)(g:F.g Y X Z):den prog E r (aZ E [.tmp 2] Y) X Z:=
 bM g fun a3 a g=>bO [(0,.int .u64 a3)] ⟨a,trivial⟩ (by kernel_rfl) g
def t(a3:Int)(Z:V)(Y:K):Prop:=F.t Y a3 Z
theorem ok{a3:Int}{Z:V}{Y:K}(g:t a3 Z Y):aF id #[.int .u64 a3] Z Y:=
 c7 c8 (L:=r) (cY:=[.tmp 2]) Tryz.func108 (by kernel_rfl) (by kernel_rfl) (by kernel_rfl) (args:=[.int .u64 a3]) (by kernel_rfl) (F.ok Y _ Z (bI rfl (g)))
end r7
namespace mJ
noncomputable def r:Code:=c6 Tryz.f109
def aC.t(Y:K)(a:U)(b c:Nat)(Z:V):Prop:=
 Y (.slice a b c) Z
def aC.g(Y:K)(X:Fr)(Z:V):Prop:=aG (X 7) fun a b c=>aC.t Y a b c Z
theorem aC.ok(Y:K)(X:Fr)(Z:V)(g:aC.g Y X Z):den prog E (aS r [W,W,W,W,W,W]) (aZ E [.tmp 6] Y) X Z:=
 a8 g fun a b c d g=>bO [(7,.slice a b c)] ⟨d,trivial⟩ (by kernel_rfl) g
def bG.g(bN:Int→U→Nat→Nat→Int→Int→Int→V→Prop)(X:Fr)(Z:V):Prop:=aV .i64 (X 1) fun aQ=>aG (X 7) fun a b c=>aV .u64 (X 8) fun d=>aV .i64 (X 19) fun e=>aV .i64 (X 20) fun f=>bN aQ a b c d e f Z
def b0.t(Y:K)(a:Int→U→Nat→Nat→Int→Int→Int→V→Prop)(aQ:Int)(b:U)(c d:Nat)(e f g:Int)(Z:V):Prop:=
 cond (decide (g < f)) (cL b c g 1 fun h=>
 cI Z .u64 h fun h=>
 0≤aQ∧a2 (jM .u64 h aQ) fun h=>
 a2 (uL .u64 h e) fun e=>
 cL b c g 1 fun h=>
 cI Z .u64 h fun h=>
 a2 (IntKind.i64.wrap (64 - aQ)) fun i=>
 0≤i∧a2 (gL .u64 h i) fun h=>
 cL b c g 1 fun i=>
 aW Z i (.int .u64 e) fun e=>
 a2 (IntKind.i64.wrap (g+1)) fun g=>
 a aQ b c d h f g e) (aC.t Y b c d Z)
def b0.g(Y:K)(a:Int→U→Nat→Nat→Int→Int→Int→V→Prop)(X:Fr)(Z:V):Prop:=aV .i64 (X 1) fun aQ=>aG (X 7) fun b c d=>aV .u64 (X 8) fun e=>aV .i64 (X 19) fun f=>aV .i64 (X 20) fun h=>b0.t Y a aQ b c d e f h Z
theorem b0.ok(Y:K)(a:Int→U→Nat→Nat→Int→Int→Int→V→Prop)(X:Fr)(Z:V)(g:b0.g Y a X Z):den prog E (aS r [W,W,W,W,W,x,W,x,x]) (aH.then (bG.g a) (aH.inBlock 0 (aH.then (aC.g Y) (aZ E [.tmp 6] Y)))) X Z:=
 bM g fun aQ a g=>a8 g fun b c d e g=>bM g fun f h g=>bM g fun i j g=>bM g fun l m g=>bO [(1,.int .i64 aQ),(7,.slice b c d),(8,.int .u64 f),(19,.int .i64 i),(20,.int .i64 l)] ⟨a,e,h,j,m,trivial⟩ (by kernel_rfl) g
def bG.t(Y:K):Nat→Int→U→Nat→Nat→Int→Int→Int→V→Prop
 | 0=>fun _ _ _ _ _ _ _ _=>False
 | n+1=>fun aQ a b c d e f Z=>b0.t Y (bG.t Y n) aQ a b c d e f Z
theorem bG.ok(Y:K)(X:Fr)(Z:V)(g:bG.g (fun aQ a b c d e f Z=>∃ n,bG.t Y n aQ a b c d e f Z) X Z):den prog E (aS r [W,W,W,W,W,x,W,x]) (aH.inBlock 0 (aH.then (aC.g Y) (aZ E [.tmp 6] Y))) X Z:=by
 obtain⟨aQ,h,g⟩:=bS g
 obtain⟨a,b,c,i,g⟩:=bQ g
 obtain⟨d,j,g⟩:=bS g
 obtain⟨e,l,g⟩:=bS g
 obtain⟨f,m,g⟩:=bS g
 obtain⟨n,g⟩:=g
 refine e1 (fun n=>bG.g (bG.t Y n)) (N:=(aS r [W,W,W,W,W,x,W,x,x])) (by kernel_rfl) (fun X Z g=>?_) (fun n=>b0.ok Y (bG.t Y n)) n X Z (bI h (k i (bI j (bI l (bI m (g))))))
 obtain⟨aQ,h,g⟩:=bS g
 obtain⟨a,b,c,i,g⟩:=bQ g
 obtain⟨d,j,g⟩:=bS g
 obtain⟨e,l,g⟩:=bS g
 obtain⟨f,m,g⟩:=bS g
 exact g
theorem eP.ok(Y:K)(X:Fr)(Z:V)(g:bG.g (fun aQ a b c d e f Z=>∃ n,bG.t Y n aQ a b c d e f Z) X Z):den prog E (aS r [W,W,W,W,W,x,W]) (aH.then (aC.g Y) (aZ E [.tmp 6] Y)) X Z:=
 eR (by kernel_rfl) (bG.ok Y X Z g)
def a7.t(Y:K)(aQ:Int)(a:U)(b c:Nat)(d:Int)(Z:V):Prop:=
 (∃ n,bG.t Y n aQ a b c d (((b:Nat):Int)) 0 Z)
def a7.g(Y:K)(X:Fr)(Z:V):Prop:=aV .i64 (X 1) fun aQ=>aG (X 7) fun a b c=>aV .u64 (X 8) fun d=>a7.t Y aQ a b c d Z
theorem a7.ok(Y:K)(X:Fr)(Z:V)(g:a7.g Y X Z):den prog E (aS r [W,W,W,W,W,x]) (aH.then (aC.g Y) (aZ E [.tmp 6] Y)) X Z:=
 bM g fun aQ a g=>a8 g fun b c d e g=>bM g fun f h g=>cT 1 (s:=(aS r [W,W,W,W,W,x,W])) (by kernel_rfl) (eP.ok Y) (bO [(1,.int .i64 aQ),(7,.slice b c d),(8,.int .u64 f)] ⟨a,e,h,trivial⟩ (by kernel_rfl) g)
theorem gV.ok(Y:K)(X:Fr)(Z:V)(g:a7.g Y X Z):den prog E (aS r [W,W,W,W,W]) (aZ E [.tmp 6] Y) X Z:=
 e5 (by kernel_rfl) (aC.ok Y) (a7.ok Y X Z g)
def F.t(Y:K)(S:U)(a R:Nat)(aQ b:Int)(Z:V):Prop:=
 h8 Z 27 j9 b b fun c d=>
 mW d 1 (some c) b.toNat (.slice S a R) fun a a=>
 cond (aQ == 0) (Y (.slice (some c) b.toNat b.toNat) a) (a7.t Y aQ (some c) b.toNat b.toNat 0 a)
def F.g(Y:K)(X:Fr)(Z:V):Prop:=aG (X 0) fun S a R=>aV .i64 (X 1) fun aQ=>aV .i64 (X 2) fun b=>F.t Y S a R aQ b Z
theorem F.ok(Y:K)(X:Fr)(Z:V)(g:F.g Y X Z):den prog E r (aZ E [.tmp 6] Y) X Z:=
 a8 g fun S a R b g=>bM g fun aQ c g=>bM g fun d e g=>cT 5 (s:=(aS r [W,W,W,W,W])) (by kernel_rfl) (gV.ok Y) (bO [(0,.slice S a R),(1,.int .i64 aQ),(2,.int .i64 d)] ⟨b,c,e,trivial⟩ (by kernel_rfl) g)
def t(S:U)(a R:Nat)(aQ b:Int)(Z:V)(Y:K):Prop:=F.t Y S a R aQ b Z
theorem ok{S:U}{a:Nat}{R:Nat}{aQ:Int}{b:Int}{Z:V}{Y:K}(g:t S a R aQ b Z Y):aF id #[.slice S a R,.int .i64 aQ,.int .i64 b] Z Y:=
 c7 c8 (L:=r) (cY:=[.tmp 6]) Tryz.func109 (by kernel_rfl) (by kernel_rfl) (by kernel_rfl) (args:=[.slice S a R,.int .i64 aQ,.int .i64 b]) (by kernel_rfl) (F.ok Y _ Z (k rfl (bI rfl (bI rfl (g)))))
end mJ
namespace iK
noncomputable def r:Code:=c6 Tryz.f110
def a7.t(Y:K)(a:U)(b c:Nat)(Z:V):Prop:=
 Y (.slice a b c) Z
def a7.g(Y:K)(X:Fr)(Z:V):Prop:=aG (X 6) fun a b c=>a7.t Y a b c Z
theorem a7.ok(Y:K)(X:Fr)(Z:V)(g:a7.g Y X Z):den prog E (aS r [W,x,W,W,W,W]) (aZ E [.tmp 4] Y) X Z:=
 a8 g fun a b c d g=>bO [(6,.slice a b c)] ⟨d,trivial⟩ (by kernel_rfl) g
def dN.g(bN:U→Nat→Nat→U→Nat→Nat→Int→U→Nat→Nat→Int→V→Prop)(X:Fr)(Z:V):Prop:=aG (X 0) fun S a R=>aG (X 1) fun b y c=>aV .i64 (X 5) fun d=>aG (X 6) fun e f h=>aV .i64 (X 7) fun i=>bN S a R b y c d e f h i Z
def eC.t(Y:K)(a:U→Nat→Nat→U→Nat→Nat→Int→U→Nat→Nat→Int→V→Prop)(S:U)(b R:Nat)(c:U)(y d:Nat)(e:Int)(f:U)(g h:Nat)(i:Int)(Z:V):Prop:=
 a2 (IntKind.i64.wrap (i - 1)) fun i=>a S b R c y d e f g h i Z
def eC.g(Y:K)(a:U→Nat→Nat→U→Nat→Nat→Int→U→Nat→Nat→Int→V→Prop)(X:Fr)(Z:V):Prop:=aG (X 0) fun S b R=>aG (X 1) fun c y d=>aV .i64 (X 5) fun e=>aG (X 6) fun f h i=>aV .i64 (X 7) fun j=>eC.t Y a S b R c y d e f h i j Z
theorem eC.ok(Y:K)(a:U→Nat→Nat→U→Nat→Nat→Int→U→Nat→Nat→Int→V→Prop)(X:Fr)(Z:V)(g:eC.g Y a X Z):den prog E (aS r [W,x,W,W,W,x,W,x,x,W,W]) (aH.then (dN.g a) (aH.inBlock 0 (aH.then (a7.g Y) (aZ E [.tmp 4] Y)))) X Z:=
 a8 g fun S a R b g=>a8 g fun c y d e g=>bM g fun f h g=>a8 g fun i j l m g=>bM g fun n t g=>bO [(0,.slice S a R),(1,.slice c y d),(5,.int .i64 f),(6,.slice i j l),(7,.int .i64 n)] ⟨b,e,h,m,t,trivial⟩ (by kernel_rfl) g
def eT.g(bN:U→Nat→Nat→U→Nat→Nat→Int→U→Nat→Nat→Int→Int→U→Nat→Nat→V→Prop)(X:Fr)(Z:V):Prop:=aG (X 0) fun S a R=>aG (X 1) fun b y c=>aV .i64 (X 5) fun d=>aG (X 6) fun e f h=>aV .i64 (X 7) fun i=>aV .u64 (X 8) fun j=>aG (X 9) fun l m n=>bN S a R b y c d e f h i j l m n Z
def g7.t(Y:K)(a:U→Nat→Nat→U→Nat→Nat→Int→U→Nat→Nat→Int→V→Prop)(b:U→Nat→Nat→U→Nat→Nat→Int→U→Nat→Nat→Int→Int→U→Nat→Nat→V→Prop)(S:U)(c R:Nat)(d:U)(y e:Nat)(f:Int)(g:U)(h i:Nat)(j l:Int)(m:U)(n v:Nat)(Z:V):Prop:=
 a2 (IntKind.u64.wrap (l - 1)) fun l=>
 aF m7.id #[.slice m n v,.slice d y e] Z fun D E=>
 aV .u64 D fun D=>
 cond (D == 1) (cL g h j 1 fun D=>
 aW E D (.int .u64 l) fun D=>
 eC.t Y a S c R d y e f g h i j D) (b S c R d y e f g h i j l m n v E)
def g7.g(Y:K)(a:U→Nat→Nat→U→Nat→Nat→Int→U→Nat→Nat→Int→V→Prop)(b:U→Nat→Nat→U→Nat→Nat→Int→U→Nat→Nat→Int→Int→U→Nat→Nat→V→Prop)(X:Fr)(Z:V):Prop:=aG (X 0) fun S c R=>aG (X 1) fun d y e=>aV .i64 (X 5) fun f=>aG (X 6) fun h i j=>aV .i64 (X 7) fun l=>aV .u64 (X 8) fun m=>aG (X 9) fun n v D=>g7.t Y a b S c R d y e f h i j l m n v D Z
theorem g7.ok(Y:K)(a:U→Nat→Nat→U→Nat→Nat→Int→U→Nat→Nat→Int→V→Prop)(b:U→Nat→Nat→U→Nat→Nat→Int→U→Nat→Nat→Int→Int→U→Nat→Nat→V→Prop)(X:Fr)(Z:V)(g:g7.g Y a b X Z):den prog E (aS r [W,x,W,W,W,x,W,x,x,W,x,x,W,W,W,x,x]) (aH.then (eT.g b) (aH.inBlock 2 (aH.inBlock 1 (aH.then (eC.g Y a) (aH.then (dN.g a) (aH.inBlock 0 (aH.then (a7.g Y) (aZ E [.tmp 4] Y)))))))) X Z:=
 a8 g fun S a R b g=>a8 g fun c y d e g=>bM g fun f h g=>a8 g fun i j l m g=>bM g fun n t g=>bM g fun v D g=>a8 g fun G H P K5 g=>bO [(0,.slice S a R),(1,.slice c y d),(5,.int .i64 f),(6,.slice i j l),(7,.int .i64 n),(8,.int .u64 v),(9,.slice G H P)] ⟨b,e,h,m,t,D,K5,trivial⟩ (by kernel_rfl) g
def eT.t(Y:K)(a:U→Nat→Nat→U→Nat→Nat→Int→U→Nat→Nat→Int→V→Prop):Nat→U→Nat→Nat→U→Nat→Nat→Int→U→Nat→Nat→Int→Int→U→Nat→Nat→V→Prop
 | 0=>fun _ _ _ _ _ _ _ _ _ _ _ _ _ _ _ _=>False
 | n+1=>fun S b R c y d e f g h i j l m v Z=>g7.t Y a (eT.t Y a n) S b R c y d e f g h i j l m v Z
theorem eT.ok(Y:K)(a:U→Nat→Nat→U→Nat→Nat→Int→U→Nat→Nat→Int→V→Prop)(X:Fr)(Z:V)(g:eT.g (fun S b R c y d e f h i j l m v D Z=>∃ n,eT.t Y a n S b R c y d e f h i j l m v D Z) X Z):den prog E (aS r [W,x,W,W,W,x,W,x,x,W,x,x,W,W,W,x]) (aH.inBlock 2 (aH.inBlock 1 (aH.then (eC.g Y a) (aH.then (dN.g a) (aH.inBlock 0 (aH.then (a7.g Y) (aZ E [.tmp 4] Y))))))) X Z:=by
 obtain⟨S,b,R,G,g⟩:=bQ g
 obtain⟨c,y,d,H,g⟩:=bQ g
 obtain⟨e,P,g⟩:=bS g
 obtain⟨f,h,i,K5,g⟩:=bQ g
 obtain⟨j,K6,g⟩:=bS g
 obtain⟨l,K7,g⟩:=bS g
 obtain⟨m,v,D,K8,g⟩:=bQ g
 obtain⟨n,g⟩:=g
 refine e1 (fun n=>eT.g (eT.t Y a n)) (N:=(aS r [W,x,W,W,W,x,W,x,x,W,x,x,W,W,W,x,x])) (by kernel_rfl) (fun X Z g=>?_) (fun n=>g7.ok Y a (eT.t Y a n)) n X Z (k G (k H (bI P (k K5 (bI K6 (bI K7 (k K8 (g))))))))
 obtain⟨S,b,R,G,g⟩:=bQ g
 obtain⟨c,y,d,H,g⟩:=bQ g
 obtain⟨e,P,g⟩:=bS g
 obtain⟨f,h,i,K5,g⟩:=bQ g
 obtain⟨j,K6,g⟩:=bS g
 obtain⟨l,K7,g⟩:=bS g
 obtain⟨m,v,D,K8,g⟩:=bQ g
 exact g
theorem uE.ok(Y:K)(a:U→Nat→Nat→U→Nat→Nat→Int→U→Nat→Nat→Int→V→Prop)(X:Fr)(Z:V)(g:eT.g (fun S b R c y d e f h i j l m v D Z=>∃ n,eT.t Y a n S b R c y d e f h i j l m v D Z) X Z):den prog E (aS r [W,x,W,W,W,x,W,x,x,W,x,x,W,W,W]) (aH.inBlock 1 (aH.then (eC.g Y a) (aH.then (dN.g a) (aH.inBlock 0 (aH.then (a7.g Y) (aZ E [.tmp 4] Y)))))) X Z:=
 eR (by kernel_rfl) (eT.ok Y a X Z g)
def eL.t(Y:K)(a:U→Nat→Nat→U→Nat→Nat→Int→U→Nat→Nat→Int→V→Prop)(S:U)(b R:Nat)(c:U)(y d:Nat)(e:Int)(f:U)(g h:Nat)(i:Int)(Z:V):Prop:=
 a2 (IntKind.i64.wrap (i+e)) fun j=>
 cL S b j 1 fun j=>
 cI Z .u64 j fun j=>
 a2 (IntKind.i64.wrap (i+e)) fun l=>
 a2 (IntKind.i64.wrap (l - 1)) fun l=>
 cL S b l 1 fun l=>
 cI Z .u64 l fun l=>
 a2 (IntKind.i64.wrap (e - 1)) fun m=>
 cL c y m 1 fun m=>
 cI Z .u64 m fun m=>
 aF tR.id #[.int .u64 j,.int .u64 l,.int .u64 m] Z fun j l=>
 aV .u64 j fun j=>
 a2 (IntKind.i64.wrap (i+e)) fun m=>
 a2 (IntKind.i64.wrap (m+1)) fun m=>
 h7 1 S b R (some (.int .i64 i)) (some (.int .i64 m)) none fun m v D=>
 aF m6.id #[.slice m v D,.slice c y d,.int .u64 j] l fun l E=>
 aV .u64 l fun l=>
 cond (l == 0) (cL f g i 1 fun l=>
 aW E l (.int .u64 j) fun l=>
 eC.t Y a S b R c y d e f g h i l) ((∃ n,eT.t Y a n S b R c y d e f g h i j m v D E))
def eL.g(Y:K)(a:U→Nat→Nat→U→Nat→Nat→Int→U→Nat→Nat→Int→V→Prop)(X:Fr)(Z:V):Prop:=aG (X 0) fun S b R=>aG (X 1) fun c y d=>aV .i64 (X 5) fun e=>aG (X 6) fun f h i=>aV .i64 (X 7) fun j=>eL.t Y a S b R c y d e f h i j Z
theorem eL.ok(Y:K)(a:U→Nat→Nat→U→Nat→Nat→Int→U→Nat→Nat→Int→V→Prop)(X:Fr)(Z:V)(g:eL.g Y a X Z):den prog E (aS r [W,x,W,W,W,x,W,x,x,W,x,x]) (aH.inBlock 1 (aH.then (eC.g Y a) (aH.then (dN.g a) (aH.inBlock 0 (aH.then (a7.g Y) (aZ E [.tmp 4] Y)))))) X Z:=
 a8 g fun S b R c g=>a8 g fun d y e f g=>bM g fun h i g=>a8 g fun j l m n g=>bM g fun t v g=>cT 3 (s:=(aS r [W,x,W,W,W,x,W,x,x,W,x,x,W,W,W])) (by kernel_rfl) (uE.ok Y a) (bO [(0,.slice S b R),(1,.slice d y e),(5,.int .i64 h),(6,.slice j l m),(7,.int .i64 t)] ⟨c,f,i,n,v,trivial⟩ (by kernel_rfl) g)
theorem pV.ok(Y:K)(a:U→Nat→Nat→U→Nat→Nat→Int→U→Nat→Nat→Int→V→Prop)(X:Fr)(Z:V)(g:eL.g Y a X Z):den prog E (aS r [W,x,W,W,W,x,W,x,x,W,x]) (aH.then (eC.g Y a) (aH.then (dN.g a) (aH.inBlock 0 (aH.then (a7.g Y) (aZ E [.tmp 4] Y))))) X Z:=
 eR (by kernel_rfl) (eL.ok Y a X Z g)
theorem rQ.ok(Y:K)(a:U→Nat→Nat→U→Nat→Nat→Int→U→Nat→Nat→Int→V→Prop)(X:Fr)(Z:V)(g:eL.g Y a X Z):den prog E (aS r [W,x,W,W,W,x,W,x,x,W]) (aH.then (dN.g a) (aH.inBlock 0 (aH.then (a7.g Y) (aZ E [.tmp 4] Y)))) X Z:=
 e5 (by kernel_rfl) (eC.ok Y a) (pV.ok Y a X Z g)
def dD.t(Y:K)(a:U→Nat→Nat→U→Nat→Nat→Int→U→Nat→Nat→Int→V→Prop)(S:U)(b R:Nat)(c:U)(y d:Nat)(e:Int)(f:U)(g h:Nat)(i:Int)(Z:V):Prop:=
 cond (decide (i≥0)) (eL.t Y a S b R c y d e f g h i Z) (a7.t Y f g h Z)
def dD.g(Y:K)(a:U→Nat→Nat→U→Nat→Nat→Int→U→Nat→Nat→Int→V→Prop)(X:Fr)(Z:V):Prop:=aG (X 0) fun S b R=>aG (X 1) fun c y d=>aV .i64 (X 5) fun e=>aG (X 6) fun f h i=>aV .i64 (X 7) fun j=>dD.t Y a S b R c y d e f h i j Z
theorem dD.ok(Y:K)(a:U→Nat→Nat→U→Nat→Nat→Int→U→Nat→Nat→Int→V→Prop)(X:Fr)(Z:V)(g:dD.g Y a X Z):den prog E (aS r [W,x,W,W,W,x,W,x,x]) (aH.then (dN.g a) (aH.inBlock 0 (aH.then (a7.g Y) (aZ E [.tmp 4] Y)))) X Z:=
 a8 g fun S b R c g=>a8 g fun d y e f g=>bM g fun h i g=>a8 g fun j l m n g=>bM g fun t v g=>cT 1 (s:=(aS r [W,x,W,W,W,x,W,x,x,W])) (by kernel_rfl) (rQ.ok Y a) (bO [(0,.slice S b R),(1,.slice d y e),(5,.int .i64 h),(6,.slice j l m),(7,.int .i64 t)] ⟨c,f,i,n,v,trivial⟩ (by kernel_rfl) g)
def dN.t(Y:K):Nat→U→Nat→Nat→U→Nat→Nat→Int→U→Nat→Nat→Int→V→Prop
 | 0=>fun _ _ _ _ _ _ _ _ _ _ _ _=>False
 | n+1=>fun S a R b y c d e f g h Z=>dD.t Y (dN.t Y n) S a R b y c d e f g h Z
theorem dN.ok(Y:K)(X:Fr)(Z:V)(g:dN.g (fun S a R b y c d e f h i Z=>∃ n,dN.t Y n S a R b y c d e f h i Z) X Z):den prog E (aS r [W,x,W,W,W,x,W,x]) (aH.inBlock 0 (aH.then (a7.g Y) (aZ E [.tmp 4] Y))) X Z:=by
 obtain⟨S,a,R,j,g⟩:=bQ g
 obtain⟨b,y,c,l,g⟩:=bQ g
 obtain⟨d,m,g⟩:=bS g
 obtain⟨e,f,h,v,g⟩:=bQ g
 obtain⟨i,D,g⟩:=bS g
 obtain⟨n,g⟩:=g
 refine e1 (fun n=>dN.g (dN.t Y n)) (N:=(aS r [W,x,W,W,W,x,W,x,x])) (by kernel_rfl) (fun X Z g=>?_) (fun n=>dD.ok Y (dN.t Y n)) n X Z (k j (k l (bI m (k v (bI D (g))))))
 obtain⟨S,a,R,j,g⟩:=bQ g
 obtain⟨b,y,c,l,g⟩:=bQ g
 obtain⟨d,m,g⟩:=bS g
 obtain⟨e,f,h,v,g⟩:=bQ g
 obtain⟨i,D,g⟩:=bS g
 exact g
theorem rR.ok(Y:K)(X:Fr)(Z:V)(g:dN.g (fun S a R b y c d e f h i Z=>∃ n,dN.t Y n S a R b y c d e f h i Z) X Z):den prog E (aS r [W,x,W,W,W,x,W]) (aH.then (a7.g Y) (aZ E [.tmp 4] Y)) X Z:=
 eR (by kernel_rfl) (dN.ok Y X Z g)
def cA.t(Y:K)(S:U)(a R:Nat)(b:U)(y c:Nat)(d:Int)(e:U)(f g:Nat)(Z:V):Prop:=
 a2 (IntKind.i64.wrap ((((a:Nat):Int)) - d)) fun h=>
 a2 (IntKind.i64.wrap (h - 1)) fun h=>
 (∃ n,dN.t Y n S a R b y c d e f g h Z)
def cA.g(Y:K)(X:Fr)(Z:V):Prop:=aG (X 0) fun S a R=>aG (X 1) fun b y c=>aV .i64 (X 5) fun d=>aG (X 6) fun e f h=>cA.t Y S a R b y c d e f h Z
theorem cA.ok(Y:K)(X:Fr)(Z:V)(g:cA.g Y X Z):den prog E (aS r [W,x,W,W,W,x]) (aH.then (a7.g Y) (aZ E [.tmp 4] Y)) X Z:=
 a8 g fun S a R b g=>a8 g fun c y d e g=>bM g fun f h g=>a8 g fun i j l m g=>cT 1 (s:=(aS r [W,x,W,W,W,x,W])) (by kernel_rfl) (rR.ok Y) (bO [(0,.slice S a R),(1,.slice c y d),(5,.int .i64 f),(6,.slice i j l)] ⟨b,e,h,m,trivial⟩ (by kernel_rfl) g)
theorem uH.ok(Y:K)(X:Fr)(Z:V)(g:cA.g Y X Z):den prog E (aS r [W,x,W,W,W]) (aZ E [.tmp 4] Y) X Z:=
 e5 (by kernel_rfl) (a7.ok Y) (cA.ok Y X Z g)
def aC.t(Y:K)(S:U)(a R:Nat)(b:U)(y c:Nat)(Z:V):Prop:=
 a2 (IntKind.i64.wrap ((((a:Nat):Int)) - (((y:Nat):Int)))) fun d=>
 h8 Z 27 j9 d d fun e f=>
 cA.t Y S a R b y c (((y:Nat):Int)) (some e) d.toNat d.toNat f
def aC.g(Y:K)(X:Fr)(Z:V):Prop:=aG (X 0) fun S a R=>aG (X 1) fun b y c=>aC.t Y S a R b y c Z
theorem aC.ok(Y:K)(X:Fr)(Z:V)(g:aC.g Y X Z):den prog E (aS r [W,x]) (aZ E [.tmp 4] Y) X Z:=
 a8 g fun S a R b g=>a8 g fun c y d e g=>cT 3 (s:=(aS r [W,x,W,W,W])) (by kernel_rfl) (uH.ok Y) (bO [(0,.slice S a R),(1,.slice c y d)] ⟨b,e,trivial⟩ (by kernel_rfl) g)
theorem w1.ok(Y:K)(X:Fr)(Z:V)(g:aC.g Y X Z):den prog E (aS r [W]) (aZ E [.tmp 4] Y) X Z:=
 Fp (by kernel_rfl) (aC.ok Y X Z g)
def F.t(Y:K)(S:U)(a R:Nat)(b:U)(y c:Nat)(Z:V):Prop:=
 aC.t Y S a R b y c Z
def F.g(Y:K)(X:Fr)(Z:V):Prop:=aG (X 0) fun S a R=>aG (X 1) fun b y c=>F.t Y S a R b y c Z
theorem F.ok(Y:K)(X:Fr)(Z:V)(g:F.g Y X Z):den prog E r (aZ E [.tmp 4] Y) X Z:=
 a8 g fun S a R b g=>a8 g fun c y d e g=>cT 1 (s:=(aS r [W])) (by kernel_rfl) (w1.ok Y) (bO [(0,.slice S a R),(1,.slice c y d)] ⟨b,e,trivial⟩ (by kernel_rfl) g)
def t(S:U)(a R:Nat)(b:U)(y c:Nat)(Z:V)(Y:K):Prop:=F.t Y S a R b y c Z
theorem ok{S:U}{a:Nat}{R:Nat}{b:U}{y:Nat}{c:Nat}{Z:V}{Y:K}(g:t S a R b y c Z Y):aF id #[.slice S a R,.slice b y c] Z Y:=
 c7 c8 (L:=r) (cY:=[.tmp 4]) Tryz.func110 (by kernel_rfl) (by kernel_rfl) (by kernel_rfl) (args:=[.slice S a R,.slice b y c]) (by kernel_rfl) (F.ok Y _ Z (k rfl (k rfl (g))))
end iK
namespace qF
noncomputable def r:Code:=c6 Tryz.f111
def F.t(Y:K)(S:U)(a R:Nat)(Z:V):Prop:=
 aF j1.id #[.slice S a R] Z fun a b=>
 aG a fun a c d=>
 cond ((((c:Nat):Int)) == 0) (Y (.tuple #[.int .u64 0,.bool true]) b) (cond ((((c:Nat):Int)) == 1) (cL a c 0 1 fun a=>
 cI b .u64 a fun a=>
 Y (.tuple #[.int .u64 a,.bool true]) b) (Y (.tuple #[.int .u64 0,.bool false]) b))
def F.g(Y:K)(X:Fr)(Z:V):Prop:=aG (X 0) fun S a R=>F.t Y S a R Z
theorem F.ok(Y:K)(X:Fr)(Z:V)(g:F.g Y X Z):den prog E r (aZ E [.tmp 2,.tmp 3] Y) X Z:=
 a8 g fun S a R b g=>bO [(0,.slice S a R)] ⟨b,trivial⟩ (by kernel_rfl) g
def t(S:U)(a R:Nat)(Z:V)(Y:K):Prop:=F.t Y S a R Z
theorem ok{S:U}{a:Nat}{R:Nat}{Z:V}{Y:K}(g:t S a R Z Y):aF id #[.slice S a R] Z Y:=
 c7 c8 (L:=r) (cY:=[.tmp 2,.tmp 3]) Tryz.func111 (by kernel_rfl) (by kernel_rfl) (by kernel_rfl) (args:=[.slice S a R]) (by kernel_rfl) (F.ok Y _ Z (k rfl (g)))
end qF
namespace j3
noncomputable def r:Code:=c6 Tryz.f112
def e3.g(bN:U→Nat→Nat→U→Nat→Nat→U→Nat→Nat→Int→Int→V→Prop)(X:Fr)(Z:V):Prop:=aG (X 0) fun S a R=>aG (X 1) fun b y c=>aG (X 2) fun d b8 bX=>aV .i64 (X 13) fun e=>aV .i64 (X 14) fun f=>bN S a R b y c d b8 bX e f Z
def cA.t(Y:K)(a:U→Nat→Nat→U→Nat→Nat→U→Nat→Nat→Int→Int→V→Prop)(S:U)(b R:Nat)(c:U)(y d:Nat)(e:U)(b8 bX:Nat)(f g:Int)(Z:V):Prop:=
 a2 (IntKind.i64.wrap (g+1)) fun g=>a S b R c y d e b8 bX f g Z
def cA.g(Y:K)(a:U→Nat→Nat→U→Nat→Nat→U→Nat→Nat→Int→Int→V→Prop)(X:Fr)(Z:V):Prop:=aG (X 0) fun S b R=>aG (X 1) fun c y d=>aG (X 2) fun e b8 bX=>aV .i64 (X 13) fun f=>aV .i64 (X 14) fun h=>cA.t Y a S b R c y d e b8 bX f h Z
theorem cA.ok(Y:K)(a:U→Nat→Nat→U→Nat→Nat→U→Nat→Nat→Int→Int→V→Prop)(X:Fr)(Z:V)(g:cA.g Y a X Z):den prog E (aS r [W,x,x,W,W,W]) (aH.then (e3.g a) (aH.inBlock 0 (aZ E [] Y))) X Z:=
 a8 g fun S a R b g=>a8 g fun c y d e g=>a8 g fun f b8 bX h g=>bM g fun i j g=>bM g fun l m g=>bO [(0,.slice S a R),(1,.slice c y d),(2,.slice f b8 bX),(13,.int .i64 i),(14,.int .i64 l)] ⟨b,e,h,j,m,trivial⟩ (by kernel_rfl) g
def dD.t(Y:K)(a:U→Nat→Nat→U→Nat→Nat→U→Nat→Nat→Int→Int→V→Prop)(S:U)(b R:Nat)(c:U)(y d:Nat)(e:U)(b8 bX:Nat)(f g:Int)(h i:Int)(Z:V):Prop:=
 a2 (IntKind.i64.wrap (f+(((y:Nat):Int)))) fun f=>
 cL S b f 1 fun f=>
 aW Z f (.int .u64 g) fun f=>
 cA.t Y a S b R c y d e b8 bX h i f
def dD.g(Y:K)(a:U→Nat→Nat→U→Nat→Nat→U→Nat→Nat→Int→Int→V→Prop)(X:Fr)(Z:V):Prop:=aG (X 0) fun S b R=>aG (X 1) fun c y d=>aG (X 2) fun e b8 bX=>aV .i64 (X 6) fun f=>aV .u64 (X 7) fun h=>aV .i64 (X 13) fun i=>aV .i64 (X 14) fun j=>dD.t Y a S b R c y d e b8 bX f h i j Z
theorem dD.ok(Y:K)(a:U→Nat→Nat→U→Nat→Nat→U→Nat→Nat→Int→Int→V→Prop)(X:Fr)(Z:V)(g:dD.g Y a X Z):den prog E (aS r [W,x,x,W,W,x,x,W,W,W]) (aH.inBlock 1 (aH.then (cA.g Y a) (aH.then (e3.g a) (aH.inBlock 0 (aZ E [] Y))))) X Z:=
 a8 g fun S a R b g=>a8 g fun c y d e g=>a8 g fun f b8 bX h g=>bM g fun i j g=>bM g fun l m g=>bM g fun n t g=>bM g fun v D g=>bO [(0,.slice S a R),(1,.slice c y d),(2,.slice f b8 bX),(6,.int .i64 i),(7,.int .u64 l),(13,.int .i64 n),(14,.int .i64 v)] ⟨b,e,h,j,m,t,D,trivial⟩ (by kernel_rfl) g
def hF.g(bN:U→Nat→Nat→U→Nat→Nat→U→Nat→Nat→Int→Int→Int→Int→Int→Int→V→Prop)(X:Fr)(Z:V):Prop:=aG (X 0) fun S a R=>aG (X 1) fun b y c=>aG (X 2) fun d b8 bX=>aV .i64 (X 6) fun e=>aV .u64 (X 7) fun f=>aV .i64 (X 13) fun h=>aV .i64 (X 14) fun i=>aV .i64 (X 18) fun j=>aV .i64 (X 19) fun l=>bN S a R b y c d b8 bX e f h i j l Z
def gJ.t(Y:K)(a:U→Nat→Nat→U→Nat→Nat→U→Nat→Nat→Int→Int→V→Prop)(b:U→Nat→Nat→U→Nat→Nat→U→Nat→Nat→Int→Int→Int→Int→Int→Int→V→Prop)(S:U)(c R:Nat)(d:U)(y e:Nat)(f:U)(b8 bX:Nat)(g h:Int)(i j:Int)(l m:Int)(Z:V):Prop:=
 cond (decide (m < l)) (cL d y m 1 fun n=>
 cI Z .u64 n fun n=>
 cL f b8 g 1 fun v=>
 cI Z .u64 v fun v=>
 aF r6.id #[.int .u64 n,.int .u64 v] Z fun n v=>
 c0 n fun n=>
 dG n .u64 fun n D=>
 dG D .u64 fun D E=>
 bC E <| o3 D h 0 fun D E=>
 a2 (IntKind.u64.wrap (n+E)) fun E=>
 a2 (IntKind.i64.wrap (m+g)) fun n=>
 a2 (IntKind.i64.wrap (m+g)) fun G=>
 cL S c G 1 fun G=>
 cI v .u64 G fun G=>
 o3 G D 0 fun D G=>
 cL S c n 1 fun n=>
 aW v n (.int .u64 D) fun D=>
 a2 (IntKind.u64.wrap (E+G)) fun E=>
 a2 (IntKind.i64.wrap (m+1)) fun G=>
 b S c R d y e f b8 bX g E i j l G D) (dD.t Y a S c R d y e f b8 bX g h i j Z)
def gJ.g(Y:K)(a:U→Nat→Nat→U→Nat→Nat→U→Nat→Nat→Int→Int→V→Prop)(b:U→Nat→Nat→U→Nat→Nat→U→Nat→Nat→Int→Int→Int→Int→Int→Int→V→Prop)(X:Fr)(Z:V):Prop:=aG (X 0) fun S c R=>aG (X 1) fun d y e=>aG (X 2) fun f b8 bX=>aV .i64 (X 6) fun h=>aV .u64 (X 7) fun i=>aV .i64 (X 13) fun j=>aV .i64 (X 14) fun l=>aV .i64 (X 18) fun m=>aV .i64 (X 19) fun n=>gJ.t Y a b S c R d y e f b8 bX h i j l m n Z
theorem gJ.ok(Y:K)(a:U→Nat→Nat→U→Nat→Nat→U→Nat→Nat→Int→Int→V→Prop)(b:U→Nat→Nat→U→Nat→Nat→U→Nat→Nat→Int→Int→Int→Int→Int→Int→V→Prop)(X:Fr)(Z:V)(g:gJ.g Y a b X Z):den prog E (aS r [W,x,x,W,W,x,x,W,W,x,W,x,x]) (aH.then (hF.g b) (aH.inBlock 2 (aH.then (dD.g Y a) (aH.inBlock 1 (aH.then (cA.g Y a) (aH.then (e3.g a) (aH.inBlock 0 (aZ E [] Y)))))))) X Z:=
 a8 g fun S a R b g=>a8 g fun c y d e g=>a8 g fun f b8 bX h g=>bM g fun i j g=>bM g fun l m g=>bM g fun n t g=>bM g fun v D g=>bM g fun G H g=>bM g fun P K5 g=>bO [(0,.slice S a R),(1,.slice c y d),(2,.slice f b8 bX),(6,.int .i64 i),(7,.int .u64 l),(13,.int .i64 n),(14,.int .i64 v),(18,.int .i64 G),(19,.int .i64 P)] ⟨b,e,h,j,m,t,D,H,K5,trivial⟩ (by kernel_rfl) g
def hF.t(Y:K)(a:U→Nat→Nat→U→Nat→Nat→U→Nat→Nat→Int→Int→V→Prop):Nat→U→Nat→Nat→U→Nat→Nat→U→Nat→Nat→Int→Int→Int→Int→Int→Int→V→Prop
 | 0=>fun _ _ _ _ _ _ _ _ _ _ _ _ _ _ _ _=>False
 | n+1=>fun S b R c y d e b8 bX f g h i j l Z=>gJ.t Y a (hF.t Y a n) S b R c y d e b8 bX f g h i j l Z
theorem hF.ok(Y:K)(a:U→Nat→Nat→U→Nat→Nat→U→Nat→Nat→Int→Int→V→Prop)(X:Fr)(Z:V)(g:hF.g (fun S b R c y d e b8 bX f h i j l m Z=>∃ n,hF.t Y a n S b R c y d e b8 bX f h i j l m Z) X Z):den prog E (aS r [W,x,x,W,W,x,x,W,W,x,W,x]) (aH.inBlock 2 (aH.then (dD.g Y a) (aH.inBlock 1 (aH.then (cA.g Y a) (aH.then (e3.g a) (aH.inBlock 0 (aZ E [] Y))))))) X Z:=by
 obtain⟨S,b,R,v,g⟩:=bQ g
 obtain⟨c,y,d,D,g⟩:=bQ g
 obtain⟨e,b8,bX,G,g⟩:=bQ g
 obtain⟨f,H,g⟩:=bS g
 obtain⟨h,P,g⟩:=bS g
 obtain⟨i,K5,g⟩:=bS g
 obtain⟨j,K6,g⟩:=bS g
 obtain⟨l,K7,g⟩:=bS g
 obtain⟨m,K8,g⟩:=bS g
 obtain⟨n,g⟩:=g
 refine e1 (fun n=>hF.g (hF.t Y a n)) (N:=(aS r [W,x,x,W,W,x,x,W,W,x,W,x,x])) (by kernel_rfl) (fun X Z g=>?_) (fun n=>gJ.ok Y a (hF.t Y a n)) n X Z (k v (k D (k G (bI H (bI P (bI K5 (bI K6 (bI K7 (bI K8 (g))))))))))
 obtain⟨S,b,R,v,g⟩:=bQ g
 obtain⟨c,y,d,D,g⟩:=bQ g
 obtain⟨e,b8,bX,G,g⟩:=bQ g
 obtain⟨f,H,g⟩:=bS g
 obtain⟨h,P,g⟩:=bS g
 obtain⟨i,K5,g⟩:=bS g
 obtain⟨j,K6,g⟩:=bS g
 obtain⟨l,K7,g⟩:=bS g
 obtain⟨m,K8,g⟩:=bS g
 exact g
theorem Bg.ok(Y:K)(a:U→Nat→Nat→U→Nat→Nat→U→Nat→Nat→Int→Int→V→Prop)(X:Fr)(Z:V)(g:hF.g (fun S b R c y d e b8 bX f h i j l m Z=>∃ n,hF.t Y a n S b R c y d e b8 bX f h i j l m Z) X Z):den prog E (aS r [W,x,x,W,W,x,x,W,W,x,W]) (aH.then (dD.g Y a) (aH.inBlock 1 (aH.then (cA.g Y a) (aH.then (e3.g a) (aH.inBlock 0 (aZ E [] Y)))))) X Z:=
 eR (by kernel_rfl) (hF.ok Y a X Z g)
def eC.t(Y:K)(a:U→Nat→Nat→U→Nat→Nat→U→Nat→Nat→Int→Int→V→Prop)(S:U)(b R:Nat)(c:U)(y d:Nat)(e:U)(b8 bX:Nat)(f g:Int)(h i:Int)(Z:V):Prop:=
 (∃ n,hF.t Y a n S b R c y d e b8 bX f g h i (((y:Nat):Int)) 0 Z)
def eC.g(Y:K)(a:U→Nat→Nat→U→Nat→Nat→U→Nat→Nat→Int→Int→V→Prop)(X:Fr)(Z:V):Prop:=aG (X 0) fun S b R=>aG (X 1) fun c y d=>aG (X 2) fun e b8 bX=>aV .i64 (X 6) fun f=>aV .u64 (X 7) fun h=>aV .i64 (X 13) fun i=>aV .i64 (X 14) fun j=>eC.t Y a S b R c y d e b8 bX f h i j Z
theorem eC.ok(Y:K)(a:U→Nat→Nat→U→Nat→Nat→U→Nat→Nat→Int→Int→V→Prop)(X:Fr)(Z:V)(g:eC.g Y a X Z):den prog E (aS r [W,x,x,W,W,x,x,W,W,x]) (aH.then (dD.g Y a) (aH.inBlock 1 (aH.then (cA.g Y a) (aH.then (e3.g a) (aH.inBlock 0 (aZ E [] Y)))))) X Z:=
 a8 g fun S b R c g=>a8 g fun d y e f g=>a8 g fun h b8 bX i g=>bM g fun j l g=>bM g fun m n g=>bM g fun t v g=>bM g fun D G g=>cT 1 (s:=(aS r [W,x,x,W,W,x,x,W,W,x,W])) (by kernel_rfl) (Bg.ok Y a) (bO [(0,.slice S b R),(1,.slice d y e),(2,.slice h b8 bX),(6,.int .i64 j),(7,.int .u64 m),(13,.int .i64 t),(14,.int .i64 D)] ⟨c,f,i,l,n,v,G,trivial⟩ (by kernel_rfl) g)
theorem Bh.ok(Y:K)(a:U→Nat→Nat→U→Nat→Nat→U→Nat→Nat→Int→Int→V→Prop)(X:Fr)(Z:V)(g:eC.g Y a X Z):den prog E (aS r [W,x,x,W,W,x,x,W,W]) (aH.inBlock 1 (aH.then (cA.g Y a) (aH.then (e3.g a) (aH.inBlock 0 (aZ E [] Y))))) X Z:=
 e5 (by kernel_rfl) (dD.ok Y a) (eC.ok Y a X Z g)
def b0.t(Y:K)(a:U→Nat→Nat→U→Nat→Nat→U→Nat→Nat→Int→Int→V→Prop)(S:U)(b R:Nat)(c:U)(y d:Nat)(e:U)(b8 bX:Nat)(f g:Int)(Z:V):Prop:=
 eC.t Y a S b R c y d e b8 bX g 0 f g Z
def b0.g(Y:K)(a:U→Nat→Nat→U→Nat→Nat→U→Nat→Nat→Int→Int→V→Prop)(X:Fr)(Z:V):Prop:=aG (X 0) fun S b R=>aG (X 1) fun c y d=>aG (X 2) fun e b8 bX=>aV .i64 (X 13) fun f=>aV .i64 (X 14) fun h=>b0.t Y a S b R c y d e b8 bX f h Z
theorem b0.ok(Y:K)(a:U→Nat→Nat→U→Nat→Nat→U→Nat→Nat→Int→Int→V→Prop)(X:Fr)(Z:V)(g:b0.g Y a X Z):den prog E (aS r [W,x,x,W,W,x,x]) (aH.inBlock 1 (aH.then (cA.g Y a) (aH.then (e3.g a) (aH.inBlock 0 (aZ E [] Y))))) X Z:=
 a8 g fun S b R c g=>a8 g fun d y e f g=>a8 g fun h b8 bX i g=>bM g fun j l g=>bM g fun m n g=>cT 2 (s:=(aS r [W,x,x,W,W,x,x,W,W])) (by kernel_rfl) (Bh.ok Y a) (bO [(0,.slice S b R),(1,.slice d y e),(2,.slice h b8 bX),(13,.int .i64 j),(14,.int .i64 m)] ⟨c,f,i,l,n,trivial⟩ (by kernel_rfl) g)
theorem pV.ok(Y:K)(a:U→Nat→Nat→U→Nat→Nat→U→Nat→Nat→Int→Int→V→Prop)(X:Fr)(Z:V)(g:b0.g Y a X Z):den prog E (aS r [W,x,x,W,W,x]) (aH.then (cA.g Y a) (aH.then (e3.g a) (aH.inBlock 0 (aZ E [] Y)))) X Z:=
 eR (by kernel_rfl) (b0.ok Y a X Z g)
theorem rQ.ok(Y:K)(a:U→Nat→Nat→U→Nat→Nat→U→Nat→Nat→Int→Int→V→Prop)(X:Fr)(Z:V)(g:b0.g Y a X Z):den prog E (aS r [W,x,x,W,W]) (aH.then (e3.g a) (aH.inBlock 0 (aZ E [] Y))) X Z:=
 e5 (by kernel_rfl) (cA.ok Y a) (pV.ok Y a X Z g)
def a7.t(Y:K)(a:U→Nat→Nat→U→Nat→Nat→U→Nat→Nat→Int→Int→V→Prop)(S:U)(b R:Nat)(c:U)(y d:Nat)(e:U)(b8 bX:Nat)(f g:Int)(Z:V):Prop:=
 cond (decide (g < f)) (b0.t Y a S b R c y d e b8 bX f g Z) (Y (.tuple #[]) Z)
def a7.g(Y:K)(a:U→Nat→Nat→U→Nat→Nat→U→Nat→Nat→Int→Int→V→Prop)(X:Fr)(Z:V):Prop:=aG (X 0) fun S b R=>aG (X 1) fun c y d=>aG (X 2) fun e b8 bX=>aV .i64 (X 13) fun f=>aV .i64 (X 14) fun h=>a7.t Y a S b R c y d e b8 bX f h Z
theorem a7.ok(Y:K)(a:U→Nat→Nat→U→Nat→Nat→U→Nat→Nat→Int→Int→V→Prop)(X:Fr)(Z:V)(g:a7.g Y a X Z):den prog E (aS r [W,x,x]) (aH.then (e3.g a) (aH.inBlock 0 (aZ E [] Y))) X Z:=
 a8 g fun S b R c g=>a8 g fun d y e f g=>a8 g fun h b8 bX i g=>bM g fun j l g=>bM g fun m n g=>cT 2 (s:=(aS r [W,x,x,W,W])) (by kernel_rfl) (rQ.ok Y a) (bO [(0,.slice S b R),(1,.slice d y e),(2,.slice h b8 bX),(13,.int .i64 j),(14,.int .i64 m)] ⟨c,f,i,l,n,trivial⟩ (by kernel_rfl) g)
def e3.t(Y:K):Nat→U→Nat→Nat→U→Nat→Nat→U→Nat→Nat→Int→Int→V→Prop
 | 0=>fun _ _ _ _ _ _ _ _ _ _ _ _=>False
 | n+1=>fun S a R b y c d b8 bX e f Z=>a7.t Y (e3.t Y n) S a R b y c d b8 bX e f Z
theorem e3.ok(Y:K)(X:Fr)(Z:V)(g:e3.g (fun S a R b y c d b8 bX e f Z=>∃ n,e3.t Y n S a R b y c d b8 bX e f Z) X Z):den prog E (aS r [W,x]) (aH.inBlock 0 (aZ E [] Y)) X Z:=by
 obtain⟨S,a,R,h,g⟩:=bQ g
 obtain⟨b,y,c,i,g⟩:=bQ g
 obtain⟨d,b8,bX,j,g⟩:=bQ g
 obtain⟨e,l,g⟩:=bS g
 obtain⟨f,m,g⟩:=bS g
 obtain⟨n,g⟩:=g
 refine e1 (fun n=>e3.g (e3.t Y n)) (N:=(aS r [W,x,x])) (by kernel_rfl) (fun X Z g=>?_) (fun n=>a7.ok Y (e3.t Y n)) n X Z (k h (k i (k j (bI l (bI m (g))))))
 obtain⟨S,a,R,h,g⟩:=bQ g
 obtain⟨b,y,c,i,g⟩:=bQ g
 obtain⟨d,b8,bX,j,g⟩:=bQ g
 obtain⟨e,l,g⟩:=bS g
 obtain⟨f,m,g⟩:=bS g
 exact g
theorem rR.ok(Y:K)(X:Fr)(Z:V)(g:e3.g (fun S a R b y c d b8 bX e f Z=>∃ n,e3.t Y n S a R b y c d b8 bX e f Z) X Z):den prog E (aS r [W]) (aZ E [] Y) X Z:=
 eR (by kernel_rfl) (e3.ok Y X Z g)
def F.t(Y:K)(S:U)(a R:Nat)(b:U)(y c:Nat)(d:U)(b8 bX:Nat)(Z:V):Prop:=
 (∃ n,e3.t Y n S a R b y c d b8 bX (((b8:Nat):Int)) 0 Z)
def F.g(Y:K)(X:Fr)(Z:V):Prop:=aG (X 0) fun S a R=>aG (X 1) fun b y c=>aG (X 2) fun d b8 bX=>F.t Y S a R b y c d b8 bX Z
theorem F.ok(Y:K)(X:Fr)(Z:V)(g:F.g Y X Z):den prog E r (aZ E [] Y) X Z:=
 a8 g fun S a R b g=>a8 g fun c y d e g=>a8 g fun f b8 bX h g=>cT 1 (s:=(aS r [W])) (by kernel_rfl) (rR.ok Y) (bO [(0,.slice S a R),(1,.slice c y d),(2,.slice f b8 bX)] ⟨b,e,h,trivial⟩ (by kernel_rfl) g)
def t(S:U)(a R:Nat)(b:U)(y c:Nat)(d:U)(b8 bX:Nat)(Z:V)(Y:K):Prop:=F.t Y S a R b y c d b8 bX Z
theorem ok{S:U}{a:Nat}{R:Nat}{b:U}{y:Nat}{c:Nat}{d:U}{b8:Nat}{bX:Nat}{Z:V}{Y:K}(g:t S a R b y c d b8 bX Z Y):aF id #[.slice S a R,.slice b y c,.slice d b8 bX] Z Y:=
 c7 c8 (L:=r) (cY:=[]) Tryz.func112 (by kernel_rfl) (by kernel_rfl) (by kernel_rfl) (args:=[.slice S a R,.slice b y c,.slice d b8 bX]) (by kernel_rfl) (F.ok Y _ Z (k rfl (k rfl (k rfl (g)))))
end j3
namespace oI
noncomputable def r:Code:=c6 Tryz.f113
def e3.g(bN:U→Nat→Nat→U→Nat→Nat→U→Nat→Nat→Int→V→Prop)(X:Fr)(Z:V):Prop:=aG (X 0) fun S a R=>aG (X 1) fun b y c=>aG (X 2) fun d b8 bX=>aV .i64 (X 6) fun e=>bN S a R b y c d b8 bX e Z
def a7.t(Y:K)(a:U→Nat→Nat→U→Nat→Nat→U→Nat→Nat→Int→V→Prop)(S:U)(b R:Nat)(c:U)(y d:Nat)(e:U)(b8 bX:Nat)(f:Int)(Z:V):Prop:=
 cond (decide (f < (((y:Nat):Int)))) (a2 (IntKind.i64.wrap (f+(((b8:Nat):Int)))) fun g=>
 h7 1 c y d (some (.int .i64 f)) (some (.int .i64 (if (((y:Nat):Int)) < g then(((y:Nat):Int)) else g))) (some (.int .i64 (if (((y:Nat):Int)) < g then(((y:Nat):Int)) else g))) fun g h i=>
 aF mK.id #[.slice g h i] Z fun g h=>
 aG g fun g i j=>
 aF oH.id #[.slice g i j,.slice e b8 bX] h fun g h=>
 aG g fun g i j=>
 aF jT.id #[.slice S b R,.slice g i j,.int .i64 f] h fun g h=>
 c0 g fun g=>
 bC g <| a2 (IntKind.i64.wrap (f+(((b8:Nat):Int)))) fun f=>
 a S b R c y d e b8 bX f h) (Y (.tuple #[]) Z)
def a7.g(Y:K)(a:U→Nat→Nat→U→Nat→Nat→U→Nat→Nat→Int→V→Prop)(X:Fr)(Z:V):Prop:=aG (X 0) fun S b R=>aG (X 1) fun c y d=>aG (X 2) fun e b8 bX=>aV .i64 (X 6) fun f=>a7.t Y a S b R c y d e b8 bX f Z
theorem a7.ok(Y:K)(a:U→Nat→Nat→U→Nat→Nat→U→Nat→Nat→Int→V→Prop)(X:Fr)(Z:V)(g:a7.g Y a X Z):den prog E (aS r [W,x,x]) (aH.then (e3.g a) (aH.inBlock 0 (aZ E [] Y))) X Z:=
 a8 g fun S a R b g=>a8 g fun c y d e g=>a8 g fun f b8 bX h g=>bM g fun i j g=>bO [(0,.slice S a R),(1,.slice c y d),(2,.slice f b8 bX),(6,.int .i64 i)] ⟨b,e,h,j,trivial⟩ (by kernel_rfl) g
def e3.t(Y:K):Nat→U→Nat→Nat→U→Nat→Nat→U→Nat→Nat→Int→V→Prop
 | 0=>fun _ _ _ _ _ _ _ _ _ _ _=>False
 | n+1=>fun S a R b y c d b8 bX e Z=>a7.t Y (e3.t Y n) S a R b y c d b8 bX e Z
theorem e3.ok(Y:K)(X:Fr)(Z:V)(g:e3.g (fun S a R b y c d b8 bX e Z=>∃ n,e3.t Y n S a R b y c d b8 bX e Z) X Z):den prog E (aS r [W,x]) (aH.inBlock 0 (aZ E [] Y)) X Z:=by
 obtain⟨S,a,R,f,g⟩:=bQ g
 obtain⟨b,y,c,h,g⟩:=bQ g
 obtain⟨d,b8,bX,i,g⟩:=bQ g
 obtain⟨e,j,g⟩:=bS g
 obtain⟨n,g⟩:=g
 refine e1 (fun n=>e3.g (e3.t Y n)) (N:=(aS r [W,x,x])) (by kernel_rfl) (fun X Z g=>?_) (fun n=>a7.ok Y (e3.t Y n)) n X Z (k f (k h (k i (bI j (g)))))
 obtain⟨S,a,R,f,g⟩:=bQ g
 obtain⟨b,y,c,h,g⟩:=bQ g
 obtain⟨d,b8,bX,i,g⟩:=bQ g
 obtain⟨e,j,g⟩:=bS g
 exact g
theorem dT.ok(Y:K)(X:Fr)(Z:V)(g:e3.g (fun S a R b y c d b8 bX e Z=>∃ n,e3.t Y n S a R b y c d b8 bX e Z) X Z):den prog E (aS r [W]) (aZ E [] Y) X Z:=
 eR (by kernel_rfl) (e3.ok Y X Z g)
def F.t(Y:K)(S:U)(a R:Nat)(b:U)(y c:Nat)(d:U)(b8 bX:Nat)(Z:V):Prop:=
 (∃ n,e3.t Y n S a R b y c d b8 bX 0 Z)
def F.g(Y:K)(X:Fr)(Z:V):Prop:=aG (X 0) fun S a R=>aG (X 1) fun b y c=>aG (X 2) fun d b8 bX=>F.t Y S a R b y c d b8 bX Z
theorem F.ok(Y:K)(X:Fr)(Z:V)(g:F.g Y X Z):den prog E r (aZ E [] Y) X Z:=
 a8 g fun S a R b g=>a8 g fun c y d e g=>a8 g fun f b8 bX h g=>cT 1 (s:=(aS r [W])) (by kernel_rfl) (dT.ok Y) (bO [(0,.slice S a R),(1,.slice c y d),(2,.slice f b8 bX)] ⟨b,e,h,trivial⟩ (by kernel_rfl) g)
def t(S:U)(a R:Nat)(b:U)(y c:Nat)(d:U)(b8 bX:Nat)(Z:V)(Y:K):Prop:=F.t Y S a R b y c d b8 bX Z
theorem ok{S:U}{a:Nat}{R:Nat}{b:U}{y:Nat}{c:Nat}{d:U}{b8:Nat}{bX:Nat}{Z:V}{Y:K}(g:t S a R b y c d b8 bX Z Y):aF id #[.slice S a R,.slice b y c,.slice d b8 bX] Z Y:=
 c7 c8 (L:=r) (cY:=[]) Tryz.func113 (by kernel_rfl) (by kernel_rfl) (by kernel_rfl) (args:=[.slice S a R,.slice b y c,.slice d b8 bX]) (by kernel_rfl) (F.ok Y _ Z (k rfl (k rfl (k rfl (g)))))
end oI
namespace tU
noncomputable def r:Code:=c6 Tryz.f114
def F.t(Y:K)(S:U)(a R:Nat)(b:U)(y c:Nat)(d:U)(b8 bX:Nat)(Z:V):Prop:=
 a2 (IntKind.i64.wrap ((((y:Nat):Int))+1)) fun e=>
 (2:Int) ≠ 0∧a2 (IntKind.i64.wrap (Int.tdiv e 2)) fun e=>
 aF sD.id #[.slice b y c,.int .i64 e] Z fun b c=>
 c0 b fun b=>
 b6 b fun b f g h=>
 b6 h fun h i j l=>
 bC l <| aF sD.id #[.slice d b8 bX,.int .i64 e] c fun c d=>
 c0 c fun c=>
 b6 c fun c l m n=>
 b6 n fun n v D E=>
 bC E <| aF oH.id #[.slice b f g,.slice c l m] d fun E d=>
 aG E fun E G H=>
 aF oH.id #[.slice h i j,.slice n v D] d fun d P=>
 aG d fun d K5 K6=>
 aF qJ.id #[.slice b f g,.slice h i j] P fun P b=>
 aG P fun P f g=>
 aF qJ.id #[.slice c l m,.slice n v D] b fun D b=>
 aG D fun D c h=>
 aF oH.id #[.slice P f g,.slice D c h] b fun D P=>
 aG D fun D b c=>
 aF kC.id #[.slice D b c,.slice E G H] P fun P f=>
 c0 P fun P=>
 bC P <| aF kC.id #[.slice D b c,.slice d K5 K6] f fun P f=>
 c0 P fun P=>
 bC P <| mW f 1 S a (.slice E G H) fun E E=>
 aF mK.id #[.slice D b c] E fun D E=>
 aG D fun D G H=>
 aF jT.id #[.slice S a R,.slice D G H,.int .i64 e] E fun D E=>
 c0 D fun D=>
 bC D <| a2 (IntKind.i64.wrap (2*e)) fun D=>
 aF jT.id #[.slice S a R,.slice d K5 K6,.int .i64 D] E fun D E=>
 c0 D fun D=>
 bC D <| Y (.tuple #[]) E
def F.g(Y:K)(X:Fr)(Z:V):Prop:=aG (X 0) fun S a R=>aG (X 1) fun b y c=>aG (X 2) fun d b8 bX=>F.t Y S a R b y c d b8 bX Z
theorem F.ok(Y:K)(X:Fr)(Z:V)(g:F.g Y X Z):den prog E r (aZ E [] Y) X Z:=
 a8 g fun S a R b g=>a8 g fun c y d e g=>a8 g fun f b8 bX h g=>bO [(0,.slice S a R),(1,.slice c y d),(2,.slice f b8 bX)] ⟨b,e,h,trivial⟩ (by kernel_rfl) g
def t(S:U)(a R:Nat)(b:U)(y c:Nat)(d:U)(b8 bX:Nat)(Z:V)(Y:K):Prop:=F.t Y S a R b y c d b8 bX Z
theorem ok{S:U}{a:Nat}{R:Nat}{b:U}{y:Nat}{c:Nat}{d:U}{b8:Nat}{bX:Nat}{Z:V}{Y:K}(g:t S a R b y c d b8 bX Z Y):aF id #[.slice S a R,.slice b y c,.slice d b8 bX] Z Y:=
 c7 c8 (L:=r) (cY:=[]) Tryz.func114 (by kernel_rfl) (by kernel_rfl) (by kernel_rfl) (args:=[.slice S a R,.slice b y c,.slice d b8 bX]) (by kernel_rfl) (F.ok Y _ Z (k rfl (k rfl (k rfl (g)))))
end tU
namespace iU
noncomputable def r:Code:=c6 Tryz.f115
def a7.t(Y:K)(a:Int)(b:U)(c d:Nat)(e:Int)(f:U)(g h:Nat)(Z:V):Prop:=
 aF g5.id #[.slice f g h] Z fun f g=>
 aG f fun f h i=>
 h7 1 b c d none (some (.int .i64 e)) none fun b c d=>
 aF g5.id #[.slice b c d] g fun b c=>
 aG b fun b d e=>
 aF nW.id #[.slice b d e,.int .i64 a] c fun a b=>
 aG a fun a c d=>
 Y (.tuple #[.slice f h i,.slice a c d]) b
def a7.g(Y:K)(X:Fr)(Z:V):Prop:=aV .i64 (X 8) fun a=>aG (X 10) fun b c d=>aV .i64 (X 11) fun e=>aG (X 12) fun f h i=>a7.t Y a b c d e f h i Z
theorem a7.ok(Y:K)(X:Fr)(Z:V)(g:a7.g Y X Z):den prog E (aS r [W,W,W,W,W,W,W,W,W,W,W]) (aZ E [.tmp 4,.tmp 5] Y) X Z:=
 bM g fun a b g=>a8 g fun c d e f g=>bM g fun h i g=>a8 g fun j l m n g=>bO [(8,.int .i64 a),(10,.slice c d e),(11,.int .i64 h),(12,.slice j l m)] ⟨b,f,i,n,trivial⟩ (by kernel_rfl) g
def dN.g(bN:Int→U→Nat→Nat→U→Nat→Nat→Int→U→Nat→Nat→Int→V→Prop)(X:Fr)(Z:V):Prop:=aV .i64 (X 8) fun a=>aG (X 9) fun b c d=>aG (X 10) fun e f h=>aV .i64 (X 11) fun i=>aG (X 12) fun j l m=>aV .i64 (X 13) fun n=>bN a b c d e f h i j l m n Z
def dD.t(Y:K)(a:Int→U→Nat→Nat→U→Nat→Nat→Int→U→Nat→Nat→Int→V→Prop)(b:Int)(c:U)(d e:Nat)(f:U)(g h:Nat)(i:Int)(j:U)(l m:Nat)(n:Int)(Z:V):Prop:=
 cond (decide (n≥0)) (a2 (IntKind.i64.wrap (n+i)) fun v=>
 a2 (IntKind.i64.wrap (v+1)) fun v=>
 h7 1 f g h (some (.int .i64 n)) (some (.int .i64 v)) none fun v D E=>
 aF hJ.id #[.slice v D E,.slice c d e] Z fun D E=>
 aV .u32 D fun D=>
 cL j l n 1 fun v=>
 aW E v (.int .u32 D) fun D=>
 a2 (IntKind.i64.wrap (n - 1)) fun E=>
 a b c d e f g h i j l m E D) (a7.t Y b f g h i j l m Z)
def dD.g(Y:K)(a:Int→U→Nat→Nat→U→Nat→Nat→Int→U→Nat→Nat→Int→V→Prop)(X:Fr)(Z:V):Prop:=aV .i64 (X 8) fun b=>aG (X 9) fun c d e=>aG (X 10) fun f h i=>aV .i64 (X 11) fun j=>aG (X 12) fun l m n=>aV .i64 (X 13) fun v=>dD.t Y a b c d e f h i j l m n v Z
theorem dD.ok(Y:K)(a:Int→U→Nat→Nat→U→Nat→Nat→Int→U→Nat→Nat→Int→V→Prop)(X:Fr)(Z:V)(g:dD.g Y a X Z):den prog E (aS r [W,W,W,W,W,W,W,W,W,W,x,W,x,x]) (aH.then (dN.g a) (aH.inBlock 2 (aH.then (a7.g Y) (aZ E [.tmp 4,.tmp 5] Y)))) X Z:=
 bM g fun a b g=>a8 g fun c d e f g=>a8 g fun h i j l g=>bM g fun m n g=>a8 g fun t v D G g=>bM g fun H P g=>bO [(8,.int .i64 a),(9,.slice c d e),(10,.slice h i j),(11,.int .i64 m),(12,.slice t v D),(13,.int .i64 H)] ⟨b,f,l,n,G,P,trivial⟩ (by kernel_rfl) g
def dN.t(Y:K):Nat→Int→U→Nat→Nat→U→Nat→Nat→Int→U→Nat→Nat→Int→V→Prop
 | 0=>fun _ _ _ _ _ _ _ _ _ _ _ _ _=>False
 | n+1=>fun a b c d e f g h i j l m Z=>dD.t Y (dN.t Y n) a b c d e f g h i j l m Z
theorem dN.ok(Y:K)(X:Fr)(Z:V)(g:dN.g (fun a b c d e f h i j l m v Z=>∃ n,dN.t Y n a b c d e f h i j l m v Z) X Z):den prog E (aS r [W,W,W,W,W,W,W,W,W,W,x,W,x]) (aH.inBlock 2 (aH.then (a7.g Y) (aZ E [.tmp 4,.tmp 5] Y))) X Z:=by
 obtain⟨a,D,g⟩:=bS g
 obtain⟨b,c,d,G,g⟩:=bQ g
 obtain⟨e,f,h,H,g⟩:=bQ g
 obtain⟨i,P,g⟩:=bS g
 obtain⟨j,l,m,K5,g⟩:=bQ g
 obtain⟨v,K6,g⟩:=bS g
 obtain⟨n,g⟩:=g
 refine e1 (fun n=>dN.g (dN.t Y n)) (N:=(aS r [W,W,W,W,W,W,W,W,W,W,x,W,x,x])) (by kernel_rfl) (fun X Z g=>?_) (fun n=>dD.ok Y (dN.t Y n)) n X Z (bI D (k G (k H (bI P (k K5 (bI K6 (g)))))))
 obtain⟨a,D,g⟩:=bS g
 obtain⟨b,c,d,G,g⟩:=bQ g
 obtain⟨e,f,h,H,g⟩:=bQ g
 obtain⟨i,P,g⟩:=bS g
 obtain⟨j,l,m,K5,g⟩:=bQ g
 obtain⟨v,K6,g⟩:=bS g
 exact g
theorem uF.ok(Y:K)(X:Fr)(Z:V)(g:dN.g (fun a b c d e f h i j l m v Z=>∃ n,dN.t Y n a b c d e f h i j l m v Z) X Z):den prog E (aS r [W,W,W,W,W,W,W,W,W,W,x,W]) (aH.then (a7.g Y) (aZ E [.tmp 4,.tmp 5] Y)) X Z:=
 eR (by kernel_rfl) (dN.ok Y X Z g)
def cA.t(Y:K)(a:Int)(b:U)(c d:Nat)(e:U)(f g:Nat)(h:Int)(i:U)(j l:Nat)(Z:V):Prop:=
 a2 (IntKind.i64.wrap ((((f:Nat):Int)) - h)) fun m=>
 a2 (IntKind.i64.wrap (m - 1)) fun m=>
 (∃ n,dN.t Y n a b c d e f g h i j l m Z)
def cA.g(Y:K)(X:Fr)(Z:V):Prop:=aV .i64 (X 8) fun a=>aG (X 9) fun b c d=>aG (X 10) fun e f h=>aV .i64 (X 11) fun i=>aG (X 12) fun j l m=>cA.t Y a b c d e f h i j l m Z
theorem cA.ok(Y:K)(X:Fr)(Z:V)(g:cA.g Y X Z):den prog E (aS r [W,W,W,W,W,W,W,W,W,W,x]) (aH.then (a7.g Y) (aZ E [.tmp 4,.tmp 5] Y)) X Z:=
 bM g fun a b g=>a8 g fun c d e f g=>a8 g fun h i j l g=>bM g fun m n g=>a8 g fun t v D G g=>cT 1 (s:=(aS r [W,W,W,W,W,W,W,W,W,W,x,W])) (by kernel_rfl) (uF.ok Y) (bO [(8,.int .i64 a),(9,.slice c d e),(10,.slice h i j),(11,.int .i64 m),(12,.slice t v D)] ⟨b,f,l,n,G,trivial⟩ (by kernel_rfl) g)
theorem uG.ok(Y:K)(X:Fr)(Z:V)(g:cA.g Y X Z):den prog E (aS r [W,W,W,W,W,W,W,W,W,W]) (aZ E [.tmp 4,.tmp 5] Y) X Z:=
 e5 (by kernel_rfl) (a7.ok Y) (cA.ok Y X Z g)
def aC.t(Y:K)(a:Int)(b:U)(c d:Nat)(e:U)(f g:Nat)(Z:V):Prop:=
 a2 (IntKind.i64.wrap ((((f:Nat):Int)) - (((c:Nat):Int)))) fun h=>
 h8 Z 82 hW h h fun i j=>
 cA.t Y a b c d e f g (((c:Nat):Int)) (some i) h.toNat h.toNat j
def aC.g(Y:K)(X:Fr)(Z:V):Prop:=aV .i64 (X 8) fun a=>aG (X 9) fun b c d=>aG (X 10) fun e f h=>aC.t Y a b c d e f h Z
theorem aC.ok(Y:K)(X:Fr)(Z:V)(g:aC.g Y X Z):den prog E (aS r [W,W,W,W,W,W,W,W]) (aZ E [.tmp 4,.tmp 5] Y) X Z:=
 bM g fun a b g=>a8 g fun c d e f g=>a8 g fun h i j l g=>cT 2 (s:=(aS r [W,W,W,W,W,W,W,W,W,W])) (by kernel_rfl) (uG.ok Y) (bO [(8,.int .i64 a),(9,.slice c d e),(10,.slice h i j)] ⟨b,f,l,trivial⟩ (by kernel_rfl) g)
def eT.g(bN:U→Nat→Nat→Int→U→Nat→Nat→U→Nat→Nat→V→Prop)(X:Fr)(Z:V):Prop:=aG (X 0) fun S a R=>aV .i64 (X 8) fun b=>aG (X 9) fun c d e=>aG (X 10) fun f h i=>bN S a R b c d e f h i Z
def g7.t(Y:K)(a:U→Nat→Nat→Int→U→Nat→Nat→U→Nat→Nat→V→Prop)(S:U)(b R:Nat)(c:Int)(d:U)(e f:Nat)(g:U)(h i:Nat)(Z:V):Prop:=
 cond (decide ((((h:Nat):Int))≤(((b:Nat):Int)))) (b4 Z 82 [.int .u32 0] fun j l=>
 gW l 82 hW g h i (.slice (some j) 1 1) fun j l m n=>
 a S b R c d e f j l m n) (aC.t Y c d e f g h i Z)
def g7.g(Y:K)(a:U→Nat→Nat→Int→U→Nat→Nat→U→Nat→Nat→V→Prop)(X:Fr)(Z:V):Prop:=aG (X 0) fun S b R=>aV .i64 (X 8) fun c=>aG (X 9) fun d e f=>aG (X 10) fun h i j=>g7.t Y a S b R c d e f h i j Z
theorem g7.ok(Y:K)(a:U→Nat→Nat→Int→U→Nat→Nat→U→Nat→Nat→V→Prop)(X:Fr)(Z:V)(g:g7.g Y a X Z):den prog E (aS r [W,W,W,W,W,W,W,x,x,x]) (aH.then (eT.g a) (aH.inBlock 0 (aH.then (aC.g Y) (aZ E [.tmp 4,.tmp 5] Y)))) X Z:=
 a8 g fun S a R b g=>bM g fun c d g=>a8 g fun e f h i g=>a8 g fun j l m n g=>bO [(0,.slice S a R),(8,.int .i64 c),(9,.slice e f h),(10,.slice j l m)] ⟨b,d,i,n,trivial⟩ (by kernel_rfl) g
def eT.t(Y:K):Nat→U→Nat→Nat→Int→U→Nat→Nat→U→Nat→Nat→V→Prop
 | 0=>fun _ _ _ _ _ _ _ _ _ _ _=>False
 | n+1=>fun S a R b c d e f g h Z=>g7.t Y (eT.t Y n) S a R b c d e f g h Z
theorem eT.ok(Y:K)(X:Fr)(Z:V)(g:eT.g (fun S a R b c d e f h i Z=>∃ n,eT.t Y n S a R b c d e f h i Z) X Z):den prog E (aS r [W,W,W,W,W,W,W,x,x]) (aH.inBlock 0 (aH.then (aC.g Y) (aZ E [.tmp 4,.tmp 5] Y))) X Z:=by
 obtain⟨S,a,R,j,g⟩:=bQ g
 obtain⟨b,l,g⟩:=bS g
 obtain⟨c,d,e,m,g⟩:=bQ g
 obtain⟨f,h,i,v,g⟩:=bQ g
 obtain⟨n,g⟩:=g
 refine e1 (fun n=>eT.g (eT.t Y n)) (N:=(aS r [W,W,W,W,W,W,W,x,x,x])) (by kernel_rfl) (fun X Z g=>?_) (fun n=>g7.ok Y (eT.t Y n)) n X Z (k j (bI l (k m (k v (g)))))
 obtain⟨S,a,R,j,g⟩:=bQ g
 obtain⟨b,l,g⟩:=bS g
 obtain⟨c,d,e,m,g⟩:=bQ g
 obtain⟨f,h,i,v,g⟩:=bQ g
 exact g
theorem uE.ok(Y:K)(X:Fr)(Z:V)(g:eT.g (fun S a R b c d e f h i Z=>∃ n,eT.t Y n S a R b c d e f h i Z) X Z):den prog E (aS r [W,W,W,W,W,W,W,x]) (aH.then (aC.g Y) (aZ E [.tmp 4,.tmp 5] Y)) X Z:=
 eR (by kernel_rfl) (eT.ok Y X Z g)
theorem Be.ok(Y:K)(X:Fr)(Z:V)(g:eT.g (fun S a R b c d e f h i Z=>∃ n,eT.t Y n S a R b c d e f h i Z) X Z):den prog E (aS r [W,W,W,W,W,W,W]) (aZ E [.tmp 4,.tmp 5] Y) X Z:=
 e5 (by kernel_rfl) (aC.ok Y) (uE.ok Y X Z g)
def F.t(Y:K)(S:U)(a R:Nat)(b:U)(y c:Nat)(Z:V):Prop:=
 cond ((((y:Nat):Int)) == 0) (aF jP.id #[.int .u64 0] Z fun d e=>
 aG d fun d f g=>
 aF jP.id #[.int .u64 0] e fun e h=>
 aG e fun e i j=>
 Y (.tuple #[.slice d f g,.slice e i j]) h) (aF kL.id #[.slice S a R,.slice b y c] Z fun d e=>
 aV .i64 d fun d=>
 cond (decide (d < 0)) (aF jP.id #[.int .u64 0] e fun d f=>
 aG d fun d g h=>
 aF g5.id #[.slice S a R] f fun f i=>
 aG f fun f j l=>
 Y (.tuple #[.slice d g h,.slice f j l]) i) (cond ((((y:Nat):Int)) == 1) (cL b y 0 1 fun d=>
 cI e .u32 d fun d=>
 aF mH.id #[.slice S a R,.int .u32 d] e fun d f=>
 c0 d fun d=>
 b6 d fun d g h i=>
 dG i .u32 fun i j=>
 bC j <| a2 (IntKind.u64.wrap i) fun i=>
 aF jP.id #[.int .u64 i] f fun f i=>
 aG f fun f j l=>
 Y (.tuple #[.slice d g h,.slice f j l]) i) (a2 (IntKind.i64.wrap ((((y:Nat):Int)) - 1)) fun d=>
 h7 1 b y c (some (.int .i64 d)) none none fun d f g=>
 aF kA.id #[.slice d f g] e fun d e=>
 aV .i64 d fun d=>
 a2 (IntKind.i64.wrap (32 - d)) fun d=>
 aF lF.id #[.slice b y c,.int .i64 d] e fun b c=>
 aG b fun b e f=>
 aF lF.id #[.slice S a R,.int .i64 d] c fun c g=>
 aG c fun c h i=>
 (∃ n,eT.t Y n S a R d b e f c h i g))))
def F.g(Y:K)(X:Fr)(Z:V):Prop:=aG (X 0) fun S a R=>aG (X 1) fun b y c=>F.t Y S a R b y c Z
theorem F.ok(Y:K)(X:Fr)(Z:V)(g:F.g Y X Z):den prog E r (aZ E [.tmp 4,.tmp 5] Y) X Z:=
 a8 g fun S a R b g=>a8 g fun c y d e g=>cT 7 (s:=(aS r [W,W,W,W,W,W,W])) (by kernel_rfl) (Be.ok Y) (bO [(0,.slice S a R),(1,.slice c y d)] ⟨b,e,trivial⟩ (by kernel_rfl) g)
def t(S:U)(a R:Nat)(b:U)(y c:Nat)(Z:V)(Y:K):Prop:=F.t Y S a R b y c Z
theorem ok{S:U}{a:Nat}{R:Nat}{b:U}{y:Nat}{c:Nat}{Z:V}{Y:K}(g:t S a R b y c Z Y):aF id #[.slice S a R,.slice b y c] Z Y:=
 c7 c8 (L:=r) (cY:=[.tmp 4,.tmp 5]) Tryz.func115 (by kernel_rfl) (by kernel_rfl) (by kernel_rfl) (args:=[.slice S a R,.slice b y c]) (by kernel_rfl) (F.ok Y _ Z (k rfl (k rfl (g))))
end iU
namespace oO
noncomputable def r:Code:=c6 Tryz.f116
def F.t(Y:K)(a:Bool)(b:U)(c d:Nat)(Z:V):Prop:=
 b4 Z 37 [.bool a,.slice b c d] fun a b=>
 a6 b (a.add 1) fun a c d=>
 aF pG.id #[.slice a c d,.int .i64 0] b fun a b=>
 aV .i64 a fun a=>
 Y (.bool (a == 0)) b
def F.g(Y:K)(X:Fr)(Z:V):Prop:=bU (X 0) fun a=>bR a fun a b=>b9 a fun a=>bR b fun b c=>aG b fun b d e=>bC c <| F.t Y a b d e Z
theorem F.ok(Y:K)(X:Fr)(Z:V)(g:F.g Y X Z):den prog E r (aZ E [.tmp 2] Y) X Z:=by
 obtain⟨m,a,b⟩:=eH g
 obtain⟨n,t,rfl,c⟩:=cH b
 obtain⟨d,rfl,e⟩:=dY c
 obtain⟨v,D,rfl,f⟩:=cH e
 obtain⟨h,i,j,rfl,l⟩:=bQ f
 obtain⟨rfl,g⟩:=eD l
 exact bO [(0,.agg #[.bool d,.slice h i j])] ⟨a,trivial⟩ (by kernel_rfl) g
def t(a:Bool)(b:U)(c d:Nat)(Z:V)(Y:K):Prop:=F.t Y a b c d Z
theorem ok{a:Bool}{b:U}{c:Nat}{d:Nat}{Z:V}{Y:K}(g:t a b c d Z Y):aF id #[.agg #[.bool a,.slice b c d]] Z Y:=
 c7 c8 (L:=r) (cY:=[.tmp 2]) Tryz.func116 (by kernel_rfl) (by kernel_rfl) (by kernel_rfl) (args:=[.agg #[.bool a,.slice b c d]]) (by kernel_rfl) (F.ok Y _ Z (bZ rfl (aM (aO rfl (aM (k rfl (bP (g))))))))
end oO
namespace m4
noncomputable def r:Code:=c6 Tryz.f117
def aC.t(Y:K)(a:U)(b c:Nat)(d:Int)(Z:V):Prop:=
 a2 (IntKind.u32.wrap d) fun d=>
 b4 Z 82 [.int .u32 d] fun d e=>
 gW e 82 hW a b c (.slice (some d) 1 1) fun a b c d=>
 aF g5.id #[.slice a b c] d fun a b=>
 aG a fun a c d=>
 Y (.slice a c d) b
def aC.g(Y:K)(X:Fr)(Z:V):Prop:=aG (X 7) fun a b c=>aV .u64 (X 8) fun d=>aC.t Y a b c d Z
theorem aC.ok(Y:K)(X:Fr)(Z:V)(g:aC.g Y X Z):den prog E (aS r [W,W,W,W]) (aZ E [.tmp 6] Y) X Z:=
 a8 g fun a b c d g=>bM g fun e f g=>bO [(7,.slice a b c),(8,.int .u64 e)] ⟨d,f,trivial⟩ (by kernel_rfl) g
def bG.g(bN:U→Nat→Nat→Int→U→Nat→Nat→Int→Int→V→Prop)(X:Fr)(Z:V):Prop:=aG (X 0) fun S a R=>aV .u32 (X 1) fun aQ=>aG (X 7) fun b c d=>aV .u64 (X 8) fun e=>aV .i64 (X 9) fun f=>bN S a R aQ b c d e f Z
def b0.t(Y:K)(a:U→Nat→Nat→Int→U→Nat→Nat→Int→Int→V→Prop)(S:U)(b R:Nat)(aQ:Int)(c:U)(d e:Nat)(f g:Int)(Z:V):Prop:=
 cond (decide (g < (((b:Nat):Int)))) (cL S b g 1 fun h=>
 cI Z .u32 h fun h=>
 a2 (IntKind.u64.wrap h) fun h=>
 a2 (IntKind.u64.wrap aQ) fun i=>
 a2 (IntKind.u64.wrap (h*i)) fun h=>
 a2 (IntKind.u64.wrap (f+h)) fun h=>
 a2 (iG .u64 h 4294967295) fun i=>
 a2 (IntKind.u32.wrap i) fun i=>
 b4 Z 82 [.int .u32 i] fun i j=>
 gW j 82 hW c d e (.slice (some i) 1 1) fun i j l m=>
 0≤(32:Int)∧a2 (gL .u64 h 32) fun h=>
 a2 (IntKind.i64.wrap (g+1)) fun g=>
 a S b R aQ i j l h g m) (aC.t Y c d e f Z)
def b0.g(Y:K)(a:U→Nat→Nat→Int→U→Nat→Nat→Int→Int→V→Prop)(X:Fr)(Z:V):Prop:=aG (X 0) fun S b R=>aV .u32 (X 1) fun aQ=>aG (X 7) fun c d e=>aV .u64 (X 8) fun f=>aV .i64 (X 9) fun h=>b0.t Y a S b R aQ c d e f h Z
theorem b0.ok(Y:K)(a:U→Nat→Nat→Int→U→Nat→Nat→Int→Int→V→Prop)(X:Fr)(Z:V)(g:b0.g Y a X Z):den prog E (aS r [W,W,W,x,W,x,x]) (aH.then (bG.g a) (aH.inBlock 0 (aH.then (aC.g Y) (aZ E [.tmp 6] Y)))) X Z:=
 a8 g fun S a R b g=>bM g fun aQ c g=>a8 g fun d e f h g=>bM g fun i j g=>bM g fun l m g=>bO [(0,.slice S a R),(1,.int .u32 aQ),(7,.slice d e f),(8,.int .u64 i),(9,.int .i64 l)] ⟨b,c,h,j,m,trivial⟩ (by kernel_rfl) g
def bG.t(Y:K):Nat→U→Nat→Nat→Int→U→Nat→Nat→Int→Int→V→Prop
 | 0=>fun _ _ _ _ _ _ _ _ _ _=>False
 | n+1=>fun S a R aQ b c d e f Z=>b0.t Y (bG.t Y n) S a R aQ b c d e f Z
theorem bG.ok(Y:K)(X:Fr)(Z:V)(g:bG.g (fun S a R aQ b c d e f Z=>∃ n,bG.t Y n S a R aQ b c d e f Z) X Z):den prog E (aS r [W,W,W,x,W,x]) (aH.inBlock 0 (aH.then (aC.g Y) (aZ E [.tmp 6] Y))) X Z:=by
 obtain⟨S,a,R,h,g⟩:=bQ g
 obtain⟨aQ,i,g⟩:=bS g
 obtain⟨b,c,d,j,g⟩:=bQ g
 obtain⟨e,l,g⟩:=bS g
 obtain⟨f,m,g⟩:=bS g
 obtain⟨n,g⟩:=g
 refine e1 (fun n=>bG.g (bG.t Y n)) (N:=(aS r [W,W,W,x,W,x,x])) (by kernel_rfl) (fun X Z g=>?_) (fun n=>b0.ok Y (bG.t Y n)) n X Z (k h (bI i (k j (bI l (bI m (g))))))
 obtain⟨S,a,R,h,g⟩:=bQ g
 obtain⟨aQ,i,g⟩:=bS g
 obtain⟨b,c,d,j,g⟩:=bQ g
 obtain⟨e,l,g⟩:=bS g
 obtain⟨f,m,g⟩:=bS g
 exact g
theorem eP.ok(Y:K)(X:Fr)(Z:V)(g:bG.g (fun S a R aQ b c d e f Z=>∃ n,bG.t Y n S a R aQ b c d e f Z) X Z):den prog E (aS r [W,W,W,x,W]) (aH.then (aC.g Y) (aZ E [.tmp 6] Y)) X Z:=
 eR (by kernel_rfl) (bG.ok Y X Z g)
def a7.t(Y:K)(S:U)(a R:Nat)(aQ:Int)(b:U)(c d:Nat)(e:Int)(Z:V):Prop:=
 (∃ n,bG.t Y n S a R aQ b c d e 0 Z)
def a7.g(Y:K)(X:Fr)(Z:V):Prop:=aG (X 0) fun S a R=>aV .u32 (X 1) fun aQ=>aG (X 7) fun b c d=>aV .u64 (X 8) fun e=>a7.t Y S a R aQ b c d e Z
theorem a7.ok(Y:K)(X:Fr)(Z:V)(g:a7.g Y X Z):den prog E (aS r [W,W,W,x]) (aH.then (aC.g Y) (aZ E [.tmp 6] Y)) X Z:=
 a8 g fun S a R b g=>bM g fun aQ c g=>a8 g fun d e f h g=>bM g fun i j g=>cT 1 (s:=(aS r [W,W,W,x,W])) (by kernel_rfl) (eP.ok Y) (bO [(0,.slice S a R),(1,.int .u32 aQ),(7,.slice d e f),(8,.int .u64 i)] ⟨b,c,h,j,trivial⟩ (by kernel_rfl) g)
theorem gV.ok(Y:K)(X:Fr)(Z:V)(g:a7.g Y X Z):den prog E (aS r [W,W,W]) (aZ E [.tmp 6] Y) X Z:=
 e5 (by kernel_rfl) (aC.ok Y) (a7.ok Y X Z g)
def F.t(Y:K)(S:U)(a R:Nat)(aQ b:Int)(Z:V):Prop:=
 a2 (IntKind.i64.wrap ((((a:Nat):Int))+1)) fun c=>
 h8 Z 82 hW 0 c fun d e=>
 a2 (IntKind.u64.wrap b) fun b=>
 a7.t Y S a R aQ (some d) ((0:Int).toNat) c.toNat b e
def F.g(Y:K)(X:Fr)(Z:V):Prop:=aG (X 0) fun S a R=>aV .u32 (X 1) fun aQ=>aV .u32 (X 2) fun b=>F.t Y S a R aQ b Z
theorem F.ok(Y:K)(X:Fr)(Z:V)(g:F.g Y X Z):den prog E r (aZ E [.tmp 6] Y) X Z:=
 a8 g fun S a R b g=>bM g fun aQ c g=>bM g fun d e g=>cT 3 (s:=(aS r [W,W,W])) (by kernel_rfl) (gV.ok Y) (bO [(0,.slice S a R),(1,.int .u32 aQ),(2,.int .u32 d)] ⟨b,c,e,trivial⟩ (by kernel_rfl) g)
def t(S:U)(a R:Nat)(aQ b:Int)(Z:V)(Y:K):Prop:=F.t Y S a R aQ b Z
theorem ok{S:U}{a:Nat}{R:Nat}{aQ:Int}{b:Int}{Z:V}{Y:K}(g:t S a R aQ b Z Y):aF id #[.slice S a R,.int .u32 aQ,.int .u32 b] Z Y:=
 c7 c8 (L:=r) (cY:=[.tmp 6]) Tryz.func117 (by kernel_rfl) (by kernel_rfl) (by kernel_rfl) (args:=[.slice S a R,.int .u32 aQ,.int .u32 b]) (by kernel_rfl) (F.ok Y _ Z (k rfl (bI rfl (bI rfl (g)))))
end m4
namespace mH
noncomputable def r:Code:=c6 Tryz.f118
def aC.t(Y:K)(a:U)(b c:Nat)(d:Int)(Z:V):Prop:=
 aF g5.id #[.slice a b c] Z fun a b=>
 aG a fun a c e=>
 a2 (IntKind.u32.wrap d) fun d=>
 Y (.tuple #[.slice a c e,.int .u32 d]) b
def aC.g(Y:K)(X:Fr)(Z:V):Prop:=aG (X 6) fun a b c=>aV .u64 (X 7) fun d=>aC.t Y a b c d Z
theorem aC.ok(Y:K)(X:Fr)(Z:V)(g:aC.g Y X Z):den prog E (aS r [W,W,W,W,W]) (aZ E [.tmp 4,.tmp 5] Y) X Z:=
 a8 g fun a b c d g=>bM g fun e f g=>bO [(6,.slice a b c),(7,.int .u64 e)] ⟨d,f,trivial⟩ (by kernel_rfl) g
def bG.g(bN:U→Nat→Nat→Int→U→Nat→Nat→Int→Int→V→Prop)(X:Fr)(Z:V):Prop:=aG (X 0) fun S a R=>aV .u32 (X 1) fun aQ=>aG (X 6) fun b c d=>aV .u64 (X 7) fun e=>aV .i64 (X 8) fun f=>bN S a R aQ b c d e f Z
def b0.t(Y:K)(a:U→Nat→Nat→Int→U→Nat→Nat→Int→Int→V→Prop)(S:U)(b R:Nat)(aQ:Int)(c:U)(d e:Nat)(f g:Int)(Z:V):Prop:=
 cond (decide (g≥0)) (0≤(32:Int)∧a2 (jM .u64 f 32) fun h=>
 cL S b g 1 fun i=>
 cI Z .u32 i fun i=>
 a2 (IntKind.u64.wrap i) fun i=>
 a2 (IntKind.u64.wrap (h+i)) fun h=>
 a2 (IntKind.u64.wrap aQ) fun i=>
 i ≠ 0∧a2 (IntKind.u64.wrap (Int.tdiv h i)) fun i=>
 a2 (IntKind.u32.wrap i) fun i=>
 cL c d g 1 fun j=>
 aW Z j (.int .u32 i) fun i=>
 a2 (IntKind.u64.wrap aQ) fun j=>
 j ≠ 0∧a2 (Int.tmod h j) fun h=>
 a2 (IntKind.i64.wrap (g - 1)) fun g=>
 a S b R aQ c d e h g i) (aC.t Y c d e f Z)
def b0.g(Y:K)(a:U→Nat→Nat→Int→U→Nat→Nat→Int→Int→V→Prop)(X:Fr)(Z:V):Prop:=aG (X 0) fun S b R=>aV .u32 (X 1) fun aQ=>aG (X 6) fun c d e=>aV .u64 (X 7) fun f=>aV .i64 (X 8) fun h=>b0.t Y a S b R aQ c d e f h Z
theorem b0.ok(Y:K)(a:U→Nat→Nat→Int→U→Nat→Nat→Int→Int→V→Prop)(X:Fr)(Z:V)(g:b0.g Y a X Z):den prog E (aS r [W,W,W,W,x,W,x,x]) (aH.then (bG.g a) (aH.inBlock 0 (aH.then (aC.g Y) (aZ E [.tmp 4,.tmp 5] Y)))) X Z:=
 a8 g fun S a R b g=>bM g fun aQ c g=>a8 g fun d e f h g=>bM g fun i j g=>bM g fun l m g=>bO [(0,.slice S a R),(1,.int .u32 aQ),(6,.slice d e f),(7,.int .u64 i),(8,.int .i64 l)] ⟨b,c,h,j,m,trivial⟩ (by kernel_rfl) g
def bG.t(Y:K):Nat→U→Nat→Nat→Int→U→Nat→Nat→Int→Int→V→Prop
 | 0=>fun _ _ _ _ _ _ _ _ _ _=>False
 | n+1=>fun S a R aQ b c d e f Z=>b0.t Y (bG.t Y n) S a R aQ b c d e f Z
theorem bG.ok(Y:K)(X:Fr)(Z:V)(g:bG.g (fun S a R aQ b c d e f Z=>∃ n,bG.t Y n S a R aQ b c d e f Z) X Z):den prog E (aS r [W,W,W,W,x,W,x]) (aH.inBlock 0 (aH.then (aC.g Y) (aZ E [.tmp 4,.tmp 5] Y))) X Z:=by
 obtain⟨S,a,R,h,g⟩:=bQ g
 obtain⟨aQ,i,g⟩:=bS g
 obtain⟨b,c,d,j,g⟩:=bQ g
 obtain⟨e,l,g⟩:=bS g
 obtain⟨f,m,g⟩:=bS g
 obtain⟨n,g⟩:=g
 refine e1 (fun n=>bG.g (bG.t Y n)) (N:=(aS r [W,W,W,W,x,W,x,x])) (by kernel_rfl) (fun X Z g=>?_) (fun n=>b0.ok Y (bG.t Y n)) n X Z (k h (bI i (k j (bI l (bI m (g))))))
 obtain⟨S,a,R,h,g⟩:=bQ g
 obtain⟨aQ,i,g⟩:=bS g
 obtain⟨b,c,d,j,g⟩:=bQ g
 obtain⟨e,l,g⟩:=bS g
 obtain⟨f,m,g⟩:=bS g
 exact g
theorem eP.ok(Y:K)(X:Fr)(Z:V)(g:bG.g (fun S a R aQ b c d e f Z=>∃ n,bG.t Y n S a R aQ b c d e f Z) X Z):den prog E (aS r [W,W,W,W,x,W]) (aH.then (aC.g Y) (aZ E [.tmp 4,.tmp 5] Y)) X Z:=
 eR (by kernel_rfl) (bG.ok Y X Z g)
def a7.t(Y:K)(S:U)(a R:Nat)(aQ:Int)(b:U)(c d:Nat)(e:Int)(Z:V):Prop:=
 a2 (IntKind.i64.wrap ((((a:Nat):Int)) - 1)) fun f=>(∃ n,bG.t Y n S a R aQ b c d e f Z)
def a7.g(Y:K)(X:Fr)(Z:V):Prop:=aG (X 0) fun S a R=>aV .u32 (X 1) fun aQ=>aG (X 6) fun b c d=>aV .u64 (X 7) fun e=>a7.t Y S a R aQ b c d e Z
theorem a7.ok(Y:K)(X:Fr)(Z:V)(g:a7.g Y X Z):den prog E (aS r [W,W,W,W,x]) (aH.then (aC.g Y) (aZ E [.tmp 4,.tmp 5] Y)) X Z:=
 a8 g fun S a R b g=>bM g fun aQ c g=>a8 g fun d e f h g=>bM g fun i j g=>cT 1 (s:=(aS r [W,W,W,W,x,W])) (by kernel_rfl) (eP.ok Y) (bO [(0,.slice S a R),(1,.int .u32 aQ),(6,.slice d e f),(7,.int .u64 i)] ⟨b,c,h,j,trivial⟩ (by kernel_rfl) g)
theorem gV.ok(Y:K)(X:Fr)(Z:V)(g:a7.g Y X Z):den prog E (aS r [W,W,W,W]) (aZ E [.tmp 4,.tmp 5] Y) X Z:=
 e5 (by kernel_rfl) (aC.ok Y) (a7.ok Y X Z g)
def F.t(Y:K)(S:U)(a R:Nat)(aQ:Int)(Z:V):Prop:=
 cond (aQ == 0) (aF jP.id #[.int .u64 0] Z fun b c=>
 aG b fun b d e=>
 Y (.tuple #[.slice b d e,.int .u32 0]) c) (h8 Z 82 hW (((a:Nat):Int)) (((a:Nat):Int)) fun b c=>
 a7.t Y S a R aQ (some b) ((((a:Nat):Int)).toNat) ((((a:Nat):Int)).toNat) 0 c)
def F.g(Y:K)(X:Fr)(Z:V):Prop:=aG (X 0) fun S a R=>aV .u32 (X 1) fun aQ=>F.t Y S a R aQ Z
theorem F.ok(Y:K)(X:Fr)(Z:V)(g:F.g Y X Z):den prog E r (aZ E [.tmp 4,.tmp 5] Y) X Z:=
 a8 g fun S a R b g=>bM g fun aQ c g=>cT 4 (s:=(aS r [W,W,W,W])) (by kernel_rfl) (gV.ok Y) (bO [(0,.slice S a R),(1,.int .u32 aQ)] ⟨b,c,trivial⟩ (by kernel_rfl) g)
def t(S:U)(a R:Nat)(aQ:Int)(Z:V)(Y:K):Prop:=F.t Y S a R aQ Z
theorem ok{S:U}{a:Nat}{R:Nat}{aQ:Int}{Z:V}{Y:K}(g:t S a R aQ Z Y):aF id #[.slice S a R,.int .u32 aQ] Z Y:=
 c7 c8 (L:=r) (cY:=[.tmp 4,.tmp 5]) Tryz.func118 (by kernel_rfl) (by kernel_rfl) (by kernel_rfl) (args:=[.slice S a R,.int .u32 aQ]) (by kernel_rfl) (F.ok Y _ Z (k rfl (bI rfl (g))))
end mH
namespace sA
noncomputable def r:Code:=c6 Tryz.f119
def aC.t(Y:K)(a3:Int)(Z:V):Prop:=
 a2 (IntKind.u64.wrap (0 - a3)) fun a=>
 a2 (iG .u64 a3 a) fun a=>
 a2 (IntKind.u64.wrap (a*285870213051353865)) fun a=>
 0≤(58:Int)∧a2 (gL .u64 a 58) fun a=>
 cL (some ⟨0,0,none⟩) 64 a 1 fun a=>
 cI Z .u8 a fun a=>
 a2 (IntKind.i64.wrap a) fun a=>
 Y (.int .i64 a) Z
def aC.g(Y:K)(X:Fr)(Z:V):Prop:=aV .u64 (X 0) fun a3=>aC.t Y a3 Z
theorem aC.ok(Y:K)(X:Fr)(Z:V)(g:aC.g Y X Z):den prog E (aS r [W,W]) (aZ E [.tmp 2] Y) X Z:=
 bM g fun a3 a g=>bO [(0,.int .u64 a3)] ⟨a,trivial⟩ (by kernel_rfl) g
def F.t(Y:K)(a3:Int)(Z:V):Prop:=
 cond (a3 == 0) (Y (.int .i64 64) Z) (aC.t Y a3 Z)
def F.g(Y:K)(X:Fr)(Z:V):Prop:=aV .u64 (X 0) fun a3=>F.t Y a3 Z
theorem F.ok(Y:K)(X:Fr)(Z:V)(g:F.g Y X Z):den prog E r (aZ E [.tmp 2] Y) X Z:=
 bM g fun a3 a g=>cT 2 (s:=(aS r [W,W])) (by kernel_rfl) (aC.ok Y) (bO [(0,.int .u64 a3)] ⟨a,trivial⟩ (by kernel_rfl) g)
def t(a3:Int)(Z:V)(Y:K):Prop:=F.t Y a3 Z
theorem ok{a3:Int}{Z:V}{Y:K}(g:t a3 Z Y):aF id #[.int .u64 a3] Z Y:=
 c7 c8 (L:=r) (cY:=[.tmp 2]) Tryz.func119 (by kernel_rfl) (by kernel_rfl) (by kernel_rfl) (args:=[.int .u64 a3]) (by kernel_rfl) (F.ok Y _ Z (bI rfl (g)))
end sA
namespace rB
noncomputable def r:Code:=c6 Tryz.f120
def F.t(Y:K)(a3:Int)(fF gG fH:Bool)(a:Int)(Z:V):Prop:=
 cond (a3 == 0) (cond fF (Y (.bool fH) Z) (Y (.bool false) Z)) (cond (a3 == 1) (cond (!fF) (Y (.bool fH) Z) (Y (.bool false) Z)) (cond (decide (a > 0)) (Y (.bool true) Z) (cond (a == 0) (Y (.bool gG) Z) (Y (.bool false) Z))))
def F.g(Y:K)(X:Fr)(Z:V):Prop:=aV .i64 (X 0) fun a3=>b9 (X 1) fun fF=>b9 (X 2) fun gG=>b9 (X 3) fun fH=>aV .i64 (X 4) fun a=>F.t Y a3 fF gG fH a Z
theorem F.ok(Y:K)(X:Fr)(Z:V)(g:F.g Y X Z):den prog E r (aZ E [.tmp 10] Y) X Z:=
 bM g fun a3 a g=>p6 g fun fF b g=>p6 g fun gG c g=>p6 g fun fH d g=>bM g fun e f g=>bO [(0,.int .i64 a3),(1,.bool fF),(2,.bool gG),(3,.bool fH),(4,.int .i64 e)] ⟨a,b,c,d,f,trivial⟩ (by kernel_rfl) g
def t(a3:Int)(fF gG fH:Bool)(a:Int)(Z:V)(Y:K):Prop:=F.t Y a3 fF gG fH a Z
theorem ok{a3:Int}{fF:Bool}{gG:Bool}{fH:Bool}{a:Int}{Z:V}{Y:K}(g:t a3 fF gG fH a Z Y):aF id #[.int .i64 a3,.bool fF,.bool gG,.bool fH,.int .i64 a] Z Y:=
 c7 c8 (L:=r) (cY:=[.tmp 10]) Tryz.func120 (by kernel_rfl) (by kernel_rfl) (by kernel_rfl) (args:=[.int .i64 a3,.bool fF,.bool gG,.bool fH,.int .i64 a]) (by kernel_rfl) (F.ok Y _ Z (bI rfl (aO rfl (aO rfl (aO rfl (bI rfl (g)))))))
end rB
namespace gQ
noncomputable def r:Code:=c6 Tryz.f121
def b0.t(Y:K)(a b:Int)(c d:Int)(e f:Int)(Z:V):Prop:=
 a2 (IntKind.u64.wrap (d*4294967296)) fun d=>
 a2 (IntKind.u64.wrap (d+f)) fun d=>
 a2 (IntKind.u64.wrap (e*4294967296)) fun e=>
 a2 (IntKind.u64.wrap (e+c)) fun c=>
 a2 (IntKind.u64.wrap (f*a)) fun a=>
 a2 (IntKind.u64.wrap (c - a)) fun a=>
 0≤b∧a2 (gL .u64 a b) fun a=>
 Y (.tuple #[.int .u64 d,.int .u64 a]) Z
def b0.g(Y:K)(X:Fr)(Z:V):Prop:=aV .u64 (X 2) fun a=>aV .u64 (X 8) fun b=>aV .u64 (X 14) fun c=>aV .u64 (X 15) fun d=>aV .u64 (X 17) fun e=>aV .u64 (X 18) fun f=>b0.t Y a b c d e f Z
theorem b0.ok(Y:K)(X:Fr)(Z:V)(g:b0.g Y X Z):den prog E (aS r [W,W,W,W,W,W,W,W,W,W,W,W,W,W,W,W,W,W,W]) (aZ E [.tmp 6,.tmp 7] Y) X Z:=
 bM g fun a b g=>bM g fun c d g=>bM g fun e f g=>bM g fun h i g=>bM g fun j l g=>bM g fun m n g=>bO [(2,.int .u64 a),(8,.int .u64 c),(14,.int .u64 e),(15,.int .u64 h),(17,.int .u64 j),(18,.int .u64 m)] ⟨b,d,f,i,l,n,trivial⟩ (by kernel_rfl) g
def gN.g(bN:Int→Int→Int→Int→Int→Int→Int→Int→Int→V→Prop)(X:Fr)(Z:V):Prop:=aV .u64 (X 2) fun a=>aV .u64 (X 8) fun b=>aV .u64 (X 9) fun c=>aV .u64 (X 10) fun d=>aV .u64 (X 14) fun e=>aV .u64 (X 15) fun f=>aV .u64 (X 16) fun h=>aV .u64 (X 17) fun i=>aV .u64 (X 18) fun j=>bN a b c d e f h i j Z
def eL.t(Y:K)(a:Int→Int→Int→Int→Int→Int→Int→Int→Int→V→Prop)(b c:Int)(d e:Int)(f g:Int)(h i j:Int)(Z:V):Prop:=
 a2 (IntKind.u64.wrap (j - 1)) fun j=>
 a2 (IntKind.u64.wrap (h+d)) fun h=>
 cond (decide (h≥4294967296)) (b0.t Y b c f g i j Z) (a b c d e f g h i j Z)
def eL.g(Y:K)(a:Int→Int→Int→Int→Int→Int→Int→Int→Int→V→Prop)(X:Fr)(Z:V):Prop:=aV .u64 (X 2) fun b=>aV .u64 (X 8) fun c=>aV .u64 (X 9) fun d=>aV .u64 (X 10) fun e=>aV .u64 (X 14) fun f=>aV .u64 (X 15) fun h=>aV .u64 (X 16) fun i=>aV .u64 (X 17) fun j=>aV .u64 (X 18) fun l=>eL.t Y a b c d e f h i j l Z
theorem eL.ok(Y:K)(a:Int→Int→Int→Int→Int→Int→Int→Int→Int→V→Prop)(X:Fr)(Z:V)(g:eL.g Y a X Z):den prog E (aS r [W,W,W,W,W,W,W,W,W,W,W,W,W,W,W,W,W,W,x,x,x,W]) (aH.then (gN.g a) (aH.inBlock 2 (aH.then (b0.g Y) (aZ E [.tmp 6,.tmp 7] Y)))) X Z:=
 bM g fun a b g=>bM g fun c d g=>bM g fun e f g=>bM g fun h i g=>bM g fun j l g=>bM g fun m n g=>bM g fun t v g=>bM g fun D G g=>bM g fun H P g=>bO [(2,.int .u64 a),(8,.int .u64 c),(9,.int .u64 e),(10,.int .u64 h),(14,.int .u64 j),(15,.int .u64 m),(16,.int .u64 t),(17,.int .u64 D),(18,.int .u64 H)] ⟨b,d,f,i,l,n,v,G,P,trivial⟩ (by kernel_rfl) g
def eC.t(Y:K)(a:Int→Int→Int→Int→Int→Int→Int→Int→Int→V→Prop)(b c:Int)(d e:Int)(f g:Int)(h i j:Int)(Z:V):Prop:=
 cond (decide (j≥4294967296)) (eL.t Y a b c d e f g h i j Z) (a2 (IntKind.u64.wrap (j*e)) fun l=>
 a2 (IntKind.u64.wrap (4294967296*h)) fun m=>
 a2 (IntKind.u64.wrap (m+f)) fun m=>
 cond (decide (l > m)) (eL.t Y a b c d e f g h i j Z) (b0.t Y b c f g i j Z))
def eC.g(Y:K)(a:Int→Int→Int→Int→Int→Int→Int→Int→Int→V→Prop)(X:Fr)(Z:V):Prop:=aV .u64 (X 2) fun b=>aV .u64 (X 8) fun c=>aV .u64 (X 9) fun d=>aV .u64 (X 10) fun e=>aV .u64 (X 14) fun f=>aV .u64 (X 15) fun h=>aV .u64 (X 16) fun i=>aV .u64 (X 17) fun j=>aV .u64 (X 18) fun l=>eC.t Y a b c d e f h i j l Z
theorem eC.ok(Y:K)(a:Int→Int→Int→Int→Int→Int→Int→Int→Int→V→Prop)(X:Fr)(Z:V)(g:eC.g Y a X Z):den prog E (aS r [W,W,W,W,W,W,W,W,W,W,W,W,W,W,W,W,W,W,x,x,x]) (aH.then (gN.g a) (aH.inBlock 2 (aH.then (b0.g Y) (aZ E [.tmp 6,.tmp 7] Y)))) X Z:=
 bM g fun b c g=>bM g fun d e g=>bM g fun f h g=>bM g fun i j g=>bM g fun l m g=>bM g fun n t g=>bM g fun v D g=>bM g fun G H g=>bM g fun P K5 g=>cT 1 (s:=(aS r [W,W,W,W,W,W,W,W,W,W,W,W,W,W,W,W,W,W,x,x,x,W])) (by kernel_rfl) (eL.ok Y a) (bO [(2,.int .u64 b),(8,.int .u64 d),(9,.int .u64 f),(10,.int .u64 i),(14,.int .u64 l),(15,.int .u64 n),(16,.int .u64 v),(17,.int .u64 G),(18,.int .u64 P)] ⟨c,e,h,j,m,t,D,H,K5,trivial⟩ (by kernel_rfl) g)
def gN.t(Y:K):Nat→Int→Int→Int→Int→Int→Int→Int→Int→Int→V→Prop
 | 0=>fun _ _ _ _ _ _ _ _ _ _=>False
 | n+1=>fun a b c d e f g h i Z=>eC.t Y (gN.t Y n) a b c d e f g h i Z
theorem gN.ok(Y:K)(X:Fr)(Z:V)(g:gN.g (fun a b c d e f h i j Z=>∃ n,gN.t Y n a b c d e f h i j Z) X Z):den prog E (aS r [W,W,W,W,W,W,W,W,W,W,W,W,W,W,W,W,W,W,x,x]) (aH.inBlock 2 (aH.then (b0.g Y) (aZ E [.tmp 6,.tmp 7] Y))) X Z:=by
 obtain⟨a,l,g⟩:=bS g
 obtain⟨b,m,g⟩:=bS g
 obtain⟨c,v,g⟩:=bS g
 obtain⟨d,D,g⟩:=bS g
 obtain⟨e,G,g⟩:=bS g
 obtain⟨f,H,g⟩:=bS g
 obtain⟨h,P,g⟩:=bS g
 obtain⟨i,K5,g⟩:=bS g
 obtain⟨j,K6,g⟩:=bS g
 obtain⟨n,g⟩:=g
 refine e1 (fun n=>gN.g (gN.t Y n)) (N:=(aS r [W,W,W,W,W,W,W,W,W,W,W,W,W,W,W,W,W,W,x,x,x])) (by kernel_rfl) (fun X Z g=>?_) (fun n=>eC.ok Y (gN.t Y n)) n X Z (bI l (bI m (bI v (bI D (bI G (bI H (bI P (bI K5 (bI K6 (g))))))))))
 obtain⟨a,l,g⟩:=bS g
 obtain⟨b,m,g⟩:=bS g
 obtain⟨c,v,g⟩:=bS g
 obtain⟨d,D,g⟩:=bS g
 obtain⟨e,G,g⟩:=bS g
 obtain⟨f,H,g⟩:=bS g
 obtain⟨h,P,g⟩:=bS g
 obtain⟨i,K5,g⟩:=bS g
 obtain⟨j,K6,g⟩:=bS g
 exact g
theorem lP.ok(Y:K)(X:Fr)(Z:V)(g:gN.g (fun a b c d e f h i j Z=>∃ n,gN.t Y n a b c d e f h i j Z) X Z):den prog E (aS r [W,W,W,W,W,W,W,W,W,W,W,W,W,W,W,W,W,W,x]) (aH.then (b0.g Y) (aZ E [.tmp 6,.tmp 7] Y)) X Z:=
 eR (by kernel_rfl) (gN.ok Y X Z g)
theorem w2.ok(Y:K)(X:Fr)(Z:V)(g:gN.g (fun a b c d e f h i j Z=>∃ n,gN.t Y n a b c d e f h i j Z) X Z):den prog E (aS r [W,W,W,W,W,W,W,W,W,W,W,W,W,W,W,W,W,W]) (aZ E [.tmp 6,.tmp 7] Y) X Z:=
 e5 (by kernel_rfl) (b0.ok Y) (lP.ok Y X Z g)
def cA.t(Y:K)(a b:Int)(c d:Int)(e f:Int)(g h:Int)(Z:V):Prop:=
 a2 (IntKind.u64.wrap (e*4294967296)) fun e=>
 a2 (IntKind.u64.wrap (e+f)) fun e=>
 a2 (IntKind.u64.wrap (h*a)) fun f=>
 a2 (IntKind.u64.wrap (e - f)) fun e=>
 c ≠ 0∧a2 (IntKind.u64.wrap (Int.tdiv e c)) fun f=>
 a2 (IntKind.u64.wrap (f*c)) fun i=>
 a2 (IntKind.u64.wrap (e - i)) fun i=>
 (∃ n,gN.t Y n a b c d g h i e f Z)
def cA.g(Y:K)(X:Fr)(Z:V):Prop:=aV .u64 (X 2) fun a=>aV .u64 (X 8) fun b=>aV .u64 (X 9) fun c=>aV .u64 (X 10) fun d=>aV .u64 (X 11) fun e=>aV .u64 (X 13) fun f=>aV .u64 (X 14) fun h=>aV .u64 (X 15) fun i=>cA.t Y a b c d e f h i Z
theorem cA.ok(Y:K)(X:Fr)(Z:V)(g:cA.g Y X Z):den prog E (aS r [W,W,W,W,W,W,W,W,W,W,W,W,W,W,W]) (aZ E [.tmp 6,.tmp 7] Y) X Z:=
 bM g fun a b g=>bM g fun c d g=>bM g fun e f g=>bM g fun h i g=>bM g fun j l g=>bM g fun m n g=>bM g fun t v g=>bM g fun D G g=>cT 3 (s:=(aS r [W,W,W,W,W,W,W,W,W,W,W,W,W,W,W,W,W,W])) (by kernel_rfl) (w2.ok Y) (bO [(2,.int .u64 a),(8,.int .u64 c),(9,.int .u64 e),(10,.int .u64 h),(11,.int .u64 j),(13,.int .u64 m),(14,.int .u64 t),(15,.int .u64 D)] ⟨b,d,f,i,l,n,v,G,trivial⟩ (by kernel_rfl) g)
def j2.g(bN:Int→Int→Int→Int→Int→Int→Int→Int→Int→V→Prop)(X:Fr)(Z:V):Prop:=aV .u64 (X 2) fun a=>aV .u64 (X 8) fun b=>aV .u64 (X 9) fun c=>aV .u64 (X 10) fun d=>aV .u64 (X 11) fun e=>aV .u64 (X 13) fun f=>aV .u64 (X 14) fun h=>aV .u64 (X 15) fun i=>aV .u64 (X 16) fun j=>bN a b c d e f h i j Z
def kB.t(Y:K)(a:Int→Int→Int→Int→Int→Int→Int→Int→Int→V→Prop)(b c:Int)(d e:Int)(f g:Int)(h i j:Int)(Z:V):Prop:=
 a2 (IntKind.u64.wrap (i - 1)) fun i=>
 a2 (IntKind.u64.wrap (j+d)) fun j=>
 cond (decide (j≥4294967296)) (cA.t Y b c d e f g h i Z) (a b c d e f g h i j Z)
def kB.g(Y:K)(a:Int→Int→Int→Int→Int→Int→Int→Int→Int→V→Prop)(X:Fr)(Z:V):Prop:=aV .u64 (X 2) fun b=>aV .u64 (X 8) fun c=>aV .u64 (X 9) fun d=>aV .u64 (X 10) fun e=>aV .u64 (X 11) fun f=>aV .u64 (X 13) fun h=>aV .u64 (X 14) fun i=>aV .u64 (X 15) fun j=>aV .u64 (X 16) fun l=>kB.t Y a b c d e f h i j l Z
theorem kB.ok(Y:K)(a:Int→Int→Int→Int→Int→Int→Int→Int→Int→V→Prop)(X:Fr)(Z:V)(g:kB.g Y a X Z):den prog E (aS r [W,W,W,W,W,W,W,W,W,W,W,W,W,W,x,x,x,W]) (aH.then (j2.g a) (aH.inBlock 0 (aH.then (cA.g Y) (aZ E [.tmp 6,.tmp 7] Y)))) X Z:=
 bM g fun a b g=>bM g fun c d g=>bM g fun e f g=>bM g fun h i g=>bM g fun j l g=>bM g fun m n g=>bM g fun t v g=>bM g fun D G g=>bM g fun H P g=>bO [(2,.int .u64 a),(8,.int .u64 c),(9,.int .u64 e),(10,.int .u64 h),(11,.int .u64 j),(13,.int .u64 m),(14,.int .u64 t),(15,.int .u64 D),(16,.int .u64 H)] ⟨b,d,f,i,l,n,v,G,P,trivial⟩ (by kernel_rfl) g
def r8.t(Y:K)(a:Int→Int→Int→Int→Int→Int→Int→Int→Int→V→Prop)(b c:Int)(d e:Int)(f g:Int)(h i j:Int)(Z:V):Prop:=
 cond (decide (i≥4294967296)) (kB.t Y a b c d e f g h i j Z) (a2 (IntKind.u64.wrap (i*e)) fun l=>
 a2 (IntKind.u64.wrap (4294967296*j)) fun m=>
 a2 (IntKind.u64.wrap (m+g)) fun m=>
 cond (decide (l > m)) (kB.t Y a b c d e f g h i j Z) (cA.t Y b c d e f g h i Z))
def r8.g(Y:K)(a:Int→Int→Int→Int→Int→Int→Int→Int→Int→V→Prop)(X:Fr)(Z:V):Prop:=aV .u64 (X 2) fun b=>aV .u64 (X 8) fun c=>aV .u64 (X 9) fun d=>aV .u64 (X 10) fun e=>aV .u64 (X 11) fun f=>aV .u64 (X 13) fun h=>aV .u64 (X 14) fun i=>aV .u64 (X 15) fun j=>aV .u64 (X 16) fun l=>r8.t Y a b c d e f h i j l Z
theorem r8.ok(Y:K)(a:Int→Int→Int→Int→Int→Int→Int→Int→Int→V→Prop)(X:Fr)(Z:V)(g:r8.g Y a X Z):den prog E (aS r [W,W,W,W,W,W,W,W,W,W,W,W,W,W,x,x,x]) (aH.then (j2.g a) (aH.inBlock 0 (aH.then (cA.g Y) (aZ E [.tmp 6,.tmp 7] Y)))) X Z:=
 bM g fun b c g=>bM g fun d e g=>bM g fun f h g=>bM g fun i j g=>bM g fun l m g=>bM g fun n t g=>bM g fun v D g=>bM g fun G H g=>bM g fun P K5 g=>cT 1 (s:=(aS r [W,W,W,W,W,W,W,W,W,W,W,W,W,W,x,x,x,W])) (by kernel_rfl) (kB.ok Y a) (bO [(2,.int .u64 b),(8,.int .u64 d),(9,.int .u64 f),(10,.int .u64 i),(11,.int .u64 l),(13,.int .u64 n),(14,.int .u64 v),(15,.int .u64 G),(16,.int .u64 P)] ⟨c,e,h,j,m,t,D,H,K5,trivial⟩ (by kernel_rfl) g)
def j2.t(Y:K):Nat→Int→Int→Int→Int→Int→Int→Int→Int→Int→V→Prop
 | 0=>fun _ _ _ _ _ _ _ _ _ _=>False
 | n+1=>fun a b c d e f g h i Z=>r8.t Y (j2.t Y n) a b c d e f g h i Z
theorem j2.ok(Y:K)(X:Fr)(Z:V)(g:j2.g (fun a b c d e f h i j Z=>∃ n,j2.t Y n a b c d e f h i j Z) X Z):den prog E (aS r [W,W,W,W,W,W,W,W,W,W,W,W,W,W,x,x]) (aH.inBlock 0 (aH.then (cA.g Y) (aZ E [.tmp 6,.tmp 7] Y))) X Z:=by
 obtain⟨a,l,g⟩:=bS g
 obtain⟨b,m,g⟩:=bS g
 obtain⟨c,v,g⟩:=bS g
 obtain⟨d,D,g⟩:=bS g
 obtain⟨e,G,g⟩:=bS g
 obtain⟨f,H,g⟩:=bS g
 obtain⟨h,P,g⟩:=bS g
 obtain⟨i,K5,g⟩:=bS g
 obtain⟨j,K6,g⟩:=bS g
 obtain⟨n,g⟩:=g
 refine e1 (fun n=>j2.g (j2.t Y n)) (N:=(aS r [W,W,W,W,W,W,W,W,W,W,W,W,W,W,x,x,x])) (by kernel_rfl) (fun X Z g=>?_) (fun n=>r8.ok Y (j2.t Y n)) n X Z (bI l (bI m (bI v (bI D (bI G (bI H (bI P (bI K5 (bI K6 (g))))))))))
 obtain⟨a,l,g⟩:=bS g
 obtain⟨b,m,g⟩:=bS g
 obtain⟨c,v,g⟩:=bS g
 obtain⟨d,D,g⟩:=bS g
 obtain⟨e,G,g⟩:=bS g
 obtain⟨f,H,g⟩:=bS g
 obtain⟨h,P,g⟩:=bS g
 obtain⟨i,K5,g⟩:=bS g
 obtain⟨j,K6,g⟩:=bS g
 exact g
theorem rR.ok(Y:K)(X:Fr)(Z:V)(g:j2.g (fun a b c d e f h i j Z=>∃ n,j2.t Y n a b c d e f h i j Z) X Z):den prog E (aS r [W,W,W,W,W,W,W,W,W,W,W,W,W,W,x]) (aH.then (cA.g Y) (aZ E [.tmp 6,.tmp 7] Y)) X Z:=
 eR (by kernel_rfl) (j2.ok Y X Z g)
theorem uH.ok(Y:K)(X:Fr)(Z:V)(g:j2.g (fun a b c d e f h i j Z=>∃ n,j2.t Y n a b c d e f h i j Z) X Z):den prog E (aS r [W,W,W,W,W,W,W,W,W,W,W,W,W,W]) (aZ E [.tmp 6,.tmp 7] Y) X Z:=
 e5 (by kernel_rfl) (cA.ok Y) (rR.ok Y X Z g)
def a7.t(Y:K)(a3 aQ a:Int)(Z:V):Prop:=
 cond (a3 == 0) (a ≠ 0∧a2 (IntKind.u64.wrap (Int.tdiv aQ a)) fun b=>
 a ≠ 0∧a2 (Int.tmod aQ a) fun c=>
 Y (.tuple #[.int .u64 b,.int .u64 c]) Z) (aF r7.id #[.int .u64 a] Z fun b c=>
 aV .i64 b fun b=>
 a2 (IntKind.u64.wrap b) fun b=>
 0≤b∧a2 (jM .u64 a b) fun a=>
 0≤(32:Int)∧a2 (gL .u64 a 32) fun d=>
 a2 (iG .u64 a 4294967295) fun e=>
 0≤b∧a2 (jM .u64 a3 b) fun f=>
 a2 (IntKind.u64.wrap (64 - b)) fun g=>
 0≤g∧a2 (gL .u64 aQ g) fun g=>
 a2 (uL .u64 f g) fun f=>
 0≤b∧a2 (jM .u64 aQ b) fun g=>
 0≤(32:Int)∧a2 (gL .u64 g 32) fun h=>
 a2 (iG .u64 g 4294967295) fun g=>
 d ≠ 0∧a2 (IntKind.u64.wrap (Int.tdiv f d)) fun i=>
 a2 (IntKind.u64.wrap (i*d)) fun j=>
 a2 (IntKind.u64.wrap (f - j)) fun j=>
 (∃ n,j2.t Y n a b d e f h g i j c))
def a7.g(Y:K)(X:Fr)(Z:V):Prop:=aV .u64 (X 0) fun a3=>aV .u64 (X 1) fun aQ=>aV .u64 (X 2) fun a=>a7.t Y a3 aQ a Z
theorem a7.ok(Y:K)(X:Fr)(Z:V)(g:a7.g Y X Z):den prog E (aS r [W,W,W]) (aZ E [.tmp 6,.tmp 7] Y) X Z:=
 bM g fun a3 a g=>bM g fun aQ b g=>bM g fun c d g=>cT 11 (s:=(aS r [W,W,W,W,W,W,W,W,W,W,W,W,W,W])) (by kernel_rfl) (uH.ok Y) (bO [(0,.int .u64 a3),(1,.int .u64 aQ),(2,.int .u64 c)] ⟨a,b,d,trivial⟩ (by kernel_rfl) g)
def aC.t(Y:K)(a3 aQ a:Int)(Z:V):Prop:=
 cond (decide (a≤a3)) (False) (a7.t Y a3 aQ a Z)
def aC.g(Y:K)(X:Fr)(Z:V):Prop:=aV .u64 (X 0) fun a3=>aV .u64 (X 1) fun aQ=>aV .u64 (X 2) fun a=>aC.t Y a3 aQ a Z
theorem aC.ok(Y:K)(X:Fr)(Z:V)(g:aC.g Y X Z):den prog E (aS r [W,W]) (aZ E [.tmp 6,.tmp 7] Y) X Z:=
 bM g fun a3 a g=>bM g fun aQ b g=>bM g fun c d g=>cT 1 (s:=(aS r [W,W,W])) (by kernel_rfl) (a7.ok Y) (bO [(0,.int .u64 a3),(1,.int .u64 aQ),(2,.int .u64 c)] ⟨a,b,d,trivial⟩ (by kernel_rfl) g)
def F.t(Y:K)(a3 aQ a:Int)(Z:V):Prop:=
 cond (a == 0) (False) (aC.t Y a3 aQ a Z)
def F.g(Y:K)(X:Fr)(Z:V):Prop:=aV .u64 (X 0) fun a3=>aV .u64 (X 1) fun aQ=>aV .u64 (X 2) fun a=>F.t Y a3 aQ a Z
theorem F.ok(Y:K)(X:Fr)(Z:V)(g:F.g Y X Z):den prog E r (aZ E [.tmp 6,.tmp 7] Y) X Z:=
 bM g fun a3 a g=>bM g fun aQ b g=>bM g fun c d g=>cT 2 (s:=(aS r [W,W])) (by kernel_rfl) (aC.ok Y) (bO [(0,.int .u64 a3),(1,.int .u64 aQ),(2,.int .u64 c)] ⟨a,b,d,trivial⟩ (by kernel_rfl) g)
def t(a3 aQ a:Int)(Z:V)(Y:K):Prop:=F.t Y a3 aQ a Z
theorem ok{a3:Int}{aQ:Int}{a:Int}{Z:V}{Y:K}(g:t a3 aQ a Z Y):aF id #[.int .u64 a3,.int .u64 aQ,.int .u64 a] Z Y:=
 c7 c8 (L:=r) (cY:=[.tmp 6,.tmp 7]) Tryz.func121 (by kernel_rfl) (by kernel_rfl) (by kernel_rfl) (args:=[.int .u64 a3,.int .u64 aQ,.int .u64 a]) (by kernel_rfl) (F.ok Y _ Z (bI rfl (bI rfl (bI rfl (g)))))
end gQ
namespace tR
noncomputable def r:Code:=c6 Tryz.f122
def F.t(Y:K)(a3 aQ a:Int)(Z:V):Prop:=
 cond (decide (a3≥a)) (Y (.int .u64 18446744073709551615) Z) (aF gQ.id #[.int .u64 a3,.int .u64 aQ,.int .u64 a] Z fun a b=>
 c0 a fun a=>
 dG a .u64 fun a c=>
 dG c .u64 fun c c=>
 bC c <| Y (.int .u64 a) b)
def F.g(Y:K)(X:Fr)(Z:V):Prop:=aV .u64 (X 0) fun a3=>aV .u64 (X 1) fun aQ=>aV .u64 (X 2) fun a=>F.t Y a3 aQ a Z
theorem F.ok(Y:K)(X:Fr)(Z:V)(g:F.g Y X Z):den prog E r (aZ E [.tmp 6] Y) X Z:=
 bM g fun a3 a g=>bM g fun aQ b g=>bM g fun c d g=>bO [(0,.int .u64 a3),(1,.int .u64 aQ),(2,.int .u64 c)] ⟨a,b,d,trivial⟩ (by kernel_rfl) g
def t(a3 aQ a:Int)(Z:V)(Y:K):Prop:=F.t Y a3 aQ a Z
theorem ok{a3:Int}{aQ:Int}{a:Int}{Z:V}{Y:K}(g:t a3 aQ a Z Y):aF id #[.int .u64 a3,.int .u64 aQ,.int .u64 a] Z Y:=
 c7 c8 (L:=r) (cY:=[.tmp 6]) Tryz.func122 (by kernel_rfl) (by kernel_rfl) (by kernel_rfl) (args:=[.int .u64 a3,.int .u64 aQ,.int .u64 a]) (by kernel_rfl) (F.ok Y _ Z (bI rfl (bI rfl (bI rfl (g)))))
end tR
namespace m6
noncomputable def r:Code:=c6 Tryz.f123
def aC.t(Y:K)(S:U)(a R:Nat)(b:U)(y b:Nat)(b c:Int)(Z:V):Prop:=
 cL S a (((y:Nat):Int)) 1 fun d=>
 cI Z .u64 d fun d=>
 rT d b c fun b gS=>
 cL S a (((y:Nat):Int)) 1 fun a=>
 aW Z a (.int .u64 b) fun a=>
 Y (.int .u64 gS) a
def aC.g(Y:K)(X:Fr)(Z:V):Prop:=aG (X 0) fun S a R=>aG (X 1) fun b y c=>aV .u64 (X 7) fun d=>aV .u64 (X 8) fun e=>aC.t Y S a R b y c d e Z
theorem aC.ok(Y:K)(X:Fr)(Z:V)(g:aC.g Y X Z):den prog E (aS r [W,W,W]) (aZ E [.tmp 6] Y) X Z:=
 a8 g fun S a R b g=>a8 g fun c y d e g=>bM g fun f h g=>bM g fun i j g=>bO [(0,.slice S a R),(1,.slice c y d),(7,.int .u64 f),(8,.int .u64 i)] ⟨b,e,h,j,trivial⟩ (by kernel_rfl) g
def bG.g(bN:U→Nat→Nat→U→Nat→Nat→Int→Int→Int→Int→Int→V→Prop)(X:Fr)(Z:V):Prop:=aG (X 0) fun S a R=>aG (X 1) fun b y c=>aV .u64 (X 2) fun d=>aV .u64 (X 7) fun e=>aV .u64 (X 8) fun f=>aV .i64 (X 14) fun h=>aV .i64 (X 15) fun i=>bN S a R b y c d e f h i Z
def b0.t(Y:K)(a:U→Nat→Nat→U→Nat→Nat→Int→Int→Int→Int→Int→V→Prop)(S:U)(b R:Nat)(c:U)(y d:Nat)(e f:Int)(g h i:Int)(Z:V):Prop:=
 cond (decide (i < h)) (cL c y i 1 fun j=>
 cI Z .u64 j fun j=>
 aF r6.id #[.int .u64 j,.int .u64 e] Z fun j l=>
 c0 j fun j=>
 dG j .u64 fun j m=>
 dG m .u64 fun m n=>
 bC n <| o3 m f 0 fun m n=>
 a2 (IntKind.u64.wrap (j+n)) fun j=>
 cL S b i 1 fun n=>
 cI l .u64 n fun n=>
 rT n m g fun m n=>
 cL S b i 1 fun v=>
 aW l v (.int .u64 m) fun l=>
 a2 (IntKind.i64.wrap (i+1)) fun i=>
 a S b R c y d e j n h i l) (aC.t Y S b R c y d f g Z)
def b0.g(Y:K)(a:U→Nat→Nat→U→Nat→Nat→Int→Int→Int→Int→Int→V→Prop)(X:Fr)(Z:V):Prop:=aG (X 0) fun S b R=>aG (X 1) fun c y d=>aV .u64 (X 2) fun e=>aV .u64 (X 7) fun f=>aV .u64 (X 8) fun h=>aV .i64 (X 14) fun i=>aV .i64 (X 15) fun j=>b0.t Y a S b R c y d e f h i j Z
theorem b0.ok(Y:K)(a:U→Nat→Nat→U→Nat→Nat→Int→Int→Int→Int→Int→V→Prop)(X:Fr)(Z:V)(g:b0.g Y a X Z):den prog E (aS r [W,W,x,W,x,x]) (aH.then (bG.g a) (aH.inBlock 0 (aH.then (aC.g Y) (aZ E [.tmp 6] Y)))) X Z:=
 a8 g fun S a R b g=>a8 g fun c y d e g=>bM g fun f h g=>bM g fun i j g=>bM g fun l m g=>bM g fun n t g=>bM g fun v D g=>bO [(0,.slice S a R),(1,.slice c y d),(2,.int .u64 f),(7,.int .u64 i),(8,.int .u64 l),(14,.int .i64 n),(15,.int .i64 v)] ⟨b,e,h,j,m,t,D,trivial⟩ (by kernel_rfl) g
def bG.t(Y:K):Nat→U→Nat→Nat→U→Nat→Nat→Int→Int→Int→Int→Int→V→Prop
 | 0=>fun _ _ _ _ _ _ _ _ _ _ _ _=>False
 | n+1=>fun S a R b y c d e f g h Z=>b0.t Y (bG.t Y n) S a R b y c d e f g h Z
theorem bG.ok(Y:K)(X:Fr)(Z:V)(g:bG.g (fun S a R b y c d e f h i Z=>∃ n,bG.t Y n S a R b y c d e f h i Z) X Z):den prog E (aS r [W,W,x,W,x]) (aH.inBlock 0 (aH.then (aC.g Y) (aZ E [.tmp 6] Y))) X Z:=by
 obtain⟨S,a,R,j,g⟩:=bQ g
 obtain⟨b,y,c,l,g⟩:=bQ g
 obtain⟨d,m,g⟩:=bS g
 obtain⟨e,v,g⟩:=bS g
 obtain⟨f,D,g⟩:=bS g
 obtain⟨h,G,g⟩:=bS g
 obtain⟨i,H,g⟩:=bS g
 obtain⟨n,g⟩:=g
 refine e1 (fun n=>bG.g (bG.t Y n)) (N:=(aS r [W,W,x,W,x,x])) (by kernel_rfl) (fun X Z g=>?_) (fun n=>b0.ok Y (bG.t Y n)) n X Z (k j (k l (bI m (bI v (bI D (bI G (bI H (g))))))))
 obtain⟨S,a,R,j,g⟩:=bQ g
 obtain⟨b,y,c,l,g⟩:=bQ g
 obtain⟨d,m,g⟩:=bS g
 obtain⟨e,v,g⟩:=bS g
 obtain⟨f,D,g⟩:=bS g
 obtain⟨h,G,g⟩:=bS g
 obtain⟨i,H,g⟩:=bS g
 exact g
theorem eP.ok(Y:K)(X:Fr)(Z:V)(g:bG.g (fun S a R b y c d e f h i Z=>∃ n,bG.t Y n S a R b y c d e f h i Z) X Z):den prog E (aS r [W,W,x,W]) (aH.then (aC.g Y) (aZ E [.tmp 6] Y)) X Z:=
 eR (by kernel_rfl) (bG.ok Y X Z g)
def a7.t(Y:K)(S:U)(a R:Nat)(b:U)(y c:Nat)(d e f:Int)(Z:V):Prop:=
 (∃ n,bG.t Y n S a R b y c d e f (((y:Nat):Int)) 0 Z)
def a7.g(Y:K)(X:Fr)(Z:V):Prop:=aG (X 0) fun S a R=>aG (X 1) fun b y c=>aV .u64 (X 2) fun d=>aV .u64 (X 7) fun e=>aV .u64 (X 8) fun f=>a7.t Y S a R b y c d e f Z
theorem a7.ok(Y:K)(X:Fr)(Z:V)(g:a7.g Y X Z):den prog E (aS r [W,W,x]) (aH.then (aC.g Y) (aZ E [.tmp 6] Y)) X Z:=
 a8 g fun S a R b g=>a8 g fun c y d e g=>bM g fun f h g=>bM g fun i j g=>bM g fun l m g=>cT 1 (s:=(aS r [W,W,x,W])) (by kernel_rfl) (eP.ok Y) (bO [(0,.slice S a R),(1,.slice c y d),(2,.int .u64 f),(7,.int .u64 i),(8,.int .u64 l)] ⟨b,e,h,j,m,trivial⟩ (by kernel_rfl) g)
theorem gV.ok(Y:K)(X:Fr)(Z:V)(g:a7.g Y X Z):den prog E (aS r [W,W]) (aZ E [.tmp 6] Y) X Z:=
 e5 (by kernel_rfl) (aC.ok Y) (a7.ok Y X Z g)
def F.t(Y:K)(S:U)(a R:Nat)(b:U)(y c:Nat)(d:Int)(Z:V):Prop:=
 a7.t Y S a R b y c d 0 0 Z
def F.g(Y:K)(X:Fr)(Z:V):Prop:=aG (X 0) fun S a R=>aG (X 1) fun b y c=>aV .u64 (X 2) fun d=>F.t Y S a R b y c d Z
theorem F.ok(Y:K)(X:Fr)(Z:V)(g:F.g Y X Z):den prog E r (aZ E [.tmp 6] Y) X Z:=
 a8 g fun S a R b g=>a8 g fun c y d e g=>bM g fun f h g=>cT 2 (s:=(aS r [W,W])) (by kernel_rfl) (gV.ok Y) (bO [(0,.slice S a R),(1,.slice c y d),(2,.int .u64 f)] ⟨b,e,h,trivial⟩ (by kernel_rfl) g)
def t(S:U)(a R:Nat)(b:U)(y c:Nat)(d:Int)(Z:V)(Y:K):Prop:=F.t Y S a R b y c d Z
theorem ok{S:U}{a:Nat}{R:Nat}{b:U}{y:Nat}{c:Nat}{d:Int}{Z:V}{Y:K}(g:t S a R b y c d Z Y):aF id #[.slice S a R,.slice b y c,.int .u64 d] Z Y:=
 c7 c8 (L:=r) (cY:=[.tmp 6]) Tryz.func123 (by kernel_rfl) (by kernel_rfl) (by kernel_rfl) (args:=[.slice S a R,.slice b y c,.int .u64 d]) (by kernel_rfl) (F.ok Y _ Z (k rfl (k rfl (bI rfl (g)))))
end m6
namespace m7
noncomputable def r:Code:=c6 Tryz.f124
def aC.t(Y:K)(S:U)(a R:Nat)(b:U)(y b:Nat)(b:Int)(Z:V):Prop:=
 cL S a (((y:Nat):Int)) 1 fun c=>
 cI Z .u64 c fun c=>
 o3 c 0 b fun b gS=>
 cL S a (((y:Nat):Int)) 1 fun a=>
 aW Z a (.int .u64 b) fun a=>
 Y (.int .u64 gS) a
def aC.g(Y:K)(X:Fr)(Z:V):Prop:=aG (X 0) fun S a R=>aG (X 1) fun b y c=>aV .u64 (X 5) fun d=>aC.t Y S a R b y c d Z
theorem aC.ok(Y:K)(X:Fr)(Z:V)(g:aC.g Y X Z):den prog E (aS r [W,W,W]) (aZ E [.tmp 4] Y) X Z:=
 a8 g fun S a R b g=>a8 g fun c y d e g=>bM g fun f h g=>bO [(0,.slice S a R),(1,.slice c y d),(5,.int .u64 f)] ⟨b,e,h,trivial⟩ (by kernel_rfl) g
def bG.g(bN:U→Nat→Nat→U→Nat→Nat→Int→Int→Int→V→Prop)(X:Fr)(Z:V):Prop:=aG (X 0) fun S a R=>aG (X 1) fun b y c=>aV .u64 (X 5) fun d=>aV .i64 (X 8) fun e=>aV .i64 (X 9) fun f=>bN S a R b y c d e f Z
def b0.t(Y:K)(a:U→Nat→Nat→U→Nat→Nat→Int→Int→Int→V→Prop)(S:U)(b R:Nat)(c:U)(y d:Nat)(e f g:Int)(Z:V):Prop:=
 cond (decide (g < f)) (cL S b g 1 fun h=>
 cI Z .u64 h fun h=>
 cL c y g 1 fun i=>
 cI Z .u64 i fun i=>
 o3 h i e fun h i=>
 cL S b g 1 fun j=>
 aW Z j (.int .u64 h) fun h=>
 a2 (IntKind.i64.wrap (g+1)) fun g=>
 a S b R c y d i f g h) (aC.t Y S b R c y d e Z)
def b0.g(Y:K)(a:U→Nat→Nat→U→Nat→Nat→Int→Int→Int→V→Prop)(X:Fr)(Z:V):Prop:=aG (X 0) fun S b R=>aG (X 1) fun c y d=>aV .u64 (X 5) fun e=>aV .i64 (X 8) fun f=>aV .i64 (X 9) fun h=>b0.t Y a S b R c y d e f h Z
theorem b0.ok(Y:K)(a:U→Nat→Nat→U→Nat→Nat→Int→Int→Int→V→Prop)(X:Fr)(Z:V)(g:b0.g Y a X Z):den prog E (aS r [W,W,x,W,x,x]) (aH.then (bG.g a) (aH.inBlock 0 (aH.then (aC.g Y) (aZ E [.tmp 4] Y)))) X Z:=
 a8 g fun S a R b g=>a8 g fun c y d e g=>bM g fun f h g=>bM g fun i j g=>bM g fun l m g=>bO [(0,.slice S a R),(1,.slice c y d),(5,.int .u64 f),(8,.int .i64 i),(9,.int .i64 l)] ⟨b,e,h,j,m,trivial⟩ (by kernel_rfl) g
def bG.t(Y:K):Nat→U→Nat→Nat→U→Nat→Nat→Int→Int→Int→V→Prop
 | 0=>fun _ _ _ _ _ _ _ _ _ _=>False
 | n+1=>fun S a R b y c d e f Z=>b0.t Y (bG.t Y n) S a R b y c d e f Z
theorem bG.ok(Y:K)(X:Fr)(Z:V)(g:bG.g (fun S a R b y c d e f Z=>∃ n,bG.t Y n S a R b y c d e f Z) X Z):den prog E (aS r [W,W,x,W,x]) (aH.inBlock 0 (aH.then (aC.g Y) (aZ E [.tmp 4] Y))) X Z:=by
 obtain⟨S,a,R,h,g⟩:=bQ g
 obtain⟨b,y,c,i,g⟩:=bQ g
 obtain⟨d,j,g⟩:=bS g
 obtain⟨e,l,g⟩:=bS g
 obtain⟨f,m,g⟩:=bS g
 obtain⟨n,g⟩:=g
 refine e1 (fun n=>bG.g (bG.t Y n)) (N:=(aS r [W,W,x,W,x,x])) (by kernel_rfl) (fun X Z g=>?_) (fun n=>b0.ok Y (bG.t Y n)) n X Z (k h (k i (bI j (bI l (bI m (g))))))
 obtain⟨S,a,R,h,g⟩:=bQ g
 obtain⟨b,y,c,i,g⟩:=bQ g
 obtain⟨d,j,g⟩:=bS g
 obtain⟨e,l,g⟩:=bS g
 obtain⟨f,m,g⟩:=bS g
 exact g
theorem eP.ok(Y:K)(X:Fr)(Z:V)(g:bG.g (fun S a R b y c d e f Z=>∃ n,bG.t Y n S a R b y c d e f Z) X Z):den prog E (aS r [W,W,x,W]) (aH.then (aC.g Y) (aZ E [.tmp 4] Y)) X Z:=
 eR (by kernel_rfl) (bG.ok Y X Z g)
def a7.t(Y:K)(S:U)(a R:Nat)(b:U)(y c:Nat)(d:Int)(Z:V):Prop:=
 (∃ n,bG.t Y n S a R b y c d (((y:Nat):Int)) 0 Z)
def a7.g(Y:K)(X:Fr)(Z:V):Prop:=aG (X 0) fun S a R=>aG (X 1) fun b y c=>aV .u64 (X 5) fun d=>a7.t Y S a R b y c d Z
theorem a7.ok(Y:K)(X:Fr)(Z:V)(g:a7.g Y X Z):den prog E (aS r [W,W,x]) (aH.then (aC.g Y) (aZ E [.tmp 4] Y)) X Z:=
 a8 g fun S a R b g=>a8 g fun c y d e g=>bM g fun f h g=>cT 1 (s:=(aS r [W,W,x,W])) (by kernel_rfl) (eP.ok Y) (bO [(0,.slice S a R),(1,.slice c y d),(5,.int .u64 f)] ⟨b,e,h,trivial⟩ (by kernel_rfl) g)
theorem gV.ok(Y:K)(X:Fr)(Z:V)(g:a7.g Y X Z):den prog E (aS r [W,W]) (aZ E [.tmp 4] Y) X Z:=
 e5 (by kernel_rfl) (aC.ok Y) (a7.ok Y X Z g)
def F.t(Y:K)(S:U)(a R:Nat)(b:U)(y c:Nat)(Z:V):Prop:=
 a7.t Y S a R b y c 0 Z
def F.g(Y:K)(X:Fr)(Z:V):Prop:=aG (X 0) fun S a R=>aG (X 1) fun b y c=>F.t Y S a R b y c Z
theorem F.ok(Y:K)(X:Fr)(Z:V)(g:F.g Y X Z):den prog E r (aZ E [.tmp 4] Y) X Z:=
 a8 g fun S a R b g=>a8 g fun c y d e g=>cT 2 (s:=(aS r [W,W])) (by kernel_rfl) (gV.ok Y) (bO [(0,.slice S a R),(1,.slice c y d)] ⟨b,e,trivial⟩ (by kernel_rfl) g)
def t(S:U)(a R:Nat)(b:U)(y c:Nat)(Z:V)(Y:K):Prop:=F.t Y S a R b y c Z
theorem ok{S:U}{a:Nat}{R:Nat}{b:U}{y:Nat}{c:Nat}{Z:V}{Y:K}(g:t S a R b y c Z Y):aF id #[.slice S a R,.slice b y c] Z Y:=
 c7 c8 (L:=r) (cY:=[.tmp 4]) Tryz.func124 (by kernel_rfl) (by kernel_rfl) (by kernel_rfl) (args:=[.slice S a R,.slice b y c]) (by kernel_rfl) (F.ok Y _ Z (k rfl (k rfl (g))))
end m7
namespace r6
noncomputable def r:Code:=c6 Tryz.f125
def F.t(Y:K)(a3 aQ:Int)(Z:V):Prop:=
 a2 (iG .u64 a3 4294967295) fun a=>
 0≤(32:Int)∧a2 (gL .u64 a3 32) fun b=>
 a2 (iG .u64 aQ 4294967295) fun c=>
 0≤(32:Int)∧a2 (gL .u64 aQ 32) fun d=>
 a2 (IntKind.u64.wrap (a*c)) fun e=>
 a2 (IntKind.u64.wrap (b*c)) fun c=>
 0≤(32:Int)∧a2 (gL .u64 e 32) fun e=>
 a2 (IntKind.u64.wrap (c+e)) fun c=>
 a2 (iG .u64 c 4294967295) fun e=>
 0≤(32:Int)∧a2 (gL .u64 c 32) fun c=>
 a2 (IntKind.u64.wrap (a*d)) fun a=>
 a2 (IntKind.u64.wrap (e+a)) fun a=>
 a2 (IntKind.u64.wrap (b*d)) fun b=>
 a2 (IntKind.u64.wrap (b+c)) fun b=>
 0≤(32:Int)∧a2 (gL .u64 a 32) fun a=>
 a2 (IntKind.u64.wrap (b+a)) fun a=>
 a2 (IntKind.u64.wrap (a3*aQ)) fun b=>
 Y (.tuple #[.int .u64 a,.int .u64 b]) Z
def F.g(Y:K)(X:Fr)(Z:V):Prop:=aV .u64 (X 0) fun a3=>aV .u64 (X 1) fun aQ=>F.t Y a3 aQ Z
theorem F.ok(Y:K)(X:Fr)(Z:V)(g:F.g Y X Z):den prog E r (aZ E [.tmp 4,.tmp 5] Y) X Z:=
 bM g fun a3 a g=>bM g fun aQ b g=>bO [(0,.int .u64 a3),(1,.int .u64 aQ)] ⟨a,b,trivial⟩ (by kernel_rfl) g
def t(a3 aQ:Int)(Z:V)(Y:K):Prop:=F.t Y a3 aQ Z
theorem ok{a3:Int}{aQ:Int}{Z:V}{Y:K}(g:t a3 aQ Z Y):aF id #[.int .u64 a3,.int .u64 aQ] Z Y:=
 c7 c8 (L:=r) (cY:=[.tmp 4,.tmp 5]) Tryz.func125 (by kernel_rfl) (by kernel_rfl) (by kernel_rfl) (args:=[.int .u64 a3,.int .u64 aQ]) (by kernel_rfl) (F.ok Y _ Z (bI rfl (bI rfl (g))))
end r6
namespace jT
noncomputable def r:Code:=c6 Tryz.f126
def cZ.g(bN:U→Nat→Nat→Int→Int→V→Prop)(X:Fr)(Z:V):Prop:=aG (X 0) fun S a R=>aV .u64 (X 6) fun b=>aV .i64 (X 8) fun c=>bN S a R b c Z
def cA.t(Y:K)(a:U→Nat→Nat→Int→Int→V→Prop)(S:U)(b R:Nat)(c d:Int)(Z:V):Prop:=
 cond (decide (c > 0)) (cL S b d 1 fun e=>
 cI Z .u64 e fun e=>
 o3 e 0 c fun c kP=>
 cL S b d 1 fun e=>
 aW Z e (.int .u64 c) fun c=>
 a2 (IntKind.i64.wrap (d+1)) fun d=>
 a S b R kP d c) (Y (.tuple #[]) Z)
def cA.g(Y:K)(a:U→Nat→Nat→Int→Int→V→Prop)(X:Fr)(Z:V):Prop:=aG (X 0) fun S b R=>aV .u64 (X 6) fun c=>aV .i64 (X 8) fun d=>cA.t Y a S b R c d Z
theorem cA.ok(Y:K)(a:U→Nat→Nat→Int→Int→V→Prop)(X:Fr)(Z:V)(g:cA.g Y a X Z):den prog E (aS r [W,W,W,x,x]) (aH.then (cZ.g a) (aH.inBlock 2 (aZ E [] Y))) X Z:=
 a8 g fun S a R b g=>bM g fun c d g=>bM g fun e f g=>bO [(0,.slice S a R),(6,.int .u64 c),(8,.int .i64 e)] ⟨b,d,f,trivial⟩ (by kernel_rfl) g
def cZ.t(Y:K):Nat→U→Nat→Nat→Int→Int→V→Prop
 | 0=>fun _ _ _ _ _ _=>False
 | n+1=>fun S a R b c Z=>cA.t Y (cZ.t Y n) S a R b c Z
theorem cZ.ok(Y:K)(X:Fr)(Z:V)(g:cZ.g (fun S a R b c Z=>∃ n,cZ.t Y n S a R b c Z) X Z):den prog E (aS r [W,W,W,x]) (aH.inBlock 2 (aZ E [] Y)) X Z:=by
 obtain⟨S,a,R,d,g⟩:=bQ g
 obtain⟨b,e,g⟩:=bS g
 obtain⟨c,f,g⟩:=bS g
 obtain⟨n,g⟩:=g
 refine e1 (fun n=>cZ.g (cZ.t Y n)) (N:=(aS r [W,W,W,x,x])) (by kernel_rfl) (fun X Z g=>?_) (fun n=>cA.ok Y (cZ.t Y n)) n X Z (k d (bI e (bI f (g))))
 obtain⟨S,a,R,d,g⟩:=bQ g
 obtain⟨b,e,g⟩:=bS g
 obtain⟨c,f,g⟩:=bS g
 exact g
theorem gT.ok(Y:K)(X:Fr)(Z:V)(g:cZ.g (fun S a R b c Z=>∃ n,cZ.t Y n S a R b c Z) X Z):den prog E (aS r [W,W,W]) (aZ E [] Y) X Z:=
 eR (by kernel_rfl) (cZ.ok Y X Z g)
def aC.t(Y:K)(S:U)(a R:Nat)(b:U)(y b:Nat)(b c:Int)(Z:V):Prop:=
 a2 (IntKind.i64.wrap (b+(((y:Nat):Int)))) fun b=>(∃ n,cZ.t Y n S a R c b Z)
def aC.g(Y:K)(X:Fr)(Z:V):Prop:=aG (X 0) fun S a R=>aG (X 1) fun b y c=>aV .i64 (X 2) fun d=>aV .u64 (X 6) fun e=>aC.t Y S a R b y c d e Z
theorem aC.ok(Y:K)(X:Fr)(Z:V)(g:aC.g Y X Z):den prog E (aS r [W,W]) (aZ E [] Y) X Z:=
 a8 g fun S a R b g=>a8 g fun c y d e g=>bM g fun f h g=>bM g fun i j g=>cT 1 (s:=(aS r [W,W,W])) (by kernel_rfl) (gT.ok Y) (bO [(0,.slice S a R),(1,.slice c y d),(2,.int .i64 f),(6,.int .u64 i)] ⟨b,e,h,j,trivial⟩ (by kernel_rfl) g)
def hG.g(bN:U→Nat→Nat→U→Nat→Nat→Int→Int→Int→Int→V→Prop)(X:Fr)(Z:V):Prop:=aG (X 0) fun S a R=>aG (X 1) fun b y c=>aV .i64 (X 2) fun d=>aV .u64 (X 6) fun e=>aV .i64 (X 10) fun f=>aV .i64 (X 11) fun h=>bN S a R b y c d e f h Z
def eL.t(Y:K)(a:U→Nat→Nat→U→Nat→Nat→Int→Int→Int→Int→V→Prop)(S:U)(b R:Nat)(c:U)(y d:Nat)(e f:Int)(g h:Int)(Z:V):Prop:=
 cond (decide (h < g)) (a2 (IntKind.i64.wrap (e+h)) fun i=>
 a2 (IntKind.i64.wrap (e+h)) fun j=>
 cL S b j 1 fun j=>
 cI Z .u64 j fun j=>
 cL c y h 1 fun l=>
 cI Z .u64 l fun l=>
 o3 j l f fun j l=>
 cL S b i 1 fun i=>
 aW Z i (.int .u64 j) fun i=>
 a2 (IntKind.i64.wrap (h+1)) fun h=>
 a S b R c y d e l g h i) (aC.t Y S b R c y d e f Z)
def eL.g(Y:K)(a:U→Nat→Nat→U→Nat→Nat→Int→Int→Int→Int→V→Prop)(X:Fr)(Z:V):Prop:=aG (X 0) fun S b R=>aG (X 1) fun c y d=>aV .i64 (X 2) fun e=>aV .u64 (X 6) fun f=>aV .i64 (X 10) fun h=>aV .i64 (X 11) fun i=>eL.t Y a S b R c y d e f h i Z
theorem eL.ok(Y:K)(a:U→Nat→Nat→U→Nat→Nat→Int→Int→Int→Int→V→Prop)(X:Fr)(Z:V)(g:eL.g Y a X Z):den prog E (aS r [W,x,W,x,x]) (aH.then (hG.g a) (aH.inBlock 0 (aH.then (aC.g Y) (aZ E [] Y)))) X Z:=
 a8 g fun S a R b g=>a8 g fun c y d e g=>bM g fun f h g=>bM g fun i j g=>bM g fun l m g=>bM g fun n t g=>bO [(0,.slice S a R),(1,.slice c y d),(2,.int .i64 f),(6,.int .u64 i),(10,.int .i64 l),(11,.int .i64 n)] ⟨b,e,h,j,m,t,trivial⟩ (by kernel_rfl) g
def hG.t(Y:K):Nat→U→Nat→Nat→U→Nat→Nat→Int→Int→Int→Int→V→Prop
 | 0=>fun _ _ _ _ _ _ _ _ _ _ _=>False
 | n+1=>fun S a R b y c d e f g Z=>eL.t Y (hG.t Y n) S a R b y c d e f g Z
theorem hG.ok(Y:K)(X:Fr)(Z:V)(g:hG.g (fun S a R b y c d e f h Z=>∃ n,hG.t Y n S a R b y c d e f h Z) X Z):den prog E (aS r [W,x,W,x]) (aH.inBlock 0 (aH.then (aC.g Y) (aZ E [] Y))) X Z:=by
 obtain⟨S,a,R,i,g⟩:=bQ g
 obtain⟨b,y,c,j,g⟩:=bQ g
 obtain⟨d,l,g⟩:=bS g
 obtain⟨e,m,g⟩:=bS g
 obtain⟨f,v,g⟩:=bS g
 obtain⟨h,D,g⟩:=bS g
 obtain⟨n,g⟩:=g
 refine e1 (fun n=>hG.g (hG.t Y n)) (N:=(aS r [W,x,W,x,x])) (by kernel_rfl) (fun X Z g=>?_) (fun n=>eL.ok Y (hG.t Y n)) n X Z (k i (k j (bI l (bI m (bI v (bI D (g)))))))
 obtain⟨S,a,R,i,g⟩:=bQ g
 obtain⟨b,y,c,j,g⟩:=bQ g
 obtain⟨d,l,g⟩:=bS g
 obtain⟨e,m,g⟩:=bS g
 obtain⟨f,v,g⟩:=bS g
 obtain⟨h,D,g⟩:=bS g
 exact g
theorem lP.ok(Y:K)(X:Fr)(Z:V)(g:hG.g (fun S a R b y c d e f h Z=>∃ n,hG.t Y n S a R b y c d e f h Z) X Z):den prog E (aS r [W,x,W]) (aH.then (aC.g Y) (aZ E [] Y)) X Z:=
 eR (by kernel_rfl) (hG.ok Y X Z g)
def dD.t(Y:K)(S:U)(a R:Nat)(b:U)(y c:Nat)(d e:Int)(Z:V):Prop:=
 (∃ n,hG.t Y n S a R b y c d e (((y:Nat):Int)) 0 Z)
def dD.g(Y:K)(X:Fr)(Z:V):Prop:=aG (X 0) fun S a R=>aG (X 1) fun b y c=>aV .i64 (X 2) fun d=>aV .u64 (X 6) fun e=>dD.t Y S a R b y c d e Z
theorem dD.ok(Y:K)(X:Fr)(Z:V)(g:dD.g Y X Z):den prog E (aS r [W,x]) (aH.then (aC.g Y) (aZ E [] Y)) X Z:=
 a8 g fun S a R b g=>a8 g fun c y d e g=>bM g fun f h g=>bM g fun i j g=>cT 1 (s:=(aS r [W,x,W])) (by kernel_rfl) (lP.ok Y) (bO [(0,.slice S a R),(1,.slice c y d),(2,.int .i64 f),(6,.int .u64 i)] ⟨b,e,h,j,trivial⟩ (by kernel_rfl) g)
theorem w2.ok(Y:K)(X:Fr)(Z:V)(g:dD.g Y X Z):den prog E (aS r [W]) (aZ E [] Y) X Z:=
 e5 (by kernel_rfl) (aC.ok Y) (dD.ok Y X Z g)
def F.t(Y:K)(S:U)(a R:Nat)(b:U)(y c:Nat)(d:Int)(Z:V):Prop:=
 dD.t Y S a R b y c d 0 Z
def F.g(Y:K)(X:Fr)(Z:V):Prop:=aG (X 0) fun S a R=>aG (X 1) fun b y c=>aV .i64 (X 2) fun d=>F.t Y S a R b y c d Z
theorem F.ok(Y:K)(X:Fr)(Z:V)(g:F.g Y X Z):den prog E r (aZ E [] Y) X Z:=
 a8 g fun S a R b g=>a8 g fun c y d e g=>bM g fun f h g=>cT 1 (s:=(aS r [W])) (by kernel_rfl) (w2.ok Y) (bO [(0,.slice S a R),(1,.slice c y d),(2,.int .i64 f)] ⟨b,e,h,trivial⟩ (by kernel_rfl) g)
def t(S:U)(a R:Nat)(b:U)(y c:Nat)(d:Int)(Z:V)(Y:K):Prop:=F.t Y S a R b y c d Z
theorem ok{S:U}{a:Nat}{R:Nat}{b:U}{y:Nat}{c:Nat}{d:Int}{Z:V}{Y:K}(g:t S a R b y c d Z Y):aF id #[.slice S a R,.slice b y c,.int .i64 d] Z Y:=
 c7 c8 (L:=r) (cY:=[]) Tryz.func126 (by kernel_rfl) (by kernel_rfl) (by kernel_rfl) (args:=[.slice S a R,.slice b y c,.int .i64 d]) (by kernel_rfl) (F.ok Y _ Z (k rfl (k rfl (bI rfl (g)))))
end jT
namespace sD
noncomputable def r:Code:=c6 Tryz.f127
def F.t(Y:K)(S:U)(a R:Nat)(aQ:Int)(Z:V):Prop:=
 cond (decide (aQ≥(((a:Nat):Int)))) (h7 1 S a R none (some (.int .i64 (((a:Nat):Int)))) (some (.int .i64 (((a:Nat):Int)))) fun b c d=>
 aF mK.id #[.slice b c d] Z fun b c=>
 aG b fun b d e=>
 Y (.tuple #[.slice b d e,.slice none 0 0]) c) (h7 1 S a R none (some (.int .i64 aQ)) (some (.int .i64 aQ)) fun b c d=>
 aF mK.id #[.slice b c d] Z fun b c=>
 aG b fun b d e=>
 h7 1 S a R (some (.int .i64 aQ)) (some (.int .i64 (((a:Nat):Int)))) (some (.int .i64 (((a:Nat):Int)))) fun a f g=>
 Y (.tuple #[.slice b d e,.slice a f g]) c)
def F.g(Y:K)(X:Fr)(Z:V):Prop:=aG (X 0) fun S a R=>aV .i64 (X 1) fun aQ=>F.t Y S a R aQ Z
theorem F.ok(Y:K)(X:Fr)(Z:V)(g:F.g Y X Z):den prog E r (aZ E [.tmp 4,.tmp 5] Y) X Z:=
 a8 g fun S a R b g=>bM g fun aQ c g=>bO [(0,.slice S a R),(1,.int .i64 aQ)] ⟨b,c,trivial⟩ (by kernel_rfl) g
def t(S:U)(a R:Nat)(aQ:Int)(Z:V)(Y:K):Prop:=F.t Y S a R aQ Z
theorem ok{S:U}{a:Nat}{R:Nat}{aQ:Int}{Z:V}{Y:K}(g:t S a R aQ Z Y):aF id #[.slice S a R,.int .i64 aQ] Z Y:=
 c7 c8 (L:=r) (cY:=[.tmp 4,.tmp 5]) Tryz.func127 (by kernel_rfl) (by kernel_rfl) (by kernel_rfl) (args:=[.slice S a R,.int .i64 aQ]) (by kernel_rfl) (F.ok Y _ Z (k rfl (bI rfl (g))))
end sD
namespace qJ
noncomputable def r:Code:=c6 Tryz.f128
def aC.t(Y:K)(S:U)(a R:Nat)(b:U)(y c:Nat)(Z:V):Prop:=
 a2 (IntKind.i64.wrap ((((a:Nat):Int))+1)) fun d=>
 h8 Z 27 j9 d d fun e f=>
 mW f 1 (some e) d.toNat (.slice S a R) fun a a=>
 aF jT.id #[.slice (some e) d.toNat d.toNat,.slice b y c,.int .i64 0] a fun a b=>
 c0 a fun a=>
 bC a <| aF mK.id #[.slice (some e) d.toNat d.toNat] b fun a b=>
 aG a fun a c d=>
 Y (.slice a c d) b
def aC.g(Y:K)(X:Fr)(Z:V):Prop:=aG (X 0) fun S a R=>aG (X 1) fun b y c=>aC.t Y S a R b y c Z
theorem aC.ok(Y:K)(X:Fr)(Z:V)(g:aC.g Y X Z):den prog E (aS r [W,W]) (aZ E [.tmp 4] Y) X Z:=
 a8 g fun S a R b g=>a8 g fun c y d e g=>bO [(0,.slice S a R),(1,.slice c y d)] ⟨b,e,trivial⟩ (by kernel_rfl) g
def F.t(Y:K)(S:U)(a R:Nat)(b:U)(y c:Nat)(Z:V):Prop:=
 cond (decide ((((a:Nat):Int)) < (((y:Nat):Int)))) (aC.t Y b y c S a R Z) (aC.t Y S a R b y c Z)
def F.g(Y:K)(X:Fr)(Z:V):Prop:=aG (X 0) fun S a R=>aG (X 1) fun b y c=>F.t Y S a R b y c Z
theorem F.ok(Y:K)(X:Fr)(Z:V)(g:F.g Y X Z):den prog E r (aZ E [.tmp 4] Y) X Z:=
 a8 g fun S a R b g=>a8 g fun c y d e g=>cT 2 (s:=(aS r [W,W])) (by kernel_rfl) (aC.ok Y) (bO [(0,.slice S a R),(1,.slice c y d)] ⟨b,e,trivial⟩ (by kernel_rfl) g)
def t(S:U)(a R:Nat)(b:U)(y c:Nat)(Z:V)(Y:K):Prop:=F.t Y S a R b y c Z
theorem ok{S:U}{a:Nat}{R:Nat}{b:U}{y:Nat}{c:Nat}{Z:V}{Y:K}(g:t S a R b y c Z Y):aF id #[.slice S a R,.slice b y c] Z Y:=
 c7 c8 (L:=r) (cY:=[.tmp 4]) Tryz.func128 (by kernel_rfl) (by kernel_rfl) (by kernel_rfl) (args:=[.slice S a R,.slice b y c]) (by kernel_rfl) (F.ok Y _ Z (k rfl (k rfl (g))))
end qJ
namespace kC
noncomputable def r:Code:=c6 Tryz.f129
def cZ.g(bN:U→Nat→Nat→Int→Int→V→Prop)(X:Fr)(Z:V):Prop:=aG (X 0) fun S a R=>aV .u64 (X 4) fun b=>aV .i64 (X 6) fun c=>bN S a R b c Z
def cA.t(Y:K)(a:U→Nat→Nat→Int→Int→V→Prop)(S:U)(b R:Nat)(c d:Int)(Z:V):Prop:=
 cond (decide (c > 0)) (cL S b d 1 fun e=>
 cI Z .u64 e fun e=>
 rT e 0 c fun c gS=>
 cL S b d 1 fun e=>
 aW Z e (.int .u64 c) fun c=>
 a2 (IntKind.i64.wrap (d+1)) fun d=>
 a S b R gS d c) (Y (.tuple #[]) Z)
def cA.g(Y:K)(a:U→Nat→Nat→Int→Int→V→Prop)(X:Fr)(Z:V):Prop:=aG (X 0) fun S b R=>aV .u64 (X 4) fun c=>aV .i64 (X 6) fun d=>cA.t Y a S b R c d Z
theorem cA.ok(Y:K)(a:U→Nat→Nat→Int→Int→V→Prop)(X:Fr)(Z:V)(g:cA.g Y a X Z):den prog E (aS r [W,W,W,x,x]) (aH.then (cZ.g a) (aH.inBlock 2 (aZ E [] Y))) X Z:=
 a8 g fun S a R b g=>bM g fun c d g=>bM g fun e f g=>bO [(0,.slice S a R),(4,.int .u64 c),(6,.int .i64 e)] ⟨b,d,f,trivial⟩ (by kernel_rfl) g
def cZ.t(Y:K):Nat→U→Nat→Nat→Int→Int→V→Prop
 | 0=>fun _ _ _ _ _ _=>False
 | n+1=>fun S a R b c Z=>cA.t Y (cZ.t Y n) S a R b c Z
theorem cZ.ok(Y:K)(X:Fr)(Z:V)(g:cZ.g (fun S a R b c Z=>∃ n,cZ.t Y n S a R b c Z) X Z):den prog E (aS r [W,W,W,x]) (aH.inBlock 2 (aZ E [] Y)) X Z:=by
 obtain⟨S,a,R,d,g⟩:=bQ g
 obtain⟨b,e,g⟩:=bS g
 obtain⟨c,f,g⟩:=bS g
 obtain⟨n,g⟩:=g
 refine e1 (fun n=>cZ.g (cZ.t Y n)) (N:=(aS r [W,W,W,x,x])) (by kernel_rfl) (fun X Z g=>?_) (fun n=>cA.ok Y (cZ.t Y n)) n X Z (k d (bI e (bI f (g))))
 obtain⟨S,a,R,d,g⟩:=bQ g
 obtain⟨b,e,g⟩:=bS g
 obtain⟨c,f,g⟩:=bS g
 exact g
theorem gT.ok(Y:K)(X:Fr)(Z:V)(g:cZ.g (fun S a R b c Z=>∃ n,cZ.t Y n S a R b c Z) X Z):den prog E (aS r [W,W,W]) (aZ E [] Y) X Z:=
 eR (by kernel_rfl) (cZ.ok Y X Z g)
def aC.t(Y:K)(S:U)(a R:Nat)(b:U)(y b:Nat)(b:Int)(Z:V):Prop:=
 (∃ n,cZ.t Y n S a R b (((y:Nat):Int)) Z)
def aC.g(Y:K)(X:Fr)(Z:V):Prop:=aG (X 0) fun S a R=>aG (X 1) fun b y c=>aV .u64 (X 4) fun d=>aC.t Y S a R b y c d Z
theorem aC.ok(Y:K)(X:Fr)(Z:V)(g:aC.g Y X Z):den prog E (aS r [W,W]) (aZ E [] Y) X Z:=
 a8 g fun S a R b g=>a8 g fun c y d e g=>bM g fun f h g=>cT 1 (s:=(aS r [W,W,W])) (by kernel_rfl) (gT.ok Y) (bO [(0,.slice S a R),(1,.slice c y d),(4,.int .u64 f)] ⟨b,e,h,trivial⟩ (by kernel_rfl) g)
def hG.g(bN:U→Nat→Nat→U→Nat→Nat→Int→Int→Int→V→Prop)(X:Fr)(Z:V):Prop:=aG (X 0) fun S a R=>aG (X 1) fun b y c=>aV .u64 (X 4) fun d=>aV .i64 (X 8) fun e=>aV .i64 (X 9) fun f=>bN S a R b y c d e f Z
def eL.t(Y:K)(a:U→Nat→Nat→U→Nat→Nat→Int→Int→Int→V→Prop)(S:U)(b R:Nat)(c:U)(y d:Nat)(e f g:Int)(Z:V):Prop:=
 cond (decide (g < f)) (cL S b g 1 fun h=>
 cI Z .u64 h fun h=>
 cL c y g 1 fun i=>
 cI Z .u64 i fun i=>
 rT h i e fun h i=>
 cL S b g 1 fun j=>
 aW Z j (.int .u64 h) fun h=>
 a2 (IntKind.i64.wrap (g+1)) fun g=>
 a S b R c y d i f g h) (aC.t Y S b R c y d e Z)
def eL.g(Y:K)(a:U→Nat→Nat→U→Nat→Nat→Int→Int→Int→V→Prop)(X:Fr)(Z:V):Prop:=aG (X 0) fun S b R=>aG (X 1) fun c y d=>aV .u64 (X 4) fun e=>aV .i64 (X 8) fun f=>aV .i64 (X 9) fun h=>eL.t Y a S b R c y d e f h Z
theorem eL.ok(Y:K)(a:U→Nat→Nat→U→Nat→Nat→Int→Int→Int→V→Prop)(X:Fr)(Z:V)(g:eL.g Y a X Z):den prog E (aS r [W,x,W,x,x]) (aH.then (hG.g a) (aH.inBlock 0 (aH.then (aC.g Y) (aZ E [] Y)))) X Z:=
 a8 g fun S a R b g=>a8 g fun c y d e g=>bM g fun f h g=>bM g fun i j g=>bM g fun l m g=>bO [(0,.slice S a R),(1,.slice c y d),(4,.int .u64 f),(8,.int .i64 i),(9,.int .i64 l)] ⟨b,e,h,j,m,trivial⟩ (by kernel_rfl) g
def hG.t(Y:K):Nat→U→Nat→Nat→U→Nat→Nat→Int→Int→Int→V→Prop
 | 0=>fun _ _ _ _ _ _ _ _ _ _=>False
 | n+1=>fun S a R b y c d e f Z=>eL.t Y (hG.t Y n) S a R b y c d e f Z
theorem hG.ok(Y:K)(X:Fr)(Z:V)(g:hG.g (fun S a R b y c d e f Z=>∃ n,hG.t Y n S a R b y c d e f Z) X Z):den prog E (aS r [W,x,W,x]) (aH.inBlock 0 (aH.then (aC.g Y) (aZ E [] Y))) X Z:=by
 obtain⟨S,a,R,h,g⟩:=bQ g
 obtain⟨b,y,c,i,g⟩:=bQ g
 obtain⟨d,j,g⟩:=bS g
 obtain⟨e,l,g⟩:=bS g
 obtain⟨f,m,g⟩:=bS g
 obtain⟨n,g⟩:=g
 refine e1 (fun n=>hG.g (hG.t Y n)) (N:=(aS r [W,x,W,x,x])) (by kernel_rfl) (fun X Z g=>?_) (fun n=>eL.ok Y (hG.t Y n)) n X Z (k h (k i (bI j (bI l (bI m (g))))))
 obtain⟨S,a,R,h,g⟩:=bQ g
 obtain⟨b,y,c,i,g⟩:=bQ g
 obtain⟨d,j,g⟩:=bS g
 obtain⟨e,l,g⟩:=bS g
 obtain⟨f,m,g⟩:=bS g
 exact g
theorem lP.ok(Y:K)(X:Fr)(Z:V)(g:hG.g (fun S a R b y c d e f Z=>∃ n,hG.t Y n S a R b y c d e f Z) X Z):den prog E (aS r [W,x,W]) (aH.then (aC.g Y) (aZ E [] Y)) X Z:=
 eR (by kernel_rfl) (hG.ok Y X Z g)
def dD.t(Y:K)(S:U)(a R:Nat)(b:U)(y c:Nat)(d:Int)(Z:V):Prop:=
 (∃ n,hG.t Y n S a R b y c d (((y:Nat):Int)) 0 Z)
def dD.g(Y:K)(X:Fr)(Z:V):Prop:=aG (X 0) fun S a R=>aG (X 1) fun b y c=>aV .u64 (X 4) fun d=>dD.t Y S a R b y c d Z
theorem dD.ok(Y:K)(X:Fr)(Z:V)(g:dD.g Y X Z):den prog E (aS r [W,x]) (aH.then (aC.g Y) (aZ E [] Y)) X Z:=
 a8 g fun S a R b g=>a8 g fun c y d e g=>bM g fun f h g=>cT 1 (s:=(aS r [W,x,W])) (by kernel_rfl) (lP.ok Y) (bO [(0,.slice S a R),(1,.slice c y d),(4,.int .u64 f)] ⟨b,e,h,trivial⟩ (by kernel_rfl) g)
theorem w2.ok(Y:K)(X:Fr)(Z:V)(g:dD.g Y X Z):den prog E (aS r [W]) (aZ E [] Y) X Z:=
 e5 (by kernel_rfl) (aC.ok Y) (dD.ok Y X Z g)
def F.t(Y:K)(S:U)(a R:Nat)(b:U)(y c:Nat)(Z:V):Prop:=
 dD.t Y S a R b y c 0 Z
def F.g(Y:K)(X:Fr)(Z:V):Prop:=aG (X 0) fun S a R=>aG (X 1) fun b y c=>F.t Y S a R b y c Z
theorem F.ok(Y:K)(X:Fr)(Z:V)(g:F.g Y X Z):den prog E r (aZ E [] Y) X Z:=
 a8 g fun S a R b g=>a8 g fun c y d e g=>cT 1 (s:=(aS r [W])) (by kernel_rfl) (w2.ok Y) (bO [(0,.slice S a R),(1,.slice c y d)] ⟨b,e,trivial⟩ (by kernel_rfl) g)
def t(S:U)(a R:Nat)(b:U)(y c:Nat)(Z:V)(Y:K):Prop:=F.t Y S a R b y c Z
theorem ok{S:U}{a:Nat}{R:Nat}{b:U}{y:Nat}{c:Nat}{Z:V}{Y:K}(g:t S a R b y c Z Y):aF id #[.slice S a R,.slice b y c] Z Y:=
 c7 c8 (L:=r) (cY:=[]) Tryz.func129 (by kernel_rfl) (by kernel_rfl) (by kernel_rfl) (args:=[.slice S a R,.slice b y c]) (by kernel_rfl) (F.ok Y _ Z (k rfl (k rfl (g))))
end kC
namespace hJ
noncomputable def r:Code:=c6 Tryz.f130
def aC.t(Y:K)(a:Int)(Z:V):Prop:=
 a2 (IntKind.u32.wrap a) fun a=>Y (.int .u32 a) Z
def aC.g(Y:K)(X:Fr)(Z:V):Prop:=aV .u64 (X 7) fun a=>aC.t Y a Z
theorem aC.ok(Y:K)(X:Fr)(Z:V)(g:aC.g Y X Z):den prog E (aS r [W,W,W,W,W,W,W]) (aZ E [.tmp 4] Y) X Z:=
 bM g fun a b g=>bO [(7,.int .u64 a)] ⟨b,trivial⟩ (by kernel_rfl) g
def cZ.g(bN:U→Nat→Nat→U→Nat→Nat→Int→Int→Int→V→Prop)(X:Fr)(Z:V):Prop:=aG (X 0) fun S a R=>aG (X 1) fun b y c=>aV .i64 (X 5) fun d=>aV .u64 (X 7) fun e=>aV .u64 (X 9) fun f=>bN S a R b y c d e f Z
def dD.t(Y:K)(a:U→Nat→Nat→U→Nat→Nat→Int→Int→Int→V→Prop)(S:U)(b R:Nat)(c:U)(y d:Nat)(e f:Int)(g h:Int)(Z:V):Prop:=
 a2 (IntKind.u64.wrap (h - (if g < h then g else h))) fun g=>a S b R c y d e f g Z
def dD.g(Y:K)(a:U→Nat→Nat→U→Nat→Nat→Int→Int→Int→V→Prop)(X:Fr)(Z:V):Prop:=aG (X 0) fun S b R=>aG (X 1) fun c y d=>aV .i64 (X 5) fun e=>aV .u64 (X 7) fun f=>aV .u64 (X 8) fun h=>aV .u64 (X 9) fun i=>dD.t Y a S b R c y d e f h i Z
theorem dD.ok(Y:K)(a:U→Nat→Nat→U→Nat→Nat→Int→Int→Int→V→Prop)(X:Fr)(Z:V)(g:dD.g Y a X Z):den prog E (aS r [W,W,W,W,W,W,x,x,x,W,x,W,W,W]) (aH.inBlock 3 (aH.then (cZ.g a) (aH.inBlock 2 (aH.then (aC.g Y) (aZ E [.tmp 4] Y))))) X Z:=
 a8 g fun S a R b g=>a8 g fun c y d e g=>bM g fun f h g=>bM g fun i j g=>bM g fun l m g=>bM g fun n t g=>bO [(0,.slice S a R),(1,.slice c y d),(5,.int .i64 f),(7,.int .u64 i),(8,.int .u64 l),(9,.int .u64 n)] ⟨b,e,h,j,m,t,trivial⟩ (by kernel_rfl) g
def hF.g(bN:U→Nat→Nat→U→Nat→Nat→Int→Int→Int→Int→Int→V→Prop)(X:Fr)(Z:V):Prop:=aG (X 0) fun S a R=>aG (X 1) fun b y c=>aV .i64 (X 5) fun d=>aV .u64 (X 7) fun e=>aV .u64 (X 8) fun f=>aV .u64 (X 9) fun h=>aV .i64 (X 13) fun i=>bN S a R b y c d e f h i Z
def gJ.t(Y:K)(a:U→Nat→Nat→U→Nat→Nat→Int→Int→Int→V→Prop)(b:U→Nat→Nat→U→Nat→Nat→Int→Int→Int→Int→Int→V→Prop)(S:U)(c R:Nat)(d:U)(y e:Nat)(f g:Int)(h i j:Int)(Z:V):Prop:=
 cond (decide (j≤f)) (cL S c j 1 fun l=>
 cI Z .u32 l fun l=>
 a2 (IntKind.u64.wrap l) fun l=>
 a2 (IntKind.u64.wrap (h+l)) fun l=>
 cond (decide (j < f)) (cL d y j 1 fun m=>
 cI Z .u32 m fun m=>
 a2 (IntKind.u64.wrap m) fun m=>
 a2 (IntKind.u64.wrap (l+m)) fun m=>
 a2 (iG .u64 m 4294967295) fun n=>
 a2 (IntKind.u32.wrap n) fun n=>
 cL S c j 1 fun v=>
 aW Z v (.int .u32 n) fun n=>
 0≤(32:Int)∧a2 (gL .u64 m 32) fun m=>
 a2 (IntKind.i64.wrap (j+1)) fun v=>
 b S c R d y e f g m i v n) (a2 (iG .u64 l 4294967295) fun m=>
 a2 (IntKind.u32.wrap m) fun m=>
 cL S c j 1 fun n=>
 aW Z n (.int .u32 m) fun m=>
 0≤(32:Int)∧a2 (gL .u64 l 32) fun l=>
 a2 (IntKind.i64.wrap (j+1)) fun j=>
 b S c R d y e f g l i j m)) (dD.t Y a S c R d y e f g h i Z)
def gJ.g(Y:K)(a:U→Nat→Nat→U→Nat→Nat→Int→Int→Int→V→Prop)(b:U→Nat→Nat→U→Nat→Nat→Int→Int→Int→Int→Int→V→Prop)(X:Fr)(Z:V):Prop:=aG (X 0) fun S c R=>aG (X 1) fun d y e=>aV .i64 (X 5) fun f=>aV .u64 (X 7) fun h=>aV .u64 (X 8) fun i=>aV .u64 (X 9) fun j=>aV .i64 (X 13) fun l=>gJ.t Y a b S c R d y e f h i j l Z
theorem gJ.ok(Y:K)(a:U→Nat→Nat→U→Nat→Nat→Int→Int→Int→V→Prop)(b:U→Nat→Nat→U→Nat→Nat→Int→Int→Int→Int→Int→V→Prop)(X:Fr)(Z:V)(g:gJ.g Y a b X Z):den prog E (aS r [W,W,W,W,W,W,x,x,x,W,x,W,W,x,W,x,x]) (aH.then (hF.g b) (aH.inBlock 4 (aH.then (dD.g Y a) (aH.inBlock 3 (aH.then (cZ.g a) (aH.inBlock 2 (aH.then (aC.g Y) (aZ E [.tmp 4] Y)))))))) X Z:=
 a8 g fun S a R b g=>a8 g fun c y d e g=>bM g fun f h g=>bM g fun i j g=>bM g fun l m g=>bM g fun n t g=>bM g fun v D g=>bO [(0,.slice S a R),(1,.slice c y d),(5,.int .i64 f),(7,.int .u64 i),(8,.int .u64 l),(9,.int .u64 n),(13,.int .i64 v)] ⟨b,e,h,j,m,t,D,trivial⟩ (by kernel_rfl) g
def hF.t(Y:K)(a:U→Nat→Nat→U→Nat→Nat→Int→Int→Int→V→Prop):Nat→U→Nat→Nat→U→Nat→Nat→Int→Int→Int→Int→Int→V→Prop
 | 0=>fun _ _ _ _ _ _ _ _ _ _ _ _=>False
 | n+1=>fun S b R c y d e f g h i Z=>gJ.t Y a (hF.t Y a n) S b R c y d e f g h i Z
theorem hF.ok(Y:K)(a:U→Nat→Nat→U→Nat→Nat→Int→Int→Int→V→Prop)(X:Fr)(Z:V)(g:hF.g (fun S b R c y d e f h i j Z=>∃ n,hF.t Y a n S b R c y d e f h i j Z) X Z):den prog E (aS r [W,W,W,W,W,W,x,x,x,W,x,W,W,x,W,x]) (aH.inBlock 4 (aH.then (dD.g Y a) (aH.inBlock 3 (aH.then (cZ.g a) (aH.inBlock 2 (aH.then (aC.g Y) (aZ E [.tmp 4] Y))))))) X Z:=by
 obtain⟨S,b,R,l,g⟩:=bQ g
 obtain⟨c,y,d,m,g⟩:=bQ g
 obtain⟨e,v,g⟩:=bS g
 obtain⟨f,D,g⟩:=bS g
 obtain⟨h,G,g⟩:=bS g
 obtain⟨i,H,g⟩:=bS g
 obtain⟨j,P,g⟩:=bS g
 obtain⟨n,g⟩:=g
 refine e1 (fun n=>hF.g (hF.t Y a n)) (N:=(aS r [W,W,W,W,W,W,x,x,x,W,x,W,W,x,W,x,x])) (by kernel_rfl) (fun X Z g=>?_) (fun n=>gJ.ok Y a (hF.t Y a n)) n X Z (k l (k m (bI v (bI D (bI G (bI H (bI P (g))))))))
 obtain⟨S,b,R,l,g⟩:=bQ g
 obtain⟨c,y,d,m,g⟩:=bQ g
 obtain⟨e,v,g⟩:=bS g
 obtain⟨f,D,g⟩:=bS g
 obtain⟨h,G,g⟩:=bS g
 obtain⟨i,H,g⟩:=bS g
 obtain⟨j,P,g⟩:=bS g
 exact g
theorem Bg.ok(Y:K)(a:U→Nat→Nat→U→Nat→Nat→Int→Int→Int→V→Prop)(X:Fr)(Z:V)(g:hF.g (fun S b R c y d e f h i j Z=>∃ n,hF.t Y a n S b R c y d e f h i j Z) X Z):den prog E (aS r [W,W,W,W,W,W,x,x,x,W,x,W,W,x,W]) (aH.then (dD.g Y a) (aH.inBlock 3 (aH.then (cZ.g a) (aH.inBlock 2 (aH.then (aC.g Y) (aZ E [.tmp 4] Y)))))) X Z:=
 eR (by kernel_rfl) (hF.ok Y a X Z g)
def eC.t(Y:K)(a:U→Nat→Nat→U→Nat→Nat→Int→Int→Int→V→Prop)(S:U)(b R:Nat)(c:U)(y d:Nat)(e f:Int)(g h:Int)(Z:V):Prop:=
 (∃ n,hF.t Y a n S b R c y d e f g h 0 Z)
def eC.g(Y:K)(a:U→Nat→Nat→U→Nat→Nat→Int→Int→Int→V→Prop)(X:Fr)(Z:V):Prop:=aG (X 0) fun S b R=>aG (X 1) fun c y d=>aV .i64 (X 5) fun e=>aV .u64 (X 7) fun f=>aV .u64 (X 8) fun h=>aV .u64 (X 9) fun i=>eC.t Y a S b R c y d e f h i Z
theorem eC.ok(Y:K)(a:U→Nat→Nat→U→Nat→Nat→Int→Int→Int→V→Prop)(X:Fr)(Z:V)(g:eC.g Y a X Z):den prog E (aS r [W,W,W,W,W,W,x,x,x,W,x,W,W,x]) (aH.then (dD.g Y a) (aH.inBlock 3 (aH.then (cZ.g a) (aH.inBlock 2 (aH.then (aC.g Y) (aZ E [.tmp 4] Y)))))) X Z:=
 a8 g fun S b R c g=>a8 g fun d y e f g=>bM g fun h i g=>bM g fun j l g=>bM g fun m n g=>bM g fun t v g=>cT 1 (s:=(aS r [W,W,W,W,W,W,x,x,x,W,x,W,W,x,W])) (by kernel_rfl) (Bg.ok Y a) (bO [(0,.slice S b R),(1,.slice d y e),(5,.int .i64 h),(7,.int .u64 j),(8,.int .u64 m),(9,.int .u64 t)] ⟨c,f,i,l,n,v,trivial⟩ (by kernel_rfl) g)
theorem Bh.ok(Y:K)(a:U→Nat→Nat→U→Nat→Nat→Int→Int→Int→V→Prop)(X:Fr)(Z:V)(g:eC.g Y a X Z):den prog E (aS r [W,W,W,W,W,W,x,x,x,W,x,W,W]) (aH.inBlock 3 (aH.then (cZ.g a) (aH.inBlock 2 (aH.then (aC.g Y) (aZ E [.tmp 4] Y))))) X Z:=
 e5 (by kernel_rfl) (dD.ok Y a) (eC.ok Y a X Z g)
def b0.t(Y:K)(a:U→Nat→Nat→U→Nat→Nat→Int→Int→Int→V→Prop)(S:U)(b R:Nat)(c:U)(y d:Nat)(e f g:Int)(Z:V):Prop:=
 a2 (IntKind.u64.wrap (f - 1)) fun f=>eC.t Y a S b R c y d e f 0 g Z
def b0.g(Y:K)(a:U→Nat→Nat→U→Nat→Nat→Int→Int→Int→V→Prop)(X:Fr)(Z:V):Prop:=aG (X 0) fun S b R=>aG (X 1) fun c y d=>aV .i64 (X 5) fun e=>aV .u64 (X 7) fun f=>aV .u64 (X 9) fun h=>b0.t Y a S b R c y d e f h Z
theorem b0.ok(Y:K)(a:U→Nat→Nat→U→Nat→Nat→Int→Int→Int→V→Prop)(X:Fr)(Z:V)(g:b0.g Y a X Z):den prog E (aS r [W,W,W,W,W,W,x,x,x,W,x]) (aH.inBlock 3 (aH.then (cZ.g a) (aH.inBlock 2 (aH.then (aC.g Y) (aZ E [.tmp 4] Y))))) X Z:=
 a8 g fun S b R c g=>a8 g fun d y e f g=>bM g fun h i g=>bM g fun j l g=>bM g fun m n g=>cT 2 (s:=(aS r [W,W,W,W,W,W,x,x,x,W,x,W,W])) (by kernel_rfl) (Bh.ok Y a) (bO [(0,.slice S b R),(1,.slice d y e),(5,.int .i64 h),(7,.int .u64 j),(9,.int .u64 m)] ⟨c,f,i,l,n,trivial⟩ (by kernel_rfl) g)
theorem pV.ok(Y:K)(a:U→Nat→Nat→U→Nat→Nat→Int→Int→Int→V→Prop)(X:Fr)(Z:V)(g:b0.g Y a X Z):den prog E (aS r [W,W,W,W,W,W,x,x,x,W]) (aH.then (cZ.g a) (aH.inBlock 2 (aH.then (aC.g Y) (aZ E [.tmp 4] Y)))) X Z:=
 eR (by kernel_rfl) (b0.ok Y a X Z g)
def cA.t(Y:K)(a:U→Nat→Nat→U→Nat→Nat→Int→Int→Int→V→Prop)(S:U)(b R:Nat)(c:U)(y d:Nat)(e f g:Int)(Z:V):Prop:=
 cond (decide (g > 0)) (b0.t Y a S b R c y d e f g Z) (aC.t Y f Z)
def cA.g(Y:K)(a:U→Nat→Nat→U→Nat→Nat→Int→Int→Int→V→Prop)(X:Fr)(Z:V):Prop:=aG (X 0) fun S b R=>aG (X 1) fun c y d=>aV .i64 (X 5) fun e=>aV .u64 (X 7) fun f=>aV .u64 (X 9) fun h=>cA.t Y a S b R c y d e f h Z
theorem cA.ok(Y:K)(a:U→Nat→Nat→U→Nat→Nat→Int→Int→Int→V→Prop)(X:Fr)(Z:V)(g:cA.g Y a X Z):den prog E (aS r [W,W,W,W,W,W,x,x,x]) (aH.then (cZ.g a) (aH.inBlock 2 (aH.then (aC.g Y) (aZ E [.tmp 4] Y)))) X Z:=
 a8 g fun S b R c g=>a8 g fun d y e f g=>bM g fun h i g=>bM g fun j l g=>bM g fun m n g=>cT 1 (s:=(aS r [W,W,W,W,W,W,x,x,x,W])) (by kernel_rfl) (pV.ok Y a) (bO [(0,.slice S b R),(1,.slice d y e),(5,.int .i64 h),(7,.int .u64 j),(9,.int .u64 m)] ⟨c,f,i,l,n,trivial⟩ (by kernel_rfl) g)
def cZ.t(Y:K):Nat→U→Nat→Nat→U→Nat→Nat→Int→Int→Int→V→Prop
 | 0=>fun _ _ _ _ _ _ _ _ _ _=>False
 | n+1=>fun S a R b y c d e f Z=>cA.t Y (cZ.t Y n) S a R b y c d e f Z
theorem cZ.ok(Y:K)(X:Fr)(Z:V)(g:cZ.g (fun S a R b y c d e f Z=>∃ n,cZ.t Y n S a R b y c d e f Z) X Z):den prog E (aS r [W,W,W,W,W,W,x,x]) (aH.inBlock 2 (aH.then (aC.g Y) (aZ E [.tmp 4] Y))) X Z:=by
 obtain⟨S,a,R,h,g⟩:=bQ g
 obtain⟨b,y,c,i,g⟩:=bQ g
 obtain⟨d,j,g⟩:=bS g
 obtain⟨e,l,g⟩:=bS g
 obtain⟨f,m,g⟩:=bS g
 obtain⟨n,g⟩:=g
 refine e1 (fun n=>cZ.g (cZ.t Y n)) (N:=(aS r [W,W,W,W,W,W,x,x,x])) (by kernel_rfl) (fun X Z g=>?_) (fun n=>cA.ok Y (cZ.t Y n)) n X Z (k h (k i (bI j (bI l (bI m (g))))))
 obtain⟨S,a,R,h,g⟩:=bQ g
 obtain⟨b,y,c,i,g⟩:=bQ g
 obtain⟨d,j,g⟩:=bS g
 obtain⟨e,l,g⟩:=bS g
 obtain⟨f,m,g⟩:=bS g
 exact g
theorem KX.ok(Y:K)(X:Fr)(Z:V)(g:cZ.g (fun S a R b y c d e f Z=>∃ n,cZ.t Y n S a R b y c d e f Z) X Z):den prog E (aS r [W,W,W,W,W,W,x]) (aH.then (aC.g Y) (aZ E [.tmp 4] Y)) X Z:=
 eR (by kernel_rfl) (cZ.ok Y X Z g)
theorem KY.ok(Y:K)(X:Fr)(Z:V)(g:cZ.g (fun S a R b y c d e f Z=>∃ n,cZ.t Y n S a R b y c d e f Z) X Z):den prog E (aS r [W,W,W,W,W,W]) (aZ E [.tmp 4] Y) X Z:=
 e5 (by kernel_rfl) (aC.ok Y) (KX.ok Y X Z g)
def kX.g(bN:U→Nat→Nat→U→Nat→Nat→Int→Int→Int→Int→Int→V→Prop)(X:Fr)(Z:V):Prop:=aG (X 0) fun S a R=>aG (X 1) fun b y c=>aV .i64 (X 5) fun d=>aV .u64 (X 7) fun e=>aV .u64 (X 8) fun f=>aV .u64 (X 9) fun h=>aV .i64 (X 10) fun i=>bN S a R b y c d e f h i Z
def r2.t(Y:K)(a:U→Nat→Nat→U→Nat→Nat→Int→Int→Int→Int→Int→V→Prop)(S:U)(b R:Nat)(c:U)(y d:Nat)(e f:Int)(g h i:Int)(Z:V):Prop:=
 cond (decide (i≤e)) (cond (decide (i < e)) (cL c y i 1 fun j=>
 cI Z .u32 j fun j=>
 a2 (IntKind.u64.wrap j) fun j=>
 a2 (IntKind.u64.wrap (f*j)) fun j=>
 a2 (IntKind.u64.wrap (g+j)) fun j=>
 a2 (iG .u64 j 4294967295) fun l=>
 a2 (IntKind.u64.wrap (l+h)) fun l=>
 0≤(32:Int)∧a2 (gL .u64 j 32) fun j=>
 cL S b i 1 fun m=>
 cI Z .u32 m fun m=>
 a2 (IntKind.u64.wrap m) fun m=>
 cond (decide (m < l)) (a2 (IntKind.u64.wrap (m+4294967296)) fun v=>
 a2 (IntKind.u64.wrap (v - l)) fun v=>
 a2 (IntKind.u32.wrap v) fun v=>
 cL S b i 1 fun D=>
 aW Z D (.int .u32 v) fun D=>
 a2 (IntKind.i64.wrap (i+1)) fun v=>
 a S b R c y d e f j 1 v D) (a2 (IntKind.u64.wrap (m - l)) fun D=>
 a2 (IntKind.u32.wrap D) fun D=>
 cL S b i 1 fun l=>
 aW Z l (.int .u32 D) fun D=>
 a2 (IntKind.i64.wrap (i+1)) fun l=>
 a S b R c y d e f j 0 l D)) (a2 (iG .u64 g 4294967295) fun D=>
 a2 (IntKind.u64.wrap (D+h)) fun D=>
 0≤(32:Int)∧a2 (gL .u64 g 32) fun g=>
 cL S b i 1 fun j=>
 cI Z .u32 j fun j=>
 a2 (IntKind.u64.wrap j) fun j=>
 cond (decide (j < D)) (a2 (IntKind.u64.wrap (j+4294967296)) fun l=>
 a2 (IntKind.u64.wrap (l - D)) fun l=>
 a2 (IntKind.u32.wrap l) fun l=>
 cL S b i 1 fun m=>
 aW Z m (.int .u32 l) fun l=>
 a2 (IntKind.i64.wrap (i+1)) fun m=>
 a S b R c y d e f g 1 m l) (a2 (IntKind.u64.wrap (j - D)) fun D=>
 a2 (IntKind.u32.wrap D) fun D=>
 cL S b i 1 fun j=>
 aW Z j (.int .u32 D) fun D=>
 a2 (IntKind.i64.wrap (i+1)) fun i=>
 a S b R c y d e f g 0 i D))) ((∃ n,cZ.t Y n S b R c y d e f h Z))
def r2.g(Y:K)(a:U→Nat→Nat→U→Nat→Nat→Int→Int→Int→Int→Int→V→Prop)(X:Fr)(Z:V):Prop:=aG (X 0) fun S b R=>aG (X 1) fun c y d=>aV .i64 (X 5) fun e=>aV .u64 (X 7) fun f=>aV .u64 (X 8) fun h=>aV .u64 (X 9) fun i=>aV .i64 (X 10) fun j=>r2.t Y a S b R c y d e f h i j Z
theorem r2.ok(Y:K)(a:U→Nat→Nat→U→Nat→Nat→Int→Int→Int→Int→Int→V→Prop)(X:Fr)(Z:V)(g:r2.g Y a X Z):den prog E (aS r [W,W,W,W,W,x,W,x,x]) (aH.then (kX.g a) (aH.inBlock 0 (aH.then (cZ.g (fun S a R b y c d e f Z=>∃ n,cZ.t Y n S a R b y c d e f Z)) (aZ E [.tmp 4] Y)))) X Z:=
 a8 g fun S a R h g=>a8 g fun b y c i g=>bM g fun d j g=>bM g fun e l g=>bM g fun m v g=>bM g fun f D g=>bM g fun G H g=>bO [(0,.slice S a R),(1,.slice b y c),(5,.int .i64 d),(7,.int .u64 e),(8,.int .u64 m),(9,.int .u64 f),(10,.int .i64 G)] ⟨h,i,j,l,v,D,H,trivial⟩ (by kernel_rfl) g
def kX.t(Y:K):Nat→U→Nat→Nat→U→Nat→Nat→Int→Int→Int→Int→Int→V→Prop
 | 0=>fun _ _ _ _ _ _ _ _ _ _ _ _=>False
 | n+1=>fun S a R b y c d e f g h Z=>r2.t Y (kX.t Y n) S a R b y c d e f g h Z
theorem kX.ok(Y:K)(X:Fr)(Z:V)(g:kX.g (fun S a R b y c d e h f i Z=>∃ n,kX.t Y n S a R b y c d e h f i Z) X Z):den prog E (aS r [W,W,W,W,W,x,W,x]) (aH.inBlock 0 (aH.then (cZ.g (fun S a R b y c d e f Z=>∃ n,cZ.t Y n S a R b y c d e f Z)) (aZ E [.tmp 4] Y))) X Z:=by
 obtain⟨S,a,R,j,g⟩:=bQ g
 obtain⟨b,y,c,l,g⟩:=bQ g
 obtain⟨d,m,g⟩:=bS g
 obtain⟨e,v,g⟩:=bS g
 obtain⟨h,D,g⟩:=bS g
 obtain⟨f,G,g⟩:=bS g
 obtain⟨i,H,g⟩:=bS g
 obtain⟨n,g⟩:=g
 refine e1 (fun n=>kX.g (kX.t Y n)) (N:=(aS r [W,W,W,W,W,x,W,x,x])) (by kernel_rfl) (fun X Z g=>?_) (fun n=>r2.ok Y (kX.t Y n)) n X Z (k j (k l (bI m (bI v (bI D (bI G (bI H (g))))))))
 obtain⟨S,a,R,j,g⟩:=bQ g
 obtain⟨b,y,c,l,g⟩:=bQ g
 obtain⟨d,m,g⟩:=bS g
 obtain⟨e,v,g⟩:=bS g
 obtain⟨h,D,g⟩:=bS g
 obtain⟨f,G,g⟩:=bS g
 obtain⟨i,H,g⟩:=bS g
 exact g
theorem KZ.ok(Y:K)(X:Fr)(Z:V)(g:kX.g (fun S a R b y c d e f h i Z=>∃ n,kX.t Y n S a R b y c d e f h i Z) X Z):den prog E (aS r [W,W,W,W,W,x,W]) (aH.then (cZ.g (fun S a R b y c d e h Z=>∃ n,cZ.t Y n S a R b y c d e h Z)) (aZ E [.tmp 4] Y)) X Z:=
 eR (by kernel_rfl) (kX.ok Y X Z g)
def lG.t(Y:K)(S:U)(a R:Nat)(b:U)(y c:Nat)(d e:Int)(f g:Int)(Z:V):Prop:=
 (∃ n,kX.t Y n S a R b y c d e f g 0 Z)
def lG.g(Y:K)(X:Fr)(Z:V):Prop:=aG (X 0) fun S a R=>aG (X 1) fun b y c=>aV .i64 (X 5) fun d=>aV .u64 (X 7) fun e=>aV .u64 (X 8) fun f=>aV .u64 (X 9) fun h=>lG.t Y S a R b y c d e f h Z
theorem lG.ok(Y:K)(X:Fr)(Z:V)(g:lG.g Y X Z):den prog E (aS r [W,W,W,W,W,x]) (aH.then (cZ.g (fun S a R b y c d e f Z=>∃ n,cZ.t Y n S a R b y c d e f Z)) (aZ E [.tmp 4] Y)) X Z:=
 a8 g fun S a R h g=>a8 g fun b y c i g=>bM g fun d j g=>bM g fun e l g=>bM g fun m v g=>bM g fun f D g=>cT 1 (s:=(aS r [W,W,W,W,W,x,W])) (by kernel_rfl) (KZ.ok Y) (bO [(0,.slice S a R),(1,.slice b y c),(5,.int .i64 d),(7,.int .u64 e),(8,.int .u64 m),(9,.int .u64 f)] ⟨h,i,j,l,v,D,trivial⟩ (by kernel_rfl) g)
theorem K0.ok(Y:K)(X:Fr)(Z:V)(g:lG.g Y X Z):den prog E (aS r [W,W,W,W,W]) (aZ E [.tmp 4] Y) X Z:=
 e5 (by kernel_rfl) (KY.ok Y) (lG.ok Y X Z g)
def F.t(Y:K)(S:U)(a R:Nat)(b:U)(y c:Nat)(Z:V):Prop:=
 cL S a (((y:Nat):Int)) 1 fun d=>
 cI Z .u32 d fun d=>
 a2 (IntKind.u64.wrap d) fun d=>
 0≤(32:Int)∧a2 (jM .u64 d 32) fun d=>
 a2 (IntKind.i64.wrap ((((y:Nat):Int)) - 1)) fun e=>
 cL S a e 1 fun e=>
 cI Z .u32 e fun e=>
 a2 (IntKind.u64.wrap e) fun e=>
 a2 (IntKind.u64.wrap (d+e)) fun d=>
 a2 (IntKind.i64.wrap ((((y:Nat):Int)) - 1)) fun e=>
 cL b y e 1 fun e=>
 cI Z .u32 e fun e=>
 a2 (IntKind.u64.wrap e) fun e=>
 e ≠ 0∧a2 (IntKind.u64.wrap (Int.tdiv d e)) fun d=>
 lG.t Y S a R b y c (((y:Nat):Int)) (if 4294967295 < d then 4294967295 else d) 0 0 Z
def F.g(Y:K)(X:Fr)(Z:V):Prop:=aG (X 0) fun S a R=>aG (X 1) fun b y c=>F.t Y S a R b y c Z
theorem F.ok(Y:K)(X:Fr)(Z:V)(g:F.g Y X Z):den prog E r (aZ E [.tmp 4] Y) X Z:=
 a8 g fun S a R b g=>a8 g fun c y d e g=>cT 5 (s:=(aS r [W,W,W,W,W])) (by kernel_rfl) (K0.ok Y) (bO [(0,.slice S a R),(1,.slice c y d)] ⟨b,e,trivial⟩ (by kernel_rfl) g)
def t(S:U)(a R:Nat)(b:U)(y c:Nat)(Z:V)(Y:K):Prop:=F.t Y S a R b y c Z
theorem ok{S:U}{a:Nat}{R:Nat}{b:U}{y:Nat}{c:Nat}{Z:V}{Y:K}(g:t S a R b y c Z Y):aF id #[.slice S a R,.slice b y c] Z Y:=
 c7 c8 (L:=r) (cY:=[.tmp 4]) Tryz.func130 (by kernel_rfl) (by kernel_rfl) (by kernel_rfl) (args:=[.slice S a R,.slice b y c]) (by kernel_rfl) (F.ok Y _ Z (k rfl (k rfl (g))))
end hJ
namespace pG
noncomputable def r:Code:=c6 Tryz.f131
def aC.t(Y:K)(S:U)(a R:Nat)(aQ:Int)(Z:V):Prop:=
 (32:Int) ≠ 0∧a2 (IntKind.i64.wrap (Int.tdiv aQ 32)) fun b=>
 cL S a b 1 fun a=>
 cI Z .u32 a fun a=>
 (32:Int) ≠ 0∧a2 (Int.tmod aQ 32) fun b=>
 0≤b∧a2 (gL .u32 a b) fun a=>
 a2 (iG .u32 a 1) fun a=>
 a2 (IntKind.i64.wrap a) fun a=>
 Y (.int .i64 a) Z
def aC.g(Y:K)(X:Fr)(Z:V):Prop:=aG (X 0) fun S a R=>aV .i64 (X 1) fun aQ=>aC.t Y S a R aQ Z
theorem aC.ok(Y:K)(X:Fr)(Z:V)(g:aC.g Y X Z):den prog E (aS r [W,W]) (aZ E [.tmp 4] Y) X Z:=
 a8 g fun S a R b g=>bM g fun aQ c g=>bO [(0,.slice S a R),(1,.int .i64 aQ)] ⟨b,c,trivial⟩ (by kernel_rfl) g
def F.t(Y:K)(S:U)(a R:Nat)(aQ:Int)(Z:V):Prop:=
 cond (decide (aQ < 0)) (Y (.int .i64 0) Z) ((32:Int) ≠ 0∧a2 (IntKind.i64.wrap (Int.tdiv aQ 32)) fun b=>
 cond (decide (b≥(((a:Nat):Int)))) (Y (.int .i64 0) Z) (aC.t Y S a R aQ Z))
def F.g(Y:K)(X:Fr)(Z:V):Prop:=aG (X 0) fun S a R=>aV .i64 (X 1) fun aQ=>F.t Y S a R aQ Z
theorem F.ok(Y:K)(X:Fr)(Z:V)(g:F.g Y X Z):den prog E r (aZ E [.tmp 4] Y) X Z:=
 a8 g fun S a R b g=>bM g fun aQ c g=>cT 2 (s:=(aS r [W,W])) (by kernel_rfl) (aC.ok Y) (bO [(0,.slice S a R),(1,.int .i64 aQ)] ⟨b,c,trivial⟩ (by kernel_rfl) g)
def t(S:U)(a R:Nat)(aQ:Int)(Z:V)(Y:K):Prop:=F.t Y S a R aQ Z
theorem ok{S:U}{a:Nat}{R:Nat}{aQ:Int}{Z:V}{Y:K}(g:t S a R aQ Z Y):aF id #[.slice S a R,.int .i64 aQ] Z Y:=
 c7 c8 (L:=r) (cY:=[.tmp 4]) Tryz.func131 (by kernel_rfl) (by kernel_rfl) (by kernel_rfl) (args:=[.slice S a R,.int .i64 aQ]) (by kernel_rfl) (F.ok Y _ Z (k rfl (bI rfl (g))))
end pG
end Go.Proofs.YtllhckjfhefcdaaGreatDoor.G
