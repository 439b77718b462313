import Derived.Test.YtelmicicapbgeaaKE
namespace Go.Proofs.Ytelmicicapbgeaa.G
open Go.Gv
set_option linter.unusedVariables false
set_option maxRecDepth 100000
namespace iJ
noncomputable def q:Code:=c8 Try.f50
def aD.t(Y:J)(Z:V):Prop:=
 Y (.int .i64 0) Z
def aD.g(Y:J)(X:Fr)(Z:V):Prop:=aD.t Y  Z
theorem aD.ok(Y:J)(X:Fr)(Z:V)(g:aD.g Y X Z):den prog E (aP q [W,W,W]) (aX E [.tmp 4] Y) X Z:=
 bH [] trivial (by kernel_rfl) g
def a8.g(a:R→Nat→Nat→R→Nat→Nat→Int→V→Prop)(X:Fr)(Z:V):Prop:=aE (X 0) fun b c d=>aE (X 1) fun e B f=>aC .i64 (X 5) fun h=>a b c d e B f h Z
def bS.t(Y:J)(a:R→Nat→Nat→R→Nat→Nat→Int→V→Prop)(b:R)(c d:Nat)(e:R)(B f:Nat)(g:Int)(Z:V):Prop:=
 cond (decide (g≥0)) (cC b c g 1 fun h=>
 c5 Z .u32 h fun h=>
 cC e B g 1 fun i=>
 c5 Z .u32 i fun i=>
 cond (decide (h < i)) (Y (.int .i64 (-1)) Z) (cC b c g 1 fun h=>
 c5 Z .u32 h fun h=>
 cC e B g 1 fun i=>
 c5 Z .u32 i fun i=>
 cond (decide (h > i)) (Y (.int .i64 1) Z) (aN (IntKind.i64.wrap (g - 1)) fun g=>
 a b c d e B f g Z))) (aD.t Y Z)
def bS.g(Y:J)(a:R→Nat→Nat→R→Nat→Nat→Int→V→Prop)(X:Fr)(Z:V):Prop:=aE (X 0) fun b c d=>aE (X 1) fun e B f=>aC .i64 (X 5) fun h=>bS.t Y a b c d e B f h Z
theorem bS.ok(Y:J)(a:R→Nat→Nat→R→Nat→Nat→Int→V→Prop)(X:Fr)(Z:V)(g:bS.g Y a X Z):den prog E (aP q [W,W,p,W,p,p]) (aM.then (a8.g a) (aM.inBlock 0 (aM.then (aD.g Y) (aX E [.tmp 4] Y)))) X Z:=
 a0 g fun a b c d g=>a0 g fun e B f h g=>aW g fun i j g=>bH [(0,.slice a b c),(1,.slice e B f),(5,.int .i64 i)] ⟨d,h,j,trivial⟩ (by kernel_rfl) g
def a8.t(Y:J):Nat→R→Nat→Nat→R→Nat→Nat→Int→V→Prop
 | 0=>fun _ _ _ _ _ _ _ _=>False
 | n+1=>fun a b c d B e f Z=>bS.t Y (a8.t Y n) a b c d B e f Z
theorem a8.ok(Y:J)(X:Fr)(Z:V)(g:a8.g (fun a b c d B e f Z=>∃ n,a8.t Y n a b c d B e f Z) X Z):den prog E (aP q [W,W,p,W,p]) (aM.inBlock 0 (aM.then (aD.g Y) (aX E [.tmp 4] Y))) X Z:=by
 obtain⟨a,b,c,h,g⟩:=bT g
 obtain⟨d,B,e,i,g⟩:=bT g
 obtain⟨f,j,g⟩:=bC g
 obtain⟨n,g⟩:=g
 refine eZ (fun n=>a8.g (a8.t Y n)) (N:=(aP q [W,W,p,W,p,p])) (by kernel_rfl) (fun X Z g=>?_) (fun n=>bS.ok Y (a8.t Y n)) n X Z (aQ h (aQ i (bJ j (g))))
 obtain⟨a,b,c,h,g⟩:=bT g
 obtain⟨d,B,e,i,g⟩:=bT g
 obtain⟨f,j,g⟩:=bC g
 exact g
theorem gG.ok(Y:J)(X:Fr)(Z:V)(g:a8.g (fun a b c d B e f Z=>∃ n,a8.t Y n a b c d B e f Z) X Z):den prog E (aP q [W,W,p,W]) (aM.then (aD.g Y) (aX E [.tmp 4] Y)) X Z:=
 eN (by kernel_rfl) (a8.ok Y X Z g)
def a4.t(Y:J)(a:R)(b c:Nat)(d:R)(B e:Nat)(Z:V):Prop:=
 aN (IntKind.i64.wrap ((((b:Nat):Int)) - 1)) fun dF=>(∃ n,a8.t Y n a b c d B e dF Z)
def a4.g(Y:J)(X:Fr)(Z:V):Prop:=aE (X 0) fun a b c=>aE (X 1) fun d B e=>a4.t Y a b c d B e Z
theorem a4.ok(Y:J)(X:Fr)(Z:V)(g:a4.g Y X Z):den prog E (aP q [W,W,p]) (aM.then (aD.g Y) (aX E [.tmp 4] Y)) X Z:=
 a0 g fun a b c d g=>a0 g fun e B f h g=>cN 1 (C:=(aP q [W,W,p,W])) (by kernel_rfl) (gG.ok Y) (bH [(0,.slice a b c),(1,.slice e B f)] ⟨d,h,trivial⟩ (by kernel_rfl) g)
theorem gH.ok(Y:J)(X:Fr)(Z:V)(g:a4.g Y X Z):den prog E (aP q [W,W]) (aX E [.tmp 4] Y) X Z:=
 e8 (by kernel_rfl) (aD.ok Y) (a4.ok Y X Z g)
def u.t(Y:J)(a:R)(b c:Nat)(d:R)(B e:Nat)(Z:V):Prop:=
 cond ((((b:Nat):Int)) != (((B:Nat):Int))) (cond (decide ((((b:Nat):Int)) < (((B:Nat):Int)))) (Y (.int .i64 (-1)) Z) (Y (.int .i64 1) Z)) (a4.t Y a b c d B e Z)
def u.g(Y:J)(X:Fr)(Z:V):Prop:=aE (X 0) fun a b c=>aE (X 1) fun d B e=>u.t Y a b c d B e Z
theorem u.ok(Y:J)(X:Fr)(Z:V)(g:u.g Y X Z):den prog E q (aX E [.tmp 4] Y) X Z:=
 a0 g fun a b c d g=>a0 g fun e B f h g=>cN 2 (C:=(aP q [W,W])) (by kernel_rfl) (gH.ok Y) (bH [(0,.slice a b c),(1,.slice e B f)] ⟨d,h,trivial⟩ (by kernel_rfl) g)
def t(a:R)(b c:Nat)(d:R)(B e:Nat)(Z:V)(Y:J):Prop:=u.t Y a b c d B e Z
theorem ok{a:R}{b:Nat}{d:Nat}{e:R}{B:Nat}{f:Nat}{Z:V}{Y:J}(g:t a b d e B f Z Y):aG id #[.slice a b d,.slice e B f] Z Y:=
 c9 dA (c:=q) (c3:=[.tmp 4]) Try.func50 (by kernel_rfl) (by kernel_rfl) (by kernel_rfl) (args:=[.slice a b d,.slice e B f]) (by kernel_rfl) (u.ok Y _ Z (aQ rfl (aQ rfl (g))))
end iJ
namespace hA
noncomputable def q:Code:=c8 Try.f51
def aD.t(Y:J)(a:R)(b c:Nat)(Z:V):Prop:=
 aG fV.id #[.slice a b c] Z fun a b=>
 aE a fun a c d=>
 Y (.slice a c d) b
def aD.g(Y:J)(X:Fr)(Z:V):Prop:=aE (X 5) fun a b c=>aD.t Y a b c Z
theorem aD.ok(Y:J)(X:Fr)(Z:V)(g:aD.g Y X Z):den prog E (aP q [W,W,W,W,W]) (aX E [.tmp 4] Y) X Z:=
 a0 g fun a b c d g=>bH [(5,.slice a b c)] ⟨d,trivial⟩ (by kernel_rfl) g
def a8.g(a:R→Nat→Nat→R→Nat→Nat→R→Nat→Nat→Int→Int→V→Prop)(X:Fr)(Z:V):Prop:=aE (X 0) fun b c d=>aE (X 1) fun e B f=>aE (X 5) fun h i j=>aC .u64 (X 6) fun l=>aC .i64 (X 7) fun aA=>a b c d e B f h i j l aA Z
def bS.t(Y:J)(a:R→Nat→Nat→R→Nat→Nat→R→Nat→Nat→Int→Int→V→Prop)(b:R)(c d:Nat)(e:R)(B f:Nat)(g:R)(h i:Nat)(j aA:Int)(Z:V):Prop:=
 cond (decide (aA < (((c:Nat):Int)))) (cond (decide (aA < (((B:Nat):Int)))) (cC e B aA 1 fun l=>
 c5 Z .u32 l fun l=>
 aN (IntKind.u64.wrap l) fun l=>
 aN (IntKind.u64.wrap (j+l)) fun l=>
 cC b c aA 1 fun m=>
 c5 Z .u32 m fun m=>
 aN (IntKind.u64.wrap m) fun m=>
 cond (decide (m < l)) (aN (IntKind.u64.wrap (m+4294967296)) fun n=>
 aN (IntKind.u64.wrap (n - l)) fun n=>
 aN (IntKind.u32.wrap n) fun n=>
 cU Z 78 [.int .u32 n] fun n v=>
 g2 v 78 gP g h i (.slice (some n) 1 1) fun n v D E=>
 aN (IntKind.i64.wrap (aA+1)) fun G=>
 a b c d e B f n v D 1 G E) (aN (IntKind.u64.wrap (m - l)) fun D=>
 aN (IntKind.u32.wrap D) fun D=>
 cU Z 78 [.int .u32 D] fun D E=>
 g2 E 78 gP g h i (.slice (some D) 1 1) fun D E G l=>
 aN (IntKind.i64.wrap (aA+1)) fun m=>
 a b c d e B f D E G 0 m l)) (cC b c aA 1 fun D=>
 c5 Z .u32 D fun D=>
 aN (IntKind.u64.wrap D) fun D=>
 cond (decide (D < j)) (aN (IntKind.u64.wrap (D+4294967296)) fun E=>
 aN (IntKind.u64.wrap (E - j)) fun E=>
 aN (IntKind.u32.wrap E) fun E=>
 cU Z 78 [.int .u32 E] fun E G=>
 g2 G 78 gP g h i (.slice (some E) 1 1) fun E G l m=>
 aN (IntKind.i64.wrap (aA+1)) fun n=>
 a b c d e B f E G l 1 n m) (aN (IntKind.u64.wrap (D - j)) fun D=>
 aN (IntKind.u32.wrap D) fun D=>
 cU Z 78 [.int .u32 D] fun D E=>
 g2 E 78 gP g h i (.slice (some D) 1 1) fun D E G j=>
 aN (IntKind.i64.wrap (aA+1)) fun l=>
 a b c d e B f D E G 0 l j))) (aD.t Y g h i Z)
def bS.g(Y:J)(a:R→Nat→Nat→R→Nat→Nat→R→Nat→Nat→Int→Int→V→Prop)(X:Fr)(Z:V):Prop:=aE (X 0) fun b c d=>aE (X 1) fun e B f=>aE (X 5) fun h i j=>aC .u64 (X 6) fun l=>aC .i64 (X 7) fun aA=>bS.t Y a b c d e B f h i j l aA Z
theorem bS.ok(Y:J)(a:R→Nat→Nat→R→Nat→Nat→R→Nat→Nat→Int→Int→V→Prop)(X:Fr)(Z:V)(g:bS.g Y a X Z):den prog E (aP q [W,W,W,W,p,W,p,p]) (aM.then (a8.g a) (aM.inBlock 0 (aM.then (aD.g Y) (aX E [.tmp 4] Y)))) X Z:=
 a0 g fun a b c d g=>a0 g fun e B f h g=>a0 g fun i j l m g=>aW g fun n t g=>aW g fun aA v g=>bH [(0,.slice a b c),(1,.slice e B f),(5,.slice i j l),(6,.int .u64 n),(7,.int .i64 aA)] ⟨d,h,m,t,v,trivial⟩ (by kernel_rfl) g
def a8.t(Y:J):Nat→R→Nat→Nat→R→Nat→Nat→R→Nat→Nat→Int→Int→V→Prop
 | 0=>fun _ _ _ _ _ _ _ _ _ _ _ _=>False
 | n+1=>fun a b c d B e f g h i aA Z=>bS.t Y (a8.t Y n) a b c d B e f g h i aA Z
theorem a8.ok(Y:J)(X:Fr)(Z:V)(g:a8.g (fun a b c d B e f h i j aA Z=>∃ n,a8.t Y n a b c d B e f h i j aA Z) X Z):den prog E (aP q [W,W,W,W,p,W,p]) (aM.inBlock 0 (aM.then (aD.g Y) (aX E [.tmp 4] Y))) X Z:=by
 obtain⟨a,b,c,l,g⟩:=bT g
 obtain⟨d,B,e,m,g⟩:=bT g
 obtain⟨f,h,i,v,g⟩:=bT g
 obtain⟨j,D,g⟩:=bC g
 obtain⟨aA,G,g⟩:=bC g
 obtain⟨n,g⟩:=g
 refine eZ (fun n=>a8.g (a8.t Y n)) (N:=(aP q [W,W,W,W,p,W,p,p])) (by kernel_rfl) (fun X Z g=>?_) (fun n=>bS.ok Y (a8.t Y n)) n X Z (aQ l (aQ m (aQ v (bJ D (bJ G (g))))))
 obtain⟨a,b,c,l,g⟩:=bT g
 obtain⟨d,B,e,m,g⟩:=bT g
 obtain⟨f,h,i,v,g⟩:=bT g
 obtain⟨j,D,g⟩:=bC g
 obtain⟨aA,G,g⟩:=bC g
 exact g
theorem gG.ok(Y:J)(X:Fr)(Z:V)(g:a8.g (fun a b c d B e f h i j aA Z=>∃ n,a8.t Y n a b c d B e f h i j aA Z) X Z):den prog E (aP q [W,W,W,W,p,W]) (aM.then (aD.g Y) (aX E [.tmp 4] Y)) X Z:=
 eN (by kernel_rfl) (a8.ok Y X Z g)
def a4.t(Y:J)(a:R)(b c:Nat)(d:R)(B e:Nat)(f:R)(g h:Nat)(i:Int)(Z:V):Prop:=
 (∃ n,a8.t Y n a b c d B e f g h i 0 Z)
def a4.g(Y:J)(X:Fr)(Z:V):Prop:=aE (X 0) fun a b c=>aE (X 1) fun d B e=>aE (X 5) fun f h i=>aC .u64 (X 6) fun j=>a4.t Y a b c d B e f h i j Z
theorem a4.ok(Y:J)(X:Fr)(Z:V)(g:a4.g Y X Z):den prog E (aP q [W,W,W,W,p]) (aM.then (aD.g Y) (aX E [.tmp 4] Y)) X Z:=
 a0 g fun a b c d g=>a0 g fun e B f h g=>a0 g fun i j l m g=>aW g fun n t g=>cN 1 (C:=(aP q [W,W,W,W,p,W])) (by kernel_rfl) (gG.ok Y) (bH [(0,.slice a b c),(1,.slice e B f),(5,.slice i j l),(6,.int .u64 n)] ⟨d,h,m,t,trivial⟩ (by kernel_rfl) g)
theorem gH.ok(Y:J)(X:Fr)(Z:V)(g:a4.g Y X Z):den prog E (aP q [W,W,W,W]) (aX E [.tmp 4] Y) X Z:=
 e8 (by kernel_rfl) (aD.ok Y) (a4.ok Y X Z g)
def u.t(Y:J)(a:R)(b c:Nat)(d:R)(B e:Nat)(Z:V):Prop:=
 aG iJ.id #[.slice a b c,.slice d B e] Z fun f g=>
 aC .i64 f fun f=>
 cond (decide (f≤0)) (aG gV.id #[.int .u64 0] g fun f h=>
 aE f fun f i j=>
 Y (.slice f i j) h) (g1 g 78 gP 0 (((b:Nat):Int)) fun f g=>
 a4.t Y a b c d B e (some f) ((0:Int).toNat) ((((b:Nat):Int)).toNat) 0 g)
def u.g(Y:J)(X:Fr)(Z:V):Prop:=aE (X 0) fun a b c=>aE (X 1) fun d B e=>u.t Y a b c d B e Z
theorem u.ok(Y:J)(X:Fr)(Z:V)(g:u.g Y X Z):den prog E q (aX E [.tmp 4] Y) X Z:=
 a0 g fun a b c d g=>a0 g fun e B f h g=>cN 4 (C:=(aP q [W,W,W,W])) (by kernel_rfl) (gH.ok Y) (bH [(0,.slice a b c),(1,.slice e B f)] ⟨d,h,trivial⟩ (by kernel_rfl) g)
def t(a:R)(b c:Nat)(d:R)(B e:Nat)(Z:V)(Y:J):Prop:=u.t Y a b c d B e Z
theorem ok{a:R}{b:Nat}{d:Nat}{e:R}{B:Nat}{f:Nat}{Z:V}{Y:J}(g:t a b d e B f Z Y):aG id #[.slice a b d,.slice e B f] Z Y:=
 c9 dA (c:=q) (c3:=[.tmp 4]) Try.func51 (by kernel_rfl) (by kernel_rfl) (by kernel_rfl) (args:=[.slice a b d,.slice e B f]) (by kernel_rfl) (u.ok Y _ Z (aQ rfl (aQ rfl (g))))
end hA
namespace kE
noncomputable def q:Code:=c8 Try.f52
def aD.t(Y:J)(a:R)(b c:Nat)(aL:Int)(Z:V):Prop:=
 aN (IntKind.u32.wrap aL) fun d=>
 cU Z 78 [.int .u32 d] fun d e=>
 g2 e 78 gP a b c (.slice (some d) 1 1) fun a b c d=>
 aG fV.id #[.slice a b c] d fun a b=>
 aE a fun a c d=>
 Y (.slice a c d) b
def aD.g(Y:J)(X:Fr)(Z:V):Prop:=aE (X 7) fun a b c=>aC .u64 (X 8) fun aL=>aD.t Y a b c aL Z
theorem aD.ok(Y:J)(X:Fr)(Z:V)(g:aD.g Y X Z):den prog E (aP q [W,W,W,W]) (aX E [.tmp 6] Y) X Z:=
 a0 g fun a b c d g=>aW g fun aL e g=>bH [(7,.slice a b c),(8,.int .u64 aL)] ⟨d,e,trivial⟩ (by kernel_rfl) g
def a8.g(a:R→Nat→Nat→Int→R→Nat→Nat→Int→Int→V→Prop)(X:Fr)(Z:V):Prop:=aE (X 0) fun b c d=>aC .u32 (X 1) fun r=>aE (X 7) fun e f h=>aC .u64 (X 8) fun aL=>aC .i64 (X 9) fun aR=>a b c d r e f h aL aR Z
def bS.t(Y:J)(a:R→Nat→Nat→Int→R→Nat→Nat→Int→Int→V→Prop)(b:R)(c d:Nat)(r:Int)(e:R)(f g:Nat)(aL aR:Int)(Z:V):Prop:=
 cond (decide (aR < (((c:Nat):Int)))) (cC b c aR 1 fun h=>
 c5 Z .u32 h fun h=>
 aN (IntKind.u64.wrap h) fun h=>
 aN (IntKind.u64.wrap r) fun i=>
 aN (IntKind.u64.wrap (h*i)) fun h=>
 aN (IntKind.u64.wrap (aL+h)) fun h=>
 aN (fK .u64 h 4294967295) fun i=>
 aN (IntKind.u32.wrap i) fun i=>
 cU Z 78 [.int .u32 i] fun i j=>
 g2 j 78 gP e f g (.slice (some i) 1 1) fun i j l m=>
 0≤(32:Int)∧aN (fC .u64 h 32) fun h=>
 aN (IntKind.i64.wrap (aR+1)) fun n=>
 a b c d r i j l h n m) (aD.t Y e f g aL Z)
def bS.g(Y:J)(a:R→Nat→Nat→Int→R→Nat→Nat→Int→Int→V→Prop)(X:Fr)(Z:V):Prop:=aE (X 0) fun b c d=>aC .u32 (X 1) fun r=>aE (X 7) fun e f h=>aC .u64 (X 8) fun aL=>aC .i64 (X 9) fun aR=>bS.t Y a b c d r e f h aL aR Z
theorem bS.ok(Y:J)(a:R→Nat→Nat→Int→R→Nat→Nat→Int→Int→V→Prop)(X:Fr)(Z:V)(g:bS.g Y a X Z):den prog E (aP q [W,W,W,p,W,p,p]) (aM.then (a8.g a) (aM.inBlock 0 (aM.then (aD.g Y) (aX E [.tmp 6] Y)))) X Z:=
 a0 g fun a b c d g=>aW g fun r e g=>a0 g fun f h i j g=>aW g fun aL l g=>aW g fun aR m g=>bH [(0,.slice a b c),(1,.int .u32 r),(7,.slice f h i),(8,.int .u64 aL),(9,.int .i64 aR)] ⟨d,e,j,l,m,trivial⟩ (by kernel_rfl) g
def a8.t(Y:J):Nat→R→Nat→Nat→Int→R→Nat→Nat→Int→Int→V→Prop
 | 0=>fun _ _ _ _ _ _ _ _ _ _=>False
 | n+1=>fun a b c r d e f aL aR Z=>bS.t Y (a8.t Y n) a b c r d e f aL aR Z
theorem a8.ok(Y:J)(X:Fr)(Z:V)(g:a8.g (fun a b c r d e f aL aR Z=>∃ n,a8.t Y n a b c r d e f aL aR Z) X Z):den prog E (aP q [W,W,W,p,W,p]) (aM.inBlock 0 (aM.then (aD.g Y) (aX E [.tmp 6] Y))) X Z:=by
 obtain⟨a,b,c,h,g⟩:=bT g
 obtain⟨r,i,g⟩:=bC g
 obtain⟨d,e,f,j,g⟩:=bT g
 obtain⟨aL,l,g⟩:=bC g
 obtain⟨aR,m,g⟩:=bC g
 obtain⟨n,g⟩:=g
 refine eZ (fun n=>a8.g (a8.t Y n)) (N:=(aP q [W,W,W,p,W,p,p])) (by kernel_rfl) (fun X Z g=>?_) (fun n=>bS.ok Y (a8.t Y n)) n X Z (aQ h (bJ i (aQ j (bJ l (bJ m (g))))))
 obtain⟨a,b,c,h,g⟩:=bT g
 obtain⟨r,i,g⟩:=bC g
 obtain⟨d,e,f,j,g⟩:=bT g
 obtain⟨aL,l,g⟩:=bC g
 obtain⟨aR,m,g⟩:=bC g
 exact g
theorem gG.ok(Y:J)(X:Fr)(Z:V)(g:a8.g (fun a b c r d e f aL aR Z=>∃ n,a8.t Y n a b c r d e f aL aR Z) X Z):den prog E (aP q [W,W,W,p,W]) (aM.then (aD.g Y) (aX E [.tmp 6] Y)) X Z:=
 eN (by kernel_rfl) (a8.ok Y X Z g)
def a4.t(Y:J)(a:R)(b c:Nat)(r:Int)(d:R)(e f:Nat)(aL:Int)(Z:V):Prop:=
 (∃ n,a8.t Y n a b c r d e f aL 0 Z)
def a4.g(Y:J)(X:Fr)(Z:V):Prop:=aE (X 0) fun a b c=>aC .u32 (X 1) fun r=>aE (X 7) fun d e f=>aC .u64 (X 8) fun aL=>a4.t Y a b c r d e f aL Z
theorem a4.ok(Y:J)(X:Fr)(Z:V)(g:a4.g Y X Z):den prog E (aP q [W,W,W,p]) (aM.then (aD.g Y) (aX E [.tmp 6] Y)) X Z:=
 a0 g fun a b c d g=>aW g fun r e g=>a0 g fun f h i j g=>aW g fun aL l g=>cN 1 (C:=(aP q [W,W,W,p,W])) (by kernel_rfl) (gG.ok Y) (bH [(0,.slice a b c),(1,.int .u32 r),(7,.slice f h i),(8,.int .u64 aL)] ⟨d,e,j,l,trivial⟩ (by kernel_rfl) g)
theorem gH.ok(Y:J)(X:Fr)(Z:V)(g:a4.g Y X Z):den prog E (aP q [W,W,W]) (aX E [.tmp 6] Y) X Z:=
 e8 (by kernel_rfl) (aD.ok Y) (a4.ok Y X Z g)
def u.t(Y:J)(a:R)(b c:Nat)(r aU:Int)(Z:V):Prop:=
 aN (IntKind.i64.wrap ((((b:Nat):Int))+1)) fun dF=>
 g1 Z 78 gP 0 dF fun d e=>
 aN (IntKind.u64.wrap aU) fun f=>
 a4.t Y a b c r (some d) ((0:Int).toNat) dF.toNat f e
def u.g(Y:J)(X:Fr)(Z:V):Prop:=aE (X 0) fun a b c=>aC .u32 (X 1) fun r=>aC .u32 (X 2) fun aU=>u.t Y a b c r aU Z
theorem u.ok(Y:J)(X:Fr)(Z:V)(g:u.g Y X Z):den prog E q (aX E [.tmp 6] Y) X Z:=
 a0 g fun a b c d g=>aW g fun r e g=>aW g fun aU f g=>cN 3 (C:=(aP q [W,W,W])) (by kernel_rfl) (gH.ok Y) (bH [(0,.slice a b c),(1,.int .u32 r),(2,.int .u32 aU)] ⟨d,e,f,trivial⟩ (by kernel_rfl) g)
def t(a:R)(b c:Nat)(r aU:Int)(Z:V)(Y:J):Prop:=u.t Y a b c r aU Z
theorem ok{a:R}{b:Nat}{d:Nat}{r:Int}{aU:Int}{Z:V}{Y:J}(g:t a b d r aU Z Y):aG id #[.slice a b d,.int .u32 r,.int .u32 aU] Z Y:=
 c9 dA (c:=q) (c3:=[.tmp 6]) Try.func52 (by kernel_rfl) (by kernel_rfl) (by kernel_rfl) (args:=[.slice a b d,.int .u32 r,.int .u32 aU]) (by kernel_rfl) (u.ok Y _ Z (aQ rfl (bJ rfl (bJ rfl (g)))))
end kE
namespace lJ
noncomputable def q:Code:=c8 Try.f53
def u.t(Y:J)(a:Bool)(b:R)(c d:Nat)(e:Bool)(f:R)(g h:Nat)(Z:V):Prop:=
 cU Z 34 [.bool a,.slice b c d] fun a b=>
 cU b 34 [.bool e,.slice f g h] fun b c=>
 cU c 34 eE.aF fun c d=>
 c4 d (a.add 0) fun e=>
 cR d (a.add 1) fun a f g=>
 c4 d (b.add 0) fun h=>
 cR d (b.add 1) fun i j l=>
 aG lH.id #[.agg #[.bool e,.slice a f g],.agg #[.bool h,.slice i j l]] d fun a d=>
 cO a fun a=>
 cL a fun a e=>
 cE a fun a=>
 cX a fun a f=>
 bY f fun f g h i=>
 bG i <| cL e fun e i=>
 cE e fun e=>
 cX e fun e j=>
 bY j fun j l m n=>
 bG n <| bG i <| cU d 34 eE.aF fun d i=>
 cU i 34 eE.aF fun i n=>
 bI n (d.add 0) (.bool a) fun a=>
 bI a (d.add 1) (.slice f g h) fun a=>
 bI a (i.add 0) (.bool e) fun a=>
 bI a (i.add 1) (.slice j l m) fun a=>
 i.block < a.size∧c4 a (i.add 0) fun e=>
 cR a (i.add 1) fun f g h=>
 aG fZ.id #[.agg #[.bool e,.slice f g h],.int .i64 1] a fun e f=>
 cE e fun e=>
 cX e fun e g=>
 bY g fun g h i j=>
 bG j <| (cA a.size a f)∧b.block < a.size∧c4 f (b.add 0) fun j=>
 cR f (b.add 1) fun b l m=>
 aG iA.id #[.agg #[.bool e,.slice g h i],.agg #[.bool j,.slice b l m]] f fun b e=>
 aC .i64 b fun b=>
 (cA a.size f e)∧cond (decide (b > 0)) (d.block < e.size∧c4 e (d.add 0) fun a=>
 cR e (d.add 1) fun f g h=>
 aG hI.id #[.int .i64 1] e fun i j=>
 cE i fun i=>
 cX i fun i l=>
 bY l fun l m n v=>
 bG v <| (cA e.size e j)∧aG hQ.id #[.agg #[.bool a,.slice f g h],.agg #[.bool i,.slice l m n]] j fun a f=>
 cE a fun a=>
 cX a fun a g=>
 bY g fun g h i l=>
 bG l <| (cA e.size j f)∧bI f (c.add 0) (.bool a) fun a=>
 bI a (c.add 1) (.slice g h i) fun a=>
 c4 a (c.add 0) fun f=>
 cR a (c.add 1) fun g h i=>
 Y (.agg #[.bool f,.slice g h i]) a) (cond (b == 0) (c4 e (d.add 0) fun a=>
 cR e (d.add 1) fun b f g=>
 aG lI.id #[.agg #[.bool a,.slice b f g]] e fun a b=>
 eL a fun a=>
 cond (!a) (d.block < b.size∧c4 b (d.add 0) fun a=>
 cR b (d.add 1) fun f g h=>
 aG hI.id #[.int .i64 1] b fun i j=>
 cE i fun i=>
 cX i fun i l=>
 bY l fun l m n v=>
 bG v <| (cA b.size b j)∧aG hQ.id #[.agg #[.bool a,.slice f g h],.agg #[.bool i,.slice l m n]] j fun a f=>
 cE a fun a=>
 cX a fun a g=>
 bY g fun g h i l=>
 bG l <| (cA b.size j f)∧bI f (c.add 0) (.bool a) fun a=>
 bI a (c.add 1) (.slice g h i) fun a=>
 c4 a (c.add 0) fun f=>
 cR a (c.add 1) fun g h i=>
 Y (.agg #[.bool f,.slice g h i]) a) (c4 b (d.add 0) fun a=>
 cR b (d.add 1) fun f g h=>
 bI b (c.add 0) (.bool a) fun a=>
 bI a (c.add 1) (.slice f g h) fun a=>
 c4 a (c.add 0) fun b=>
 cR a (c.add 1) fun f g h=>
 Y (.agg #[.bool b,.slice f g h]) a)) (c4 e (d.add 0) fun a=>
 cR e (d.add 1) fun b d f=>
 bI e (c.add 0) (.bool a) fun a=>
 bI a (c.add 1) (.slice b d f) fun a=>
 c4 a (c.add 0) fun b=>
 cR a (c.add 1) fun c d e=>
 Y (.agg #[.bool b,.slice c d e]) a))
def u.g(Y:J)(X:Fr)(Z:V):Prop:=cE (X 0) fun a=>cL a fun a b=>eL a fun a=>cL b fun b c=>aE b fun b d e=>bG c <| cE (X 1) fun c=>cL c fun c f=>eL c fun c=>cL f fun f h=>aE f fun f i j=>bG h <| u.t Y a b d e c f i j Z
theorem u.ok(Y:J)(X:Fr)(Z:V)(g:u.g Y X Z):den prog E q (aX E [.cell 4 34] Y) X Z:=by
 obtain⟨Ix,a,b⟩:=hG g
 obtain⟨Iy,Iz,rfl,c⟩:=eI b
 obtain⟨d,rfl,e⟩:=g4 c
 obtain⟨IA,IB,rfl,f⟩:=eI e
 obtain⟨h,i,j,rfl,l⟩:=bT f
 obtain⟨rfl,g⟩:=gM l
 obtain⟨IC,m,n⟩:=hG g
 obtain⟨ID,IE,rfl,t⟩:=eI n
 obtain⟨v,rfl,D⟩:=g4 t
 obtain⟨IF,IG,rfl,G⟩:=eI D
 obtain⟨H,P,Iv,rfl,Iw⟩:=bT G
 obtain⟨rfl,g⟩:=gM Iw
 exact bH [(0,.agg #[.bool d,.slice h i j]),(1,.agg #[.bool v,.slice H P Iv])] ⟨a,m,trivial⟩ (by kernel_rfl) g
def t(a:Bool)(b:R)(c d:Nat)(e:Bool)(f:R)(g h:Nat)(Z:V)(Y:J):Prop:=u.t Y a b c d e f g h Z
theorem ok{a:Bool}{b:R}{d:Nat}{e:Nat}{f:Bool}{h:R}{i:Nat}{j:Nat}{Z:V}{Y:J}(g:t a b d e f h i j Z Y):aG id #[.agg #[.bool a,.slice b d e],.agg #[.bool f,.slice h i j]] Z Y:=
 c9 dA (c:=q) (c3:=[.cell 4 34]) Try.func53 (by kernel_rfl) (by kernel_rfl) (by kernel_rfl) (args:=[.agg #[.bool a,.slice b d e],.agg #[.bool f,.slice h i j]]) (by kernel_rfl) (u.ok Y _ Z (cF rfl (a9 (bK rfl (a9 (aQ rfl (b3 (cF rfl (a9 (bK rfl (a9 (aQ rfl (b3 (g))))))))))))))
end lJ
namespace lE
noncomputable def q:Code:=c8 Try.f54
def aD.t(Y:J)(a:R)(b c:Nat)(d:R)(B e:Nat)(Z:V):Prop:=
 cond ((((B:Nat):Int)) == 0) (Y (.tuple #[.slice none 0 0,.slice none 0 0,.int .i64 4]) Z) (aG hC.id #[.slice a b c,.slice d B e] Z fun f g=>
 aC .i64 f fun f=>
 cond (decide (f < 0)) (aG nB.id #[.slice a b c] g fun f h=>
 cO f fun f=>
 bY f fun f i j l=>
 dI l .i64 fun l l=>
 bG l <| Y (.tuple #[.slice none 0 0,.slice f i j,.int .i64 0]) h) (cond ((((B:Nat):Int)) == 1) (cC d B 0 1 fun f=>
 c5 g .u64 f fun f=>
 aG h7.id #[.slice a b c,.int .u64 f] g fun f h=>
 cO f fun f=>
 bY f fun f i j l=>
 dI l .u64 fun l m=>
 dI m .i64 fun m m=>
 bG m <| aG jV.id #[.int .u64 l] h fun h l=>
 aE h fun h m n=>
 Y (.tuple #[.slice f i j,.slice h m n,.int .i64 0]) l) (aN (IntKind.i64.wrap ((((B:Nat):Int)) - 1)) fun f=>
 cC d B f 1 fun f=>
 c5 g .u64 f fun f=>
 aG n5.id #[.int .u64 f] g fun f g=>
 aC .i64 f fun f=>
 aN (IntKind.i64.wrap ((((b:Nat):Int))+1)) fun h=>
 aG jW.id #[.slice a b c,.int .i64 f,.int .i64 h] g fun a b=>
 aE a fun a c g=>
 aG jW.id #[.slice d B e,.int .i64 f,.int .i64 (((B:Nat):Int))] b fun b d=>
 aE b fun b e h=>
 aG g6.id #[.slice a c g,.slice b e h] d fun b d=>
 aE b fun b h i=>
 gT 1 a c g none (some (.int .i64 (((e:Nat):Int)))) none fun a c e=>
 aG nB.id #[.slice a c e] d fun a c=>
 cO a fun a=>
 bY a fun a d e g=>
 dI g .i64 fun g g=>
 bG g <| aG iR.id #[.slice a d e,.int .i64 f] c fun a c=>
 cO a fun a=>
 bY a fun a d e f=>
 dI f .i64 fun f f=>
 bG f <| aG nB.id #[.slice b h i] c fun b c=>
 cO b fun b=>
 bY b fun b f g h=>
 dI h .i64 fun h h=>
 bG h <| Y (.tuple #[.slice b f g,.slice a d e,.int .i64 0]) c)))
def aD.g(Y:J)(X:Fr)(Z:V):Prop:=aE (X 0) fun a b c=>aE (X 1) fun d B e=>aD.t Y a b c d B e Z
theorem aD.ok(Y:J)(X:Fr)(Z:V)(g:aD.g Y X Z):den prog E (aP q [W,W]) (aX E [.tmp 4,.tmp 5,.tmp 6] Y) X Z:=
 a0 g fun a b c d g=>a0 g fun e B f h g=>bH [(0,.slice a b c),(1,.slice e B f)] ⟨d,h,trivial⟩ (by kernel_rfl) g
def u.t(Y:J)(a:R)(b c:Nat)(d:R)(B e:Nat)(Z:V):Prop:=
 aG iG.id #[.slice a b c] Z fun f g=>
 eL f fun f=>
 cond (!f) (Y (.tuple #[.slice none 0 0,.slice none 0 0,.int .i64 2]) g) (aG iG.id #[.slice d B e] g fun f g=>
 eL f fun f=>
 cond (!f) (Y (.tuple #[.slice none 0 0,.slice none 0 0,.int .i64 2]) g) (aD.t Y a b c d B e g))
def u.g(Y:J)(X:Fr)(Z:V):Prop:=aE (X 0) fun a b c=>aE (X 1) fun d B e=>u.t Y a b c d B e Z
theorem u.ok(Y:J)(X:Fr)(Z:V)(g:u.g Y X Z):den prog E q (aX E [.tmp 4,.tmp 5,.tmp 6] Y) X Z:=
 a0 g fun a b c d g=>a0 g fun e B f h g=>cN 2 (C:=(aP q [W,W])) (by kernel_rfl) (aD.ok Y) (bH [(0,.slice a b c),(1,.slice e B f)] ⟨d,h,trivial⟩ (by kernel_rfl) g)
def t(a:R)(b c:Nat)(d:R)(B e:Nat)(Z:V)(Y:J):Prop:=u.t Y a b c d B e Z
theorem ok{a:R}{b:Nat}{d:Nat}{e:R}{B:Nat}{f:Nat}{Z:V}{Y:J}(g:t a b d e B f Z Y):aG id #[.slice a b d,.slice e B f] Z Y:=
 c9 dA (c:=q) (c3:=[.tmp 4,.tmp 5,.tmp 6]) Try.func54 (by kernel_rfl) (by kernel_rfl) (by kernel_rfl) (args:=[.slice a b d,.slice e B f]) (by kernel_rfl) (u.ok Y _ Z (aQ rfl (aQ rfl (g))))
end lE
namespace nF
noncomputable def q:Code:=c8 Try.f55
def u.t(Y:J)(aO r:Int)(Z:V):Prop:=
 aN (fK .u64 aO 4294967295) fun dF=>
 0≤(32:Int)∧aN (fC .u64 aO 32) fun eY=>
 aN (fK .u64 r 4294967295) fun a=>
 0≤(32:Int)∧aN (fC .u64 r 32) fun b=>
 aN (IntKind.u64.wrap (dF*a)) fun c=>
 aN (IntKind.u64.wrap (eY*a)) fun a=>
 0≤(32:Int)∧aN (fC .u64 c 32) fun c=>
 aN (IntKind.u64.wrap (a+c)) fun a=>
 aN (fK .u64 a 4294967295) fun c=>
 0≤(32:Int)∧aN (fC .u64 a 32) fun a=>
 aN (IntKind.u64.wrap (dF*b)) fun d=>
 aN (IntKind.u64.wrap (c+d)) fun c=>
 aN (IntKind.u64.wrap (eY*b)) fun b=>
 aN (IntKind.u64.wrap (b+a)) fun a=>
 0≤(32:Int)∧aN (fC .u64 c 32) fun b=>
 aN (IntKind.u64.wrap (a+b)) fun a=>
 aN (IntKind.u64.wrap (aO*r)) fun b=>
 Y (.tuple #[.int .u64 a,.int .u64 b]) Z
def u.g(Y:J)(X:Fr)(Z:V):Prop:=aC .u64 (X 0) fun aO=>aC .u64 (X 1) fun r=>u.t Y aO r Z
theorem u.ok(Y:J)(X:Fr)(Z:V)(g:u.g Y X Z):den prog E q (aX E [.tmp 4,.tmp 5] Y) X Z:=
 aW g fun aO a g=>aW g fun r b g=>bH [(0,.int .u64 aO),(1,.int .u64 r)] ⟨a,b,trivial⟩ (by kernel_rfl) g
def t(aO r:Int)(Z:V)(Y:J):Prop:=u.t Y aO r Z
theorem ok{aO:Int}{r:Int}{Z:V}{Y:J}(g:t aO r Z Y):aG id #[.int .u64 aO,.int .u64 r] Z Y:=
 c9 dA (c:=q) (c3:=[.tmp 4,.tmp 5]) Try.func55 (by kernel_rfl) (by kernel_rfl) (by kernel_rfl) (args:=[.int .u64 aO,.int .u64 r]) (by kernel_rfl) (u.ok Y _ Z (bJ rfl (bJ rfl (g))))
end nF
namespace mA
noncomputable def q:Code:=c8 Try.f57
def u.t(Y:J)(a:R)(b c:Nat)(d:R)(B e:Nat)(aU:Int)(Z:V):Prop:=
 aG h6.id #[.slice d B e,.int .u64 aU] Z fun d e=>
 cO d fun d=>
 bY d fun d f g h=>
 dI h .i64 fun h h=>
 bG h <| aG hU.id #[.slice a b c,.slice d f g] e fun a b=>
 cO a fun a=>
 bY a fun a c d e=>
 dI e .i64 fun e e=>
 bG e <| Y (.slice a c d) b
def u.g(Y:J)(X:Fr)(Z:V):Prop:=aE (X 0) fun a b c=>aE (X 1) fun d B e=>aC .u64 (X 2) fun aU=>u.t Y a b c d B e aU Z
theorem u.ok(Y:J)(X:Fr)(Z:V)(g:u.g Y X Z):den prog E q (aX E [.tmp 6] Y) X Z:=
 a0 g fun a b c d g=>a0 g fun e B f h g=>aW g fun aU i g=>bH [(0,.slice a b c),(1,.slice e B f),(2,.int .u64 aU)] ⟨d,h,i,trivial⟩ (by kernel_rfl) g
def t(a:R)(b c:Nat)(d:R)(B e:Nat)(aU:Int)(Z:V)(Y:J):Prop:=u.t Y a b c d B e aU Z
theorem ok{a:R}{b:Nat}{d:Nat}{e:R}{B:Nat}{f:Nat}{aU:Int}{Z:V}{Y:J}(g:t a b d e B f aU Z Y):aG id #[.slice a b d,.slice e B f,.int .u64 aU] Z Y:=
 c9 dA (c:=q) (c3:=[.tmp 6]) Try.func57 (by kernel_rfl) (by kernel_rfl) (by kernel_rfl) (args:=[.slice a b d,.slice e B f,.int .u64 aU]) (by kernel_rfl) (u.ok Y _ Z (aQ rfl (aQ rfl (bJ rfl (g)))))
end mA
namespace oL
noncomputable def q:Code:=c8 Try.f58
def u.t(Y:J)(Z:V):Prop:=
 aG jV.id #[.int .u64 1] Z fun a b=>
 aE a fun a c d=>
 aG iQ.id #[.slice a c d,.int .i64 320] b fun a b=>
 cO a fun a=>
 bY a fun a c d e=>
 dI e .i64 fun e e=>
 bG e <| Y (.slice a c d) b
def u.g(Y:J)(X:Fr)(Z:V):Prop:=u.t Y  Z
theorem u.ok(Y:J)(X:Fr)(Z:V)(g:u.g Y X Z):den prog E q (aX E [.tmp 0] Y) X Z:=
 bH [] trivial (by kernel_rfl) g
def t(Z:V)(Y:J):Prop:=u.t Y Z
theorem ok{Z:V}{Y:J}(g:t  Z Y):aG id #[] Z Y:=
 c9 dA (c:=q) (c3:=[.tmp 0]) Try.func58 (by kernel_rfl) (by kernel_rfl) (by kernel_rfl) (args:=[]) (by kernel_rfl) (u.ok Y _ Z (g))
end oL
namespace mB
noncomputable def q:Code:=c8 Try.f59
def aD.t(Y:J)(a:R)(b c:Nat)(Z:V):Prop:=
 cC a b 0 1 fun a=>gI Z a fun a=>aC .u64 a fun a=>Y (.int .u64 a) Z
def aD.g(Y:J)(X:Fr)(Z:V):Prop:=aE (X 7) fun a b c=>aD.t Y a b c Z
theorem aD.ok(Y:J)(X:Fr)(Z:V)(g:aD.g Y X Z):den prog E (aP q [W,W,W,W]) (aX E [.tmp 6] Y) X Z:=
 a0 g fun a b c d g=>bH [(7,.slice a b c)] ⟨d,trivial⟩ (by kernel_rfl) g
def u.t(Y:J)(a:R)(b c:Nat)(d:R)(B e:Nat)(aU:Int)(Z:V):Prop:=
 aG lE.id #[.slice a b c,.slice d B e] Z fun a b=>
 cO a fun a=>
 bY a fun a c d e=>
 bY e fun e e e e=>
 dI e .i64 fun e e=>
 bG e <| cond ((((c:Nat):Int)) == 0) (Y (.int .u64 0) b) (cond (decide ((((c:Nat):Int)) > 1)) (Y (.int .u64 aU) b) (cC a c 0 1 fun e=>
 c5 b .u64 e fun e=>
 cond (decide (e > aU)) (Y (.int .u64 aU) b) (aD.t Y a c d b)))
def u.g(Y:J)(X:Fr)(Z:V):Prop:=aE (X 0) fun a b c=>aE (X 1) fun d B e=>aC .u64 (X 2) fun aU=>u.t Y a b c d B e aU Z
theorem u.ok(Y:J)(X:Fr)(Z:V)(g:u.g Y X Z):den prog E q (aX E [.tmp 6] Y) X Z:=
 a0 g fun a b c d g=>a0 g fun e B f h g=>aW g fun aU i g=>cN 4 (C:=(aP q [W,W,W,W])) (by kernel_rfl) (aD.ok Y) (bH [(0,.slice a b c),(1,.slice e B f),(2,.int .u64 aU)] ⟨d,h,i,trivial⟩ (by kernel_rfl) g)
def t(a:R)(b c:Nat)(d:R)(B e:Nat)(aU:Int)(Z:V)(Y:J):Prop:=u.t Y a b c d B e aU Z
theorem ok{a:R}{b:Nat}{d:Nat}{e:R}{B:Nat}{f:Nat}{aU:Int}{Z:V}{Y:J}(g:t a b d e B f aU Z Y):aG id #[.slice a b d,.slice e B f,.int .u64 aU] Z Y:=
 c9 dA (c:=q) (c3:=[.tmp 6]) Try.func59 (by kernel_rfl) (by kernel_rfl) (by kernel_rfl) (args:=[.slice a b d,.slice e B f,.int .u64 aU]) (by kernel_rfl) (u.ok Y _ Z (aQ rfl (aQ rfl (bJ rfl (g)))))
end mB
namespace nN
noncomputable def q:Code:=c8 Try.f60
def aD.t(Y:J)(aO r:Int)(aU a:Int)(Z:V):Prop:=
 aN (IntKind.u64.wrap (r*aU)) fun b=>
 aN (IntKind.u64.wrap (aO+b)) fun b=>
 aN (IntKind.u64.wrap (a+1)) fun a=>
 Y (.int .u64 (if a < b then a else b)) Z
def aD.g(Y:J)(X:Fr)(Z:V):Prop:=aC .u64 (X 0) fun aO=>aC .u64 (X 1) fun r=>aC .u64 (X 2) fun aU=>aC .u64 (X 3) fun a=>aD.t Y aO r aU a Z
theorem aD.ok(Y:J)(X:Fr)(Z:V)(g:aD.g Y X Z):den prog E (aP q [W,W]) (aX E [.tmp 8] Y) X Z:=
 aW g fun aO a g=>aW g fun r b g=>aW g fun aU c g=>aW g fun d e g=>bH [(0,.int .u64 aO),(1,.int .u64 r),(2,.int .u64 aU),(3,.int .u64 d)] ⟨a,b,c,e,trivial⟩ (by kernel_rfl) g
def u.t(Y:J)(aO r:Int)(aU a:Int)(Z:V):Prop:=
 cond (decide (aU > a)) (aN (IntKind.u64.wrap (a+1)) fun dF=>
 Y (.int .u64 dF) Z) ((if 1 > aU then 1 else aU) ≠ 0∧aN (IntKind.u64.wrap (Int.tdiv a (if 1 > aU then 1 else aU))) fun eY=>
 aN (IntKind.u64.wrap (eY+1)) fun b=>
 cond (decide (r > b)) (aN (IntKind.u64.wrap (a+1)) fun b=>
 Y (.int .u64 b) Z) (aD.t Y aO r aU a Z))
def u.g(Y:J)(X:Fr)(Z:V):Prop:=aC .u64 (X 0) fun aO=>aC .u64 (X 1) fun r=>aC .u64 (X 2) fun aU=>aC .u64 (X 3) fun a=>u.t Y aO r aU a Z
theorem u.ok(Y:J)(X:Fr)(Z:V)(g:u.g Y X Z):den prog E q (aX E [.tmp 8] Y) X Z:=
 aW g fun aO a g=>aW g fun r b g=>aW g fun aU c g=>aW g fun d e g=>cN 2 (C:=(aP q [W,W])) (by kernel_rfl) (aD.ok Y) (bH [(0,.int .u64 aO),(1,.int .u64 r),(2,.int .u64 aU),(3,.int .u64 d)] ⟨a,b,c,e,trivial⟩ (by kernel_rfl) g)
def t(aO r:Int)(aU a:Int)(Z:V)(Y:J):Prop:=u.t Y aO r aU a Z
theorem ok{aO:Int}{r:Int}{aU:Int}{a:Int}{Z:V}{Y:J}(g:t aO r aU a Z Y):aG id #[.int .u64 aO,.int .u64 r,.int .u64 aU,.int .u64 a] Z Y:=
 c9 dA (c:=q) (c3:=[.tmp 8]) Try.func60 (by kernel_rfl) (by kernel_rfl) (by kernel_rfl) (args:=[.int .u64 aO,.int .u64 r,.int .u64 aU,.int .u64 a]) (by kernel_rfl) (u.ok Y _ Z (bJ rfl (bJ rfl (bJ rfl (bJ rfl (g))))))
end nN
namespace pK
noncomputable def q:Code:=c8 Try.f61
def u.t(Y:J)(a:R)(b c:Nat)(Z:V):Prop:=
 cond (decide ((((b:Nat):Int)) > 8192)) (Y (.tuple #[.slice none 0 0,.int .i64 5]) Z) (Y (.tuple #[.slice a b c,.int .i64 0]) Z)
def u.g(Y:J)(X:Fr)(Z:V):Prop:=aE (X 0) fun a b c=>u.t Y a b c Z
theorem u.ok(Y:J)(X:Fr)(Z:V)(g:u.g Y X Z):den prog E q (aX E [.tmp 2,.tmp 3] Y) X Z:=
 a0 g fun a b c d g=>bH [(0,.slice a b c)] ⟨d,trivial⟩ (by kernel_rfl) g
def t(a:R)(b c:Nat)(Z:V)(Y:J):Prop:=u.t Y a b c Z
theorem ok{a:R}{b:Nat}{d:Nat}{Z:V}{Y:J}(g:t a b d Z Y):aG id #[.slice a b d] Z Y:=
 c9 dA (c:=q) (c3:=[.tmp 2,.tmp 3]) Try.func61 (by kernel_rfl) (by kernel_rfl) (by kernel_rfl) (args:=[.slice a b d]) (by kernel_rfl) (u.ok Y _ Z (aQ rfl (g)))
end pK
namespace lF
noncomputable def q:Code:=c8 Try.f62
def u.t(Y:J)(a:R)(b c:Nat)(d:R)(B e:Nat)(Z:V):Prop:=
 aN (IntKind.i64.wrap ((((b:Nat):Int))+(((B:Nat):Int)))) fun dF=>
 g1 Z 23 k5 dF dF fun f g=>
 aG nG.id #[.slice (some f) dF.toNat dF.toNat,.slice a b c,.slice d B e] g fun a b=>
 cO a fun a=>
 bG a <| aG jX.id #[.slice (some f) dF.toNat dF.toNat] b fun a b=>
 aE a fun a c d=>
 Y (.slice a c d) b
def u.g(Y:J)(X:Fr)(Z:V):Prop:=aE (X 0) fun a b c=>aE (X 1) fun d B e=>u.t Y a b c d B e Z
theorem u.ok(Y:J)(X:Fr)(Z:V)(g:u.g Y X Z):den prog E q (aX E [.tmp 4] Y) X Z:=
 a0 g fun a b c d g=>a0 g fun e B f h g=>bH [(0,.slice a b c),(1,.slice e B f)] ⟨d,h,trivial⟩ (by kernel_rfl) g
def t(a:R)(b c:Nat)(d:R)(B e:Nat)(Z:V)(Y:J):Prop:=u.t Y a b c d B e Z
theorem ok{a:R}{b:Nat}{d:Nat}{e:R}{B:Nat}{f:Nat}{Z:V}{Y:J}(g:t a b d e B f Z Y):aG id #[.slice a b d,.slice e B f] Z Y:=
 c9 dA (c:=q) (c3:=[.tmp 4]) Try.func62 (by kernel_rfl) (by kernel_rfl) (by kernel_rfl) (args:=[.slice a b d,.slice e B f]) (by kernel_rfl) (u.ok Y _ Z (aQ rfl (aQ rfl (g))))
end lF
namespace kC
noncomputable def q:Code:=c8 Try.f63
def bP.t(Y:J)(aO aU:Int)(Z:V):Prop:=
 aN (IntKind.u8.wrap aO) fun a=>
 rJ (⟨#[0,1,2,2,3,3,3,3,4,4,4,4,4,4,4,4,5,5,5,5,5,5,5,5,5,5,5,5,5,5,5,5,6,6,6,6,6,6,6,6,6,6,6,6,6,6,6,6,6,6,6,6,6,6,6,6,6,6,6,6,6,6,6,6,7,7,7,7,7,7,7,7,7,7,7,7,7,7,7,7,7,7,7,7,7,7,7,7,7,7,7,7,7,7,7,7,7,7,7,7,7,7,7,7,7,7,7,7,7,7,7,7,7,7,7,7,7,7,7,7,7,7,7,7,7,7,7,7,8,8,8,8,8,8,8,8,8,8,8,8,8,8,8,8,8,8,8,8,8,8,8,8,8,8,8,8,8,8,8,8,8,8,8,8,8,8,8,8,8,8,8,8,8,8,8,8,8,8,8,8,8,8,8,8,8,8,8,8,8,8,8,8,8,8,8,8,8,8,8,8,8,8,8,8,8,8,8,8,8,8,8,8,8,8,8,8,8,8,8,8,8,8,8,8,8,8,8,8,8,8,8,8,8,8,8,8,8,8,8,8,8,8,8,8,8,8,8,8,8,8,8,8,8,8,8,8]⟩:ByteArray) a fun a=>
 aN (IntKind.i64.wrap a) fun a=>
 aN (IntKind.i64.wrap (aU+a)) fun a=>
 Y (.int .i64 a) Z
def bP.g(Y:J)(X:Fr)(Z:V):Prop:=aC .u64 (X 0) fun aO=>aC .i64 (X 2) fun aU=>bP.t Y aO aU Z
theorem bP.ok(Y:J)(X:Fr)(Z:V)(g:bP.g Y X Z):den prog E (aP q [W,W,W,W]) (aX E [.tmp 2] Y) X Z:=
 aW g fun aO a g=>aW g fun aU b g=>bH [(0,.int .u64 aO),(2,.int .i64 aU)] ⟨a,b,trivial⟩ (by kernel_rfl) g
def a4.t(Y:J)(aO aU:Int)(Z:V):Prop:=
 cond (decide (aO≥256)) (0≤(8:Int)∧aN (fC .u64 aO 8) fun a=>
 aN (IntKind.i64.wrap (aU+8)) fun b=>
 bP.t Y a b Z) (bP.t Y aO aU Z)
def a4.g(Y:J)(X:Fr)(Z:V):Prop:=aC .u64 (X 0) fun aO=>aC .i64 (X 2) fun aU=>a4.t Y aO aU Z
theorem a4.ok(Y:J)(X:Fr)(Z:V)(g:a4.g Y X Z):den prog E (aP q [W,W,W]) (aX E [.tmp 2] Y) X Z:=
 aW g fun aO a g=>aW g fun aU b g=>cN 1 (C:=(aP q [W,W,W,W])) (by kernel_rfl) (bP.ok Y) (bH [(0,.int .u64 aO),(2,.int .i64 aU)] ⟨a,b,trivial⟩ (by kernel_rfl) g)
def aD.t(Y:J)(aO aU:Int)(Z:V):Prop:=
 cond (decide (aO≥65536)) (0≤(16:Int)∧aN (fC .u64 aO 16) fun eY=>
 aN (IntKind.i64.wrap (aU+16)) fun a=>
 a4.t Y eY a Z) (a4.t Y aO aU Z)
def aD.g(Y:J)(X:Fr)(Z:V):Prop:=aC .u64 (X 0) fun aO=>aC .i64 (X 2) fun aU=>aD.t Y aO aU Z
theorem aD.ok(Y:J)(X:Fr)(Z:V)(g:aD.g Y X Z):den prog E (aP q [W,W]) (aX E [.tmp 2] Y) X Z:=
 aW g fun aO a g=>aW g fun aU b g=>cN 1 (C:=(aP q [W,W,W])) (by kernel_rfl) (a4.ok Y) (bH [(0,.int .u64 aO),(2,.int .i64 aU)] ⟨a,b,trivial⟩ (by kernel_rfl) g)
def u.t(Y:J)(aO:Int)(Z:V):Prop:=
 cond (decide (aO≥4294967296)) (0≤(32:Int)∧aN (fC .u64 aO 32) fun dF=>
 aD.t Y dF 32 Z) (aD.t Y aO 0 Z)
def u.g(Y:J)(X:Fr)(Z:V):Prop:=aC .u64 (X 0) fun aO=>u.t Y aO Z
theorem u.ok(Y:J)(X:Fr)(Z:V)(g:u.g Y X Z):den prog E q (aX E [.tmp 2] Y) X Z:=
 aW g fun aO a g=>cN 2 (C:=(aP q [W,W])) (by kernel_rfl) (aD.ok Y) (bH [(0,.int .u64 aO)] ⟨a,trivial⟩ (by kernel_rfl) g)
def t(aO:Int)(Z:V)(Y:J):Prop:=u.t Y aO Z
theorem ok{aO:Int}{Z:V}{Y:J}(g:t aO Z Y):aG id #[.int .u64 aO] Z Y:=
 c9 dA (c:=q) (c3:=[.tmp 2]) Try.func63 (by kernel_rfl) (by kernel_rfl) (by kernel_rfl) (args:=[.int .u64 aO]) (by kernel_rfl) (u.ok Y _ Z (bJ rfl (g)))
end kC
namespace h7
noncomputable def q:Code:=c8 Try.f64
def aD.t(Y:J)(a:R)(b c:Nat)(aL:Int)(Z:V):Prop:=
 aG kX.id #[.slice a b c] Z fun a b=>
 cO a fun a=>
 bY a fun a c d e=>
 dI e .i64 fun e e=>
 bG e <| Y (.tuple #[.slice a c d,.int .u64 aL,.int .i64 0]) b
def aD.g(Y:J)(X:Fr)(Z:V):Prop:=aE (X 7) fun a b c=>aC .u64 (X 8) fun aL=>aD.t Y a b c aL Z
theorem aD.ok(Y:J)(X:Fr)(Z:V)(g:aD.g Y X Z):den prog E (aP q [W,W,W,W,W,W]) (aX E [.tmp 4,.tmp 5,.tmp 6] Y) X Z:=
 a0 g fun a b c d g=>aW g fun aL e g=>bH [(7,.slice a b c),(8,.int .u64 aL)] ⟨d,e,trivial⟩ (by kernel_rfl) g
def a8.g(a:R→Nat→Nat→Int→R→Nat→Nat→Int→Int→V→Prop)(X:Fr)(Z:V):Prop:=aE (X 0) fun b c d=>aC .u64 (X 1) fun r=>aE (X 7) fun e f h=>aC .u64 (X 8) fun aL=>aC .i64 (X 9) fun aR=>a b c d r e f h aL aR Z
def bS.t(Y:J)(a:R→Nat→Nat→Int→R→Nat→Nat→Int→Int→V→Prop)(b:R)(c d:Nat)(r:Int)(e:R)(f g:Nat)(aL aR:Int)(Z:V):Prop:=
 cond (decide (aR≥0)) (cC b c aR 1 fun h=>
 c5 Z .u64 h fun h=>
 aG fH.id #[.int .u64 aL,.int .u64 h,.int .u64 r] Z fun h i=>
 cO h fun h=>
 dI h .u64 fun h j=>
 dI j .u64 fun j l=>
 bG l <| cC e f aR 1 fun l=>
 bI i l (.int .u64 h) fun h=>
 aN (IntKind.i64.wrap (aR - 1)) fun i=>
 a b c d r e f g j i h) (aD.t Y e f g aL Z)
def bS.g(Y:J)(a:R→Nat→Nat→Int→R→Nat→Nat→Int→Int→V→Prop)(X:Fr)(Z:V):Prop:=aE (X 0) fun b c d=>aC .u64 (X 1) fun r=>aE (X 7) fun e f h=>aC .u64 (X 8) fun aL=>aC .i64 (X 9) fun aR=>bS.t Y a b c d r e f h aL aR Z
theorem bS.ok(Y:J)(a:R→Nat→Nat→Int→R→Nat→Nat→Int→Int→V→Prop)(X:Fr)(Z:V)(g:bS.g Y a X Z):den prog E (aP q [W,W,W,W,W,p,W,p,p]) (aM.then (a8.g a) (aM.inBlock 0 (aM.then (aD.g Y) (aX E [.tmp 4,.tmp 5,.tmp 6] Y)))) X Z:=
 a0 g fun a b c d g=>aW g fun r e g=>a0 g fun f h i j g=>aW g fun aL l g=>aW g fun aR m g=>bH [(0,.slice a b c),(1,.int .u64 r),(7,.slice f h i),(8,.int .u64 aL),(9,.int .i64 aR)] ⟨d,e,j,l,m,trivial⟩ (by kernel_rfl) g
def a8.t(Y:J):Nat→R→Nat→Nat→Int→R→Nat→Nat→Int→Int→V→Prop
 | 0=>fun _ _ _ _ _ _ _ _ _ _=>False
 | n+1=>fun a b c r d e f aL aR Z=>bS.t Y (a8.t Y n) a b c r d e f aL aR Z
theorem a8.ok(Y:J)(X:Fr)(Z:V)(g:a8.g (fun a b c r d e f aL aR Z=>∃ n,a8.t Y n a b c r d e f aL aR Z) X Z):den prog E (aP q [W,W,W,W,W,p,W,p]) (aM.inBlock 0 (aM.then (aD.g Y) (aX E [.tmp 4,.tmp 5,.tmp 6] Y))) X Z:=by
 obtain⟨a,b,c,h,g⟩:=bT g
 obtain⟨r,i,g⟩:=bC g
 obtain⟨d,e,f,j,g⟩:=bT g
 obtain⟨aL,l,g⟩:=bC g
 obtain⟨aR,m,g⟩:=bC g
 obtain⟨n,g⟩:=g
 refine eZ (fun n=>a8.g (a8.t Y n)) (N:=(aP q [W,W,W,W,W,p,W,p,p])) (by kernel_rfl) (fun X Z g=>?_) (fun n=>bS.ok Y (a8.t Y n)) n X Z (aQ h (bJ i (aQ j (bJ l (bJ m (g))))))
 obtain⟨a,b,c,h,g⟩:=bT g
 obtain⟨r,i,g⟩:=bC g
 obtain⟨d,e,f,j,g⟩:=bT g
 obtain⟨aL,l,g⟩:=bC g
 obtain⟨aR,m,g⟩:=bC g
 exact g
theorem gG.ok(Y:J)(X:Fr)(Z:V)(g:a8.g (fun a b c r d e f aL aR Z=>∃ n,a8.t Y n a b c r d e f aL aR Z) X Z):den prog E (aP q [W,W,W,W,W,p,W]) (aM.then (aD.g Y) (aX E [.tmp 4,.tmp 5,.tmp 6] Y)) X Z:=
 eN (by kernel_rfl) (a8.ok Y X Z g)
def a4.t(Y:J)(a:R)(b c:Nat)(r:Int)(d:R)(e f:Nat)(aL:Int)(Z:V):Prop:=
 aN (IntKind.i64.wrap ((((b:Nat):Int)) - 1)) fun g=>(∃ n,a8.t Y n a b c r d e f aL g Z)
def a4.g(Y:J)(X:Fr)(Z:V):Prop:=aE (X 0) fun a b c=>aC .u64 (X 1) fun r=>aE (X 7) fun d e f=>aC .u64 (X 8) fun aL=>a4.t Y a b c r d e f aL Z
theorem a4.ok(Y:J)(X:Fr)(Z:V)(g:a4.g Y X Z):den prog E (aP q [W,W,W,W,W,p]) (aM.then (aD.g Y) (aX E [.tmp 4,.tmp 5,.tmp 6] Y)) X Z:=
 a0 g fun a b c d g=>aW g fun r e g=>a0 g fun f h i j g=>aW g fun aL l g=>cN 1 (C:=(aP q [W,W,W,W,W,p,W])) (by kernel_rfl) (gG.ok Y) (bH [(0,.slice a b c),(1,.int .u64 r),(7,.slice f h i),(8,.int .u64 aL)] ⟨d,e,j,l,trivial⟩ (by kernel_rfl) g)
theorem gH.ok(Y:J)(X:Fr)(Z:V)(g:a4.g Y X Z):den prog E (aP q [W,W,W,W,W]) (aX E [.tmp 4,.tmp 5,.tmp 6] Y) X Z:=
 e8 (by kernel_rfl) (aD.ok Y) (a4.ok Y X Z g)
def u.t(Y:J)(a:R)(b c:Nat)(r:Int)(Z:V):Prop:=
 aG iG.id #[.slice a b c] Z fun d e=>
 eL d fun d=>
 cond (!d) (Y (.tuple #[.slice none 0 0,.int .u64 0,.int .i64 2]) e) (cond (r == 0) (Y (.tuple #[.slice none 0 0,.int .u64 0,.int .i64 4]) e) (g1 e 23 k5 (((b:Nat):Int)) (((b:Nat):Int)) fun d e=>
 a4.t Y a b c r (some d) ((((b:Nat):Int)).toNat) ((((b:Nat):Int)).toNat) 0 e))
def u.g(Y:J)(X:Fr)(Z:V):Prop:=aE (X 0) fun a b c=>aC .u64 (X 1) fun r=>u.t Y a b c r Z
theorem u.ok(Y:J)(X:Fr)(Z:V)(g:u.g Y X Z):den prog E q (aX E [.tmp 4,.tmp 5,.tmp 6] Y) X Z:=
 a0 g fun a b c d g=>aW g fun r e g=>cN 5 (C:=(aP q [W,W,W,W,W])) (by kernel_rfl) (gH.ok Y) (bH [(0,.slice a b c),(1,.int .u64 r)] ⟨d,e,trivial⟩ (by kernel_rfl) g)
def t(a:R)(b c:Nat)(r:Int)(Z:V)(Y:J):Prop:=u.t Y a b c r Z
theorem ok{a:R}{b:Nat}{d:Nat}{r:Int}{Z:V}{Y:J}(g:t a b d r Z Y):aG id #[.slice a b d,.int .u64 r] Z Y:=
 c9 dA (c:=q) (c3:=[.tmp 4,.tmp 5,.tmp 6]) Try.func64 (by kernel_rfl) (by kernel_rfl) (by kernel_rfl) (args:=[.slice a b d,.int .u64 r]) (by kernel_rfl) (u.ok Y _ Z (aQ rfl (bJ rfl (g))))
end h7
namespace nL
noncomputable def q:Code:=c8 Try.f65
def u.t(Y:J)(a:R)(b c:Nat)(r:Int)(Z:V):Prop:=
 cond (decide (r < 4294967296)) (aN (IntKind.u64.wrap (r*r)) fun dF=>
 aG h7.id #[.slice a b c,.int .u64 dF] Z fun d e=>
 cO d fun d=>
 bY d fun d f g h=>
 dI h .u64 fun h h=>
 dI h .i64 fun h h=>
 bG h <| Y (.slice d f g) e) (aG h7.id #[.slice a b c,.int .u64 r] Z fun a b=>
 cO a fun a=>
 bY a fun a c d e=>
 dI e .u64 fun e e=>
 dI e .i64 fun e e=>
 bG e <| aG h7.id #[.slice a c d,.int .u64 r] b fun a b=>
 cO a fun a=>
 bY a fun a c d e=>
 dI e .u64 fun e e=>
 dI e .i64 fun e e=>
 bG e <| Y (.slice a c d) b)
def u.g(Y:J)(X:Fr)(Z:V):Prop:=aE (X 0) fun a b c=>aC .u64 (X 1) fun r=>u.t Y a b c r Z
theorem u.ok(Y:J)(X:Fr)(Z:V)(g:u.g Y X Z):den prog E q (aX E [.tmp 4] Y) X Z:=
 a0 g fun a b c d g=>aW g fun r e g=>bH [(0,.slice a b c),(1,.int .u64 r)] ⟨d,e,trivial⟩ (by kernel_rfl) g
def t(a:R)(b c:Nat)(r:Int)(Z:V)(Y:J):Prop:=u.t Y a b c r Z
theorem ok{a:R}{b:Nat}{d:Nat}{r:Int}{Z:V}{Y:J}(g:t a b d r Z Y):aG id #[.slice a b d,.int .u64 r] Z Y:=
 c9 dA (c:=q) (c3:=[.tmp 4]) Try.func65 (by kernel_rfl) (by kernel_rfl) (by kernel_rfl) (args:=[.slice a b d,.int .u64 r]) (by kernel_rfl) (u.ok Y _ Z (aQ rfl (bJ rfl (g))))
end nL
namespace lH
noncomputable def q:Code:=c8 Try.f67
def aD.t(Y:J)(a b c:Addr)(d:R)(e f:Nat)(g:R)(h i:Nat)(Z:V):Prop:=
 aG gV.id #[.int .u64 1] Z fun j l=>
 aE j fun j m n=>
 (cA Z.size Z l)∧aG gW.id #[.slice d e f,.slice j m n] l fun d e=>
 aE d fun d f j=>
 (cA Z.size l e)∧aG eQ.id #[.bool true,.slice d f j] e fun d f=>
 cE d fun d=>
 cX d fun d j=>
 bY j fun j l m n=>
 bG n <| (cA Z.size e f)∧(a.add 1).block < Z.size∧cR f (a.add 1) fun a e n=>
 aG hA.id #[.slice a e n,.slice g h i] f fun a e=>
 aE a fun a g h=>
 (cA Z.size f e)∧aG eQ.id #[.bool false,.slice a g h] e fun a f=>
 cE a fun a=>
 cX a fun a g=>
 bY g fun g h i n=>
 bG n <| (cA Z.size e f)∧bI f (b.add 0) (.bool d) fun d=>
 bI d (b.add 1) (.slice j l m) fun d=>
 bI d (c.add 0) (.bool a) fun a=>
 bI a (c.add 1) (.slice g h i) fun a=>
 c4 a (b.add 0) fun d=>
 cR a (b.add 1) fun b e f=>
 c4 a (c.add 0) fun g=>
 cR a (c.add 1) fun c h i=>
 Y (.tuple #[.agg #[.bool d,.slice b e f],.agg #[.bool g,.slice c h i]]) a
def aD.g(Y:J)(X:Fr)(Z:V):Prop:=gB (X 3) fun a=>gB (X 4) fun b=>gB (X 5) fun c=>aE (X 6) fun d e f=>aE (X 7) fun h i j=>aD.t Y a b c d e f h i j Z
theorem aD.ok(Y:J)(X:Fr)(Z:V)(g:aD.g Y X Z):den prog E (aP q [W,W,W,W]) (aX E [.cell 4 34,.cell 5 34] Y) X Z:=
 gN g fun a b g=>gN g fun c d g=>gN g fun e f g=>a0 g fun h i j l g=>a0 g fun m n t v g=>bH [(3,.pointer (some a)),(4,.pointer (some c)),(5,.pointer (some e)),(6,.slice h i j),(7,.slice m n t)] ⟨b,d,f,l,v,trivial⟩ (by kernel_rfl) g
def u.t(Y:J)(a:Bool)(b:R)(c d:Nat)(e:Bool)(f:R)(g h:Nat)(Z:V):Prop:=
 cU Z 34 [.bool a,.slice b c d] fun a b=>
 cU b 34 [.bool e,.slice f g h] fun b c=>
 cU c 34 eE.aF fun c d=>
 cU d 34 eE.aF fun d e=>
 c4 e (b.add 0) fun f=>
 cR e (b.add 1) fun g h i=>
 aG hP.id #[.agg #[.bool f,.slice g h i]] e fun e f=>
 aC .i64 e fun e=>
 cond (decide (e≤0)) (bI f (c.add 0) (.bool false) fun e=>
 bI e (c.add 1) (.slice none 0 0) fun e=>
 bI e (d.add 0) (.bool false) fun e=>
 bI e (d.add 1) (.slice none 0 0) fun e=>
 c4 e (c.add 0) fun g=>
 cR e (c.add 1) fun h i j=>
 c4 e (d.add 0) fun l=>
 cR e (d.add 1) fun m n v=>
 Y (.tuple #[.agg #[.bool g,.slice h i j],.agg #[.bool l,.slice m n v]]) e) (cR f (a.add 1) fun e g h=>
 cR f (b.add 1) fun i j l=>
 aG hB.id #[.slice e g h,.slice i j l] f fun e f=>
 cO e fun e=>
 bY e fun e g h i=>
 bY i fun i j l m=>
 bG m <| c4 f (a.add 0) fun m=>
 cond (!m) (c4 f (a.add 0) fun m=>
 aG eQ.id #[.bool m,.slice e g h] f fun m n=>
 cE m fun m=>
 cX m fun m v=>
 bY v fun v D E G=>
 bG G <| aG eQ.id #[.bool false,.slice i j l] n fun G n=>
 cE G fun G=>
 cX G fun G H=>
 bY H fun H P Iv Iw=>
 bG Iw <| bI n (c.add 0) (.bool m) fun m=>
 bI m (c.add 1) (.slice v D E) fun D=>
 bI D (d.add 0) (.bool G) fun D=>
 bI D (d.add 1) (.slice H P Iv) fun D=>
 c4 D (c.add 0) fun E=>
 cR D (c.add 1) fun G H P=>
 c4 D (d.add 0) fun m=>
 cR D (d.add 1) fun n v Iv=>
 Y (.tuple #[.agg #[.bool E,.slice G H P],.agg #[.bool m,.slice n v Iv]]) D) (cond ((((j:Nat):Int)) == 0) (c4 f (a.add 0) fun D=>
 aG eQ.id #[.bool D,.slice e g h] f fun D E=>
 cE D fun D=>
 cX D fun D G=>
 bY G fun G H P a=>
 bG a <| aG eQ.id #[.bool false,.slice i j l] E fun E a=>
 cE E fun E=>
 cX E fun E m=>
 bY m fun m n v Iv=>
 bG Iv <| bI a (c.add 0) (.bool D) fun D=>
 bI D (c.add 1) (.slice G H P) fun D=>
 bI D (d.add 0) (.bool E) fun D=>
 bI D (d.add 1) (.slice m n v) fun D=>
 c4 D (c.add 0) fun E=>
 cR D (c.add 1) fun G H P=>
 c4 D (d.add 0) fun a=>
 cR D (d.add 1) fun m n v=>
 Y (.tuple #[.agg #[.bool E,.slice G H P],.agg #[.bool a,.slice m n v]]) D) (aD.t Y b c d e g h i j l f)))
def u.g(Y:J)(X:Fr)(Z:V):Prop:=cE (X 0) fun a=>cL a fun a b=>eL a fun a=>cL b fun b c=>aE b fun b d e=>bG c <| cE (X 1) fun c=>cL c fun c f=>eL c fun c=>cL f fun f h=>aE f fun f i j=>bG h <| u.t Y a b d e c f i j Z
theorem u.ok(Y:J)(X:Fr)(Z:V)(g:u.g Y X Z):den prog E q (aX E [.cell 4 34,.cell 5 34] Y) X Z:=by
 obtain⟨Ix,a,b⟩:=hG g
 obtain⟨Iy,Iz,rfl,c⟩:=eI b
 obtain⟨d,rfl,e⟩:=g4 c
 obtain⟨IA,IB,rfl,f⟩:=eI e
 obtain⟨h,i,j,rfl,l⟩:=bT f
 obtain⟨rfl,g⟩:=gM l
 obtain⟨IC,m,n⟩:=hG g
 obtain⟨ID,IE,rfl,t⟩:=eI n
 obtain⟨v,rfl,D⟩:=g4 t
 obtain⟨IF,IG,rfl,G⟩:=eI D
 obtain⟨H,P,Iv,rfl,Iw⟩:=bT G
 obtain⟨rfl,g⟩:=gM Iw
 exact cN 4 (C:=(aP q [W,W,W,W])) (by kernel_rfl) (aD.ok Y) (bH [(0,.agg #[.bool d,.slice h i j]),(1,.agg #[.bool v,.slice H P Iv])] ⟨a,m,trivial⟩ (by kernel_rfl) g)
def t(a:Bool)(b:R)(c d:Nat)(e:Bool)(f:R)(g h:Nat)(Z:V)(Y:J):Prop:=u.t Y a b c d e f g h Z
theorem ok{a:Bool}{b:R}{d:Nat}{e:Nat}{f:Bool}{h:R}{i:Nat}{j:Nat}{Z:V}{Y:J}(g:t a b d e f h i j Z Y):aG id #[.agg #[.bool a,.slice b d e],.agg #[.bool f,.slice h i j]] Z Y:=
 c9 dA (c:=q) (c3:=[.cell 4 34,.cell 5 34]) Try.func67 (by kernel_rfl) (by kernel_rfl) (by kernel_rfl) (args:=[.agg #[.bool a,.slice b d e],.agg #[.bool f,.slice h i j]]) (by kernel_rfl) (u.ok Y _ Z (cF rfl (a9 (bK rfl (a9 (aQ rfl (b3 (cF rfl (a9 (bK rfl (a9 (aQ rfl (b3 (g))))))))))))))
end lH
namespace lI
noncomputable def q:Code:=c8 Try.f68
def u.t(Y:J)(a:Bool)(b:R)(c d:Nat)(Z:V):Prop:=
 cU Z 34 [.bool a,.slice b c d] fun a b=>
 cR b (a.add 1) fun a c d=>
 aG l1.id #[.slice a c d,.int .i64 0] b fun a b=>
 aC .i64 a fun a=>
 Y (.bool (a == 0)) b
def u.g(Y:J)(X:Fr)(Z:V):Prop:=cE (X 0) fun a=>cL a fun a b=>eL a fun a=>cL b fun b c=>aE b fun b d e=>bG c <| u.t Y a b d e Z
theorem u.ok(Y:J)(X:Fr)(Z:V)(g:u.g Y X Z):den prog E q (aX E [.tmp 2] Y) X Z:=by
 obtain⟨m,a,b⟩:=hG g
 obtain⟨n,t,rfl,c⟩:=eI b
 obtain⟨d,rfl,e⟩:=g4 c
 obtain⟨v,D,rfl,f⟩:=eI e
 obtain⟨h,i,j,rfl,l⟩:=bT f
 obtain⟨rfl,g⟩:=gM l
 exact bH [(0,.agg #[.bool d,.slice h i j])] ⟨a,trivial⟩ (by kernel_rfl) g
def t(a:Bool)(b:R)(c d:Nat)(Z:V)(Y:J):Prop:=u.t Y a b c d Z
theorem ok{a:Bool}{b:R}{d:Nat}{e:Nat}{Z:V}{Y:J}(g:t a b d e Z Y):aG id #[.agg #[.bool a,.slice b d e]] Z Y:=
 c9 dA (c:=q) (c3:=[.tmp 2]) Try.func68 (by kernel_rfl) (by kernel_rfl) (by kernel_rfl) (args:=[.agg #[.bool a,.slice b d e]]) (by kernel_rfl) (u.ok Y _ Z (cF rfl (a9 (bK rfl (a9 (aQ rfl (b3 (g))))))))
end lI
namespace nB
noncomputable def q:Code:=c8 Try.f69
def u.t(Y:J)(a:R)(b c:Nat)(Z:V):Prop:=
 aG jR.id #[.slice a b c] Z fun a b=>
 aE a fun a c d=>
 cond (decide ((((c:Nat):Int)) > 8192)) (Y (.tuple #[.slice none 0 0,.int .i64 5]) b) (g1 b 23 k5 (((c:Nat):Int)) (((c:Nat):Int)) fun b e=>
 kR e 1 (some b) ((((c:Nat):Int)).toNat) (.slice a c d) fun a a=>
 Y (.tuple #[.slice (some b) ((((c:Nat):Int)).toNat) ((((c:Nat):Int)).toNat),.int .i64 0]) a)
def u.g(Y:J)(X:Fr)(Z:V):Prop:=aE (X 0) fun a b c=>u.t Y a b c Z
theorem u.ok(Y:J)(X:Fr)(Z:V)(g:u.g Y X Z):den prog E q (aX E [.tmp 2,.tmp 3] Y) X Z:=
 a0 g fun a b c d g=>bH [(0,.slice a b c)] ⟨d,trivial⟩ (by kernel_rfl) g
def t(a:R)(b c:Nat)(Z:V)(Y:J):Prop:=u.t Y a b c Z
theorem ok{a:R}{b:Nat}{d:Nat}{Z:V}{Y:J}(g:t a b d Z Y):aG id #[.slice a b d] Z Y:=
 c9 dA (c:=q) (c3:=[.tmp 2,.tmp 3]) Try.func69 (by kernel_rfl) (by kernel_rfl) (by kernel_rfl) (args:=[.slice a b d]) (by kernel_rfl) (u.ok Y _ Z (aQ rfl (g)))
end nB
namespace n5
noncomputable def q:Code:=c8 Try.f70
def u.t(Y:J)(aO:Int)(Z:V):Prop:=
 aG kC.id #[.int .u64 aO] Z fun a b=>
 aC .i64 a fun a=>
 aN (IntKind.i64.wrap (64 - a)) fun a=>
 Y (.int .i64 a) b
def u.g(Y:J)(X:Fr)(Z:V):Prop:=aC .u64 (X 0) fun aO=>u.t Y aO Z
theorem u.ok(Y:J)(X:Fr)(Z:V)(g:u.g Y X Z):den prog E q (aX E [.tmp 2] Y) X Z:=
 aW g fun aO a g=>bH [(0,.int .u64 aO)] ⟨a,trivial⟩ (by kernel_rfl) g
def t(aO:Int)(Z:V)(Y:J):Prop:=u.t Y aO Z
theorem ok{aO:Int}{Z:V}{Y:J}(g:t aO Z Y):aG id #[.int .u64 aO] Z Y:=
 c9 dA (c:=q) (c3:=[.tmp 2]) Try.func70 (by kernel_rfl) (by kernel_rfl) (by kernel_rfl) (args:=[.int .u64 aO]) (by kernel_rfl) (u.ok Y _ Z (bJ rfl (g)))
end n5
namespace jW
noncomputable def q:Code:=c8 Try.f71
def aD.t(Y:J)(a:R)(b c:Nat)(Z:V):Prop:=
 Y (.slice a b c) Z
def aD.g(Y:J)(X:Fr)(Z:V):Prop:=aE (X 7) fun a b c=>aD.t Y a b c Z
theorem aD.ok(Y:J)(X:Fr)(Z:V)(g:aD.g Y X Z):den prog E (aP q [W,W,W,W,W,W]) (aX E [.tmp 6] Y) X Z:=
 a0 g fun a b c d g=>bH [(7,.slice a b c)] ⟨d,trivial⟩ (by kernel_rfl) g
def a8.g(a:Int→R→Nat→Nat→Int→Int→Int→V→Prop)(X:Fr)(Z:V):Prop:=aC .i64 (X 1) fun r=>aE (X 7) fun b c d=>aC .u64 (X 8) fun aL=>aC .i64 (X 19) fun e=>aC .i64 (X 20) fun f=>a r b c d aL e f Z
def bS.t(Y:J)(a:Int→R→Nat→Nat→Int→Int→Int→V→Prop)(r:Int)(b:R)(c d:Nat)(aL e f:Int)(Z:V):Prop:=
 cond (decide (f < e)) (cC b c f 1 fun g=>
 c5 Z .u64 g fun g=>
 0≤r∧aN (e7 .u64 g r) fun g=>
 aN (iX .u64 g aL) fun g=>
 cC b c f 1 fun h=>
 c5 Z .u64 h fun h=>
 aN (IntKind.i64.wrap (64 - r)) fun i=>
 0≤i∧aN (fC .u64 h i) fun h=>
 cC b c f 1 fun i=>
 bI Z i (.int .u64 g) fun g=>
 aN (IntKind.i64.wrap (f+1)) fun f=>
 a r b c d h e f g) (aD.t Y b c d Z)
def bS.g(Y:J)(a:Int→R→Nat→Nat→Int→Int→Int→V→Prop)(X:Fr)(Z:V):Prop:=aC .i64 (X 1) fun r=>aE (X 7) fun b c d=>aC .u64 (X 8) fun aL=>aC .i64 (X 19) fun e=>aC .i64 (X 20) fun f=>bS.t Y a r b c d aL e f Z
theorem bS.ok(Y:J)(a:Int→R→Nat→Nat→Int→Int→Int→V→Prop)(X:Fr)(Z:V)(g:bS.g Y a X Z):den prog E (aP q [W,W,W,W,W,p,W,p,p]) (aM.then (a8.g a) (aM.inBlock 0 (aM.then (aD.g Y) (aX E [.tmp 6] Y)))) X Z:=
 aW g fun r a g=>a0 g fun b c d e g=>aW g fun aL f g=>aW g fun h i g=>aW g fun j l g=>bH [(1,.int .i64 r),(7,.slice b c d),(8,.int .u64 aL),(19,.int .i64 h),(20,.int .i64 j)] ⟨a,e,f,i,l,trivial⟩ (by kernel_rfl) g
def a8.t(Y:J):Nat→Int→R→Nat→Nat→Int→Int→Int→V→Prop
 | 0=>fun _ _ _ _ _ _ _ _=>False
 | n+1=>fun r a b c aL d e Z=>bS.t Y (a8.t Y n) r a b c aL d e Z
theorem a8.ok(Y:J)(X:Fr)(Z:V)(g:a8.g (fun r a b c aL d e Z=>∃ n,a8.t Y n r a b c aL d e Z) X Z):den prog E (aP q [W,W,W,W,W,p,W,p]) (aM.inBlock 0 (aM.then (aD.g Y) (aX E [.tmp 6] Y))) X Z:=by
 obtain⟨r,f,g⟩:=bC g
 obtain⟨a,b,c,h,g⟩:=bT g
 obtain⟨aL,i,g⟩:=bC g
 obtain⟨d,j,g⟩:=bC g
 obtain⟨e,l,g⟩:=bC g
 obtain⟨n,g⟩:=g
 refine eZ (fun n=>a8.g (a8.t Y n)) (N:=(aP q [W,W,W,W,W,p,W,p,p])) (by kernel_rfl) (fun X Z g=>?_) (fun n=>bS.ok Y (a8.t Y n)) n X Z (bJ f (aQ h (bJ i (bJ j (bJ l (g))))))
 obtain⟨r,f,g⟩:=bC g
 obtain⟨a,b,c,h,g⟩:=bT g
 obtain⟨aL,i,g⟩:=bC g
 obtain⟨d,j,g⟩:=bC g
 obtain⟨e,l,g⟩:=bC g
 exact g
theorem gG.ok(Y:J)(X:Fr)(Z:V)(g:a8.g (fun r a b c aL d e Z=>∃ n,a8.t Y n r a b c aL d e Z) X Z):den prog E (aP q [W,W,W,W,W,p,W]) (aM.then (aD.g Y) (aX E [.tmp 6] Y)) X Z:=
 eN (by kernel_rfl) (a8.ok Y X Z g)
def a4.t(Y:J)(r:Int)(a:R)(b c:Nat)(aL:Int)(Z:V):Prop:=
 (∃ n,a8.t Y n r a b c aL (((b:Nat):Int)) 0 Z)
def a4.g(Y:J)(X:Fr)(Z:V):Prop:=aC .i64 (X 1) fun r=>aE (X 7) fun a b c=>aC .u64 (X 8) fun aL=>a4.t Y r a b c aL Z
theorem a4.ok(Y:J)(X:Fr)(Z:V)(g:a4.g Y X Z):den prog E (aP q [W,W,W,W,W,p]) (aM.then (aD.g Y) (aX E [.tmp 6] Y)) X Z:=
 aW g fun r a g=>a0 g fun b c d e g=>aW g fun aL f g=>cN 1 (C:=(aP q [W,W,W,W,W,p,W])) (by kernel_rfl) (gG.ok Y) (bH [(1,.int .i64 r),(7,.slice b c d),(8,.int .u64 aL)] ⟨a,e,f,trivial⟩ (by kernel_rfl) g)
theorem gH.ok(Y:J)(X:Fr)(Z:V)(g:a4.g Y X Z):den prog E (aP q [W,W,W,W,W]) (aX E [.tmp 6] Y) X Z:=
 e8 (by kernel_rfl) (aD.ok Y) (a4.ok Y X Z g)
def u.t(Y:J)(a:R)(b c:Nat)(r aU:Int)(Z:V):Prop:=
 g1 Z 23 k5 aU aU fun d e=>
 kR e 1 (some d) aU.toNat (.slice a b c) fun a a=>
 cond (r == 0) (Y (.slice (some d) aU.toNat aU.toNat) a) (a4.t Y r (some d) aU.toNat aU.toNat 0 a)
def u.g(Y:J)(X:Fr)(Z:V):Prop:=aE (X 0) fun a b c=>aC .i64 (X 1) fun r=>aC .i64 (X 2) fun aU=>u.t Y a b c r aU Z
theorem u.ok(Y:J)(X:Fr)(Z:V)(g:u.g Y X Z):den prog E q (aX E [.tmp 6] Y) X Z:=
 a0 g fun a b c d g=>aW g fun r e g=>aW g fun aU f g=>cN 5 (C:=(aP q [W,W,W,W,W])) (by kernel_rfl) (gH.ok Y) (bH [(0,.slice a b c),(1,.int .i64 r),(2,.int .i64 aU)] ⟨d,e,f,trivial⟩ (by kernel_rfl) g)
def t(a:R)(b c:Nat)(r aU:Int)(Z:V)(Y:J):Prop:=u.t Y a b c r aU Z
theorem ok{a:R}{b:Nat}{d:Nat}{r:Int}{aU:Int}{Z:V}{Y:J}(g:t a b d r aU Z Y):aG id #[.slice a b d,.int .i64 r,.int .i64 aU] Z Y:=
 c9 dA (c:=q) (c3:=[.tmp 6]) Try.func71 (by kernel_rfl) (by kernel_rfl) (by kernel_rfl) (args:=[.slice a b d,.int .i64 r,.int .i64 aU]) (by kernel_rfl) (u.ok Y _ Z (aQ rfl (bJ rfl (bJ rfl (g)))))
end jW
namespace g6
noncomputable def q:Code:=c8 Try.f72
def a4.t(Y:J)(a:R)(b c:Nat)(Z:V):Prop:=
 Y (.slice a b c) Z
def a4.g(Y:J)(X:Fr)(Z:V):Prop:=aE (X 6) fun a b c=>a4.t Y a b c Z
theorem a4.ok(Y:J)(X:Fr)(Z:V)(g:a4.g Y X Z):den prog E (aP q [W,p,W,W,W,W]) (aX E [.tmp 4] Y) X Z:=
 a0 g fun a b c d g=>bH [(6,.slice a b c)] ⟨d,trivial⟩ (by kernel_rfl) g
def eC.g(a:R→Nat→Nat→R→Nat→Nat→Int→R→Nat→Nat→Int→V→Prop)(X:Fr)(Z:V):Prop:=aE (X 0) fun b c d=>aE (X 1) fun e B f=>aC .i64 (X 5) fun h=>aE (X 6) fun i j l=>aC .i64 (X 7) fun aA=>a b c d e B f h i j l aA Z
def dP.t(Y:J)(a:R→Nat→Nat→R→Nat→Nat→Int→R→Nat→Nat→Int→V→Prop)(b:R)(c d:Nat)(e:R)(B f:Nat)(g:Int)(h:R)(i j:Nat)(aA:Int)(Z:V):Prop:=
 aN (IntKind.i64.wrap (aA - 1)) fun l=>a b c d e B f g h i j l Z
def dP.g(Y:J)(a:R→Nat→Nat→R→Nat→Nat→Int→R→Nat→Nat→Int→V→Prop)(X:Fr)(Z:V):Prop:=aE (X 0) fun b c d=>aE (X 1) fun e B f=>aC .i64 (X 5) fun h=>aE (X 6) fun i j l=>aC .i64 (X 7) fun aA=>dP.t Y a b c d e B f h i j l aA Z
theorem dP.ok(Y:J)(a:R→Nat→Nat→R→Nat→Nat→Int→R→Nat→Nat→Int→V→Prop)(X:Fr)(Z:V)(g:dP.g Y a X Z):den prog E (aP q [W,p,W,W,W,p,W,p,p,W,W]) (aM.then (eC.g a) (aM.inBlock 0 (aM.then (a4.g Y) (aX E [.tmp 4] Y)))) X Z:=
 a0 g fun a b c d g=>a0 g fun e B f h g=>aW g fun i j g=>a0 g fun l m n t g=>aW g fun aA v g=>bH [(0,.slice a b c),(1,.slice e B f),(5,.int .i64 i),(6,.slice l m n),(7,.int .i64 aA)] ⟨d,h,j,t,v,trivial⟩ (by kernel_rfl) g
def fM.g(a:R→Nat→Nat→R→Nat→Nat→Int→R→Nat→Nat→Int→Int→R→Nat→Nat→V→Prop)(X:Fr)(Z:V):Prop:=aE (X 0) fun b c d=>aE (X 1) fun e B f=>aC .i64 (X 5) fun h=>aE (X 6) fun i j l=>aC .i64 (X 7) fun aA=>aC .u64 (X 8) fun aL=>aE (X 9) fun m n t=>a b c d e B f h i j l aA aL m n t Z
def gY.t(Y:J)(a:R→Nat→Nat→R→Nat→Nat→Int→R→Nat→Nat→Int→V→Prop)(b:R→Nat→Nat→R→Nat→Nat→Int→R→Nat→Nat→Int→Int→R→Nat→Nat→V→Prop)(c:R)(d e:Nat)(f:R)(B g:Nat)(h:Int)(i:R)(j l:Nat)(aA aL:Int)(m:R)(n v:Nat)(Z:V):Prop:=
 aN (IntKind.u64.wrap (aL - 1)) fun D=>
 aG kG.id #[.slice m n v,.slice f B g] Z fun E G=>
 aC .u64 E fun E=>
 cond (E == 1) (cC i j aA 1 fun E=>
 bI G E (.int .u64 D) fun E=>
 dP.t Y a c d e f B g h i j l aA E) (b c d e f B g h i j l aA D m n v G)
def gY.g(Y:J)(a:R→Nat→Nat→R→Nat→Nat→Int→R→Nat→Nat→Int→V→Prop)(b:R→Nat→Nat→R→Nat→Nat→Int→R→Nat→Nat→Int→Int→R→Nat→Nat→V→Prop)(X:Fr)(Z:V):Prop:=aE (X 0) fun c d e=>aE (X 1) fun f B h=>aC .i64 (X 5) fun i=>aE (X 6) fun j l m=>aC .i64 (X 7) fun aA=>aC .u64 (X 8) fun aL=>aE (X 9) fun n v D=>gY.t Y a b c d e f B h i j l m aA aL n v D Z
theorem gY.ok(Y:J)(a:R→Nat→Nat→R→Nat→Nat→Int→R→Nat→Nat→Int→V→Prop)(b:R→Nat→Nat→R→Nat→Nat→Int→R→Nat→Nat→Int→Int→R→Nat→Nat→V→Prop)(X:Fr)(Z:V)(g:gY.g Y a b X Z):den prog E (aP q [W,p,W,W,W,p,W,p,p,W,p,p,W,W,W,p,p]) (aM.then (fM.g b) (aM.inBlock 2 (aM.inBlock 1 (aM.then (dP.g Y a) (aM.then (eC.g a) (aM.inBlock 0 (aM.then (a4.g Y) (aX E [.tmp 4] Y)))))))) X Z:=
 a0 g fun a b c d g=>a0 g fun e B f h g=>aW g fun i j g=>a0 g fun l m n t g=>aW g fun aA v g=>aW g fun aL D g=>a0 g fun G H P Iv g=>bH [(0,.slice a b c),(1,.slice e B f),(5,.int .i64 i),(6,.slice l m n),(7,.int .i64 aA),(8,.int .u64 aL),(9,.slice G H P)] ⟨d,h,j,t,v,D,Iv,trivial⟩ (by kernel_rfl) g
def fM.t(Y:J)(a:R→Nat→Nat→R→Nat→Nat→Int→R→Nat→Nat→Int→V→Prop):Nat→R→Nat→Nat→R→Nat→Nat→Int→R→Nat→Nat→Int→Int→R→Nat→Nat→V→Prop
 | 0=>fun _ _ _ _ _ _ _ _ _ _ _ _ _ _ _ _=>False
 | n+1=>fun b c d e B f g h i j aA aL l m v Z=>gY.t Y a (fM.t Y a n) b c d e B f g h i j aA aL l m v Z
theorem fM.ok(Y:J)(a:R→Nat→Nat→R→Nat→Nat→Int→R→Nat→Nat→Int→V→Prop)(X:Fr)(Z:V)(g:fM.g (fun b c d e B f h i j l aA aL m v D Z=>∃ n,fM.t Y a n b c d e B f h i j l aA aL m v D Z) X Z):den prog E (aP q [W,p,W,W,W,p,W,p,p,W,p,p,W,W,W,p]) (aM.inBlock 2 (aM.inBlock 1 (aM.then (dP.g Y a) (aM.then (eC.g a) (aM.inBlock 0 (aM.then (a4.g Y) (aX E [.tmp 4] Y))))))) X Z:=by
 obtain⟨b,c,d,G,g⟩:=bT g
 obtain⟨e,B,f,H,g⟩:=bT g
 obtain⟨h,P,g⟩:=bC g
 obtain⟨i,j,l,Iv,g⟩:=bT g
 obtain⟨aA,Iw,g⟩:=bC g
 obtain⟨aL,Ix,g⟩:=bC g
 obtain⟨m,v,D,Iy,g⟩:=bT g
 obtain⟨n,g⟩:=g
 refine eZ (fun n=>fM.g (fM.t Y a n)) (N:=(aP q [W,p,W,W,W,p,W,p,p,W,p,p,W,W,W,p,p])) (by kernel_rfl) (fun X Z g=>?_) (fun n=>gY.ok Y a (fM.t Y a n)) n X Z (aQ G (aQ H (bJ P (aQ Iv (bJ Iw (bJ Ix (aQ Iy (g))))))))
 obtain⟨b,c,d,G,g⟩:=bT g
 obtain⟨e,B,f,H,g⟩:=bT g
 obtain⟨h,P,g⟩:=bC g
 obtain⟨i,j,l,Iv,g⟩:=bT g
 obtain⟨aA,Iw,g⟩:=bC g
 obtain⟨aL,Ix,g⟩:=bC g
 obtain⟨m,v,D,Iy,g⟩:=bT g
 exact g
theorem hD.ok(Y:J)(a:R→Nat→Nat→R→Nat→Nat→Int→R→Nat→Nat→Int→V→Prop)(X:Fr)(Z:V)(g:fM.g (fun b c d e B f h i j l aA aL m v D Z=>∃ n,fM.t Y a n b c d e B f h i j l aA aL m v D Z) X Z):den prog E (aP q [W,p,W,W,W,p,W,p,p,W,p,p,W,W,W]) (aM.inBlock 1 (aM.then (dP.g Y a) (aM.then (eC.g a) (aM.inBlock 0 (aM.then (a4.g Y) (aX E [.tmp 4] Y)))))) X Z:=
 eN (by kernel_rfl) (fM.ok Y a X Z g)
def dX.t(Y:J)(a:R→Nat→Nat→R→Nat→Nat→Int→R→Nat→Nat→Int→V→Prop)(b:R)(c d:Nat)(e:R)(B f:Nat)(g:Int)(h:R)(i j:Nat)(aA:Int)(Z:V):Prop:=
 aN (IntKind.i64.wrap (aA+g)) fun l=>
 cC b c l 1 fun l=>
 c5 Z .u64 l fun l=>
 aN (IntKind.i64.wrap (aA+g)) fun m=>
 aN (IntKind.i64.wrap (m - 1)) fun m=>
 cC b c m 1 fun m=>
 c5 Z .u64 m fun m=>
 aN (IntKind.i64.wrap (g - 1)) fun v=>
 cC e B v 1 fun v=>
 c5 Z .u64 v fun v=>
 aG pG.id #[.int .u64 l,.int .u64 m,.int .u64 v] Z fun l m=>
 aC .u64 l fun l=>
 aN (IntKind.i64.wrap (aA+g)) fun v=>
 aN (IntKind.i64.wrap (v+1)) fun v=>
 gT 1 b c d (some (.int .i64 aA)) (some (.int .i64 v)) none fun v D E=>
 aG kF.id #[.slice v D E,.slice e B f,.int .u64 l] m fun m G=>
 aC .u64 m fun m=>
 cond (m == 0) (cC h i aA 1 fun m=>
 bI G m (.int .u64 l) fun m=>
 dP.t Y a b c d e B f g h i j aA m) ((∃ n,fM.t Y a n b c d e B f g h i j aA l v D E G))
def dX.g(Y:J)(a:R→Nat→Nat→R→Nat→Nat→Int→R→Nat→Nat→Int→V→Prop)(X:Fr)(Z:V):Prop:=aE (X 0) fun b c d=>aE (X 1) fun e B f=>aC .i64 (X 5) fun h=>aE (X 6) fun i j l=>aC .i64 (X 7) fun aA=>dX.t Y a b c d e B f h i j l aA Z
theorem dX.ok(Y:J)(a:R→Nat→Nat→R→Nat→Nat→Int→R→Nat→Nat→Int→V→Prop)(X:Fr)(Z:V)(g:dX.g Y a X Z):den prog E (aP q [W,p,W,W,W,p,W,p,p,W,p,p]) (aM.inBlock 1 (aM.then (dP.g Y a) (aM.then (eC.g a) (aM.inBlock 0 (aM.then (a4.g Y) (aX E [.tmp 4] Y)))))) X Z:=
 a0 g fun b c d e g=>a0 g fun f B h i g=>aW g fun j l g=>a0 g fun m n t v g=>aW g fun aA D g=>cN 3 (C:=(aP q [W,p,W,W,W,p,W,p,p,W,p,p,W,W,W])) (by kernel_rfl) (hD.ok Y a) (bH [(0,.slice b c d),(1,.slice f B h),(5,.int .i64 j),(6,.slice m n t),(7,.int .i64 aA)] ⟨e,i,l,v,D,trivial⟩ (by kernel_rfl) g)
theorem h0.ok(Y:J)(a:R→Nat→Nat→R→Nat→Nat→Int→R→Nat→Nat→Int→V→Prop)(X:Fr)(Z:V)(g:dX.g Y a X Z):den prog E (aP q [W,p,W,W,W,p,W,p,p,W,p]) (aM.then (dP.g Y a) (aM.then (eC.g a) (aM.inBlock 0 (aM.then (a4.g Y) (aX E [.tmp 4] Y))))) X Z:=
 eN (by kernel_rfl) (dX.ok Y a X Z g)
theorem sZ.ok(Y:J)(a:R→Nat→Nat→R→Nat→Nat→Int→R→Nat→Nat→Int→V→Prop)(X:Fr)(Z:V)(g:dX.g Y a X Z):den prog E (aP q [W,p,W,W,W,p,W,p,p,W]) (aM.then (eC.g a) (aM.inBlock 0 (aM.then (a4.g Y) (aX E [.tmp 4] Y)))) X Z:=
 e8 (by kernel_rfl) (dP.ok Y a) (h0.ok Y a X Z g)
def cW.t(Y:J)(a:R→Nat→Nat→R→Nat→Nat→Int→R→Nat→Nat→Int→V→Prop)(b:R)(c d:Nat)(e:R)(B f:Nat)(g:Int)(h:R)(i j:Nat)(aA:Int)(Z:V):Prop:=
 cond (decide (aA≥0)) (dX.t Y a b c d e B f g h i j aA Z) (a4.t Y h i j Z)
def cW.g(Y:J)(a:R→Nat→Nat→R→Nat→Nat→Int→R→Nat→Nat→Int→V→Prop)(X:Fr)(Z:V):Prop:=aE (X 0) fun b c d=>aE (X 1) fun e B f=>aC .i64 (X 5) fun h=>aE (X 6) fun i j l=>aC .i64 (X 7) fun aA=>cW.t Y a b c d e B f h i j l aA Z
theorem cW.ok(Y:J)(a:R→Nat→Nat→R→Nat→Nat→Int→R→Nat→Nat→Int→V→Prop)(X:Fr)(Z:V)(g:cW.g Y a X Z):den prog E (aP q [W,p,W,W,W,p,W,p,p]) (aM.then (eC.g a) (aM.inBlock 0 (aM.then (a4.g Y) (aX E [.tmp 4] Y)))) X Z:=
 a0 g fun b c d e g=>a0 g fun f B h i g=>aW g fun j l g=>a0 g fun m n t v g=>aW g fun aA D g=>cN 1 (C:=(aP q [W,p,W,W,W,p,W,p,p,W])) (by kernel_rfl) (sZ.ok Y a) (bH [(0,.slice b c d),(1,.slice f B h),(5,.int .i64 j),(6,.slice m n t),(7,.int .i64 aA)] ⟨e,i,l,v,D,trivial⟩ (by kernel_rfl) g)
def eC.t(Y:J):Nat→R→Nat→Nat→R→Nat→Nat→Int→R→Nat→Nat→Int→V→Prop
 | 0=>fun _ _ _ _ _ _ _ _ _ _ _ _=>False
 | n+1=>fun a b c d B e f g h i aA Z=>cW.t Y (eC.t Y n) a b c d B e f g h i aA Z
theorem eC.ok(Y:J)(X:Fr)(Z:V)(g:eC.g (fun a b c d B e f h i j aA Z=>∃ n,eC.t Y n a b c d B e f h i j aA Z) X Z):den prog E (aP q [W,p,W,W,W,p,W,p]) (aM.inBlock 0 (aM.then (a4.g Y) (aX E [.tmp 4] Y))) X Z:=by
 obtain⟨a,b,c,l,g⟩:=bT g
 obtain⟨d,B,e,m,g⟩:=bT g
 obtain⟨f,v,g⟩:=bC g
 obtain⟨h,i,j,D,g⟩:=bT g
 obtain⟨aA,G,g⟩:=bC g
 obtain⟨n,g⟩:=g
 refine eZ (fun n=>eC.g (eC.t Y n)) (N:=(aP q [W,p,W,W,W,p,W,p,p])) (by kernel_rfl) (fun X Z g=>?_) (fun n=>cW.ok Y (eC.t Y n)) n X Z (aQ l (aQ m (bJ v (aQ D (bJ G (g))))))
 obtain⟨a,b,c,l,g⟩:=bT g
 obtain⟨d,B,e,m,g⟩:=bT g
 obtain⟨f,v,g⟩:=bC g
 obtain⟨h,i,j,D,g⟩:=bT g
 obtain⟨aA,G,g⟩:=bC g
 exact g
theorem eR.ok(Y:J)(X:Fr)(Z:V)(g:eC.g (fun a b c d B e f h i j aA Z=>∃ n,eC.t Y n a b c d B e f h i j aA Z) X Z):den prog E (aP q [W,p,W,W,W,p,W]) (aM.then (a4.g Y) (aX E [.tmp 4] Y)) X Z:=
 eN (by kernel_rfl) (eC.ok Y X Z g)
def bP.t(Y:J)(a:R)(b c:Nat)(d:R)(B e:Nat)(f:Int)(g:R)(h i:Nat)(Z:V):Prop:=
 aN (IntKind.i64.wrap ((((b:Nat):Int)) - f)) fun j=>
 aN (IntKind.i64.wrap (j - 1)) fun j=>
 (∃ n,eC.t Y n a b c d B e f g h i j Z)
def bP.g(Y:J)(X:Fr)(Z:V):Prop:=aE (X 0) fun a b c=>aE (X 1) fun d B e=>aC .i64 (X 5) fun f=>aE (X 6) fun h i j=>bP.t Y a b c d B e f h i j Z
theorem bP.ok(Y:J)(X:Fr)(Z:V)(g:bP.g Y X Z):den prog E (aP q [W,p,W,W,W,p]) (aM.then (a4.g Y) (aX E [.tmp 4] Y)) X Z:=
 a0 g fun a b c d g=>a0 g fun e B f h g=>aW g fun i j g=>a0 g fun l m n t g=>cN 1 (C:=(aP q [W,p,W,W,W,p,W])) (by kernel_rfl) (eR.ok Y) (bH [(0,.slice a b c),(1,.slice e B f),(5,.int .i64 i),(6,.slice l m n)] ⟨d,h,j,t,trivial⟩ (by kernel_rfl) g)
theorem s0.ok(Y:J)(X:Fr)(Z:V)(g:bP.g Y X Z):den prog E (aP q [W,p,W,W,W]) (aX E [.tmp 4] Y) X Z:=
 e8 (by kernel_rfl) (a4.ok Y) (bP.ok Y X Z g)
def aD.t(Y:J)(a:R)(b c:Nat)(d:R)(B e:Nat)(Z:V):Prop:=
 aN (IntKind.i64.wrap ((((b:Nat):Int)) - (((B:Nat):Int)))) fun dF=>
 g1 Z 23 k5 dF dF fun f g=>
 bP.t Y a b c d B e (((B:Nat):Int)) (some f) dF.toNat dF.toNat g
def aD.g(Y:J)(X:Fr)(Z:V):Prop:=aE (X 0) fun a b c=>aE (X 1) fun d B e=>aD.t Y a b c d B e Z
theorem aD.ok(Y:J)(X:Fr)(Z:V)(g:aD.g Y X Z):den prog E (aP q [W,p]) (aX E [.tmp 4] Y) X Z:=
 a0 g fun a b c d g=>a0 g fun e B f h g=>cN 3 (C:=(aP q [W,p,W,W,W])) (by kernel_rfl) (s0.ok Y) (bH [(0,.slice a b c),(1,.slice e B f)] ⟨d,h,trivial⟩ (by kernel_rfl) g)
theorem kI.ok(Y:J)(X:Fr)(Z:V)(g:aD.g Y X Z):den prog E (aP q [W]) (aX E [.tmp 4] Y) X Z:=
 DB (by kernel_rfl) (aD.ok Y X Z g)
def u.t(Y:J)(a:R)(b c:Nat)(d:R)(B e:Nat)(Z:V):Prop:=
 aD.t Y a b c d B e Z
def u.g(Y:J)(X:Fr)(Z:V):Prop:=aE (X 0) fun a b c=>aE (X 1) fun d B e=>u.t Y a b c d B e Z
theorem u.ok(Y:J)(X:Fr)(Z:V)(g:u.g Y X Z):den prog E q (aX E [.tmp 4] Y) X Z:=
 a0 g fun a b c d g=>a0 g fun e B f h g=>cN 1 (C:=(aP q [W])) (by kernel_rfl) (kI.ok Y) (bH [(0,.slice a b c),(1,.slice e B f)] ⟨d,h,trivial⟩ (by kernel_rfl) g)
def t(a:R)(b c:Nat)(d:R)(B e:Nat)(Z:V)(Y:J):Prop:=u.t Y a b c d B e Z
theorem ok{a:R}{b:Nat}{d:Nat}{e:R}{B:Nat}{f:Nat}{Z:V}{Y:J}(g:t a b d e B f Z Y):aG id #[.slice a b d,.slice e B f] Z Y:=
 c9 dA (c:=q) (c3:=[.tmp 4]) Try.func72 (by kernel_rfl) (by kernel_rfl) (by kernel_rfl) (args:=[.slice a b d,.slice e B f]) (by kernel_rfl) (u.ok Y _ Z (aQ rfl (aQ rfl (g))))
end g6
namespace nG
noncomputable def q:Code:=c8 Try.f73
def aD.t(Y:J)(a:R)(b c:Nat)(d:R)(B e:Nat)(f:R)(bO bA:Nat)(Z:V):Prop:=
 cond (decide ((((bO:Nat):Int)) < 40)) (aG hW.id #[.slice a b c,.slice d B e,.slice f bO bA] Z fun g h=>
 cO g fun g=>
 bG g <| Y (.tuple #[]) h) (aN (IntKind.i64.wrap (2*(((bO:Nat):Int)))) fun g=>
 cond (decide ((((B:Nat):Int))≥g)) (aG lG.id #[.slice a b c,.slice d B e,.slice f bO bA] Z fun g h=>
 cO g fun g=>
 bG g <| Y (.tuple #[]) h) (aG pJ.id #[.slice a b c,.slice d B e,.slice f bO bA] Z fun a b=>
 cO a fun a=>
 bG a <| Y (.tuple #[]) b))
def aD.g(Y:J)(X:Fr)(Z:V):Prop:=aE (X 0) fun a b c=>aE (X 1) fun d B e=>aE (X 2) fun f bO bA=>aD.t Y a b c d B e f bO bA Z
theorem aD.ok(Y:J)(X:Fr)(Z:V)(g:aD.g Y X Z):den prog E (aP q [W]) (aX E [] Y) X Z:=
 a0 g fun a b c d g=>a0 g fun e B f h g=>a0 g fun i bO bA j g=>bH [(0,.slice a b c),(1,.slice e B f),(2,.slice i bO bA)] ⟨d,h,j,trivial⟩ (by kernel_rfl) g
def u.t(Y:J)(a:R)(b c:Nat)(d:R)(B e:Nat)(f:R)(bO bA:Nat)(Z:V):Prop:=
 cond (decide ((((B:Nat):Int)) < (((bO:Nat):Int)))) (aD.t Y a b c f bO bA d B e Z) (aD.t Y a b c d B e f bO bA Z)
def u.g(Y:J)(X:Fr)(Z:V):Prop:=aE (X 0) fun a b c=>aE (X 1) fun d B e=>aE (X 2) fun f bO bA=>u.t Y a b c d B e f bO bA Z
theorem u.ok(Y:J)(X:Fr)(Z:V)(g:u.g Y X Z):den prog E q (aX E [] Y) X Z:=
 a0 g fun a b c d g=>a0 g fun e B f h g=>a0 g fun i bO bA j g=>cN 1 (C:=(aP q [W])) (by kernel_rfl) (aD.ok Y) (bH [(0,.slice a b c),(1,.slice e B f),(2,.slice i bO bA)] ⟨d,h,j,trivial⟩ (by kernel_rfl) g)
def t(a:R)(b c:Nat)(d:R)(B e:Nat)(f:R)(bO bA:Nat)(Z:V)(Y:J):Prop:=u.t Y a b c d B e f bO bA Z
theorem ok{a:R}{b:Nat}{d:Nat}{e:R}{B:Nat}{f:Nat}{h:R}{bO:Nat}{bA:Nat}{Z:V}{Y:J}(g:t a b d e B f h bO bA Z Y):aG id #[.slice a b d,.slice e B f,.slice h bO bA] Z Y:=
 c9 dA (c:=q) (c3:=[]) Try.func73 (by kernel_rfl) (by kernel_rfl) (by kernel_rfl) (args:=[.slice a b d,.slice e B f,.slice h bO bA]) (by kernel_rfl) (u.ok Y _ Z (aQ rfl (aQ rfl (aQ rfl (g)))))
end nG
namespace jX
noncomputable def q:Code:=c8 Try.f74
def aD.t(Y:J)(a:R)(b c:Nat)(d:Int)(Z:V):Prop:=
 gT 1 a b c none (some (.int .i64 d)) (some (.int .i64 d)) fun a b c=>Y (.slice a b c) Z
def aD.g(Y:J)(X:Fr)(Z:V):Prop:=aE (X 0) fun a b c=>aC .i64 (X 3) fun d=>aD.t Y a b c d Z
theorem aD.ok(Y:J)(X:Fr)(Z:V)(g:aD.g Y X Z):den prog E (aP q [W,W,W]) (aX E [.tmp 2] Y) X Z:=
 a0 g fun a b c d g=>aW g fun e f g=>bH [(0,.slice a b c),(3,.int .i64 e)] ⟨d,f,trivial⟩ (by kernel_rfl) g
def bZ.g(a:R→Nat→Nat→Int→V→Prop)(X:Fr)(Z:V):Prop:=aE (X 0) fun b c d=>aC .i64 (X 3) fun e=>a b c d e Z
def bP.t(Y:J)(a:R→Nat→Nat→Int→V→Prop)(b:R)(c d:Nat)(e:Int)(Z:V):Prop:=
 cond (decide (e > 0)) (aN (IntKind.i64.wrap (e - 1)) fun eY=>
 cC b c eY 1 fun f=>
 c5 Z .u64 f fun f=>
 cond (f == 0) (aN (IntKind.i64.wrap (e - 1)) fun f=>
 a b c d f Z) (aD.t Y b c d e Z)) (aD.t Y b c d e Z)
def bP.g(Y:J)(a:R→Nat→Nat→Int→V→Prop)(X:Fr)(Z:V):Prop:=aE (X 0) fun b c d=>aC .i64 (X 3) fun e=>bP.t Y a b c d e Z
theorem bP.ok(Y:J)(a:R→Nat→Nat→Int→V→Prop)(X:Fr)(Z:V)(g:bP.g Y a X Z):den prog E (aP q [W,W,p,p,p]) (aM.then (bZ.g a) (aM.inBlock 0 (aM.then (aD.g Y) (aX E [.tmp 2] Y)))) X Z:=
 a0 g fun a b c d g=>aW g fun e f g=>bH [(0,.slice a b c),(3,.int .i64 e)] ⟨d,f,trivial⟩ (by kernel_rfl) g
def bZ.t(Y:J):Nat→R→Nat→Nat→Int→V→Prop
 | 0=>fun _ _ _ _ _=>False
 | n+1=>fun a b c d Z=>bP.t Y (bZ.t Y n) a b c d Z
theorem bZ.ok(Y:J)(X:Fr)(Z:V)(g:bZ.g (fun a b c d Z=>∃ n,bZ.t Y n a b c d Z) X Z):den prog E (aP q [W,W,p,p]) (aM.inBlock 0 (aM.then (aD.g Y) (aX E [.tmp 2] Y))) X Z:=by
 obtain⟨a,b,c,e,g⟩:=bT g
 obtain⟨d,f,g⟩:=bC g
 obtain⟨n,g⟩:=g
 refine eZ (fun n=>bZ.g (bZ.t Y n)) (N:=(aP q [W,W,p,p,p])) (by kernel_rfl) (fun X Z g=>?_) (fun n=>bP.ok Y (bZ.t Y n)) n X Z (aQ e (bJ f (g)))
 obtain⟨a,b,c,e,g⟩:=bT g
 obtain⟨d,f,g⟩:=bC g
 exact g
theorem hY.ok(Y:J)(X:Fr)(Z:V)(g:bZ.g (fun a b c d Z=>∃ n,bZ.t Y n a b c d Z) X Z):den prog E (aP q [W,W,p]) (aM.then (aD.g Y) (aX E [.tmp 2] Y)) X Z:=
 eN (by kernel_rfl) (bZ.ok Y X Z g)
theorem p2.ok(Y:J)(X:Fr)(Z:V)(g:bZ.g (fun a b c d Z=>∃ n,bZ.t Y n a b c d Z) X Z):den prog E (aP q [W,W]) (aX E [.tmp 2] Y) X Z:=
 e8 (by kernel_rfl) (aD.ok Y) (hY.ok Y X Z g)
def u.t(Y:J)(a:R)(b c:Nat)(Z:V):Prop:=
 (∃ n,bZ.t Y n a b c (((b:Nat):Int)) Z)
def u.g(Y:J)(X:Fr)(Z:V):Prop:=aE (X 0) fun a b c=>u.t Y a b c Z
theorem u.ok(Y:J)(X:Fr)(Z:V)(g:u.g Y X Z):den prog E q (aX E [.tmp 2] Y) X Z:=
 a0 g fun a b c d g=>cN 2 (C:=(aP q [W,W])) (by kernel_rfl) (p2.ok Y) (bH [(0,.slice a b c)] ⟨d,trivial⟩ (by kernel_rfl) g)
def t(a:R)(b c:Nat)(Z:V)(Y:J):Prop:=u.t Y a b c Z
theorem ok{a:R}{b:Nat}{d:Nat}{Z:V}{Y:J}(g:t a b d Z Y):aG id #[.slice a b d] Z Y:=
 c9 dA (c:=q) (c3:=[.tmp 2]) Try.func74 (by kernel_rfl) (by kernel_rfl) (by kernel_rfl) (args:=[.slice a b d]) (by kernel_rfl) (u.ok Y _ Z (aQ rfl (g)))
end jX
namespace fH
noncomputable def q:Code:=c8 Try.f75
def bS.t(Y:J)(aU aL:Int)(a b:Int)(c d:Int)(Z:V):Prop:=
 aN (IntKind.u64.wrap (b*4294967296)) fun b=>
 aN (IntKind.u64.wrap (b+d)) fun b=>
 aN (IntKind.u64.wrap (c*4294967296)) fun c=>
 aN (IntKind.u64.wrap (c+a)) fun a=>
 aN (IntKind.u64.wrap (d*aU)) fun c=>
 aN (IntKind.u64.wrap (a - c)) fun a=>
 0≤aL∧aN (fC .u64 a aL) fun a=>
 Y (.tuple #[.int .u64 b,.int .u64 a]) Z
def bS.g(Y:J)(X:Fr)(Z:V):Prop:=aC .u64 (X 2) fun aU=>aC .u64 (X 8) fun aL=>aC .u64 (X 14) fun a=>aC .u64 (X 15) fun b=>aC .u64 (X 17) fun c=>aC .u64 (X 18) fun d=>bS.t Y aU aL a b c d Z
theorem bS.ok(Y:J)(X:Fr)(Z:V)(g:bS.g Y X Z):den prog E (aP q [W,W,W,W,W,W,W,W,W,W,W,W,W,W,W,W,W,W,W]) (aX E [.tmp 6,.tmp 7] Y) X Z:=
 aW g fun aU a g=>aW g fun aL b g=>aW g fun c d g=>aW g fun e f g=>aW g fun h i g=>aW g fun j l g=>bH [(2,.int .u64 aU),(8,.int .u64 aL),(14,.int .u64 c),(15,.int .u64 e),(17,.int .u64 h),(18,.int .u64 j)] ⟨a,b,d,f,i,l,trivial⟩ (by kernel_rfl) g
def fA.g(a:Int→Int→Int→Int→Int→Int→Int→Int→Int→V→Prop)(X:Fr)(Z:V):Prop:=aC .u64 (X 2) fun aU=>aC .u64 (X 8) fun aL=>aC .u64 (X 9) fun aR=>aC .u64 (X 10) fun b=>aC .u64 (X 14) fun c=>aC .u64 (X 15) fun d=>aC .u64 (X 16) fun e=>aC .u64 (X 17) fun f=>aC .u64 (X 18) fun h=>a aU aL aR b c d e f h Z
def dX.t(Y:J)(a:Int→Int→Int→Int→Int→Int→Int→Int→Int→V→Prop)(aU aL:Int)(aR b:Int)(c d:Int)(e f g:Int)(Z:V):Prop:=
 aN (IntKind.u64.wrap (g - 1)) fun g=>
 aN (IntKind.u64.wrap (e+aR)) fun e=>
 cond (decide (e≥4294967296)) (bS.t Y aU aL c d f g Z) (a aU aL aR b c d e f g Z)
def dX.g(Y:J)(a:Int→Int→Int→Int→Int→Int→Int→Int→Int→V→Prop)(X:Fr)(Z:V):Prop:=aC .u64 (X 2) fun aU=>aC .u64 (X 8) fun aL=>aC .u64 (X 9) fun aR=>aC .u64 (X 10) fun b=>aC .u64 (X 14) fun c=>aC .u64 (X 15) fun d=>aC .u64 (X 16) fun e=>aC .u64 (X 17) fun f=>aC .u64 (X 18) fun h=>dX.t Y a aU aL aR b c d e f h Z
theorem dX.ok(Y:J)(a:Int→Int→Int→Int→Int→Int→Int→Int→Int→V→Prop)(X:Fr)(Z:V)(g:dX.g Y a X Z):den prog E (aP q [W,W,W,W,W,W,W,W,W,W,W,W,W,W,W,W,W,W,p,p,p,W]) (aM.then (fA.g a) (aM.inBlock 2 (aM.then (bS.g Y) (aX E [.tmp 6,.tmp 7] Y)))) X Z:=
 aW g fun aU a g=>aW g fun aL b g=>aW g fun aR c g=>aW g fun d e g=>aW g fun f h g=>aW g fun i j g=>aW g fun l m g=>aW g fun n t g=>aW g fun v D g=>bH [(2,.int .u64 aU),(8,.int .u64 aL),(9,.int .u64 aR),(10,.int .u64 d),(14,.int .u64 f),(15,.int .u64 i),(16,.int .u64 l),(17,.int .u64 n),(18,.int .u64 v)] ⟨a,b,c,e,h,j,m,t,D,trivial⟩ (by kernel_rfl) g
def dP.t(Y:J)(a:Int→Int→Int→Int→Int→Int→Int→Int→Int→V→Prop)(aU aL:Int)(aR b:Int)(c d:Int)(e f g:Int)(Z:V):Prop:=
 cond (decide (g≥4294967296)) (dX.t Y a aU aL aR b c d e f g Z) (aN (IntKind.u64.wrap (g*b)) fun h=>
 aN (IntKind.u64.wrap (4294967296*e)) fun i=>
 aN (IntKind.u64.wrap (i+c)) fun i=>
 cond (decide (h > i)) (dX.t Y a aU aL aR b c d e f g Z) (bS.t Y aU aL c d f g Z))
def dP.g(Y:J)(a:Int→Int→Int→Int→Int→Int→Int→Int→Int→V→Prop)(X:Fr)(Z:V):Prop:=aC .u64 (X 2) fun aU=>aC .u64 (X 8) fun aL=>aC .u64 (X 9) fun aR=>aC .u64 (X 10) fun b=>aC .u64 (X 14) fun c=>aC .u64 (X 15) fun d=>aC .u64 (X 16) fun e=>aC .u64 (X 17) fun f=>aC .u64 (X 18) fun h=>dP.t Y a aU aL aR b c d e f h Z
theorem dP.ok(Y:J)(a:Int→Int→Int→Int→Int→Int→Int→Int→Int→V→Prop)(X:Fr)(Z:V)(g:dP.g Y a X Z):den prog E (aP q [W,W,W,W,W,W,W,W,W,W,W,W,W,W,W,W,W,W,p,p,p]) (aM.then (fA.g a) (aM.inBlock 2 (aM.then (bS.g Y) (aX E [.tmp 6,.tmp 7] Y)))) X Z:=
 aW g fun aU b g=>aW g fun aL c g=>aW g fun aR d g=>aW g fun e f g=>aW g fun h i g=>aW g fun j l g=>aW g fun m n g=>aW g fun t v g=>aW g fun D G g=>cN 1 (C:=(aP q [W,W,W,W,W,W,W,W,W,W,W,W,W,W,W,W,W,W,p,p,p,W])) (by kernel_rfl) (dX.ok Y a) (bH [(2,.int .u64 aU),(8,.int .u64 aL),(9,.int .u64 aR),(10,.int .u64 e),(14,.int .u64 h),(15,.int .u64 j),(16,.int .u64 m),(17,.int .u64 t),(18,.int .u64 D)] ⟨b,c,d,f,i,l,n,v,G,trivial⟩ (by kernel_rfl) g)
def fA.t(Y:J):Nat→Int→Int→Int→Int→Int→Int→Int→Int→Int→V→Prop
 | 0=>fun _ _ _ _ _ _ _ _ _ _=>False
 | n+1=>fun aU aL aR a b c d e f Z=>dP.t Y (fA.t Y n) aU aL aR a b c d e f Z
theorem fA.ok(Y:J)(X:Fr)(Z:V)(g:fA.g (fun aU aL aR a b c d e f Z=>∃ n,fA.t Y n aU aL aR a b c d e f Z) X Z):den prog E (aP q [W,W,W,W,W,W,W,W,W,W,W,W,W,W,W,W,W,W,p,p]) (aM.inBlock 2 (aM.then (bS.g Y) (aX E [.tmp 6,.tmp 7] Y))) X Z:=by
 obtain⟨aU,h,g⟩:=bC g
 obtain⟨aL,i,g⟩:=bC g
 obtain⟨aR,j,g⟩:=bC g
 obtain⟨a,l,g⟩:=bC g
 obtain⟨b,m,g⟩:=bC g
 obtain⟨c,v,g⟩:=bC g
 obtain⟨d,D,g⟩:=bC g
 obtain⟨e,G,g⟩:=bC g
 obtain⟨f,H,g⟩:=bC g
 obtain⟨n,g⟩:=g
 refine eZ (fun n=>fA.g (fA.t Y n)) (N:=(aP q [W,W,W,W,W,W,W,W,W,W,W,W,W,W,W,W,W,W,p,p,p])) (by kernel_rfl) (fun X Z g=>?_) (fun n=>dP.ok Y (fA.t Y n)) n X Z (bJ h (bJ i (bJ j (bJ l (bJ m (bJ v (bJ D (bJ G (bJ H (g))))))))))
 obtain⟨aU,h,g⟩:=bC g
 obtain⟨aL,i,g⟩:=bC g
 obtain⟨aR,j,g⟩:=bC g
 obtain⟨a,l,g⟩:=bC g
 obtain⟨b,m,g⟩:=bC g
 obtain⟨c,v,g⟩:=bC g
 obtain⟨d,D,g⟩:=bC g
 obtain⟨e,G,g⟩:=bC g
 obtain⟨f,H,g⟩:=bC g
 exact g
theorem mX.ok(Y:J)(X:Fr)(Z:V)(g:fA.g (fun aU aL aR a b c d e f Z=>∃ n,fA.t Y n aU aL aR a b c d e f Z) X Z):den prog E (aP q [W,W,W,W,W,W,W,W,W,W,W,W,W,W,W,W,W,W,p]) (aM.then (bS.g Y) (aX E [.tmp 6,.tmp 7] Y)) X Z:=
 eN (by kernel_rfl) (fA.ok Y X Z g)
theorem s3.ok(Y:J)(X:Fr)(Z:V)(g:fA.g (fun aU aL aR a b c d e f Z=>∃ n,fA.t Y n aU aL aR a b c d e f Z) X Z):den prog E (aP q [W,W,W,W,W,W,W,W,W,W,W,W,W,W,W,W,W,W]) (aX E [.tmp 6,.tmp 7] Y) X Z:=
 e8 (by kernel_rfl) (bS.ok Y) (mX.ok Y X Z g)
def bP.t(Y:J)(aU aL:Int)(aR a:Int)(b c:Int)(d e:Int)(Z:V):Prop:=
 aN (IntKind.u64.wrap (b*4294967296)) fun b=>
 aN (IntKind.u64.wrap (b+c)) fun b=>
 aN (IntKind.u64.wrap (e*aU)) fun c=>
 aN (IntKind.u64.wrap (b - c)) fun b=>
 aR ≠ 0∧aN (IntKind.u64.wrap (Int.tdiv b aR)) fun c=>
 aN (IntKind.u64.wrap (c*aR)) fun f=>
 aN (IntKind.u64.wrap (b - f)) fun f=>
 (∃ n,fA.t Y n aU aL aR a d e f b c Z)
def bP.g(Y:J)(X:Fr)(Z:V):Prop:=aC .u64 (X 2) fun aU=>aC .u64 (X 8) fun aL=>aC .u64 (X 9) fun aR=>aC .u64 (X 10) fun a=>aC .u64 (X 11) fun b=>aC .u64 (X 13) fun c=>aC .u64 (X 14) fun d=>aC .u64 (X 15) fun e=>bP.t Y aU aL aR a b c d e Z
theorem bP.ok(Y:J)(X:Fr)(Z:V)(g:bP.g Y X Z):den prog E (aP q [W,W,W,W,W,W,W,W,W,W,W,W,W,W,W]) (aX E [.tmp 6,.tmp 7] Y) X Z:=
 aW g fun aU a g=>aW g fun aL b g=>aW g fun aR c g=>aW g fun d e g=>aW g fun f h g=>aW g fun i j g=>aW g fun l m g=>aW g fun n t g=>cN 3 (C:=(aP q [W,W,W,W,W,W,W,W,W,W,W,W,W,W,W,W,W,W])) (by kernel_rfl) (s3.ok Y) (bH [(2,.int .u64 aU),(8,.int .u64 aL),(9,.int .u64 aR),(10,.int .u64 d),(11,.int .u64 f),(13,.int .u64 i),(14,.int .u64 l),(15,.int .u64 n)] ⟨a,b,c,e,h,j,m,t,trivial⟩ (by kernel_rfl) g)
def hV.g(a:Int→Int→Int→Int→Int→Int→Int→Int→Int→V→Prop)(X:Fr)(Z:V):Prop:=aC .u64 (X 2) fun aU=>aC .u64 (X 8) fun aL=>aC .u64 (X 9) fun aR=>aC .u64 (X 10) fun b=>aC .u64 (X 11) fun c=>aC .u64 (X 13) fun d=>aC .u64 (X 14) fun e=>aC .u64 (X 15) fun f=>aC .u64 (X 16) fun h=>a aU aL aR b c d e f h Z
def l5.t(Y:J)(a:Int→Int→Int→Int→Int→Int→Int→Int→Int→V→Prop)(aU aL:Int)(aR b:Int)(c d:Int)(e f g:Int)(Z:V):Prop:=
 aN (IntKind.u64.wrap (f - 1)) fun f=>
 aN (IntKind.u64.wrap (g+aR)) fun g=>
 cond (decide (g≥4294967296)) (bP.t Y aU aL aR b c d e f Z) (a aU aL aR b c d e f g Z)
def l5.g(Y:J)(a:Int→Int→Int→Int→Int→Int→Int→Int→Int→V→Prop)(X:Fr)(Z:V):Prop:=aC .u64 (X 2) fun aU=>aC .u64 (X 8) fun aL=>aC .u64 (X 9) fun aR=>aC .u64 (X 10) fun b=>aC .u64 (X 11) fun c=>aC .u64 (X 13) fun d=>aC .u64 (X 14) fun e=>aC .u64 (X 15) fun f=>aC .u64 (X 16) fun h=>l5.t Y a aU aL aR b c d e f h Z
theorem l5.ok(Y:J)(a:Int→Int→Int→Int→Int→Int→Int→Int→Int→V→Prop)(X:Fr)(Z:V)(g:l5.g Y a X Z):den prog E (aP q [W,W,W,W,W,W,W,W,W,W,W,W,W,W,p,p,p,W]) (aM.then (hV.g a) (aM.inBlock 0 (aM.then (bP.g Y) (aX E [.tmp 6,.tmp 7] Y)))) X Z:=
 aW g fun aU a g=>aW g fun aL b g=>aW g fun aR c g=>aW g fun d e g=>aW g fun f h g=>aW g fun i j g=>aW g fun l m g=>aW g fun n t g=>aW g fun v D g=>bH [(2,.int .u64 aU),(8,.int .u64 aL),(9,.int .u64 aR),(10,.int .u64 d),(11,.int .u64 f),(13,.int .u64 i),(14,.int .u64 l),(15,.int .u64 n),(16,.int .u64 v)] ⟨a,b,c,e,h,j,m,t,D,trivial⟩ (by kernel_rfl) g
def n6.t(Y:J)(a:Int→Int→Int→Int→Int→Int→Int→Int→Int→V→Prop)(aU aL:Int)(aR b:Int)(c d:Int)(e f g:Int)(Z:V):Prop:=
 cond (decide (f≥4294967296)) (l5.t Y a aU aL aR b c d e f g Z) (aN (IntKind.u64.wrap (f*b)) fun h=>
 aN (IntKind.u64.wrap (4294967296*g)) fun i=>
 aN (IntKind.u64.wrap (i+d)) fun i=>
 cond (decide (h > i)) (l5.t Y a aU aL aR b c d e f g Z) (bP.t Y aU aL aR b c d e f Z))
def n6.g(Y:J)(a:Int→Int→Int→Int→Int→Int→Int→Int→Int→V→Prop)(X:Fr)(Z:V):Prop:=aC .u64 (X 2) fun aU=>aC .u64 (X 8) fun aL=>aC .u64 (X 9) fun aR=>aC .u64 (X 10) fun b=>aC .u64 (X 11) fun c=>aC .u64 (X 13) fun d=>aC .u64 (X 14) fun e=>aC .u64 (X 15) fun f=>aC .u64 (X 16) fun h=>n6.t Y a aU aL aR b c d e f h Z
theorem n6.ok(Y:J)(a:Int→Int→Int→Int→Int→Int→Int→Int→Int→V→Prop)(X:Fr)(Z:V)(g:n6.g Y a X Z):den prog E (aP q [W,W,W,W,W,W,W,W,W,W,W,W,W,W,p,p,p]) (aM.then (hV.g a) (aM.inBlock 0 (aM.then (bP.g Y) (aX E [.tmp 6,.tmp 7] Y)))) X Z:=
 aW g fun aU b g=>aW g fun aL c g=>aW g fun aR d g=>aW g fun e f g=>aW g fun h i g=>aW g fun j l g=>aW g fun m n g=>aW g fun t v g=>aW g fun D G g=>cN 1 (C:=(aP q [W,W,W,W,W,W,W,W,W,W,W,W,W,W,p,p,p,W])) (by kernel_rfl) (l5.ok Y a) (bH [(2,.int .u64 aU),(8,.int .u64 aL),(9,.int .u64 aR),(10,.int .u64 e),(11,.int .u64 h),(13,.int .u64 j),(14,.int .u64 m),(15,.int .u64 t),(16,.int .u64 D)] ⟨b,c,d,f,i,l,n,v,G,trivial⟩ (by kernel_rfl) g)
def hV.t(Y:J):Nat→Int→Int→Int→Int→Int→Int→Int→Int→Int→V→Prop
 | 0=>fun _ _ _ _ _ _ _ _ _ _=>False
 | n+1=>fun aU aL aR a b c d e f Z=>n6.t Y (hV.t Y n) aU aL aR a b c d e f Z
theorem hV.ok(Y:J)(X:Fr)(Z:V)(g:hV.g (fun aU aL aR a b c d e f Z=>∃ n,hV.t Y n aU aL aR a b c d e f Z) X Z):den prog E (aP q [W,W,W,W,W,W,W,W,W,W,W,W,W,W,p,p]) (aM.inBlock 0 (aM.then (bP.g Y) (aX E [.tmp 6,.tmp 7] Y))) X Z:=by
 obtain⟨aU,h,g⟩:=bC g
 obtain⟨aL,i,g⟩:=bC g
 obtain⟨aR,j,g⟩:=bC g
 obtain⟨a,l,g⟩:=bC g
 obtain⟨b,m,g⟩:=bC g
 obtain⟨c,v,g⟩:=bC g
 obtain⟨d,D,g⟩:=bC g
 obtain⟨e,G,g⟩:=bC g
 obtain⟨f,H,g⟩:=bC g
 obtain⟨n,g⟩:=g
 refine eZ (fun n=>hV.g (hV.t Y n)) (N:=(aP q [W,W,W,W,W,W,W,W,W,W,W,W,W,W,p,p,p])) (by kernel_rfl) (fun X Z g=>?_) (fun n=>n6.ok Y (hV.t Y n)) n X Z (bJ h (bJ i (bJ j (bJ l (bJ m (bJ v (bJ D (bJ G (bJ H (g))))))))))
 obtain⟨aU,h,g⟩:=bC g
 obtain⟨aL,i,g⟩:=bC g
 obtain⟨aR,j,g⟩:=bC g
 obtain⟨a,l,g⟩:=bC g
 obtain⟨b,m,g⟩:=bC g
 obtain⟨c,v,g⟩:=bC g
 obtain⟨d,D,g⟩:=bC g
 obtain⟨e,G,g⟩:=bC g
 obtain⟨f,H,g⟩:=bC g
 exact g
theorem eR.ok(Y:J)(X:Fr)(Z:V)(g:hV.g (fun aU aL aR a b c d e f Z=>∃ n,hV.t Y n aU aL aR a b c d e f Z) X Z):den prog E (aP q [W,W,W,W,W,W,W,W,W,W,W,W,W,W,p]) (aM.then (bP.g Y) (aX E [.tmp 6,.tmp 7] Y)) X Z:=
 eN (by kernel_rfl) (hV.ok Y X Z g)
theorem s0.ok(Y:J)(X:Fr)(Z:V)(g:hV.g (fun aU aL aR a b c d e f Z=>∃ n,hV.t Y n aU aL aR a b c d e f Z) X Z):den prog E (aP q [W,W,W,W,W,W,W,W,W,W,W,W,W,W]) (aX E [.tmp 6,.tmp 7] Y) X Z:=
 e8 (by kernel_rfl) (bP.ok Y) (eR.ok Y X Z g)
def a4.t(Y:J)(aO r aU:Int)(Z:V):Prop:=
 cond (aO == 0) (aU ≠ 0∧aN (IntKind.u64.wrap (Int.tdiv r aU)) fun dF=>
 aU ≠ 0∧aN (Int.tmod r aU) fun eY=>
 Y (.tuple #[.int .u64 dF,.int .u64 eY]) Z) (aG n5.id #[.int .u64 aU] Z fun a b=>
 aC .i64 a fun a=>
 aN (IntKind.u64.wrap a) fun a=>
 0≤a∧aN (e7 .u64 aU a) fun c=>
 0≤(32:Int)∧aN (fC .u64 c 32) fun d=>
 aN (fK .u64 c 4294967295) fun e=>
 0≤a∧aN (e7 .u64 aO a) fun f=>
 aN (IntKind.u64.wrap (64 - a)) fun g=>
 0≤g∧aN (fC .u64 r g) fun g=>
 aN (iX .u64 f g) fun f=>
 0≤a∧aN (e7 .u64 r a) fun g=>
 0≤(32:Int)∧aN (fC .u64 g 32) fun h=>
 aN (fK .u64 g 4294967295) fun g=>
 d ≠ 0∧aN (IntKind.u64.wrap (Int.tdiv f d)) fun i=>
 aN (IntKind.u64.wrap (i*d)) fun j=>
 aN (IntKind.u64.wrap (f - j)) fun j=>
 (∃ n,hV.t Y n c a d e f h g i j b))
def a4.g(Y:J)(X:Fr)(Z:V):Prop:=aC .u64 (X 0) fun aO=>aC .u64 (X 1) fun r=>aC .u64 (X 2) fun aU=>a4.t Y aO r aU Z
theorem a4.ok(Y:J)(X:Fr)(Z:V)(g:a4.g Y X Z):den prog E (aP q [W,W,W]) (aX E [.tmp 6,.tmp 7] Y) X Z:=
 aW g fun aO a g=>aW g fun r b g=>aW g fun aU c g=>cN 11 (C:=(aP q [W,W,W,W,W,W,W,W,W,W,W,W,W,W])) (by kernel_rfl) (s0.ok Y) (bH [(0,.int .u64 aO),(1,.int .u64 r),(2,.int .u64 aU)] ⟨a,b,c,trivial⟩ (by kernel_rfl) g)
def aD.t(Y:J)(aO r aU:Int)(Z:V):Prop:=
 cond (decide (aU≤aO)) (False) (a4.t Y aO r aU Z)
def aD.g(Y:J)(X:Fr)(Z:V):Prop:=aC .u64 (X 0) fun aO=>aC .u64 (X 1) fun r=>aC .u64 (X 2) fun aU=>aD.t Y aO r aU Z
theorem aD.ok(Y:J)(X:Fr)(Z:V)(g:aD.g Y X Z):den prog E (aP q [W,W]) (aX E [.tmp 6,.tmp 7] Y) X Z:=
 aW g fun aO a g=>aW g fun r b g=>aW g fun aU c g=>cN 1 (C:=(aP q [W,W,W])) (by kernel_rfl) (a4.ok Y) (bH [(0,.int .u64 aO),(1,.int .u64 r),(2,.int .u64 aU)] ⟨a,b,c,trivial⟩ (by kernel_rfl) g)
def u.t(Y:J)(aO r aU:Int)(Z:V):Prop:=
 cond (aU == 0) (False) (aD.t Y aO r aU Z)
def u.g(Y:J)(X:Fr)(Z:V):Prop:=aC .u64 (X 0) fun aO=>aC .u64 (X 1) fun r=>aC .u64 (X 2) fun aU=>u.t Y aO r aU Z
theorem u.ok(Y:J)(X:Fr)(Z:V)(g:u.g Y X Z):den prog E q (aX E [.tmp 6,.tmp 7] Y) X Z:=
 aW g fun aO a g=>aW g fun r b g=>aW g fun aU c g=>cN 2 (C:=(aP q [W,W])) (by kernel_rfl) (aD.ok Y) (bH [(0,.int .u64 aO),(1,.int .u64 r),(2,.int .u64 aU)] ⟨a,b,c,trivial⟩ (by kernel_rfl) g)
def t(aO r aU:Int)(Z:V)(Y:J):Prop:=u.t Y aO r aU Z
theorem ok{aO:Int}{r:Int}{aU:Int}{Z:V}{Y:J}(g:t aO r aU Z Y):aG id #[.int .u64 aO,.int .u64 r,.int .u64 aU] Z Y:=
 c9 dA (c:=q) (c3:=[.tmp 6,.tmp 7]) Try.func75 (by kernel_rfl) (by kernel_rfl) (by kernel_rfl) (args:=[.int .u64 aO,.int .u64 r,.int .u64 aU]) (by kernel_rfl) (u.ok Y _ Z (bJ rfl (bJ rfl (bJ rfl (g)))))
end fH
namespace hB
noncomputable def q:Code:=c8 Try.f76
def a4.t(Y:J)(aL:Int)(a:R)(b c:Nat)(d:Int)(e:R)(f g:Nat)(Z:V):Prop:=
 aG fV.id #[.slice e f g] Z fun e f=>
 aE e fun e g h=>
 gT 1 a b c none (some (.int .i64 d)) none fun a b c=>
 aG fV.id #[.slice a b c] f fun a b=>
 aE a fun a c d=>
 aG pC.id #[.slice a c d,.int .i64 aL] b fun a b=>
 aE a fun a c d=>
 Y (.tuple #[.slice e g h,.slice a c d]) b
def a4.g(Y:J)(X:Fr)(Z:V):Prop:=aC .i64 (X 8) fun aL=>aE (X 10) fun a b c=>aC .i64 (X 11) fun d=>aE (X 12) fun e f h=>a4.t Y aL a b c d e f h Z
theorem a4.ok(Y:J)(X:Fr)(Z:V)(g:a4.g Y X Z):den prog E (aP q [W,W,W,W,W,W,W,W,W,W,W]) (aX E [.tmp 4,.tmp 5] Y) X Z:=
 aW g fun aL a g=>a0 g fun b c d e g=>aW g fun f h g=>a0 g fun i j l m g=>bH [(8,.int .i64 aL),(10,.slice b c d),(11,.int .i64 f),(12,.slice i j l)] ⟨a,e,h,m,trivial⟩ (by kernel_rfl) g
def eC.g(a:Int→R→Nat→Nat→R→Nat→Nat→Int→R→Nat→Nat→Int→V→Prop)(X:Fr)(Z:V):Prop:=aC .i64 (X 8) fun aL=>aE (X 9) fun b c d=>aE (X 10) fun e f h=>aC .i64 (X 11) fun i=>aE (X 12) fun j l m=>aC .i64 (X 13) fun n=>a aL b c d e f h i j l m n Z
def cW.t(Y:J)(a:Int→R→Nat→Nat→R→Nat→Nat→Int→R→Nat→Nat→Int→V→Prop)(aL:Int)(b:R)(c d:Nat)(e:R)(f g:Nat)(h:Int)(i:R)(j l:Nat)(m:Int)(Z:V):Prop:=
 cond (decide (m≥0)) (aN (IntKind.i64.wrap (m+h)) fun n=>
 aN (IntKind.i64.wrap (n+1)) fun n=>
 gT 1 e f g (some (.int .i64 m)) (some (.int .i64 n)) none fun n v D=>
 aG fW.id #[.slice n v D,.slice b c d] Z fun D n=>
 aC .u32 D fun D=>
 cC i j m 1 fun v=>
 bI n v (.int .u32 D) fun D=>
 aN (IntKind.i64.wrap (m - 1)) fun m=>
 a aL b c d e f g h i j l m D) (a4.t Y aL e f g h i j l Z)
def cW.g(Y:J)(a:Int→R→Nat→Nat→R→Nat→Nat→Int→R→Nat→Nat→Int→V→Prop)(X:Fr)(Z:V):Prop:=aC .i64 (X 8) fun aL=>aE (X 9) fun b c d=>aE (X 10) fun e f h=>aC .i64 (X 11) fun i=>aE (X 12) fun j l m=>aC .i64 (X 13) fun n=>cW.t Y a aL b c d e f h i j l m n Z
theorem cW.ok(Y:J)(a:Int→R→Nat→Nat→R→Nat→Nat→Int→R→Nat→Nat→Int→V→Prop)(X:Fr)(Z:V)(g:cW.g Y a X Z):den prog E (aP q [W,W,W,W,W,W,W,W,W,W,p,W,p,p]) (aM.then (eC.g a) (aM.inBlock 2 (aM.then (a4.g Y) (aX E [.tmp 4,.tmp 5] Y)))) X Z:=
 aW g fun aL a g=>a0 g fun b c d e g=>a0 g fun f h i j g=>aW g fun l m g=>a0 g fun n t v D g=>aW g fun G H g=>bH [(8,.int .i64 aL),(9,.slice b c d),(10,.slice f h i),(11,.int .i64 l),(12,.slice n t v),(13,.int .i64 G)] ⟨a,e,j,m,D,H,trivial⟩ (by kernel_rfl) g
def eC.t(Y:J):Nat→Int→R→Nat→Nat→R→Nat→Nat→Int→R→Nat→Nat→Int→V→Prop
 | 0=>fun _ _ _ _ _ _ _ _ _ _ _ _ _=>False
 | n+1=>fun aL a b c d e f g h i j l Z=>cW.t Y (eC.t Y n) aL a b c d e f g h i j l Z
theorem eC.ok(Y:J)(X:Fr)(Z:V)(g:eC.g (fun aL a b c d e f h i j l m Z=>∃ n,eC.t Y n aL a b c d e f h i j l m Z) X Z):den prog E (aP q [W,W,W,W,W,W,W,W,W,W,p,W,p]) (aM.inBlock 2 (aM.then (a4.g Y) (aX E [.tmp 4,.tmp 5] Y))) X Z:=by
 obtain⟨aL,v,g⟩:=bC g
 obtain⟨a,b,c,D,g⟩:=bT g
 obtain⟨d,e,f,G,g⟩:=bT g
 obtain⟨h,H,g⟩:=bC g
 obtain⟨i,j,l,P,g⟩:=bT g
 obtain⟨m,Iv,g⟩:=bC g
 obtain⟨n,g⟩:=g
 refine eZ (fun n=>eC.g (eC.t Y n)) (N:=(aP q [W,W,W,W,W,W,W,W,W,W,p,W,p,p])) (by kernel_rfl) (fun X Z g=>?_) (fun n=>cW.ok Y (eC.t Y n)) n X Z (bJ v (aQ D (aQ G (bJ H (aQ P (bJ Iv (g)))))))
 obtain⟨aL,v,g⟩:=bC g
 obtain⟨a,b,c,D,g⟩:=bT g
 obtain⟨d,e,f,G,g⟩:=bT g
 obtain⟨h,H,g⟩:=bC g
 obtain⟨i,j,l,P,g⟩:=bT g
 obtain⟨m,Iv,g⟩:=bC g
 exact g
theorem jE.ok(Y:J)(X:Fr)(Z:V)(g:eC.g (fun aL a b c d e f h i j l m Z=>∃ n,eC.t Y n aL a b c d e f h i j l m Z) X Z):den prog E (aP q [W,W,W,W,W,W,W,W,W,W,p,W]) (aM.then (a4.g Y) (aX E [.tmp 4,.tmp 5] Y)) X Z:=
 eN (by kernel_rfl) (eC.ok Y X Z g)
def bP.t(Y:J)(aL:Int)(a:R)(b c:Nat)(d:R)(e f:Nat)(g:Int)(h:R)(i j:Nat)(Z:V):Prop:=
 aN (IntKind.i64.wrap ((((e:Nat):Int)) - g)) fun l=>
 aN (IntKind.i64.wrap (l - 1)) fun l=>
 (∃ n,eC.t Y n aL a b c d e f g h i j l Z)
def bP.g(Y:J)(X:Fr)(Z:V):Prop:=aC .i64 (X 8) fun aL=>aE (X 9) fun a b c=>aE (X 10) fun d e f=>aC .i64 (X 11) fun h=>aE (X 12) fun i j l=>bP.t Y aL a b c d e f h i j l Z
theorem bP.ok(Y:J)(X:Fr)(Z:V)(g:bP.g Y X Z):den prog E (aP q [W,W,W,W,W,W,W,W,W,W,p]) (aM.then (a4.g Y) (aX E [.tmp 4,.tmp 5] Y)) X Z:=
 aW g fun aL a g=>a0 g fun b c d e g=>a0 g fun f h i j g=>aW g fun l m g=>a0 g fun n t v D g=>cN 1 (C:=(aP q [W,W,W,W,W,W,W,W,W,W,p,W])) (by kernel_rfl) (jE.ok Y) (bH [(8,.int .i64 aL),(9,.slice b c d),(10,.slice f h i),(11,.int .i64 l),(12,.slice n t v)] ⟨a,e,j,m,D,trivial⟩ (by kernel_rfl) g)
theorem sY.ok(Y:J)(X:Fr)(Z:V)(g:bP.g Y X Z):den prog E (aP q [W,W,W,W,W,W,W,W,W,W]) (aX E [.tmp 4,.tmp 5] Y) X Z:=
 e8 (by kernel_rfl) (a4.ok Y) (bP.ok Y X Z g)
def aD.t(Y:J)(aL:Int)(a:R)(b c:Nat)(d:R)(e f:Nat)(Z:V):Prop:=
 aN (IntKind.i64.wrap ((((e:Nat):Int)) - (((b:Nat):Int)))) fun g=>
 g1 Z 78 gP g g fun h i=>
 bP.t Y aL a b c d e f (((b:Nat):Int)) (some h) g.toNat g.toNat i
def aD.g(Y:J)(X:Fr)(Z:V):Prop:=aC .i64 (X 8) fun aL=>aE (X 9) fun a b c=>aE (X 10) fun d e f=>aD.t Y aL a b c d e f Z
theorem aD.ok(Y:J)(X:Fr)(Z:V)(g:aD.g Y X Z):den prog E (aP q [W,W,W,W,W,W,W,W]) (aX E [.tmp 4,.tmp 5] Y) X Z:=
 aW g fun aL a g=>a0 g fun b c d e g=>a0 g fun f h i j g=>cN 2 (C:=(aP q [W,W,W,W,W,W,W,W,W,W])) (by kernel_rfl) (sY.ok Y) (bH [(8,.int .i64 aL),(9,.slice b c d),(10,.slice f h i)] ⟨a,e,j,trivial⟩ (by kernel_rfl) g)
def fM.g(a:R→Nat→Nat→Int→R→Nat→Nat→R→Nat→Nat→V→Prop)(X:Fr)(Z:V):Prop:=aE (X 0) fun b c d=>aC .i64 (X 8) fun aL=>aE (X 9) fun e f h=>aE (X 10) fun i j l=>a b c d aL e f h i j l Z
def gY.t(Y:J)(a:R→Nat→Nat→Int→R→Nat→Nat→R→Nat→Nat→V→Prop)(b:R)(c d:Nat)(aL:Int)(e:R)(f g:Nat)(h:R)(i j:Nat)(Z:V):Prop:=
 cond (decide ((((i:Nat):Int))≤(((c:Nat):Int)))) (cU Z 78 [.int .u32 0] fun l m=>
 g2 m 78 gP h i j (.slice (some l) 1 1) fun l m n v=>
 a b c d aL e f g l m n v) (aD.t Y aL e f g h i j Z)
def gY.g(Y:J)(a:R→Nat→Nat→Int→R→Nat→Nat→R→Nat→Nat→V→Prop)(X:Fr)(Z:V):Prop:=aE (X 0) fun b c d=>aC .i64 (X 8) fun aL=>aE (X 9) fun e f h=>aE (X 10) fun i j l=>gY.t Y a b c d aL e f h i j l Z
theorem gY.ok(Y:J)(a:R→Nat→Nat→Int→R→Nat→Nat→R→Nat→Nat→V→Prop)(X:Fr)(Z:V)(g:gY.g Y a X Z):den prog E (aP q [W,W,W,W,W,W,W,p,p,p]) (aM.then (fM.g a) (aM.inBlock 0 (aM.then (aD.g Y) (aX E [.tmp 4,.tmp 5] Y)))) X Z:=
 a0 g fun a b c d g=>aW g fun aL e g=>a0 g fun f h i j g=>a0 g fun l m n t g=>bH [(0,.slice a b c),(8,.int .i64 aL),(9,.slice f h i),(10,.slice l m n)] ⟨d,e,j,t,trivial⟩ (by kernel_rfl) g
def fM.t(Y:J):Nat→R→Nat→Nat→Int→R→Nat→Nat→R→Nat→Nat→V→Prop
 | 0=>fun _ _ _ _ _ _ _ _ _ _ _=>False
 | n+1=>fun a b c aL d e f g h i Z=>gY.t Y (fM.t Y n) a b c aL d e f g h i Z
theorem fM.ok(Y:J)(X:Fr)(Z:V)(g:fM.g (fun a b c aL d e f h i j Z=>∃ n,fM.t Y n a b c aL d e f h i j Z) X Z):den prog E (aP q [W,W,W,W,W,W,W,p,p]) (aM.inBlock 0 (aM.then (aD.g Y) (aX E [.tmp 4,.tmp 5] Y))) X Z:=by
 obtain⟨a,b,c,l,g⟩:=bT g
 obtain⟨aL,m,g⟩:=bC g
 obtain⟨d,e,f,v,g⟩:=bT g
 obtain⟨h,i,j,D,g⟩:=bT g
 obtain⟨n,g⟩:=g
 refine eZ (fun n=>fM.g (fM.t Y n)) (N:=(aP q [W,W,W,W,W,W,W,p,p,p])) (by kernel_rfl) (fun X Z g=>?_) (fun n=>gY.ok Y (fM.t Y n)) n X Z (aQ l (bJ m (aQ v (aQ D (g)))))
 obtain⟨a,b,c,l,g⟩:=bT g
 obtain⟨aL,m,g⟩:=bC g
 obtain⟨d,e,f,v,g⟩:=bT g
 obtain⟨h,i,j,D,g⟩:=bT g
 exact g
theorem hD.ok(Y:J)(X:Fr)(Z:V)(g:fM.g (fun a b c aL d e f h i j Z=>∃ n,fM.t Y n a b c aL d e f h i j Z) X Z):den prog E (aP q [W,W,W,W,W,W,W,p]) (aM.then (aD.g Y) (aX E [.tmp 4,.tmp 5] Y)) X Z:=
 eN (by kernel_rfl) (fM.ok Y X Z g)
theorem Io.ok(Y:J)(X:Fr)(Z:V)(g:fM.g (fun a b c aL d e f h i j Z=>∃ n,fM.t Y n a b c aL d e f h i j Z) X Z):den prog E (aP q [W,W,W,W,W,W,W]) (aX E [.tmp 4,.tmp 5] Y) X Z:=
 e8 (by kernel_rfl) (aD.ok Y) (hD.ok Y X Z g)
def u.t(Y:J)(a:R)(b c:Nat)(d:R)(B e:Nat)(Z:V):Prop:=
 cond ((((B:Nat):Int)) == 0) (aG gV.id #[.int .u64 0] Z fun f g=>
 aE f fun f h i=>
 aG gV.id #[.int .u64 0] g fun g j=>
 aE g fun g l m=>
 Y (.tuple #[.slice f h i,.slice g l m]) j) (aG iJ.id #[.slice a b c,.slice d B e] Z fun f g=>
 aC .i64 f fun f=>
 cond (decide (f < 0)) (aG gV.id #[.int .u64 0] g fun f h=>
 aE f fun f i j=>
 aG fV.id #[.slice a b c] h fun h l=>
 aE h fun h m v=>
 Y (.tuple #[.slice f i j,.slice h m v]) l) (cond ((((B:Nat):Int)) == 1) (cC d B 0 1 fun f=>
 c5 g .u32 f fun f=>
 aG jU.id #[.slice a b c,.int .u32 f] g fun f h=>
 cO f fun f=>
 bY f fun f i j l=>
 dI l .u32 fun l m=>
 bG m <| aN (IntKind.u64.wrap l) fun l=>
 aG gV.id #[.int .u64 l] h fun h l=>
 aE h fun h m v=>
 Y (.tuple #[.slice f i j,.slice h m v]) l) (aN (IntKind.i64.wrap ((((B:Nat):Int)) - 1)) fun f=>
 gT 1 d B e (some (.int .i64 f)) none none fun f h i=>
 aG jT.id #[.slice f h i] g fun f g=>
 aC .i64 f fun f=>
 aN (IntKind.i64.wrap (32 - f)) fun f=>
 aG jK.id #[.slice d B e,.int .i64 f] g fun d e=>
 aE d fun d g h=>
 aG jK.id #[.slice a b c,.int .i64 f] e fun e i=>
 aE e fun e j l=>
 (∃ n,fM.t Y n a b c f d g h e j l i))))
def u.g(Y:J)(X:Fr)(Z:V):Prop:=aE (X 0) fun a b c=>aE (X 1) fun d B e=>u.t Y a b c d B e Z
theorem u.ok(Y:J)(X:Fr)(Z:V)(g:u.g Y X Z):den prog E q (aX E [.tmp 4,.tmp 5] Y) X Z:=
 a0 g fun a b c d g=>a0 g fun e B f h g=>cN 7 (C:=(aP q [W,W,W,W,W,W,W])) (by kernel_rfl) (Io.ok Y) (bH [(0,.slice a b c),(1,.slice e B f)] ⟨d,h,trivial⟩ (by kernel_rfl) g)
def t(a:R)(b c:Nat)(d:R)(B e:Nat)(Z:V)(Y:J):Prop:=u.t Y a b c d B e Z
theorem ok{a:R}{b:Nat}{d:Nat}{e:R}{B:Nat}{f:Nat}{Z:V}{Y:J}(g:t a b d e B f Z Y):aG id #[.slice a b d,.slice e B f] Z Y:=
 c9 dA (c:=q) (c3:=[.tmp 4,.tmp 5]) Try.func76 (by kernel_rfl) (by kernel_rfl) (by kernel_rfl) (args:=[.slice a b d,.slice e B f]) (by kernel_rfl) (u.ok Y _ Z (aQ rfl (aQ rfl (g))))
end hB
namespace l1
noncomputable def q:Code:=c8 Try.f77
def aD.t(Y:J)(a:R)(b c:Nat)(r:Int)(Z:V):Prop:=
 (32:Int) ≠ 0∧aN (IntKind.i64.wrap (Int.tdiv r 32)) fun eY=>
 cC a b eY 1 fun a=>
 c5 Z .u32 a fun a=>
 (32:Int) ≠ 0∧aN (Int.tmod r 32) fun b=>
 0≤b∧aN (fC .u32 a b) fun a=>
 aN (fK .u32 a 1) fun a=>
 aN (IntKind.i64.wrap a) fun a=>
 Y (.int .i64 a) Z
def aD.g(Y:J)(X:Fr)(Z:V):Prop:=aE (X 0) fun a b c=>aC .i64 (X 1) fun r=>aD.t Y a b c r Z
theorem aD.ok(Y:J)(X:Fr)(Z:V)(g:aD.g Y X Z):den prog E (aP q [W,W]) (aX E [.tmp 4] Y) X Z:=
 a0 g fun a b c d g=>aW g fun r e g=>bH [(0,.slice a b c),(1,.int .i64 r)] ⟨d,e,trivial⟩ (by kernel_rfl) g
def u.t(Y:J)(a:R)(b c:Nat)(r:Int)(Z:V):Prop:=
 cond (decide (r < 0)) (Y (.int .i64 0) Z) ((32:Int) ≠ 0∧aN (IntKind.i64.wrap (Int.tdiv r 32)) fun dF=>
 cond (decide (dF≥(((b:Nat):Int)))) (Y (.int .i64 0) Z) (aD.t Y a b c r Z))
def u.g(Y:J)(X:Fr)(Z:V):Prop:=aE (X 0) fun a b c=>aC .i64 (X 1) fun r=>u.t Y a b c r Z
theorem u.ok(Y:J)(X:Fr)(Z:V)(g:u.g Y X Z):den prog E q (aX E [.tmp 4] Y) X Z:=
 a0 g fun a b c d g=>aW g fun r e g=>cN 2 (C:=(aP q [W,W])) (by kernel_rfl) (aD.ok Y) (bH [(0,.slice a b c),(1,.int .i64 r)] ⟨d,e,trivial⟩ (by kernel_rfl) g)
def t(a:R)(b c:Nat)(r:Int)(Z:V)(Y:J):Prop:=u.t Y a b c r Z
theorem ok{a:R}{b:Nat}{d:Nat}{r:Int}{Z:V}{Y:J}(g:t a b d r Z Y):aG id #[.slice a b d,.int .i64 r] Z Y:=
 c9 dA (c:=q) (c3:=[.tmp 4]) Try.func77 (by kernel_rfl) (by kernel_rfl) (by kernel_rfl) (args:=[.slice a b d,.int .i64 r]) (by kernel_rfl) (u.ok Y _ Z (aQ rfl (bJ rfl (g))))
end l1
namespace pG
noncomputable def q:Code:=c8 Try.f78
def u.t(Y:J)(aO r aU:Int)(Z:V):Prop:=
 cond (decide (aO≥aU)) (Y (.int .u64 18446744073709551615) Z) (aG fH.id #[.int .u64 aO,.int .u64 r,.int .u64 aU] Z fun a b=>
 cO a fun a=>
 dI a .u64 fun a c=>
 dI c .u64 fun c c=>
 bG c <| Y (.int .u64 a) b)
def u.g(Y:J)(X:Fr)(Z:V):Prop:=aC .u64 (X 0) fun aO=>aC .u64 (X 1) fun r=>aC .u64 (X 2) fun aU=>u.t Y aO r aU Z
theorem u.ok(Y:J)(X:Fr)(Z:V)(g:u.g Y X Z):den prog E q (aX E [.tmp 6] Y) X Z:=
 aW g fun aO a g=>aW g fun r b g=>aW g fun aU c g=>bH [(0,.int .u64 aO),(1,.int .u64 r),(2,.int .u64 aU)] ⟨a,b,c,trivial⟩ (by kernel_rfl) g
def t(aO r aU:Int)(Z:V)(Y:J):Prop:=u.t Y aO r aU Z
theorem ok{aO:Int}{r:Int}{aU:Int}{Z:V}{Y:J}(g:t aO r aU Z Y):aG id #[.int .u64 aO,.int .u64 r,.int .u64 aU] Z Y:=
 c9 dA (c:=q) (c3:=[.tmp 6]) Try.func78 (by kernel_rfl) (by kernel_rfl) (by kernel_rfl) (args:=[.int .u64 aO,.int .u64 r,.int .u64 aU]) (by kernel_rfl) (u.ok Y _ Z (bJ rfl (bJ rfl (bJ rfl (g)))))
end pG
namespace kF
noncomputable def q:Code:=c8 Try.f79
def aD.t(Y:J)(a:R)(b c:Nat)(c:R)(B c:Nat)(aA aL:Int)(Z:V):Prop:=
 cC a b (((B:Nat):Int)) 1 fun c=>
 c5 Z .u64 c fun c=>
 nQ c aA aL fun c d=>
 cC a b (((B:Nat):Int)) 1 fun a=>
 bI Z a (.int .u64 c) fun a=>
 Y (.int .u64 d) a
def aD.g(Y:J)(X:Fr)(Z:V):Prop:=aE (X 0) fun a b c=>aE (X 1) fun d B e=>aC .u64 (X 7) fun aA=>aC .u64 (X 8) fun aL=>aD.t Y a b c d B e aA aL Z
theorem aD.ok(Y:J)(X:Fr)(Z:V)(g:aD.g Y X Z):den prog E (aP q [W,W,W]) (aX E [.tmp 6] Y) X Z:=
 a0 g fun a b c d g=>a0 g fun e B f h g=>aW g fun aA i g=>aW g fun aL j g=>bH [(0,.slice a b c),(1,.slice e B f),(7,.int .u64 aA),(8,.int .u64 aL)] ⟨d,h,i,j,trivial⟩ (by kernel_rfl) g
def a8.g(a:R→Nat→Nat→R→Nat→Nat→Int→Int→Int→Int→Int→V→Prop)(X:Fr)(Z:V):Prop:=aE (X 0) fun b c d=>aE (X 1) fun e B f=>aC .u64 (X 2) fun aU=>aC .u64 (X 7) fun aA=>aC .u64 (X 8) fun aL=>aC .i64 (X 14) fun h=>aC .i64 (X 15) fun i=>a b c d e B f aU aA aL h i Z
def bS.t(Y:J)(a:R→Nat→Nat→R→Nat→Nat→Int→Int→Int→Int→Int→V→Prop)(b:R)(c d:Nat)(e:R)(B f:Nat)(aU aA:Int)(aL g h:Int)(Z:V):Prop:=
 cond (decide (h < g)) (cC e B h 1 fun i=>
 c5 Z .u64 i fun i=>
 aG nF.id #[.int .u64 i,.int .u64 aU] Z fun i j=>
 cO i fun i=>
 dI i .u64 fun i l=>
 dI l .u64 fun l m=>
 bG m <| k6 l aA 0 fun l m=>
 aN (IntKind.u64.wrap (i+m)) fun i=>
 cC b c h 1 fun m=>
 c5 j .u64 m fun m=>
 nQ m l aL fun l m=>
 cC b c h 1 fun n=>
 bI j n (.int .u64 l) fun j=>
 aN (IntKind.i64.wrap (h+1)) fun h=>
 a b c d e B f aU i m g h j) (aD.t Y b c d e B f aA aL Z)
def bS.g(Y:J)(a:R→Nat→Nat→R→Nat→Nat→Int→Int→Int→Int→Int→V→Prop)(X:Fr)(Z:V):Prop:=aE (X 0) fun b c d=>aE (X 1) fun e B f=>aC .u64 (X 2) fun aU=>aC .u64 (X 7) fun aA=>aC .u64 (X 8) fun aL=>aC .i64 (X 14) fun h=>aC .i64 (X 15) fun i=>bS.t Y a b c d e B f aU aA aL h i Z
theorem bS.ok(Y:J)(a:R→Nat→Nat→R→Nat→Nat→Int→Int→Int→Int→Int→V→Prop)(X:Fr)(Z:V)(g:bS.g Y a X Z):den prog E (aP q [W,W,p,W,p,p]) (aM.then (a8.g a) (aM.inBlock 0 (aM.then (aD.g Y) (aX E [.tmp 6] Y)))) X Z:=
 a0 g fun a b c d g=>a0 g fun e B f h g=>aW g fun aU i g=>aW g fun aA j g=>aW g fun aL l g=>aW g fun m n g=>aW g fun t v g=>bH [(0,.slice a b c),(1,.slice e B f),(2,.int .u64 aU),(7,.int .u64 aA),(8,.int .u64 aL),(14,.int .i64 m),(15,.int .i64 t)] ⟨d,h,i,j,l,n,v,trivial⟩ (by kernel_rfl) g
def a8.t(Y:J):Nat→R→Nat→Nat→R→Nat→Nat→Int→Int→Int→Int→Int→V→Prop
 | 0=>fun _ _ _ _ _ _ _ _ _ _ _ _=>False
 | n+1=>fun a b c d B e aU aA aL f g Z=>bS.t Y (a8.t Y n) a b c d B e aU aA aL f g Z
theorem a8.ok(Y:J)(X:Fr)(Z:V)(g:a8.g (fun a b c d B e aU aA aL f h Z=>∃ n,a8.t Y n a b c d B e aU aA aL f h Z) X Z):den prog E (aP q [W,W,p,W,p]) (aM.inBlock 0 (aM.then (aD.g Y) (aX E [.tmp 6] Y))) X Z:=by
 obtain⟨a,b,c,i,g⟩:=bT g
 obtain⟨d,B,e,j,g⟩:=bT g
 obtain⟨aU,l,g⟩:=bC g
 obtain⟨aA,m,g⟩:=bC g
 obtain⟨aL,v,g⟩:=bC g
 obtain⟨f,D,g⟩:=bC g
 obtain⟨h,G,g⟩:=bC g
 obtain⟨n,g⟩:=g
 refine eZ (fun n=>a8.g (a8.t Y n)) (N:=(aP q [W,W,p,W,p,p])) (by kernel_rfl) (fun X Z g=>?_) (fun n=>bS.ok Y (a8.t Y n)) n X Z (aQ i (aQ j (bJ l (bJ m (bJ v (bJ D (bJ G (g))))))))
 obtain⟨a,b,c,i,g⟩:=bT g
 obtain⟨d,B,e,j,g⟩:=bT g
 obtain⟨aU,l,g⟩:=bC g
 obtain⟨aA,m,g⟩:=bC g
 obtain⟨aL,v,g⟩:=bC g
 obtain⟨f,D,g⟩:=bC g
 obtain⟨h,G,g⟩:=bC g
 exact g
theorem gG.ok(Y:J)(X:Fr)(Z:V)(g:a8.g (fun a b c d B e aU aA aL f h Z=>∃ n,a8.t Y n a b c d B e aU aA aL f h Z) X Z):den prog E (aP q [W,W,p,W]) (aM.then (aD.g Y) (aX E [.tmp 6] Y)) X Z:=
 eN (by kernel_rfl) (a8.ok Y X Z g)
def a4.t(Y:J)(a:R)(b c:Nat)(d:R)(B e:Nat)(aU aA aL:Int)(Z:V):Prop:=
 (∃ n,a8.t Y n a b c d B e aU aA aL (((B:Nat):Int)) 0 Z)
def a4.g(Y:J)(X:Fr)(Z:V):Prop:=aE (X 0) fun a b c=>aE (X 1) fun d B e=>aC .u64 (X 2) fun aU=>aC .u64 (X 7) fun aA=>aC .u64 (X 8) fun aL=>a4.t Y a b c d B e aU aA aL Z
theorem a4.ok(Y:J)(X:Fr)(Z:V)(g:a4.g Y X Z):den prog E (aP q [W,W,p]) (aM.then (aD.g Y) (aX E [.tmp 6] Y)) X Z:=
 a0 g fun a b c d g=>a0 g fun e B f h g=>aW g fun aU i g=>aW g fun aA j g=>aW g fun aL l g=>cN 1 (C:=(aP q [W,W,p,W])) (by kernel_rfl) (gG.ok Y) (bH [(0,.slice a b c),(1,.slice e B f),(2,.int .u64 aU),(7,.int .u64 aA),(8,.int .u64 aL)] ⟨d,h,i,j,l,trivial⟩ (by kernel_rfl) g)
theorem gH.ok(Y:J)(X:Fr)(Z:V)(g:a4.g Y X Z):den prog E (aP q [W,W]) (aX E [.tmp 6] Y) X Z:=
 e8 (by kernel_rfl) (aD.ok Y) (a4.ok Y X Z g)
def u.t(Y:J)(a:R)(b c:Nat)(d:R)(B e:Nat)(aU:Int)(Z:V):Prop:=
 a4.t Y a b c d B e aU 0 0 Z
def u.g(Y:J)(X:Fr)(Z:V):Prop:=aE (X 0) fun a b c=>aE (X 1) fun d B e=>aC .u64 (X 2) fun aU=>u.t Y a b c d B e aU Z
theorem u.ok(Y:J)(X:Fr)(Z:V)(g:u.g Y X Z):den prog E q (aX E [.tmp 6] Y) X Z:=
 a0 g fun a b c d g=>a0 g fun e B f h g=>aW g fun aU i g=>cN 2 (C:=(aP q [W,W])) (by kernel_rfl) (gH.ok Y) (bH [(0,.slice a b c),(1,.slice e B f),(2,.int .u64 aU)] ⟨d,h,i,trivial⟩ (by kernel_rfl) g)
def t(a:R)(b c:Nat)(d:R)(B e:Nat)(aU:Int)(Z:V)(Y:J):Prop:=u.t Y a b c d B e aU Z
theorem ok{a:R}{b:Nat}{d:Nat}{e:R}{B:Nat}{f:Nat}{aU:Int}{Z:V}{Y:J}(g:t a b d e B f aU Z Y):aG id #[.slice a b d,.slice e B f,.int .u64 aU] Z Y:=
 c9 dA (c:=q) (c3:=[.tmp 6]) Try.func79 (by kernel_rfl) (by kernel_rfl) (by kernel_rfl) (args:=[.slice a b d,.slice e B f,.int .u64 aU]) (by kernel_rfl) (u.ok Y _ Z (aQ rfl (aQ rfl (bJ rfl (g)))))
end kF
namespace kG
noncomputable def q:Code:=c8 Try.f80
def aD.t(Y:J)(a:R)(b c:Nat)(c:R)(B c:Nat)(c:Int)(Z:V):Prop:=
 cC a b (((B:Nat):Int)) 1 fun d=>
 c5 Z .u64 d fun d=>
 k6 d 0 c fun c d=>
 cC a b (((B:Nat):Int)) 1 fun a=>
 bI Z a (.int .u64 c) fun a=>
 Y (.int .u64 d) a
def aD.g(Y:J)(X:Fr)(Z:V):Prop:=aE (X 0) fun a b c=>aE (X 1) fun d B e=>aC .u64 (X 5) fun f=>aD.t Y a b c d B e f Z
theorem aD.ok(Y:J)(X:Fr)(Z:V)(g:aD.g Y X Z):den prog E (aP q [W,W,W]) (aX E [.tmp 4] Y) X Z:=
 a0 g fun a b c d g=>a0 g fun e B f h g=>aW g fun i j g=>bH [(0,.slice a b c),(1,.slice e B f),(5,.int .u64 i)] ⟨d,h,j,trivial⟩ (by kernel_rfl) g
def a8.g(a:R→Nat→Nat→R→Nat→Nat→Int→Int→Int→V→Prop)(X:Fr)(Z:V):Prop:=aE (X 0) fun b c d=>aE (X 1) fun e B f=>aC .u64 (X 5) fun h=>aC .i64 (X 8) fun aL=>aC .i64 (X 9) fun aR=>a b c d e B f h aL aR Z
def bS.t(Y:J)(a:R→Nat→Nat→R→Nat→Nat→Int→Int→Int→V→Prop)(b:R)(c d:Nat)(e:R)(B f:Nat)(g aL aR:Int)(Z:V):Prop:=
 cond (decide (aR < aL)) (cC b c aR 1 fun h=>
 c5 Z .u64 h fun h=>
 cC e B aR 1 fun i=>
 c5 Z .u64 i fun i=>
 k6 h i g fun h i=>
 cC b c aR 1 fun j=>
 bI Z j (.int .u64 h) fun h=>
 aN (IntKind.i64.wrap (aR+1)) fun j=>
 a b c d e B f i aL j h) (aD.t Y b c d e B f g Z)
def bS.g(Y:J)(a:R→Nat→Nat→R→Nat→Nat→Int→Int→Int→V→Prop)(X:Fr)(Z:V):Prop:=aE (X 0) fun b c d=>aE (X 1) fun e B f=>aC .u64 (X 5) fun h=>aC .i64 (X 8) fun aL=>aC .i64 (X 9) fun aR=>bS.t Y a b c d e B f h aL aR Z
theorem bS.ok(Y:J)(a:R→Nat→Nat→R→Nat→Nat→Int→Int→Int→V→Prop)(X:Fr)(Z:V)(g:bS.g Y a X Z):den prog E (aP q [W,W,p,W,p,p]) (aM.then (a8.g a) (aM.inBlock 0 (aM.then (aD.g Y) (aX E [.tmp 4] Y)))) X Z:=
 a0 g fun a b c d g=>a0 g fun e B f h g=>aW g fun i j g=>aW g fun aL l g=>aW g fun aR m g=>bH [(0,.slice a b c),(1,.slice e B f),(5,.int .u64 i),(8,.int .i64 aL),(9,.int .i64 aR)] ⟨d,h,j,l,m,trivial⟩ (by kernel_rfl) g
def a8.t(Y:J):Nat→R→Nat→Nat→R→Nat→Nat→Int→Int→Int→V→Prop
 | 0=>fun _ _ _ _ _ _ _ _ _ _=>False
 | n+1=>fun a b c d B e f aL aR Z=>bS.t Y (a8.t Y n) a b c d B e f aL aR Z
theorem a8.ok(Y:J)(X:Fr)(Z:V)(g:a8.g (fun a b c d B e f aL aR Z=>∃ n,a8.t Y n a b c d B e f aL aR Z) X Z):den prog E (aP q [W,W,p,W,p]) (aM.inBlock 0 (aM.then (aD.g Y) (aX E [.tmp 4] Y))) X Z:=by
 obtain⟨a,b,c,h,g⟩:=bT g
 obtain⟨d,B,e,i,g⟩:=bT g
 obtain⟨f,j,g⟩:=bC g
 obtain⟨aL,l,g⟩:=bC g
 obtain⟨aR,m,g⟩:=bC g
 obtain⟨n,g⟩:=g
 refine eZ (fun n=>a8.g (a8.t Y n)) (N:=(aP q [W,W,p,W,p,p])) (by kernel_rfl) (fun X Z g=>?_) (fun n=>bS.ok Y (a8.t Y n)) n X Z (aQ h (aQ i (bJ j (bJ l (bJ m (g))))))
 obtain⟨a,b,c,h,g⟩:=bT g
 obtain⟨d,B,e,i,g⟩:=bT g
 obtain⟨f,j,g⟩:=bC g
 obtain⟨aL,l,g⟩:=bC g
 obtain⟨aR,m,g⟩:=bC g
 exact g
theorem gG.ok(Y:J)(X:Fr)(Z:V)(g:a8.g (fun a b c d B e f aL aR Z=>∃ n,a8.t Y n a b c d B e f aL aR Z) X Z):den prog E (aP q [W,W,p,W]) (aM.then (aD.g Y) (aX E [.tmp 4] Y)) X Z:=
 eN (by kernel_rfl) (a8.ok Y X Z g)
def a4.t(Y:J)(a:R)(b c:Nat)(d:R)(B e:Nat)(f:Int)(Z:V):Prop:=
 (∃ n,a8.t Y n a b c d B e f (((B:Nat):Int)) 0 Z)
def a4.g(Y:J)(X:Fr)(Z:V):Prop:=aE (X 0) fun a b c=>aE (X 1) fun d B e=>aC .u64 (X 5) fun f=>a4.t Y a b c d B e f Z
theorem a4.ok(Y:J)(X:Fr)(Z:V)(g:a4.g Y X Z):den prog E (aP q [W,W,p]) (aM.then (aD.g Y) (aX E [.tmp 4] Y)) X Z:=
 a0 g fun a b c d g=>a0 g fun e B f h g=>aW g fun i j g=>cN 1 (C:=(aP q [W,W,p,W])) (by kernel_rfl) (gG.ok Y) (bH [(0,.slice a b c),(1,.slice e B f),(5,.int .u64 i)] ⟨d,h,j,trivial⟩ (by kernel_rfl) g)
theorem gH.ok(Y:J)(X:Fr)(Z:V)(g:a4.g Y X Z):den prog E (aP q [W,W]) (aX E [.tmp 4] Y) X Z:=
 e8 (by kernel_rfl) (aD.ok Y) (a4.ok Y X Z g)
def u.t(Y:J)(a:R)(b c:Nat)(d:R)(B e:Nat)(Z:V):Prop:=
 a4.t Y a b c d B e 0 Z
def u.g(Y:J)(X:Fr)(Z:V):Prop:=aE (X 0) fun a b c=>aE (X 1) fun d B e=>u.t Y a b c d B e Z
theorem u.ok(Y:J)(X:Fr)(Z:V)(g:u.g Y X Z):den prog E q (aX E [.tmp 4] Y) X Z:=
 a0 g fun a b c d g=>a0 g fun e B f h g=>cN 2 (C:=(aP q [W,W])) (by kernel_rfl) (gH.ok Y) (bH [(0,.slice a b c),(1,.slice e B f)] ⟨d,h,trivial⟩ (by kernel_rfl) g)
def t(a:R)(b c:Nat)(d:R)(B e:Nat)(Z:V)(Y:J):Prop:=u.t Y a b c d B e Z
theorem ok{a:R}{b:Nat}{d:Nat}{e:R}{B:Nat}{f:Nat}{Z:V}{Y:J}(g:t a b d e B f Z Y):aG id #[.slice a b d,.slice e B f] Z Y:=
 c9 dA (c:=q) (c3:=[.tmp 4]) Try.func80 (by kernel_rfl) (by kernel_rfl) (by kernel_rfl) (args:=[.slice a b d,.slice e B f]) (by kernel_rfl) (u.ok Y _ Z (aQ rfl (aQ rfl (g))))
end kG
namespace hW
noncomputable def q:Code:=c8 Try.f81
def dG.g(a:R→Nat→Nat→R→Nat→Nat→R→Nat→Nat→Int→Int→V→Prop)(X:Fr)(Z:V):Prop:=aE (X 0) fun b c d=>aE (X 1) fun e B f=>aE (X 2) fun h bO bA=>aC .i64 (X 13) fun i=>aC .i64 (X 14) fun j=>a b c d e B f h bO bA i j Z
def bP.t(Y:J)(bX:R→Nat→Nat→R→Nat→Nat→R→Nat→Nat→Int→Int→V→Prop)(a:R)(b c:Nat)(d:R)(B e:Nat)(f:R)(bO bA:Nat)(g h:Int)(Z:V):Prop:=
 aN (IntKind.i64.wrap (h+1)) fun dF=>bX a b c d B e f bO bA g dF Z
def bP.g(Y:J)(bX:R→Nat→Nat→R→Nat→Nat→R→Nat→Nat→Int→Int→V→Prop)(X:Fr)(Z:V):Prop:=aE (X 0) fun a b c=>aE (X 1) fun d B e=>aE (X 2) fun f bO bA=>aC .i64 (X 13) fun h=>aC .i64 (X 14) fun i=>bP.t Y bX a b c d B e f bO bA h i Z
theorem bP.ok(Y:J)(bX:R→Nat→Nat→R→Nat→Nat→R→Nat→Nat→Int→Int→V→Prop)(X:Fr)(Z:V)(g:bP.g Y bX X Z):den prog E (aP q [W,p,p,W,W,W]) (aM.then (dG.g bX) (aM.inBlock 0 (aX E [] Y))) X Z:=
 a0 g fun a b c d g=>a0 g fun e B f h g=>a0 g fun i bO bA j g=>aW g fun l m g=>aW g fun n t g=>bH [(0,.slice a b c),(1,.slice e B f),(2,.slice i bO bA),(13,.int .i64 l),(14,.int .i64 n)] ⟨d,h,j,m,t,trivial⟩ (by kernel_rfl) g
def cW.t(Y:J)(bX:R→Nat→Nat→R→Nat→Nat→R→Nat→Nat→Int→Int→V→Prop)(a:R)(b c:Nat)(d:R)(B e:Nat)(f:R)(bO bA:Nat)(g aA:Int)(h i:Int)(Z:V):Prop:=
 aN (IntKind.i64.wrap (g+(((B:Nat):Int)))) fun eY=>
 cC a b eY 1 fun g=>
 bI Z g (.int .u64 aA) fun g=>
 bP.t Y bX a b c d B e f bO bA h i g
def cW.g(Y:J)(bX:R→Nat→Nat→R→Nat→Nat→R→Nat→Nat→Int→Int→V→Prop)(X:Fr)(Z:V):Prop:=aE (X 0) fun a b c=>aE (X 1) fun d B e=>aE (X 2) fun f bO bA=>aC .i64 (X 6) fun h=>aC .u64 (X 7) fun aA=>aC .i64 (X 13) fun i=>aC .i64 (X 14) fun j=>cW.t Y bX a b c d B e f bO bA h aA i j Z
theorem cW.ok(Y:J)(bX:R→Nat→Nat→R→Nat→Nat→R→Nat→Nat→Int→Int→V→Prop)(X:Fr)(Z:V)(g:cW.g Y bX X Z):den prog E (aP q [W,p,p,W,W,p,p,W,W,W]) (aM.inBlock 1 (aM.then (bP.g Y bX) (aM.then (dG.g bX) (aM.inBlock 0 (aX E [] Y))))) X Z:=
 a0 g fun a b c d g=>a0 g fun e B f h g=>a0 g fun i bO bA j g=>aW g fun l m g=>aW g fun aA n g=>aW g fun t v g=>aW g fun D G g=>bH [(0,.slice a b c),(1,.slice e B f),(2,.slice i bO bA),(6,.int .i64 l),(7,.int .u64 aA),(13,.int .i64 t),(14,.int .i64 D)] ⟨d,h,j,m,n,v,G,trivial⟩ (by kernel_rfl) g
def fS.g(a:R→Nat→Nat→R→Nat→Nat→R→Nat→Nat→Int→Int→Int→Int→Int→Int→V→Prop)(X:Fr)(Z:V):Prop:=aE (X 0) fun b c d=>aE (X 1) fun e B f=>aE (X 2) fun h bO bA=>aC .i64 (X 6) fun i=>aC .u64 (X 7) fun aA=>aC .i64 (X 13) fun j=>aC .i64 (X 14) fun l=>aC .i64 (X 18) fun m=>aC .i64 (X 19) fun n=>a b c d e B f h bO bA i aA j l m n Z
def fJ.t(Y:J)(bX:R→Nat→Nat→R→Nat→Nat→R→Nat→Nat→Int→Int→V→Prop)(a:R→Nat→Nat→R→Nat→Nat→R→Nat→Nat→Int→Int→Int→Int→Int→Int→V→Prop)(b:R)(c d:Nat)(e:R)(B f:Nat)(g:R)(bO bA:Nat)(h aA:Int)(i j:Int)(l m:Int)(Z:V):Prop:=
 cond (decide (m < l)) (cC e B m 1 fun n=>
 c5 Z .u64 n fun n=>
 cC g bO h 1 fun v=>
 c5 Z .u64 v fun v=>
 aG nF.id #[.int .u64 n,.int .u64 v] Z fun n v=>
 cO n fun n=>
 dI n .u64 fun n D=>
 dI D .u64 fun D E=>
 bG E <| k6 D aA 0 fun D E=>
 aN (IntKind.u64.wrap (n+E)) fun E=>
 aN (IntKind.i64.wrap (m+h)) fun n=>
 aN (IntKind.i64.wrap (m+h)) fun G=>
 cC b c G 1 fun G=>
 c5 v .u64 G fun G=>
 k6 G D 0 fun D G=>
 cC b c n 1 fun n=>
 bI v n (.int .u64 D) fun D=>
 aN (IntKind.u64.wrap (E+G)) fun E=>
 aN (IntKind.i64.wrap (m+1)) fun G=>
 a b c d e B f g bO bA h E i j l G D) (cW.t Y bX b c d e B f g bO bA h aA i j Z)
def fJ.g(Y:J)(bX:R→Nat→Nat→R→Nat→Nat→R→Nat→Nat→Int→Int→V→Prop)(a:R→Nat→Nat→R→Nat→Nat→R→Nat→Nat→Int→Int→Int→Int→Int→Int→V→Prop)(X:Fr)(Z:V):Prop:=aE (X 0) fun b c d=>aE (X 1) fun e B f=>aE (X 2) fun h bO bA=>aC .i64 (X 6) fun i=>aC .u64 (X 7) fun aA=>aC .i64 (X 13) fun j=>aC .i64 (X 14) fun l=>aC .i64 (X 18) fun m=>aC .i64 (X 19) fun n=>fJ.t Y bX a b c d e B f h bO bA i aA j l m n Z
theorem fJ.ok(Y:J)(bX:R→Nat→Nat→R→Nat→Nat→R→Nat→Nat→Int→Int→V→Prop)(a:R→Nat→Nat→R→Nat→Nat→R→Nat→Nat→Int→Int→Int→Int→Int→Int→V→Prop)(X:Fr)(Z:V)(g:fJ.g Y bX a X Z):den prog E (aP q [W,p,p,W,W,p,p,W,W,p,W,p,p]) (aM.then (fS.g a) (aM.inBlock 2 (aM.then (cW.g Y bX) (aM.inBlock 1 (aM.then (bP.g Y bX) (aM.then (dG.g bX) (aM.inBlock 0 (aX E [] Y)))))))) X Z:=
 a0 g fun a b c d g=>a0 g fun e B f h g=>a0 g fun i bO bA j g=>aW g fun l m g=>aW g fun aA n g=>aW g fun t v g=>aW g fun D G g=>aW g fun H P g=>aW g fun Iv Iw g=>bH [(0,.slice a b c),(1,.slice e B f),(2,.slice i bO bA),(6,.int .i64 l),(7,.int .u64 aA),(13,.int .i64 t),(14,.int .i64 D),(18,.int .i64 H),(19,.int .i64 Iv)] ⟨d,h,j,m,n,v,G,P,Iw,trivial⟩ (by kernel_rfl) g
def fS.t(Y:J)(bX:R→Nat→Nat→R→Nat→Nat→R→Nat→Nat→Int→Int→V→Prop):Nat→R→Nat→Nat→R→Nat→Nat→R→Nat→Nat→Int→Int→Int→Int→Int→Int→V→Prop
 | 0=>fun _ _ _ _ _ _ _ _ _ _ _ _ _ _ _ _=>False
 | n+1=>fun a b c d B e f bO bA g aA h i j l Z=>fJ.t Y bX (fS.t Y bX n) a b c d B e f bO bA g aA h i j l Z
theorem fS.ok(Y:J)(bX:R→Nat→Nat→R→Nat→Nat→R→Nat→Nat→Int→Int→V→Prop)(X:Fr)(Z:V)(g:fS.g (fun a b c d B e f bO bA h aA i j l m Z=>∃ n,fS.t Y bX n a b c d B e f bO bA h aA i j l m Z) X Z):den prog E (aP q [W,p,p,W,W,p,p,W,W,p,W,p]) (aM.inBlock 2 (aM.then (cW.g Y bX) (aM.inBlock 1 (aM.then (bP.g Y bX) (aM.then (dG.g bX) (aM.inBlock 0 (aX E [] Y))))))) X Z:=by
 obtain⟨a,b,c,v,g⟩:=bT g
 obtain⟨d,B,e,D,g⟩:=bT g
 obtain⟨f,bO,bA,G,g⟩:=bT g
 obtain⟨h,H,g⟩:=bC g
 obtain⟨aA,P,g⟩:=bC g
 obtain⟨i,Iv,g⟩:=bC g
 obtain⟨j,Iw,g⟩:=bC g
 obtain⟨l,Ix,g⟩:=bC g
 obtain⟨m,Iy,g⟩:=bC g
 obtain⟨n,g⟩:=g
 refine eZ (fun n=>fS.g (fS.t Y bX n)) (N:=(aP q [W,p,p,W,W,p,p,W,W,p,W,p,p])) (by kernel_rfl) (fun X Z g=>?_) (fun n=>fJ.ok Y bX (fS.t Y bX n)) n X Z (aQ v (aQ D (aQ G (bJ H (bJ P (bJ Iv (bJ Iw (bJ Ix (bJ Iy (g))))))))))
 obtain⟨a,b,c,v,g⟩:=bT g
 obtain⟨d,B,e,D,g⟩:=bT g
 obtain⟨f,bO,bA,G,g⟩:=bT g
 obtain⟨h,H,g⟩:=bC g
 obtain⟨aA,P,g⟩:=bC g
 obtain⟨i,Iv,g⟩:=bC g
 obtain⟨j,Iw,g⟩:=bC g
 obtain⟨l,Ix,g⟩:=bC g
 obtain⟨m,Iy,g⟩:=bC g
 exact g
theorem dY.ok(Y:J)(bX:R→Nat→Nat→R→Nat→Nat→R→Nat→Nat→Int→Int→V→Prop)(X:Fr)(Z:V)(g:fS.g (fun a b c d B e f bO bA h aA i j l m Z=>∃ n,fS.t Y bX n a b c d B e f bO bA h aA i j l m Z) X Z):den prog E (aP q [W,p,p,W,W,p,p,W,W,p,W]) (aM.then (cW.g Y bX) (aM.inBlock 1 (aM.then (bP.g Y bX) (aM.then (dG.g bX) (aM.inBlock 0 (aX E [] Y)))))) X Z:=
 eN (by kernel_rfl) (fS.ok Y bX X Z g)
def dP.t(Y:J)(bX:R→Nat→Nat→R→Nat→Nat→R→Nat→Nat→Int→Int→V→Prop)(a:R)(b c:Nat)(d:R)(B e:Nat)(f:R)(bO bA:Nat)(g aA:Int)(h i:Int)(Z:V):Prop:=
 (∃ n,fS.t Y bX n a b c d B e f bO bA g aA h i (((B:Nat):Int)) 0 Z)
def dP.g(Y:J)(bX:R→Nat→Nat→R→Nat→Nat→R→Nat→Nat→Int→Int→V→Prop)(X:Fr)(Z:V):Prop:=aE (X 0) fun a b c=>aE (X 1) fun d B e=>aE (X 2) fun f bO bA=>aC .i64 (X 6) fun h=>aC .u64 (X 7) fun aA=>aC .i64 (X 13) fun i=>aC .i64 (X 14) fun j=>dP.t Y bX a b c d B e f bO bA h aA i j Z
theorem dP.ok(Y:J)(bX:R→Nat→Nat→R→Nat→Nat→R→Nat→Nat→Int→Int→V→Prop)(X:Fr)(Z:V)(g:dP.g Y bX X Z):den prog E (aP q [W,p,p,W,W,p,p,W,W,p]) (aM.then (cW.g Y bX) (aM.inBlock 1 (aM.then (bP.g Y bX) (aM.then (dG.g bX) (aM.inBlock 0 (aX E [] Y)))))) X Z:=
 a0 g fun a b c d g=>a0 g fun e B f h g=>a0 g fun i bO bA j g=>aW g fun l m g=>aW g fun aA n g=>aW g fun t v g=>aW g fun D G g=>cN 1 (C:=(aP q [W,p,p,W,W,p,p,W,W,p,W])) (by kernel_rfl) (dY.ok Y bX) (bH [(0,.slice a b c),(1,.slice e B f),(2,.slice i bO bA),(6,.int .i64 l),(7,.int .u64 aA),(13,.int .i64 t),(14,.int .i64 D)] ⟨d,h,j,m,n,v,G,trivial⟩ (by kernel_rfl) g)
theorem x0.ok(Y:J)(bX:R→Nat→Nat→R→Nat→Nat→R→Nat→Nat→Int→Int→V→Prop)(X:Fr)(Z:V)(g:dP.g Y bX X Z):den prog E (aP q [W,p,p,W,W,p,p,W,W]) (aM.inBlock 1 (aM.then (bP.g Y bX) (aM.then (dG.g bX) (aM.inBlock 0 (aX E [] Y))))) X Z:=
 e8 (by kernel_rfl) (cW.ok Y bX) (dP.ok Y bX X Z g)
def bS.t(Y:J)(bX:R→Nat→Nat→R→Nat→Nat→R→Nat→Nat→Int→Int→V→Prop)(a:R)(b c:Nat)(d:R)(B e:Nat)(f:R)(bO bA:Nat)(g h:Int)(Z:V):Prop:=
 dP.t Y bX a b c d B e f bO bA h 0 g h Z
def bS.g(Y:J)(bX:R→Nat→Nat→R→Nat→Nat→R→Nat→Nat→Int→Int→V→Prop)(X:Fr)(Z:V):Prop:=aE (X 0) fun a b c=>aE (X 1) fun d B e=>aE (X 2) fun f bO bA=>aC .i64 (X 13) fun h=>aC .i64 (X 14) fun i=>bS.t Y bX a b c d B e f bO bA h i Z
theorem bS.ok(Y:J)(bX:R→Nat→Nat→R→Nat→Nat→R→Nat→Nat→Int→Int→V→Prop)(X:Fr)(Z:V)(g:bS.g Y bX X Z):den prog E (aP q [W,p,p,W,W,p,p]) (aM.inBlock 1 (aM.then (bP.g Y bX) (aM.then (dG.g bX) (aM.inBlock 0 (aX E [] Y))))) X Z:=
 a0 g fun a b c d g=>a0 g fun e B f h g=>a0 g fun i bO bA j g=>aW g fun l m g=>aW g fun n t g=>cN 2 (C:=(aP q [W,p,p,W,W,p,p,W,W])) (by kernel_rfl) (x0.ok Y bX) (bH [(0,.slice a b c),(1,.slice e B f),(2,.slice i bO bA),(13,.int .i64 l),(14,.int .i64 n)] ⟨d,h,j,m,t,trivial⟩ (by kernel_rfl) g)
theorem h0.ok(Y:J)(bX:R→Nat→Nat→R→Nat→Nat→R→Nat→Nat→Int→Int→V→Prop)(X:Fr)(Z:V)(g:bS.g Y bX X Z):den prog E (aP q [W,p,p,W,W,p]) (aM.then (bP.g Y bX) (aM.then (dG.g bX) (aM.inBlock 0 (aX E [] Y)))) X Z:=
 eN (by kernel_rfl) (bS.ok Y bX X Z g)
theorem sZ.ok(Y:J)(bX:R→Nat→Nat→R→Nat→Nat→R→Nat→Nat→Int→Int→V→Prop)(X:Fr)(Z:V)(g:bS.g Y bX X Z):den prog E (aP q [W,p,p,W,W]) (aM.then (dG.g bX) (aM.inBlock 0 (aX E [] Y))) X Z:=
 e8 (by kernel_rfl) (bP.ok Y bX) (h0.ok Y bX X Z g)
def a4.t(Y:J)(bX:R→Nat→Nat→R→Nat→Nat→R→Nat→Nat→Int→Int→V→Prop)(a:R)(b c:Nat)(d:R)(B e:Nat)(f:R)(bO bA:Nat)(g h:Int)(Z:V):Prop:=
 cond (decide (h < g)) (bS.t Y bX a b c d B e f bO bA g h Z) (Y (.tuple #[]) Z)
def a4.g(Y:J)(bX:R→Nat→Nat→R→Nat→Nat→R→Nat→Nat→Int→Int→V→Prop)(X:Fr)(Z:V):Prop:=aE (X 0) fun a b c=>aE (X 1) fun d B e=>aE (X 2) fun f bO bA=>aC .i64 (X 13) fun h=>aC .i64 (X 14) fun i=>a4.t Y bX a b c d B e f bO bA h i Z
theorem a4.ok(Y:J)(bX:R→Nat→Nat→R→Nat→Nat→R→Nat→Nat→Int→Int→V→Prop)(X:Fr)(Z:V)(g:a4.g Y bX X Z):den prog E (aP q [W,p,p]) (aM.then (dG.g bX) (aM.inBlock 0 (aX E [] Y))) X Z:=
 a0 g fun a b c d g=>a0 g fun e B f h g=>a0 g fun i bO bA j g=>aW g fun l m g=>aW g fun n t g=>cN 2 (C:=(aP q [W,p,p,W,W])) (by kernel_rfl) (sZ.ok Y bX) (bH [(0,.slice a b c),(1,.slice e B f),(2,.slice i bO bA),(13,.int .i64 l),(14,.int .i64 n)] ⟨d,h,j,m,t,trivial⟩ (by kernel_rfl) g)
def dG.t(Y:J):Nat→R→Nat→Nat→R→Nat→Nat→R→Nat→Nat→Int→Int→V→Prop
 | 0=>fun _ _ _ _ _ _ _ _ _ _ _ _=>False
 | n+1=>fun a b c d B e f bO bA g h Z=>a4.t Y (dG.t Y n) a b c d B e f bO bA g h Z
theorem dG.ok(Y:J)(X:Fr)(Z:V)(g:dG.g (fun a b c d B e f bO bA h i Z=>∃ n,dG.t Y n a b c d B e f bO bA h i Z) X Z):den prog E (aP q [W,p]) (aM.inBlock 0 (aX E [] Y)) X Z:=by
 obtain⟨a,b,c,j,g⟩:=bT g
 obtain⟨d,B,e,l,g⟩:=bT g
 obtain⟨f,bO,bA,m,g⟩:=bT g
 obtain⟨h,v,g⟩:=bC g
 obtain⟨i,D,g⟩:=bC g
 obtain⟨n,g⟩:=g
 refine eZ (fun n=>dG.g (dG.t Y n)) (N:=(aP q [W,p,p])) (by kernel_rfl) (fun X Z g=>?_) (fun n=>a4.ok Y (dG.t Y n)) n X Z (aQ j (aQ l (aQ m (bJ v (bJ D (g))))))
 obtain⟨a,b,c,j,g⟩:=bT g
 obtain⟨d,B,e,l,g⟩:=bT g
 obtain⟨f,bO,bA,m,g⟩:=bT g
 obtain⟨h,v,g⟩:=bC g
 obtain⟨i,D,g⟩:=bC g
 exact g
theorem eR.ok(Y:J)(X:Fr)(Z:V)(g:dG.g (fun a b c d B e f bO bA h i Z=>∃ n,dG.t Y n a b c d B e f bO bA h i Z) X Z):den prog E (aP q [W]) (aX E [] Y) X Z:=
 eN (by kernel_rfl) (dG.ok Y X Z g)
def u.t(Y:J)(a:R)(b c:Nat)(d:R)(B e:Nat)(f:R)(bO bA:Nat)(Z:V):Prop:=
 (∃ n,dG.t Y n a b c d B e f bO bA (((bO:Nat):Int)) 0 Z)
def u.g(Y:J)(X:Fr)(Z:V):Prop:=aE (X 0) fun a b c=>aE (X 1) fun d B e=>aE (X 2) fun f bO bA=>u.t Y a b c d B e f bO bA Z
theorem u.ok(Y:J)(X:Fr)(Z:V)(g:u.g Y X Z):den prog E q (aX E [] Y) X Z:=
 a0 g fun a b c d g=>a0 g fun e B f h g=>a0 g fun i bO bA j g=>cN 1 (C:=(aP q [W])) (by kernel_rfl) (eR.ok Y) (bH [(0,.slice a b c),(1,.slice e B f),(2,.slice i bO bA)] ⟨d,h,j,trivial⟩ (by kernel_rfl) g)
def t(a:R)(b c:Nat)(d:R)(B e:Nat)(f:R)(bO bA:Nat)(Z:V)(Y:J):Prop:=u.t Y a b c d B e f bO bA Z
theorem ok{a:R}{b:Nat}{d:Nat}{e:R}{B:Nat}{f:Nat}{h:R}{bO:Nat}{bA:Nat}{Z:V}{Y:J}(g:t a b d e B f h bO bA Z Y):aG id #[.slice a b d,.slice e B f,.slice h bO bA] Z Y:=
 c9 dA (c:=q) (c3:=[]) Try.func81 (by kernel_rfl) (by kernel_rfl) (by kernel_rfl) (args:=[.slice a b d,.slice e B f,.slice h bO bA]) (by kernel_rfl) (u.ok Y _ Z (aQ rfl (aQ rfl (aQ rfl (g)))))
end hW
namespace lG
noncomputable def q:Code:=c8 Try.f82
def dG.g(a:R→Nat→Nat→R→Nat→Nat→R→Nat→Nat→Int→V→Prop)(X:Fr)(Z:V):Prop:=aE (X 0) fun b c d=>aE (X 1) fun e B f=>aE (X 2) fun h bO bA=>aC .i64 (X 6) fun i=>a b c d e B f h bO bA i Z
def a4.t(Y:J)(bX:R→Nat→Nat→R→Nat→Nat→R→Nat→Nat→Int→V→Prop)(a:R)(b c:Nat)(d:R)(B e:Nat)(f:R)(bO bA:Nat)(g:Int)(Z:V):Prop:=
 cond (decide (g < (((B:Nat):Int)))) (aN (IntKind.i64.wrap (g+(((bO:Nat):Int)))) fun dF=>
 gT 1 d B e (some (.int .i64 g)) (some (.int .i64 (if (((B:Nat):Int)) < dF then(((B:Nat):Int)) else dF))) (some (.int .i64 (if (((B:Nat):Int)) < dF then(((B:Nat):Int)) else dF))) fun h i j=>
 aG jX.id #[.slice h i j] Z fun h i=>
 aE h fun h j l=>
 aG lF.id #[.slice h j l,.slice f bO bA] i fun h i=>
 aE h fun h j l=>
 aG hO.id #[.slice a b c,.slice h j l,.int .i64 g] i fun h i=>
 cO h fun h=>
 bG h <| aN (IntKind.i64.wrap (g+(((bO:Nat):Int)))) fun g=>
 bX a b c d B e f bO bA g i) (Y (.tuple #[]) Z)
def a4.g(Y:J)(bX:R→Nat→Nat→R→Nat→Nat→R→Nat→Nat→Int→V→Prop)(X:Fr)(Z:V):Prop:=aE (X 0) fun a b c=>aE (X 1) fun d B e=>aE (X 2) fun f bO bA=>aC .i64 (X 6) fun h=>a4.t Y bX a b c d B e f bO bA h Z
theorem a4.ok(Y:J)(bX:R→Nat→Nat→R→Nat→Nat→R→Nat→Nat→Int→V→Prop)(X:Fr)(Z:V)(g:a4.g Y bX X Z):den prog E (aP q [W,p,p]) (aM.then (dG.g bX) (aM.inBlock 0 (aX E [] Y))) X Z:=
 a0 g fun a b c d g=>a0 g fun e B f h g=>a0 g fun i bO bA j g=>aW g fun l m g=>bH [(0,.slice a b c),(1,.slice e B f),(2,.slice i bO bA),(6,.int .i64 l)] ⟨d,h,j,m,trivial⟩ (by kernel_rfl) g
def dG.t(Y:J):Nat→R→Nat→Nat→R→Nat→Nat→R→Nat→Nat→Int→V→Prop
 | 0=>fun _ _ _ _ _ _ _ _ _ _ _=>False
 | n+1=>fun a b c d B e f bO bA g Z=>a4.t Y (dG.t Y n) a b c d B e f bO bA g Z
theorem dG.ok(Y:J)(X:Fr)(Z:V)(g:dG.g (fun a b c d B e f bO bA h Z=>∃ n,dG.t Y n a b c d B e f bO bA h Z) X Z):den prog E (aP q [W,p]) (aM.inBlock 0 (aX E [] Y)) X Z:=by
 obtain⟨a,b,c,i,g⟩:=bT g
 obtain⟨d,B,e,j,g⟩:=bT g
 obtain⟨f,bO,bA,l,g⟩:=bT g
 obtain⟨h,m,g⟩:=bC g
 obtain⟨n,g⟩:=g
 refine eZ (fun n=>dG.g (dG.t Y n)) (N:=(aP q [W,p,p])) (by kernel_rfl) (fun X Z g=>?_) (fun n=>a4.ok Y (dG.t Y n)) n X Z (aQ i (aQ j (aQ l (bJ m (g)))))
 obtain⟨a,b,c,i,g⟩:=bT g
 obtain⟨d,B,e,j,g⟩:=bT g
 obtain⟨f,bO,bA,l,g⟩:=bT g
 obtain⟨h,m,g⟩:=bC g
 exact g
theorem eV.ok(Y:J)(X:Fr)(Z:V)(g:dG.g (fun a b c d B e f bO bA h Z=>∃ n,dG.t Y n a b c d B e f bO bA h Z) X Z):den prog E (aP q [W]) (aX E [] Y) X Z:=
 eN (by kernel_rfl) (dG.ok Y X Z g)
def u.t(Y:J)(a:R)(b c:Nat)(d:R)(B e:Nat)(f:R)(bO bA:Nat)(Z:V):Prop:=
 (∃ n,dG.t Y n a b c d B e f bO bA 0 Z)
def u.g(Y:J)(X:Fr)(Z:V):Prop:=aE (X 0) fun a b c=>aE (X 1) fun d B e=>aE (X 2) fun f bO bA=>u.t Y a b c d B e f bO bA Z
theorem u.ok(Y:J)(X:Fr)(Z:V)(g:u.g Y X Z):den prog E q (aX E [] Y) X Z:=
 a0 g fun a b c d g=>a0 g fun e B f h g=>a0 g fun i bO bA j g=>cN 1 (C:=(aP q [W])) (by kernel_rfl) (eV.ok Y) (bH [(0,.slice a b c),(1,.slice e B f),(2,.slice i bO bA)] ⟨d,h,j,trivial⟩ (by kernel_rfl) g)
def t(a:R)(b c:Nat)(d:R)(B e:Nat)(f:R)(bO bA:Nat)(Z:V)(Y:J):Prop:=u.t Y a b c d B e f bO bA Z
theorem ok{a:R}{b:Nat}{d:Nat}{e:R}{B:Nat}{f:Nat}{h:R}{bO:Nat}{bA:Nat}{Z:V}{Y:J}(g:t a b d e B f h bO bA Z Y):aG id #[.slice a b d,.slice e B f,.slice h bO bA] Z Y:=
 c9 dA (c:=q) (c3:=[]) Try.func82 (by kernel_rfl) (by kernel_rfl) (by kernel_rfl) (args:=[.slice a b d,.slice e B f,.slice h bO bA]) (by kernel_rfl) (u.ok Y _ Z (aQ rfl (aQ rfl (aQ rfl (g)))))
end lG
namespace pJ
noncomputable def q:Code:=c8 Try.f83
def u.t(Y:J)(a:R)(b c:Nat)(d:R)(B e:Nat)(f:R)(bO bA:Nat)(Z:V):Prop:=
 aN (IntKind.i64.wrap ((((B:Nat):Int))+1)) fun dF=>
 (2:Int) ≠ 0∧aN (IntKind.i64.wrap (Int.tdiv dF 2)) fun eY=>
 aG n9.id #[.slice d B e,.int .i64 eY] Z fun d e=>
 cO d fun d=>
 bY d fun d g h i=>
 bY i fun i j l m=>
 bG m <| aG n9.id #[.slice f bO bA,.int .i64 eY] e fun e f=>
 cO e fun e=>
 bY e fun e m n v=>
 bY v fun v D E G=>
 bG G <| aG lF.id #[.slice d g h,.slice e m n] f fun G f=>
 aE G fun G H P=>
 aG lF.id #[.slice i j l,.slice v D E] f fun f Iv=>
 aE f fun f Iw Ix=>
 aG mV.id #[.slice d g h,.slice i j l] Iv fun d g=>
 aE d fun d h i=>
 aG mV.id #[.slice e m n,.slice v D E] g fun D E=>
 aE D fun D e g=>
 aG lF.id #[.slice d h i,.slice D e g] E fun D E=>
 aE D fun D d e=>
 aG h8.id #[.slice D d e,.slice G H P] E fun E g=>
 cO E fun E=>
 bG E <| aG h8.id #[.slice D d e,.slice f Iw Ix] g fun E g=>
 cO E fun E=>
 bG E <| kR g 1 a b (.slice G H P) fun E E=>
 aG jX.id #[.slice D d e] E fun D E=>
 aE D fun D G H=>
 aG hO.id #[.slice a b c,.slice D G H,.int .i64 eY] E fun D E=>
 cO D fun D=>
 bG D <| aN (IntKind.i64.wrap (2*eY)) fun D=>
 aG hO.id #[.slice a b c,.slice f Iw Ix,.int .i64 D] E fun D E=>
 cO D fun D=>
 bG D <| Y (.tuple #[]) E
def u.g(Y:J)(X:Fr)(Z:V):Prop:=aE (X 0) fun a b c=>aE (X 1) fun d B e=>aE (X 2) fun f bO bA=>u.t Y a b c d B e f bO bA Z
theorem u.ok(Y:J)(X:Fr)(Z:V)(g:u.g Y X Z):den prog E q (aX E [] Y) X Z:=
 a0 g fun a b c d g=>a0 g fun e B f h g=>a0 g fun i bO bA j g=>bH [(0,.slice a b c),(1,.slice e B f),(2,.slice i bO bA)] ⟨d,h,j,trivial⟩ (by kernel_rfl) g
def t(a:R)(b c:Nat)(d:R)(B e:Nat)(f:R)(bO bA:Nat)(Z:V)(Y:J):Prop:=u.t Y a b c d B e f bO bA Z
theorem ok{a:R}{b:Nat}{d:Nat}{e:R}{B:Nat}{f:Nat}{h:R}{bO:Nat}{bA:Nat}{Z:V}{Y:J}(g:t a b d e B f h bO bA Z Y):aG id #[.slice a b d,.slice e B f,.slice h bO bA] Z Y:=
 c9 dA (c:=q) (c3:=[]) Try.func83 (by kernel_rfl) (by kernel_rfl) (by kernel_rfl) (args:=[.slice a b d,.slice e B f,.slice h bO bA]) (by kernel_rfl) (u.ok Y _ Z (aQ rfl (aQ rfl (aQ rfl (g)))))
end pJ
namespace jU
noncomputable def q:Code:=c8 Try.f84
def aD.t(Y:J)(a:R)(b c:Nat)(aA:Int)(Z:V):Prop:=
 aG fV.id #[.slice a b c] Z fun a b=>
 aE a fun a c d=>
 aN (IntKind.u32.wrap aA) fun e=>
 Y (.tuple #[.slice a c d,.int .u32 e]) b
def aD.g(Y:J)(X:Fr)(Z:V):Prop:=aE (X 6) fun a b c=>aC .u64 (X 7) fun aA=>aD.t Y a b c aA Z
theorem aD.ok(Y:J)(X:Fr)(Z:V)(g:aD.g Y X Z):den prog E (aP q [W,W,W,W,W]) (aX E [.tmp 4,.tmp 5] Y) X Z:=
 a0 g fun a b c d g=>aW g fun aA e g=>bH [(6,.slice a b c),(7,.int .u64 aA)] ⟨d,e,trivial⟩ (by kernel_rfl) g
def a8.g(a:R→Nat→Nat→Int→R→Nat→Nat→Int→Int→V→Prop)(X:Fr)(Z:V):Prop:=aE (X 0) fun b c d=>aC .u32 (X 1) fun r=>aE (X 6) fun e f h=>aC .u64 (X 7) fun aA=>aC .i64 (X 8) fun aL=>a b c d r e f h aA aL Z
def bS.t(Y:J)(a:R→Nat→Nat→Int→R→Nat→Nat→Int→Int→V→Prop)(b:R)(c d:Nat)(r:Int)(e:R)(f g:Nat)(aA aL:Int)(Z:V):Prop:=
 cond (decide (aL≥0)) (0≤(32:Int)∧aN (e7 .u64 aA 32) fun h=>
 cC b c aL 1 fun i=>
 c5 Z .u32 i fun i=>
 aN (IntKind.u64.wrap i) fun i=>
 aN (IntKind.u64.wrap (h+i)) fun h=>
 aN (IntKind.u64.wrap r) fun i=>
 i ≠ 0∧aN (IntKind.u64.wrap (Int.tdiv h i)) fun i=>
 aN (IntKind.u32.wrap i) fun i=>
 cC e f aL 1 fun j=>
 bI Z j (.int .u32 i) fun i=>
 aN (IntKind.u64.wrap r) fun j=>
 j ≠ 0∧aN (Int.tmod h j) fun h=>
 aN (IntKind.i64.wrap (aL - 1)) fun j=>
 a b c d r e f g h j i) (aD.t Y e f g aA Z)
def bS.g(Y:J)(a:R→Nat→Nat→Int→R→Nat→Nat→Int→Int→V→Prop)(X:Fr)(Z:V):Prop:=aE (X 0) fun b c d=>aC .u32 (X 1) fun r=>aE (X 6) fun e f h=>aC .u64 (X 7) fun aA=>aC .i64 (X 8) fun aL=>bS.t Y a b c d r e f h aA aL Z
theorem bS.ok(Y:J)(a:R→Nat→Nat→Int→R→Nat→Nat→Int→Int→V→Prop)(X:Fr)(Z:V)(g:bS.g Y a X Z):den prog E (aP q [W,W,W,W,p,W,p,p]) (aM.then (a8.g a) (aM.inBlock 0 (aM.then (aD.g Y) (aX E [.tmp 4,.tmp 5] Y)))) X Z:=
 a0 g fun a b c d g=>aW g fun r e g=>a0 g fun f h i j g=>aW g fun aA l g=>aW g fun aL m g=>bH [(0,.slice a b c),(1,.int .u32 r),(6,.slice f h i),(7,.int .u64 aA),(8,.int .i64 aL)] ⟨d,e,j,l,m,trivial⟩ (by kernel_rfl) g
def a8.t(Y:J):Nat→R→Nat→Nat→Int→R→Nat→Nat→Int→Int→V→Prop
 | 0=>fun _ _ _ _ _ _ _ _ _ _=>False
 | n+1=>fun a b c r d e f aA aL Z=>bS.t Y (a8.t Y n) a b c r d e f aA aL Z
theorem a8.ok(Y:J)(X:Fr)(Z:V)(g:a8.g (fun a b c r d e f aA aL Z=>∃ n,a8.t Y n a b c r d e f aA aL Z) X Z):den prog E (aP q [W,W,W,W,p,W,p]) (aM.inBlock 0 (aM.then (aD.g Y) (aX E [.tmp 4,.tmp 5] Y))) X Z:=by
 obtain⟨a,b,c,h,g⟩:=bT g
 obtain⟨r,i,g⟩:=bC g
 obtain⟨d,e,f,j,g⟩:=bT g
 obtain⟨aA,l,g⟩:=bC g
 obtain⟨aL,m,g⟩:=bC g
 obtain⟨n,g⟩:=g
 refine eZ (fun n=>a8.g (a8.t Y n)) (N:=(aP q [W,W,W,W,p,W,p,p])) (by kernel_rfl) (fun X Z g=>?_) (fun n=>bS.ok Y (a8.t Y n)) n X Z (aQ h (bJ i (aQ j (bJ l (bJ m (g))))))
 obtain⟨a,b,c,h,g⟩:=bT g
 obtain⟨r,i,g⟩:=bC g
 obtain⟨d,e,f,j,g⟩:=bT g
 obtain⟨aA,l,g⟩:=bC g
 obtain⟨aL,m,g⟩:=bC g
 exact g
theorem gG.ok(Y:J)(X:Fr)(Z:V)(g:a8.g (fun a b c r d e f aA aL Z=>∃ n,a8.t Y n a b c r d e f aA aL Z) X Z):den prog E (aP q [W,W,W,W,p,W]) (aM.then (aD.g Y) (aX E [.tmp 4,.tmp 5] Y)) X Z:=
 eN (by kernel_rfl) (a8.ok Y X Z g)
def a4.t(Y:J)(a:R)(b c:Nat)(r:Int)(d:R)(e f:Nat)(aA:Int)(Z:V):Prop:=
 aN (IntKind.i64.wrap ((((b:Nat):Int)) - 1)) fun g=>(∃ n,a8.t Y n a b c r d e f aA g Z)
def a4.g(Y:J)(X:Fr)(Z:V):Prop:=aE (X 0) fun a b c=>aC .u32 (X 1) fun r=>aE (X 6) fun d e f=>aC .u64 (X 7) fun aA=>a4.t Y a b c r d e f aA Z
theorem a4.ok(Y:J)(X:Fr)(Z:V)(g:a4.g Y X Z):den prog E (aP q [W,W,W,W,p]) (aM.then (aD.g Y) (aX E [.tmp 4,.tmp 5] Y)) X Z:=
 a0 g fun a b c d g=>aW g fun r e g=>a0 g fun f h i j g=>aW g fun aA l g=>cN 1 (C:=(aP q [W,W,W,W,p,W])) (by kernel_rfl) (gG.ok Y) (bH [(0,.slice a b c),(1,.int .u32 r),(6,.slice f h i),(7,.int .u64 aA)] ⟨d,e,j,l,trivial⟩ (by kernel_rfl) g)
theorem gH.ok(Y:J)(X:Fr)(Z:V)(g:a4.g Y X Z):den prog E (aP q [W,W,W,W]) (aX E [.tmp 4,.tmp 5] Y) X Z:=
 e8 (by kernel_rfl) (aD.ok Y) (a4.ok Y X Z g)
def u.t(Y:J)(a:R)(b c:Nat)(r:Int)(Z:V):Prop:=
 cond (r == 0) (aG gV.id #[.int .u64 0] Z fun d e=>
 aE d fun d f g=>
 Y (.tuple #[.slice d f g,.int .u32 0]) e) (g1 Z 78 gP (((b:Nat):Int)) (((b:Nat):Int)) fun d e=>
 a4.t Y a b c r (some d) ((((b:Nat):Int)).toNat) ((((b:Nat):Int)).toNat) 0 e)
def u.g(Y:J)(X:Fr)(Z:V):Prop:=aE (X 0) fun a b c=>aC .u32 (X 1) fun r=>u.t Y a b c r Z
theorem u.ok(Y:J)(X:Fr)(Z:V)(g:u.g Y X Z):den prog E q (aX E [.tmp 4,.tmp 5] Y) X Z:=
 a0 g fun a b c d g=>aW g fun r e g=>cN 4 (C:=(aP q [W,W,W,W])) (by kernel_rfl) (gH.ok Y) (bH [(0,.slice a b c),(1,.int .u32 r)] ⟨d,e,trivial⟩ (by kernel_rfl) g)
def t(a:R)(b c:Nat)(r:Int)(Z:V)(Y:J):Prop:=u.t Y a b c r Z
theorem ok{a:R}{b:Nat}{d:Nat}{r:Int}{Z:V}{Y:J}(g:t a b d r Z Y):aG id #[.slice a b d,.int .u32 r] Z Y:=
 c9 dA (c:=q) (c3:=[.tmp 4,.tmp 5]) Try.func84 (by kernel_rfl) (by kernel_rfl) (by kernel_rfl) (args:=[.slice a b d,.int .u32 r]) (by kernel_rfl) (u.ok Y _ Z (aQ rfl (bJ rfl (g))))
end jU
namespace jT
noncomputable def q:Code:=c8 Try.f85
def aD.t(Y:J)(a:Int)(Z:V):Prop:=
 Y (.int .i64 a) Z
def aD.g(Y:J)(X:Fr)(Z:V):Prop:=aC .i64 (X 3) fun a=>aD.t Y a Z
theorem aD.ok(Y:J)(X:Fr)(Z:V)(g:aD.g Y X Z):den prog E (aP q [W,W,W,W]) (aX E [.tmp 2] Y) X Z:=
 aW g fun a b g=>bH [(3,.int .i64 a)] ⟨b,trivial⟩ (by kernel_rfl) g
def a8.g(a:Int→Int→V→Prop)(X:Fr)(Z:V):Prop:=aC .i64 (X 3) fun b=>aC .u32 (X 4) fun c=>a b c Z
def bS.t(Y:J)(a:Int→Int→V→Prop)(b c:Int)(Z:V):Prop:=
 cond (decide (c > 0)) (aN (IntKind.i64.wrap (b+1)) fun d=>
 (2:Int) ≠ 0∧aN (IntKind.u32.wrap (Int.tdiv c 2)) fun c=>
 a d c Z) (aD.t Y b Z)
def bS.g(Y:J)(a:Int→Int→V→Prop)(X:Fr)(Z:V):Prop:=aC .i64 (X 3) fun b=>aC .u32 (X 4) fun c=>bS.t Y a b c Z
theorem bS.ok(Y:J)(a:Int→Int→V→Prop)(X:Fr)(Z:V)(g:bS.g Y a X Z):den prog E (aP q [W,W,W,p,W,p,p]) (aM.then (a8.g a) (aM.inBlock 0 (aM.then (aD.g Y) (aX E [.tmp 2] Y)))) X Z:=
 aW g fun a b g=>aW g fun c d g=>bH [(3,.int .i64 a),(4,.int .u32 c)] ⟨b,d,trivial⟩ (by kernel_rfl) g
def a8.t(Y:J):Nat→Int→Int→V→Prop
 | 0=>fun _ _ _=>False
 | n+1=>fun a b Z=>bS.t Y (a8.t Y n) a b Z
theorem a8.ok(Y:J)(X:Fr)(Z:V)(g:a8.g (fun a b Z=>∃ n,a8.t Y n a b Z) X Z):den prog E (aP q [W,W,W,p,W,p]) (aM.inBlock 0 (aM.then (aD.g Y) (aX E [.tmp 2] Y))) X Z:=by
 obtain⟨a,c,g⟩:=bC g
 obtain⟨b,d,g⟩:=bC g
 obtain⟨n,g⟩:=g
 refine eZ (fun n=>a8.g (a8.t Y n)) (N:=(aP q [W,W,W,p,W,p,p])) (by kernel_rfl) (fun X Z g=>?_) (fun n=>bS.ok Y (a8.t Y n)) n X Z (bJ c (bJ d (g)))
 obtain⟨a,c,g⟩:=bC g
 obtain⟨b,d,g⟩:=bC g
 exact g
theorem gG.ok(Y:J)(X:Fr)(Z:V)(g:a8.g (fun a b Z=>∃ n,a8.t Y n a b Z) X Z):den prog E (aP q [W,W,W,p,W]) (aM.then (aD.g Y) (aX E [.tmp 2] Y)) X Z:=
 eN (by kernel_rfl) (a8.ok Y X Z g)
def a4.t(Y:J)(a:R)(b c:Nat)(c:Int)(Z:V):Prop:=
 aN (IntKind.i64.wrap ((((b:Nat):Int)) - 1)) fun d=>
 cC a b d 1 fun a=>
 c5 Z .u32 a fun a=>
 (∃ n,a8.t Y n c a Z)
def a4.g(Y:J)(X:Fr)(Z:V):Prop:=aE (X 0) fun a b c=>aC .i64 (X 3) fun d=>a4.t Y a b c d Z
theorem a4.ok(Y:J)(X:Fr)(Z:V)(g:a4.g Y X Z):den prog E (aP q [W,W,W,p]) (aM.then (aD.g Y) (aX E [.tmp 2] Y)) X Z:=
 a0 g fun a b c d g=>aW g fun e f g=>cN 1 (C:=(aP q [W,W,W,p,W])) (by kernel_rfl) (gG.ok Y) (bH [(0,.slice a b c),(3,.int .i64 e)] ⟨d,f,trivial⟩ (by kernel_rfl) g)
theorem gH.ok(Y:J)(X:Fr)(Z:V)(g:a4.g Y X Z):den prog E (aP q [W,W,W]) (aX E [.tmp 2] Y) X Z:=
 e8 (by kernel_rfl) (aD.ok Y) (a4.ok Y X Z g)
def u.t(Y:J)(a:R)(b c:Nat)(Z:V):Prop:=
 cond ((((b:Nat):Int)) == 0) (Y (.int .i64 0) Z) (aN (IntKind.i64.wrap ((((b:Nat):Int)) - 1)) fun dF=>
 aN (IntKind.i64.wrap (32*dF)) fun eY=>
 a4.t Y a b c eY Z)
def u.g(Y:J)(X:Fr)(Z:V):Prop:=aE (X 0) fun a b c=>u.t Y a b c Z
theorem u.ok(Y:J)(X:Fr)(Z:V)(g:u.g Y X Z):den prog E q (aX E [.tmp 2] Y) X Z:=
 a0 g fun a b c d g=>cN 3 (C:=(aP q [W,W,W])) (by kernel_rfl) (gH.ok Y) (bH [(0,.slice a b c)] ⟨d,trivial⟩ (by kernel_rfl) g)
def t(a:R)(b c:Nat)(Z:V)(Y:J):Prop:=u.t Y a b c Z
theorem ok{a:R}{b:Nat}{d:Nat}{Z:V}{Y:J}(g:t a b d Z Y):aG id #[.slice a b d] Z Y:=
 c9 dA (c:=q) (c3:=[.tmp 2]) Try.func85 (by kernel_rfl) (by kernel_rfl) (by kernel_rfl) (args:=[.slice a b d]) (by kernel_rfl) (u.ok Y _ Z (aQ rfl (g)))
end jT
namespace fW
noncomputable def q:Code:=c8 Try.f86
def aD.t(Y:J)(aA:Int)(Z:V):Prop:=
 aN (IntKind.u32.wrap aA) fun a=>Y (.int .u32 a) Z
def aD.g(Y:J)(X:Fr)(Z:V):Prop:=aC .u64 (X 7) fun aA=>aD.t Y aA Z
theorem aD.ok(Y:J)(X:Fr)(Z:V)(g:aD.g Y X Z):den prog E (aP q [W,W,W,W,W,W,W]) (aX E [.tmp 4] Y) X Z:=
 aW g fun aA a g=>bH [(7,.int .u64 aA)] ⟨a,trivial⟩ (by kernel_rfl) g
def bZ.g(a:R→Nat→Nat→R→Nat→Nat→Int→Int→Int→V→Prop)(X:Fr)(Z:V):Prop:=aE (X 0) fun b c d=>aE (X 1) fun e B f=>aC .i64 (X 5) fun h=>aC .u64 (X 7) fun aA=>aC .u64 (X 9) fun aR=>a b c d e B f h aA aR Z
def cW.t(Y:J)(a:R→Nat→Nat→R→Nat→Nat→Int→Int→Int→V→Prop)(b:R)(c d:Nat)(e:R)(B f:Nat)(g aA:Int)(aL aR:Int)(Z:V):Prop:=
 aN (IntKind.u64.wrap (aR - (if aL < aR then aL else aR))) fun h=>a b c d e B f g aA h Z
def cW.g(Y:J)(a:R→Nat→Nat→R→Nat→Nat→Int→Int→Int→V→Prop)(X:Fr)(Z:V):Prop:=aE (X 0) fun b c d=>aE (X 1) fun e B f=>aC .i64 (X 5) fun h=>aC .u64 (X 7) fun aA=>aC .u64 (X 8) fun aL=>aC .u64 (X 9) fun aR=>cW.t Y a b c d e B f h aA aL aR Z
theorem cW.ok(Y:J)(a:R→Nat→Nat→R→Nat→Nat→Int→Int→Int→V→Prop)(X:Fr)(Z:V)(g:cW.g Y a X Z):den prog E (aP q [W,W,W,W,W,W,p,p,p,W,p,W,W,W]) (aM.inBlock 3 (aM.then (bZ.g a) (aM.inBlock 2 (aM.then (aD.g Y) (aX E [.tmp 4] Y))))) X Z:=
 a0 g fun a b c d g=>a0 g fun e B f h g=>aW g fun i j g=>aW g fun aA l g=>aW g fun aL m g=>aW g fun aR n g=>bH [(0,.slice a b c),(1,.slice e B f),(5,.int .i64 i),(7,.int .u64 aA),(8,.int .u64 aL),(9,.int .u64 aR)] ⟨d,h,j,l,m,n,trivial⟩ (by kernel_rfl) g
def fS.g(a:R→Nat→Nat→R→Nat→Nat→Int→Int→Int→Int→Int→V→Prop)(X:Fr)(Z:V):Prop:=aE (X 0) fun b c d=>aE (X 1) fun e B f=>aC .i64 (X 5) fun h=>aC .u64 (X 7) fun aA=>aC .u64 (X 8) fun aL=>aC .u64 (X 9) fun aR=>aC .i64 (X 13) fun i=>a b c d e B f h aA aL aR i Z
def fJ.t(Y:J)(a:R→Nat→Nat→R→Nat→Nat→Int→Int→Int→V→Prop)(b:R→Nat→Nat→R→Nat→Nat→Int→Int→Int→Int→Int→V→Prop)(c:R)(d e:Nat)(f:R)(B g:Nat)(h aA:Int)(aL aR i:Int)(Z:V):Prop:=
 cond (decide (i≤h)) (cC c d i 1 fun j=>
 c5 Z .u32 j fun j=>
 aN (IntKind.u64.wrap j) fun j=>
 aN (IntKind.u64.wrap (aL+j)) fun j=>
 cond (decide (i < h)) (cC f B i 1 fun l=>
 c5 Z .u32 l fun l=>
 aN (IntKind.u64.wrap l) fun l=>
 aN (IntKind.u64.wrap (j+l)) fun l=>
 aN (fK .u64 l 4294967295) fun m=>
 aN (IntKind.u32.wrap m) fun m=>
 cC c d i 1 fun n=>
 bI Z n (.int .u32 m) fun m=>
 0≤(32:Int)∧aN (fC .u64 l 32) fun l=>
 aN (IntKind.i64.wrap (i+1)) fun n=>
 b c d e f B g h aA l aR n m) (aN (fK .u64 j 4294967295) fun l=>
 aN (IntKind.u32.wrap l) fun l=>
 cC c d i 1 fun m=>
 bI Z m (.int .u32 l) fun l=>
 0≤(32:Int)∧aN (fC .u64 j 32) fun j=>
 aN (IntKind.i64.wrap (i+1)) fun i=>
 b c d e f B g h aA j aR i l)) (cW.t Y a c d e f B g h aA aL aR Z)
def fJ.g(Y:J)(a:R→Nat→Nat→R→Nat→Nat→Int→Int→Int→V→Prop)(b:R→Nat→Nat→R→Nat→Nat→Int→Int→Int→Int→Int→V→Prop)(X:Fr)(Z:V):Prop:=aE (X 0) fun c d e=>aE (X 1) fun f B h=>aC .i64 (X 5) fun i=>aC .u64 (X 7) fun aA=>aC .u64 (X 8) fun aL=>aC .u64 (X 9) fun aR=>aC .i64 (X 13) fun j=>fJ.t Y a b c d e f B h i aA aL aR j Z
theorem fJ.ok(Y:J)(a:R→Nat→Nat→R→Nat→Nat→Int→Int→Int→V→Prop)(b:R→Nat→Nat→R→Nat→Nat→Int→Int→Int→Int→Int→V→Prop)(X:Fr)(Z:V)(g:fJ.g Y a b X Z):den prog E (aP q [W,W,W,W,W,W,p,p,p,W,p,W,W,p,W,p,p]) (aM.then (fS.g b) (aM.inBlock 4 (aM.then (cW.g Y a) (aM.inBlock 3 (aM.then (bZ.g a) (aM.inBlock 2 (aM.then (aD.g Y) (aX E [.tmp 4] Y)))))))) X Z:=
 a0 g fun a b c d g=>a0 g fun e B f h g=>aW g fun i j g=>aW g fun aA l g=>aW g fun aL m g=>aW g fun aR n g=>aW g fun t v g=>bH [(0,.slice a b c),(1,.slice e B f),(5,.int .i64 i),(7,.int .u64 aA),(8,.int .u64 aL),(9,.int .u64 aR),(13,.int .i64 t)] ⟨d,h,j,l,m,n,v,trivial⟩ (by kernel_rfl) g
def fS.t(Y:J)(a:R→Nat→Nat→R→Nat→Nat→Int→Int→Int→V→Prop):Nat→R→Nat→Nat→R→Nat→Nat→Int→Int→Int→Int→Int→V→Prop
 | 0=>fun _ _ _ _ _ _ _ _ _ _ _ _=>False
 | n+1=>fun b c d e B f g aA aL aR h Z=>fJ.t Y a (fS.t Y a n) b c d e B f g aA aL aR h Z
theorem fS.ok(Y:J)(a:R→Nat→Nat→R→Nat→Nat→Int→Int→Int→V→Prop)(X:Fr)(Z:V)(g:fS.g (fun b c d e B f h aA aL aR i Z=>∃ n,fS.t Y a n b c d e B f h aA aL aR i Z) X Z):den prog E (aP q [W,W,W,W,W,W,p,p,p,W,p,W,W,p,W,p]) (aM.inBlock 4 (aM.then (cW.g Y a) (aM.inBlock 3 (aM.then (bZ.g a) (aM.inBlock 2 (aM.then (aD.g Y) (aX E [.tmp 4] Y))))))) X Z:=by
 obtain⟨b,c,d,j,g⟩:=bT g
 obtain⟨e,B,f,l,g⟩:=bT g
 obtain⟨h,m,g⟩:=bC g
 obtain⟨aA,v,g⟩:=bC g
 obtain⟨aL,D,g⟩:=bC g
 obtain⟨aR,G,g⟩:=bC g
 obtain⟨i,H,g⟩:=bC g
 obtain⟨n,g⟩:=g
 refine eZ (fun n=>fS.g (fS.t Y a n)) (N:=(aP q [W,W,W,W,W,W,p,p,p,W,p,W,W,p,W,p,p])) (by kernel_rfl) (fun X Z g=>?_) (fun n=>fJ.ok Y a (fS.t Y a n)) n X Z (aQ j (aQ l (bJ m (bJ v (bJ D (bJ G (bJ H (g))))))))
 obtain⟨b,c,d,j,g⟩:=bT g
 obtain⟨e,B,f,l,g⟩:=bT g
 obtain⟨h,m,g⟩:=bC g
 obtain⟨aA,v,g⟩:=bC g
 obtain⟨aL,D,g⟩:=bC g
 obtain⟨aR,G,g⟩:=bC g
 obtain⟨i,H,g⟩:=bC g
 exact g
theorem dY.ok(Y:J)(a:R→Nat→Nat→R→Nat→Nat→Int→Int→Int→V→Prop)(X:Fr)(Z:V)(g:fS.g (fun b c d e B f h aA aL aR i Z=>∃ n,fS.t Y a n b c d e B f h aA aL aR i Z) X Z):den prog E (aP q [W,W,W,W,W,W,p,p,p,W,p,W,W,p,W]) (aM.then (cW.g Y a) (aM.inBlock 3 (aM.then (bZ.g a) (aM.inBlock 2 (aM.then (aD.g Y) (aX E [.tmp 4] Y)))))) X Z:=
 eN (by kernel_rfl) (fS.ok Y a X Z g)
def dP.t(Y:J)(a:R→Nat→Nat→R→Nat→Nat→Int→Int→Int→V→Prop)(b:R)(c d:Nat)(e:R)(B f:Nat)(g aA:Int)(aL aR:Int)(Z:V):Prop:=
 (∃ n,fS.t Y a n b c d e B f g aA aL aR 0 Z)
def dP.g(Y:J)(a:R→Nat→Nat→R→Nat→Nat→Int→Int→Int→V→Prop)(X:Fr)(Z:V):Prop:=aE (X 0) fun b c d=>aE (X 1) fun e B f=>aC .i64 (X 5) fun h=>aC .u64 (X 7) fun aA=>aC .u64 (X 8) fun aL=>aC .u64 (X 9) fun aR=>dP.t Y a b c d e B f h aA aL aR Z
theorem dP.ok(Y:J)(a:R→Nat→Nat→R→Nat→Nat→Int→Int→Int→V→Prop)(X:Fr)(Z:V)(g:dP.g Y a X Z):den prog E (aP q [W,W,W,W,W,W,p,p,p,W,p,W,W,p]) (aM.then (cW.g Y a) (aM.inBlock 3 (aM.then (bZ.g a) (aM.inBlock 2 (aM.then (aD.g Y) (aX E [.tmp 4] Y)))))) X Z:=
 a0 g fun b c d e g=>a0 g fun f B h i g=>aW g fun j l g=>aW g fun aA m g=>aW g fun aL n g=>aW g fun aR t g=>cN 1 (C:=(aP q [W,W,W,W,W,W,p,p,p,W,p,W,W,p,W])) (by kernel_rfl) (dY.ok Y a) (bH [(0,.slice b c d),(1,.slice f B h),(5,.int .i64 j),(7,.int .u64 aA),(8,.int .u64 aL),(9,.int .u64 aR)] ⟨e,i,l,m,n,t,trivial⟩ (by kernel_rfl) g)
theorem x0.ok(Y:J)(a:R→Nat→Nat→R→Nat→Nat→Int→Int→Int→V→Prop)(X:Fr)(Z:V)(g:dP.g Y a X Z):den prog E (aP q [W,W,W,W,W,W,p,p,p,W,p,W,W]) (aM.inBlock 3 (aM.then (bZ.g a) (aM.inBlock 2 (aM.then (aD.g Y) (aX E [.tmp 4] Y))))) X Z:=
 e8 (by kernel_rfl) (cW.ok Y a) (dP.ok Y a X Z g)
def bS.t(Y:J)(a:R→Nat→Nat→R→Nat→Nat→Int→Int→Int→V→Prop)(b:R)(c d:Nat)(e:R)(B f:Nat)(g aA aR:Int)(Z:V):Prop:=
 aN (IntKind.u64.wrap (aA - 1)) fun h=>dP.t Y a b c d e B f g h 0 aR Z
def bS.g(Y:J)(a:R→Nat→Nat→R→Nat→Nat→Int→Int→Int→V→Prop)(X:Fr)(Z:V):Prop:=aE (X 0) fun b c d=>aE (X 1) fun e B f=>aC .i64 (X 5) fun h=>aC .u64 (X 7) fun aA=>aC .u64 (X 9) fun aR=>bS.t Y a b c d e B f h aA aR Z
theorem bS.ok(Y:J)(a:R→Nat→Nat→R→Nat→Nat→Int→Int→Int→V→Prop)(X:Fr)(Z:V)(g:bS.g Y a X Z):den prog E (aP q [W,W,W,W,W,W,p,p,p,W,p]) (aM.inBlock 3 (aM.then (bZ.g a) (aM.inBlock 2 (aM.then (aD.g Y) (aX E [.tmp 4] Y))))) X Z:=
 a0 g fun b c d e g=>a0 g fun f B h i g=>aW g fun j l g=>aW g fun aA m g=>aW g fun aR n g=>cN 2 (C:=(aP q [W,W,W,W,W,W,p,p,p,W,p,W,W])) (by kernel_rfl) (x0.ok Y a) (bH [(0,.slice b c d),(1,.slice f B h),(5,.int .i64 j),(7,.int .u64 aA),(9,.int .u64 aR)] ⟨e,i,l,m,n,trivial⟩ (by kernel_rfl) g)
theorem h0.ok(Y:J)(a:R→Nat→Nat→R→Nat→Nat→Int→Int→Int→V→Prop)(X:Fr)(Z:V)(g:bS.g Y a X Z):den prog E (aP q [W,W,W,W,W,W,p,p,p,W]) (aM.then (bZ.g a) (aM.inBlock 2 (aM.then (aD.g Y) (aX E [.tmp 4] Y)))) X Z:=
 eN (by kernel_rfl) (bS.ok Y a X Z g)
def bP.t(Y:J)(a:R→Nat→Nat→R→Nat→Nat→Int→Int→Int→V→Prop)(b:R)(c d:Nat)(e:R)(B f:Nat)(g aA aR:Int)(Z:V):Prop:=
 cond (decide (aR > 0)) (bS.t Y a b c d e B f g aA aR Z) (aD.t Y aA Z)
def bP.g(Y:J)(a:R→Nat→Nat→R→Nat→Nat→Int→Int→Int→V→Prop)(X:Fr)(Z:V):Prop:=aE (X 0) fun b c d=>aE (X 1) fun e B f=>aC .i64 (X 5) fun h=>aC .u64 (X 7) fun aA=>aC .u64 (X 9) fun aR=>bP.t Y a b c d e B f h aA aR Z
theorem bP.ok(Y:J)(a:R→Nat→Nat→R→Nat→Nat→Int→Int→Int→V→Prop)(X:Fr)(Z:V)(g:bP.g Y a X Z):den prog E (aP q [W,W,W,W,W,W,p,p,p]) (aM.then (bZ.g a) (aM.inBlock 2 (aM.then (aD.g Y) (aX E [.tmp 4] Y)))) X Z:=
 a0 g fun b c d e g=>a0 g fun f B h i g=>aW g fun j l g=>aW g fun aA m g=>aW g fun aR n g=>cN 1 (C:=(aP q [W,W,W,W,W,W,p,p,p,W])) (by kernel_rfl) (h0.ok Y a) (bH [(0,.slice b c d),(1,.slice f B h),(5,.int .i64 j),(7,.int .u64 aA),(9,.int .u64 aR)] ⟨e,i,l,m,n,trivial⟩ (by kernel_rfl) g)
def bZ.t(Y:J):Nat→R→Nat→Nat→R→Nat→Nat→Int→Int→Int→V→Prop
 | 0=>fun _ _ _ _ _ _ _ _ _ _=>False
 | n+1=>fun a b c d B e f aA aR Z=>bP.t Y (bZ.t Y n) a b c d B e f aA aR Z
theorem bZ.ok(Y:J)(X:Fr)(Z:V)(g:bZ.g (fun a b c d B e f aA aR Z=>∃ n,bZ.t Y n a b c d B e f aA aR Z) X Z):den prog E (aP q [W,W,W,W,W,W,p,p]) (aM.inBlock 2 (aM.then (aD.g Y) (aX E [.tmp 4] Y))) X Z:=by
 obtain⟨a,b,c,h,g⟩:=bT g
 obtain⟨d,B,e,i,g⟩:=bT g
 obtain⟨f,j,g⟩:=bC g
 obtain⟨aA,l,g⟩:=bC g
 obtain⟨aR,m,g⟩:=bC g
 obtain⟨n,g⟩:=g
 refine eZ (fun n=>bZ.g (bZ.t Y n)) (N:=(aP q [W,W,W,W,W,W,p,p,p])) (by kernel_rfl) (fun X Z g=>?_) (fun n=>bP.ok Y (bZ.t Y n)) n X Z (aQ h (aQ i (bJ j (bJ l (bJ m (g))))))
 obtain⟨a,b,c,h,g⟩:=bT g
 obtain⟨d,B,e,i,g⟩:=bT g
 obtain⟨f,j,g⟩:=bC g
 obtain⟨aA,l,g⟩:=bC g
 obtain⟨aR,m,g⟩:=bC g
 exact g
theorem iB.ok(Y:J)(X:Fr)(Z:V)(g:bZ.g (fun a b c d B e f aA aR Z=>∃ n,bZ.t Y n a b c d B e f aA aR Z) X Z):den prog E (aP q [W,W,W,W,W,W,p]) (aM.then (aD.g Y) (aX E [.tmp 4] Y)) X Z:=
 eN (by kernel_rfl) (bZ.ok Y X Z g)
theorem Ip.ok(Y:J)(X:Fr)(Z:V)(g:bZ.g (fun a b c d B e f aA aR Z=>∃ n,bZ.t Y n a b c d B e f aA aR Z) X Z):den prog E (aP q [W,W,W,W,W,W]) (aX E [.tmp 4] Y) X Z:=
 e8 (by kernel_rfl) (aD.ok Y) (iB.ok Y X Z g)
def iP.g(a:R→Nat→Nat→R→Nat→Nat→Int→Int→Int→Int→Int→V→Prop)(X:Fr)(Z:V):Prop:=aE (X 0) fun b c d=>aE (X 1) fun e B f=>aC .i64 (X 5) fun h=>aC .u64 (X 7) fun aA=>aC .u64 (X 8) fun aL=>aC .u64 (X 9) fun aR=>aC .i64 (X 10) fun i=>a b c d e B f h aA aL aR i Z
def n1.t(Y:J)(a:R→Nat→Nat→R→Nat→Nat→Int→Int→Int→Int→Int→V→Prop)(b:R)(c d:Nat)(e:R)(B f:Nat)(g aA:Int)(aL aR h:Int)(Z:V):Prop:=
 cond (decide (h≤g)) (cond (decide (h < g)) (cC e B h 1 fun i=>
 c5 Z .u32 i fun i=>
 aN (IntKind.u64.wrap i) fun i=>
 aN (IntKind.u64.wrap (aA*i)) fun i=>
 aN (IntKind.u64.wrap (aL+i)) fun i=>
 aN (fK .u64 i 4294967295) fun j=>
 aN (IntKind.u64.wrap (j+aR)) fun j=>
 0≤(32:Int)∧aN (fC .u64 i 32) fun i=>
 cC b c h 1 fun l=>
 c5 Z .u32 l fun l=>
 aN (IntKind.u64.wrap l) fun l=>
 cond (decide (l < j)) (aN (IntKind.u64.wrap (l+4294967296)) fun m=>
 aN (IntKind.u64.wrap (m - j)) fun m=>
 aN (IntKind.u32.wrap m) fun m=>
 cC b c h 1 fun v=>
 bI Z v (.int .u32 m) fun m=>
 aN (IntKind.i64.wrap (h+1)) fun v=>
 a b c d e B f g aA i 1 v m) (aN (IntKind.u64.wrap (l - j)) fun j=>
 aN (IntKind.u32.wrap j) fun j=>
 cC b c h 1 fun l=>
 bI Z l (.int .u32 j) fun j=>
 aN (IntKind.i64.wrap (h+1)) fun l=>
 a b c d e B f g aA i 0 l j)) (aN (fK .u64 aL 4294967295) fun i=>
 aN (IntKind.u64.wrap (i+aR)) fun i=>
 0≤(32:Int)∧aN (fC .u64 aL 32) fun j=>
 cC b c h 1 fun l=>
 c5 Z .u32 l fun l=>
 aN (IntKind.u64.wrap l) fun l=>
 cond (decide (l < i)) (aN (IntKind.u64.wrap (l+4294967296)) fun m=>
 aN (IntKind.u64.wrap (m - i)) fun m=>
 aN (IntKind.u32.wrap m) fun m=>
 cC b c h 1 fun v=>
 bI Z v (.int .u32 m) fun m=>
 aN (IntKind.i64.wrap (h+1)) fun v=>
 a b c d e B f g aA j 1 v m) (aN (IntKind.u64.wrap (l - i)) fun i=>
 aN (IntKind.u32.wrap i) fun i=>
 cC b c h 1 fun l=>
 bI Z l (.int .u32 i) fun i=>
 aN (IntKind.i64.wrap (h+1)) fun h=>
 a b c d e B f g aA j 0 h i))) ((∃ n,bZ.t Y n b c d e B f g aA aR Z))
def n1.g(Y:J)(a:R→Nat→Nat→R→Nat→Nat→Int→Int→Int→Int→Int→V→Prop)(X:Fr)(Z:V):Prop:=aE (X 0) fun b c d=>aE (X 1) fun e B f=>aC .i64 (X 5) fun h=>aC .u64 (X 7) fun aA=>aC .u64 (X 8) fun aL=>aC .u64 (X 9) fun aR=>aC .i64 (X 10) fun i=>n1.t Y a b c d e B f h aA aL aR i Z
theorem n1.ok(Y:J)(a:R→Nat→Nat→R→Nat→Nat→Int→Int→Int→Int→Int→V→Prop)(X:Fr)(Z:V)(g:n1.g Y a X Z):den prog E (aP q [W,W,W,W,W,p,W,p,p]) (aM.then (iP.g a) (aM.inBlock 0 (aM.then (bZ.g (fun a b c d B e f aA aR Z=>∃ n,bZ.t Y n a b c d B e f aA aR Z)) (aX E [.tmp 4] Y)))) X Z:=
 a0 g fun a b c h g=>a0 g fun d B e i g=>aW g fun f j g=>aW g fun aA l g=>aW g fun aL m g=>aW g fun aR v g=>aW g fun D G g=>bH [(0,.slice a b c),(1,.slice d B e),(5,.int .i64 f),(7,.int .u64 aA),(8,.int .u64 aL),(9,.int .u64 aR),(10,.int .i64 D)] ⟨h,i,j,l,m,v,G,trivial⟩ (by kernel_rfl) g
def iP.t(Y:J):Nat→R→Nat→Nat→R→Nat→Nat→Int→Int→Int→Int→Int→V→Prop
 | 0=>fun _ _ _ _ _ _ _ _ _ _ _ _=>False
 | n+1=>fun a b c d B e f aA aL aR g Z=>n1.t Y (iP.t Y n) a b c d B e f aA aL aR g Z
theorem iP.ok(Y:J)(X:Fr)(Z:V)(g:iP.g (fun a b c d B e f aA aL aR h Z=>∃ n,iP.t Y n a b c d B e f aA aL aR h Z) X Z):den prog E (aP q [W,W,W,W,W,p,W,p]) (aM.inBlock 0 (aM.then (bZ.g (fun a b c d B e f aA aR Z=>∃ n,bZ.t Y n a b c d B e f aA aR Z)) (aX E [.tmp 4] Y))) X Z:=by
 obtain⟨a,b,c,i,g⟩:=bT g
 obtain⟨d,B,e,j,g⟩:=bT g
 obtain⟨f,l,g⟩:=bC g
 obtain⟨aA,m,g⟩:=bC g
 obtain⟨aL,v,g⟩:=bC g
 obtain⟨aR,D,g⟩:=bC g
 obtain⟨h,G,g⟩:=bC g
 obtain⟨n,g⟩:=g
 refine eZ (fun n=>iP.g (iP.t Y n)) (N:=(aP q [W,W,W,W,W,p,W,p,p])) (by kernel_rfl) (fun X Z g=>?_) (fun n=>n1.ok Y (iP.t Y n)) n X Z (aQ i (aQ j (bJ l (bJ m (bJ v (bJ D (bJ G (g))))))))
 obtain⟨a,b,c,i,g⟩:=bT g
 obtain⟨d,B,e,j,g⟩:=bT g
 obtain⟨f,l,g⟩:=bC g
 obtain⟨aA,m,g⟩:=bC g
 obtain⟨aL,v,g⟩:=bC g
 obtain⟨aR,D,g⟩:=bC g
 obtain⟨h,G,g⟩:=bC g
 exact g
theorem Iq.ok(Y:J)(X:Fr)(Z:V)(g:iP.g (fun a b c d B e f aA aL aR h Z=>∃ n,iP.t Y n a b c d B e f aA aL aR h Z) X Z):den prog E (aP q [W,W,W,W,W,p,W]) (aM.then (bZ.g (fun a b c d B e f aA aR Z=>∃ n,bZ.t Y n a b c d B e f aA aR Z)) (aX E [.tmp 4] Y)) X Z:=
 eN (by kernel_rfl) (iP.ok Y X Z g)
def n2.t(Y:J)(a:R)(b c:Nat)(d:R)(B e:Nat)(f aA:Int)(aL aR:Int)(Z:V):Prop:=
 (∃ n,iP.t Y n a b c d B e f aA aL aR 0 Z)
def n2.g(Y:J)(X:Fr)(Z:V):Prop:=aE (X 0) fun a b c=>aE (X 1) fun d B e=>aC .i64 (X 5) fun f=>aC .u64 (X 7) fun aA=>aC .u64 (X 8) fun aL=>aC .u64 (X 9) fun aR=>n2.t Y a b c d B e f aA aL aR Z
theorem n2.ok(Y:J)(X:Fr)(Z:V)(g:n2.g Y X Z):den prog E (aP q [W,W,W,W,W,p]) (aM.then (bZ.g (fun a b c d B e f aA aR Z=>∃ n,bZ.t Y n a b c d B e f aA aR Z)) (aX E [.tmp 4] Y)) X Z:=
 a0 g fun a b c h g=>a0 g fun d B e i g=>aW g fun f j g=>aW g fun aA l g=>aW g fun aL m g=>aW g fun aR v g=>cN 1 (C:=(aP q [W,W,W,W,W,p,W])) (by kernel_rfl) (Iq.ok Y) (bH [(0,.slice a b c),(1,.slice d B e),(5,.int .i64 f),(7,.int .u64 aA),(8,.int .u64 aL),(9,.int .u64 aR)] ⟨h,i,j,l,m,v,trivial⟩ (by kernel_rfl) g)
theorem Ir.ok(Y:J)(X:Fr)(Z:V)(g:n2.g Y X Z):den prog E (aP q [W,W,W,W,W]) (aX E [.tmp 4] Y) X Z:=
 e8 (by kernel_rfl) (Ip.ok Y) (n2.ok Y X Z g)
def u.t(Y:J)(a:R)(b c:Nat)(d:R)(B e:Nat)(Z:V):Prop:=
 cC a b (((B:Nat):Int)) 1 fun f=>
 c5 Z .u32 f fun f=>
 aN (IntKind.u64.wrap f) fun f=>
 0≤(32:Int)∧aN (e7 .u64 f 32) fun f=>
 aN (IntKind.i64.wrap ((((B:Nat):Int)) - 1)) fun g=>
 cC a b g 1 fun g=>
 c5 Z .u32 g fun g=>
 aN (IntKind.u64.wrap g) fun g=>
 aN (IntKind.u64.wrap (f+g)) fun f=>
 aN (IntKind.i64.wrap ((((B:Nat):Int)) - 1)) fun g=>
 cC d B g 1 fun g=>
 c5 Z .u32 g fun g=>
 aN (IntKind.u64.wrap g) fun g=>
 g ≠ 0∧aN (IntKind.u64.wrap (Int.tdiv f g)) fun f=>
 n2.t Y a b c d B e (((B:Nat):Int)) (if 4294967295 < f then 4294967295 else f) 0 0 Z
def u.g(Y:J)(X:Fr)(Z:V):Prop:=aE (X 0) fun a b c=>aE (X 1) fun d B e=>u.t Y a b c d B e Z
theorem u.ok(Y:J)(X:Fr)(Z:V)(g:u.g Y X Z):den prog E q (aX E [.tmp 4] Y) X Z:=
 a0 g fun a b c d g=>a0 g fun e B f h g=>cN 5 (C:=(aP q [W,W,W,W,W])) (by kernel_rfl) (Ir.ok Y) (bH [(0,.slice a b c),(1,.slice e B f)] ⟨d,h,trivial⟩ (by kernel_rfl) g)
def t(a:R)(b c:Nat)(d:R)(B e:Nat)(Z:V)(Y:J):Prop:=u.t Y a b c d B e Z
theorem ok{a:R}{b:Nat}{d:Nat}{e:R}{B:Nat}{f:Nat}{Z:V}{Y:J}(g:t a b d e B f Z Y):aG id #[.slice a b d,.slice e B f] Z Y:=
 c9 dA (c:=q) (c3:=[.tmp 4]) Try.func86 (by kernel_rfl) (by kernel_rfl) (by kernel_rfl) (args:=[.slice a b d,.slice e B f]) (by kernel_rfl) (u.ok Y _ Z (aQ rfl (aQ rfl (g))))
end fW
namespace pC
noncomputable def q:Code:=c8 Try.f87
def u.t(Y:J)(a:R)(b c:Nat)(r:Int)(Z:V):Prop:=
 cond (decide (r≤0)) (aG fV.id #[.slice a b c] Z fun d e=>
 aE d fun d f g=>
 Y (.slice d f g) e) ((32:Int) ≠ 0∧aN (IntKind.i64.wrap (Int.tdiv r 32)) fun d=>
 cond (decide (d≥(((b:Nat):Int)))) (aG gV.id #[.int .u64 0] Z fun d e=>
 aE d fun d f g=>
 Y (.slice d f g) e) ((32:Int) ≠ 0∧aN (IntKind.i64.wrap (Int.tdiv r 32)) fun d=>
 gT 1 a b c (some (.int .i64 d)) none none fun a b c=>
 (32:Int) ≠ 0∧aN (Int.tmod r 32) fun d=>
 0≤d∧aN (e7 .u32 1 d) fun d=>
 aG jU.id #[.slice a b c,.int .u32 d] Z fun a b=>
 cO a fun a=>
 bY a fun a c d e=>
 dI e .u32 fun e e=>
 bG e <| Y (.slice a c d) b))
def u.g(Y:J)(X:Fr)(Z:V):Prop:=aE (X 0) fun a b c=>aC .i64 (X 1) fun r=>u.t Y a b c r Z
theorem u.ok(Y:J)(X:Fr)(Z:V)(g:u.g Y X Z):den prog E q (aX E [.tmp 4] Y) X Z:=
 a0 g fun a b c d g=>aW g fun r e g=>bH [(0,.slice a b c),(1,.int .i64 r)] ⟨d,e,trivial⟩ (by kernel_rfl) g
def t(a:R)(b c:Nat)(r:Int)(Z:V)(Y:J):Prop:=u.t Y a b c r Z
theorem ok{a:R}{b:Nat}{d:Nat}{r:Int}{Z:V}{Y:J}(g:t a b d r Z Y):aG id #[.slice a b d,.int .i64 r] Z Y:=
 c9 dA (c:=q) (c3:=[.tmp 4]) Try.func87 (by kernel_rfl) (by kernel_rfl) (by kernel_rfl) (args:=[.slice a b d,.int .i64 r]) (by kernel_rfl) (u.ok Y _ Z (aQ rfl (bJ rfl (g))))
end pC
namespace hO
noncomputable def q:Code:=c8 Try.f88
def bZ.g(a:R→Nat→Nat→Int→Int→V→Prop)(X:Fr)(Z:V):Prop:=aE (X 0) fun b c d=>aC .u64 (X 6) fun e=>aC .i64 (X 8) fun aL=>a b c d e aL Z
def bP.t(Y:J)(a:R→Nat→Nat→Int→Int→V→Prop)(b:R)(c d:Nat)(e aL:Int)(Z:V):Prop:=
 cond (decide (e > 0)) (cC b c aL 1 fun f=>
 c5 Z .u64 f fun f=>
 k6 f 0 e fun e f=>
 cC b c aL 1 fun g=>
 bI Z g (.int .u64 e) fun e=>
 aN (IntKind.i64.wrap (aL+1)) fun g=>
 a b c d f g e) (Y (.tuple #[]) Z)
def bP.g(Y:J)(a:R→Nat→Nat→Int→Int→V→Prop)(X:Fr)(Z:V):Prop:=aE (X 0) fun b c d=>aC .u64 (X 6) fun e=>aC .i64 (X 8) fun aL=>bP.t Y a b c d e aL Z
theorem bP.ok(Y:J)(a:R→Nat→Nat→Int→Int→V→Prop)(X:Fr)(Z:V)(g:bP.g Y a X Z):den prog E (aP q [W,W,W,p,p]) (aM.then (bZ.g a) (aM.inBlock 2 (aX E [] Y))) X Z:=
 a0 g fun a b c d g=>aW g fun e f g=>aW g fun aL h g=>bH [(0,.slice a b c),(6,.int .u64 e),(8,.int .i64 aL)] ⟨d,f,h,trivial⟩ (by kernel_rfl) g
def bZ.t(Y:J):Nat→R→Nat→Nat→Int→Int→V→Prop
 | 0=>fun _ _ _ _ _ _=>False
 | n+1=>fun a b c d aL Z=>bP.t Y (bZ.t Y n) a b c d aL Z
theorem bZ.ok(Y:J)(X:Fr)(Z:V)(g:bZ.g (fun a b c d aL Z=>∃ n,bZ.t Y n a b c d aL Z) X Z):den prog E (aP q [W,W,W,p]) (aM.inBlock 2 (aX E [] Y)) X Z:=by
 obtain⟨a,b,c,e,g⟩:=bT g
 obtain⟨d,f,g⟩:=bC g
 obtain⟨aL,h,g⟩:=bC g
 obtain⟨n,g⟩:=g
 refine eZ (fun n=>bZ.g (bZ.t Y n)) (N:=(aP q [W,W,W,p,p])) (by kernel_rfl) (fun X Z g=>?_) (fun n=>bP.ok Y (bZ.t Y n)) n X Z (aQ e (bJ f (bJ h (g))))
 obtain⟨a,b,c,e,g⟩:=bT g
 obtain⟨d,f,g⟩:=bC g
 obtain⟨aL,h,g⟩:=bC g
 exact g
theorem hY.ok(Y:J)(X:Fr)(Z:V)(g:bZ.g (fun a b c d aL Z=>∃ n,bZ.t Y n a b c d aL Z) X Z):den prog E (aP q [W,W,W]) (aX E [] Y) X Z:=
 eN (by kernel_rfl) (bZ.ok Y X Z g)
def aD.t(Y:J)(a:R)(b c:Nat)(d:R)(B d:Nat)(aU d:Int)(Z:V):Prop:=
 aN (IntKind.i64.wrap (aU+(((B:Nat):Int)))) fun dF=>(∃ n,bZ.t Y n a b c d dF Z)
def aD.g(Y:J)(X:Fr)(Z:V):Prop:=aE (X 0) fun a b c=>aE (X 1) fun d B e=>aC .i64 (X 2) fun aU=>aC .u64 (X 6) fun f=>aD.t Y a b c d B e aU f Z
theorem aD.ok(Y:J)(X:Fr)(Z:V)(g:aD.g Y X Z):den prog E (aP q [W,W]) (aX E [] Y) X Z:=
 a0 g fun a b c d g=>a0 g fun e B f h g=>aW g fun aU i g=>aW g fun j l g=>cN 1 (C:=(aP q [W,W,W])) (by kernel_rfl) (hY.ok Y) (bH [(0,.slice a b c),(1,.slice e B f),(2,.int .i64 aU),(6,.int .u64 j)] ⟨d,h,i,l,trivial⟩ (by kernel_rfl) g)
def fT.g(a:R→Nat→Nat→R→Nat→Nat→Int→Int→Int→Int→V→Prop)(X:Fr)(Z:V):Prop:=aE (X 0) fun b c d=>aE (X 1) fun e B f=>aC .i64 (X 2) fun aU=>aC .u64 (X 6) fun h=>aC .i64 (X 10) fun i=>aC .i64 (X 11) fun j=>a b c d e B f aU h i j Z
def dX.t(Y:J)(a:R→Nat→Nat→R→Nat→Nat→Int→Int→Int→Int→V→Prop)(b:R)(c d:Nat)(e:R)(B f:Nat)(aU g:Int)(h i:Int)(Z:V):Prop:=
 cond (decide (i < h)) (aN (IntKind.i64.wrap (aU+i)) fun j=>
 aN (IntKind.i64.wrap (aU+i)) fun l=>
 cC b c l 1 fun l=>
 c5 Z .u64 l fun l=>
 cC e B i 1 fun m=>
 c5 Z .u64 m fun m=>
 k6 l m g fun l m=>
 cC b c j 1 fun j=>
 bI Z j (.int .u64 l) fun j=>
 aN (IntKind.i64.wrap (i+1)) fun i=>
 a b c d e B f aU m h i j) (aD.t Y b c d e B f aU g Z)
def dX.g(Y:J)(a:R→Nat→Nat→R→Nat→Nat→Int→Int→Int→Int→V→Prop)(X:Fr)(Z:V):Prop:=aE (X 0) fun b c d=>aE (X 1) fun e B f=>aC .i64 (X 2) fun aU=>aC .u64 (X 6) fun h=>aC .i64 (X 10) fun i=>aC .i64 (X 11) fun j=>dX.t Y a b c d e B f aU h i j Z
theorem dX.ok(Y:J)(a:R→Nat→Nat→R→Nat→Nat→Int→Int→Int→Int→V→Prop)(X:Fr)(Z:V)(g:dX.g Y a X Z):den prog E (aP q [W,p,W,p,p]) (aM.then (fT.g a) (aM.inBlock 0 (aM.then (aD.g Y) (aX E [] Y)))) X Z:=
 a0 g fun a b c d g=>a0 g fun e B f h g=>aW g fun aU i g=>aW g fun j l g=>aW g fun m n g=>aW g fun t v g=>bH [(0,.slice a b c),(1,.slice e B f),(2,.int .i64 aU),(6,.int .u64 j),(10,.int .i64 m),(11,.int .i64 t)] ⟨d,h,i,l,n,v,trivial⟩ (by kernel_rfl) g
def fT.t(Y:J):Nat→R→Nat→Nat→R→Nat→Nat→Int→Int→Int→Int→V→Prop
 | 0=>fun _ _ _ _ _ _ _ _ _ _ _=>False
 | n+1=>fun a b c d B e aU f g h Z=>dX.t Y (fT.t Y n) a b c d B e aU f g h Z
theorem fT.ok(Y:J)(X:Fr)(Z:V)(g:fT.g (fun a b c d B e aU f h i Z=>∃ n,fT.t Y n a b c d B e aU f h i Z) X Z):den prog E (aP q [W,p,W,p]) (aM.inBlock 0 (aM.then (aD.g Y) (aX E [] Y))) X Z:=by
 obtain⟨a,b,c,j,g⟩:=bT g
 obtain⟨d,B,e,l,g⟩:=bT g
 obtain⟨aU,m,g⟩:=bC g
 obtain⟨f,v,g⟩:=bC g
 obtain⟨h,D,g⟩:=bC g
 obtain⟨i,G,g⟩:=bC g
 obtain⟨n,g⟩:=g
 refine eZ (fun n=>fT.g (fT.t Y n)) (N:=(aP q [W,p,W,p,p])) (by kernel_rfl) (fun X Z g=>?_) (fun n=>dX.ok Y (fT.t Y n)) n X Z (aQ j (aQ l (bJ m (bJ v (bJ D (bJ G (g)))))))
 obtain⟨a,b,c,j,g⟩:=bT g
 obtain⟨d,B,e,l,g⟩:=bT g
 obtain⟨aU,m,g⟩:=bC g
 obtain⟨f,v,g⟩:=bC g
 obtain⟨h,D,g⟩:=bC g
 obtain⟨i,G,g⟩:=bC g
 exact g
theorem mX.ok(Y:J)(X:Fr)(Z:V)(g:fT.g (fun a b c d B e aU f h i Z=>∃ n,fT.t Y n a b c d B e aU f h i Z) X Z):den prog E (aP q [W,p,W]) (aM.then (aD.g Y) (aX E [] Y)) X Z:=
 eN (by kernel_rfl) (fT.ok Y X Z g)
def cW.t(Y:J)(a:R)(b c:Nat)(d:R)(B e:Nat)(aU f:Int)(Z:V):Prop:=
 (∃ n,fT.t Y n a b c d B e aU f (((B:Nat):Int)) 0 Z)
def cW.g(Y:J)(X:Fr)(Z:V):Prop:=aE (X 0) fun a b c=>aE (X 1) fun d B e=>aC .i64 (X 2) fun aU=>aC .u64 (X 6) fun f=>cW.t Y a b c d B e aU f Z
theorem cW.ok(Y:J)(X:Fr)(Z:V)(g:cW.g Y X Z):den prog E (aP q [W,p]) (aM.then (aD.g Y) (aX E [] Y)) X Z:=
 a0 g fun a b c d g=>a0 g fun e B f h g=>aW g fun aU i g=>aW g fun j l g=>cN 1 (C:=(aP q [W,p,W])) (by kernel_rfl) (mX.ok Y) (bH [(0,.slice a b c),(1,.slice e B f),(2,.int .i64 aU),(6,.int .u64 j)] ⟨d,h,i,l,trivial⟩ (by kernel_rfl) g)
theorem s3.ok(Y:J)(X:Fr)(Z:V)(g:cW.g Y X Z):den prog E (aP q [W]) (aX E [] Y) X Z:=
 e8 (by kernel_rfl) (aD.ok Y) (cW.ok Y X Z g)
def u.t(Y:J)(a:R)(b c:Nat)(d:R)(B e:Nat)(aU:Int)(Z:V):Prop:=
 cW.t Y a b c d B e aU 0 Z
def u.g(Y:J)(X:Fr)(Z:V):Prop:=aE (X 0) fun a b c=>aE (X 1) fun d B e=>aC .i64 (X 2) fun aU=>u.t Y a b c d B e aU Z
theorem u.ok(Y:J)(X:Fr)(Z:V)(g:u.g Y X Z):den prog E q (aX E [] Y) X Z:=
 a0 g fun a b c d g=>a0 g fun e B f h g=>aW g fun aU i g=>cN 1 (C:=(aP q [W])) (by kernel_rfl) (s3.ok Y) (bH [(0,.slice a b c),(1,.slice e B f),(2,.int .i64 aU)] ⟨d,h,i,trivial⟩ (by kernel_rfl) g)
def t(a:R)(b c:Nat)(d:R)(B e:Nat)(aU:Int)(Z:V)(Y:J):Prop:=u.t Y a b c d B e aU Z
theorem ok{a:R}{b:Nat}{d:Nat}{e:R}{B:Nat}{f:Nat}{aU:Int}{Z:V}{Y:J}(g:t a b d e B f aU Z Y):aG id #[.slice a b d,.slice e B f,.int .i64 aU] Z Y:=
 c9 dA (c:=q) (c3:=[]) Try.func88 (by kernel_rfl) (by kernel_rfl) (by kernel_rfl) (args:=[.slice a b d,.slice e B f,.int .i64 aU]) (by kernel_rfl) (u.ok Y _ Z (aQ rfl (aQ rfl (bJ rfl (g)))))
end hO
namespace n9
noncomputable def q:Code:=c8 Try.f89
def u.t(Y:J)(a:R)(b c:Nat)(r:Int)(Z:V):Prop:=
 cond (decide (r≥(((b:Nat):Int)))) (gT 1 a b c none (some (.int .i64 (((b:Nat):Int)))) (some (.int .i64 (((b:Nat):Int)))) fun d e f=>
 aG jX.id #[.slice d e f] Z fun d e=>
 aE d fun d f g=>
 Y (.tuple #[.slice d f g,.slice none 0 0]) e) (gT 1 a b c none (some (.int .i64 r)) (some (.int .i64 r)) fun d e f=>
 aG jX.id #[.slice d e f] Z fun d e=>
 aE d fun d f g=>
 gT 1 a b c (some (.int .i64 r)) (some (.int .i64 (((b:Nat):Int)))) (some (.int .i64 (((b:Nat):Int)))) fun a b c=>
 Y (.tuple #[.slice d f g,.slice a b c]) e)
def u.g(Y:J)(X:Fr)(Z:V):Prop:=aE (X 0) fun a b c=>aC .i64 (X 1) fun r=>u.t Y a b c r Z
theorem u.ok(Y:J)(X:Fr)(Z:V)(g:u.g Y X Z):den prog E q (aX E [.tmp 4,.tmp 5] Y) X Z:=
 a0 g fun a b c d g=>aW g fun r e g=>bH [(0,.slice a b c),(1,.int .i64 r)] ⟨d,e,trivial⟩ (by kernel_rfl) g
def t(a:R)(b c:Nat)(r:Int)(Z:V)(Y:J):Prop:=u.t Y a b c r Z
theorem ok{a:R}{b:Nat}{d:Nat}{r:Int}{Z:V}{Y:J}(g:t a b d r Z Y):aG id #[.slice a b d,.int .i64 r] Z Y:=
 c9 dA (c:=q) (c3:=[.tmp 4,.tmp 5]) Try.func89 (by kernel_rfl) (by kernel_rfl) (by kernel_rfl) (args:=[.slice a b d,.int .i64 r]) (by kernel_rfl) (u.ok Y _ Z (aQ rfl (bJ rfl (g))))
end n9
namespace mV
noncomputable def q:Code:=c8 Try.f90
def aD.t(Y:J)(a:R)(b c:Nat)(d:R)(B e:Nat)(Z:V):Prop:=
 aN (IntKind.i64.wrap ((((b:Nat):Int))+1)) fun dF=>
 g1 Z 23 k5 dF dF fun f g=>
 kR g 1 (some f) dF.toNat (.slice a b c) fun a a=>
 aG hO.id #[.slice (some f) dF.toNat dF.toNat,.slice d B e,.int .i64 0] a fun a b=>
 cO a fun a=>
 bG a <| aG jX.id #[.slice (some f) dF.toNat dF.toNat] b fun a b=>
 aE a fun a c d=>
 Y (.slice a c d) b
def aD.g(Y:J)(X:Fr)(Z:V):Prop:=aE (X 0) fun a b c=>aE (X 1) fun d B e=>aD.t Y a b c d B e Z
theorem aD.ok(Y:J)(X:Fr)(Z:V)(g:aD.g Y X Z):den prog E (aP q [W,W]) (aX E [.tmp 4] Y) X Z:=
 a0 g fun a b c d g=>a0 g fun e B f h g=>bH [(0,.slice a b c),(1,.slice e B f)] ⟨d,h,trivial⟩ (by kernel_rfl) g
def u.t(Y:J)(a:R)(b c:Nat)(d:R)(B e:Nat)(Z:V):Prop:=
 cond (decide ((((b:Nat):Int)) < (((B:Nat):Int)))) (aD.t Y d B e a b c Z) (aD.t Y a b c d B e Z)
def u.g(Y:J)(X:Fr)(Z:V):Prop:=aE (X 0) fun a b c=>aE (X 1) fun d B e=>u.t Y a b c d B e Z
theorem u.ok(Y:J)(X:Fr)(Z:V)(g:u.g Y X Z):den prog E q (aX E [.tmp 4] Y) X Z:=
 a0 g fun a b c d g=>a0 g fun e B f h g=>cN 2 (C:=(aP q [W,W])) (by kernel_rfl) (aD.ok Y) (bH [(0,.slice a b c),(1,.slice e B f)] ⟨d,h,trivial⟩ (by kernel_rfl) g)
def t(a:R)(b c:Nat)(d:R)(B e:Nat)(Z:V)(Y:J):Prop:=u.t Y a b c d B e Z
theorem ok{a:R}{b:Nat}{d:Nat}{e:R}{B:Nat}{f:Nat}{Z:V}{Y:J}(g:t a b d e B f Z Y):aG id #[.slice a b d,.slice e B f] Z Y:=
 c9 dA (c:=q) (c3:=[.tmp 4]) Try.func90 (by kernel_rfl) (by kernel_rfl) (by kernel_rfl) (args:=[.slice a b d,.slice e B f]) (by kernel_rfl) (u.ok Y _ Z (aQ rfl (aQ rfl (g))))
end mV
namespace h8
noncomputable def q:Code:=c8 Try.f91
def bZ.g(a:R→Nat→Nat→Int→Int→V→Prop)(X:Fr)(Z:V):Prop:=aE (X 0) fun b c d=>aC .u64 (X 4) fun e=>aC .i64 (X 6) fun f=>a b c d e f Z
def bP.t(Y:J)(a:R→Nat→Nat→Int→Int→V→Prop)(b:R)(c d:Nat)(e f:Int)(Z:V):Prop:=
 cond (decide (e > 0)) (cC b c f 1 fun g=>
 c5 Z .u64 g fun g=>
 nQ g 0 e fun e g=>
 cC b c f 1 fun h=>
 bI Z h (.int .u64 e) fun e=>
 aN (IntKind.i64.wrap (f+1)) fun f=>
 a b c d g f e) (Y (.tuple #[]) Z)
def bP.g(Y:J)(a:R→Nat→Nat→Int→Int→V→Prop)(X:Fr)(Z:V):Prop:=aE (X 0) fun b c d=>aC .u64 (X 4) fun e=>aC .i64 (X 6) fun f=>bP.t Y a b c d e f Z
theorem bP.ok(Y:J)(a:R→Nat→Nat→Int→Int→V→Prop)(X:Fr)(Z:V)(g:bP.g Y a X Z):den prog E (aP q [W,W,W,p,p]) (aM.then (bZ.g a) (aM.inBlock 2 (aX E [] Y))) X Z:=
 a0 g fun a b c d g=>aW g fun e f g=>aW g fun h i g=>bH [(0,.slice a b c),(4,.int .u64 e),(6,.int .i64 h)] ⟨d,f,i,trivial⟩ (by kernel_rfl) g
def bZ.t(Y:J):Nat→R→Nat→Nat→Int→Int→V→Prop
 | 0=>fun _ _ _ _ _ _=>False
 | n+1=>fun a b c d e Z=>bP.t Y (bZ.t Y n) a b c d e Z
theorem bZ.ok(Y:J)(X:Fr)(Z:V)(g:bZ.g (fun a b c d e Z=>∃ n,bZ.t Y n a b c d e Z) X Z):den prog E (aP q [W,W,W,p]) (aM.inBlock 2 (aX E [] Y)) X Z:=by
 obtain⟨a,b,c,f,g⟩:=bT g
 obtain⟨d,h,g⟩:=bC g
 obtain⟨e,i,g⟩:=bC g
 obtain⟨n,g⟩:=g
 refine eZ (fun n=>bZ.g (bZ.t Y n)) (N:=(aP q [W,W,W,p,p])) (by kernel_rfl) (fun X Z g=>?_) (fun n=>bP.ok Y (bZ.t Y n)) n X Z (aQ f (bJ h (bJ i (g))))
 obtain⟨a,b,c,f,g⟩:=bT g
 obtain⟨d,h,g⟩:=bC g
 obtain⟨e,i,g⟩:=bC g
 exact g
theorem hY.ok(Y:J)(X:Fr)(Z:V)(g:bZ.g (fun a b c d e Z=>∃ n,bZ.t Y n a b c d e Z) X Z):den prog E (aP q [W,W,W]) (aX E [] Y) X Z:=
 eN (by kernel_rfl) (bZ.ok Y X Z g)
def aD.t(Y:J)(a:R)(b c:Nat)(d:R)(B d:Nat)(d:Int)(Z:V):Prop:=
 (∃ n,bZ.t Y n a b c d (((B:Nat):Int)) Z)
def aD.g(Y:J)(X:Fr)(Z:V):Prop:=aE (X 0) fun a b c=>aE (X 1) fun d B e=>aC .u64 (X 4) fun f=>aD.t Y a b c d B e f Z
theorem aD.ok(Y:J)(X:Fr)(Z:V)(g:aD.g Y X Z):den prog E (aP q [W,W]) (aX E [] Y) X Z:=
 a0 g fun a b c d g=>a0 g fun e B f h g=>aW g fun i j g=>cN 1 (C:=(aP q [W,W,W])) (by kernel_rfl) (hY.ok Y) (bH [(0,.slice a b c),(1,.slice e B f),(4,.int .u64 i)] ⟨d,h,j,trivial⟩ (by kernel_rfl) g)
def fT.g(a:R→Nat→Nat→R→Nat→Nat→Int→Int→Int→V→Prop)(X:Fr)(Z:V):Prop:=aE (X 0) fun b c d=>aE (X 1) fun e B f=>aC .u64 (X 4) fun h=>aC .i64 (X 8) fun aL=>aC .i64 (X 9) fun aR=>a b c d e B f h aL aR Z
def dX.t(Y:J)(a:R→Nat→Nat→R→Nat→Nat→Int→Int→Int→V→Prop)(b:R)(c d:Nat)(e:R)(B f:Nat)(g aL aR:Int)(Z:V):Prop:=
 cond (decide (aR < aL)) (cC b c aR 1 fun h=>
 c5 Z .u64 h fun h=>
 cC e B aR 1 fun i=>
 c5 Z .u64 i fun i=>
 nQ h i g fun h i=>
 cC b c aR 1 fun j=>
 bI Z j (.int .u64 h) fun h=>
 aN (IntKind.i64.wrap (aR+1)) fun j=>
 a b c d e B f i aL j h) (aD.t Y b c d e B f g Z)
def dX.g(Y:J)(a:R→Nat→Nat→R→Nat→Nat→Int→Int→Int→V→Prop)(X:Fr)(Z:V):Prop:=aE (X 0) fun b c d=>aE (X 1) fun e B f=>aC .u64 (X 4) fun h=>aC .i64 (X 8) fun aL=>aC .i64 (X 9) fun aR=>dX.t Y a b c d e B f h aL aR Z
theorem dX.ok(Y:J)(a:R→Nat→Nat→R→Nat→Nat→Int→Int→Int→V→Prop)(X:Fr)(Z:V)(g:dX.g Y a X Z):den prog E (aP q [W,p,W,p,p]) (aM.then (fT.g a) (aM.inBlock 0 (aM.then (aD.g Y) (aX E [] Y)))) X Z:=
 a0 g fun a b c d g=>a0 g fun e B f h g=>aW g fun i j g=>aW g fun aL l g=>aW g fun aR m g=>bH [(0,.slice a b c),(1,.slice e B f),(4,.int .u64 i),(8,.int .i64 aL),(9,.int .i64 aR)] ⟨d,h,j,l,m,trivial⟩ (by kernel_rfl) g
def fT.t(Y:J):Nat→R→Nat→Nat→R→Nat→Nat→Int→Int→Int→V→Prop
 | 0=>fun _ _ _ _ _ _ _ _ _ _=>False
 | n+1=>fun a b c d B e f aL aR Z=>dX.t Y (fT.t Y n) a b c d B e f aL aR Z
theorem fT.ok(Y:J)(X:Fr)(Z:V)(g:fT.g (fun a b c d B e f aL aR Z=>∃ n,fT.t Y n a b c d B e f aL aR Z) X Z):den prog E (aP q [W,p,W,p]) (aM.inBlock 0 (aM.then (aD.g Y) (aX E [] Y))) X Z:=by
 obtain⟨a,b,c,h,g⟩:=bT g
 obtain⟨d,B,e,i,g⟩:=bT g
 obtain⟨f,j,g⟩:=bC g
 obtain⟨aL,l,g⟩:=bC g
 obtain⟨aR,m,g⟩:=bC g
 obtain⟨n,g⟩:=g
 refine eZ (fun n=>fT.g (fT.t Y n)) (N:=(aP q [W,p,W,p,p])) (by kernel_rfl) (fun X Z g=>?_) (fun n=>dX.ok Y (fT.t Y n)) n X Z (aQ h (aQ i (bJ j (bJ l (bJ m (g))))))
 obtain⟨a,b,c,h,g⟩:=bT g
 obtain⟨d,B,e,i,g⟩:=bT g
 obtain⟨f,j,g⟩:=bC g
 obtain⟨aL,l,g⟩:=bC g
 obtain⟨aR,m,g⟩:=bC g
 exact g
theorem mX.ok(Y:J)(X:Fr)(Z:V)(g:fT.g (fun a b c d B e f aL aR Z=>∃ n,fT.t Y n a b c d B e f aL aR Z) X Z):den prog E (aP q [W,p,W]) (aM.then (aD.g Y) (aX E [] Y)) X Z:=
 eN (by kernel_rfl) (fT.ok Y X Z g)
def cW.t(Y:J)(a:R)(b c:Nat)(d:R)(B e:Nat)(f:Int)(Z:V):Prop:=
 (∃ n,fT.t Y n a b c d B e f (((B:Nat):Int)) 0 Z)
def cW.g(Y:J)(X:Fr)(Z:V):Prop:=aE (X 0) fun a b c=>aE (X 1) fun d B e=>aC .u64 (X 4) fun f=>cW.t Y a b c d B e f Z
theorem cW.ok(Y:J)(X:Fr)(Z:V)(g:cW.g Y X Z):den prog E (aP q [W,p]) (aM.then (aD.g Y) (aX E [] Y)) X Z:=
 a0 g fun a b c d g=>a0 g fun e B f h g=>aW g fun i j g=>cN 1 (C:=(aP q [W,p,W])) (by kernel_rfl) (mX.ok Y) (bH [(0,.slice a b c),(1,.slice e B f),(4,.int .u64 i)] ⟨d,h,j,trivial⟩ (by kernel_rfl) g)
theorem s3.ok(Y:J)(X:Fr)(Z:V)(g:cW.g Y X Z):den prog E (aP q [W]) (aX E [] Y) X Z:=
 e8 (by kernel_rfl) (aD.ok Y) (cW.ok Y X Z g)
def u.t(Y:J)(a:R)(b c:Nat)(d:R)(B e:Nat)(Z:V):Prop:=
 cW.t Y a b c d B e 0 Z
def u.g(Y:J)(X:Fr)(Z:V):Prop:=aE (X 0) fun a b c=>aE (X 1) fun d B e=>u.t Y a b c d B e Z
theorem u.ok(Y:J)(X:Fr)(Z:V)(g:u.g Y X Z):den prog E q (aX E [] Y) X Z:=
 a0 g fun a b c d g=>a0 g fun e B f h g=>cN 1 (C:=(aP q [W])) (by kernel_rfl) (s3.ok Y) (bH [(0,.slice a b c),(1,.slice e B f)] ⟨d,h,trivial⟩ (by kernel_rfl) g)
def t(a:R)(b c:Nat)(d:R)(B e:Nat)(Z:V)(Y:J):Prop:=u.t Y a b c d B e Z
theorem ok{a:R}{b:Nat}{d:Nat}{e:R}{B:Nat}{f:Nat}{Z:V}{Y:J}(g:t a b d e B f Z Y):aG id #[.slice a b d,.slice e B f] Z Y:=
 c9 dA (c:=q) (c3:=[]) Try.func91 (by kernel_rfl) (by kernel_rfl) (by kernel_rfl) (args:=[.slice a b d,.slice e B f]) (by kernel_rfl) (u.ok Y _ Z (aQ rfl (aQ rfl (g))))
end h8
end Go.Proofs.Ytelmicicapbgeaa.G
