import Derived.Test.YtllhckjfhefcdaaGreatDoorKE
namespace Go.Proofs.YtllhckjfhefcdaaGreatDoor.G
open Go.Gv
set_option linter.unusedVariables false
set_option maxRecDepth 100000
namespace nK
noncomputable def r:Code:=c6 Tryz.f3
def aC.t(Y:K)(Z:V):Prop:=
 Y (.bool true) Z
def aC.g(Y:K)(X:Fr)(Z:V):Prop:=aC.t Y  Z
theorem aC.ok(Y:K)(X:Fr)(Z:V)(g:aC.g Y X Z):den prog E (aS r [W,W,W,W]) (aZ E [.tmp 2] Y) X Z:=
 bO [] trivial (by kernel_rfl) g
def bG.g(bN:Addr→U→Nat→Nat→Int→Int→V→Prop)(X:Fr)(Z:V):Prop:=cJ (X 3) fun a=>aG (X 21) fun b c d=>aV .i64 (X 22) fun e=>aV .i64 (X 23) fun f=>bN a b c d e f Z
def b0.t(Y:K)(a:Addr→U→Nat→Nat→Int→Int→V→Prop)(b:Addr)(c:U)(d e:Nat)(f g:Int)(Z:V):Prop:=
 cond (decide (g < f)) (cL c d g 6 fun h=>
 cI Z .i64 (h.add 0) fun i=>
 bB Z (h.add 1) fun j=>
 a6 Z (h.add 2) fun l m n=>
 bB Z (h.add 3) fun v=>
 a6 Z (h.add 4) fun D E G=>
 cI Z .i64 (h.add 5) fun h=>
 b4 Z 29 o0.aK fun H P=>
 aW P (H.add 0) (.int .i64 i) fun P=>
 aW P (H.add 1) (.bool j) fun P=>
 aW P (H.add 2) (.slice l m n) fun P=>
 aW P (H.add 3) (.bool v) fun P=>
 aW P (H.add 4) (.slice D E G) fun D=>
 aW D (H.add 5) (.int .i64 h) fun D=>
 cI D .i64 (H.add 0) fun E=>
 cond (decide (E < 1)) (cI D .i64 (H.add 0) fun E=>
 bB D (H.add 1) fun G=>
 a6 D (H.add 2) fun P h i=>
 bB D (H.add 3) fun j=>
 a6 D (H.add 4) fun l m n=>
 cI D .i64 (H.add 5) fun v=>
 aF hD.id #[.agg #[.int .i64 E,.bool G,.slice P h i,.bool j,.slice l m n,.int .i64 v]] D fun E G=>
 b9 E fun E=>
 cond (!E) (Y (.bool false) G) (a2 (IntKind.i64.wrap (g+1)) fun E=>
 a b c d e f E G)) (cI D .i64 (H.add 0) fun E=>
 cond (decide (E > 17)) (cI D .i64 (H.add 0) fun E=>
 bB D (H.add 1) fun G=>
 a6 D (H.add 2) fun P h i=>
 bB D (H.add 3) fun j=>
 a6 D (H.add 4) fun l m n=>
 cI D .i64 (H.add 5) fun v=>
 aF hD.id #[.agg #[.int .i64 E,.bool G,.slice P h i,.bool j,.slice l m n,.int .i64 v]] D fun E G=>
 b9 E fun E=>
 cond (!E) (Y (.bool false) G) (a2 (IntKind.i64.wrap (g+1)) fun E=>
 a b c d e f E G)) (cI D .i64 (H.add 0) fun E=>
 cond (decide (E≥2)) (cI D .i64 (H.add 0) fun E=>
 cond (decide (E≤5)) (cI D .i64 (H.add 0) fun E=>
 bB D (H.add 1) fun G=>
 a6 D (H.add 2) fun P h i=>
 bB D (H.add 3) fun j=>
 a6 D (H.add 4) fun l m n=>
 cI D .i64 (H.add 5) fun v=>
 aF hD.id #[.agg #[.int .i64 E,.bool G,.slice P h i,.bool j,.slice l m n,.int .i64 v]] D fun E G=>
 b9 E fun E=>
 cond (!E) (Y (.bool false) G) (a2 (IntKind.i64.wrap (g+1)) fun E=>
 a b c d e f E G)) (cI D .i64 (b.add 0) fun E=>
 bB D (b.add 1) fun G=>
 a6 D (b.add 2) fun P h i=>
 bB D (b.add 3) fun j=>
 a6 D (b.add 4) fun l m n=>
 cI D .i64 (b.add 5) fun v=>
 b4 D 29 o0.aK fun K5 K6=>
 aW K6 (K5.add 0) (.int .i64 E) fun E=>
 aW E (K5.add 1) (.bool G) fun E=>
 aW E (K5.add 2) (.slice P h i) fun E=>
 aW E (K5.add 3) (.bool j) fun E=>
 aW E (K5.add 4) (.slice l m n) fun E=>
 aW E (K5.add 5) (.int .i64 v) fun E=>
 cI E .i64 (H.add 0) fun G=>
 aW E (K5.add 0) (.int .i64 G) fun E=>
 cI E .i64 (H.add 0) fun G=>
 bB E (H.add 1) fun P=>
 a6 E (H.add 2) fun h i j=>
 bB E (H.add 3) fun l=>
 a6 E (H.add 4) fun m n v=>
 cI E .i64 (H.add 5) fun K6=>
 cI E .i64 (b.add 0) fun K7=>
 bB E (b.add 1) fun K8=>
 a6 E (b.add 2) fun K9 La Lb=>
 bB E (b.add 3) fun Lc=>
 a6 E (b.add 4) fun Ld Le Lf=>
 cI E .i64 (b.add 5) fun Lg=>
 aF gU.id #[.agg #[.int .i64 G,.bool P,.slice h i j,.bool l,.slice m n v,.int .i64 K6],.agg #[.int .i64 K7,.bool K8,.slice K9 La Lb,.bool Lc,.slice Ld Le Lf,.int .i64 Lg]] E fun E G=>
 b9 E fun E=>
 cond (!E) (Y (.bool false) G) (cI G .i64 (H.add 0) fun E=>
 bB G (H.add 1) fun P=>
 a6 G (H.add 2) fun h i j=>
 bB G (H.add 3) fun l=>
 a6 G (H.add 4) fun m n v=>
 cI G .i64 (H.add 5) fun K6=>
 cI G .i64 (K5.add 0) fun K7=>
 bB G (K5.add 1) fun K8=>
 a6 G (K5.add 2) fun K9 La Lb=>
 bB G (K5.add 3) fun Lc=>
 a6 G (K5.add 4) fun Ld Le Lf=>
 cI G .i64 (K5.add 5) fun K5=>
 aF gU.id #[.agg #[.int .i64 E,.bool P,.slice h i j,.bool l,.slice m n v,.int .i64 K6],.agg #[.int .i64 K7,.bool K8,.slice K9 La Lb,.bool Lc,.slice Ld Le Lf,.int .i64 K5]] G fun E G=>
 b9 E fun E=>
 cond (!E) (Y (.bool false) G) (cI G .i64 (H.add 0) fun E=>
 bB G (H.add 1) fun P=>
 a6 G (H.add 2) fun h i j=>
 bB G (H.add 3) fun l=>
 a6 G (H.add 4) fun m n v=>
 cI G .i64 (H.add 5) fun K5=>
 aW G (b.add 0) (.int .i64 E) fun E=>
 aW E (b.add 1) (.bool P) fun E=>
 aW E (b.add 2) (.slice h i j) fun E=>
 aW E (b.add 3) (.bool l) fun E=>
 aW E (b.add 4) (.slice m n v) fun E=>
 aW E (b.add 5) (.int .i64 K5) fun E=>
 a2 (IntKind.i64.wrap (g+1)) fun G=>
 a b c d e f G E)))) (cI D .i64 (b.add 0) fun E=>
 bB D (b.add 1) fun G=>
 a6 D (b.add 2) fun P h i=>
 bB D (b.add 3) fun j=>
 a6 D (b.add 4) fun l m n=>
 cI D .i64 (b.add 5) fun v=>
 b4 D 29 o0.aK fun D K5=>
 aW K5 (D.add 0) (.int .i64 E) fun E=>
 aW E (D.add 1) (.bool G) fun E=>
 aW E (D.add 2) (.slice P h i) fun E=>
 aW E (D.add 3) (.bool j) fun E=>
 aW E (D.add 4) (.slice l m n) fun E=>
 aW E (D.add 5) (.int .i64 v) fun E=>
 cI E .i64 (H.add 0) fun G=>
 aW E (D.add 0) (.int .i64 G) fun E=>
 cI E .i64 (H.add 0) fun G=>
 bB E (H.add 1) fun P=>
 a6 E (H.add 2) fun h i j=>
 bB E (H.add 3) fun l=>
 a6 E (H.add 4) fun m n v=>
 cI E .i64 (H.add 5) fun K5=>
 cI E .i64 (b.add 0) fun K6=>
 bB E (b.add 1) fun K7=>
 a6 E (b.add 2) fun K8 K9 La=>
 bB E (b.add 3) fun Lb=>
 a6 E (b.add 4) fun Lc Ld Le=>
 cI E .i64 (b.add 5) fun Lf=>
 aF gU.id #[.agg #[.int .i64 G,.bool P,.slice h i j,.bool l,.slice m n v,.int .i64 K5],.agg #[.int .i64 K6,.bool K7,.slice K8 K9 La,.bool Lb,.slice Lc Ld Le,.int .i64 Lf]] E fun E G=>
 b9 E fun E=>
 cond (!E) (Y (.bool false) G) (cI G .i64 (H.add 0) fun E=>
 bB G (H.add 1) fun P=>
 a6 G (H.add 2) fun h i j=>
 bB G (H.add 3) fun l=>
 a6 G (H.add 4) fun m n v=>
 cI G .i64 (H.add 5) fun K5=>
 cI G .i64 (D.add 0) fun K6=>
 bB G (D.add 1) fun K7=>
 a6 G (D.add 2) fun K8 K9 La=>
 bB G (D.add 3) fun Lb=>
 a6 G (D.add 4) fun Lc Ld Le=>
 cI G .i64 (D.add 5) fun D=>
 aF gU.id #[.agg #[.int .i64 E,.bool P,.slice h i j,.bool l,.slice m n v,.int .i64 K5],.agg #[.int .i64 K6,.bool K7,.slice K8 K9 La,.bool Lb,.slice Lc Ld Le,.int .i64 D]] G fun D E=>
 b9 D fun D=>
 cond (!D) (Y (.bool false) E) (cI E .i64 (H.add 0) fun D=>
 bB E (H.add 1) fun G=>
 a6 E (H.add 2) fun P h i=>
 bB E (H.add 3) fun j=>
 a6 E (H.add 4) fun l m n=>
 cI E .i64 (H.add 5) fun H=>
 aW E (b.add 0) (.int .i64 D) fun D=>
 aW D (b.add 1) (.bool G) fun D=>
 aW D (b.add 2) (.slice P h i) fun D=>
 aW D (b.add 3) (.bool j) fun D=>
 aW D (b.add 4) (.slice l m n) fun D=>
 aW D (b.add 5) (.int .i64 H) fun D=>
 a2 (IntKind.i64.wrap (g+1)) fun E=>
 a b c d e f E D)))))) (aC.t Y Z)
def b0.g(Y:K)(a:Addr→U→Nat→Nat→Int→Int→V→Prop)(X:Fr)(Z:V):Prop:=cJ (X 3) fun b=>aG (X 21) fun c d e=>aV .i64 (X 22) fun f=>aV .i64 (X 23) fun h=>b0.t Y a b c d e f h Z
theorem b0.ok(Y:K)(a:Addr→U→Nat→Nat→Int→Int→V→Prop)(X:Fr)(Z:V)(g:b0.g Y a X Z):den prog E (aS r [W,W,W,x,W,x,x]) (aH.then (bG.g a) (aH.inBlock 0 (aH.then (aC.g Y) (aZ E [.tmp 2] Y)))) X Z:=
 cX g fun a b g=>a8 g fun c d e f g=>bM g fun h i g=>bM g fun j l g=>bO [(3,.pointer (some a)),(21,.slice c d e),(22,.int .i64 h),(23,.int .i64 j)] ⟨b,f,i,l,trivial⟩ (by kernel_rfl) g
def bG.t(Y:K):Nat→Addr→U→Nat→Nat→Int→Int→V→Prop
 | 0=>fun _ _ _ _ _ _ _=>False
 | n+1=>fun a b c d e f Z=>b0.t Y (bG.t Y n) a b c d e f Z
theorem bG.ok(Y:K)(X:Fr)(Z:V)(g:bG.g (fun a b c d e f Z=>∃ n,bG.t Y n a b c d e f Z) X Z):den prog E (aS r [W,W,W,x,W,x]) (aH.inBlock 0 (aH.then (aC.g Y) (aZ E [.tmp 2] Y))) X Z:=by
 obtain⟨a,h,g⟩:=fO g
 obtain⟨b,c,d,i,g⟩:=bQ g
 obtain⟨e,j,g⟩:=bS g
 obtain⟨f,l,g⟩:=bS g
 obtain⟨n,g⟩:=g
 refine e1 (fun n=>bG.g (bG.t Y n)) (N:=(aS r [W,W,W,x,W,x,x])) (by kernel_rfl) (fun X Z g=>?_) (fun n=>b0.ok Y (bG.t Y n)) n X Z (iQ h (k i (bI j (bI l (g)))))
 obtain⟨a,h,g⟩:=fO g
 obtain⟨b,c,d,i,g⟩:=bQ g
 obtain⟨e,j,g⟩:=bS g
 obtain⟨f,l,g⟩:=bS g
 exact g
theorem eP.ok(Y:K)(X:Fr)(Z:V)(g:bG.g (fun a b c d e f Z=>∃ n,bG.t Y n a b c d e f Z) X Z):den prog E (aS r [W,W,W,x,W]) (aH.then (aC.g Y) (aZ E [.tmp 2] Y)) X Z:=
 eR (by kernel_rfl) (bG.ok Y X Z g)
def a7.t(Y:K)(S:U)(a R:Nat)(b:Addr)(Z:V):Prop:=
 (∃ n,bG.t Y n b S a R (((a:Nat):Int)) 0 Z)
def a7.g(Y:K)(X:Fr)(Z:V):Prop:=aG (X 0) fun S a R=>cJ (X 3) fun b=>a7.t Y S a R b Z
theorem a7.ok(Y:K)(X:Fr)(Z:V)(g:a7.g Y X Z):den prog E (aS r [W,W,W,x]) (aH.then (aC.g Y) (aZ E [.tmp 2] Y)) X Z:=
 a8 g fun S a R b g=>cX g fun c d g=>cT 1 (s:=(aS r [W,W,W,x,W])) (by kernel_rfl) (eP.ok Y) (bO [(0,.slice S a R),(3,.pointer (some c))] ⟨b,d,trivial⟩ (by kernel_rfl) g)
theorem gV.ok(Y:K)(X:Fr)(Z:V)(g:a7.g Y X Z):den prog E (aS r [W,W,W]) (aZ E [.tmp 2] Y) X Z:=
 e5 (by kernel_rfl) (aC.ok Y) (a7.ok Y X Z g)
def F.t(Y:K)(S:U)(a R:Nat)(Z:V):Prop:=
 aF kZ.id #[.int .i64 (-5)] Z fun b c=>
 bU b fun b=>
 cF b fun b d=>
 b6 d fun d e f g=>
 bC g <| b4 c 27 [.int .u64 1,.int .u64 2] fun c g=>
 b4 g 29 o0.aK fun g h=>
 aW h (g.add 0) (.int .i64 7) fun h=>
 aW h (g.add 1) (.bool b) fun b=>
 aW b (g.add 2) (.slice d e f) fun b=>
 aW b (g.add 3) (.bool false) fun b=>
 aW b (g.add 4) (.slice (some c) 2 2) fun b=>
 aW b (g.add 5) (.int .i64 0) fun b=>
 aF pQ.id #[] b fun c d=>
 b9 c fun c=>
 (cG b.size b d)∧cond (!c) (Y (.bool false) d) (g.block < b.size∧cI d .i64 (g.add 0) fun c=>
 bB d (g.add 1) fun e=>
 a6 d (g.add 2) fun f h i=>
 bB d (g.add 3) fun j=>
 a6 d (g.add 4) fun l m n=>
 cI d .i64 (g.add 5) fun v=>
 aF kZ.id #[.int .i64 9] d fun D E=>
 bU D fun D=>
 cF D fun D G=>
 b6 G fun G H P K5=>
 bC K5 <| (cG b.size d E)∧aF kZ.id #[.int .i64 (-4)] E fun d K5=>
 bU d fun d=>
 cF d fun d K6=>
 b6 K6 fun K6 K7 K8 K9=>
 bC K9 <| (cG b.size E K5)∧aF gU.id #[.agg #[.int .i64 c,.bool e,.slice f h i,.bool j,.slice l m n,.int .i64 v],.agg #[.int .i64 9,.bool D,.slice G H P,.bool d,.slice K6 K7 K8,.int .i64 0]] K5 fun D E=>
 b9 D fun D=>
 (cG b.size K5 E)∧cond (!D) (Y (.bool false) E) (a7.t Y S a R g E))
def F.g(Y:K)(X:Fr)(Z:V):Prop:=aG (X 0) fun S a R=>F.t Y S a R Z
theorem F.ok(Y:K)(X:Fr)(Z:V)(g:F.g Y X Z):den prog E r (aZ E [.tmp 2] Y) X Z:=
 a8 g fun S a R b g=>cT 3 (s:=(aS r [W,W,W])) (by kernel_rfl) (gV.ok Y) (bO [(0,.slice S a R)] ⟨b,trivial⟩ (by kernel_rfl) g)
def t(S:U)(a R:Nat)(Z:V)(Y:K):Prop:=F.t Y S a R Z
theorem ok{S:U}{a:Nat}{R:Nat}{Z:V}{Y:K}(g:t S a R Z Y):aF id #[.slice S a R] Z Y:=
 c7 c8 (L:=r) (cY:=[.tmp 2]) Tryz.func3 (by kernel_rfl) (by kernel_rfl) (by kernel_rfl) (args:=[.slice S a R]) (by kernel_rfl) (F.ok Y _ Z (k rfl (g)))
end nK
namespace kZ
noncomputable def r:Code:=c6 Tryz.f4
def F.t(Y:K)(a3:Int)(Z:V):Prop:=
 b4 Z 25 fL.aK fun a b=>
 aF mO.id #[.int .i64 a3] b fun b c=>
 bU b fun b=>
 cF b fun b d=>
 b6 d fun d e f g=>
 bC g <| aF nE.id #[.agg #[.bool b,.slice d e f]] c fun b c=>
 bU b fun b=>
 cF b fun b d=>
 b6 d fun d e f g=>
 bC g <| aW c (a.add 0) (.bool b) fun b=>
 aW b (a.add 1) (.slice d e f) fun b=>
 bB b (a.add 0) fun c=>
 a6 b (a.add 1) fun a d e=>
 Y (.agg #[.bool c,.slice a d e]) b
def F.g(Y:K)(X:Fr)(Z:V):Prop:=aV .i64 (X 0) fun a3=>F.t Y a3 Z
theorem F.ok(Y:K)(X:Fr)(Z:V)(g:F.g Y X Z):den prog E r (aZ E [.cell 2 25] Y) X Z:=
 bM g fun a3 a g=>bO [(0,.int .i64 a3)] ⟨a,trivial⟩ (by kernel_rfl) g
def t(a3:Int)(Z:V)(Y:K):Prop:=F.t Y a3 Z
theorem ok{a3:Int}{Z:V}{Y:K}(g:t a3 Z Y):aF id #[.int .i64 a3] Z Y:=
 c7 c8 (L:=r) (cY:=[.cell 2 25]) Tryz.func4 (by kernel_rfl) (by kernel_rfl) (by kernel_rfl) (args:=[.int .i64 a3]) (by kernel_rfl) (F.ok Y _ Z (bI rfl (g)))
end kZ
namespace pQ
noncomputable def r:Code:=c6 Tryz.f5
def aC.t(Y:K)(a:Int)(b:Addr)(c:Int)(Z:V):Prop:=
 bB Z (b.add 0) fun d=>
 a6 Z (b.add 1) fun e f g=>
 aF mM.id #[.agg #[.bool d,.slice e f g]] Z fun d e=>
 c0 d fun d=>
 dG d .i64 fun d f=>
 dG f .i64 fun f g=>
 bC g <| cond (a == 0) (cond (c == 0) (cond (f == 0) (cond (d == (-14)) (bB e (b.add 0) fun a=>
 a6 e (b.add 1) fun c d f=>
 aF nB.id #[.agg #[.bool a,.slice c d f]] e fun a c=>
 aV .i64 a fun a=>
 cond (a == (-1)) (bB c (b.add 0) fun a=>
 a6 c (b.add 1) fun b d f=>
 aF eQ.id #[.agg #[.bool a,.slice b d f]] c fun a b=>
 b9 a fun a=>
 Y (.bool a) b) (Y (.bool false) c)) (Y (.bool false) e)) (Y (.bool false) e)) (Y (.bool false) e)) (Y (.bool false) e)
def aC.g(Y:K)(X:Fr)(Z:V):Prop:=aV .i64 (X 2) fun a=>cJ (X 3) fun b=>aV .i64 (X 4) fun c=>aC.t Y a b c Z
theorem aC.ok(Y:K)(X:Fr)(Z:V)(g:aC.g Y X Z):den prog E (aS r [W,W,W]) (aZ E [.tmp 0] Y) X Z:=
 bM g fun a b g=>cX g fun c d g=>bM g fun e f g=>bO [(2,.int .i64 a),(3,.pointer (some c)),(4,.int .i64 e)] ⟨b,d,f,trivial⟩ (by kernel_rfl) g
def F.t(Y:K)(Z:V):Prop:=
 aF kD.id #[.int .i64 (-5)] Z fun a b=>
 bU a fun a=>
 cF a fun a c=>
 b6 c fun c d e f=>
 bC f <| aF kD.id #[.int .i64 3] b fun b f=>
 bU b fun b=>
 cF b fun b g=>
 b6 g fun g h i j=>
 bC j <| aF kQ.id #[.agg #[.bool a,.slice c d e],.agg #[.bool b,.slice g h i]] f fun a b=>
 c0 a fun a=>
 bR a fun a c=>
 bU a fun a=>
 cF a fun a d=>
 b6 d fun d e f g=>
 bC g <| dG c .i64 fun c g=>
 bC g <| b4 b 25 fL.aK fun b g=>
 aW g (b.add 0) (.bool a) fun a=>
 aW a (b.add 1) (.slice d e f) fun a=>
 b.block < a.size∧bB a (b.add 0) fun d=>
 a6 a (b.add 1) fun b e f=>
 (aF kD.id #[.int .i64 7] a fun g h=>
 bU g fun g=>
 cF g fun g i=>
 b6 i fun i j l m=>
 bC m <| (cG a.size a h)∧(aF kR.id #[.agg #[.bool d,.slice b e f],.agg #[.bool g,.slice i j l]] h fun m n=>
 c0 m fun m=>
 bR m fun m v=>
 bU m fun m=>
 cF m fun m D=>
 b6 D fun D E G H=>
 bC H <| dG v .i64 fun H v=>
 bC v <| (cG a.size h n)∧b4 n 25 fL.aK fun v P=>
 (cG a.size n P)∧aW P (v.add 0) (.bool m) fun P=>
 aW P (v.add 1) (.slice D E G) fun D=>
 aC.t Y c v H D)∧(b4 h 25 fL.aK fun D E=>
 (cG a.size h E)∧aF kR.id #[.agg #[.bool d,.slice b e f],.agg #[.bool g,.slice i j l]] E fun G H=>
 c0 G fun G=>
 bR G fun G P=>
 bU G fun G=>
 cF G fun G g=>
 b6 g fun g h i j=>
 bC j <| dG P .i64 fun P j=>
 bC j <| (cG a.size E H)∧aW H (D.add 0) (.bool G) fun E=>
 aW E (D.add 1) (.slice g h i) fun E=>
 aC.t Y c D P E))∧(b4 a 25 fL.aK fun D E=>
 (cG a.size a E)∧aF kD.id #[.int .i64 7] E fun G H=>
 bU G fun G=>
 cF G fun G P=>
 b6 P fun P g h i=>
 bC i <| (cG a.size E H)∧aF kR.id #[.agg #[.bool d,.slice b e f],.agg #[.bool G,.slice P g h]] H fun E G=>
 c0 E fun E=>
 bR E fun E P=>
 bU E fun E=>
 cF E fun E b=>
 b6 b fun b d e f=>
 bC f <| dG P .i64 fun P f=>
 bC f <| (cG a.size H G)∧aW G (D.add 0) (.bool E) fun E=>
 aW E (D.add 1) (.slice b d e) fun E=>
 aC.t Y c D P E)
def F.g(Y:K)(X:Fr)(Z:V):Prop:=F.t Y  Z
theorem F.ok(Y:K)(X:Fr)(Z:V)(g:F.g Y X Z):den prog E r (aZ E [.tmp 0] Y) X Z:=
 cT 3 (s:=(aS r [W,W,W])) (by kernel_rfl) (aC.ok Y) (bO [] trivial (by kernel_rfl) g)
def t(Z:V)(Y:K):Prop:=F.t Y Z
theorem ok{Z:V}{Y:K}(g:t  Z Y):aF id #[] Z Y:=
 c7 c8 (L:=r) (cY:=[.tmp 0]) Tryz.func5 (by kernel_rfl) (by kernel_rfl) (by kernel_rfl) (args:=[]) (by kernel_rfl) (F.ok Y _ Z (g))
end pQ
namespace gU
noncomputable def r:Code:=c6 Tryz.f6
def eC.t(Y:K)(a:U)(b c:Nat)(d:U)(e f:Nat)(g h:Addr)(i j l:Addr)(Z:V):Prop:=
 a6 Z (g.add 1) fun g m n=>
 a6 Z (h.add 1) fun h v D=>
 a6 Z (i.add 1) fun i E G=>
 a6 Z (j.add 1) fun j H P=>
 a6 Z (l.add 1) fun l K5 K6=>
 b4 Z 23 [.slice g m n,.slice h v D,.slice i E G,.slice j H P,.slice l K5 K6,.slice a b c,.slice d e f] fun D E=>
 aF eF.id #[.slice (some D) 7 7] E fun D E=>
 b9 D fun D=>
 Y (.bool D) E
def eC.g(Y:K)(X:Fr)(Z:V):Prop:=aG (X 10) fun a b c=>aG (X 12) fun d e f=>cJ (X 14) fun h=>cJ (X 16) fun i=>cJ (X 18) fun j=>cJ (X 20) fun l=>cJ (X 27) fun m=>eC.t Y a b c d e f h i j l m Z
theorem eC.ok(Y:K)(X:Fr)(Z:V)(g:eC.g Y X Z):den prog E (aS r [W,W,W,W,W,W,W,W,W,W,W,W,W,W,W,W,W,W,W,W,W]) (aZ E [.tmp 4] Y) X Z:=
 a8 g fun a b c d g=>a8 g fun e f h i g=>cX g fun j l g=>cX g fun m n g=>cX g fun t v g=>cX g fun D G g=>cX g fun H P g=>bO [(10,.slice a b c),(12,.slice e f h),(14,.pointer (some j)),(16,.pointer (some m)),(18,.pointer (some t)),(20,.pointer (some D)),(27,.pointer (some H))] ⟨d,i,l,n,v,G,P,trivial⟩ (by kernel_rfl) g
def dD.t(Y:K)(a b:Addr)(c:U)(d e:Nat)(f:U)(g h:Nat)(i j:Addr)(l m:Addr)(n v:Addr)(Z:V):Prop:=
 aF n5.id #[.slice c d e] Z fun D E=>
 c0 D fun D=>
 bC D <| aF n5.id #[.slice f g h] E fun D E=>
 c0 D fun D=>
 bC D <| bB E (i.add 0) fun D=>
 a6 E (i.add 1) fun G H P=>
 bB E (a.add 0) fun K5=>
 a6 E (a.add 1) fun K6 K7 K8=>
 aF iN.id #[.agg #[.bool D,.slice G H P],.agg #[.bool K5,.slice K6 K7 K8]] E fun D E=>
 b9 D fun D=>
 cond (!D) (Y (.bool false) E) (bB E (j.add 0) fun D=>
 a6 E (j.add 1) fun G H P=>
 bB E (a.add 0) fun K5=>
 a6 E (a.add 1) fun K6 K7 K8=>
 aF iN.id #[.agg #[.bool D,.slice G H P],.agg #[.bool K5,.slice K6 K7 K8]] E fun D E=>
 b9 D fun D=>
 cond (!D) (Y (.bool false) E) (bB E (l.add 0) fun D=>
 a6 E (l.add 1) fun G H P=>
 bB E (b.add 0) fun K5=>
 a6 E (b.add 1) fun b K6 K7=>
 aF iN.id #[.agg #[.bool D,.slice G H P],.agg #[.bool K5,.slice b K6 K7]] E fun D E=>
 b9 D fun D=>
 cond (!D) (Y (.bool false) E) (bB E (m.add 0) fun D=>
 a6 E (m.add 1) fun G H P=>
 bB E (a.add 0) fun b=>
 a6 E (a.add 1) fun a K5 K6=>
 aF iN.id #[.agg #[.bool D,.slice G H P],.agg #[.bool b,.slice a K5 K6]] E fun D E=>
 b9 D fun D=>
 cond (!D) (Y (.bool false) E) (bB E (v.add 0) fun D=>
 a6 E (v.add 1) fun G H P=>
 bB E (n.add 0) fun a=>
 a6 E (n.add 1) fun b n K5=>
 aF iN.id #[.agg #[.bool D,.slice G H P],.agg #[.bool a,.slice b n K5]] E fun D E=>
 b9 D fun D=>
 cond (!D) (Y (.bool false) E) (eC.t Y c d e f g h i j l m v E)))))
def dD.g(Y:K)(X:Fr)(Z:V):Prop:=cJ (X 5) fun a=>cJ (X 7) fun b=>aG (X 10) fun c d e=>aG (X 12) fun f h i=>cJ (X 14) fun j=>cJ (X 16) fun l=>cJ (X 18) fun m=>cJ (X 20) fun n=>cJ (X 25) fun v=>cJ (X 27) fun D=>dD.t Y a b c d e f h i j l m n v D Z
theorem dD.ok(Y:K)(X:Fr)(Z:V)(g:dD.g Y X Z):den prog E (aS r [W,W,W,W,W,W,W,W,W,W,W,W,W,W,W,W,W,W]) (aZ E [.tmp 4] Y) X Z:=
 cX g fun a b g=>cX g fun c d g=>a8 g fun e f h i g=>a8 g fun j l m n g=>cX g fun t v g=>cX g fun D G g=>cX g fun H P g=>cX g fun K5 K6 g=>cX g fun K7 K8 g=>cX g fun K9 La g=>cT 3 (s:=(aS r [W,W,W,W,W,W,W,W,W,W,W,W,W,W,W,W,W,W,W,W,W])) (by kernel_rfl) (eC.ok Y) (bO [(5,.pointer (some a)),(7,.pointer (some c)),(10,.slice e f h),(12,.slice j l m),(14,.pointer (some t)),(16,.pointer (some D)),(18,.pointer (some H)),(20,.pointer (some K5)),(25,.pointer (some K7)),(27,.pointer (some K9))] ⟨b,d,i,n,v,G,P,K6,K8,La,trivial⟩ (by kernel_rfl) g)
def b0.t(Y:K)(a b:Addr)(c:U)(d e:Nat)(f:U)(g h:Nat)(i j:Addr)(l m:Addr)(n v:Addr)(Z:V):Prop:=
 cI Z .i64 (v.add 0) fun D=>
 bB Z (v.add 1) fun E=>
 a6 Z (v.add 2) fun G H P=>
 bB Z (v.add 3) fun K5=>
 a6 Z (v.add 4) fun K6 K7 K8=>
 cI Z .i64 (v.add 5) fun K9=>
 aF oW.id #[.agg #[.int .i64 D,.bool E,.slice G H P,.bool K5,.slice K6 K7 K8,.int .i64 K9]] Z fun D E=>
 c0 D fun D=>
 bR D fun D G=>
 bU D fun D=>
 cF D fun D H=>
 b6 H fun H P K5 K6=>
 bC K6 <| dG G .i64 fun G K6=>
 bC K6 <| b4 E 25 fL.aK fun E K6=>
 aW K6 (E.add 0) (.bool D) fun D=>
 aW D (E.add 1) (.slice H P K5) fun D=>
 cI D .i64 (i.add 0) fun H=>
 bB D (i.add 1) fun P=>
 a6 D (i.add 2) fun K5 K6 K7=>
 bB D (i.add 3) fun K8=>
 a6 D (i.add 4) fun K9 La Lb=>
 cI D .i64 (i.add 5) fun Lc=>
 aF iA.id #[.agg #[.int .i64 H,.bool P,.slice K5 K6 K7,.bool K8,.slice K9 La Lb,.int .i64 Lc]] D fun D H=>
 c0 D fun D=>
 bR D fun D P=>
 bU D fun D=>
 cF D fun D K5=>
 b6 K5 fun K5 K6 K7 K8=>
 bC K8 <| dG P .i64 fun P K8=>
 bC K8 <| b4 H 25 fL.aK fun H K8=>
 aW K8 (H.add 0) (.bool D) fun D=>
 aW D (H.add 1) (.slice K5 K6 K7) fun D=>
 cond (P != G) (Y (.bool false) D) (bB D (H.add 0) fun G=>
 a6 D (H.add 1) fun P K5 K6=>
 bB D (E.add 0) fun K7=>
 a6 D (E.add 1) fun K8 K9 La=>
 aF iN.id #[.agg #[.bool G,.slice P K5 K6],.agg #[.bool K7,.slice K8 K9 La]] D fun D G=>
 b9 D fun D=>
 cond (!D) (Y (.bool false) G) (bB G ((i.add 1).add 0) fun D=>
 a6 G ((i.add 1).add 1) fun P K5 K6=>
 bB G ((v.add 1).add 0) fun K7=>
 a6 G ((v.add 1).add 1) fun K8 K9 La=>
 aF iN.id #[.agg #[.bool D,.slice P K5 K6],.agg #[.bool K7,.slice K8 K9 La]] G fun D G=>
 b9 D fun D=>
 cond (!D) (Y (.bool false) G) (bB G ((i.add 3).add 0) fun D=>
 a6 G ((i.add 3).add 1) fun P i K5=>
 bB G ((v.add 3).add 0) fun K6=>
 a6 G ((v.add 3).add 1) fun v K7 K8=>
 aF iN.id #[.agg #[.bool D,.slice P i K5],.agg #[.bool K6,.slice v K7 K8]] G fun D G=>
 b9 D fun D=>
 cond (!D) (Y (.bool false) G) (dD.t Y a b c d e f g h j l m n E H G))))
def b0.g(Y:K)(X:Fr)(Z:V):Prop:=cJ (X 5) fun a=>cJ (X 7) fun b=>aG (X 10) fun c d e=>aG (X 12) fun f h i=>cJ (X 13) fun j=>cJ (X 14) fun l=>cJ (X 16) fun m=>cJ (X 18) fun n=>cJ (X 20) fun v=>cJ (X 24) fun D=>b0.t Y a b c d e f h i j l m n v D Z
theorem b0.ok(Y:K)(X:Fr)(Z:V)(g:b0.g Y X Z):den prog E (aS r [W,W,W,W,W,W,W,W,W,W,W,W,W,W,W]) (aZ E [.tmp 4] Y) X Z:=
 cX g fun a b g=>cX g fun c d g=>a8 g fun e f h i g=>a8 g fun j l m n g=>cX g fun t v g=>cX g fun D G g=>cX g fun H P g=>cX g fun K5 K6 g=>cX g fun K7 K8 g=>cX g fun K9 La g=>cT 3 (s:=(aS r [W,W,W,W,W,W,W,W,W,W,W,W,W,W,W,W,W,W])) (by kernel_rfl) (dD.ok Y) (bO [(5,.pointer (some a)),(7,.pointer (some c)),(10,.slice e f h),(12,.slice j l m),(13,.pointer (some t)),(14,.pointer (some D)),(16,.pointer (some H)),(18,.pointer (some K5)),(20,.pointer (some K7)),(24,.pointer (some K9))] ⟨b,d,i,n,v,G,P,K6,K8,La,trivial⟩ (by kernel_rfl) g)
def cA.t(Y:K)(a b:Addr)(c:U)(d e:Nat)(f:U)(g h:Nat)(i j:Addr)(l m n:Addr)(Z:V):Prop:=
 (i.add 0).block < Z.size∧cI Z .i64 (i.add 0) fun v=>
 (i.add 1).block < Z.size∧bB Z ((i.add 1).add 0) fun D=>
 a6 Z ((i.add 1).add 1) fun E G H=>
 (i.add 3).block < Z.size∧bB Z ((i.add 3).add 0) fun P=>
 a6 Z ((i.add 3).add 1) fun K5 K6 K7=>
 (i.add 5).block < Z.size∧cI Z .i64 (i.add 5) fun K8=>
 (aF hC.id #[.agg #[.bool D,.slice E G H]] Z fun K9 La=>
 bU K9 fun K9=>
 cF K9 fun K9 Lb=>
 b6 Lb fun Lb Lc Ld Le=>
 bC Le <| (cG Z.size Z La)∧(aF hC.id #[.agg #[.bool P,.slice K5 K6 K7]] La fun Le Lf=>
 bU Le fun Le=>
 cF Le fun Le Lg=>
 b6 Lg fun Lg Lh Li Lj=>
 bC Lj <| (cG Z.size La Lf)∧b4 Lf 29 o0.aK fun Lj Lk=>
 (cG Z.size Lf Lk)∧aW Lk (Lj.add 0) (.int .i64 v) fun Lf=>
 aW Lf (Lj.add 1) (.bool K9) fun Lf=>
 aW Lf (Lj.add 2) (.slice Lb Lc Ld) fun Lf=>
 aW Lf (Lj.add 3) (.bool Le) fun Le=>
 aW Le (Lj.add 4) (.slice Lg Lh Li) fun Le=>
 aW Le (Lj.add 5) (.int .i64 K8) fun Le=>
 b0.t Y a b c d e f g h i j l m n Lj Le)∧(b4 La 29 o0.aK fun Le Lf=>
 (cG Z.size La Lf)∧aF hC.id #[.agg #[.bool P,.slice K5 K6 K7]] Lf fun La Lg=>
 bU La fun La=>
 cF La fun La Lh=>
 b6 Lh fun Lh Li Lj Lk=>
 bC Lk <| (cG Z.size Lf Lg)∧aW Lg (Le.add 0) (.int .i64 v) fun Lf=>
 aW Lf (Le.add 1) (.bool K9) fun K9=>
 aW K9 (Le.add 2) (.slice Lb Lc Ld) fun K9=>
 aW K9 (Le.add 3) (.bool La) fun K9=>
 aW K9 (Le.add 4) (.slice Lh Li Lj) fun K9=>
 aW K9 (Le.add 5) (.int .i64 K8) fun K9=>
 b0.t Y a b c d e f g h i j l m n Le K9))∧(b4 Z 29 o0.aK fun K9 La=>
 (cG Z.size Z La)∧aF hC.id #[.agg #[.bool D,.slice E G H]] La fun D E=>
 bU D fun D=>
 cF D fun D G=>
 b6 G fun G H Lb Lc=>
 bC Lc <| (cG Z.size La E)∧aF hC.id #[.agg #[.bool P,.slice K5 K6 K7]] E fun P K5=>
 bU P fun P=>
 cF P fun P K6=>
 b6 K6 fun K6 K7 La Lc=>
 bC Lc <| (cG Z.size E K5)∧aW K5 (K9.add 0) (.int .i64 v) fun E=>
 aW E (K9.add 1) (.bool D) fun D=>
 aW D (K9.add 2) (.slice G H Lb) fun D=>
 aW D (K9.add 3) (.bool P) fun D=>
 aW D (K9.add 4) (.slice K6 K7 La) fun D=>
 aW D (K9.add 5) (.int .i64 K8) fun D=>
 b0.t Y a b c d e f g h i j l m n K9 D)
def cA.g(Y:K)(X:Fr)(Z:V):Prop:=cJ (X 5) fun a=>cJ (X 7) fun b=>aG (X 10) fun c d e=>aG (X 12) fun f h i=>cJ (X 13) fun j=>cJ (X 14) fun l=>cJ (X 16) fun m=>cJ (X 18) fun n=>cJ (X 20) fun v=>cA.t Y a b c d e f h i j l m n v Z
theorem cA.ok(Y:K)(X:Fr)(Z:V)(g:cA.g Y X Z):den prog E (aS r [W,W,W,W,W,W,W,W,W,W,W,W,W,W]) (aZ E [.tmp 4] Y) X Z:=
 cX g fun a b g=>cX g fun c d g=>a8 g fun e f h i g=>a8 g fun j l m n g=>cX g fun t v g=>cX g fun D G g=>cX g fun H P g=>cX g fun K5 K6 g=>cX g fun K7 K8 g=>cT 1 (s:=(aS r [W,W,W,W,W,W,W,W,W,W,W,W,W,W,W])) (by kernel_rfl) (b0.ok Y) (bO [(5,.pointer (some a)),(7,.pointer (some c)),(10,.slice e f h),(12,.slice j l m),(13,.pointer (some t)),(14,.pointer (some D)),(16,.pointer (some H)),(18,.pointer (some K5)),(20,.pointer (some K7))] ⟨b,d,i,n,v,G,P,K6,K8,trivial⟩ (by kernel_rfl) g)
def eT.g(bN:Addr→Addr→U→Nat→Nat→U→Nat→Nat→U→Nat→Nat→Addr→Addr→Addr→Addr→Addr→Int→V→Prop)(X:Fr)(Z:V):Prop:=cJ (X 5) fun a=>cJ (X 7) fun b=>aG (X 10) fun c d e=>aG (X 11) fun f h i=>aG (X 12) fun j l m=>cJ (X 13) fun n=>cJ (X 14) fun t=>cJ (X 16) fun v=>cJ (X 18) fun D=>cJ (X 20) fun E=>aV .i64 (X 23) fun G=>bN a b c d e f h i j l m n t v D E G Z
def g7.t(Y:K)(a:Addr→Addr→U→Nat→Nat→U→Nat→Nat→U→Nat→Nat→Addr→Addr→Addr→Addr→Addr→Int→V→Prop)(b c:Addr)(d:U)(e f:Nat)(g:U)(h i:Nat)(j:U)(l m:Nat)(n v:Addr)(D E G:Addr)(H:Int)(Z:V):Prop:=
 cond (decide (H < (((h:Nat):Int)))) (cL g h H 1 fun P=>
 cI Z .u64 P fun P=>
 (3:Int) ≠ 0∧a2 (IntKind.u64.wrap (Int.tdiv P 3)) fun P=>
 a2 (IntKind.u64.wrap (P+1)) fun P=>
 cL g h H 1 fun K5=>
 aW Z K5 (.int .u64 P) fun P=>
 a2 (IntKind.i64.wrap (H+1)) fun H=>
 a b c d e f g h i j l m n v D E G H P) (cA.t Y b c d e f j l m n v D E G Z)
def g7.g(Y:K)(a:Addr→Addr→U→Nat→Nat→U→Nat→Nat→U→Nat→Nat→Addr→Addr→Addr→Addr→Addr→Int→V→Prop)(X:Fr)(Z:V):Prop:=cJ (X 5) fun b=>cJ (X 7) fun c=>aG (X 10) fun d e f=>aG (X 11) fun h i j=>aG (X 12) fun l m n=>cJ (X 13) fun v=>cJ (X 14) fun D=>cJ (X 16) fun E=>cJ (X 18) fun G=>cJ (X 20) fun H=>aV .i64 (X 23) fun P=>g7.t Y a b c d e f h i j l m n v D E G H P Z
theorem g7.ok(Y:K)(a:Addr→Addr→U→Nat→Nat→U→Nat→Nat→U→Nat→Nat→Addr→Addr→Addr→Addr→Addr→Int→V→Prop)(X:Fr)(Z:V)(g:g7.g Y a X Z):den prog E (aS r [W,W,W,W,W,W,W,W,W,W,W,W,W,x,W,x,x]) (aH.then (eT.g a) (aH.inBlock 2 (aH.then (cA.g Y) (aZ E [.tmp 4] Y)))) X Z:=
 cX g fun a b g=>cX g fun c d g=>a8 g fun e f h i g=>a8 g fun j l m n g=>a8 g fun t v D G g=>cX g fun H P g=>cX g fun K5 K6 g=>cX g fun K7 K8 g=>cX g fun K9 La g=>cX g fun Lb Lc g=>bM g fun Ld Le g=>bO [(5,.pointer (some a)),(7,.pointer (some c)),(10,.slice e f h),(11,.slice j l m),(12,.slice t v D),(13,.pointer (some H)),(14,.pointer (some K5)),(16,.pointer (some K7)),(18,.pointer (some K9)),(20,.pointer (some Lb)),(23,.int .i64 Ld)] ⟨b,d,i,n,G,P,K6,K8,La,Lc,Le,trivial⟩ (by kernel_rfl) g
def eT.t(Y:K):Nat→Addr→Addr→U→Nat→Nat→U→Nat→Nat→U→Nat→Nat→Addr→Addr→Addr→Addr→Addr→Int→V→Prop
 | 0=>fun _ _ _ _ _ _ _ _ _ _ _ _ _ _ _ _ _ _=>False
 | n+1=>fun a b c d e f g h i j l m v D E G H Z=>g7.t Y (eT.t Y n) a b c d e f g h i j l m v D E G H Z
theorem eT.ok(Y:K)(X:Fr)(Z:V)(g:eT.g (fun a b c d e f h i j l m v D G H P K5 Z=>∃ n,eT.t Y n a b c d e f h i j l m v D G H P K5 Z) X Z):den prog E (aS r [W,W,W,W,W,W,W,W,W,W,W,W,W,x,W,x]) (aH.inBlock 2 (aH.then (cA.g Y) (aZ E [.tmp 4] Y))) X Z:=by
 obtain⟨a,K6,g⟩:=fO g
 obtain⟨b,K7,g⟩:=fO g
 obtain⟨c,d,e,K8,g⟩:=bQ g
 obtain⟨f,h,i,K9,g⟩:=bQ g
 obtain⟨j,l,m,La,g⟩:=bQ g
 obtain⟨v,Lb,g⟩:=fO g
 obtain⟨D,Lc,g⟩:=fO g
 obtain⟨G,Ld,g⟩:=fO g
 obtain⟨H,Le,g⟩:=fO g
 obtain⟨P,Lf,g⟩:=fO g
 obtain⟨K5,Lg,g⟩:=bS g
 obtain⟨n,g⟩:=g
 refine e1 (fun n=>eT.g (eT.t Y n)) (N:=(aS r [W,W,W,W,W,W,W,W,W,W,W,W,W,x,W,x,x])) (by kernel_rfl) (fun X Z g=>?_) (fun n=>g7.ok Y (eT.t Y n)) n X Z (iQ K6 (iQ K7 (k K8 (k K9 (k La (iQ Lb (iQ Lc (iQ Ld (iQ Le (iQ Lf (bI Lg (g))))))))))))
 obtain⟨a,K6,g⟩:=fO g
 obtain⟨b,K7,g⟩:=fO g
 obtain⟨c,d,e,K8,g⟩:=bQ g
 obtain⟨f,h,i,K9,g⟩:=bQ g
 obtain⟨j,l,m,La,g⟩:=bQ g
 obtain⟨v,Lb,g⟩:=fO g
 obtain⟨D,Lc,g⟩:=fO g
 obtain⟨G,Ld,g⟩:=fO g
 obtain⟨H,Le,g⟩:=fO g
 obtain⟨P,Lf,g⟩:=fO g
 obtain⟨K5,Lg,g⟩:=bS g
 exact g
theorem uE.ok(Y:K)(X:Fr)(Z:V)(g:eT.g (fun a b c d e f h i j l m v D G H P K5 Z=>∃ n,eT.t Y n a b c d e f h i j l m v D G H P K5 Z) X Z):den prog E (aS r [W,W,W,W,W,W,W,W,W,W,W,W,W,x,W]) (aH.then (cA.g Y) (aZ E [.tmp 4] Y)) X Z:=
 eR (by kernel_rfl) (eT.ok Y X Z g)
def eL.t(Y:K)(a b:Addr)(c:U)(d e:Nat)(f:U)(g h:Nat)(i:U)(j l:Nat)(m v:Addr)(D E G:Addr)(Z:V):Prop:=
 (∃ n,eT.t Y n a b c d e f g h i j l m v D E G 0 Z)
def eL.g(Y:K)(X:Fr)(Z:V):Prop:=cJ (X 5) fun a=>cJ (X 7) fun b=>aG (X 10) fun c d e=>aG (X 11) fun f h i=>aG (X 12) fun j l m=>cJ (X 13) fun n=>cJ (X 14) fun v=>cJ (X 16) fun D=>cJ (X 18) fun E=>cJ (X 20) fun G=>eL.t Y a b c d e f h i j l m n v D E G Z
theorem eL.ok(Y:K)(X:Fr)(Z:V)(g:eL.g Y X Z):den prog E (aS r [W,W,W,W,W,W,W,W,W,W,W,W,W,x]) (aH.then (cA.g Y) (aZ E [.tmp 4] Y)) X Z:=
 cX g fun a b g=>cX g fun c d g=>a8 g fun e f h i g=>a8 g fun j l m n g=>a8 g fun t v D G g=>cX g fun H P g=>cX g fun K5 K6 g=>cX g fun K7 K8 g=>cX g fun K9 La g=>cX g fun Lb Lc g=>cT 1 (s:=(aS r [W,W,W,W,W,W,W,W,W,W,W,W,W,x,W])) (by kernel_rfl) (uE.ok Y) (bO [(5,.pointer (some a)),(7,.pointer (some c)),(10,.slice e f h),(11,.slice j l m),(12,.slice t v D),(13,.pointer (some H)),(14,.pointer (some K5)),(16,.pointer (some K7)),(18,.pointer (some K9)),(20,.pointer (some Lb))] ⟨b,d,i,n,G,P,K6,K8,La,Lc,trivial⟩ (by kernel_rfl) g)
theorem Be.ok(Y:K)(X:Fr)(Z:V)(g:eL.g Y X Z):den prog E (aS r [W,W,W,W,W,W,W,W,W,W,W,W,W]) (aZ E [.tmp 4] Y) X Z:=
 e5 (by kernel_rfl) (cA.ok Y) (eL.ok Y X Z g)
def l9.g(bN:Addr→Addr→U→Nat→Nat→U→Nat→Nat→U→Nat→Nat→U→Nat→Nat→Addr→Addr→Addr→Addr→Addr→Int→V→Prop)(X:Fr)(Z:V):Prop:=cJ (X 5) fun a=>cJ (X 7) fun b=>aG (X 9) fun c d e=>aG (X 10) fun f h i=>aG (X 11) fun j l m=>aG (X 12) fun n t v=>cJ (X 13) fun D=>cJ (X 14) fun E=>cJ (X 16) fun G=>cJ (X 18) fun H=>cJ (X 20) fun P=>aV .i64 (X 22) fun K5=>bN a b c d e f h i j l m n t v D E G H P K5 Z
def lG.t(Y:K)(a:Addr→Addr→U→Nat→Nat→U→Nat→Nat→U→Nat→Nat→U→Nat→Nat→Addr→Addr→Addr→Addr→Addr→Int→V→Prop)(b c:Addr)(d:U)(e f:Nat)(g:U)(h i:Nat)(j:U)(l m:Nat)(n:U)(v D:Nat)(E G:Addr)(H P K5:Addr)(K6:Int)(Z:V):Prop:=
 cond (decide (K6 < (((e:Nat):Int)))) (cL d e K6 1 fun K7=>
 cI Z .u64 K7 fun K7=>
 (2:Int) ≠ 0∧a2 (IntKind.u64.wrap (Int.tdiv K7 2)) fun K7=>
 a2 (IntKind.u64.wrap (K7+1)) fun K7=>
 cL d e K6 1 fun K8=>
 aW Z K8 (.int .u64 K7) fun K7=>
 a2 (IntKind.i64.wrap (K6+1)) fun K6=>
 a b c d e f g h i j l m n v D E G H P K5 K6 K7) (eL.t Y b c g h i j l m n v D E G H P K5 Z)
def lG.g(Y:K)(a:Addr→Addr→U→Nat→Nat→U→Nat→Nat→U→Nat→Nat→U→Nat→Nat→Addr→Addr→Addr→Addr→Addr→Int→V→Prop)(X:Fr)(Z:V):Prop:=cJ (X 5) fun b=>cJ (X 7) fun c=>aG (X 9) fun d e f=>aG (X 10) fun h i j=>aG (X 11) fun l m n=>aG (X 12) fun v D E=>cJ (X 13) fun G=>cJ (X 14) fun H=>cJ (X 16) fun P=>cJ (X 18) fun K5=>cJ (X 20) fun K6=>aV .i64 (X 22) fun K7=>lG.t Y a b c d e f h i j l m n v D E G H P K5 K6 K7 Z
theorem lG.ok(Y:K)(a:Addr→Addr→U→Nat→Nat→U→Nat→Nat→U→Nat→Nat→U→Nat→Nat→Addr→Addr→Addr→Addr→Addr→Int→V→Prop)(X:Fr)(Z:V)(g:lG.g Y a X Z):den prog E (aS r [W,W,W,W,W,W,W,W,W,W,W,W,x,W,x,x]) (aH.then (l9.g a) (aH.inBlock 0 (aH.then (eL.g Y) (aZ E [.tmp 4] Y)))) X Z:=
 cX g fun a b g=>cX g fun c d g=>a8 g fun e f h i g=>a8 g fun j l m n g=>a8 g fun t v D G g=>a8 g fun H P K5 K6 g=>cX g fun K7 K8 g=>cX g fun K9 La g=>cX g fun Lb Lc g=>cX g fun Ld Le g=>cX g fun Lf Lg g=>bM g fun Lh Li g=>bO [(5,.pointer (some a)),(7,.pointer (some c)),(9,.slice e f h),(10,.slice j l m),(11,.slice t v D),(12,.slice H P K5),(13,.pointer (some K7)),(14,.pointer (some K9)),(16,.pointer (some Lb)),(18,.pointer (some Ld)),(20,.pointer (some Lf)),(22,.int .i64 Lh)] ⟨b,d,i,n,G,K6,K8,La,Lc,Le,Lg,Li,trivial⟩ (by kernel_rfl) g
def l9.t(Y:K):Nat→Addr→Addr→U→Nat→Nat→U→Nat→Nat→U→Nat→Nat→U→Nat→Nat→Addr→Addr→Addr→Addr→Addr→Int→V→Prop
 | 0=>fun _ _ _ _ _ _ _ _ _ _ _ _ _ _ _ _ _ _ _ _ _=>False
 | n+1=>fun a b c d e f g h i j l m v D E G H P K5 K6 Z=>lG.t Y (l9.t Y n) a b c d e f g h i j l m v D E G H P K5 K6 Z
theorem l9.ok(Y:K)(X:Fr)(Z:V)(g:l9.g (fun a b c d e f h i j l m v D G H P K5 K6 K7 K8 Z=>∃ n,l9.t Y n a b c d e f h i j l m v D G H P K5 K6 K7 K8 Z) X Z):den prog E (aS r [W,W,W,W,W,W,W,W,W,W,W,W,x,W,x]) (aH.inBlock 0 (aH.then (eL.g Y) (aZ E [.tmp 4] Y))) X Z:=by
 obtain⟨a,K9,g⟩:=fO g
 obtain⟨b,La,g⟩:=fO g
 obtain⟨c,d,e,Lb,g⟩:=bQ g
 obtain⟨f,h,i,Lc,g⟩:=bQ g
 obtain⟨j,l,m,Ld,g⟩:=bQ g
 obtain⟨v,D,G,Le,g⟩:=bQ g
 obtain⟨H,Lf,g⟩:=fO g
 obtain⟨P,Lg,g⟩:=fO g
 obtain⟨K5,Lh,g⟩:=fO g
 obtain⟨K6,Li,g⟩:=fO g
 obtain⟨K7,Lj,g⟩:=fO g
 obtain⟨K8,Lk,g⟩:=bS g
 obtain⟨n,g⟩:=g
 refine e1 (fun n=>l9.g (l9.t Y n)) (N:=(aS r [W,W,W,W,W,W,W,W,W,W,W,W,x,W,x,x])) (by kernel_rfl) (fun X Z g=>?_) (fun n=>lG.ok Y (l9.t Y n)) n X Z (iQ K9 (iQ La (k Lb (k Lc (k Ld (k Le (iQ Lf (iQ Lg (iQ Lh (iQ Li (iQ Lj (bI Lk (g)))))))))))))
 obtain⟨a,K9,g⟩:=fO g
 obtain⟨b,La,g⟩:=fO g
 obtain⟨c,d,e,Lb,g⟩:=bQ g
 obtain⟨f,h,i,Lc,g⟩:=bQ g
 obtain⟨j,l,m,Ld,g⟩:=bQ g
 obtain⟨v,D,G,Le,g⟩:=bQ g
 obtain⟨H,Lf,g⟩:=fO g
 obtain⟨P,Lg,g⟩:=fO g
 obtain⟨K5,Lh,g⟩:=fO g
 obtain⟨K6,Li,g⟩:=fO g
 obtain⟨K7,Lj,g⟩:=fO g
 obtain⟨K8,Lk,g⟩:=bS g
 exact g
theorem w1.ok(Y:K)(X:Fr)(Z:V)(g:l9.g (fun a b c d e f h i j l m v D G H P K5 K6 K7 K8 Z=>∃ n,l9.t Y n a b c d e f h i j l m v D G H P K5 K6 K7 K8 Z) X Z):den prog E (aS r [W,W,W,W,W,W,W,W,W,W,W,W,x,W]) (aH.then (eL.g Y) (aZ E [.tmp 4] Y)) X Z:=
 eR (by kernel_rfl) (l9.ok Y X Z g)
def kB.t(Y:K)(a b:Addr)(c:U)(d e:Nat)(f:U)(g h:Nat)(i:U)(j l:Nat)(m:U)(v D:Nat)(E G:Addr)(H P K5:Addr)(Z:V):Prop:=
 (∃ n,l9.t Y n a b c d e f g h i j l m v D E G H P K5 0 Z)
def kB.g(Y:K)(X:Fr)(Z:V):Prop:=cJ (X 5) fun a=>cJ (X 7) fun b=>aG (X 9) fun c d e=>aG (X 10) fun f h i=>aG (X 11) fun j l m=>aG (X 12) fun n v D=>cJ (X 13) fun E=>cJ (X 14) fun G=>cJ (X 16) fun H=>cJ (X 18) fun P=>cJ (X 20) fun K5=>kB.t Y a b c d e f h i j l m n v D E G H P K5 Z
theorem kB.ok(Y:K)(X:Fr)(Z:V)(g:kB.g Y X Z):den prog E (aS r [W,W,W,W,W,W,W,W,W,W,W,W,x]) (aH.then (eL.g Y) (aZ E [.tmp 4] Y)) X Z:=
 cX g fun a b g=>cX g fun c d g=>a8 g fun e f h i g=>a8 g fun j l m n g=>a8 g fun t v D G g=>a8 g fun H P K5 K6 g=>cX g fun K7 K8 g=>cX g fun K9 La g=>cX g fun Lb Lc g=>cX g fun Ld Le g=>cX g fun Lf Lg g=>cT 1 (s:=(aS r [W,W,W,W,W,W,W,W,W,W,W,W,x,W])) (by kernel_rfl) (w1.ok Y) (bO [(5,.pointer (some a)),(7,.pointer (some c)),(9,.slice e f h),(10,.slice j l m),(11,.slice t v D),(12,.slice H P K5),(13,.pointer (some K7)),(14,.pointer (some K9)),(16,.pointer (some Lb)),(18,.pointer (some Ld)),(20,.pointer (some Lf))] ⟨b,d,i,n,G,K6,K8,La,Lc,Le,Lg,trivial⟩ (by kernel_rfl) g)
theorem Bf.ok(Y:K)(X:Fr)(Z:V)(g:kB.g Y X Z):den prog E (aS r [W,W,W,W,W,W,W,W,W,W,W,W]) (aZ E [.tmp 4] Y) X Z:=
 e5 (by kernel_rfl) (Be.ok Y) (kB.ok Y X Z g)
def a7.t(Y:K)(a b:Addr)(c:U)(d e:Nat)(f:U)(g h:Nat)(i:U)(j l:Nat)(m:U)(n v:Nat)(D E:Addr)(G H P:Addr)(Z:V):Prop:=
 bB Z (E.add 0) fun K5=>
 a6 Z (E.add 1) fun K6 K7 K8=>
 bB Z (a.add 0) fun K9=>
 a6 Z (a.add 1) fun La Lb Lc=>
 aF iN.id #[.agg #[.bool K5,.slice K6 K7 K8],.agg #[.bool K9,.slice La Lb Lc]] Z fun K5 K6=>
 b9 K5 fun K5=>
 cond (!K5) (Y (.bool false) K6) (bB K6 (G.add 0) fun K5=>
 a6 K6 (G.add 1) fun K7 K8 K9=>
 bB K6 (a.add 0) fun La=>
 a6 K6 (a.add 1) fun Lb Lc Ld=>
 aF iN.id #[.agg #[.bool K5,.slice K7 K8 K9],.agg #[.bool La,.slice Lb Lc Ld]] K6 fun K5 K6=>
 b9 K5 fun K5=>
 cond (!K5) (Y (.bool false) K6) (bB K6 (H.add 0) fun K5=>
 a6 K6 (H.add 1) fun K7 K8 K9=>
 bB K6 (b.add 0) fun La=>
 a6 K6 (b.add 1) fun Lb Lc Ld=>
 aF iN.id #[.agg #[.bool K5,.slice K7 K8 K9],.agg #[.bool La,.slice Lb Lc Ld]] K6 fun K5 K6=>
 b9 K5 fun K5=>
 cond (!K5) (Y (.bool false) K6) (bB K6 (P.add 0) fun K5=>
 a6 K6 (P.add 1) fun K7 K8 K9=>
 bB K6 (a.add 0) fun La=>
 a6 K6 (a.add 1) fun Lb Lc Ld=>
 aF iN.id #[.agg #[.bool K5,.slice K7 K8 K9],.agg #[.bool La,.slice Lb Lc Ld]] K6 fun K5 K6=>
 b9 K5 fun K5=>
 cond (!K5) (Y (.bool false) K6) (kB.t Y a b c d e f g h i j l m n v D E G H P K6))))
def a7.g(Y:K)(X:Fr)(Z:V):Prop:=cJ (X 5) fun a=>cJ (X 7) fun b=>aG (X 9) fun c d e=>aG (X 10) fun f h i=>aG (X 11) fun j l m=>aG (X 12) fun n v D=>cJ (X 13) fun E=>cJ (X 14) fun G=>cJ (X 16) fun H=>cJ (X 18) fun P=>cJ (X 20) fun K5=>a7.t Y a b c d e f h i j l m n v D E G H P K5 Z
theorem a7.ok(Y:K)(X:Fr)(Z:V)(g:a7.g Y X Z):den prog E (aS r [W,W,W,W,W,W,W,W,W,W,W]) (aZ E [.tmp 4] Y) X Z:=
 cX g fun a b g=>cX g fun c d g=>a8 g fun e f h i g=>a8 g fun j l m n g=>a8 g fun t v D G g=>a8 g fun H P K5 K6 g=>cX g fun K7 K8 g=>cX g fun K9 La g=>cX g fun Lb Lc g=>cX g fun Ld Le g=>cX g fun Lf Lg g=>cT 1 (s:=(aS r [W,W,W,W,W,W,W,W,W,W,W,W])) (by kernel_rfl) (Bf.ok Y) (bO [(5,.pointer (some a)),(7,.pointer (some c)),(9,.slice e f h),(10,.slice j l m),(11,.slice t v D),(12,.slice H P K5),(13,.pointer (some K7)),(14,.pointer (some K9)),(16,.pointer (some Lb)),(18,.pointer (some Ld)),(20,.pointer (some Lf))] ⟨b,d,i,n,G,K6,K8,La,Lc,Le,Lg,trivial⟩ (by kernel_rfl) g)
def aC.t(Y:K)(a b:Addr)(c:Int)(d:Addr)(e:U)(f g:Nat)(h:U)(i j:Nat)(l:U)(m n:Nat)(v:U)(D E:Nat)(G H:Addr)(P:Int)(K5 K6:Addr)(Z:V):Prop:=
 cI Z .i64 (G.add 0) fun K7=>
 bB Z (G.add 1) fun K8=>
 a6 Z (G.add 2) fun K9 La Lb=>
 bB Z (G.add 3) fun Lc=>
 a6 Z (G.add 4) fun Ld Le Lf=>
 cI Z .i64 (G.add 5) fun Lg=>
 aF iA.id #[.agg #[.int .i64 K7,.bool K8,.slice K9 La Lb,.bool Lc,.slice Ld Le Lf,.int .i64 Lg]] Z fun K7 K8=>
 c0 K7 fun K7=>
 bR K7 fun K7 K9=>
 bU K7 fun K7=>
 cF K7 fun K7 La=>
 b6 La fun La Lb Lc Ld=>
 bC Ld <| dG K9 .i64 fun K9 K9=>
 bC K9 <| b4 K8 25 fL.aK fun K8 K9=>
 aW K9 (K8.add 0) (.bool K7) fun K7=>
 aW K7 (K8.add 1) (.slice La Lb Lc) fun K7=>
 cond (P != c) (Y (.bool false) K7) (a6 K7 ((a.add 1).add 1) fun P c K9=>
 j8 kT.id #[.slice h i j,.slice P c K9] K7 fun P=>
 b9 P fun P=>
 cond (!P) (Y (.bool false) K7) (a6 K7 ((a.add 3).add 1) fun P a c=>
 j8 kT.id #[.slice v D E,.slice P a c] K7 fun P=>
 b9 P fun P=>
 cond (!P) (Y (.bool false) K7) (a7.t Y b d e f g h i j l m n v D E G H K5 K6 K8 K7)))
def aC.g(Y:K)(X:Fr)(Z:V):Prop:=cJ (X 2) fun a=>cJ (X 5) fun b=>aV .i64 (X 6) fun c=>cJ (X 7) fun d=>aG (X 9) fun e f h=>aG (X 10) fun i j l=>aG (X 11) fun m n v=>aG (X 12) fun D E G=>cJ (X 13) fun H=>cJ (X 14) fun P=>aV .i64 (X 15) fun K5=>cJ (X 16) fun K6=>cJ (X 18) fun K7=>aC.t Y a b c d e f h i j l m n v D E G H P K5 K6 K7 Z
theorem aC.ok(Y:K)(X:Fr)(Z:V)(g:aC.g Y X Z):den prog E (aS r [W,W,W,W,W,W,W,W,W]) (aZ E [.tmp 4] Y) X Z:=
 cX g fun a b g=>cX g fun c d g=>bM g fun e f g=>cX g fun h i g=>a8 g fun j l m n g=>a8 g fun t v D G g=>a8 g fun H P K5 K6 g=>a8 g fun K7 K8 K9 La g=>cX g fun Lb Lc g=>cX g fun Ld Le g=>bM g fun Lf Lg g=>cX g fun Lh Li g=>cX g fun Lj Lk g=>cT 2 (s:=(aS r [W,W,W,W,W,W,W,W,W,W,W])) (by kernel_rfl) (a7.ok Y) (bO [(2,.pointer (some a)),(5,.pointer (some c)),(6,.int .i64 e),(7,.pointer (some h)),(9,.slice j l m),(10,.slice t v D),(11,.slice H P K5),(12,.slice K7 K8 K9),(13,.pointer (some Lb)),(14,.pointer (some Ld)),(15,.int .i64 Lf),(16,.pointer (some Lh)),(18,.pointer (some Lj))] ⟨b,d,f,i,n,G,K6,La,Lc,Le,Lg,Li,Lk,trivial⟩ (by kernel_rfl) g)
def F.t(Y:K)(a:Int)(b:Bool)(c:U)(d e:Nat)(f:Bool)(g:U)(h i:Nat)(j l:Int)(m:Bool)(n:U)(v D:Nat)(E:Bool)(G:U)(H P:Nat)(K5:Int)(Z:V):Prop:=
 b4 Z 29 [.int .i64 a,.bool b,.slice c d e,.bool f,.slice g h i,.int .i64 j] fun a b=>
 b4 b 29 [.int .i64 l,.bool m,.slice n v D,.bool E,.slice G H P,.int .i64 K5] fun D E=>
 cI E .i64 (a.add 0) fun G=>
 bB E (a.add 1) fun H=>
 a6 E (a.add 2) fun P b c=>
 bB E (a.add 3) fun d=>
 a6 E (a.add 4) fun e f g=>
 cI E .i64 (a.add 5) fun h=>
 aF oW.id #[.agg #[.int .i64 G,.bool H,.slice P b c,.bool d,.slice e f g,.int .i64 h]] E fun E G=>
 c0 E fun E=>
 bR E fun E H=>
 bU E fun E=>
 cF E fun E P=>
 b6 P fun P b c d=>
 bC d <| dG H .i64 fun H d=>
 bC d <| b4 G 25 fL.aK fun G d=>
 aW d (G.add 0) (.bool E) fun E=>
 aW E (G.add 1) (.slice P b c) fun E=>
 cI E .i64 (D.add 0) fun P=>
 bB E (D.add 1) fun b=>
 a6 E (D.add 2) fun c d e=>
 bB E (D.add 3) fun f=>
 a6 E (D.add 4) fun g h i=>
 cI E .i64 (D.add 5) fun j=>
 aF oW.id #[.agg #[.int .i64 P,.bool b,.slice c d e,.bool f,.slice g h i,.int .i64 j]] E fun E P=>
 c0 E fun E=>
 bR E fun E b=>
 bU E fun E=>
 cF E fun E c=>
 b6 c fun c d e f=>
 bC f <| dG b .i64 fun b b=>
 bC b <| b4 P 25 fL.aK fun P b=>
 aW b (P.add 0) (.bool E) fun E=>
 aW E (P.add 1) (.slice c d e) fun E=>
 a6 E ((a.add 1).add 1) fun b c d=>
 aF lQ.id #[.slice b c d] E fun E b=>
 c0 E fun E=>
 b6 E fun E c d e=>
 b6 e fun e f g h=>
 bC h <| a6 b ((a.add 3).add 1) fun h i j=>
 aF lQ.id #[.slice h i j] b fun b h=>
 c0 b fun b=>
 b6 b fun b i j l=>
 b6 l fun l m n v=>
 bC v <| cI h .i64 (a.add 0) fun v=>
 bB h ((a.add 1).add 0) fun K5=>
 bB h ((a.add 3).add 0) fun K6=>
 cI h .i64 (a.add 5) fun K7=>
 b4 h 29 o0.aK fun h K8=>
 aW K8 (h.add 0) (.int .i64 v) fun v=>
 aW v (h.add 1) (.bool K5) fun v=>
 aW v (h.add 2) (.slice E c d) fun v=>
 aW v (h.add 3) (.bool K6) fun v=>
 aW v (h.add 4) (.slice b i j) fun v=>
 aW v (h.add 5) (.int .i64 K7) fun v=>
 cI v .i64 (h.add 0) fun K5=>
 bB v (h.add 1) fun K6=>
 a6 v (h.add 2) fun K7 K8 K9=>
 bB v (h.add 3) fun La=>
 a6 v (h.add 4) fun Lb Lc Ld=>
 cI v .i64 (h.add 5) fun Le=>
 aF iA.id #[.agg #[.int .i64 K5,.bool K6,.slice K7 K8 K9,.bool La,.slice Lb Lc Ld,.int .i64 Le]] v fun v K5=>
 c0 v fun v=>
 bR v fun v K6=>
 bU v fun v=>
 cF v fun v K7=>
 b6 K7 fun K7 K8 K9 La=>
 bC La <| dG K6 .i64 fun K6 La=>
 bC La <| b4 K5 25 fL.aK fun K5 La=>
 aW La (K5.add 0) (.bool v) fun v=>
 aW v (K5.add 1) (.slice K7 K8 K9) fun v=>
 cI v .i64 (h.add 0) fun K7=>
 bB v (h.add 1) fun K8=>
 a6 v (h.add 2) fun K9 La Lb=>
 bB v (h.add 3) fun Lc=>
 a6 v (h.add 4) fun Ld Le Lf=>
 cI v .i64 (h.add 5) fun Lg=>
 aF iA.id #[.agg #[.int .i64 K7,.bool K8,.slice K9 La Lb,.bool Lc,.slice Ld Le Lf,.int .i64 Lg]] v fun v K7=>
 c0 v fun v=>
 bR v fun v K8=>
 bU v fun v=>
 cF v fun v K9=>
 b6 K9 fun K9 La Lb Lc=>
 bC Lc <| dG K8 .i64 fun K8 K8=>
 bC K8 <| b4 K7 25 fL.aK fun K7 K8=>
 aW K8 (K7.add 0) (.bool v) fun v=>
 aW v (K7.add 1) (.slice K9 La Lb) fun v=>
 (D.add 0).block < v.size∧cI v .i64 (D.add 0) fun K8=>
 (D.add 1).block < v.size∧bB v ((D.add 1).add 0) fun K9=>
 a6 v ((D.add 1).add 1) fun La Lb Lc=>
 (D.add 3).block < v.size∧bB v ((D.add 3).add 0) fun Ld=>
 a6 v ((D.add 3).add 1) fun Le Lf Lg=>
 (D.add 5).block < v.size∧cI v .i64 (D.add 5) fun D=>
 (aF hC.id #[.agg #[.bool K9,.slice La Lb Lc]] v fun Lh Li=>
 bU Lh fun Lh=>
 cF Lh fun Lh Lj=>
 b6 Lj fun Lj Lk Ll Lm=>
 bC Lm <| (cG v.size v Li)∧(aF hC.id #[.agg #[.bool Ld,.slice Le Lf Lg]] Li fun Lm Ln=>
 bU Lm fun Lm=>
 cF Lm fun Lm Lo=>
 b6 Lo fun Lo Lp Lq Lr=>
 bC Lr <| (cG v.size Li Ln)∧(aF iA.id #[.agg #[.int .i64 K8,.bool Lh,.slice Lj Lk Ll,.bool Lm,.slice Lo Lp Lq,.int .i64 D]] Ln fun Lr Ls=>
 c0 Lr fun Lr=>
 bR Lr fun Lr Lt=>
 bU Lr fun Lr=>
 cF Lr fun Lr Lu=>
 b6 Lu fun Lu Lv Lw Lx=>
 bC Lx <| dG Lt .i64 fun Lt Lt=>
 bC Lt <| (cG v.size Ln Ls)∧b4 Ls 25 fL.aK fun Lt Lx=>
 (cG v.size Ls Lx)∧aW Lx (Lt.add 0) (.bool Lr) fun Lr=>
 aW Lr (Lt.add 1) (.slice Lu Lv Lw) fun Lr=>
 aC.t Y a G H P E c d e f g b i j l m n h K5 K6 K7 Lt Lr)∧(b4 Ln 25 fL.aK fun Lr Ls=>
 (cG v.size Ln Ls)∧aF iA.id #[.agg #[.int .i64 K8,.bool Lh,.slice Lj Lk Ll,.bool Lm,.slice Lo Lp Lq,.int .i64 D]] Ls fun Lm Ln=>
 c0 Lm fun Lm=>
 bR Lm fun Lm Lo=>
 bU Lm fun Lm=>
 cF Lm fun Lm Lp=>
 b6 Lp fun Lp Lq Lt Lu=>
 bC Lu <| dG Lo .i64 fun Lo Lo=>
 bC Lo <| (cG v.size Ls Ln)∧aW Ln (Lr.add 0) (.bool Lm) fun Lm=>
 aW Lm (Lr.add 1) (.slice Lp Lq Lt) fun Lm=>
 aC.t Y a G H P E c d e f g b i j l m n h K5 K6 K7 Lr Lm))∧(b4 Li 25 fL.aK fun Lm Ln=>
 (cG v.size Li Ln)∧aF hC.id #[.agg #[.bool Ld,.slice Le Lf Lg]] Ln fun Li Lo=>
 bU Li fun Li=>
 cF Li fun Li Lp=>
 b6 Lp fun Lp Lq Lr Ls=>
 bC Ls <| (cG v.size Ln Lo)∧aF iA.id #[.agg #[.int .i64 K8,.bool Lh,.slice Lj Lk Ll,.bool Li,.slice Lp Lq Lr,.int .i64 D]] Lo fun Lh Li=>
 c0 Lh fun Lh=>
 bR Lh fun Lh Lj=>
 bU Lh fun Lh=>
 cF Lh fun Lh Lk=>
 b6 Lk fun Lk Ll Ln Lp=>
 bC Lp <| dG Lj .i64 fun Lj Lj=>
 bC Lj <| (cG v.size Lo Li)∧aW Li (Lm.add 0) (.bool Lh) fun Lh=>
 aW Lh (Lm.add 1) (.slice Lk Ll Ln) fun Lh=>
 aC.t Y a G H P E c d e f g b i j l m n h K5 K6 K7 Lm Lh))∧(b4 v 25 fL.aK fun Lh Li=>
 (cG v.size v Li)∧aF hC.id #[.agg #[.bool K9,.slice La Lb Lc]] Li fun K9 La=>
 bU K9 fun K9=>
 cF K9 fun K9 Lb=>
 b6 Lb fun Lb Lc Lj Lk=>
 bC Lk <| (cG v.size Li La)∧aF hC.id #[.agg #[.bool Ld,.slice Le Lf Lg]] La fun Ld Le=>
 bU Ld fun Ld=>
 cF Ld fun Ld Lf=>
 b6 Lf fun Lf Lg Li Lk=>
 bC Lk <| (cG v.size La Le)∧aF iA.id #[.agg #[.int .i64 K8,.bool K9,.slice Lb Lc Lj,.bool Ld,.slice Lf Lg Li,.int .i64 D]] Le fun D K8=>
 c0 D fun D=>
 bR D fun D K9=>
 bU D fun D=>
 cF D fun D La=>
 b6 La fun La Lb Lc Ld=>
 bC Ld <| dG K9 .i64 fun K9 K9=>
 bC K9 <| (cG v.size Le K8)∧aW K8 (Lh.add 0) (.bool D) fun D=>
 aW D (Lh.add 1) (.slice La Lb Lc) fun D=>
 aC.t Y a G H P E c d e f g b i j l m n h K5 K6 K7 Lh D)
def F.g(Y:K)(X:Fr)(Z:V):Prop:=bU (X 0) fun a=>bR a fun a b=>aV .i64 a fun a=>bR b fun b c=>b9 b fun b=>bR c fun c d=>aG c fun c e f=>bR d fun d h=>b9 d fun d=>bR h fun h i=>aG h fun h j l=>bR i fun i m=>aV .i64 i fun i=>bC m <| bU (X 1) fun dV=>bR dV fun m n=>aV .i64 m fun m=>bR n fun n v=>b9 n fun n=>bR v fun v D=>aG v fun v E G=>bR D fun D H=>b9 D fun D=>bR H fun H P=>aG H fun H K5 K6=>bR P fun P K7=>aV .i64 P fun P=>bC K7 <| F.t Y a b c e f d h j l i m n v E G D H K5 K6 P Z
theorem F.ok(Y:K)(X:Fr)(Z:V)(g:F.g Y X Z):den prog E r (aZ E [.tmp 4] Y) X Z:=by
 obtain⟨Lz,a,b⟩:=eH g
 obtain⟨LA,LB,rfl,c⟩:=cH b
 obtain⟨d,rfl,e⟩:=bS c
 obtain⟨LC,LD,rfl,f⟩:=cH e
 obtain⟨h,rfl,i⟩:=dY f
 obtain⟨LF,LG,rfl,j⟩:=cH i
 obtain⟨l,m,n,rfl,t⟩:=bQ j
 obtain⟨LH,LI,rfl,v⟩:=cH t
 obtain⟨D,rfl,G⟩:=dY v
 obtain⟨LJ,LK,rfl,H⟩:=cH G
 obtain⟨P,K5,K6,rfl,K7⟩:=bQ H
 obtain⟨LL,LM,rfl,K8⟩:=cH K7
 obtain⟨K9,rfl,La⟩:=bS K8
 obtain⟨rfl,g⟩:=eD La
 obtain⟨dV,Lb,Lc⟩:=eH g
 obtain⟨LN,LO,rfl,Ld⟩:=cH Lc
 obtain⟨Le,rfl,Lf⟩:=bS Ld
 obtain⟨LP,LQ,rfl,Lg⟩:=cH Lf
 obtain⟨Lh,rfl,Li⟩:=dY Lg
 obtain⟨LR,LS,rfl,Lj⟩:=cH Li
 obtain⟨Lk,Ll,Lm,rfl,Ln⟩:=bQ Lj
 obtain⟨LU,LV,rfl,Lo⟩:=cH Ln
 obtain⟨Lp,rfl,Lq⟩:=dY Lo
 obtain⟨LW,LX,rfl,Lr⟩:=cH Lq
 obtain⟨Ls,Lt,Lu,rfl,Lv⟩:=bQ Lr
 obtain⟨LY,LZ,rfl,Lw⟩:=cH Lv
 obtain⟨Lx,rfl,Ly⟩:=bS Lw
 obtain⟨rfl,g⟩:=eD Ly
 exact cT 9 (s:=(aS r [W,W,W,W,W,W,W,W,W])) (by kernel_rfl) (aC.ok Y) (bO [(0,.agg #[.int .i64 d,.bool h,.slice l m n,.bool D,.slice P K5 K6,.int .i64 K9]),(1,.agg #[.int .i64 Le,.bool Lh,.slice Lk Ll Lm,.bool Lp,.slice Ls Lt Lu,.int .i64 Lx])] ⟨a,Lb,trivial⟩ (by kernel_rfl) g)
def t(a:Int)(b:Bool)(c:U)(d e:Nat)(f:Bool)(g:U)(h i:Nat)(j l:Int)(m:Bool)(n:U)(v D:Nat)(E:Bool)(G:U)(H P:Nat)(K5:Int)(Z:V)(Y:K):Prop:=F.t Y a b c d e f g h i j l m n v D E G H P K5 Z
theorem ok{a:Int}{b:Bool}{c:U}{d:Nat}{e:Nat}{f:Bool}{h:U}{i:Nat}{j:Nat}{l:Int}{m:Int}{n:Bool}{v:U}{D:Nat}{E:Nat}{G:Bool}{H:U}{P:Nat}{K5:Nat}{K6:Int}{Z:V}{Y:K}(g:t a b c d e f h i j l m n v D E G H P K5 K6 Z Y):aF id #[.agg #[.int .i64 a,.bool b,.slice c d e,.bool f,.slice h i j,.int .i64 l],.agg #[.int .i64 m,.bool n,.slice v D E,.bool G,.slice H P K5,.int .i64 K6]] Z Y:=
 c7 c8 (L:=r) (cY:=[.tmp 4]) Tryz.func6 (by kernel_rfl) (by kernel_rfl) (by kernel_rfl) (args:=[.agg #[.int .i64 a,.bool b,.slice c d e,.bool f,.slice h i j,.int .i64 l],.agg #[.int .i64 m,.bool n,.slice v D E,.bool G,.slice H P K5,.int .i64 K6]]) (by kernel_rfl) (F.ok Y _ Z (bZ rfl (aM (bI rfl (aM (aO rfl (aM (k rfl (aM (aO rfl (aM (k rfl (aM (bI rfl (bP (bZ rfl (aM (bI rfl (aM (aO rfl (aM (k rfl (aM (aO rfl (aM (k rfl (aM (bI rfl (bP (g))))))))))))))))))))))))))))))
end gU
namespace hD
noncomputable def r:Code:=c6 Tryz.f7
def a7.t(Y:K)(a:U)(cM b:Nat)(c:U)(d e:Nat)(f g h:Addr)(Z:V):Prop:=
 cI Z .i64 (h.add 0) fun i=>
 bB Z (h.add 1) fun j=>
 a6 Z (h.add 2) fun l m n=>
 bB Z (h.add 3) fun v=>
 a6 Z (h.add 4) fun D E G=>
 cI Z .i64 (h.add 5) fun H=>
 bB Z (f.add 0) fun P=>
 a6 Z (f.add 1) fun f K5 K6=>
 bB Z (g.add 0) fun K7=>
 a6 Z (g.add 1) fun g K8 K9=>
 aF pR.id #[.agg #[.int .i64 i,.bool j,.slice l m n,.bool v,.slice D E G,.int .i64 H],.agg #[.bool P,.slice f K5 K6],.agg #[.bool K7,.slice g K8 K9]] Z fun D E=>
 b9 D fun D=>
 cond D (a6 E ((h.add 1).add 1) fun D G H=>
 j8 kT.id #[.slice a cM b,.slice D G H] E fun D=>
 b9 D fun D=>
 cond D (a6 E ((h.add 3).add 1) fun D G H=>
 j8 kT.id #[.slice c d e,.slice D G H] E fun D=>
 b9 D fun D=>
 Y (.bool D) E) (Y (.bool false) E)) (Y (.bool false) E)
def a7.g(Y:K)(X:Fr)(Z:V):Prop:=aG (X 4) fun a cM b=>aG (X 6) fun c d e=>cJ (X 7) fun f=>cJ (X 8) fun h=>cJ (X 11) fun i=>a7.t Y a cM b c d e f h i Z
theorem a7.ok(Y:K)(X:Fr)(Z:V)(g:a7.g Y X Z):den prog E (aS r [W,W,W,W,W,W,W,W]) (aZ E [.tmp 2] Y) X Z:=
 a8 g fun a cM b c g=>a8 g fun d e f h g=>cX g fun i j g=>cX g fun l m g=>cX g fun n t g=>bO [(4,.slice a cM b),(6,.slice d e f),(7,.pointer (some i)),(8,.pointer (some l)),(11,.pointer (some n))] ⟨c,h,j,m,t,trivial⟩ (by kernel_rfl) g
def aC.t(Y:K)(a:Addr)(b:U)(cM c:Nat)(d:U)(e f:Nat)(g h:Addr)(Z:V):Prop:=
 (a.add 0).block < Z.size∧cI Z .i64 (a.add 0) fun i=>
 g.block < Z.size∧bB Z (g.add 0) fun j=>
 a6 Z (g.add 1) fun l m n=>
 h.block < Z.size∧bB Z (h.add 0) fun v=>
 a6 Z (h.add 1) fun D E G=>
 (a.add 5).block < Z.size∧cI Z .i64 (a.add 5) fun a=>
 (aF hC.id #[.agg #[.bool j,.slice l m n]] Z fun H P=>
 bU H fun H=>
 cF H fun H K5=>
 b6 K5 fun K5 K6 K7 K8=>
 bC K8 <| (cG Z.size Z P)∧(aF hC.id #[.agg #[.bool v,.slice D E G]] P fun K8 K9=>
 bU K8 fun K8=>
 cF K8 fun K8 La=>
 b6 La fun La Lb Lc Ld=>
 bC Ld <| (cG Z.size P K9)∧b4 K9 29 o0.aK fun Ld Le=>
 (cG Z.size K9 Le)∧aW Le (Ld.add 0) (.int .i64 i) fun K9=>
 aW K9 (Ld.add 1) (.bool H) fun K9=>
 aW K9 (Ld.add 2) (.slice K5 K6 K7) fun K9=>
 aW K9 (Ld.add 3) (.bool K8) fun K8=>
 aW K8 (Ld.add 4) (.slice La Lb Lc) fun K8=>
 aW K8 (Ld.add 5) (.int .i64 a) fun K8=>
 a7.t Y b cM c d e f g h Ld K8)∧(b4 P 29 o0.aK fun K8 K9=>
 (cG Z.size P K9)∧aF hC.id #[.agg #[.bool v,.slice D E G]] K9 fun P La=>
 bU P fun P=>
 cF P fun P Lb=>
 b6 Lb fun Lb Lc Ld Le=>
 bC Le <| (cG Z.size K9 La)∧aW La (K8.add 0) (.int .i64 i) fun K9=>
 aW K9 (K8.add 1) (.bool H) fun H=>
 aW H (K8.add 2) (.slice K5 K6 K7) fun H=>
 aW H (K8.add 3) (.bool P) fun H=>
 aW H (K8.add 4) (.slice Lb Lc Ld) fun H=>
 aW H (K8.add 5) (.int .i64 a) fun H=>
 a7.t Y b cM c d e f g h K8 H))∧(b4 Z 29 o0.aK fun H P=>
 (cG Z.size Z P)∧aF hC.id #[.agg #[.bool j,.slice l m n]] P fun j l=>
 bU j fun j=>
 cF j fun j m=>
 b6 m fun m n K5 K6=>
 bC K6 <| (cG Z.size P l)∧aF hC.id #[.agg #[.bool v,.slice D E G]] l fun D E=>
 bU D fun D=>
 cF D fun D G=>
 b6 G fun G P v K6=>
 bC K6 <| (cG Z.size l E)∧aW E (H.add 0) (.int .i64 i) fun E=>
 aW E (H.add 1) (.bool j) fun E=>
 aW E (H.add 2) (.slice m n K5) fun E=>
 aW E (H.add 3) (.bool D) fun D=>
 aW D (H.add 4) (.slice G P v) fun D=>
 aW D (H.add 5) (.int .i64 a) fun D=>
 a7.t Y b cM c d e f g h H D)
def aC.g(Y:K)(X:Fr)(Z:V):Prop:=cJ (X 1) fun a=>aG (X 4) fun b cM c=>aG (X 6) fun d e f=>cJ (X 7) fun h=>cJ (X 8) fun i=>aC.t Y a b cM c d e f h i Z
theorem aC.ok(Y:K)(X:Fr)(Z:V)(g:aC.g Y X Z):den prog E (aS r [W,W,W,W,W,W,W]) (aZ E [.tmp 2] Y) X Z:=
 cX g fun a b g=>a8 g fun c cM d e g=>a8 g fun f h i j g=>cX g fun l m g=>cX g fun n t g=>cT 1 (s:=(aS r [W,W,W,W,W,W,W,W])) (by kernel_rfl) (a7.ok Y) (bO [(1,.pointer (some a)),(4,.slice c cM d),(6,.slice f h i),(7,.pointer (some l)),(8,.pointer (some n))] ⟨b,e,j,m,t,trivial⟩ (by kernel_rfl) g)
def dN.g(bN:Addr→U→Nat→Nat→U→Nat→Nat→U→Nat→Nat→Addr→Addr→Int→V→Prop)(X:Fr)(Z:V):Prop:=cJ (X 1) fun a=>aG (X 4) fun b cM c=>aG (X 5) fun d a5 e=>aG (X 6) fun f h i=>cJ (X 7) fun j=>cJ (X 8) fun l=>aV .i64 (X 10) fun m=>bN a b cM c d a5 e f h i j l m Z
def dD.t(Y:K)(a:Addr→U→Nat→Nat→U→Nat→Nat→U→Nat→Nat→Addr→Addr→Int→V→Prop)(b:Addr)(c:U)(cM d:Nat)(e:U)(a5 f:Nat)(g:U)(h i:Nat)(j l:Addr)(m:Int)(Z:V):Prop:=
 cond (decide (m < (((a5:Nat):Int)))) (cL e a5 m 1 fun n=>
 cI Z .u64 n fun n=>
 a2 (uN .u64 n) fun n=>
 (2:Int) ≠ 0∧a2 (IntKind.u64.wrap (Int.tdiv n 2)) fun n=>
 cL e a5 m 1 fun v=>
 aW Z v (.int .u64 n) fun n=>
 a2 (IntKind.i64.wrap (m+1)) fun m=>
 a b c cM d e a5 f g h i j l m n) (aC.t Y b c cM d g h i j l Z)
def dD.g(Y:K)(a:Addr→U→Nat→Nat→U→Nat→Nat→U→Nat→Nat→Addr→Addr→Int→V→Prop)(X:Fr)(Z:V):Prop:=cJ (X 1) fun b=>aG (X 4) fun c cM d=>aG (X 5) fun e a5 f=>aG (X 6) fun h i j=>cJ (X 7) fun l=>cJ (X 8) fun m=>aV .i64 (X 10) fun n=>dD.t Y a b c cM d e a5 f h i j l m n Z
theorem dD.ok(Y:K)(a:Addr→U→Nat→Nat→U→Nat→Nat→U→Nat→Nat→Addr→Addr→Int→V→Prop)(X:Fr)(Z:V)(g:dD.g Y a X Z):den prog E (aS r [W,W,W,W,W,W,x,W,x,x]) (aH.then (dN.g a) (aH.inBlock 4 (aH.then (aC.g Y) (aZ E [.tmp 2] Y)))) X Z:=
 cX g fun a b g=>a8 g fun c cM d e g=>a8 g fun f a5 h i g=>a8 g fun j l m n g=>cX g fun t v g=>cX g fun D G g=>bM g fun H P g=>bO [(1,.pointer (some a)),(4,.slice c cM d),(5,.slice f a5 h),(6,.slice j l m),(7,.pointer (some t)),(8,.pointer (some D)),(10,.int .i64 H)] ⟨b,e,i,n,v,G,P,trivial⟩ (by kernel_rfl) g
def dN.t(Y:K):Nat→Addr→U→Nat→Nat→U→Nat→Nat→U→Nat→Nat→Addr→Addr→Int→V→Prop
 | 0=>fun _ _ _ _ _ _ _ _ _ _ _ _ _ _=>False
 | n+1=>fun a b cM c d a5 e f g h i j l Z=>dD.t Y (dN.t Y n) a b cM c d a5 e f g h i j l Z
theorem dN.ok(Y:K)(X:Fr)(Z:V)(g:dN.g (fun a b cM c d a5 e f h i j l m Z=>∃ n,dN.t Y n a b cM c d a5 e f h i j l m Z) X Z):den prog E (aS r [W,W,W,W,W,W,x,W,x]) (aH.inBlock 4 (aH.then (aC.g Y) (aZ E [.tmp 2] Y))) X Z:=by
 obtain⟨a,v,g⟩:=fO g
 obtain⟨b,cM,c,D,g⟩:=bQ g
 obtain⟨d,a5,e,G,g⟩:=bQ g
 obtain⟨f,h,i,H,g⟩:=bQ g
 obtain⟨j,P,g⟩:=fO g
 obtain⟨l,K5,g⟩:=fO g
 obtain⟨m,K6,g⟩:=bS g
 obtain⟨n,g⟩:=g
 refine e1 (fun n=>dN.g (dN.t Y n)) (N:=(aS r [W,W,W,W,W,W,x,W,x,x])) (by kernel_rfl) (fun X Z g=>?_) (fun n=>dD.ok Y (dN.t Y n)) n X Z (iQ v (k D (k G (k H (iQ P (iQ K5 (bI K6 (g))))))))
 obtain⟨a,v,g⟩:=fO g
 obtain⟨b,cM,c,D,g⟩:=bQ g
 obtain⟨d,a5,e,G,g⟩:=bQ g
 obtain⟨f,h,i,H,g⟩:=bQ g
 obtain⟨j,P,g⟩:=fO g
 obtain⟨l,K5,g⟩:=fO g
 obtain⟨m,K6,g⟩:=bS g
 exact g
theorem uF.ok(Y:K)(X:Fr)(Z:V)(g:dN.g (fun a b cM c d a5 e f h i j l m Z=>∃ n,dN.t Y n a b cM c d a5 e f h i j l m Z) X Z):den prog E (aS r [W,W,W,W,W,W,x,W]) (aH.then (aC.g Y) (aZ E [.tmp 2] Y)) X Z:=
 eR (by kernel_rfl) (dN.ok Y X Z g)
def cA.t(Y:K)(a:Addr)(b:U)(cM c:Nat)(d:U)(a5 e:Nat)(f:U)(g h:Nat)(i j:Addr)(Z:V):Prop:=
 (∃ n,dN.t Y n a b cM c d a5 e f g h i j 0 Z)
def cA.g(Y:K)(X:Fr)(Z:V):Prop:=cJ (X 1) fun a=>aG (X 4) fun b cM c=>aG (X 5) fun d a5 e=>aG (X 6) fun f h i=>cJ (X 7) fun j=>cJ (X 8) fun l=>cA.t Y a b cM c d a5 e f h i j l Z
theorem cA.ok(Y:K)(X:Fr)(Z:V)(g:cA.g Y X Z):den prog E (aS r [W,W,W,W,W,W,x]) (aH.then (aC.g Y) (aZ E [.tmp 2] Y)) X Z:=
 cX g fun a b g=>a8 g fun c cM d e g=>a8 g fun f a5 h i g=>a8 g fun j l m n g=>cX g fun t v g=>cX g fun D G g=>cT 1 (s:=(aS r [W,W,W,W,W,W,x,W])) (by kernel_rfl) (uF.ok Y) (bO [(1,.pointer (some a)),(4,.slice c cM d),(5,.slice f a5 h),(6,.slice j l m),(7,.pointer (some t)),(8,.pointer (some D))] ⟨b,e,i,n,v,G,trivial⟩ (by kernel_rfl) g)
theorem uG.ok(Y:K)(X:Fr)(Z:V)(g:cA.g Y X Z):den prog E (aS r [W,W,W,W,W,W]) (aZ E [.tmp 2] Y) X Z:=
 e5 (by kernel_rfl) (aC.ok Y) (cA.ok Y X Z g)
def hE.g(bN:Addr→U→Nat→Nat→U→Nat→Nat→U→Nat→Nat→U→Nat→Nat→Addr→Addr→Int→V→Prop)(X:Fr)(Z:V):Prop:=cJ (X 1) fun a=>aG (X 3) fun b dB c=>aG (X 4) fun d cM e=>aG (X 5) fun f a5 h=>aG (X 6) fun i j l=>cJ (X 7) fun m=>cJ (X 8) fun n=>aV .i64 (X 9) fun t=>bN a b dB c d cM e f a5 h i j l m n t Z
def lE.t(Y:K)(a:Addr→U→Nat→Nat→U→Nat→Nat→U→Nat→Nat→U→Nat→Nat→Addr→Addr→Int→V→Prop)(b:Addr)(c:U)(dB d:Nat)(e:U)(cM f:Nat)(g:U)(a5 h:Nat)(i:U)(j l:Nat)(m n:Addr)(v:Int)(Z:V):Prop:=
 cond (decide (v < (((dB:Nat):Int)))) (cL c dB v 1 fun D=>
 cI Z .u64 D fun D=>
 a2 (uN .u64 D) fun D=>
 (3:Int) ≠ 0∧a2 (IntKind.u64.wrap (Int.tdiv D 3)) fun D=>
 cL c dB v 1 fun E=>
 aW Z E (.int .u64 D) fun D=>
 a2 (IntKind.i64.wrap (v+1)) fun E=>
 a b c dB d e cM f g a5 h i j l m n E D) (cA.t Y b e cM f g a5 h i j l m n Z)
def lE.g(Y:K)(a:Addr→U→Nat→Nat→U→Nat→Nat→U→Nat→Nat→U→Nat→Nat→Addr→Addr→Int→V→Prop)(X:Fr)(Z:V):Prop:=cJ (X 1) fun b=>aG (X 3) fun c dB d=>aG (X 4) fun e cM f=>aG (X 5) fun h a5 i=>aG (X 6) fun j l m=>cJ (X 7) fun n=>cJ (X 8) fun v=>aV .i64 (X 9) fun D=>lE.t Y a b c dB d e cM f h a5 i j l m n v D Z
theorem lE.ok(Y:K)(a:Addr→U→Nat→Nat→U→Nat→Nat→U→Nat→Nat→U→Nat→Nat→Addr→Addr→Int→V→Prop)(X:Fr)(Z:V)(g:lE.g Y a X Z):den prog E (aS r [W,W,W,W,W,x,W,x,x]) (aH.then (hE.g a) (aH.inBlock 2 (aH.then (cA.g Y) (aZ E [.tmp 2] Y)))) X Z:=
 cX g fun a b g=>a8 g fun c dB d e g=>a8 g fun f cM h i g=>a8 g fun j a5 l m g=>a8 g fun n t v D g=>cX g fun G H g=>cX g fun P K5 g=>bM g fun K6 K7 g=>bO [(1,.pointer (some a)),(3,.slice c dB d),(4,.slice f cM h),(5,.slice j a5 l),(6,.slice n t v),(7,.pointer (some G)),(8,.pointer (some P)),(9,.int .i64 K6)] ⟨b,e,i,m,D,H,K5,K7,trivial⟩ (by kernel_rfl) g
def hE.t(Y:K):Nat→Addr→U→Nat→Nat→U→Nat→Nat→U→Nat→Nat→U→Nat→Nat→Addr→Addr→Int→V→Prop
 | 0=>fun _ _ _ _ _ _ _ _ _ _ _ _ _ _ _ _ _=>False
 | n+1=>fun a b dB c d cM e f a5 g h i j l m v Z=>lE.t Y (hE.t Y n) a b dB c d cM e f a5 g h i j l m v Z
theorem hE.ok(Y:K)(X:Fr)(Z:V)(g:hE.g (fun a b dB c d cM e f a5 h i j l m v D Z=>∃ n,hE.t Y n a b dB c d cM e f a5 h i j l m v D Z) X Z):den prog E (aS r [W,W,W,W,W,x,W,x]) (aH.inBlock 2 (aH.then (cA.g Y) (aZ E [.tmp 2] Y))) X Z:=by
 obtain⟨a,G,g⟩:=fO g
 obtain⟨b,dB,c,H,g⟩:=bQ g
 obtain⟨d,cM,e,P,g⟩:=bQ g
 obtain⟨f,a5,h,K5,g⟩:=bQ g
 obtain⟨i,j,l,K6,g⟩:=bQ g
 obtain⟨m,K7,g⟩:=fO g
 obtain⟨v,K8,g⟩:=fO g
 obtain⟨D,K9,g⟩:=bS g
 obtain⟨n,g⟩:=g
 refine e1 (fun n=>hE.g (hE.t Y n)) (N:=(aS r [W,W,W,W,W,x,W,x,x])) (by kernel_rfl) (fun X Z g=>?_) (fun n=>lE.ok Y (hE.t Y n)) n X Z (iQ G (k H (k P (k K5 (k K6 (iQ K7 (iQ K8 (bI K9 (g)))))))))
 obtain⟨a,G,g⟩:=fO g
 obtain⟨b,dB,c,H,g⟩:=bQ g
 obtain⟨d,cM,e,P,g⟩:=bQ g
 obtain⟨f,a5,h,K5,g⟩:=bQ g
 obtain⟨i,j,l,K6,g⟩:=bQ g
 obtain⟨m,K7,g⟩:=fO g
 obtain⟨v,K8,g⟩:=fO g
 obtain⟨D,K9,g⟩:=bS g
 exact g
theorem pV.ok(Y:K)(X:Fr)(Z:V)(g:hE.g (fun a b dB c d cM e f a5 h i j l m v D Z=>∃ n,hE.t Y n a b dB c d cM e f a5 h i j l m v D Z) X Z):den prog E (aS r [W,W,W,W,W,x,W]) (aH.then (cA.g Y) (aZ E [.tmp 2] Y)) X Z:=
 eR (by kernel_rfl) (hE.ok Y X Z g)
def gJ.t(Y:K)(a:Addr)(b:U)(dB c:Nat)(d:U)(cM e:Nat)(f:U)(a5 g:Nat)(h:U)(i j:Nat)(l m:Addr)(Z:V):Prop:=
 (∃ n,hE.t Y n a b dB c d cM e f a5 g h i j l m 0 Z)
def gJ.g(Y:K)(X:Fr)(Z:V):Prop:=cJ (X 1) fun a=>aG (X 3) fun b dB c=>aG (X 4) fun d cM e=>aG (X 5) fun f a5 h=>aG (X 6) fun i j l=>cJ (X 7) fun m=>cJ (X 8) fun n=>gJ.t Y a b dB c d cM e f a5 h i j l m n Z
theorem gJ.ok(Y:K)(X:Fr)(Z:V)(g:gJ.g Y X Z):den prog E (aS r [W,W,W,W,W,x]) (aH.then (cA.g Y) (aZ E [.tmp 2] Y)) X Z:=
 cX g fun a b g=>a8 g fun c dB d e g=>a8 g fun f cM h i g=>a8 g fun j a5 l m g=>a8 g fun n t v D g=>cX g fun G H g=>cX g fun P K5 g=>cT 1 (s:=(aS r [W,W,W,W,W,x,W])) (by kernel_rfl) (pV.ok Y) (bO [(1,.pointer (some a)),(3,.slice c dB d),(4,.slice f cM h),(5,.slice j a5 l),(6,.slice n t v),(7,.pointer (some G)),(8,.pointer (some P))] ⟨b,e,i,m,D,H,K5,trivial⟩ (by kernel_rfl) g)
theorem rQ.ok(Y:K)(X:Fr)(Z:V)(g:gJ.g Y X Z):den prog E (aS r [W,W,W,W,W]) (aZ E [.tmp 2] Y) X Z:=
 e5 (by kernel_rfl) (uG.ok Y) (gJ.ok Y X Z g)
def mA.g(bN:Addr→U→Nat→Nat→U→Nat→Nat→U→Nat→Nat→U→Nat→Nat→Addr→Addr→Int→V→Prop)(X:Fr)(Z:V):Prop:=cJ (X 1) fun a=>aG (X 3) fun b dB c=>aG (X 4) fun d cM e=>aG (X 5) fun f a5 h=>aG (X 6) fun i j l=>cJ (X 7) fun m=>cJ (X 8) fun n=>aV .i64 (X 36) fun t=>bN a b dB c d cM e f a5 h i j l m n t Z
def hN.t(Y:K)(a:Addr→U→Nat→Nat→U→Nat→Nat→U→Nat→Nat→U→Nat→Nat→Addr→Addr→Int→V→Prop)(b:Addr)(c:U)(dB d:Nat)(e:U)(cM f:Nat)(g:U)(a5 h:Nat)(i:U)(j l:Nat)(m n:Addr)(v:Int)(Z:V):Prop:=
 cond (decide (v < 2)) (cI Z .i64 (b.add 0) fun D=>
 bB Z (b.add 1) fun E=>
 a6 Z (b.add 2) fun G H P=>
 bB Z (b.add 3) fun K5=>
 a6 Z (b.add 4) fun K6 K7 K8=>
 cI Z .i64 (b.add 5) fun K9=>
 bB Z (m.add 0) fun La=>
 a6 Z (m.add 1) fun Lb Lc Ld=>
 bB Z (n.add 0) fun Le=>
 a6 Z (n.add 1) fun Lf Lg Lh=>
 aF pR.id #[.agg #[.int .i64 D,.bool E,.slice G H P,.bool K5,.slice K6 K7 K8,.int .i64 K9],.agg #[.bool La,.slice Lb Lc Ld],.agg #[.bool Le,.slice Lf Lg Lh]] Z fun D E=>
 b9 D fun D=>
 cond (!D) (Y (.bool false) E) (a6 E ((b.add 1).add 1) fun D G H=>
 j8 kT.id #[.slice e cM f,.slice D G H] E fun D=>
 b9 D fun D=>
 cond (!D) (Y (.bool false) E) (a6 E ((b.add 3).add 1) fun D G H=>
 j8 kT.id #[.slice i j l,.slice D G H] E fun D=>
 b9 D fun D=>
 cond (!D) (Y (.bool false) E) (a2 (IntKind.i64.wrap (v+1)) fun D=>
 a b c dB d e cM f g a5 h i j l m n D E)))) (gJ.t Y b c dB d e cM f g a5 h i j l m n Z)
def hN.g(Y:K)(a:Addr→U→Nat→Nat→U→Nat→Nat→U→Nat→Nat→U→Nat→Nat→Addr→Addr→Int→V→Prop)(X:Fr)(Z:V):Prop:=cJ (X 1) fun b=>aG (X 3) fun c dB d=>aG (X 4) fun e cM f=>aG (X 5) fun h a5 i=>aG (X 6) fun j l m=>cJ (X 7) fun n=>cJ (X 8) fun v=>aV .i64 (X 36) fun D=>hN.t Y a b c dB d e cM f h a5 i j l m n v D Z
theorem hN.ok(Y:K)(a:Addr→U→Nat→Nat→U→Nat→Nat→U→Nat→Nat→U→Nat→Nat→Addr→Addr→Int→V→Prop)(X:Fr)(Z:V)(g:hN.g Y a X Z):den prog E (aS r [W,W,W,W,x,W,x,x]) (aH.then (mA.g a) (aH.inBlock 0 (aH.then (gJ.g Y) (aZ E [.tmp 2] Y)))) X Z:=
 cX g fun a b g=>a8 g fun c dB d e g=>a8 g fun f cM h i g=>a8 g fun j a5 l m g=>a8 g fun n t v D g=>cX g fun G H g=>cX g fun P K5 g=>bM g fun K6 K7 g=>bO [(1,.pointer (some a)),(3,.slice c dB d),(4,.slice f cM h),(5,.slice j a5 l),(6,.slice n t v),(7,.pointer (some G)),(8,.pointer (some P)),(36,.int .i64 K6)] ⟨b,e,i,m,D,H,K5,K7,trivial⟩ (by kernel_rfl) g
def mA.t(Y:K):Nat→Addr→U→Nat→Nat→U→Nat→Nat→U→Nat→Nat→U→Nat→Nat→Addr→Addr→Int→V→Prop
 | 0=>fun _ _ _ _ _ _ _ _ _ _ _ _ _ _ _ _ _=>False
 | n+1=>fun a b dB c d cM e f a5 g h i j l m v Z=>hN.t Y (mA.t Y n) a b dB c d cM e f a5 g h i j l m v Z
theorem mA.ok(Y:K)(X:Fr)(Z:V)(g:mA.g (fun a b dB c d cM e f a5 h i j l m v D Z=>∃ n,mA.t Y n a b dB c d cM e f a5 h i j l m v D Z) X Z):den prog E (aS r [W,W,W,W,x,W,x]) (aH.inBlock 0 (aH.then (gJ.g Y) (aZ E [.tmp 2] Y))) X Z:=by
 obtain⟨a,G,g⟩:=fO g
 obtain⟨b,dB,c,H,g⟩:=bQ g
 obtain⟨d,cM,e,P,g⟩:=bQ g
 obtain⟨f,a5,h,K5,g⟩:=bQ g
 obtain⟨i,j,l,K6,g⟩:=bQ g
 obtain⟨m,K7,g⟩:=fO g
 obtain⟨v,K8,g⟩:=fO g
 obtain⟨D,K9,g⟩:=bS g
 obtain⟨n,g⟩:=g
 refine e1 (fun n=>mA.g (mA.t Y n)) (N:=(aS r [W,W,W,W,x,W,x,x])) (by kernel_rfl) (fun X Z g=>?_) (fun n=>hN.ok Y (mA.t Y n)) n X Z (iQ G (k H (k P (k K5 (k K6 (iQ K7 (iQ K8 (bI K9 (g)))))))))
 obtain⟨a,G,g⟩:=fO g
 obtain⟨b,dB,c,H,g⟩:=bQ g
 obtain⟨d,cM,e,P,g⟩:=bQ g
 obtain⟨f,a5,h,K5,g⟩:=bQ g
 obtain⟨i,j,l,K6,g⟩:=bQ g
 obtain⟨m,K7,g⟩:=fO g
 obtain⟨v,K8,g⟩:=fO g
 obtain⟨D,K9,g⟩:=bS g
 exact g
theorem Ky.ok(Y:K)(X:Fr)(Z:V)(g:mA.g (fun a b dB c d cM e f a5 h i j l m v D Z=>∃ n,mA.t Y n a b dB c d cM e f a5 h i j l m v D Z) X Z):den prog E (aS r [W,W,W,W,x,W]) (aH.then (gJ.g Y) (aZ E [.tmp 2] Y)) X Z:=
 eR (by kernel_rfl) (mA.ok Y X Z g)
def nJ.t(Y:K)(a:Addr)(b:U)(dB c:Nat)(d:U)(cM e:Nat)(f:U)(a5 g:Nat)(h:U)(i j:Nat)(l m:Addr)(Z:V):Prop:=
 (∃ n,mA.t Y n a b dB c d cM e f a5 g h i j l m 0 Z)
def nJ.g(Y:K)(X:Fr)(Z:V):Prop:=cJ (X 1) fun a=>aG (X 3) fun b dB c=>aG (X 4) fun d cM e=>aG (X 5) fun f a5 h=>aG (X 6) fun i j l=>cJ (X 7) fun m=>cJ (X 8) fun n=>nJ.t Y a b dB c d cM e f a5 h i j l m n Z
theorem nJ.ok(Y:K)(X:Fr)(Z:V)(g:nJ.g Y X Z):den prog E (aS r [W,W,W,W,x]) (aH.then (gJ.g Y) (aZ E [.tmp 2] Y)) X Z:=
 cX g fun a b g=>a8 g fun c dB d e g=>a8 g fun f cM h i g=>a8 g fun j a5 l m g=>a8 g fun n t v D g=>cX g fun G H g=>cX g fun P K5 g=>cT 1 (s:=(aS r [W,W,W,W,x,W])) (by kernel_rfl) (Ky.ok Y) (bO [(1,.pointer (some a)),(3,.slice c dB d),(4,.slice f cM h),(5,.slice j a5 l),(6,.slice n t v),(7,.pointer (some G)),(8,.pointer (some P))] ⟨b,e,i,m,D,H,K5,trivial⟩ (by kernel_rfl) g)
theorem Kz.ok(Y:K)(X:Fr)(Z:V)(g:nJ.g Y X Z):den prog E (aS r [W,W,W,W]) (aZ E [.tmp 2] Y) X Z:=
 e5 (by kernel_rfl) (rQ.ok Y) (nJ.ok Y X Z g)
def F.t(Y:K)(a:Int)(b:Bool)(c:U)(d e:Nat)(f:Bool)(g:U)(h i:Nat)(j:Int)(Z:V):Prop:=
 b4 Z 29 [.int .i64 a,.bool b,.slice c d e,.bool f,.slice g h i,.int .i64 j] fun a b=>
 a6 b ((a.add 1).add 1) fun c d e=>
 aF lQ.id #[.slice c d e] b fun b c=>
 c0 b fun b=>
 b6 b fun b d e f=>
 b6 f fun f g h i=>
 bC i <| a6 c ((a.add 3).add 1) fun i j l=>
 aF lQ.id #[.slice i j l] c fun c i=>
 c0 c fun c=>
 b6 c fun c j l m=>
 b6 m fun m n v D=>
 bC D <| ((a.add 1).add 0).block < i.size∧bB i ((a.add 1).add 0) fun D=>
 (((a.add 3).add 0).block < i.size∧bB i ((a.add 3).add 0) fun E=>
 (b4 i 25 fL.aK fun G H=>
 (cG i.size i H)∧b4 H 25 fL.aK fun P K5=>
 (cG i.size H K5)∧aW K5 (G.add 0) (.bool D) fun H=>
 aW H (G.add 1) (.slice b d e) fun H=>
 aW H (P.add 0) (.bool E) fun H=>
 aW H (P.add 1) (.slice c j l) fun H=>
 nJ.t Y a b d e f g h c j l m n v G P H)∧(b4 i 25 fL.aK fun G H=>
 (cG i.size i H)∧b4 H 25 fL.aK fun P K5=>
 (cG i.size H K5)∧aW K5 (P.add 0) (.bool D) fun H=>
 aW H (P.add 1) (.slice b d e) fun H=>
 aW H (G.add 0) (.bool E) fun E=>
 aW E (G.add 1) (.slice c j l) fun E=>
 nJ.t Y a b d e f g h c j l m n v P G E))∧(b4 i 25 fL.aK fun E G=>
 (cG i.size i G)∧b4 G 25 fL.aK fun H P=>
 (cG i.size G P)∧(((a.add 3).add 0).block < i.size∧bB P ((a.add 3).add 0) fun G=>
 aW P (E.add 0) (.bool D) fun K5=>
 aW K5 (E.add 1) (.slice b d e) fun K5=>
 aW K5 (H.add 0) (.bool G) fun G=>
 aW G (H.add 1) (.slice c j l) fun G=>
 nJ.t Y a b d e f g h c j l m n v E H G)∧(aW P (E.add 0) (.bool D) fun G=>
 aW G (E.add 1) (.slice b d e) fun G=>
 ((a.add 3).add 0).block < i.size∧bB G ((a.add 3).add 0) fun P=>
 aW G (H.add 0) (.bool P) fun G=>
 aW G (H.add 1) (.slice c j l) fun G=>
 nJ.t Y a b d e f g h c j l m n v E H G))∧(b4 i 25 fL.aK fun E G=>
 (cG i.size i G)∧b4 G 25 fL.aK fun H P=>
 (cG i.size G P)∧(((a.add 3).add 0).block < i.size∧bB P ((a.add 3).add 0) fun G=>
 aW P (H.add 0) (.bool D) fun K5=>
 aW K5 (H.add 1) (.slice b d e) fun K5=>
 aW K5 (E.add 0) (.bool G) fun G=>
 aW G (E.add 1) (.slice c j l) fun G=>
 nJ.t Y a b d e f g h c j l m n v H E G)∧(aW P (H.add 0) (.bool D) fun D=>
 aW D (H.add 1) (.slice b d e) fun D=>
 ((a.add 3).add 0).block < i.size∧bB D ((a.add 3).add 0) fun G=>
 aW D (E.add 0) (.bool G) fun D=>
 aW D (E.add 1) (.slice c j l) fun D=>
 nJ.t Y a b d e f g h c j l m n v H E D))
def F.g(Y:K)(X:Fr)(Z:V):Prop:=bU (X 0) fun a=>bR a fun a b=>aV .i64 a fun a=>bR b fun b c=>b9 b fun b=>bR c fun c d=>aG c fun c e f=>bR d fun d h=>b9 d fun d=>bR h fun h i=>aG h fun h j l=>bR i fun i m=>aV .i64 i fun i=>bC m <| F.t Y a b c e f d h j l i Z
theorem F.ok(Y:K)(X:Fr)(Z:V)(g:F.g Y X Z):den prog E r (aZ E [.tmp 2] Y) X Z:=by
 obtain⟨Lb,a,b⟩:=eH g
 obtain⟨Lc,Ld,rfl,c⟩:=cH b
 obtain⟨d,rfl,e⟩:=bS c
 obtain⟨Le,Lf,rfl,f⟩:=cH e
 obtain⟨h,rfl,i⟩:=dY f
 obtain⟨Lg,Lh,rfl,j⟩:=cH i
 obtain⟨l,m,n,rfl,t⟩:=bQ j
 obtain⟨Li,Lj,rfl,v⟩:=cH t
 obtain⟨D,rfl,G⟩:=dY v
 obtain⟨Lk,Ll,rfl,H⟩:=cH G
 obtain⟨P,K5,K6,rfl,K7⟩:=bQ H
 obtain⟨Lm,Ln,rfl,K8⟩:=cH K7
 obtain⟨K9,rfl,La⟩:=bS K8
 obtain⟨rfl,g⟩:=eD La
 exact cT 4 (s:=(aS r [W,W,W,W])) (by kernel_rfl) (Kz.ok Y) (bO [(0,.agg #[.int .i64 d,.bool h,.slice l m n,.bool D,.slice P K5 K6,.int .i64 K9])] ⟨a,trivial⟩ (by kernel_rfl) g)
def t(a:Int)(b:Bool)(c:U)(d e:Nat)(f:Bool)(g:U)(h i:Nat)(j:Int)(Z:V)(Y:K):Prop:=F.t Y a b c d e f g h i j Z
theorem ok{a:Int}{b:Bool}{c:U}{d:Nat}{e:Nat}{f:Bool}{h:U}{i:Nat}{j:Nat}{l:Int}{Z:V}{Y:K}(g:t a b c d e f h i j l Z Y):aF id #[.agg #[.int .i64 a,.bool b,.slice c d e,.bool f,.slice h i j,.int .i64 l]] Z Y:=
 c7 c8 (L:=r) (cY:=[.tmp 2]) Tryz.func7 (by kernel_rfl) (by kernel_rfl) (by kernel_rfl) (args:=[.agg #[.int .i64 a,.bool b,.slice c d e,.bool f,.slice h i j,.int .i64 l]]) (by kernel_rfl) (F.ok Y _ Z (bZ rfl (aM (bI rfl (aM (aO rfl (aM (k rfl (aM (aO rfl (aM (k rfl (aM (bI rfl (bP (g))))))))))))))))
end hD
namespace nE
noncomputable def r:Code:=c6 Tryz.f8
def F.t(Y:K)(a:Bool)(b:U)(c d:Nat)(Z:V):Prop:=
 b4 Z 37 [.bool a,.slice b c d] fun a b=>
 b4 b 25 fL.aK fun b c=>
 (a.add 0).block < c.size∧bB c (a.add 0) fun d=>
 cond d ((a.add 1).block < c.size∧a6 c (a.add 1) fun d d e=>
 (a.add 1).block < c.size∧a6 c (a.add 1) fun e f g=>
 aF j1.id #[.slice e f g] c fun e f=>
 aG e fun e g h=>
 (cG c.size c f)∧aW f (b.add 0) (.bool (decide ((((d:Nat):Int)) > 0))) fun d=>
 aW d (b.add 1) (.slice e g h) fun d=>
 bB d (b.add 0) fun e=>
 a6 d (b.add 1) fun f g h=>
 Y (.agg #[.bool e,.slice f g h]) d) ((a.add 1).block < c.size∧a6 c (a.add 1) fun a d e=>
 aF j1.id #[.slice a d e] c fun a d=>
 aG a fun a e f=>
 (cG c.size c d)∧aW d (b.add 0) (.bool false) fun c=>
 aW c (b.add 1) (.slice a e f) fun a=>
 bB a (b.add 0) fun c=>
 a6 a (b.add 1) fun b d e=>
 Y (.agg #[.bool c,.slice b d e]) a)
def F.g(Y:K)(X:Fr)(Z:V):Prop:=bU (X 0) fun a=>bR a fun a b=>b9 a fun a=>bR b fun b c=>aG b fun b d e=>bC c <| F.t Y a b d e Z
theorem F.ok(Y:K)(X:Fr)(Z:V)(g:F.g Y X Z):den prog E r (aZ E [.cell 2 25] Y) X Z:=by
 obtain⟨m,a,b⟩:=eH g
 obtain⟨n,t,rfl,c⟩:=cH b
 obtain⟨d,rfl,e⟩:=dY c
 obtain⟨v,D,rfl,f⟩:=cH e
 obtain⟨h,i,j,rfl,l⟩:=bQ f
 obtain⟨rfl,g⟩:=eD l
 exact bO [(0,.agg #[.bool d,.slice h i j])] ⟨a,trivial⟩ (by kernel_rfl) g
def t(a:Bool)(b:U)(c d:Nat)(Z:V)(Y:K):Prop:=F.t Y a b c d Z
theorem ok{a:Bool}{b:U}{c:Nat}{d:Nat}{Z:V}{Y:K}(g:t a b c d Z Y):aF id #[.agg #[.bool a,.slice b c d]] Z Y:=
 c7 c8 (L:=r) (cY:=[.cell 2 25]) Tryz.func8 (by kernel_rfl) (by kernel_rfl) (by kernel_rfl) (args:=[.agg #[.bool a,.slice b c d]]) (by kernel_rfl) (F.ok Y _ Z (bZ rfl (aM (aO rfl (aM (k rfl (bP (g))))))))
end nE
namespace mO
noncomputable def r:Code:=c6 Tryz.f9
def F.t(Y:K)(a3:Int)(Z:V):Prop:=
 b4 Z 37 gB.aK fun a b=>
 cond (decide (a3 < 0)) (a2 (IntKind.i64.wrap (a3+1)) fun c=>
 a2 (IntKind.i64.wrap (0 - c)) fun c=>
 a2 (IntKind.u64.wrap c) fun c=>
 aF jP.id #[.int .u64 c] b fun c d=>
 aG c fun c e f=>
 aF jP.id #[.int .u64 1] d fun d g=>
 aG d fun d h i=>
 aF iE.id #[.slice c e f,.slice d h i] g fun c d=>
 aG c fun c e f=>
 aF fK.id #[.bool true,.slice c e f] d fun c d=>
 bU c fun c=>
 cF c fun c e=>
 b6 e fun e f g h=>
 bC h <| aW d (a.add 0) (.bool c) fun c=>
 aW c (a.add 1) (.slice e f g) fun c=>
 bB c (a.add 0) fun d=>
 a6 c (a.add 1) fun e f g=>
 Y (.agg #[.bool d,.slice e f g]) c) (a2 (IntKind.u64.wrap a3) fun c=>
 aF jP.id #[.int .u64 c] b fun b c=>
 aG b fun b d e=>
 aF fK.id #[.bool false,.slice b d e] c fun b c=>
 bU b fun b=>
 cF b fun b d=>
 b6 d fun d e f g=>
 bC g <| aW c (a.add 0) (.bool b) fun b=>
 aW b (a.add 1) (.slice d e f) fun b=>
 bB b (a.add 0) fun c=>
 a6 b (a.add 1) fun a d e=>
 Y (.agg #[.bool c,.slice a d e]) b)
def F.g(Y:K)(X:Fr)(Z:V):Prop:=aV .i64 (X 0) fun a3=>F.t Y a3 Z
theorem F.ok(Y:K)(X:Fr)(Z:V)(g:F.g Y X Z):den prog E r (aZ E [.cell 2 37] Y) X Z:=
 bM g fun a3 a g=>bO [(0,.int .i64 a3)] ⟨a,trivial⟩ (by kernel_rfl) g
def t(a3:Int)(Z:V)(Y:K):Prop:=F.t Y a3 Z
theorem ok{a3:Int}{Z:V}{Y:K}(g:t a3 Z Y):aF id #[.int .i64 a3] Z Y:=
 c7 c8 (L:=r) (cY:=[.cell 2 37]) Tryz.func9 (by kernel_rfl) (by kernel_rfl) (by kernel_rfl) (args:=[.int .i64 a3]) (by kernel_rfl) (F.ok Y _ Z (bI rfl (g)))
end mO
namespace kQ
noncomputable def r:Code:=c6 Tryz.f10
def a7.t(Y:K)(a b c:Addr)(Z:V):Prop:=
 a6 Z (a.add 1) fun d e f=>
 a6 Z (b.add 1) fun b g h=>
 aF jS.id #[.slice d e f,.slice b g h] Z fun b d=>
 c0 b fun b=>
 b6 b fun b e f g=>
 dG g .i64 fun g h=>
 bC h <| bB d (a.add 0) fun a=>
 aF jF.id #[.bool a,.slice b e f,.int .i64 g] d fun a b=>
 c0 a fun a=>
 bR a fun a d=>
 bU a fun a=>
 cF a fun a e=>
 b6 e fun e f g h=>
 bC h <| dG d .i64 fun d h=>
 bC h <| aW b (c.add 0) (.bool a) fun a=>
 aW a (c.add 1) (.slice e f g) fun a=>
 bB a (c.add 0) fun b=>
 a6 a (c.add 1) fun c e f=>
 Y (.tuple #[.agg #[.bool b,.slice c e f],.int .i64 d]) a
def a7.g(Y:K)(X:Fr)(Z:V):Prop:=cJ (X 2) fun a=>cJ (X 3) fun b=>cJ (X 4) fun c=>a7.t Y a b c Z
theorem a7.ok(Y:K)(X:Fr)(Z:V)(g:a7.g Y X Z):den prog E (aS r [W,W,W,W]) (aZ E [.cell 4 25,.tmp 5] Y) X Z:=
 cX g fun a b g=>cX g fun c d g=>cX g fun e f g=>bO [(2,.pointer (some a)),(3,.pointer (some c)),(4,.pointer (some e))] ⟨b,d,f,trivial⟩ (by kernel_rfl) g
def aC.t(Y:K)(a b c:Addr)(Z:V):Prop:=
 bB Z (a.add 0) fun d=>
 bB Z (b.add 0) fun e=>
 cond (d == e) (a6 Z (a.add 1) fun d e f=>
 a6 Z (b.add 1) fun g h i=>
 aF jR.id #[.slice d e f,.slice g h i] Z fun d e=>
 c0 d fun d=>
 b6 d fun d f g h=>
 dG h .i64 fun h i=>
 bC i <| bB e (a.add 0) fun i=>
 aF jF.id #[.bool i,.slice d f g,.int .i64 h] e fun d e=>
 c0 d fun d=>
 bR d fun d f=>
 bU d fun d=>
 cF d fun d g=>
 b6 g fun g h i j=>
 bC j <| dG f .i64 fun f j=>
 bC j <| aW e (c.add 0) (.bool d) fun d=>
 aW d (c.add 1) (.slice g h i) fun d=>
 bB d (c.add 0) fun e=>
 a6 d (c.add 1) fun g h i=>
 Y (.tuple #[.agg #[.bool e,.slice g h i],.int .i64 f]) d) (a6 Z (a.add 1) fun d e f=>
 a6 Z (b.add 1) fun g h i=>
 aF hL.id #[.slice d e f,.slice g h i] Z fun d e=>
 aV .i64 d fun d=>
 cond (decide (d < 0)) (bB e (b.add 0) fun d=>
 a6 e (b.add 1) fun f g h=>
 bB e (a.add 0) fun i=>
 a6 e (a.add 1) fun j l m=>
 aW e (a.add 0) (.bool d) fun d=>
 aW d (a.add 1) (.slice f g h) fun d=>
 aW d (b.add 0) (.bool i) fun d=>
 aW d (b.add 1) (.slice j l m) fun d=>
 a7.t Y a b c d) (a7.t Y a b c e))
def aC.g(Y:K)(X:Fr)(Z:V):Prop:=cJ (X 2) fun a=>cJ (X 3) fun b=>cJ (X 4) fun c=>aC.t Y a b c Z
theorem aC.ok(Y:K)(X:Fr)(Z:V)(g:aC.g Y X Z):den prog E (aS r [W,W]) (aZ E [.cell 4 25,.tmp 5] Y) X Z:=
 cX g fun a b g=>cX g fun c d g=>cX g fun e f g=>cT 2 (s:=(aS r [W,W,W,W])) (by kernel_rfl) (a7.ok Y) (bO [(2,.pointer (some a)),(3,.pointer (some c)),(4,.pointer (some e))] ⟨b,d,f,trivial⟩ (by kernel_rfl) g)
def F.t(Y:K)(a:Bool)(b:U)(c d:Nat)(aT:Bool)(e:U)(f g:Nat)(Z:V):Prop:=
 b4 Z 25 [.bool a,.slice b c d] fun a b=>
 b4 b 25 [.bool aT,.slice e f g] fun b c=>
 b4 c 25 fL.aK fun c d=>
 bB d (a.add 0) fun e=>
 a6 d (a.add 1) fun f g h=>
 aF eQ.id #[.agg #[.bool e,.slice f g h]] d fun d e=>
 b9 d fun d=>
 cond (!d) (aW e (c.add 0) (.bool false) fun d=>
 aW d (c.add 1) (.slice none 0 0) fun d=>
 bB d (c.add 0) fun f=>
 a6 d (c.add 1) fun g h i=>
 Y (.tuple #[.agg #[.bool f,.slice g h i],.int .i64 2]) d) (bB e (b.add 0) fun d=>
 a6 e (b.add 1) fun f g h=>
 aF eQ.id #[.agg #[.bool d,.slice f g h]] e fun d e=>
 b9 d fun d=>
 cond (!d) (aW e (c.add 0) (.bool false) fun d=>
 aW d (c.add 1) (.slice none 0 0) fun d=>
 bB d (c.add 0) fun f=>
 a6 d (c.add 1) fun g h i=>
 Y (.tuple #[.agg #[.bool f,.slice g h i],.int .i64 2]) d) (aC.t Y a b c e))
def F.g(Y:K)(X:Fr)(Z:V):Prop:=bU (X 0) fun a=>bR a fun a b=>b9 a fun a=>bR b fun b c=>aG b fun b d e=>bC c <| bU (X 1) fun dV=>bR dV fun c f=>b9 c fun aT=>bR f fun c f=>aG c fun c h i=>bC f <| F.t Y a b d e aT c h i Z
theorem F.ok(Y:K)(X:Fr)(Z:V)(g:F.g Y X Z):den prog E r (aZ E [.cell 4 25,.tmp 5] Y) X Z:=by
 obtain⟨K6,a,b⟩:=eH g
 obtain⟨K7,K8,rfl,c⟩:=cH b
 obtain⟨d,rfl,e⟩:=dY c
 obtain⟨K9,La,rfl,f⟩:=cH e
 obtain⟨h,i,j,rfl,l⟩:=bQ f
 obtain⟨rfl,g⟩:=eD l
 obtain⟨dV,m,n⟩:=eH g
 obtain⟨Lb,Lc,rfl,t⟩:=cH n
 obtain⟨aT,rfl,v⟩:=dY t
 obtain⟨Ld,Le,rfl,D⟩:=cH v
 obtain⟨G,H,P,rfl,K5⟩:=bQ D
 obtain⟨rfl,g⟩:=eD K5
 exact cT 2 (s:=(aS r [W,W])) (by kernel_rfl) (aC.ok Y) (bO [(0,.agg #[.bool d,.slice h i j]),(1,.agg #[.bool aT,.slice G H P])] ⟨a,m,trivial⟩ (by kernel_rfl) g)
def t(a:Bool)(b:U)(c d:Nat)(aT:Bool)(e:U)(f g:Nat)(Z:V)(Y:K):Prop:=F.t Y a b c d aT e f g Z
theorem ok{a:Bool}{b:U}{c:Nat}{d:Nat}{aT:Bool}{e:U}{f:Nat}{h:Nat}{Z:V}{Y:K}(g:t a b c d aT e f h Z Y):aF id #[.agg #[.bool a,.slice b c d],.agg #[.bool aT,.slice e f h]] Z Y:=
 c7 c8 (L:=r) (cY:=[.cell 4 25,.tmp 5]) Tryz.func10 (by kernel_rfl) (by kernel_rfl) (by kernel_rfl) (args:=[.agg #[.bool a,.slice b c d],.agg #[.bool aT,.slice e f h]]) (by kernel_rfl) (F.ok Y _ Z (bZ rfl (aM (aO rfl (aM (k rfl (bP (bZ rfl (aM (aO rfl (aM (k rfl (bP (g))))))))))))))
end kQ
namespace kD
noncomputable def r:Code:=c6 Tryz.f11
def F.t(Y:K)(a3:Int)(Z:V):Prop:=
 b4 Z 25 fL.aK fun a b=>
 cond (decide (a3 < 0)) (a2 (IntKind.u64.wrap a3) fun c=>
 a2 (IntKind.u64.wrap (0 - c)) fun c=>
 aF mI.id #[.int .u64 c] b fun c d=>
 aG c fun c e f=>
 aF mL.id #[.bool true,.slice c e f] d fun c d=>
 bU c fun c=>
 cF c fun c e=>
 b6 e fun e f g h=>
 bC h <| aW d (a.add 0) (.bool c) fun c=>
 aW c (a.add 1) (.slice e f g) fun c=>
 bB c (a.add 0) fun d=>
 a6 c (a.add 1) fun e f g=>
 Y (.agg #[.bool d,.slice e f g]) c) (a2 (IntKind.u64.wrap a3) fun c=>
 aF mI.id #[.int .u64 c] b fun b c=>
 aG b fun b d e=>
 aF mL.id #[.bool false,.slice b d e] c fun b c=>
 bU b fun b=>
 cF b fun b d=>
 b6 d fun d e f g=>
 bC g <| aW c (a.add 0) (.bool b) fun b=>
 aW b (a.add 1) (.slice d e f) fun b=>
 bB b (a.add 0) fun c=>
 a6 b (a.add 1) fun a d e=>
 Y (.agg #[.bool c,.slice a d e]) b)
def F.g(Y:K)(X:Fr)(Z:V):Prop:=aV .i64 (X 0) fun a3=>F.t Y a3 Z
theorem F.ok(Y:K)(X:Fr)(Z:V)(g:F.g Y X Z):den prog E r (aZ E [.cell 2 25] Y) X Z:=
 bM g fun a3 a g=>bO [(0,.int .i64 a3)] ⟨a,trivial⟩ (by kernel_rfl) g
def t(a3:Int)(Z:V)(Y:K):Prop:=F.t Y a3 Z
theorem ok{a3:Int}{Z:V}{Y:K}(g:t a3 Z Y):aF id #[.int .i64 a3] Z Y:=
 c7 c8 (L:=r) (cY:=[.cell 2 25]) Tryz.func11 (by kernel_rfl) (by kernel_rfl) (by kernel_rfl) (args:=[.int .i64 a3]) (by kernel_rfl) (F.ok Y _ Z (bI rfl (g)))
end kD
namespace kR
noncomputable def r:Code:=c6 Tryz.f12
def aC.t(Y:K)(a b c:Addr)(Z:V):Prop:=
 a6 Z (a.add 1) fun d e f=>
 a6 Z (b.add 1) fun g h i=>
 aF pJ.id #[.slice d e f,.slice g h i] Z fun d e=>
 c0 d fun d=>
 b6 d fun d f g h=>
 dG h .i64 fun h i=>
 bC i <| bB e (a.add 0) fun a=>
 bB e (b.add 0) fun b=>
 aF jF.id #[.bool (!(a == b)),.slice d f g,.int .i64 h] e fun a b=>
 c0 a fun a=>
 bR a fun a d=>
 bU a fun a=>
 cF a fun a e=>
 b6 e fun e f g h=>
 bC h <| dG d .i64 fun d h=>
 bC h <| aW b (c.add 0) (.bool a) fun a=>
 aW a (c.add 1) (.slice e f g) fun a=>
 bB a (c.add 0) fun b=>
 a6 a (c.add 1) fun c e f=>
 Y (.tuple #[.agg #[.bool b,.slice c e f],.int .i64 d]) a
def aC.g(Y:K)(X:Fr)(Z:V):Prop:=cJ (X 2) fun a=>cJ (X 3) fun b=>cJ (X 4) fun c=>aC.t Y a b c Z
theorem aC.ok(Y:K)(X:Fr)(Z:V)(g:aC.g Y X Z):den prog E (aS r [W,W]) (aZ E [.cell 4 25,.tmp 5] Y) X Z:=
 cX g fun a b g=>cX g fun c d g=>cX g fun e f g=>bO [(2,.pointer (some a)),(3,.pointer (some c)),(4,.pointer (some e))] ⟨b,d,f,trivial⟩ (by kernel_rfl) g
def F.t(Y:K)(a:Bool)(b:U)(c d:Nat)(aT:Bool)(e:U)(f g:Nat)(Z:V):Prop:=
 b4 Z 25 [.bool a,.slice b c d] fun a b=>
 b4 b 25 [.bool aT,.slice e f g] fun b c=>
 b4 c 25 fL.aK fun c d=>
 bB d (a.add 0) fun e=>
 a6 d (a.add 1) fun f g h=>
 aF eQ.id #[.agg #[.bool e,.slice f g h]] d fun d e=>
 b9 d fun d=>
 cond (!d) (aW e (c.add 0) (.bool false) fun d=>
 aW d (c.add 1) (.slice none 0 0) fun d=>
 bB d (c.add 0) fun f=>
 a6 d (c.add 1) fun g h i=>
 Y (.tuple #[.agg #[.bool f,.slice g h i],.int .i64 2]) d) (bB e (b.add 0) fun d=>
 a6 e (b.add 1) fun f g h=>
 aF eQ.id #[.agg #[.bool d,.slice f g h]] e fun d e=>
 b9 d fun d=>
 cond (!d) (aW e (c.add 0) (.bool false) fun d=>
 aW d (c.add 1) (.slice none 0 0) fun d=>
 bB d (c.add 0) fun f=>
 a6 d (c.add 1) fun g h i=>
 Y (.tuple #[.agg #[.bool f,.slice g h i],.int .i64 2]) d) (aC.t Y a b c e))
def F.g(Y:K)(X:Fr)(Z:V):Prop:=bU (X 0) fun a=>bR a fun a b=>b9 a fun a=>bR b fun b c=>aG b fun b d e=>bC c <| bU (X 1) fun dV=>bR dV fun c f=>b9 c fun aT=>bR f fun c f=>aG c fun c h i=>bC f <| F.t Y a b d e aT c h i Z
theorem F.ok(Y:K)(X:Fr)(Z:V)(g:F.g Y X Z):den prog E r (aZ E [.cell 4 25,.tmp 5] Y) X Z:=by
 obtain⟨K6,a,b⟩:=eH g
 obtain⟨K7,K8,rfl,c⟩:=cH b
 obtain⟨d,rfl,e⟩:=dY c
 obtain⟨K9,La,rfl,f⟩:=cH e
 obtain⟨h,i,j,rfl,l⟩:=bQ f
 obtain⟨rfl,g⟩:=eD l
 obtain⟨dV,m,n⟩:=eH g
 obtain⟨Lb,Lc,rfl,t⟩:=cH n
 obtain⟨aT,rfl,v⟩:=dY t
 obtain⟨Ld,Le,rfl,D⟩:=cH v
 obtain⟨G,H,P,rfl,K5⟩:=bQ D
 obtain⟨rfl,g⟩:=eD K5
 exact cT 2 (s:=(aS r [W,W])) (by kernel_rfl) (aC.ok Y) (bO [(0,.agg #[.bool d,.slice h i j]),(1,.agg #[.bool aT,.slice G H P])] ⟨a,m,trivial⟩ (by kernel_rfl) g)
def t(a:Bool)(b:U)(c d:Nat)(aT:Bool)(e:U)(f g:Nat)(Z:V)(Y:K):Prop:=F.t Y a b c d aT e f g Z
theorem ok{a:Bool}{b:U}{c:Nat}{d:Nat}{aT:Bool}{e:U}{f:Nat}{h:Nat}{Z:V}{Y:K}(g:t a b c d aT e f h Z Y):aF id #[.agg #[.bool a,.slice b c d],.agg #[.bool aT,.slice e f h]] Z Y:=
 c7 c8 (L:=r) (cY:=[.cell 4 25,.tmp 5]) Tryz.func12 (by kernel_rfl) (by kernel_rfl) (by kernel_rfl) (args:=[.agg #[.bool a,.slice b c d],.agg #[.bool aT,.slice e f h]]) (by kernel_rfl) (F.ok Y _ Z (bZ rfl (aM (aO rfl (aM (k rfl (bP (bZ rfl (aM (aO rfl (aM (k rfl (bP (g))))))))))))))
end kR
namespace mM
noncomputable def r:Code:=c6 Tryz.f13
def aC.t(Y:K)(a:Addr)(b:Int)(Z:V):Prop:=
 bB Z (a.add 0) fun a=>
 cond a (a2 (IntKind.u64.wrap (0 - b)) fun a=>
 a2 (IntKind.i64.wrap a) fun a=>
 Y (.tuple #[.int .i64 a,.int .i64 0]) Z) (a2 (IntKind.i64.wrap b) fun a=>
 Y (.tuple #[.int .i64 a,.int .i64 0]) Z)
def aC.g(Y:K)(X:Fr)(Z:V):Prop:=cJ (X 1) fun a=>aV .u64 (X 4) fun b=>aC.t Y a b Z
theorem aC.ok(Y:K)(X:Fr)(Z:V)(g:aC.g Y X Z):den prog E (aS r [W,W,W,W,W]) (aZ E [.tmp 2,.tmp 3] Y) X Z:=
 cX g fun a b g=>bM g fun c d g=>bO [(1,.pointer (some a)),(4,.int .u64 c)] ⟨b,d,trivial⟩ (by kernel_rfl) g
def F.t(Y:K)(a:Bool)(b:U)(c d:Nat)(Z:V):Prop:=
 b4 Z 25 [.bool a,.slice b c d] fun a b=>
 bB b (a.add 0) fun c=>
 a6 b (a.add 1) fun d e f=>
 aF eQ.id #[.agg #[.bool c,.slice d e f]] b fun b c=>
 b9 b fun b=>
 cond (!b) (Y (.tuple #[.int .i64 0,.int .i64 2]) c) (a6 c (a.add 1) fun b b d=>
 cond ((((b:Nat):Int)) == 0) (Y (.tuple #[.int .i64 0,.int .i64 0]) c) (a6 c (a.add 1) fun b d e=>
 cL b d 0 1 fun b=>
 cI c .u64 b fun b=>
 a6 c (a.add 1) fun d d e=>
 cond (decide ((((d:Nat):Int)) > 1)) (Y (.tuple #[.int .i64 0,.int .i64 5]) c) (cond (decide (b > 9223372036854775808)) (Y (.tuple #[.int .i64 0,.int .i64 5]) c) (cond (b == 9223372036854775808) (bB c (a.add 0) fun d=>
 cond (!d) (Y (.tuple #[.int .i64 0,.int .i64 5]) c) (aC.t Y a b c)) (aC.t Y a b c)))))
def F.g(Y:K)(X:Fr)(Z:V):Prop:=bU (X 0) fun a=>bR a fun a b=>b9 a fun a=>bR b fun b c=>aG b fun b d e=>bC c <| F.t Y a b d e Z
theorem F.ok(Y:K)(X:Fr)(Z:V)(g:F.g Y X Z):den prog E r (aZ E [.tmp 2,.tmp 3] Y) X Z:=by
 obtain⟨m,a,b⟩:=eH g
 obtain⟨n,t,rfl,c⟩:=cH b
 obtain⟨d,rfl,e⟩:=dY c
 obtain⟨v,D,rfl,f⟩:=cH e
 obtain⟨h,i,j,rfl,l⟩:=bQ f
 obtain⟨rfl,g⟩:=eD l
 exact cT 5 (s:=(aS r [W,W,W,W,W])) (by kernel_rfl) (aC.ok Y) (bO [(0,.agg #[.bool d,.slice h i j])] ⟨a,trivial⟩ (by kernel_rfl) g)
def t(a:Bool)(b:U)(c d:Nat)(Z:V)(Y:K):Prop:=F.t Y a b c d Z
theorem ok{a:Bool}{b:U}{c:Nat}{d:Nat}{Z:V}{Y:K}(g:t a b c d Z Y):aF id #[.agg #[.bool a,.slice b c d]] Z Y:=
 c7 c8 (L:=r) (cY:=[.tmp 2,.tmp 3]) Tryz.func13 (by kernel_rfl) (by kernel_rfl) (by kernel_rfl) (args:=[.agg #[.bool a,.slice b c d]]) (by kernel_rfl) (F.ok Y _ Z (bZ rfl (aM (aO rfl (aM (k rfl (bP (g))))))))
end mM
namespace nB
noncomputable def r:Code:=c6 Tryz.f14
def F.t(Y:K)(a:Bool)(b:U)(c d:Nat)(Z:V):Prop:=
 b4 Z 25 [.bool a,.slice b c d] fun a b=>
 a6 b (a.add 1) fun c d e=>
 aF pE.id #[.slice c d e] b fun b c=>
 aV .i64 b fun b=>
 cond (b == 0) (Y (.int .i64 0) c) (bB c (a.add 0) fun a=>
 cond a (Y (.int .i64 (-1)) c) (Y (.int .i64 1) c))
def F.g(Y:K)(X:Fr)(Z:V):Prop:=bU (X 0) fun a=>bR a fun a b=>b9 a fun a=>bR b fun b c=>aG b fun b d e=>bC c <| F.t Y a b d e Z
theorem F.ok(Y:K)(X:Fr)(Z:V)(g:F.g Y X Z):den prog E r (aZ E [.tmp 2] Y) X Z:=by
 obtain⟨m,a,b⟩:=eH g
 obtain⟨n,t,rfl,c⟩:=cH b
 obtain⟨d,rfl,e⟩:=dY c
 obtain⟨v,D,rfl,f⟩:=cH e
 obtain⟨h,i,j,rfl,l⟩:=bQ f
 obtain⟨rfl,g⟩:=eD l
 exact bO [(0,.agg #[.bool d,.slice h i j])] ⟨a,trivial⟩ (by kernel_rfl) g
def t(a:Bool)(b:U)(c d:Nat)(Z:V)(Y:K):Prop:=F.t Y a b c d Z
theorem ok{a:Bool}{b:U}{c:Nat}{d:Nat}{Z:V}{Y:K}(g:t a b c d Z Y):aF id #[.agg #[.bool a,.slice b c d]] Z Y:=
 c7 c8 (L:=r) (cY:=[.tmp 2]) Tryz.func14 (by kernel_rfl) (by kernel_rfl) (by kernel_rfl) (args:=[.agg #[.bool a,.slice b c d]]) (by kernel_rfl) (F.ok Y _ Z (bZ rfl (aM (aO rfl (aM (k rfl (bP (g))))))))
end nB
namespace eQ
noncomputable def r:Code:=c6 Tryz.f15
def F.t(Y:K)(a:Bool)(b:U)(c d:Nat)(Z:V):Prop:=
 b4 Z 25 [.bool a,.slice b c d] fun a b=>
 a6 b (a.add 1) fun c d e=>
 aF j0.id #[.slice c d e] b fun b c=>
 b9 b fun b=>
 cond b (bB c (a.add 0) fun b=>
 cond b (a6 c (a.add 1) fun a a b=>
 Y (.bool (!((((a:Nat):Int)) == 0))) c) (Y (.bool (!false)) c)) (Y (.bool false) c)
def F.g(Y:K)(X:Fr)(Z:V):Prop:=bU (X 0) fun a=>bR a fun a b=>b9 a fun a=>bR b fun b c=>aG b fun b d e=>bC c <| F.t Y a b d e Z
theorem F.ok(Y:K)(X:Fr)(Z:V)(g:F.g Y X Z):den prog E r (aZ E [.tmp 2] Y) X Z:=by
 obtain⟨m,a,b⟩:=eH g
 obtain⟨n,t,rfl,c⟩:=cH b
 obtain⟨d,rfl,e⟩:=dY c
 obtain⟨v,D,rfl,f⟩:=cH e
 obtain⟨h,i,j,rfl,l⟩:=bQ f
 obtain⟨rfl,g⟩:=eD l
 exact bO [(0,.agg #[.bool d,.slice h i j])] ⟨a,trivial⟩ (by kernel_rfl) g
def t(a:Bool)(b:U)(c d:Nat)(Z:V)(Y:K):Prop:=F.t Y a b c d Z
theorem ok{a:Bool}{b:U}{c:Nat}{d:Nat}{Z:V}{Y:K}(g:t a b c d Z Y):aF id #[.agg #[.bool a,.slice b c d]] Z Y:=
 c7 c8 (L:=r) (cY:=[.tmp 2]) Tryz.func15 (by kernel_rfl) (by kernel_rfl) (by kernel_rfl) (args:=[.agg #[.bool a,.slice b c d]]) (by kernel_rfl) (F.ok Y _ Z (bZ rfl (aM (aO rfl (aM (k rfl (bP (g))))))))
end eQ
namespace oW
noncomputable def r:Code:=c6 Tryz.f16
def F.t(Y:K)(a:Int)(b:Bool)(c:U)(d e:Nat)(f:Bool)(g:U)(h i:Nat)(j:Int)(Z:V):Prop:=
 b4 Z 29 [.int .i64 a,.bool b,.slice c d e,.bool f,.slice g h i,.int .i64 j] fun a b=>
 b4 b 25 fL.aK fun b c=>
 cI c .i64 (a.add 0) fun d=>
 cond (d == 1) (cI c .i64 (a.add 5) fun e=>
 aF kZ.id #[.int .i64 e] c fun e f=>
 bU e fun e=>
 cF e fun e g=>
 b6 g fun g h i j=>
 bC j <| aW f (b.add 0) (.bool e) fun e=>
 aW e (b.add 1) (.slice g h i) fun e=>
 bB e (b.add 0) fun f=>
 a6 e (b.add 1) fun g h i=>
 Y (.tuple #[.agg #[.bool f,.slice g h i],.int .i64 0]) e) (cond (d == 6) (bB c ((a.add 1).add 0) fun e=>
 a6 c ((a.add 1).add 1) fun f g h=>
 aF oT.id #[.agg #[.bool e,.slice f g h]] c fun e f=>
 c0 e fun e=>
 bR e fun e g=>
 bU e fun e=>
 cF e fun e h=>
 b6 h fun h i j l=>
 bC l <| dG g .i64 fun g l=>
 bC l <| aW f (b.add 0) (.bool e) fun e=>
 aW e (b.add 1) (.slice h i j) fun e=>
 bB e (b.add 0) fun f=>
 a6 e (b.add 1) fun h i j=>
 Y (.tuple #[.agg #[.bool f,.slice h i j],.int .i64 g]) e) (cond (d == 7) (cI c .i64 (a.add 0) fun e=>
 a2 (IntKind.i64.wrap (e - 7)) fun e=>
 a2 (IntKind.i64.wrap (e+0)) fun e=>
 bB c ((a.add 1).add 0) fun f=>
 a6 c ((a.add 1).add 1) fun g h i=>
 bB c ((a.add 3).add 0) fun j=>
 a6 c ((a.add 3).add 1) fun l m n=>
 aF h3.id #[.int .i64 e,.agg #[.bool f,.slice g h i],.agg #[.bool j,.slice l m n]] c fun e f=>
 c0 e fun e=>
 bR e fun e g=>
 bU e fun e=>
 cF e fun e h=>
 b6 h fun h i j l=>
 bC l <| dG g .i64 fun g l=>
 bC l <| aW f (b.add 0) (.bool e) fun e=>
 aW e (b.add 1) (.slice h i j) fun e=>
 bB e (b.add 0) fun f=>
 a6 e (b.add 1) fun h i j=>
 Y (.tuple #[.agg #[.bool f,.slice h i j],.int .i64 g]) e) (cond (d == 8) (cI c .i64 (a.add 0) fun e=>
 a2 (IntKind.i64.wrap (e - 7)) fun e=>
 a2 (IntKind.i64.wrap (e+0)) fun e=>
 bB c ((a.add 1).add 0) fun f=>
 a6 c ((a.add 1).add 1) fun g h i=>
 bB c ((a.add 3).add 0) fun j=>
 a6 c ((a.add 3).add 1) fun l m n=>
 aF h3.id #[.int .i64 e,.agg #[.bool f,.slice g h i],.agg #[.bool j,.slice l m n]] c fun e f=>
 c0 e fun e=>
 bR e fun e g=>
 bU e fun e=>
 cF e fun e h=>
 b6 h fun h i j l=>
 bC l <| dG g .i64 fun g l=>
 bC l <| aW f (b.add 0) (.bool e) fun e=>
 aW e (b.add 1) (.slice h i j) fun e=>
 bB e (b.add 0) fun f=>
 a6 e (b.add 1) fun h i j=>
 Y (.tuple #[.agg #[.bool f,.slice h i j],.int .i64 g]) e) (cond (d == 9) (cI c .i64 (a.add 0) fun e=>
 a2 (IntKind.i64.wrap (e - 7)) fun e=>
 a2 (IntKind.i64.wrap (e+0)) fun e=>
 bB c ((a.add 1).add 0) fun f=>
 a6 c ((a.add 1).add 1) fun g h i=>
 bB c ((a.add 3).add 0) fun j=>
 a6 c ((a.add 3).add 1) fun l m n=>
 aF h3.id #[.int .i64 e,.agg #[.bool f,.slice g h i],.agg #[.bool j,.slice l m n]] c fun e f=>
 c0 e fun e=>
 bR e fun e g=>
 bU e fun e=>
 cF e fun e h=>
 b6 h fun h i j l=>
 bC l <| dG g .i64 fun g l=>
 bC l <| aW f (b.add 0) (.bool e) fun e=>
 aW e (b.add 1) (.slice h i j) fun e=>
 bB e (b.add 0) fun f=>
 a6 e (b.add 1) fun h i j=>
 Y (.tuple #[.agg #[.bool f,.slice h i j],.int .i64 g]) e) (cond (d == 10) (cI c .i64 (a.add 0) fun e=>
 a2 (IntKind.i64.wrap (e - 10)) fun e=>
 a2 (IntKind.i64.wrap (e+0)) fun e=>
 bB c ((a.add 1).add 0) fun f=>
 a6 c ((a.add 1).add 1) fun g h i=>
 cI c .i64 (a.add 5) fun j=>
 aF k5.id #[.int .i64 e,.agg #[.bool f,.slice g h i],.int .i64 j] c fun e f=>
 c0 e fun e=>
 bR e fun e g=>
 bU e fun e=>
 cF e fun e h=>
 b6 h fun h i j l=>
 bC l <| dG g .i64 fun g l=>
 bC l <| aW f (b.add 0) (.bool e) fun e=>
 aW e (b.add 1) (.slice h i j) fun e=>
 bB e (b.add 0) fun f=>
 a6 e (b.add 1) fun h i j=>
 Y (.tuple #[.agg #[.bool f,.slice h i j],.int .i64 g]) e) (cond (d == 11) (cI c .i64 (a.add 0) fun e=>
 a2 (IntKind.i64.wrap (e - 10)) fun e=>
 a2 (IntKind.i64.wrap (e+0)) fun e=>
 bB c ((a.add 1).add 0) fun f=>
 a6 c ((a.add 1).add 1) fun g h i=>
 cI c .i64 (a.add 5) fun j=>
 aF k5.id #[.int .i64 e,.agg #[.bool f,.slice g h i],.int .i64 j] c fun e f=>
 c0 e fun e=>
 bR e fun e g=>
 bU e fun e=>
 cF e fun e h=>
 b6 h fun h i j l=>
 bC l <| dG g .i64 fun g l=>
 bC l <| aW f (b.add 0) (.bool e) fun e=>
 aW e (b.add 1) (.slice h i j) fun e=>
 bB e (b.add 0) fun f=>
 a6 e (b.add 1) fun h i j=>
 Y (.tuple #[.agg #[.bool f,.slice h i j],.int .i64 g]) e) (cond (d == 12) (cI c .i64 (a.add 0) fun e=>
 a2 (IntKind.i64.wrap (e - 10)) fun e=>
 a2 (IntKind.i64.wrap (e+0)) fun e=>
 bB c ((a.add 1).add 0) fun f=>
 a6 c ((a.add 1).add 1) fun g h i=>
 cI c .i64 (a.add 5) fun j=>
 aF k5.id #[.int .i64 e,.agg #[.bool f,.slice g h i],.int .i64 j] c fun e f=>
 c0 e fun e=>
 bR e fun e g=>
 bU e fun e=>
 cF e fun e h=>
 b6 h fun h i j l=>
 bC l <| dG g .i64 fun g l=>
 bC l <| aW f (b.add 0) (.bool e) fun e=>
 aW e (b.add 1) (.slice h i j) fun e=>
 bB e (b.add 0) fun f=>
 a6 e (b.add 1) fun h i j=>
 Y (.tuple #[.agg #[.bool f,.slice h i j],.int .i64 g]) e) (cond (d == 13) (cI c .i64 (a.add 0) fun e=>
 a2 (IntKind.i64.wrap (e - 10)) fun e=>
 a2 (IntKind.i64.wrap (e+0)) fun e=>
 bB c ((a.add 1).add 0) fun f=>
 a6 c ((a.add 1).add 1) fun g h i=>
 cI c .i64 (a.add 5) fun j=>
 aF k5.id #[.int .i64 e,.agg #[.bool f,.slice g h i],.int .i64 j] c fun e f=>
 c0 e fun e=>
 bR e fun e g=>
 bU e fun e=>
 cF e fun e h=>
 b6 h fun h i j l=>
 bC l <| dG g .i64 fun g l=>
 bC l <| aW f (b.add 0) (.bool e) fun e=>
 aW e (b.add 1) (.slice h i j) fun e=>
 bB e (b.add 0) fun f=>
 a6 e (b.add 1) fun h i j=>
 Y (.tuple #[.agg #[.bool f,.slice h i j],.int .i64 g]) e) (cond (d == 14) (cI c .i64 (a.add 0) fun e=>
 a2 (IntKind.i64.wrap (e - 14)) fun e=>
 a2 (IntKind.i64.wrap (e+3)) fun e=>
 bB c ((a.add 1).add 0) fun f=>
 a6 c ((a.add 1).add 1) fun g h i=>
 bB c ((a.add 3).add 0) fun j=>
 a6 c ((a.add 3).add 1) fun l m n=>
 aF h3.id #[.int .i64 e,.agg #[.bool f,.slice g h i],.agg #[.bool j,.slice l m n]] c fun e f=>
 c0 e fun e=>
 bR e fun e g=>
 bU e fun e=>
 cF e fun e h=>
 b6 h fun h i j l=>
 bC l <| dG g .i64 fun g l=>
 bC l <| aW f (b.add 0) (.bool e) fun e=>
 aW e (b.add 1) (.slice h i j) fun e=>
 bB e (b.add 0) fun f=>
 a6 e (b.add 1) fun h i j=>
 Y (.tuple #[.agg #[.bool f,.slice h i j],.int .i64 g]) e) (cond (d == 15) (cI c .i64 (a.add 0) fun e=>
 a2 (IntKind.i64.wrap (e - 14)) fun e=>
 a2 (IntKind.i64.wrap (e+3)) fun e=>
 bB c ((a.add 1).add 0) fun f=>
 a6 c ((a.add 1).add 1) fun g h i=>
 bB c ((a.add 3).add 0) fun j=>
 a6 c ((a.add 3).add 1) fun l m n=>
 aF h3.id #[.int .i64 e,.agg #[.bool f,.slice g h i],.agg #[.bool j,.slice l m n]] c fun e f=>
 c0 e fun e=>
 bR e fun e g=>
 bU e fun e=>
 cF e fun e h=>
 b6 h fun h i j l=>
 bC l <| dG g .i64 fun g l=>
 bC l <| aW f (b.add 0) (.bool e) fun e=>
 aW e (b.add 1) (.slice h i j) fun e=>
 bB e (b.add 0) fun f=>
 a6 e (b.add 1) fun h i j=>
 Y (.tuple #[.agg #[.bool f,.slice h i j],.int .i64 g]) e) (cond (d == 16) (cI c .i64 (a.add 0) fun e=>
 a2 (IntKind.i64.wrap (e - 14)) fun e=>
 a2 (IntKind.i64.wrap (e+3)) fun e=>
 bB c ((a.add 1).add 0) fun f=>
 a6 c ((a.add 1).add 1) fun g h i=>
 bB c ((a.add 3).add 0) fun j=>
 a6 c ((a.add 3).add 1) fun l m n=>
 aF h3.id #[.int .i64 e,.agg #[.bool f,.slice g h i],.agg #[.bool j,.slice l m n]] c fun e f=>
 c0 e fun e=>
 bR e fun e g=>
 bU e fun e=>
 cF e fun e h=>
 b6 h fun h i j l=>
 bC l <| dG g .i64 fun g l=>
 bC l <| aW f (b.add 0) (.bool e) fun e=>
 aW e (b.add 1) (.slice h i j) fun e=>
 bB e (b.add 0) fun f=>
 a6 e (b.add 1) fun h i j=>
 Y (.tuple #[.agg #[.bool f,.slice h i j],.int .i64 g]) e) (cond (d == 17) (cI c .i64 (a.add 0) fun d=>
 a2 (IntKind.i64.wrap (d - 14)) fun d=>
 a2 (IntKind.i64.wrap (d+3)) fun d=>
 bB c ((a.add 1).add 0) fun e=>
 a6 c ((a.add 1).add 1) fun f g h=>
 bB c ((a.add 3).add 0) fun i=>
 a6 c ((a.add 3).add 1) fun a j l=>
 aF h3.id #[.int .i64 d,.agg #[.bool e,.slice f g h],.agg #[.bool i,.slice a j l]] c fun a d=>
 c0 a fun a=>
 bR a fun a e=>
 bU a fun a=>
 cF a fun a f=>
 b6 f fun f g h i=>
 bC i <| dG e .i64 fun e i=>
 bC i <| aW d (b.add 0) (.bool a) fun a=>
 aW a (b.add 1) (.slice f g h) fun a=>
 bB a (b.add 0) fun d=>
 a6 a (b.add 1) fun f g h=>
 Y (.tuple #[.agg #[.bool d,.slice f g h],.int .i64 e]) a) (aW c (b.add 0) (.bool false) fun a=>
 aW a (b.add 1) (.slice none 0 0) fun a=>
 bB a (b.add 0) fun c=>
 a6 a (b.add 1) fun b d e=>
 Y (.tuple #[.agg #[.bool c,.slice b d e],.int .i64 0]) a)))))))))))))
def F.g(Y:K)(X:Fr)(Z:V):Prop:=bU (X 0) fun a=>bR a fun a b=>aV .i64 a fun a=>bR b fun b c=>b9 b fun b=>bR c fun c d=>aG c fun c e f=>bR d fun d h=>b9 d fun d=>bR h fun h i=>aG h fun h j l=>bR i fun i m=>aV .i64 i fun i=>bC m <| F.t Y a b c e f d h j l i Z
theorem F.ok(Y:K)(X:Fr)(Z:V)(g:F.g Y X Z):den prog E r (aZ E [.cell 2 25,.tmp 3] Y) X Z:=by
 obtain⟨Lb,a,b⟩:=eH g
 obtain⟨Lc,Ld,rfl,c⟩:=cH b
 obtain⟨d,rfl,e⟩:=bS c
 obtain⟨Le,Lf,rfl,f⟩:=cH e
 obtain⟨h,rfl,i⟩:=dY f
 obtain⟨Lg,Lh,rfl,j⟩:=cH i
 obtain⟨l,m,n,rfl,t⟩:=bQ j
 obtain⟨Li,Lj,rfl,v⟩:=cH t
 obtain⟨D,rfl,G⟩:=dY v
 obtain⟨Lk,Ll,rfl,H⟩:=cH G
 obtain⟨P,K5,K6,rfl,K7⟩:=bQ H
 obtain⟨Lm,Ln,rfl,K8⟩:=cH K7
 obtain⟨K9,rfl,La⟩:=bS K8
 obtain⟨rfl,g⟩:=eD La
 exact bO [(0,.agg #[.int .i64 d,.bool h,.slice l m n,.bool D,.slice P K5 K6,.int .i64 K9])] ⟨a,trivial⟩ (by kernel_rfl) g
def t(a:Int)(b:Bool)(c:U)(d e:Nat)(f:Bool)(g:U)(h i:Nat)(j:Int)(Z:V)(Y:K):Prop:=F.t Y a b c d e f g h i j Z
theorem ok{a:Int}{b:Bool}{c:U}{d:Nat}{e:Nat}{f:Bool}{h:U}{i:Nat}{j:Nat}{l:Int}{Z:V}{Y:K}(g:t a b c d e f h i j l Z Y):aF id #[.agg #[.int .i64 a,.bool b,.slice c d e,.bool f,.slice h i j,.int .i64 l]] Z Y:=
 c7 c8 (L:=r) (cY:=[.cell 2 25,.tmp 3]) Tryz.func16 (by kernel_rfl) (by kernel_rfl) (by kernel_rfl) (args:=[.agg #[.int .i64 a,.bool b,.slice c d e,.bool f,.slice h i j,.int .i64 l]]) (by kernel_rfl) (F.ok Y _ Z (bZ rfl (aM (bI rfl (aM (aO rfl (aM (k rfl (aM (aO rfl (aM (k rfl (aM (bI rfl (bP (g))))))))))))))))
end oW
namespace lQ
noncomputable def r:Code:=c6 Tryz.f17
def aC.t(Y:K)(S:U)(a R:Nat)(b:U)(cM c:Nat)(Z:V):Prop:=
 h7 1 b cM c none (some (.int .i64 (((a:Nat):Int)))) none fun a d e=>
 Y (.tuple #[.slice a d e,.slice b cM c]) Z
def aC.g(Y:K)(X:Fr)(Z:V):Prop:=aG (X 0) fun S a R=>aG (X 4) fun b cM c=>aC.t Y S a R b cM c Z
theorem aC.ok(Y:K)(X:Fr)(Z:V)(g:aC.g Y X Z):den prog E (aS r [W,W,W,W]) (aZ E [.tmp 2,.tmp 3] Y) X Z:=
 a8 g fun S a R b g=>a8 g fun c cM d e g=>bO [(0,.slice S a R),(4,.slice c cM d)] ⟨b,e,trivial⟩ (by kernel_rfl) g
def bG.g(bN:U→Nat→Nat→U→Nat→Nat→Int→V→Prop)(X:Fr)(Z:V):Prop:=aG (X 0) fun S a R=>aG (X 4) fun b cM c=>aV .i64 (X 5) fun d=>bN S a R b cM c d Z
def b0.t(Y:K)(a:U→Nat→Nat→U→Nat→Nat→Int→V→Prop)(S:U)(b R:Nat)(c:U)(cM d:Nat)(e:Int)(Z:V):Prop:=
 cond (decide (e < (((cM:Nat):Int)))) (j8 l2.id #[.int .i64 (-1),.int .i64 e] Z fun f=>
 aV .u64 f fun f=>
 cL c cM e 1 fun g=>
 aW Z g (.int .u64 f) fun f=>
 a2 (IntKind.i64.wrap (e+1)) fun e=>
 a S b R c cM d e f) (aC.t Y S b R c cM d Z)
def b0.g(Y:K)(a:U→Nat→Nat→U→Nat→Nat→Int→V→Prop)(X:Fr)(Z:V):Prop:=aG (X 0) fun S b R=>aG (X 4) fun c cM d=>aV .i64 (X 5) fun e=>b0.t Y a S b R c cM d e Z
theorem b0.ok(Y:K)(a:U→Nat→Nat→U→Nat→Nat→Int→V→Prop)(X:Fr)(Z:V)(g:b0.g Y a X Z):den prog E (aS r [W,W,W,x,W,x,x]) (aH.then (bG.g a) (aH.inBlock 0 (aH.then (aC.g Y) (aZ E [.tmp 2,.tmp 3] Y)))) X Z:=
 a8 g fun S a R b g=>a8 g fun c cM d e g=>bM g fun f h g=>bO [(0,.slice S a R),(4,.slice c cM d),(5,.int .i64 f)] ⟨b,e,h,trivial⟩ (by kernel_rfl) g
def bG.t(Y:K):Nat→U→Nat→Nat→U→Nat→Nat→Int→V→Prop
 | 0=>fun _ _ _ _ _ _ _ _=>False
 | n+1=>fun S a R b cM c d Z=>b0.t Y (bG.t Y n) S a R b cM c d Z
theorem bG.ok(Y:K)(X:Fr)(Z:V)(g:bG.g (fun S a R b cM c d Z=>∃ n,bG.t Y n S a R b cM c d Z) X Z):den prog E (aS r [W,W,W,x,W,x]) (aH.inBlock 0 (aH.then (aC.g Y) (aZ E [.tmp 2,.tmp 3] Y))) X Z:=by
 obtain⟨S,a,R,e,g⟩:=bQ g
 obtain⟨b,cM,c,f,g⟩:=bQ g
 obtain⟨d,h,g⟩:=bS g
 obtain⟨n,g⟩:=g
 refine e1 (fun n=>bG.g (bG.t Y n)) (N:=(aS r [W,W,W,x,W,x,x])) (by kernel_rfl) (fun X Z g=>?_) (fun n=>b0.ok Y (bG.t Y n)) n X Z (k e (k f (bI h (g))))
 obtain⟨S,a,R,e,g⟩:=bQ g
 obtain⟨b,cM,c,f,g⟩:=bQ g
 obtain⟨d,h,g⟩:=bS g
 exact g
theorem eP.ok(Y:K)(X:Fr)(Z:V)(g:bG.g (fun S a R b cM c d Z=>∃ n,bG.t Y n S a R b cM c d Z) X Z):den prog E (aS r [W,W,W,x,W]) (aH.then (aC.g Y) (aZ E [.tmp 2,.tmp 3] Y)) X Z:=
 eR (by kernel_rfl) (bG.ok Y X Z g)
def a7.t(Y:K)(S:U)(a R:Nat)(b:U)(cM c:Nat)(Z:V):Prop:=
 (∃ n,bG.t Y n S a R b cM c (((a:Nat):Int)) Z)
def a7.g(Y:K)(X:Fr)(Z:V):Prop:=aG (X 0) fun S a R=>aG (X 4) fun b cM c=>a7.t Y S a R b cM c Z
theorem a7.ok(Y:K)(X:Fr)(Z:V)(g:a7.g Y X Z):den prog E (aS r [W,W,W,x]) (aH.then (aC.g Y) (aZ E [.tmp 2,.tmp 3] Y)) X Z:=
 a8 g fun S a R b g=>a8 g fun c cM d e g=>cT 1 (s:=(aS r [W,W,W,x,W])) (by kernel_rfl) (eP.ok Y) (bO [(0,.slice S a R),(4,.slice c cM d)] ⟨b,e,trivial⟩ (by kernel_rfl) g)
theorem gV.ok(Y:K)(X:Fr)(Z:V)(g:a7.g Y X Z):den prog E (aS r [W,W,W]) (aZ E [.tmp 2,.tmp 3] Y) X Z:=
 e5 (by kernel_rfl) (aC.ok Y) (a7.ok Y X Z g)
def F.t(Y:K)(S:U)(a R:Nat)(Z:V):Prop:=
 a2 (IntKind.i64.wrap ((((a:Nat):Int))+80)) fun b=>
 h8 Z 27 j9 b b fun c d=>
 mW d 1 (some c) b.toNat (.slice S a R) fun d d=>
 a7.t Y S a R (some c) b.toNat b.toNat d
def F.g(Y:K)(X:Fr)(Z:V):Prop:=aG (X 0) fun S a R=>F.t Y S a R Z
theorem F.ok(Y:K)(X:Fr)(Z:V)(g:F.g Y X Z):den prog E r (aZ E [.tmp 2,.tmp 3] Y) X Z:=
 a8 g fun S a R b g=>cT 3 (s:=(aS r [W,W,W])) (by kernel_rfl) (gV.ok Y) (bO [(0,.slice S a R)] ⟨b,trivial⟩ (by kernel_rfl) g)
def t(S:U)(a R:Nat)(Z:V)(Y:K):Prop:=F.t Y S a R Z
theorem ok{S:U}{a:Nat}{R:Nat}{Z:V}{Y:K}(g:t S a R Z Y):aF id #[.slice S a R] Z Y:=
 c7 c8 (L:=r) (cY:=[.tmp 2,.tmp 3]) Tryz.func17 (by kernel_rfl) (by kernel_rfl) (by kernel_rfl) (args:=[.slice S a R]) (by kernel_rfl) (F.ok Y _ Z (k rfl (g)))
end lQ
namespace iA
noncomputable def r:Code:=c6 Tryz.f18
def aC.t(Y:K)(a b:Addr)(c:Int)(Z:V):Prop:=
 bB Z (b.add 0) fun d=>
 a6 Z (b.add 1) fun b e f=>
 aW Z (a.add 0) (.bool d) fun d=>
 aW d (a.add 1) (.slice b e f) fun b=>
 bB b (a.add 0) fun d=>
 a6 b (a.add 1) fun a e f=>
 Y (.tuple #[.agg #[.bool d,.slice a e f],.int .i64 c]) b
def aC.g(Y:K)(X:Fr)(Z:V):Prop:=cJ (X 2) fun a=>cJ (X 4) fun b=>aV .i64 (X 5) fun c=>aC.t Y a b c Z
theorem aC.ok(Y:K)(X:Fr)(Z:V)(g:aC.g Y X Z):den prog E (aS r [W,W,W,W]) (aZ E [.cell 2 25,.tmp 3] Y) X Z:=
 cX g fun a b g=>cX g fun c d g=>bM g fun e f g=>bO [(2,.pointer (some a)),(4,.pointer (some c)),(5,.int .i64 e)] ⟨b,d,f,trivial⟩ (by kernel_rfl) g
def F.t(Y:K)(a:Int)(b:Bool)(c:U)(d e:Nat)(f:Bool)(g:U)(h i:Nat)(j:Int)(Z:V):Prop:=
 b4 Z 29 [.int .i64 a,.bool b,.slice c d e,.bool f,.slice g h i,.int .i64 j] fun a b=>
 b4 b 25 fL.aK fun b c=>
 b4 c 25 fL.aK fun c d=>
 cI d .i64 (a.add 0) fun e=>
 cond (e == 1) (cI d .i64 (a.add 5) fun f=>
 aF kD.id #[.int .i64 f] d fun f g=>
 bU f fun f=>
 cF f fun f h=>
 b6 h fun h i j l=>
 bC l <| aW g (c.add 0) (.bool f) fun f=>
 aW f (c.add 1) (.slice h i j) fun f=>
 aC.t Y b c 0 f) (cond (e == 6) (bB d ((a.add 1).add 0) fun f=>
 a6 d ((a.add 1).add 1) fun g h i=>
 aF oL.id #[.agg #[.bool f,.slice g h i]] d fun f g=>
 c0 f fun f=>
 bR f fun f h=>
 bU f fun f=>
 cF f fun f i=>
 b6 i fun i j l m=>
 bC m <| dG h .i64 fun h m=>
 bC m <| aW g (c.add 0) (.bool f) fun f=>
 aW f (c.add 1) (.slice i j l) fun f=>
 aC.t Y b c h f) (cond (e == 7) (bB d ((a.add 1).add 0) fun f=>
 a6 d ((a.add 1).add 1) fun g h i=>
 bB d ((a.add 3).add 0) fun j=>
 a6 d ((a.add 3).add 1) fun l m n=>
 aF kQ.id #[.agg #[.bool f,.slice g h i],.agg #[.bool j,.slice l m n]] d fun f g=>
 c0 f fun f=>
 bR f fun f h=>
 bU f fun f=>
 cF f fun f i=>
 b6 i fun i j l m=>
 bC m <| dG h .i64 fun h m=>
 bC m <| aW g (c.add 0) (.bool f) fun f=>
 aW f (c.add 1) (.slice i j l) fun f=>
 aC.t Y b c h f) (cond (e == 8) (bB d ((a.add 1).add 0) fun f=>
 a6 d ((a.add 1).add 1) fun g h i=>
 bB d ((a.add 3).add 0) fun j=>
 a6 d ((a.add 3).add 1) fun l m n=>
 aF n0.id #[.agg #[.bool f,.slice g h i],.agg #[.bool j,.slice l m n]] d fun f g=>
 c0 f fun f=>
 bR f fun f h=>
 bU f fun f=>
 cF f fun f i=>
 b6 i fun i j l m=>
 bC m <| dG h .i64 fun h m=>
 bC m <| aW g (c.add 0) (.bool f) fun f=>
 aW f (c.add 1) (.slice i j l) fun f=>
 aC.t Y b c h f) (cond (e == 9) (bB d ((a.add 1).add 0) fun f=>
 a6 d ((a.add 1).add 1) fun g h i=>
 bB d ((a.add 3).add 0) fun j=>
 a6 d ((a.add 3).add 1) fun l m n=>
 aF kR.id #[.agg #[.bool f,.slice g h i],.agg #[.bool j,.slice l m n]] d fun f g=>
 c0 f fun f=>
 bR f fun f h=>
 bU f fun f=>
 cF f fun f i=>
 b6 i fun i j l m=>
 bC m <| dG h .i64 fun h m=>
 bC m <| aW g (c.add 0) (.bool f) fun f=>
 aW f (c.add 1) (.slice i j l) fun f=>
 aC.t Y b c h f) (cond (e == 10) (bB d ((a.add 1).add 0) fun f=>
 a6 d ((a.add 1).add 1) fun g h i=>
 cI d .i64 (a.add 5) fun j=>
 aF oM.id #[.agg #[.bool f,.slice g h i],.int .i64 j] d fun f g=>
 c0 f fun f=>
 bR f fun f h=>
 bU f fun f=>
 cF f fun f i=>
 b6 i fun i j l m=>
 bC m <| dG h .i64 fun h m=>
 bC m <| aW g (c.add 0) (.bool f) fun f=>
 aW f (c.add 1) (.slice i j l) fun f=>
 aC.t Y b c h f) (cond (e == 11) (bB d ((a.add 1).add 0) fun f=>
 a6 d ((a.add 1).add 1) fun g h i=>
 cI d .i64 (a.add 5) fun j=>
 aF rC.id #[.agg #[.bool f,.slice g h i],.int .i64 j] d fun f g=>
 c0 f fun f=>
 bR f fun f h=>
 bU f fun f=>
 cF f fun f i=>
 b6 i fun i j l m=>
 bC m <| dG h .i64 fun h m=>
 bC m <| aW g (c.add 0) (.bool f) fun f=>
 aW f (c.add 1) (.slice i j l) fun f=>
 aC.t Y b c h f) (cond (e == 12) (bB d ((a.add 1).add 0) fun f=>
 a6 d ((a.add 1).add 1) fun g h i=>
 cI d .i64 (a.add 5) fun j=>
 aF rD.id #[.agg #[.bool f,.slice g h i],.int .i64 j] d fun f g=>
 c0 f fun f=>
 bR f fun f h=>
 bU f fun f=>
 cF f fun f i=>
 b6 i fun i j l m=>
 bC m <| dG h .i64 fun h m=>
 bC m <| aW g (c.add 0) (.bool f) fun f=>
 aW f (c.add 1) (.slice i j l) fun f=>
 aC.t Y b c h f) (cond (e == 13) (bB d ((a.add 1).add 0) fun f=>
 a6 d ((a.add 1).add 1) fun g h i=>
 cI d .i64 (a.add 5) fun j=>
 aF rE.id #[.agg #[.bool f,.slice g h i],.int .i64 j] d fun f g=>
 c0 f fun f=>
 bR f fun f h=>
 bU f fun f=>
 cF f fun f i=>
 b6 i fun i j l m=>
 bC m <| dG h .i64 fun h m=>
 bC m <| aW g (c.add 0) (.bool f) fun f=>
 aW f (c.add 1) (.slice i j l) fun f=>
 aC.t Y b c h f) (cond (e == 14) (bB d ((a.add 1).add 0) fun f=>
 a6 d ((a.add 1).add 1) fun g h i=>
 bB d ((a.add 3).add 0) fun j=>
 a6 d ((a.add 3).add 1) fun l m n=>
 aF rF.id #[.agg #[.bool f,.slice g h i],.agg #[.bool j,.slice l m n]] d fun f g=>
 c0 f fun f=>
 bR f fun f h=>
 bU f fun f=>
 cF f fun f i=>
 b6 i fun i j l m=>
 bC m <| dG h .i64 fun h m=>
 bC m <| aW g (c.add 0) (.bool f) fun f=>
 aW f (c.add 1) (.slice i j l) fun f=>
 aC.t Y b c h f) (cond (e == 15) (bB d ((a.add 1).add 0) fun f=>
 a6 d ((a.add 1).add 1) fun g h i=>
 bB d ((a.add 3).add 0) fun j=>
 a6 d ((a.add 3).add 1) fun l m n=>
 aF rG.id #[.agg #[.bool f,.slice g h i],.agg #[.bool j,.slice l m n]] d fun f g=>
 c0 f fun f=>
 bR f fun f h=>
 bU f fun f=>
 cF f fun f i=>
 b6 i fun i j l m=>
 bC m <| dG h .i64 fun h m=>
 bC m <| aW g (c.add 0) (.bool f) fun f=>
 aW f (c.add 1) (.slice i j l) fun f=>
 aC.t Y b c h f) (cond (e == 16) (bB d ((a.add 1).add 0) fun f=>
 a6 d ((a.add 1).add 1) fun g h i=>
 bB d ((a.add 3).add 0) fun j=>
 a6 d ((a.add 3).add 1) fun l m n=>
 aF rH.id #[.agg #[.bool f,.slice g h i],.agg #[.bool j,.slice l m n]] d fun f g=>
 c0 f fun f=>
 bR f fun f h=>
 bU f fun f=>
 cF f fun f i=>
 b6 i fun i j l m=>
 bC m <| dG h .i64 fun h m=>
 bC m <| aW g (c.add 0) (.bool f) fun f=>
 aW f (c.add 1) (.slice i j l) fun f=>
 aC.t Y b c h f) (cond (e == 17) (bB d ((a.add 1).add 0) fun e=>
 a6 d ((a.add 1).add 1) fun f g h=>
 bB d ((a.add 3).add 0) fun i=>
 a6 d ((a.add 3).add 1) fun a j l=>
 aF mN.id #[.agg #[.bool e,.slice f g h],.agg #[.bool i,.slice a j l]] d fun a e=>
 c0 a fun a=>
 bR a fun a f=>
 bU a fun a=>
 cF a fun a g=>
 b6 g fun g h i j=>
 bC j <| dG f .i64 fun f j=>
 bC j <| aW e (c.add 0) (.bool a) fun a=>
 aW a (c.add 1) (.slice g h i) fun a=>
 aC.t Y b c f a) (aC.t Y b c 0 d)))))))))))))
def F.g(Y:K)(X:Fr)(Z:V):Prop:=bU (X 0) fun a=>bR a fun a b=>aV .i64 a fun a=>bR b fun b c=>b9 b fun b=>bR c fun c d=>aG c fun c e f=>bR d fun d h=>b9 d fun d=>bR h fun h i=>aG h fun h j l=>bR i fun i m=>aV .i64 i fun i=>bC m <| F.t Y a b c e f d h j l i Z
theorem F.ok(Y:K)(X:Fr)(Z:V)(g:F.g Y X Z):den prog E r (aZ E [.cell 2 25,.tmp 3] Y) X Z:=by
 obtain⟨Lb,a,b⟩:=eH g
 obtain⟨Lc,Ld,rfl,c⟩:=cH b
 obtain⟨d,rfl,e⟩:=bS c
 obtain⟨Le,Lf,rfl,f⟩:=cH e
 obtain⟨h,rfl,i⟩:=dY f
 obtain⟨Lg,Lh,rfl,j⟩:=cH i
 obtain⟨l,m,n,rfl,t⟩:=bQ j
 obtain⟨Li,Lj,rfl,v⟩:=cH t
 obtain⟨D,rfl,G⟩:=dY v
 obtain⟨Lk,Ll,rfl,H⟩:=cH G
 obtain⟨P,K5,K6,rfl,K7⟩:=bQ H
 obtain⟨Lm,Ln,rfl,K8⟩:=cH K7
 obtain⟨K9,rfl,La⟩:=bS K8
 obtain⟨rfl,g⟩:=eD La
 exact cT 4 (s:=(aS r [W,W,W,W])) (by kernel_rfl) (aC.ok Y) (bO [(0,.agg #[.int .i64 d,.bool h,.slice l m n,.bool D,.slice P K5 K6,.int .i64 K9])] ⟨a,trivial⟩ (by kernel_rfl) g)
def t(a:Int)(b:Bool)(c:U)(d e:Nat)(f:Bool)(g:U)(h i:Nat)(j:Int)(Z:V)(Y:K):Prop:=F.t Y a b c d e f g h i j Z
theorem ok{a:Int}{b:Bool}{c:U}{d:Nat}{e:Nat}{f:Bool}{h:U}{i:Nat}{j:Nat}{l:Int}{Z:V}{Y:K}(g:t a b c d e f h i j l Z Y):aF id #[.agg #[.int .i64 a,.bool b,.slice c d e,.bool f,.slice h i j,.int .i64 l]] Z Y:=
 c7 c8 (L:=r) (cY:=[.cell 2 25,.tmp 3]) Tryz.func18 (by kernel_rfl) (by kernel_rfl) (by kernel_rfl) (args:=[.agg #[.int .i64 a,.bool b,.slice c d e,.bool f,.slice h i j,.int .i64 l]]) (by kernel_rfl) (F.ok Y _ Z (bZ rfl (aM (bI rfl (aM (aO rfl (aM (k rfl (aM (aO rfl (aM (k rfl (aM (bI rfl (bP (g))))))))))))))))
end iA
namespace hC
noncomputable def r:Code:=c6 Tryz.f19
def F.t(Y:K)(a:Bool)(b:U)(c d:Nat)(Z:V):Prop:=
 b4 Z 25 [.bool a,.slice b c d] fun a b=>
 b4 b 25 fL.aK fun b c=>
 (a.add 0).block < c.size∧bB c (a.add 0) fun d=>
 (a.add 1).block < c.size∧a6 c (a.add 1) fun a e f=>
 aF qE.id #[.slice a e f] c fun a e=>
 aG a fun a f g=>
 (cG c.size c e)∧aW e (b.add 0) (.bool d) fun c=>
 aW c (b.add 1) (.slice a f g) fun a=>
 bB a (b.add 0) fun c=>
 a6 a (b.add 1) fun b d e=>
 Y (.agg #[.bool c,.slice b d e]) a
def F.g(Y:K)(X:Fr)(Z:V):Prop:=bU (X 0) fun a=>bR a fun a b=>b9 a fun a=>bR b fun b c=>aG b fun b d e=>bC c <| F.t Y a b d e Z
theorem F.ok(Y:K)(X:Fr)(Z:V)(g:F.g Y X Z):den prog E r (aZ E [.cell 2 25] Y) X Z:=by
 obtain⟨m,a,b⟩:=eH g
 obtain⟨n,t,rfl,c⟩:=cH b
 obtain⟨d,rfl,e⟩:=dY c
 obtain⟨v,D,rfl,f⟩:=cH e
 obtain⟨h,i,j,rfl,l⟩:=bQ f
 obtain⟨rfl,g⟩:=eD l
 exact bO [(0,.agg #[.bool d,.slice h i j])] ⟨a,trivial⟩ (by kernel_rfl) g
def t(a:Bool)(b:U)(c d:Nat)(Z:V)(Y:K):Prop:=F.t Y a b c d Z
theorem ok{a:Bool}{b:U}{c:Nat}{d:Nat}{Z:V}{Y:K}(g:t a b c d Z Y):aF id #[.agg #[.bool a,.slice b c d]] Z Y:=
 c7 c8 (L:=r) (cY:=[.cell 2 25]) Tryz.func19 (by kernel_rfl) (by kernel_rfl) (by kernel_rfl) (args:=[.agg #[.bool a,.slice b c d]]) (by kernel_rfl) (F.ok Y _ Z (bZ rfl (aM (aO rfl (aM (k rfl (bP (g))))))))
end hC
namespace kT
noncomputable def r:Code:=c6 Tryz.f20
def aC.t(Y:K)(Z:V):Prop:=
 Y (.bool true) Z
def aC.g(Y:K)(X:Fr)(Z:V):Prop:=aC.t Y  Z
theorem aC.ok(Y:K)(X:Fr)(Z:V)(g:aC.g Y X Z):den prog E (aS r [W,W,W]) (aZ E [.tmp 4] Y) X Z:=
 bO [] trivial (by kernel_rfl) g
def bG.g(bN:U→Nat→Nat→U→Nat→Nat→Int→V→Prop)(X:Fr)(Z:V):Prop:=aG (X 0) fun S a R=>aG (X 1) fun b y c=>aV .i64 (X 5) fun d=>bN S a R b y c d Z
def b0.t(Y:K)(a:U→Nat→Nat→U→Nat→Nat→Int→V→Prop)(S:U)(b R:Nat)(c:U)(y d:Nat)(e:Int)(Z:V):Prop:=
 cond (decide (e < (((b:Nat):Int)))) (cond (decide (e < (((y:Nat):Int)))) (cL S b e 1 fun f=>
 cI Z .u64 f fun f=>
 cL c y e 1 fun g=>
 cI Z .u64 g fun g=>
 cond (f != g) (Y (.bool false) Z) (cond (decide (e≥(((y:Nat):Int)))) (cL S b e 1 fun f=>
 cI Z .u64 f fun f=>
 j8 l2.id #[.int .i64 (-1),.int .i64 e] Z fun g=>
 aV .u64 g fun g=>
 cond (f != g) (Y (.bool false) Z) (a2 (IntKind.i64.wrap (e+1)) fun f=>
 a S b R c y d f Z)) (a2 (IntKind.i64.wrap (e+1)) fun f=>
 a S b R c y d f Z))) (cond (decide (e≥(((y:Nat):Int)))) (cL S b e 1 fun f=>
 cI Z .u64 f fun f=>
 j8 l2.id #[.int .i64 (-1),.int .i64 e] Z fun g=>
 aV .u64 g fun g=>
 cond (f != g) (Y (.bool false) Z) (a2 (IntKind.i64.wrap (e+1)) fun f=>
 a S b R c y d f Z)) (a2 (IntKind.i64.wrap (e+1)) fun e=>
 a S b R c y d e Z))) (aC.t Y Z)
def b0.g(Y:K)(a:U→Nat→Nat→U→Nat→Nat→Int→V→Prop)(X:Fr)(Z:V):Prop:=aG (X 0) fun S b R=>aG (X 1) fun c y d=>aV .i64 (X 5) fun e=>b0.t Y a S b R c y d e Z
theorem b0.ok(Y:K)(a:U→Nat→Nat→U→Nat→Nat→Int→V→Prop)(X:Fr)(Z:V)(g:b0.g Y a X Z):den prog E (aS r [W,W,x,W,x,x]) (aH.then (bG.g a) (aH.inBlock 0 (aH.then (aC.g Y) (aZ E [.tmp 4] Y)))) X Z:=
 a8 g fun S a R b g=>a8 g fun c y d e g=>bM g fun f h g=>bO [(0,.slice S a R),(1,.slice c y d),(5,.int .i64 f)] ⟨b,e,h,trivial⟩ (by kernel_rfl) g
def bG.t(Y:K):Nat→U→Nat→Nat→U→Nat→Nat→Int→V→Prop
 | 0=>fun _ _ _ _ _ _ _ _=>False
 | n+1=>fun S a R b y c d Z=>b0.t Y (bG.t Y n) S a R b y c d Z
theorem bG.ok(Y:K)(X:Fr)(Z:V)(g:bG.g (fun S a R b y c d Z=>∃ n,bG.t Y n S a R b y c d Z) X Z):den prog E (aS r [W,W,x,W,x]) (aH.inBlock 0 (aH.then (aC.g Y) (aZ E [.tmp 4] Y))) X Z:=by
 obtain⟨S,a,R,e,g⟩:=bQ g
 obtain⟨b,y,c,f,g⟩:=bQ g
 obtain⟨d,h,g⟩:=bS g
 obtain⟨n,g⟩:=g
 refine e1 (fun n=>bG.g (bG.t Y n)) (N:=(aS r [W,W,x,W,x,x])) (by kernel_rfl) (fun X Z g=>?_) (fun n=>b0.ok Y (bG.t Y n)) n X Z (k e (k f (bI h (g))))
 obtain⟨S,a,R,e,g⟩:=bQ g
 obtain⟨b,y,c,f,g⟩:=bQ g
 obtain⟨d,h,g⟩:=bS g
 exact g
theorem eP.ok(Y:K)(X:Fr)(Z:V)(g:bG.g (fun S a R b y c d Z=>∃ n,bG.t Y n S a R b y c d Z) X Z):den prog E (aS r [W,W,x,W]) (aH.then (aC.g Y) (aZ E [.tmp 4] Y)) X Z:=
 eR (by kernel_rfl) (bG.ok Y X Z g)
def a7.t(Y:K)(S:U)(a R:Nat)(b:U)(y c:Nat)(Z:V):Prop:=
 (∃ n,bG.t Y n S a R b y c 0 Z)
def a7.g(Y:K)(X:Fr)(Z:V):Prop:=aG (X 0) fun S a R=>aG (X 1) fun b y c=>a7.t Y S a R b y c Z
theorem a7.ok(Y:K)(X:Fr)(Z:V)(g:a7.g Y X Z):den prog E (aS r [W,W,x]) (aH.then (aC.g Y) (aZ E [.tmp 4] Y)) X Z:=
 a8 g fun S a R b g=>a8 g fun c y d e g=>cT 1 (s:=(aS r [W,W,x,W])) (by kernel_rfl) (eP.ok Y) (bO [(0,.slice S a R),(1,.slice c y d)] ⟨b,e,trivial⟩ (by kernel_rfl) g)
theorem gV.ok(Y:K)(X:Fr)(Z:V)(g:a7.g Y X Z):den prog E (aS r [W,W]) (aZ E [.tmp 4] Y) X Z:=
 e5 (by kernel_rfl) (aC.ok Y) (a7.ok Y X Z g)
def F.t(Y:K)(S:U)(a R:Nat)(b:U)(y c:Nat)(Z:V):Prop:=
 a2 (IntKind.i64.wrap ((((y:Nat):Int))+80)) fun d=>
 cond ((((a:Nat):Int)) != d) (Y (.bool false) Z) (a7.t Y S a R b y c Z)
def F.g(Y:K)(X:Fr)(Z:V):Prop:=aG (X 0) fun S a R=>aG (X 1) fun b y c=>F.t Y S a R b y c Z
theorem F.ok(Y:K)(X:Fr)(Z:V)(g:F.g Y X Z):den prog E r (aZ E [.tmp 4] Y) X Z:=
 a8 g fun S a R b g=>a8 g fun c y d e g=>cT 2 (s:=(aS r [W,W])) (by kernel_rfl) (gV.ok Y) (bO [(0,.slice S a R),(1,.slice c y d)] ⟨b,e,trivial⟩ (by kernel_rfl) g)
def t(S:U)(a R:Nat)(b:U)(y c:Nat)(Z:V)(Y:K):Prop:=F.t Y S a R b y c Z
theorem ok{S:U}{a:Nat}{R:Nat}{b:U}{y:Nat}{c:Nat}{Z:V}{Y:K}(g:t S a R b y c Z Y):aF id #[.slice S a R,.slice b y c] Z Y:=
 c7 c8 (L:=r) (cY:=[.tmp 4]) Tryz.func20 (by kernel_rfl) (by kernel_rfl) (by kernel_rfl) (args:=[.slice S a R,.slice b y c]) (by kernel_rfl) (F.ok Y _ Z (k rfl (k rfl (g))))
end kT
namespace iN
noncomputable def r:Code:=c6 Tryz.f21
def F.t(Y:K)(a:Bool)(b:U)(c d:Nat)(aT:Bool)(e:U)(f g:Nat)(Z:V):Prop:=
 b4 Z 25 [.bool a,.slice b c d] fun a b=>
 b4 b 25 [.bool aT,.slice e f g] fun b c=>
 bB c (a.add 0) fun d=>
 bB c (b.add 0) fun e=>
 cond (d == e) (a6 c (a.add 1) fun a d e=>
 a6 c (b.add 1) fun b f g=>
 j8 pD.id #[.slice a d e,.slice b f g] c fun a=>
 b9 a fun a=>
 Y (.bool a) c) (Y (.bool false) c)
def F.g(Y:K)(X:Fr)(Z:V):Prop:=bU (X 0) fun a=>bR a fun a b=>b9 a fun a=>bR b fun b c=>aG b fun b d e=>bC c <| bU (X 1) fun dV=>bR dV fun c f=>b9 c fun aT=>bR f fun c f=>aG c fun c h i=>bC f <| F.t Y a b d e aT c h i Z
theorem F.ok(Y:K)(X:Fr)(Z:V)(g:F.g Y X Z):den prog E r (aZ E [.tmp 4] Y) X Z:=by
 obtain⟨K6,a,b⟩:=eH g
 obtain⟨K7,K8,rfl,c⟩:=cH b
 obtain⟨d,rfl,e⟩:=dY c
 obtain⟨K9,La,rfl,f⟩:=cH e
 obtain⟨h,i,j,rfl,l⟩:=bQ f
 obtain⟨rfl,g⟩:=eD l
 obtain⟨dV,m,n⟩:=eH g
 obtain⟨Lb,Lc,rfl,t⟩:=cH n
 obtain⟨aT,rfl,v⟩:=dY t
 obtain⟨Ld,Le,rfl,D⟩:=cH v
 obtain⟨G,H,P,rfl,K5⟩:=bQ D
 obtain⟨rfl,g⟩:=eD K5
 exact bO [(0,.agg #[.bool d,.slice h i j]),(1,.agg #[.bool aT,.slice G H P])] ⟨a,m,trivial⟩ (by kernel_rfl) g
def t(a:Bool)(b:U)(c d:Nat)(aT:Bool)(e:U)(f g:Nat)(Z:V)(Y:K):Prop:=F.t Y a b c d aT e f g Z
theorem ok{a:Bool}{b:U}{c:Nat}{d:Nat}{aT:Bool}{e:U}{f:Nat}{h:Nat}{Z:V}{Y:K}(g:t a b c d aT e f h Z Y):aF id #[.agg #[.bool a,.slice b c d],.agg #[.bool aT,.slice e f h]] Z Y:=
 c7 c8 (L:=r) (cY:=[.tmp 4]) Tryz.func21 (by kernel_rfl) (by kernel_rfl) (by kernel_rfl) (args:=[.agg #[.bool a,.slice b c d],.agg #[.bool aT,.slice e f h]]) (by kernel_rfl) (F.ok Y _ Z (bZ rfl (aM (aO rfl (aM (k rfl (bP (bZ rfl (aM (aO rfl (aM (k rfl (bP (g))))))))))))))
end iN
namespace n5
noncomputable def r:Code:=c6 Tryz.f22
def e3.g(bN:U→Nat→Nat→Int→V→Prop)(X:Fr)(Z:V):Prop:=aG (X 0) fun S a R=>aV .i64 (X 2) fun b=>bN S a R b Z
def a7.t(Y:K)(a:U→Nat→Nat→Int→V→Prop)(S:U)(b R:Nat)(c:Int)(Z:V):Prop:=
 cond (decide (c < (((b:Nat):Int)))) (j8 l2.id #[.int .i64 (-2),.int .i64 c] Z fun d=>
 aV .u64 d fun d=>
 a2 (uN .u64 d) fun d=>
 cL S b c 1 fun e=>
 aW Z e (.int .u64 d) fun d=>
 a2 (IntKind.i64.wrap (c+1)) fun c=>
 a S b R c d) (Y (.tuple #[]) Z)
def a7.g(Y:K)(a:U→Nat→Nat→Int→V→Prop)(X:Fr)(Z:V):Prop:=aG (X 0) fun S b R=>aV .i64 (X 2) fun c=>a7.t Y a S b R c Z
theorem a7.ok(Y:K)(a:U→Nat→Nat→Int→V→Prop)(X:Fr)(Z:V)(g:a7.g Y a X Z):den prog E (aS r [W,x,x]) (aH.then (e3.g a) (aH.inBlock 0 (aZ E [] Y))) X Z:=
 a8 g fun S a R b g=>bM g fun c d g=>bO [(0,.slice S a R),(2,.int .i64 c)] ⟨b,d,trivial⟩ (by kernel_rfl) g
def e3.t(Y:K):Nat→U→Nat→Nat→Int→V→Prop
 | 0=>fun _ _ _ _ _=>False
 | n+1=>fun S a R b Z=>a7.t Y (e3.t Y n) S a R b Z
theorem e3.ok(Y:K)(X:Fr)(Z:V)(g:e3.g (fun S a R b Z=>∃ n,e3.t Y n S a R b Z) X Z):den prog E (aS r [W,x]) (aH.inBlock 0 (aZ E [] Y)) X Z:=by
 obtain⟨S,a,R,c,g⟩:=bQ g
 obtain⟨b,d,g⟩:=bS g
 obtain⟨n,g⟩:=g
 refine e1 (fun n=>e3.g (e3.t Y n)) (N:=(aS r [W,x,x])) (by kernel_rfl) (fun X Z g=>?_) (fun n=>a7.ok Y (e3.t Y n)) n X Z (k c (bI d (g)))
 obtain⟨S,a,R,c,g⟩:=bQ g
 obtain⟨b,d,g⟩:=bS g
 exact g
theorem dT.ok(Y:K)(X:Fr)(Z:V)(g:e3.g (fun S a R b Z=>∃ n,e3.t Y n S a R b Z) X Z):den prog E (aS r [W]) (aZ E [] Y) X Z:=
 eR (by kernel_rfl) (e3.ok Y X Z g)
def F.t(Y:K)(S:U)(a R:Nat)(Z:V):Prop:=
 (∃ n,e3.t Y n S a R 0 Z)
def F.g(Y:K)(X:Fr)(Z:V):Prop:=aG (X 0) fun S a R=>F.t Y S a R Z
theorem F.ok(Y:K)(X:Fr)(Z:V)(g:F.g Y X Z):den prog E r (aZ E [] Y) X Z:=
 a8 g fun S a R b g=>cT 1 (s:=(aS r [W])) (by kernel_rfl) (dT.ok Y) (bO [(0,.slice S a R)] ⟨b,trivial⟩ (by kernel_rfl) g)
def t(S:U)(a R:Nat)(Z:V)(Y:K):Prop:=F.t Y S a R Z
theorem ok{S:U}{a:Nat}{R:Nat}{Z:V}{Y:K}(g:t S a R Z Y):aF id #[.slice S a R] Z Y:=
 c7 c8 (L:=r) (cY:=[]) Tryz.func22 (by kernel_rfl) (by kernel_rfl) (by kernel_rfl) (args:=[.slice S a R]) (by kernel_rfl) (F.ok Y _ Z (k rfl (g)))
end n5
namespace eF
noncomputable def r:Code:=c6 Tryz.f23
def a7.t(Y:K)(Z:V):Prop:=
 Y (.bool true) Z
def a7.g(Y:K)(X:Fr)(Z:V):Prop:=a7.t Y  Z
theorem a7.ok(Y:K)(X:Fr)(Z:V)(g:a7.g Y X Z):den prog E (aS r [W,W,W,W,W,W,W]) (aZ E [.tmp 2] Y) X Z:=
 bO [] trivial (by kernel_rfl) g
def dN.g(bN:U→Nat→Nat→Int→V→Prop)(X:Fr)(Z:V):Prop:=aG (X 0) fun S a R=>aV .i64 (X 14) fun b=>bN S a R b Z
def eC.t(Y:K)(a:U→Nat→Nat→Int→V→Prop)(S:U)(b R:Nat)(c:Int)(Z:V):Prop:=
 a2 (IntKind.i64.wrap (c+1)) fun c=>a S b R c Z
def eC.g(Y:K)(a:U→Nat→Nat→Int→V→Prop)(X:Fr)(Z:V):Prop:=aG (X 0) fun S b R=>aV .i64 (X 14) fun c=>eC.t Y a S b R c Z
theorem eC.ok(Y:K)(a:U→Nat→Nat→Int→V→Prop)(X:Fr)(Z:V)(g:eC.g Y a X Z):den prog E (aS r [W,W,W,W,W,W,x,W,x,x,W,W]) (aH.then (dN.g a) (aH.inBlock 16 (aH.then (a7.g Y) (aZ E [.tmp 2] Y)))) X Z:=
 a8 g fun S a R b g=>bM g fun c d g=>bO [(0,.slice S a R),(14,.int .i64 c)] ⟨b,d,trivial⟩ (by kernel_rfl) g
def eT.g(bN:U→Nat→Nat→Int→Int→V→Prop)(X:Fr)(Z:V):Prop:=aG (X 0) fun S a R=>aV .i64 (X 14) fun b=>aV .i64 (X 15) fun c=>bN S a R b c Z
def g7.t(Y:K)(a:U→Nat→Nat→Int→V→Prop)(b:U→Nat→Nat→Int→Int→V→Prop)(S:U)(c R:Nat)(d e:Int)(Z:V):Prop:=
 cL S c d 1 fun f=>
 a6 Z f fun f f g=>
 cond (decide (e < (((f:Nat):Int)))) (cL S c d 1 fun f=>
 a6 Z f fun f g h=>
 cL f g e 1 fun f=>
 cI Z .u64 f fun f=>
 j8 l2.id #[.int .i64 d,.int .i64 e] Z fun g=>
 aV .u64 g fun g=>
 cond (f != g) (Y (.bool false) Z) (a2 (IntKind.i64.wrap (e+1)) fun e=>
 b S c R d e Z)) (eC.t Y a S c R d Z)
def g7.g(Y:K)(a:U→Nat→Nat→Int→V→Prop)(b:U→Nat→Nat→Int→Int→V→Prop)(X:Fr)(Z:V):Prop:=aG (X 0) fun S c R=>aV .i64 (X 14) fun d=>aV .i64 (X 15) fun e=>g7.t Y a b S c R d e Z
theorem g7.ok(Y:K)(a:U→Nat→Nat→Int→V→Prop)(b:U→Nat→Nat→Int→Int→V→Prop)(X:Fr)(Z:V)(g:g7.g Y a b X Z):den prog E (aS r [W,W,W,W,W,W,x,W,x,x,W,x,x,W,x,x]) (aH.then (eT.g b) (aH.inBlock 18 (aH.inBlock 17 (aH.then (eC.g Y a) (aH.then (dN.g a) (aH.inBlock 16 (aH.then (a7.g Y) (aZ E [.tmp 2] Y)))))))) X Z:=
 a8 g fun S a R b g=>bM g fun c d g=>bM g fun e f g=>bO [(0,.slice S a R),(14,.int .i64 c),(15,.int .i64 e)] ⟨b,d,f,trivial⟩ (by kernel_rfl) g
def eT.t(Y:K)(a:U→Nat→Nat→Int→V→Prop):Nat→U→Nat→Nat→Int→Int→V→Prop
 | 0=>fun _ _ _ _ _ _=>False
 | n+1=>fun S b R c d Z=>g7.t Y a (eT.t Y a n) S b R c d Z
theorem eT.ok(Y:K)(a:U→Nat→Nat→Int→V→Prop)(X:Fr)(Z:V)(g:eT.g (fun S b R c d Z=>∃ n,eT.t Y a n S b R c d Z) X Z):den prog E (aS r [W,W,W,W,W,W,x,W,x,x,W,x,x,W,x]) (aH.inBlock 18 (aH.inBlock 17 (aH.then (eC.g Y a) (aH.then (dN.g a) (aH.inBlock 16 (aH.then (a7.g Y) (aZ E [.tmp 2] Y))))))) X Z:=by
 obtain⟨S,b,R,e,g⟩:=bQ g
 obtain⟨c,f,g⟩:=bS g
 obtain⟨d,h,g⟩:=bS g
 obtain⟨n,g⟩:=g
 refine e1 (fun n=>eT.g (eT.t Y a n)) (N:=(aS r [W,W,W,W,W,W,x,W,x,x,W,x,x,W,x,x])) (by kernel_rfl) (fun X Z g=>?_) (fun n=>g7.ok Y a (eT.t Y a n)) n X Z (k e (bI f (bI h (g))))
 obtain⟨S,b,R,e,g⟩:=bQ g
 obtain⟨c,f,g⟩:=bS g
 obtain⟨d,h,g⟩:=bS g
 exact g
theorem uE.ok(Y:K)(a:U→Nat→Nat→Int→V→Prop)(X:Fr)(Z:V)(g:eT.g (fun S b R c d Z=>∃ n,eT.t Y a n S b R c d Z) X Z):den prog E (aS r [W,W,W,W,W,W,x,W,x,x,W,x,x,W]) (aH.inBlock 17 (aH.then (eC.g Y a) (aH.then (dN.g a) (aH.inBlock 16 (aH.then (a7.g Y) (aZ E [.tmp 2] Y)))))) X Z:=
 eR (by kernel_rfl) (eT.ok Y a X Z g)
def eL.t(Y:K)(a:U→Nat→Nat→Int→V→Prop)(S:U)(b R:Nat)(c:Int)(Z:V):Prop:=
 (∃ n,eT.t Y a n S b R c 0 Z)
def eL.g(Y:K)(a:U→Nat→Nat→Int→V→Prop)(X:Fr)(Z:V):Prop:=aG (X 0) fun S b R=>aV .i64 (X 14) fun c=>eL.t Y a S b R c Z
theorem eL.ok(Y:K)(a:U→Nat→Nat→Int→V→Prop)(X:Fr)(Z:V)(g:eL.g Y a X Z):den prog E (aS r [W,W,W,W,W,W,x,W,x,x,W,x,x]) (aH.inBlock 17 (aH.then (eC.g Y a) (aH.then (dN.g a) (aH.inBlock 16 (aH.then (a7.g Y) (aZ E [.tmp 2] Y)))))) X Z:=
 a8 g fun S b R c g=>bM g fun d e g=>cT 1 (s:=(aS r [W,W,W,W,W,W,x,W,x,x,W,x,x,W])) (by kernel_rfl) (uE.ok Y a) (bO [(0,.slice S b R),(14,.int .i64 d)] ⟨c,e,trivial⟩ (by kernel_rfl) g)
theorem pV.ok(Y:K)(a:U→Nat→Nat→Int→V→Prop)(X:Fr)(Z:V)(g:eL.g Y a X Z):den prog E (aS r [W,W,W,W,W,W,x,W,x,x,W,x]) (aH.then (eC.g Y a) (aH.then (dN.g a) (aH.inBlock 16 (aH.then (a7.g Y) (aZ E [.tmp 2] Y))))) X Z:=
 eR (by kernel_rfl) (eL.ok Y a X Z g)
theorem rQ.ok(Y:K)(a:U→Nat→Nat→Int→V→Prop)(X:Fr)(Z:V)(g:eL.g Y a X Z):den prog E (aS r [W,W,W,W,W,W,x,W,x,x,W]) (aH.then (dN.g a) (aH.inBlock 16 (aH.then (a7.g Y) (aZ E [.tmp 2] Y)))) X Z:=
 e5 (by kernel_rfl) (eC.ok Y a) (pV.ok Y a X Z g)
def dD.t(Y:K)(a:U→Nat→Nat→Int→V→Prop)(S:U)(b R:Nat)(c:Int)(Z:V):Prop:=
 cond (decide (c < (((b:Nat):Int)))) (eL.t Y a S b R c Z) (a7.t Y Z)
def dD.g(Y:K)(a:U→Nat→Nat→Int→V→Prop)(X:Fr)(Z:V):Prop:=aG (X 0) fun S b R=>aV .i64 (X 14) fun c=>dD.t Y a S b R c Z
theorem dD.ok(Y:K)(a:U→Nat→Nat→Int→V→Prop)(X:Fr)(Z:V)(g:dD.g Y a X Z):den prog E (aS r [W,W,W,W,W,W,x,W,x,x]) (aH.then (dN.g a) (aH.inBlock 16 (aH.then (a7.g Y) (aZ E [.tmp 2] Y)))) X Z:=
 a8 g fun S b R c g=>bM g fun d e g=>cT 1 (s:=(aS r [W,W,W,W,W,W,x,W,x,x,W])) (by kernel_rfl) (rQ.ok Y a) (bO [(0,.slice S b R),(14,.int .i64 d)] ⟨c,e,trivial⟩ (by kernel_rfl) g)
def dN.t(Y:K):Nat→U→Nat→Nat→Int→V→Prop
 | 0=>fun _ _ _ _ _=>False
 | n+1=>fun S a R b Z=>dD.t Y (dN.t Y n) S a R b Z
theorem dN.ok(Y:K)(X:Fr)(Z:V)(g:dN.g (fun S a R b Z=>∃ n,dN.t Y n S a R b Z) X Z):den prog E (aS r [W,W,W,W,W,W,x,W,x]) (aH.inBlock 16 (aH.then (a7.g Y) (aZ E [.tmp 2] Y))) X Z:=by
 obtain⟨S,a,R,c,g⟩:=bQ g
 obtain⟨b,d,g⟩:=bS g
 obtain⟨n,g⟩:=g
 refine e1 (fun n=>dN.g (dN.t Y n)) (N:=(aS r [W,W,W,W,W,W,x,W,x,x])) (by kernel_rfl) (fun X Z g=>?_) (fun n=>dD.ok Y (dN.t Y n)) n X Z (k c (bI d (g)))
 obtain⟨S,a,R,c,g⟩:=bQ g
 obtain⟨b,d,g⟩:=bS g
 exact g
theorem rR.ok(Y:K)(X:Fr)(Z:V)(g:dN.g (fun S a R b Z=>∃ n,dN.t Y n S a R b Z) X Z):den prog E (aS r [W,W,W,W,W,W,x,W]) (aH.then (a7.g Y) (aZ E [.tmp 2] Y)) X Z:=
 eR (by kernel_rfl) (dN.ok Y X Z g)
def cA.t(Y:K)(S:U)(a R:Nat)(Z:V):Prop:=
 (∃ n,dN.t Y n S a R 0 Z)
def cA.g(Y:K)(X:Fr)(Z:V):Prop:=aG (X 0) fun S a R=>cA.t Y S a R Z
theorem cA.ok(Y:K)(X:Fr)(Z:V)(g:cA.g Y X Z):den prog E (aS r [W,W,W,W,W,W,x]) (aH.then (a7.g Y) (aZ E [.tmp 2] Y)) X Z:=
 a8 g fun S a R b g=>cT 1 (s:=(aS r [W,W,W,W,W,W,x,W])) (by kernel_rfl) (rR.ok Y) (bO [(0,.slice S a R)] ⟨b,trivial⟩ (by kernel_rfl) g)
theorem uH.ok(Y:K)(X:Fr)(Z:V)(g:cA.g Y X Z):den prog E (aS r [W,W,W,W,W,W]) (aZ E [.tmp 2] Y) X Z:=
 e5 (by kernel_rfl) (a7.ok Y) (cA.ok Y X Z g)
def iY.g(bN:U→Nat→Nat→U→Nat→Nat→Int→V→Prop)(X:Fr)(Z:V):Prop:=aG (X 0) fun S a R=>aG (X 5) fun b a5 c=>aV .i64 (X 12) fun d=>bN S a R b a5 c d Z
def oX.t(Y:K)(a:U→Nat→Nat→U→Nat→Nat→Int→V→Prop)(S:U)(b R:Nat)(c:U)(a5 d:Nat)(e:Int)(Z:V):Prop:=
 a2 (IntKind.i64.wrap (e+1)) fun e=>a S b R c a5 d e Z
def oX.g(Y:K)(a:U→Nat→Nat→U→Nat→Nat→Int→V→Prop)(X:Fr)(Z:V):Prop:=aG (X 0) fun S b R=>aG (X 5) fun c a5 d=>aV .i64 (X 12) fun e=>oX.t Y a S b R c a5 d e Z
theorem oX.ok(Y:K)(a:U→Nat→Nat→U→Nat→Nat→Int→V→Prop)(X:Fr)(Z:V)(g:oX.g Y a X Z):den prog E (aS r [W,W,W,W,W,x,W,x,x,W,W]) (aH.then (iY.g a) (aH.inBlock 12 (aH.then (cA.g Y) (aZ E [.tmp 2] Y)))) X Z:=
 a8 g fun S a R b g=>a8 g fun c a5 d e g=>bM g fun f h g=>bO [(0,.slice S a R),(5,.slice c a5 d),(12,.int .i64 f)] ⟨b,e,h,trivial⟩ (by kernel_rfl) g
def l5.g(bN:U→Nat→Nat→U→Nat→Nat→Int→Int→V→Prop)(X:Fr)(Z:V):Prop:=aG (X 0) fun S a R=>aG (X 5) fun b a5 c=>aV .i64 (X 12) fun d=>aV .i64 (X 13) fun e=>bN S a R b a5 c d e Z
def sL.t(Y:K)(a:U→Nat→Nat→U→Nat→Nat→Int→V→Prop)(b:U→Nat→Nat→U→Nat→Nat→Int→Int→V→Prop)(S:U)(c R:Nat)(d:U)(a5 e:Nat)(f g:Int)(Z:V):Prop:=
 cL d a5 f 1 fun h=>
 a6 Z h fun h h i=>
 cond (decide (g < (((h:Nat):Int)))) (cL d a5 f 1 fun h=>
 a6 Z h fun h i j=>
 cL h i g 1 fun h=>
 cI Z .u64 h fun h=>
 (((c:Nat):Int)) ≠ 0∧a2 (Int.tmod f (((c:Nat):Int))) fun i=>
 j8 l2.id #[.int .i64 i,.int .i64 g] Z fun i=>
 aV .u64 i fun i=>
 cond (h != i) (Y (.bool false) Z) (a2 (IntKind.i64.wrap (g+1)) fun g=>
 b S c R d a5 e f g Z)) (oX.t Y a S c R d a5 e f Z)
def sL.g(Y:K)(a:U→Nat→Nat→U→Nat→Nat→Int→V→Prop)(b:U→Nat→Nat→U→Nat→Nat→Int→Int→V→Prop)(X:Fr)(Z:V):Prop:=aG (X 0) fun S c R=>aG (X 5) fun d a5 e=>aV .i64 (X 12) fun f=>aV .i64 (X 13) fun h=>sL.t Y a b S c R d a5 e f h Z
theorem sL.ok(Y:K)(a:U→Nat→Nat→U→Nat→Nat→Int→V→Prop)(b:U→Nat→Nat→U→Nat→Nat→Int→Int→V→Prop)(X:Fr)(Z:V)(g:sL.g Y a b X Z):den prog E (aS r [W,W,W,W,W,x,W,x,x,W,x,x,W,x,x]) (aH.then (l5.g b) (aH.inBlock 14 (aH.inBlock 13 (aH.then (oX.g Y a) (aH.then (iY.g a) (aH.inBlock 12 (aH.then (cA.g Y) (aZ E [.tmp 2] Y)))))))) X Z:=
 a8 g fun S a R b g=>a8 g fun c a5 d e g=>bM g fun f h g=>bM g fun i j g=>bO [(0,.slice S a R),(5,.slice c a5 d),(12,.int .i64 f),(13,.int .i64 i)] ⟨b,e,h,j,trivial⟩ (by kernel_rfl) g
def l5.t(Y:K)(a:U→Nat→Nat→U→Nat→Nat→Int→V→Prop):Nat→U→Nat→Nat→U→Nat→Nat→Int→Int→V→Prop
 | 0=>fun _ _ _ _ _ _ _ _ _=>False
 | n+1=>fun S b R c a5 d e f Z=>sL.t Y a (l5.t Y a n) S b R c a5 d e f Z
theorem l5.ok(Y:K)(a:U→Nat→Nat→U→Nat→Nat→Int→V→Prop)(X:Fr)(Z:V)(g:l5.g (fun S b R c a5 d e f Z=>∃ n,l5.t Y a n S b R c a5 d e f Z) X Z):den prog E (aS r [W,W,W,W,W,x,W,x,x,W,x,x,W,x]) (aH.inBlock 14 (aH.inBlock 13 (aH.then (oX.g Y a) (aH.then (iY.g a) (aH.inBlock 12 (aH.then (cA.g Y) (aZ E [.tmp 2] Y))))))) X Z:=by
 obtain⟨S,b,R,h,g⟩:=bQ g
 obtain⟨c,a5,d,i,g⟩:=bQ g
 obtain⟨e,j,g⟩:=bS g
 obtain⟨f,l,g⟩:=bS g
 obtain⟨n,g⟩:=g
 refine e1 (fun n=>l5.g (l5.t Y a n)) (N:=(aS r [W,W,W,W,W,x,W,x,x,W,x,x,W,x,x])) (by kernel_rfl) (fun X Z g=>?_) (fun n=>sL.ok Y a (l5.t Y a n)) n X Z (k h (k i (bI j (bI l (g)))))
 obtain⟨S,b,R,h,g⟩:=bQ g
 obtain⟨c,a5,d,i,g⟩:=bQ g
 obtain⟨e,j,g⟩:=bS g
 obtain⟨f,l,g⟩:=bS g
 exact g
theorem KA.ok(Y:K)(a:U→Nat→Nat→U→Nat→Nat→Int→V→Prop)(X:Fr)(Z:V)(g:l5.g (fun S b R c a5 d e f Z=>∃ n,l5.t Y a n S b R c a5 d e f Z) X Z):den prog E (aS r [W,W,W,W,W,x,W,x,x,W,x,x,W]) (aH.inBlock 13 (aH.then (oX.g Y a) (aH.then (iY.g a) (aH.inBlock 12 (aH.then (cA.g Y) (aZ E [.tmp 2] Y)))))) X Z:=
 eR (by kernel_rfl) (l5.ok Y a X Z g)
def rK.t(Y:K)(a:U→Nat→Nat→U→Nat→Nat→Int→V→Prop)(S:U)(b R:Nat)(c:U)(a5 d:Nat)(e:Int)(Z:V):Prop:=
 (∃ n,l5.t Y a n S b R c a5 d e 0 Z)
def rK.g(Y:K)(a:U→Nat→Nat→U→Nat→Nat→Int→V→Prop)(X:Fr)(Z:V):Prop:=aG (X 0) fun S b R=>aG (X 5) fun c a5 d=>aV .i64 (X 12) fun e=>rK.t Y a S b R c a5 d e Z
theorem rK.ok(Y:K)(a:U→Nat→Nat→U→Nat→Nat→Int→V→Prop)(X:Fr)(Z:V)(g:rK.g Y a X Z):den prog E (aS r [W,W,W,W,W,x,W,x,x,W,x,x]) (aH.inBlock 13 (aH.then (oX.g Y a) (aH.then (iY.g a) (aH.inBlock 12 (aH.then (cA.g Y) (aZ E [.tmp 2] Y)))))) X Z:=
 a8 g fun S b R c g=>a8 g fun d a5 e f g=>bM g fun h i g=>cT 1 (s:=(aS r [W,W,W,W,W,x,W,x,x,W,x,x,W])) (by kernel_rfl) (KA.ok Y a) (bO [(0,.slice S b R),(5,.slice d a5 e),(12,.int .i64 h)] ⟨c,f,i,trivial⟩ (by kernel_rfl) g)
theorem KB.ok(Y:K)(a:U→Nat→Nat→U→Nat→Nat→Int→V→Prop)(X:Fr)(Z:V)(g:rK.g Y a X Z):den prog E (aS r [W,W,W,W,W,x,W,x,x,W,x]) (aH.then (oX.g Y a) (aH.then (iY.g a) (aH.inBlock 12 (aH.then (cA.g Y) (aZ E [.tmp 2] Y))))) X Z:=
 eR (by kernel_rfl) (rK.ok Y a X Z g)
theorem KC.ok(Y:K)(a:U→Nat→Nat→U→Nat→Nat→Int→V→Prop)(X:Fr)(Z:V)(g:rK.g Y a X Z):den prog E (aS r [W,W,W,W,W,x,W,x,x,W]) (aH.then (iY.g a) (aH.inBlock 12 (aH.then (cA.g Y) (aZ E [.tmp 2] Y)))) X Z:=
 e5 (by kernel_rfl) (oX.ok Y a) (KB.ok Y a X Z g)
def sK.t(Y:K)(a:U→Nat→Nat→U→Nat→Nat→Int→V→Prop)(S:U)(b R:Nat)(c:U)(a5 d:Nat)(e:Int)(Z:V):Prop:=
 cond (decide (e < (((a5:Nat):Int)))) (rK.t Y a S b R c a5 d e Z) (cA.t Y S b R Z)
def sK.g(Y:K)(a:U→Nat→Nat→U→Nat→Nat→Int→V→Prop)(X:Fr)(Z:V):Prop:=aG (X 0) fun S b R=>aG (X 5) fun c a5 d=>aV .i64 (X 12) fun e=>sK.t Y a S b R c a5 d e Z
theorem sK.ok(Y:K)(a:U→Nat→Nat→U→Nat→Nat→Int→V→Prop)(X:Fr)(Z:V)(g:sK.g Y a X Z):den prog E (aS r [W,W,W,W,W,x,W,x,x]) (aH.then (iY.g a) (aH.inBlock 12 (aH.then (cA.g Y) (aZ E [.tmp 2] Y)))) X Z:=
 a8 g fun S b R c g=>a8 g fun d a5 e f g=>bM g fun h i g=>cT 1 (s:=(aS r [W,W,W,W,W,x,W,x,x,W])) (by kernel_rfl) (KC.ok Y a) (bO [(0,.slice S b R),(5,.slice d a5 e),(12,.int .i64 h)] ⟨c,f,i,trivial⟩ (by kernel_rfl) g)
def iY.t(Y:K):Nat→U→Nat→Nat→U→Nat→Nat→Int→V→Prop
 | 0=>fun _ _ _ _ _ _ _ _=>False
 | n+1=>fun S a R b a5 c d Z=>sK.t Y (iY.t Y n) S a R b a5 c d Z
theorem iY.ok(Y:K)(X:Fr)(Z:V)(g:iY.g (fun S a R b a5 c d Z=>∃ n,iY.t Y n S a R b a5 c d Z) X Z):den prog E (aS r [W,W,W,W,W,x,W,x]) (aH.inBlock 12 (aH.then (cA.g Y) (aZ E [.tmp 2] Y))) X Z:=by
 obtain⟨S,a,R,e,g⟩:=bQ g
 obtain⟨b,a5,c,f,g⟩:=bQ g
 obtain⟨d,h,g⟩:=bS g
 obtain⟨n,g⟩:=g
 refine e1 (fun n=>iY.g (iY.t Y n)) (N:=(aS r [W,W,W,W,W,x,W,x,x])) (by kernel_rfl) (fun X Z g=>?_) (fun n=>sK.ok Y (iY.t Y n)) n X Z (k e (k f (bI h (g))))
 obtain⟨S,a,R,e,g⟩:=bQ g
 obtain⟨b,a5,c,f,g⟩:=bQ g
 obtain⟨d,h,g⟩:=bS g
 exact g
theorem KD.ok(Y:K)(X:Fr)(Z:V)(g:iY.g (fun S a R b a5 c d Z=>∃ n,iY.t Y n S a R b a5 c d Z) X Z):den prog E (aS r [W,W,W,W,W,x,W]) (aH.then (cA.g Y) (aZ E [.tmp 2] Y)) X Z:=
 eR (by kernel_rfl) (iY.ok Y X Z g)
def hN.t(Y:K)(S:U)(a R:Nat)(b:U)(a5 c:Nat)(Z:V):Prop:=
 (∃ n,iY.t Y n S a R b a5 c 0 Z)
def hN.g(Y:K)(X:Fr)(Z:V):Prop:=aG (X 0) fun S a R=>aG (X 5) fun b a5 c=>hN.t Y S a R b a5 c Z
theorem hN.ok(Y:K)(X:Fr)(Z:V)(g:hN.g Y X Z):den prog E (aS r [W,W,W,W,W,x]) (aH.then (cA.g Y) (aZ E [.tmp 2] Y)) X Z:=
 a8 g fun S a R b g=>a8 g fun c a5 d e g=>cT 1 (s:=(aS r [W,W,W,W,W,x,W])) (by kernel_rfl) (KD.ok Y) (bO [(0,.slice S a R),(5,.slice c a5 d)] ⟨b,e,trivial⟩ (by kernel_rfl) g)
theorem KE.ok(Y:K)(X:Fr)(Z:V)(g:hN.g Y X Z):den prog E (aS r [W,W,W,W,W]) (aZ E [.tmp 2] Y) X Z:=
 e5 (by kernel_rfl) (uH.ok Y) (hN.ok Y X Z g)
def iB.g(bN:U→Nat→Nat→U→Nat→Nat→Int→V→Prop)(X:Fr)(Z:V):Prop:=aG (X 0) fun S a R=>aG (X 5) fun b a5 c=>aV .i64 (X 9) fun d=>bN S a R b a5 c d Z
def mS.t(Y:K)(a:U→Nat→Nat→U→Nat→Nat→Int→V→Prop)(S:U)(b R:Nat)(c:U)(a5 d:Nat)(e:Int)(Z:V):Prop:=
 a2 (IntKind.i64.wrap (e+1)) fun e=>a S b R c a5 d e Z
def mS.g(Y:K)(a:U→Nat→Nat→U→Nat→Nat→Int→V→Prop)(X:Fr)(Z:V):Prop:=aG (X 0) fun S b R=>aG (X 5) fun c a5 d=>aV .i64 (X 9) fun e=>mS.t Y a S b R c a5 d e Z
theorem mS.ok(Y:K)(a:U→Nat→Nat→U→Nat→Nat→Int→V→Prop)(X:Fr)(Z:V)(g:mS.g Y a X Z):den prog E (aS r [W,W,W,W,x,W,x,x,W,W]) (aH.then (iB.g a) (aH.inBlock 8 (aH.then (hN.g Y) (aZ E [.tmp 2] Y)))) X Z:=
 a8 g fun S a R b g=>a8 g fun c a5 d e g=>bM g fun f h g=>bO [(0,.slice S a R),(5,.slice c a5 d),(9,.int .i64 f)] ⟨b,e,h,trivial⟩ (by kernel_rfl) g
def pS.t(Y:K)(a:U→Nat→Nat→U→Nat→Nat→Int→V→Prop)(S:U)(b R:Nat)(c:U)(a5 d:Nat)(e:Int)(f:U)(g h:Nat)(Z:V):Prop:=
 cL S b e 1 fun i=>
 a6 Z i fun i j l=>
 gW Z 27 j9 i j l (.slice f g h) fun f g h i=>
 b4 i 23 [.slice f g h] fun f g=>
 gW g 23 Bd c a5 d (.slice (some f) 1 1) fun c d f g=>
 mS.t Y a S b R c d f e g
def pS.g(Y:K)(a:U→Nat→Nat→U→Nat→Nat→Int→V→Prop)(X:Fr)(Z:V):Prop:=aG (X 0) fun S b R=>aG (X 5) fun c a5 d=>aV .i64 (X 9) fun e=>aG (X 10) fun f h i=>pS.t Y a S b R c a5 d e f h i Z
theorem pS.ok(Y:K)(a:U→Nat→Nat→U→Nat→Nat→Int→V→Prop)(X:Fr)(Z:V)(g:pS.g Y a X Z):den prog E (aS r [W,W,W,W,x,W,x,x,W,x,x,W,W]) (aH.inBlock 9 (aH.then (mS.g Y a) (aH.then (iB.g a) (aH.inBlock 8 (aH.then (hN.g Y) (aZ E [.tmp 2] Y)))))) X Z:=
 a8 g fun S a R b g=>a8 g fun c a5 d e g=>bM g fun f h g=>a8 g fun i j l m g=>bO [(0,.slice S a R),(5,.slice c a5 d),(9,.int .i64 f),(10,.slice i j l)] ⟨b,e,h,m,trivial⟩ (by kernel_rfl) g
def l6.g(bN:U→Nat→Nat→U→Nat→Nat→Int→U→Nat→Nat→Int→V→Prop)(X:Fr)(Z:V):Prop:=aG (X 0) fun S a R=>aG (X 5) fun b a5 c=>aV .i64 (X 9) fun d=>aG (X 10) fun e f h=>aV .i64 (X 11) fun i=>bN S a R b a5 c d e f h i Z
def sO.t(Y:K)(a:U→Nat→Nat→U→Nat→Nat→Int→V→Prop)(b:U→Nat→Nat→U→Nat→Nat→Int→U→Nat→Nat→Int→V→Prop)(S:U)(c R:Nat)(d:U)(a5 e:Nat)(f:Int)(g:U)(h i:Nat)(j:Int)(Z:V):Prop:=
 cond (decide (j < 80)) (cL S c f 1 fun l=>
 a6 Z l fun l l m=>
 a2 (IntKind.i64.wrap ((((l:Nat):Int))+j)) fun l=>
 j8 l2.id #[.int .i64 f,.int .i64 l] Z fun l=>
 aV .u64 l fun l=>
 cL g h j 1 fun m=>
 aW Z m (.int .u64 l) fun l=>
 a2 (IntKind.i64.wrap (j+1)) fun j=>
 b S c R d a5 e f g h i j l) (pS.t Y a S c R d a5 e f g h i Z)
def sO.g(Y:K)(a:U→Nat→Nat→U→Nat→Nat→Int→V→Prop)(b:U→Nat→Nat→U→Nat→Nat→Int→U→Nat→Nat→Int→V→Prop)(X:Fr)(Z:V):Prop:=aG (X 0) fun S c R=>aG (X 5) fun d a5 e=>aV .i64 (X 9) fun f=>aG (X 10) fun h i j=>aV .i64 (X 11) fun l=>sO.t Y a b S c R d a5 e f h i j l Z
theorem sO.ok(Y:K)(a:U→Nat→Nat→U→Nat→Nat→Int→V→Prop)(b:U→Nat→Nat→U→Nat→Nat→Int→U→Nat→Nat→Int→V→Prop)(X:Fr)(Z:V)(g:sO.g Y a b X Z):den prog E (aS r [W,W,W,W,x,W,x,x,W,x,x,W,x,W,x,x]) (aH.then (l6.g b) (aH.inBlock 10 (aH.then (pS.g Y a) (aH.inBlock 9 (aH.then (mS.g Y a) (aH.then (iB.g a) (aH.inBlock 8 (aH.then (hN.g Y) (aZ E [.tmp 2] Y))))))))) X Z:=
 a8 g fun S a R b g=>a8 g fun c a5 d e g=>bM g fun f h g=>a8 g fun i j l m g=>bM g fun n t g=>bO [(0,.slice S a R),(5,.slice c a5 d),(9,.int .i64 f),(10,.slice i j l),(11,.int .i64 n)] ⟨b,e,h,m,t,trivial⟩ (by kernel_rfl) g
def l6.t(Y:K)(a:U→Nat→Nat→U→Nat→Nat→Int→V→Prop):Nat→U→Nat→Nat→U→Nat→Nat→Int→U→Nat→Nat→Int→V→Prop
 | 0=>fun _ _ _ _ _ _ _ _ _ _ _ _=>False
 | n+1=>fun S b R c a5 d e f g h i Z=>sO.t Y a (l6.t Y a n) S b R c a5 d e f g h i Z
theorem l6.ok(Y:K)(a:U→Nat→Nat→U→Nat→Nat→Int→V→Prop)(X:Fr)(Z:V)(g:l6.g (fun S b R c a5 d e f h i j Z=>∃ n,l6.t Y a n S b R c a5 d e f h i j Z) X Z):den prog E (aS r [W,W,W,W,x,W,x,x,W,x,x,W,x,W,x]) (aH.inBlock 10 (aH.then (pS.g Y a) (aH.inBlock 9 (aH.then (mS.g Y a) (aH.then (iB.g a) (aH.inBlock 8 (aH.then (hN.g Y) (aZ E [.tmp 2] Y)))))))) X Z:=by
 obtain⟨S,b,R,l,g⟩:=bQ g
 obtain⟨c,a5,d,m,g⟩:=bQ g
 obtain⟨e,v,g⟩:=bS g
 obtain⟨f,h,i,D,g⟩:=bQ g
 obtain⟨j,G,g⟩:=bS g
 obtain⟨n,g⟩:=g
 refine e1 (fun n=>l6.g (l6.t Y a n)) (N:=(aS r [W,W,W,W,x,W,x,x,W,x,x,W,x,W,x,x])) (by kernel_rfl) (fun X Z g=>?_) (fun n=>sO.ok Y a (l6.t Y a n)) n X Z (k l (k m (bI v (k D (bI G (g))))))
 obtain⟨S,b,R,l,g⟩:=bQ g
 obtain⟨c,a5,d,m,g⟩:=bQ g
 obtain⟨e,v,g⟩:=bS g
 obtain⟨f,h,i,D,g⟩:=bQ g
 obtain⟨j,G,g⟩:=bS g
 exact g
theorem KF.ok(Y:K)(a:U→Nat→Nat→U→Nat→Nat→Int→V→Prop)(X:Fr)(Z:V)(g:l6.g (fun S b R c a5 d e f h i j Z=>∃ n,l6.t Y a n S b R c a5 d e f h i j Z) X Z):den prog E (aS r [W,W,W,W,x,W,x,x,W,x,x,W,x,W]) (aH.then (pS.g Y a) (aH.inBlock 9 (aH.then (mS.g Y a) (aH.then (iB.g a) (aH.inBlock 8 (aH.then (hN.g Y) (aZ E [.tmp 2] Y))))))) X Z:=
 eR (by kernel_rfl) (l6.ok Y a X Z g)
def sN.t(Y:K)(a:U→Nat→Nat→U→Nat→Nat→Int→V→Prop)(S:U)(b R:Nat)(c:U)(a5 d:Nat)(e:Int)(f:U)(g h:Nat)(Z:V):Prop:=
 (∃ n,l6.t Y a n S b R c a5 d e f g h 0 Z)
def sN.g(Y:K)(a:U→Nat→Nat→U→Nat→Nat→Int→V→Prop)(X:Fr)(Z:V):Prop:=aG (X 0) fun S b R=>aG (X 5) fun c a5 d=>aV .i64 (X 9) fun e=>aG (X 10) fun f h i=>sN.t Y a S b R c a5 d e f h i Z
theorem sN.ok(Y:K)(a:U→Nat→Nat→U→Nat→Nat→Int→V→Prop)(X:Fr)(Z:V)(g:sN.g Y a X Z):den prog E (aS r [W,W,W,W,x,W,x,x,W,x,x,W,x]) (aH.then (pS.g Y a) (aH.inBlock 9 (aH.then (mS.g Y a) (aH.then (iB.g a) (aH.inBlock 8 (aH.then (hN.g Y) (aZ E [.tmp 2] Y))))))) X Z:=
 a8 g fun S b R c g=>a8 g fun d a5 e f g=>bM g fun h i g=>a8 g fun j l m n g=>cT 1 (s:=(aS r [W,W,W,W,x,W,x,x,W,x,x,W,x,W])) (by kernel_rfl) (KF.ok Y a) (bO [(0,.slice S b R),(5,.slice d a5 e),(9,.int .i64 h),(10,.slice j l m)] ⟨c,f,i,n,trivial⟩ (by kernel_rfl) g)
theorem KG.ok(Y:K)(a:U→Nat→Nat→U→Nat→Nat→Int→V→Prop)(X:Fr)(Z:V)(g:sN.g Y a X Z):den prog E (aS r [W,W,W,W,x,W,x,x,W,x,x,W]) (aH.inBlock 9 (aH.then (mS.g Y a) (aH.then (iB.g a) (aH.inBlock 8 (aH.then (hN.g Y) (aZ E [.tmp 2] Y)))))) X Z:=
 e5 (by kernel_rfl) (pS.ok Y a) (sN.ok Y a X Z g)
def rL.t(Y:K)(a:U→Nat→Nat→U→Nat→Nat→Int→V→Prop)(S:U)(b R:Nat)(c:U)(a5 d:Nat)(e:Int)(Z:V):Prop:=
 h8 Z 27 j9 80 80 fun f g=>
 sN.t Y a S b R c a5 d e (some f) ((80:Int).toNat) ((80:Int).toNat) g
def rL.g(Y:K)(a:U→Nat→Nat→U→Nat→Nat→Int→V→Prop)(X:Fr)(Z:V):Prop:=aG (X 0) fun S b R=>aG (X 5) fun c a5 d=>aV .i64 (X 9) fun e=>rL.t Y a S b R c a5 d e Z
theorem rL.ok(Y:K)(a:U→Nat→Nat→U→Nat→Nat→Int→V→Prop)(X:Fr)(Z:V)(g:rL.g Y a X Z):den prog E (aS r [W,W,W,W,x,W,x,x,W,x,x]) (aH.inBlock 9 (aH.then (mS.g Y a) (aH.then (iB.g a) (aH.inBlock 8 (aH.then (hN.g Y) (aZ E [.tmp 2] Y)))))) X Z:=
 a8 g fun S b R c g=>a8 g fun d a5 e f g=>bM g fun h i g=>cT 1 (s:=(aS r [W,W,W,W,x,W,x,x,W,x,x,W])) (by kernel_rfl) (KG.ok Y a) (bO [(0,.slice S b R),(5,.slice d a5 e),(9,.int .i64 h)] ⟨c,f,i,trivial⟩ (by kernel_rfl) g)
theorem KH.ok(Y:K)(a:U→Nat→Nat→U→Nat→Nat→Int→V→Prop)(X:Fr)(Z:V)(g:rL.g Y a X Z):den prog E (aS r [W,W,W,W,x,W,x,x,W,x]) (aH.then (mS.g Y a) (aH.then (iB.g a) (aH.inBlock 8 (aH.then (hN.g Y) (aZ E [.tmp 2] Y))))) X Z:=
 eR (by kernel_rfl) (rL.ok Y a X Z g)
theorem KI.ok(Y:K)(a:U→Nat→Nat→U→Nat→Nat→Int→V→Prop)(X:Fr)(Z:V)(g:rL.g Y a X Z):den prog E (aS r [W,W,W,W,x,W,x,x,W]) (aH.then (iB.g a) (aH.inBlock 8 (aH.then (hN.g Y) (aZ E [.tmp 2] Y)))) X Z:=
 e5 (by kernel_rfl) (mS.ok Y a) (KH.ok Y a X Z g)
def sM.t(Y:K)(a:U→Nat→Nat→U→Nat→Nat→Int→V→Prop)(S:U)(b R:Nat)(c:U)(a5 d:Nat)(e:Int)(Z:V):Prop:=
 cond (decide (e < (((b:Nat):Int)))) (rL.t Y a S b R c a5 d e Z) (hN.t Y S b R c a5 d Z)
def sM.g(Y:K)(a:U→Nat→Nat→U→Nat→Nat→Int→V→Prop)(X:Fr)(Z:V):Prop:=aG (X 0) fun S b R=>aG (X 5) fun c a5 d=>aV .i64 (X 9) fun e=>sM.t Y a S b R c a5 d e Z
theorem sM.ok(Y:K)(a:U→Nat→Nat→U→Nat→Nat→Int→V→Prop)(X:Fr)(Z:V)(g:sM.g Y a X Z):den prog E (aS r [W,W,W,W,x,W,x,x]) (aH.then (iB.g a) (aH.inBlock 8 (aH.then (hN.g Y) (aZ E [.tmp 2] Y)))) X Z:=
 a8 g fun S b R c g=>a8 g fun d a5 e f g=>bM g fun h i g=>cT 1 (s:=(aS r [W,W,W,W,x,W,x,x,W])) (by kernel_rfl) (KI.ok Y a) (bO [(0,.slice S b R),(5,.slice d a5 e),(9,.int .i64 h)] ⟨c,f,i,trivial⟩ (by kernel_rfl) g)
def iB.t(Y:K):Nat→U→Nat→Nat→U→Nat→Nat→Int→V→Prop
 | 0=>fun _ _ _ _ _ _ _ _=>False
 | n+1=>fun S a R b a5 c d Z=>sM.t Y (iB.t Y n) S a R b a5 c d Z
theorem iB.ok(Y:K)(X:Fr)(Z:V)(g:iB.g (fun S a R b a5 c d Z=>∃ n,iB.t Y n S a R b a5 c d Z) X Z):den prog E (aS r [W,W,W,W,x,W,x]) (aH.inBlock 8 (aH.then (hN.g Y) (aZ E [.tmp 2] Y))) X Z:=by
 obtain⟨S,a,R,e,g⟩:=bQ g
 obtain⟨b,a5,c,f,g⟩:=bQ g
 obtain⟨d,h,g⟩:=bS g
 obtain⟨n,g⟩:=g
 refine e1 (fun n=>iB.g (iB.t Y n)) (N:=(aS r [W,W,W,W,x,W,x,x])) (by kernel_rfl) (fun X Z g=>?_) (fun n=>sM.ok Y (iB.t Y n)) n X Z (k e (k f (bI h (g))))
 obtain⟨S,a,R,e,g⟩:=bQ g
 obtain⟨b,a5,c,f,g⟩:=bQ g
 obtain⟨d,h,g⟩:=bS g
 exact g
theorem KJ.ok(Y:K)(X:Fr)(Z:V)(g:iB.g (fun S a R b a5 c d Z=>∃ n,iB.t Y n S a R b a5 c d Z) X Z):den prog E (aS r [W,W,W,W,x,W]) (aH.then (hN.g Y) (aZ E [.tmp 2] Y)) X Z:=
 eR (by kernel_rfl) (iB.ok Y X Z g)
def jW.t(Y:K)(S:U)(a R:Nat)(b:U)(a5 c:Nat)(Z:V):Prop:=
 (∃ n,iB.t Y n S a R b a5 c 0 Z)
def jW.g(Y:K)(X:Fr)(Z:V):Prop:=aG (X 0) fun S a R=>aG (X 5) fun b a5 c=>jW.t Y S a R b a5 c Z
theorem jW.ok(Y:K)(X:Fr)(Z:V)(g:jW.g Y X Z):den prog E (aS r [W,W,W,W,x]) (aH.then (hN.g Y) (aZ E [.tmp 2] Y)) X Z:=
 a8 g fun S a R b g=>a8 g fun c a5 d e g=>cT 1 (s:=(aS r [W,W,W,W,x,W])) (by kernel_rfl) (KJ.ok Y) (bO [(0,.slice S a R),(5,.slice c a5 d)] ⟨b,e,trivial⟩ (by kernel_rfl) g)
theorem KK.ok(Y:K)(X:Fr)(Z:V)(g:jW.g Y X Z):den prog E (aS r [W,W,W,W]) (aZ E [.tmp 2] Y) X Z:=
 e5 (by kernel_rfl) (KE.ok Y) (jW.ok Y X Z g)
def iC.g(bN:U→Nat→Nat→U→Nat→Nat→Int→V→Prop)(X:Fr)(Z:V):Prop:=aG (X 0) fun S a R=>aG (X 5) fun b a5 c=>aV .i64 (X 6) fun d=>bN S a R b a5 c d Z
def mT.t(Y:K)(a:U→Nat→Nat→U→Nat→Nat→Int→V→Prop)(S:U)(b R:Nat)(c:U)(a5 d:Nat)(e:Int)(Z:V):Prop:=
 a2 (IntKind.i64.wrap (e+1)) fun e=>a S b R c a5 d e Z
def mT.g(Y:K)(a:U→Nat→Nat→U→Nat→Nat→Int→V→Prop)(X:Fr)(Z:V):Prop:=aG (X 0) fun S b R=>aG (X 5) fun c a5 d=>aV .i64 (X 6) fun e=>mT.t Y a S b R c a5 d e Z
theorem mT.ok(Y:K)(a:U→Nat→Nat→U→Nat→Nat→Int→V→Prop)(X:Fr)(Z:V)(g:mT.g Y a X Z):den prog E (aS r [W,W,W,x,W,x,x,W,W]) (aH.then (iC.g a) (aH.inBlock 4 (aH.then (jW.g Y) (aZ E [.tmp 2] Y)))) X Z:=
 a8 g fun S a R b g=>a8 g fun c a5 d e g=>bM g fun f h g=>bO [(0,.slice S a R),(5,.slice c a5 d),(6,.int .i64 f)] ⟨b,e,h,trivial⟩ (by kernel_rfl) g
def pT.t(Y:K)(a:U→Nat→Nat→U→Nat→Nat→Int→V→Prop)(S:U)(b R:Nat)(c:U)(a5 d:Nat)(e:Int)(f:U)(g h:Nat)(Z:V):Prop:=
 b4 Z 23 [.slice f g h] fun f g=>
 gW g 23 Bd c a5 d (.slice (some f) 1 1) fun c d f g=>
 mT.t Y a S b R c d f e g
def pT.g(Y:K)(a:U→Nat→Nat→U→Nat→Nat→Int→V→Prop)(X:Fr)(Z:V):Prop:=aG (X 0) fun S b R=>aG (X 5) fun c a5 d=>aV .i64 (X 6) fun e=>aG (X 7) fun f h i=>pT.t Y a S b R c a5 d e f h i Z
theorem pT.ok(Y:K)(a:U→Nat→Nat→U→Nat→Nat→Int→V→Prop)(X:Fr)(Z:V)(g:pT.g Y a X Z):den prog E (aS r [W,W,W,x,W,x,x,W,x,x,W,W]) (aH.inBlock 5 (aH.then (mT.g Y a) (aH.then (iC.g a) (aH.inBlock 4 (aH.then (jW.g Y) (aZ E [.tmp 2] Y)))))) X Z:=
 a8 g fun S a R b g=>a8 g fun c a5 d e g=>bM g fun f h g=>a8 g fun i j l m g=>bO [(0,.slice S a R),(5,.slice c a5 d),(6,.int .i64 f),(7,.slice i j l)] ⟨b,e,h,m,trivial⟩ (by kernel_rfl) g
def l7.g(bN:U→Nat→Nat→U→Nat→Nat→Int→U→Nat→Nat→Int→V→Prop)(X:Fr)(Z:V):Prop:=aG (X 0) fun S a R=>aG (X 5) fun b a5 c=>aV .i64 (X 6) fun d=>aG (X 7) fun e f h=>aV .i64 (X 8) fun i=>bN S a R b a5 c d e f h i Z
def sR.t(Y:K)(a:U→Nat→Nat→U→Nat→Nat→Int→V→Prop)(b:U→Nat→Nat→U→Nat→Nat→Int→U→Nat→Nat→Int→V→Prop)(S:U)(c R:Nat)(d:U)(a5 e:Nat)(f:Int)(g:U)(h i:Nat)(j:Int)(Z:V):Prop:=
 cond (decide (j < 16)) (cL S c f 1 fun l=>
 a6 Z l fun l l m=>
 a2 (IntKind.i64.wrap ((((l:Nat):Int))+j)) fun l=>
 j8 l2.id #[.int .i64 f,.int .i64 l] Z fun l=>
 aV .u64 l fun l=>
 b4 Z 27 [.int .u64 l] fun l m=>
 gW m 27 j9 g h i (.slice (some l) 1 1) fun l m n v=>
 a2 (IntKind.i64.wrap (j+1)) fun j=>
 b S c R d a5 e f l m n j v) (pT.t Y a S c R d a5 e f g h i Z)
def sR.g(Y:K)(a:U→Nat→Nat→U→Nat→Nat→Int→V→Prop)(b:U→Nat→Nat→U→Nat→Nat→Int→U→Nat→Nat→Int→V→Prop)(X:Fr)(Z:V):Prop:=aG (X 0) fun S c R=>aG (X 5) fun d a5 e=>aV .i64 (X 6) fun f=>aG (X 7) fun h i j=>aV .i64 (X 8) fun l=>sR.t Y a b S c R d a5 e f h i j l Z
theorem sR.ok(Y:K)(a:U→Nat→Nat→U→Nat→Nat→Int→V→Prop)(b:U→Nat→Nat→U→Nat→Nat→Int→U→Nat→Nat→Int→V→Prop)(X:Fr)(Z:V)(g:sR.g Y a b X Z):den prog E (aS r [W,W,W,x,W,x,x,W,x,x,W,x,W,x,x]) (aH.then (l7.g b) (aH.inBlock 6 (aH.then (pT.g Y a) (aH.inBlock 5 (aH.then (mT.g Y a) (aH.then (iC.g a) (aH.inBlock 4 (aH.then (jW.g Y) (aZ E [.tmp 2] Y))))))))) X Z:=
 a8 g fun S a R b g=>a8 g fun c a5 d e g=>bM g fun f h g=>a8 g fun i j l m g=>bM g fun n t g=>bO [(0,.slice S a R),(5,.slice c a5 d),(6,.int .i64 f),(7,.slice i j l),(8,.int .i64 n)] ⟨b,e,h,m,t,trivial⟩ (by kernel_rfl) g
def l7.t(Y:K)(a:U→Nat→Nat→U→Nat→Nat→Int→V→Prop):Nat→U→Nat→Nat→U→Nat→Nat→Int→U→Nat→Nat→Int→V→Prop
 | 0=>fun _ _ _ _ _ _ _ _ _ _ _ _=>False
 | n+1=>fun S b R c a5 d e f g h i Z=>sR.t Y a (l7.t Y a n) S b R c a5 d e f g h i Z
theorem l7.ok(Y:K)(a:U→Nat→Nat→U→Nat→Nat→Int→V→Prop)(X:Fr)(Z:V)(g:l7.g (fun S b R c a5 d e f h i j Z=>∃ n,l7.t Y a n S b R c a5 d e f h i j Z) X Z):den prog E (aS r [W,W,W,x,W,x,x,W,x,x,W,x,W,x]) (aH.inBlock 6 (aH.then (pT.g Y a) (aH.inBlock 5 (aH.then (mT.g Y a) (aH.then (iC.g a) (aH.inBlock 4 (aH.then (jW.g Y) (aZ E [.tmp 2] Y)))))))) X Z:=by
 obtain⟨S,b,R,l,g⟩:=bQ g
 obtain⟨c,a5,d,m,g⟩:=bQ g
 obtain⟨e,v,g⟩:=bS g
 obtain⟨f,h,i,D,g⟩:=bQ g
 obtain⟨j,G,g⟩:=bS g
 obtain⟨n,g⟩:=g
 refine e1 (fun n=>l7.g (l7.t Y a n)) (N:=(aS r [W,W,W,x,W,x,x,W,x,x,W,x,W,x,x])) (by kernel_rfl) (fun X Z g=>?_) (fun n=>sR.ok Y a (l7.t Y a n)) n X Z (k l (k m (bI v (k D (bI G (g))))))
 obtain⟨S,b,R,l,g⟩:=bQ g
 obtain⟨c,a5,d,m,g⟩:=bQ g
 obtain⟨e,v,g⟩:=bS g
 obtain⟨f,h,i,D,g⟩:=bQ g
 obtain⟨j,G,g⟩:=bS g
 exact g
theorem KL.ok(Y:K)(a:U→Nat→Nat→U→Nat→Nat→Int→V→Prop)(X:Fr)(Z:V)(g:l7.g (fun S b R c a5 d e f h i j Z=>∃ n,l7.t Y a n S b R c a5 d e f h i j Z) X Z):den prog E (aS r [W,W,W,x,W,x,x,W,x,x,W,x,W]) (aH.then (pT.g Y a) (aH.inBlock 5 (aH.then (mT.g Y a) (aH.then (iC.g a) (aH.inBlock 4 (aH.then (jW.g Y) (aZ E [.tmp 2] Y))))))) X Z:=
 eR (by kernel_rfl) (l7.ok Y a X Z g)
def sQ.t(Y:K)(a:U→Nat→Nat→U→Nat→Nat→Int→V→Prop)(S:U)(b R:Nat)(c:U)(a5 d:Nat)(e:Int)(f:U)(g h:Nat)(Z:V):Prop:=
 (∃ n,l7.t Y a n S b R c a5 d e f g h 0 Z)
def sQ.g(Y:K)(a:U→Nat→Nat→U→Nat→Nat→Int→V→Prop)(X:Fr)(Z:V):Prop:=aG (X 0) fun S b R=>aG (X 5) fun c a5 d=>aV .i64 (X 6) fun e=>aG (X 7) fun f h i=>sQ.t Y a S b R c a5 d e f h i Z
theorem sQ.ok(Y:K)(a:U→Nat→Nat→U→Nat→Nat→Int→V→Prop)(X:Fr)(Z:V)(g:sQ.g Y a X Z):den prog E (aS r [W,W,W,x,W,x,x,W,x,x,W,x]) (aH.then (pT.g Y a) (aH.inBlock 5 (aH.then (mT.g Y a) (aH.then (iC.g a) (aH.inBlock 4 (aH.then (jW.g Y) (aZ E [.tmp 2] Y))))))) X Z:=
 a8 g fun S b R c g=>a8 g fun d a5 e f g=>bM g fun h i g=>a8 g fun j l m n g=>cT 1 (s:=(aS r [W,W,W,x,W,x,x,W,x,x,W,x,W])) (by kernel_rfl) (KL.ok Y a) (bO [(0,.slice S b R),(5,.slice d a5 e),(6,.int .i64 h),(7,.slice j l m)] ⟨c,f,i,n,trivial⟩ (by kernel_rfl) g)
theorem KM.ok(Y:K)(a:U→Nat→Nat→U→Nat→Nat→Int→V→Prop)(X:Fr)(Z:V)(g:sQ.g Y a X Z):den prog E (aS r [W,W,W,x,W,x,x,W,x,x,W]) (aH.inBlock 5 (aH.then (mT.g Y a) (aH.then (iC.g a) (aH.inBlock 4 (aH.then (jW.g Y) (aZ E [.tmp 2] Y)))))) X Z:=
 e5 (by kernel_rfl) (pT.ok Y a) (sQ.ok Y a X Z g)
def rM.t(Y:K)(a:U→Nat→Nat→U→Nat→Nat→Int→V→Prop)(S:U)(b R:Nat)(c:U)(a5 d:Nat)(e:Int)(Z:V):Prop:=
 cL S b e 1 fun f=>
 a6 Z f fun f g h=>
 sQ.t Y a S b R c a5 d e f g h Z
def rM.g(Y:K)(a:U→Nat→Nat→U→Nat→Nat→Int→V→Prop)(X:Fr)(Z:V):Prop:=aG (X 0) fun S b R=>aG (X 5) fun c a5 d=>aV .i64 (X 6) fun e=>rM.t Y a S b R c a5 d e Z
theorem rM.ok(Y:K)(a:U→Nat→Nat→U→Nat→Nat→Int→V→Prop)(X:Fr)(Z:V)(g:rM.g Y a X Z):den prog E (aS r [W,W,W,x,W,x,x,W,x,x]) (aH.inBlock 5 (aH.then (mT.g Y a) (aH.then (iC.g a) (aH.inBlock 4 (aH.then (jW.g Y) (aZ E [.tmp 2] Y)))))) X Z:=
 a8 g fun S b R c g=>a8 g fun d a5 e f g=>bM g fun h i g=>cT 1 (s:=(aS r [W,W,W,x,W,x,x,W,x,x,W])) (by kernel_rfl) (KM.ok Y a) (bO [(0,.slice S b R),(5,.slice d a5 e),(6,.int .i64 h)] ⟨c,f,i,trivial⟩ (by kernel_rfl) g)
theorem KN.ok(Y:K)(a:U→Nat→Nat→U→Nat→Nat→Int→V→Prop)(X:Fr)(Z:V)(g:rM.g Y a X Z):den prog E (aS r [W,W,W,x,W,x,x,W,x]) (aH.then (mT.g Y a) (aH.then (iC.g a) (aH.inBlock 4 (aH.then (jW.g Y) (aZ E [.tmp 2] Y))))) X Z:=
 eR (by kernel_rfl) (rM.ok Y a X Z g)
theorem KO.ok(Y:K)(a:U→Nat→Nat→U→Nat→Nat→Int→V→Prop)(X:Fr)(Z:V)(g:rM.g Y a X Z):den prog E (aS r [W,W,W,x,W,x,x,W]) (aH.then (iC.g a) (aH.inBlock 4 (aH.then (jW.g Y) (aZ E [.tmp 2] Y)))) X Z:=
 e5 (by kernel_rfl) (mT.ok Y a) (KN.ok Y a X Z g)
def sP.t(Y:K)(a:U→Nat→Nat→U→Nat→Nat→Int→V→Prop)(S:U)(b R:Nat)(c:U)(a5 d:Nat)(e:Int)(Z:V):Prop:=
 cond (decide (e < (((b:Nat):Int)))) (rM.t Y a S b R c a5 d e Z) (jW.t Y S b R c a5 d Z)
def sP.g(Y:K)(a:U→Nat→Nat→U→Nat→Nat→Int→V→Prop)(X:Fr)(Z:V):Prop:=aG (X 0) fun S b R=>aG (X 5) fun c a5 d=>aV .i64 (X 6) fun e=>sP.t Y a S b R c a5 d e Z
theorem sP.ok(Y:K)(a:U→Nat→Nat→U→Nat→Nat→Int→V→Prop)(X:Fr)(Z:V)(g:sP.g Y a X Z):den prog E (aS r [W,W,W,x,W,x,x]) (aH.then (iC.g a) (aH.inBlock 4 (aH.then (jW.g Y) (aZ E [.tmp 2] Y)))) X Z:=
 a8 g fun S b R c g=>a8 g fun d a5 e f g=>bM g fun h i g=>cT 1 (s:=(aS r [W,W,W,x,W,x,x,W])) (by kernel_rfl) (KO.ok Y a) (bO [(0,.slice S b R),(5,.slice d a5 e),(6,.int .i64 h)] ⟨c,f,i,trivial⟩ (by kernel_rfl) g)
def iC.t(Y:K):Nat→U→Nat→Nat→U→Nat→Nat→Int→V→Prop
 | 0=>fun _ _ _ _ _ _ _ _=>False
 | n+1=>fun S a R b a5 c d Z=>sP.t Y (iC.t Y n) S a R b a5 c d Z
theorem iC.ok(Y:K)(X:Fr)(Z:V)(g:iC.g (fun S a R b a5 c d Z=>∃ n,iC.t Y n S a R b a5 c d Z) X Z):den prog E (aS r [W,W,W,x,W,x]) (aH.inBlock 4 (aH.then (jW.g Y) (aZ E [.tmp 2] Y))) X Z:=by
 obtain⟨S,a,R,e,g⟩:=bQ g
 obtain⟨b,a5,c,f,g⟩:=bQ g
 obtain⟨d,h,g⟩:=bS g
 obtain⟨n,g⟩:=g
 refine e1 (fun n=>iC.g (iC.t Y n)) (N:=(aS r [W,W,W,x,W,x,x])) (by kernel_rfl) (fun X Z g=>?_) (fun n=>sP.ok Y (iC.t Y n)) n X Z (k e (k f (bI h (g))))
 obtain⟨S,a,R,e,g⟩:=bQ g
 obtain⟨b,a5,c,f,g⟩:=bQ g
 obtain⟨d,h,g⟩:=bS g
 exact g
theorem KP.ok(Y:K)(X:Fr)(Z:V)(g:iC.g (fun S a R b a5 c d Z=>∃ n,iC.t Y n S a R b a5 c d Z) X Z):den prog E (aS r [W,W,W,x,W]) (aH.then (jW.g Y) (aZ E [.tmp 2] Y)) X Z:=
 eR (by kernel_rfl) (iC.ok Y X Z g)
def sT.t(Y:K)(S:U)(a R:Nat)(b:U)(a5 c:Nat)(Z:V):Prop:=
 (∃ n,iC.t Y n S a R b a5 c 0 Z)
def sT.g(Y:K)(X:Fr)(Z:V):Prop:=aG (X 0) fun S a R=>aG (X 5) fun b a5 c=>sT.t Y S a R b a5 c Z
theorem sT.ok(Y:K)(X:Fr)(Z:V)(g:sT.g Y X Z):den prog E (aS r [W,W,W,x]) (aH.then (jW.g Y) (aZ E [.tmp 2] Y)) X Z:=
 a8 g fun S a R b g=>a8 g fun c a5 d e g=>cT 1 (s:=(aS r [W,W,W,x,W])) (by kernel_rfl) (KP.ok Y) (bO [(0,.slice S a R),(5,.slice c a5 d)] ⟨b,e,trivial⟩ (by kernel_rfl) g)
theorem KQ.ok(Y:K)(X:Fr)(Z:V)(g:sT.g Y X Z):den prog E (aS r [W,W,W]) (aZ E [.tmp 2] Y) X Z:=
 e5 (by kernel_rfl) (KK.ok Y) (sT.ok Y X Z g)
def aC.t(Y:K)(S:U)(a R:Nat)(Z:V):Prop:=
 sT.t Y S a R none 0 0 Z
def aC.g(Y:K)(X:Fr)(Z:V):Prop:=aG (X 0) fun S a R=>aC.t Y S a R Z
theorem aC.ok(Y:K)(X:Fr)(Z:V)(g:aC.g Y X Z):den prog E (aS r [W,W]) (aZ E [.tmp 2] Y) X Z:=
 a8 g fun S a R b g=>cT 1 (s:=(aS r [W,W,W])) (by kernel_rfl) (KQ.ok Y) (bO [(0,.slice S a R)] ⟨b,trivial⟩ (by kernel_rfl) g)
def iZ.g(bN:U→Nat→Nat→Int→V→Prop)(X:Fr)(Z:V):Prop:=aG (X 0) fun S a R=>aV .i64 (X 3) fun b=>bN S a R b Z
def oY.t(Y:K)(a:U→Nat→Nat→Int→V→Prop)(S:U)(b R:Nat)(c:Int)(Z:V):Prop:=
 a2 (IntKind.i64.wrap (c+1)) fun c=>a S b R c Z
def oY.g(Y:K)(a:U→Nat→Nat→Int→V→Prop)(X:Fr)(Z:V):Prop:=aG (X 0) fun S b R=>aV .i64 (X 3) fun c=>oY.t Y a S b R c Z
theorem oY.ok(Y:K)(a:U→Nat→Nat→Int→V→Prop)(X:Fr)(Z:V)(g:oY.g Y a X Z):den prog E (aS r [W,x,W,x,x,W,W]) (aH.then (iZ.g a) (aH.inBlock 0 (aH.then (aC.g Y) (aZ E [.tmp 2] Y)))) X Z:=
 a8 g fun S a R b g=>bM g fun c d g=>bO [(0,.slice S a R),(3,.int .i64 c)] ⟨b,d,trivial⟩ (by kernel_rfl) g
def l8.g(bN:U→Nat→Nat→Int→Int→V→Prop)(X:Fr)(Z:V):Prop:=aG (X 0) fun S a R=>aV .i64 (X 3) fun b=>aV .i64 (X 4) fun c=>bN S a R b c Z
def sU.t(Y:K)(a:U→Nat→Nat→Int→V→Prop)(b:U→Nat→Nat→Int→Int→V→Prop)(S:U)(c R:Nat)(d e:Int)(Z:V):Prop:=
 cL S c d 1 fun f=>
 a6 Z f fun f f g=>
 cond (decide (e < (((f:Nat):Int)))) (cL S c d 1 fun f=>
 a6 Z f fun f g h=>
 j8 l2.id #[.int .i64 d,.int .i64 e] Z fun h=>
 aV .u64 h fun h=>
 cL f g e 1 fun f=>
 aW Z f (.int .u64 h) fun f=>
 a2 (IntKind.i64.wrap (e+1)) fun e=>
 b S c R d e f) (oY.t Y a S c R d Z)
def sU.g(Y:K)(a:U→Nat→Nat→Int→V→Prop)(b:U→Nat→Nat→Int→Int→V→Prop)(X:Fr)(Z:V):Prop:=aG (X 0) fun S c R=>aV .i64 (X 3) fun d=>aV .i64 (X 4) fun e=>sU.t Y a b S c R d e Z
theorem sU.ok(Y:K)(a:U→Nat→Nat→Int→V→Prop)(b:U→Nat→Nat→Int→Int→V→Prop)(X:Fr)(Z:V)(g:sU.g Y a b X Z):den prog E (aS r [W,x,W,x,x,W,x,x,W,x,x]) (aH.then (l8.g b) (aH.inBlock 2 (aH.inBlock 1 (aH.then (oY.g Y a) (aH.then (iZ.g a) (aH.inBlock 0 (aH.then (aC.g Y) (aZ E [.tmp 2] Y)))))))) X Z:=
 a8 g fun S a R b g=>bM g fun c d g=>bM g fun e f g=>bO [(0,.slice S a R),(3,.int .i64 c),(4,.int .i64 e)] ⟨b,d,f,trivial⟩ (by kernel_rfl) g
def l8.t(Y:K)(a:U→Nat→Nat→Int→V→Prop):Nat→U→Nat→Nat→Int→Int→V→Prop
 | 0=>fun _ _ _ _ _ _=>False
 | n+1=>fun S b R c d Z=>sU.t Y a (l8.t Y a n) S b R c d Z
theorem l8.ok(Y:K)(a:U→Nat→Nat→Int→V→Prop)(X:Fr)(Z:V)(g:l8.g (fun S b R c d Z=>∃ n,l8.t Y a n S b R c d Z) X Z):den prog E (aS r [W,x,W,x,x,W,x,x,W,x]) (aH.inBlock 2 (aH.inBlock 1 (aH.then (oY.g Y a) (aH.then (iZ.g a) (aH.inBlock 0 (aH.then (aC.g Y) (aZ E [.tmp 2] Y))))))) X Z:=by
 obtain⟨S,b,R,e,g⟩:=bQ g
 obtain⟨c,f,g⟩:=bS g
 obtain⟨d,h,g⟩:=bS g
 obtain⟨n,g⟩:=g
 refine e1 (fun n=>l8.g (l8.t Y a n)) (N:=(aS r [W,x,W,x,x,W,x,x,W,x,x])) (by kernel_rfl) (fun X Z g=>?_) (fun n=>sU.ok Y a (l8.t Y a n)) n X Z (k e (bI f (bI h (g))))
 obtain⟨S,b,R,e,g⟩:=bQ g
 obtain⟨c,f,g⟩:=bS g
 obtain⟨d,h,g⟩:=bS g
 exact g
theorem KR.ok(Y:K)(a:U→Nat→Nat→Int→V→Prop)(X:Fr)(Z:V)(g:l8.g (fun S b R c d Z=>∃ n,l8.t Y a n S b R c d Z) X Z):den prog E (aS r [W,x,W,x,x,W,x,x,W]) (aH.inBlock 1 (aH.then (oY.g Y a) (aH.then (iZ.g a) (aH.inBlock 0 (aH.then (aC.g Y) (aZ E [.tmp 2] Y)))))) X Z:=
 eR (by kernel_rfl) (l8.ok Y a X Z g)
def rN.t(Y:K)(a:U→Nat→Nat→Int→V→Prop)(S:U)(b R:Nat)(c:Int)(Z:V):Prop:=
 (∃ n,l8.t Y a n S b R c 0 Z)
def rN.g(Y:K)(a:U→Nat→Nat→Int→V→Prop)(X:Fr)(Z:V):Prop:=aG (X 0) fun S b R=>aV .i64 (X 3) fun c=>rN.t Y a S b R c Z
theorem rN.ok(Y:K)(a:U→Nat→Nat→Int→V→Prop)(X:Fr)(Z:V)(g:rN.g Y a X Z):den prog E (aS r [W,x,W,x,x,W,x,x]) (aH.inBlock 1 (aH.then (oY.g Y a) (aH.then (iZ.g a) (aH.inBlock 0 (aH.then (aC.g Y) (aZ E [.tmp 2] Y)))))) X Z:=
 a8 g fun S b R c g=>bM g fun d e g=>cT 1 (s:=(aS r [W,x,W,x,x,W,x,x,W])) (by kernel_rfl) (KR.ok Y a) (bO [(0,.slice S b R),(3,.int .i64 d)] ⟨c,e,trivial⟩ (by kernel_rfl) g)
theorem KS.ok(Y:K)(a:U→Nat→Nat→Int→V→Prop)(X:Fr)(Z:V)(g:rN.g Y a X Z):den prog E (aS r [W,x,W,x,x,W,x]) (aH.then (oY.g Y a) (aH.then (iZ.g a) (aH.inBlock 0 (aH.then (aC.g Y) (aZ E [.tmp 2] Y))))) X Z:=
 eR (by kernel_rfl) (rN.ok Y a X Z g)
theorem KT.ok(Y:K)(a:U→Nat→Nat→Int→V→Prop)(X:Fr)(Z:V)(g:rN.g Y a X Z):den prog E (aS r [W,x,W,x,x,W]) (aH.then (iZ.g a) (aH.inBlock 0 (aH.then (aC.g Y) (aZ E [.tmp 2] Y)))) X Z:=
 e5 (by kernel_rfl) (oY.ok Y a) (KS.ok Y a X Z g)
def sS.t(Y:K)(a:U→Nat→Nat→Int→V→Prop)(S:U)(b R:Nat)(c:Int)(Z:V):Prop:=
 cond (decide (c < (((b:Nat):Int)))) (rN.t Y a S b R c Z) (aC.t Y S b R Z)
def sS.g(Y:K)(a:U→Nat→Nat→Int→V→Prop)(X:Fr)(Z:V):Prop:=aG (X 0) fun S b R=>aV .i64 (X 3) fun c=>sS.t Y a S b R c Z
theorem sS.ok(Y:K)(a:U→Nat→Nat→Int→V→Prop)(X:Fr)(Z:V)(g:sS.g Y a X Z):den prog E (aS r [W,x,W,x,x]) (aH.then (iZ.g a) (aH.inBlock 0 (aH.then (aC.g Y) (aZ E [.tmp 2] Y)))) X Z:=
 a8 g fun S b R c g=>bM g fun d e g=>cT 1 (s:=(aS r [W,x,W,x,x,W])) (by kernel_rfl) (KT.ok Y a) (bO [(0,.slice S b R),(3,.int .i64 d)] ⟨c,e,trivial⟩ (by kernel_rfl) g)
def iZ.t(Y:K):Nat→U→Nat→Nat→Int→V→Prop
 | 0=>fun _ _ _ _ _=>False
 | n+1=>fun S a R b Z=>sS.t Y (iZ.t Y n) S a R b Z
theorem iZ.ok(Y:K)(X:Fr)(Z:V)(g:iZ.g (fun S a R b Z=>∃ n,iZ.t Y n S a R b Z) X Z):den prog E (aS r [W,x,W,x]) (aH.inBlock 0 (aH.then (aC.g Y) (aZ E [.tmp 2] Y))) X Z:=by
 obtain⟨S,a,R,c,g⟩:=bQ g
 obtain⟨b,d,g⟩:=bS g
 obtain⟨n,g⟩:=g
 refine e1 (fun n=>iZ.g (iZ.t Y n)) (N:=(aS r [W,x,W,x,x])) (by kernel_rfl) (fun X Z g=>?_) (fun n=>sS.ok Y (iZ.t Y n)) n X Z (k c (bI d (g)))
 obtain⟨S,a,R,c,g⟩:=bQ g
 obtain⟨b,d,g⟩:=bS g
 exact g
theorem KU.ok(Y:K)(X:Fr)(Z:V)(g:iZ.g (fun S a R b Z=>∃ n,iZ.t Y n S a R b Z) X Z):den prog E (aS r [W,x,W]) (aH.then (aC.g Y) (aZ E [.tmp 2] Y)) X Z:=
 eR (by kernel_rfl) (iZ.ok Y X Z g)
def sV.t(Y:K)(S:U)(a R:Nat)(Z:V):Prop:=
 (∃ n,iZ.t Y n S a R 0 Z)
def sV.g(Y:K)(X:Fr)(Z:V):Prop:=aG (X 0) fun S a R=>sV.t Y S a R Z
theorem sV.ok(Y:K)(X:Fr)(Z:V)(g:sV.g Y X Z):den prog E (aS r [W,x]) (aH.then (aC.g Y) (aZ E [.tmp 2] Y)) X Z:=
 a8 g fun S a R b g=>cT 1 (s:=(aS r [W,x,W])) (by kernel_rfl) (KU.ok Y) (bO [(0,.slice S a R)] ⟨b,trivial⟩ (by kernel_rfl) g)
theorem KV.ok(Y:K)(X:Fr)(Z:V)(g:sV.g Y X Z):den prog E (aS r [W]) (aZ E [.tmp 2] Y) X Z:=
 e5 (by kernel_rfl) (aC.ok Y) (sV.ok Y X Z g)
def F.t(Y:K)(S:U)(a R:Nat)(Z:V):Prop:=
 sV.t Y S a R Z
def F.g(Y:K)(X:Fr)(Z:V):Prop:=aG (X 0) fun S a R=>F.t Y S a R Z
theorem F.ok(Y:K)(X:Fr)(Z:V)(g:F.g Y X Z):den prog E r (aZ E [.tmp 2] Y) X Z:=
 a8 g fun S a R b g=>cT 1 (s:=(aS r [W])) (by kernel_rfl) (KV.ok Y) (bO [(0,.slice S a R)] ⟨b,trivial⟩ (by kernel_rfl) g)
def t(S:U)(a R:Nat)(Z:V)(Y:K):Prop:=F.t Y S a R Z
theorem ok{S:U}{a:Nat}{R:Nat}{Z:V}{Y:K}(g:t S a R Z Y):aF id #[.slice S a R] Z Y:=
 c7 c8 (L:=r) (cY:=[.tmp 2]) Tryz.func23 (by kernel_rfl) (by kernel_rfl) (by kernel_rfl) (args:=[.slice S a R]) (by kernel_rfl) (F.ok Y _ Z (k rfl (g)))
end eF
namespace pR
noncomputable def r:Code:=c6 Tryz.f24
def F.t(Y:K)(a:Int)(b:Bool)(c:U)(d e:Nat)(f:Bool)(g:U)(h i:Nat)(j:Int)(aT:Bool)(l:U)(m n:Nat)(cU:Bool)(v:U)(D E:Nat)(Z:V):Prop:=
 b4 Z 29 [.int .i64 a,.bool b,.slice c d e,.bool f,.slice g h i,.int .i64 j] fun a b=>
 b4 b 25 [.bool aT,.slice l m n] fun b c=>
 b4 c 25 [.bool cU,.slice v D E] fun D E=>
 cI E .i64 (a.add 0) fun c=>
 cond (c == 2) (b.block < E.size∧bB E (b.add 0) fun d=>
 a6 E (b.add 1) fun e f g=>
 aF eQ.id #[.agg #[.bool d,.slice e f g]] E fun d e=>
 b9 d fun d=>
 (cG E.size E e)∧(a.add 1).block < E.size∧bB e ((a.add 1).add 0) fun f=>
 a6 e ((a.add 1).add 1) fun g h i=>
 aF iW.id #[.agg #[.bool f,.slice g h i]] e fun f g=>
 b9 f fun f=>
 (cG E.size e g)∧Y (.bool (d == f)) g) (cond (c == 3) (b.block < E.size∧bB E (b.add 0) fun d=>
 a6 E (b.add 1) fun e f g=>
 aF nB.id #[.agg #[.bool d,.slice e f g]] E fun d e=>
 aV .i64 d fun d=>
 (cG E.size E e)∧(a.add 1).block < E.size∧bB e ((a.add 1).add 0) fun f=>
 a6 e ((a.add 1).add 1) fun g h i=>
 aF oV.id #[.agg #[.bool f,.slice g h i]] e fun f g=>
 aV .i64 f fun f=>
 (cG E.size e g)∧Y (.bool (d == f)) g) (cond (c == 4) (bB E (b.add 0) fun d=>
 a6 E (b.add 1) fun e f g=>
 aF mM.id #[.agg #[.bool d,.slice e f g]] E fun d e=>
 c0 d fun d=>
 dG d .i64 fun d f=>
 dG f .i64 fun f g=>
 bC g <| bB e ((a.add 1).add 0) fun g=>
 a6 e ((a.add 1).add 1) fun h i j=>
 aF oU.id #[.agg #[.bool g,.slice h i j]] e fun e g=>
 c0 e fun e=>
 dG e .i64 fun e h=>
 dG h .i64 fun h i=>
 bC i <| cond (d == e) (Y (.bool (f == h)) g) (Y (.bool false) g)) (cond (c == 5) (bB E (b.add 0) fun c=>
 a6 E (b.add 1) fun b d e=>
 bB E (D.add 0) fun f=>
 a6 E (D.add 1) fun D g h=>
 aF nC.id #[.agg #[.bool c,.slice b d e],.agg #[.bool f,.slice D g h]] E fun D b=>
 c0 D fun D=>
 dG D .i64 fun D c=>
 dG c .i64 fun c d=>
 bC d <| bB b ((a.add 1).add 0) fun d=>
 a6 b ((a.add 1).add 1) fun e f g=>
 bB b ((a.add 3).add 0) fun h=>
 a6 b ((a.add 3).add 1) fun a i j=>
 aF n3.id #[.agg #[.bool d,.slice e f g],.agg #[.bool h,.slice a i j]] b fun a b=>
 c0 a fun a=>
 dG a .i64 fun a d=>
 dG d .i64 fun d e=>
 bC e <| cond (D == a) (Y (.bool (c == d)) b) (Y (.bool false) b)) (Y (.bool true) E))))
def F.g(Y:K)(X:Fr)(Z:V):Prop:=bU (X 0) fun a=>bR a fun a b=>aV .i64 a fun a=>bR b fun b c=>b9 b fun b=>bR c fun c d=>aG c fun c e f=>bR d fun d h=>b9 d fun d=>bR h fun h i=>aG h fun h j l=>bR i fun i m=>aV .i64 i fun i=>bC m <| bU (X 1) fun dV=>bR dV fun m n=>b9 m fun aT=>bR n fun m n=>aG m fun m v D=>bC n <| bU (X 2) fun j5=>bR j5 fun n E=>b9 n fun cU=>bR E fun E n=>aG E fun E G H=>bC n <| F.t Y a b c e f d h j l i aT m v D cU E G H Z
theorem F.ok(Y:K)(X:Fr)(Z:V)(g:F.g Y X Z):den prog E r (aZ E [.tmp 6] Y) X Z:=by
 obtain⟨Lt,a,b⟩:=eH g
 obtain⟨Lu,Lv,rfl,c⟩:=cH b
 obtain⟨d,rfl,e⟩:=bS c
 obtain⟨Lw,Lx,rfl,f⟩:=cH e
 obtain⟨h,rfl,i⟩:=dY f
 obtain⟨Ly,Lz,rfl,j⟩:=cH i
 obtain⟨l,m,n,rfl,t⟩:=bQ j
 obtain⟨LA,LB,rfl,v⟩:=cH t
 obtain⟨D,rfl,G⟩:=dY v
 obtain⟨LC,LD,rfl,H⟩:=cH G
 obtain⟨P,K5,K6,rfl,K7⟩:=bQ H
 obtain⟨LF,LG,rfl,K8⟩:=cH K7
 obtain⟨K9,rfl,La⟩:=bS K8
 obtain⟨rfl,g⟩:=eD La
 obtain⟨dV,Lb,Lc⟩:=eH g
 obtain⟨LH,LI,rfl,Ld⟩:=cH Lc
 obtain⟨aT,rfl,Le⟩:=dY Ld
 obtain⟨LJ,LK,rfl,Lf⟩:=cH Le
 obtain⟨Lg,Lh,Li,rfl,Lj⟩:=bQ Lf
 obtain⟨rfl,g⟩:=eD Lj
 obtain⟨j5,Lk,Ll⟩:=eH g
 obtain⟨LL,LM,rfl,Lm⟩:=cH Ll
 obtain⟨cU,rfl,Ln⟩:=dY Lm
 obtain⟨LN,LO,rfl,Lo⟩:=cH Ln
 obtain⟨Lp,Lq,Lr,rfl,Ls⟩:=bQ Lo
 obtain⟨rfl,g⟩:=eD Ls
 exact bO [(0,.agg #[.int .i64 d,.bool h,.slice l m n,.bool D,.slice P K5 K6,.int .i64 K9]),(1,.agg #[.bool aT,.slice Lg Lh Li]),(2,.agg #[.bool cU,.slice Lp Lq Lr])] ⟨a,Lb,Lk,trivial⟩ (by kernel_rfl) g
def t(a:Int)(b:Bool)(c:U)(d e:Nat)(f:Bool)(g:U)(h i:Nat)(j:Int)(aT:Bool)(l:U)(m n:Nat)(cU:Bool)(v:U)(D E:Nat)(Z:V)(Y:K):Prop:=F.t Y a b c d e f g h i j aT l m n cU v D E Z
theorem ok{a:Int}{b:Bool}{c:U}{d:Nat}{e:Nat}{f:Bool}{h:U}{i:Nat}{j:Nat}{l:Int}{aT:Bool}{m:U}{n:Nat}{v:Nat}{cU:Bool}{D:U}{E:Nat}{G:Nat}{Z:V}{Y:K}(g:t a b c d e f h i j l aT m n v cU D E G Z Y):aF id #[.agg #[.int .i64 a,.bool b,.slice c d e,.bool f,.slice h i j,.int .i64 l],.agg #[.bool aT,.slice m n v],.agg #[.bool cU,.slice D E G]] Z Y:=
 c7 c8 (L:=r) (cY:=[.tmp 6]) Tryz.func24 (by kernel_rfl) (by kernel_rfl) (by kernel_rfl) (args:=[.agg #[.int .i64 a,.bool b,.slice c d e,.bool f,.slice h i j,.int .i64 l],.agg #[.bool aT,.slice m n v],.agg #[.bool cU,.slice D E G]]) (by kernel_rfl) (F.ok Y _ Z (bZ rfl (aM (bI rfl (aM (aO rfl (aM (k rfl (aM (aO rfl (aM (k rfl (aM (bI rfl (bP (bZ rfl (aM (aO rfl (aM (k rfl (bP (bZ rfl (aM (aO rfl (aM (k rfl (bP (g))))))))))))))))))))))))))))
end pR
namespace j1
noncomputable def r:Code:=c6 Tryz.f25
def aC.t(Y:K)(a:U)(cM b:Nat)(Z:V):Prop:=
 Y (.slice a cM b) Z
def aC.g(Y:K)(X:Fr)(Z:V):Prop:=aG (X 4) fun a cM b=>aC.t Y a cM b Z
theorem aC.ok(Y:K)(X:Fr)(Z:V)(g:aC.g Y X Z):den prog E (aS r [W,W,W,W]) (aZ E [.tmp 2] Y) X Z:=
 a8 g fun a cM b c g=>bO [(4,.slice a cM b)] ⟨c,trivial⟩ (by kernel_rfl) g
def bG.g(bN:U→Nat→Nat→U→Nat→Nat→Int→V→Prop)(X:Fr)(Z:V):Prop:=aG (X 3) fun a dB b=>aG (X 4) fun c cM d=>aV .i64 (X 5) fun e=>bN a dB b c cM d e Z
def b0.t(Y:K)(a:U→Nat→Nat→U→Nat→Nat→Int→V→Prop)(b:U)(dB c:Nat)(d:U)(cM e:Nat)(f:Int)(Z:V):Prop:=
 cond (decide (f < (((dB:Nat):Int)))) (cL b dB f 1 fun g=>
 cI Z .u32 g fun g=>
 a2 (IntKind.u64.wrap g) fun g=>
 a2 (IntKind.i64.wrap (f+1)) fun h=>
 cond (decide (h < (((dB:Nat):Int)))) (a2 (IntKind.i64.wrap (f+1)) fun h=>
 cL b dB h 1 fun h=>
 cI Z .u32 h fun h=>
 a2 (IntKind.u64.wrap h) fun h=>
 0≤(32:Int)∧a2 (jM .u64 h 32) fun h=>
 a2 (IntKind.u64.wrap (g+h)) fun h=>
 b4 Z 27 [.int .u64 h] fun h i=>
 gW i 27 j9 d cM e (.slice (some h) 1 1) fun h i j l=>
 a2 (IntKind.i64.wrap (f+2)) fun m=>
 a b dB c h i j m l) (b4 Z 27 [.int .u64 g] fun g h=>
 gW h 27 j9 d cM e (.slice (some g) 1 1) fun g h i j=>
 a2 (IntKind.i64.wrap (f+2)) fun f=>
 a b dB c g h i f j)) (aC.t Y d cM e Z)
def b0.g(Y:K)(a:U→Nat→Nat→U→Nat→Nat→Int→V→Prop)(X:Fr)(Z:V):Prop:=aG (X 3) fun b dB c=>aG (X 4) fun d cM e=>aV .i64 (X 5) fun f=>b0.t Y a b dB c d cM e f Z
theorem b0.ok(Y:K)(a:U→Nat→Nat→U→Nat→Nat→Int→V→Prop)(X:Fr)(Z:V)(g:b0.g Y a X Z):den prog E (aS r [W,W,W,x,W,x,x]) (aH.then (bG.g a) (aH.inBlock 0 (aH.then (aC.g Y) (aZ E [.tmp 2] Y)))) X Z:=
 a8 g fun a dB b c g=>a8 g fun d cM e f g=>bM g fun h i g=>bO [(3,.slice a dB b),(4,.slice d cM e),(5,.int .i64 h)] ⟨c,f,i,trivial⟩ (by kernel_rfl) g
def bG.t(Y:K):Nat→U→Nat→Nat→U→Nat→Nat→Int→V→Prop
 | 0=>fun _ _ _ _ _ _ _ _=>False
 | n+1=>fun a dB b c cM d e Z=>b0.t Y (bG.t Y n) a dB b c cM d e Z
theorem bG.ok(Y:K)(X:Fr)(Z:V)(g:bG.g (fun a dB b c cM d e Z=>∃ n,bG.t Y n a dB b c cM d e Z) X Z):den prog E (aS r [W,W,W,x,W,x]) (aH.inBlock 0 (aH.then (aC.g Y) (aZ E [.tmp 2] Y))) X Z:=by
 obtain⟨a,dB,b,f,g⟩:=bQ g
 obtain⟨c,cM,d,h,g⟩:=bQ g
 obtain⟨e,i,g⟩:=bS g
 obtain⟨n,g⟩:=g
 refine e1 (fun n=>bG.g (bG.t Y n)) (N:=(aS r [W,W,W,x,W,x,x])) (by kernel_rfl) (fun X Z g=>?_) (fun n=>b0.ok Y (bG.t Y n)) n X Z (k f (k h (bI i (g))))
 obtain⟨a,dB,b,f,g⟩:=bQ g
 obtain⟨c,cM,d,h,g⟩:=bQ g
 obtain⟨e,i,g⟩:=bS g
 exact g
theorem eP.ok(Y:K)(X:Fr)(Z:V)(g:bG.g (fun a dB b c cM d e Z=>∃ n,bG.t Y n a dB b c cM d e Z) X Z):den prog E (aS r [W,W,W,x,W]) (aH.then (aC.g Y) (aZ E [.tmp 2] Y)) X Z:=
 eR (by kernel_rfl) (bG.ok Y X Z g)
def a7.t(Y:K)(a:U)(dB b:Nat)(c:U)(cM d:Nat)(Z:V):Prop:=
 (∃ n,bG.t Y n a dB b c cM d 0 Z)
def a7.g(Y:K)(X:Fr)(Z:V):Prop:=aG (X 3) fun a dB b=>aG (X 4) fun c cM d=>a7.t Y a dB b c cM d Z
theorem a7.ok(Y:K)(X:Fr)(Z:V)(g:a7.g Y X Z):den prog E (aS r [W,W,W,x]) (aH.then (aC.g Y) (aZ E [.tmp 2] Y)) X Z:=
 a8 g fun a dB b c g=>a8 g fun d cM e f g=>cT 1 (s:=(aS r [W,W,W,x,W])) (by kernel_rfl) (eP.ok Y) (bO [(3,.slice a dB b),(4,.slice d cM e)] ⟨c,f,trivial⟩ (by kernel_rfl) g)
theorem gV.ok(Y:K)(X:Fr)(Z:V)(g:a7.g Y X Z):den prog E (aS r [W,W,W]) (aZ E [.tmp 2] Y) X Z:=
 e5 (by kernel_rfl) (aC.ok Y) (a7.ok Y X Z g)
def F.t(Y:K)(S:U)(a R:Nat)(Z:V):Prop:=
 aF g5.id #[.slice S a R] Z fun a b=>
 aG a fun a c d=>
 (2:Int) ≠ 0∧a2 (IntKind.i64.wrap (Int.tdiv (((c:Nat):Int)) 2)) fun e=>
 a2 (IntKind.i64.wrap (e+1)) fun e=>
 h8 b 27 j9 0 e fun b f=>
 a7.t Y a c d (some b) ((0:Int).toNat) e.toNat f
def F.g(Y:K)(X:Fr)(Z:V):Prop:=aG (X 0) fun S a R=>F.t Y S a R Z
theorem F.ok(Y:K)(X:Fr)(Z:V)(g:F.g Y X Z):den prog E r (aZ E [.tmp 2] Y) X Z:=
 a8 g fun S a R b g=>cT 3 (s:=(aS r [W,W,W])) (by kernel_rfl) (gV.ok Y) (bO [(0,.slice S a R)] ⟨b,trivial⟩ (by kernel_rfl) g)
def t(S:U)(a R:Nat)(Z:V)(Y:K):Prop:=F.t Y S a R Z
theorem ok{S:U}{a:Nat}{R:Nat}{Z:V}{Y:K}(g:t S a R Z Y):aF id #[.slice S a R] Z Y:=
 c7 c8 (L:=r) (cY:=[.tmp 2]) Tryz.func25 (by kernel_rfl) (by kernel_rfl) (by kernel_rfl) (args:=[.slice S a R]) (by kernel_rfl) (F.ok Y _ Z (k rfl (g)))
end j1
namespace fK
noncomputable def r:Code:=c6 Tryz.f26
def F.t(Y:K)(a:Bool)(b:U)(y c:Nat)(Z:V):Prop:=
 b4 Z 37 gB.aK fun d e=>
 aF g5.id #[.slice b y c] e fun b c=>
 aG b fun b e f=>
 cond a (aW c (d.add 0) (.bool (decide ((((e:Nat):Int)) > 0))) fun a=>
 aW a (d.add 1) (.slice b e f) fun a=>
 bB a (d.add 0) fun g=>
 a6 a (d.add 1) fun h i j=>
 Y (.agg #[.bool g,.slice h i j]) a) (aW c (d.add 0) (.bool false) fun a=>
 aW a (d.add 1) (.slice b e f) fun a=>
 bB a (d.add 0) fun b=>
 a6 a (d.add 1) fun c d e=>
 Y (.agg #[.bool b,.slice c d e]) a)
def F.g(Y:K)(X:Fr)(Z:V):Prop:=b9 (X 0) fun a=>aG (X 1) fun b y c=>F.t Y a b y c Z
theorem F.ok(Y:K)(X:Fr)(Z:V)(g:F.g Y X Z):den prog E r (aZ E [.cell 4 37] Y) X Z:=
 p6 g fun a b g=>a8 g fun c y d e g=>bO [(0,.bool a),(1,.slice c y d)] ⟨b,e,trivial⟩ (by kernel_rfl) g
def t(a:Bool)(b:U)(y c:Nat)(Z:V)(Y:K):Prop:=F.t Y a b y c Z
theorem ok{a:Bool}{b:U}{y:Nat}{c:Nat}{Z:V}{Y:K}(g:t a b y c Z Y):aF id #[.bool a,.slice b y c] Z Y:=
 c7 c8 (L:=r) (cY:=[.cell 4 37]) Tryz.func26 (by kernel_rfl) (by kernel_rfl) (by kernel_rfl) (args:=[.bool a,.slice b y c]) (by kernel_rfl) (F.ok Y _ Z (aO rfl (k rfl (g))))
end fK
end Go.Proofs.YtllhckjfhefcdaaGreatDoor.G
