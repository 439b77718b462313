import Derived.Test.YtelmicicapbgeaaKE
namespace Go.Proofs.Ytelmicicapbgeaa.G
open Go.Gv
set_option linter.unusedVariables false
set_option maxRecDepth 100000
namespace iV
noncomputable def q:Code:=c8 Try.f3
def bP.t(Y:J)(aU aA:Int)(aL aR:Int)(a b:Addr)(c d:Addr)(Z:V):Prop:=
 aG hI.id #[.int .i64 1] Z fun e f=>
 cE e fun e=>
 cX e fun e g=>
 bY g fun g h i j=>
 bG j <| aN (IntKind.i64.wrap (aR+1)) fun j=>
 aG fZ.id #[.agg #[.bool e,.slice g h i],.int .i64 j] f fun e f=>
 cE e fun e=>
 cX e fun e g=>
 bY g fun g h i j=>
 bG j <| cU f 34 eE.aF fun f j=>
 bI j (f.add 0) (.bool e) fun e=>
 bI e (f.add 1) (.slice g h i) fun e=>
 d.block < e.size∧c4 e (d.add 0) fun g=>
 cR e (d.add 1) fun d h i=>
 (a.add 2).block < e.size∧c5 e .i64 (a.add 2) fun j=>
 aN (IntKind.i64.wrap (j+70)) fun j=>
 aG fZ.id #[.agg #[.bool g,.slice d h i],.int .i64 j] e fun d g=>
 cE d fun d=>
 cX d fun d h=>
 bY h fun h i j l=>
 bG l <| (cA e.size e g)∧f.block < e.size∧c4 g (f.add 0) fun l=>
 cR g (f.add 1) fun m n v=>
 aG fZ.id #[.agg #[.bool l,.slice m n v],.int .i64 70] g fun l m=>
 cE l fun l=>
 cX l fun l n=>
 bY n fun n v D E=>
 bG E <| (cA e.size g m)∧aG iA.id #[.agg #[.bool d,.slice h i j],.agg #[.bool l,.slice n v D]] m fun D E=>
 aC .i64 D fun D=>
 (cA e.size m E)∧cond (decide (D≤0)) (Y (.bool false) E) (c.block < E.size∧c4 E (c.add 0) fun D=>
 cR E (c.add 1) fun d e g=>
 (a.add 2).block < E.size∧c5 E .i64 (a.add 2) fun h=>
 aN (IntKind.i64.wrap (h+70)) fun h=>
 aG fZ.id #[.agg #[.bool D,.slice d e g],.int .i64 h] E fun D d=>
 cE D fun D=>
 cX D fun D e=>
 bY e fun e g h i=>
 bG i <| (cA E.size E d)∧f.block < E.size∧c4 d (f.add 0) fun i=>
 cR d (f.add 1) fun f j l=>
 aG fZ.id #[.agg #[.bool i,.slice f j l],.int .i64 71] d fun f i=>
 cE f fun f=>
 cX f fun f j=>
 bY j fun j l m n=>
 bG n <| (cA E.size d i)∧aG iA.id #[.agg #[.bool D,.slice e g h],.agg #[.bool f,.slice j l m]] i fun D d=>
 aC .i64 D fun D=>
 (cA E.size i d)∧cond (decide (D≥0)) (Y (.bool false) d) (aN (IntKind.i64.wrap (aA - 1)) fun D=>
 0≤D∧aN (e7 .u64 1 D) fun D=>
 aN (IntKind.i64.wrap (aA - 1)) fun E=>
 0≤E∧aN (e7 .u64 1 E) fun E=>
 aN (IntKind.u64.wrap (E - 1)) fun E=>
 aN (fK .u64 aU E) fun E=>
 aN (iX .u64 D E) fun D=>
 c4 d (b.add 0) fun E=>
 cR d (b.add 1) fun e f g=>
 aG hR.id #[.int .u64 D,.int .i64 aL,.agg #[.bool E,.slice e f g],.int .i64 aR] d fun E d=>
 cE E fun E=>
 cX E fun E e=>
 bY e fun e f g h=>
 bG h <| cU d 34 eE.aF fun d h=>
 bI h (d.add 0) (.bool E) fun E=>
 bI E (d.add 1) (.slice e f g) fun E=>
 c4 E (d.add 0) fun e=>
 cR E (d.add 1) fun f g h=>
 c4 E (b.add 0) fun i=>
 cR E (b.add 1) fun b j l=>
 aG dQ.id #[.int .u64 D,.int .i64 aL,.agg #[.bool e,.slice f g h],.agg #[.bool i,.slice b j l],.int .i64 aR] E fun E b=>
 cO E fun E=>
 cL E fun E e=>
 cE E fun E=>
 cX E fun E f=>
 bY f fun f g h i=>
 bG i <| cL e fun e i=>
 cE e fun e=>
 cX e fun e j=>
 bY j fun j l m n=>
 bG n <| bG i <| cU b 34 eE.aF fun b i=>
 cU i 34 eE.aF fun i n=>
 bI n (b.add 0) (.bool E) fun E=>
 bI E (b.add 1) (.slice f g h) fun E=>
 bI E (i.add 0) (.bool e) fun E=>
 bI E (i.add 1) (.slice j l m) fun E=>
 c5 E .u64 (a.add 0) fun b=>
 cond (D == b) (d.block < E.size∧c4 E (d.add 0) fun D=>
 cR E (d.add 1) fun b d e=>
 (a.add 1).block < E.size∧cR E (a.add 1) fun a f g=>
 aG hX.id #[.agg #[.bool false,.slice a f g]] E fun a f=>
 cE a fun a=>
 cX a fun a g=>
 bY g fun g h j l=>
 bG l <| (cA E.size E f)∧aG iA.id #[.agg #[.bool D,.slice b d e],.agg #[.bool a,.slice g h j]] f fun D a=>
 aC .i64 D fun D=>
 (cA E.size f a)∧Y (.bool (D == 0)) a) (c4 E (i.add 0) fun D=>
 cR E (i.add 1) fun a b d=>
 c4 E (c.add 0) fun e=>
 cR E (c.add 1) fun c f g=>
 aG iA.id #[.agg #[.bool D,.slice a b d],.agg #[.bool e,.slice c f g]] E fun D E=>
 aC .i64 D fun D=>
 Y (.bool (decide (D > 0))) E)))
def bP.g(Y:J)(X:Fr)(Z:V):Prop:=aC .u64 (X 2) fun aU=>aC .i64 (X 7) fun aA=>aC .i64 (X 8) fun aL=>aC .i64 (X 9) fun aR=>gB (X 10) fun a=>gB (X 14) fun b=>gB (X 15) fun c=>gB (X 16) fun d=>bP.t Y aU aA aL aR a b c d Z
theorem bP.ok(Y:J)(X:Fr)(Z:V)(g:bP.g Y X Z):den prog E (aP q [W,W,W,W,W,W,W,W,W,W]) (aX E [.tmp 6] Y) X Z:=
 aW g fun aU a g=>aW g fun aA b g=>aW g fun aL c g=>aW g fun aR d g=>gN g fun e f g=>gN g fun h i g=>gN g fun j l g=>gN g fun m n g=>bH [(2,.int .u64 aU),(7,.int .i64 aA),(8,.int .i64 aL),(9,.int .i64 aR),(10,.pointer (some e)),(14,.pointer (some h)),(15,.pointer (some j)),(16,.pointer (some m))] ⟨a,b,c,d,f,i,l,n,trivial⟩ (by kernel_rfl) g
def a4.t(Y:J)(aU aA:Int)(aL aR:Int)(a b:Addr)(Z:V):Prop:=
 (a.add 0).block < Z.size∧c5 Z .u64 (a.add 0) fun c=>
 (a.add 1).block < Z.size∧cR Z (a.add 1) fun d e f=>
 b.block < Z.size∧c4 Z (b.add 0) fun g=>
 cR Z (b.add 1) fun h i j=>
 (aG hX.id #[.agg #[.bool false,.slice d e f]] Z fun l m=>
 cE l fun l=>
 cX l fun l n=>
 bY n fun n v D E=>
 bG E <| (cA Z.size Z m)∧(aG dQ.id #[.int .u64 c,.int .i64 aL,.agg #[.bool l,.slice n v D],.agg #[.bool g,.slice h i j],.int .i64 aR] m fun E G=>
 cO E fun E=>
 cL E fun E H=>
 cE E fun E=>
 cX E fun E P=>
 bY P fun P Iv Iw Ix=>
 bG Ix <| cL H fun H Ix=>
 cE H fun H=>
 cX H fun H Iy=>
 bY Iy fun Iy Iz IA IB=>
 bG IB <| bG Ix <| (cA Z.size m G)∧(cU G 34 eE.aF fun IB Ix=>
 (cA Z.size G Ix)∧cU Ix 34 eE.aF fun IC ID=>
 (cA Z.size Ix ID)∧bI ID (IB.add 0) (.bool E) fun ID=>
 bI ID (IB.add 1) (.slice P Iv Iw) fun ID=>
 bI ID (IC.add 0) (.bool H) fun ID=>
 bI ID (IC.add 1) (.slice Iy Iz IA) fun ID=>
 bP.t Y aU aA aL aR a b IB IC ID)∧(cU G 34 eE.aF fun IB IC=>
 (cA Z.size G IC)∧cU IC 34 eE.aF fun G ID=>
 (cA Z.size IC ID)∧bI ID (G.add 0) (.bool E) fun E=>
 bI E (G.add 1) (.slice P Iv Iw) fun E=>
 bI E (IB.add 0) (.bool H) fun E=>
 bI E (IB.add 1) (.slice Iy Iz IA) fun E=>
 bP.t Y aU aA aL aR a b G IB E))∧(cU m 34 eE.aF fun E G=>
 (cA Z.size m G)∧(aG dQ.id #[.int .u64 c,.int .i64 aL,.agg #[.bool l,.slice n v D],.agg #[.bool g,.slice h i j],.int .i64 aR] G fun H P=>
 cO H fun H=>
 cL H fun H IA=>
 cE H fun H=>
 cX H fun H IB=>
 bY IB fun IB IC ID Iv=>
 bG Iv <| cL IA fun IA Iv=>
 cE IA fun IA=>
 cX IA fun IA Iw=>
 bY Iw fun Iw Ix Iy Iz=>
 bG Iz <| bG Iv <| (cA Z.size G P)∧cU P 34 eE.aF fun Iv Iz=>
 (cA Z.size P Iz)∧bI Iz (E.add 0) (.bool H) fun H=>
 bI H (E.add 1) (.slice IB IC ID) fun H=>
 bI H (Iv.add 0) (.bool IA) fun H=>
 bI H (Iv.add 1) (.slice Iw Ix Iy) fun H=>
 bP.t Y aU aA aL aR a b E Iv H)∧(cU G 34 eE.aF fun H P=>
 (cA Z.size G P)∧aG dQ.id #[.int .u64 c,.int .i64 aL,.agg #[.bool l,.slice n v D],.agg #[.bool g,.slice h i j],.int .i64 aR] P fun G IA=>
 cO G fun G=>
 cL G fun G IB=>
 cE G fun G=>
 cX G fun G IC=>
 bY IC fun IC ID Iv Iw=>
 bG Iw <| cL IB fun IB Iw=>
 cE IB fun IB=>
 cX IB fun IB Ix=>
 bY Ix fun Ix Iy Iz IE=>
 bG IE <| bG Iw <| (cA Z.size P IA)∧bI IA (E.add 0) (.bool G) fun G=>
 bI G (E.add 1) (.slice IC ID Iv) fun G=>
 bI G (H.add 0) (.bool IB) fun G=>
 bI G (H.add 1) (.slice Ix Iy Iz) fun G=>
 bP.t Y aU aA aL aR a b E H G))∧(cU m 34 eE.aF fun E G=>
 (cA Z.size m G)∧(aG dQ.id #[.int .u64 c,.int .i64 aL,.agg #[.bool l,.slice n v D],.agg #[.bool g,.slice h i j],.int .i64 aR] G fun H P=>
 cO H fun H=>
 cL H fun H m=>
 cE H fun H=>
 cX H fun H IA=>
 bY IA fun IA IB IC ID=>
 bG ID <| cL m fun m ID=>
 cE m fun m=>
 cX m fun m IE=>
 bY IE fun IE Iv Iw Ix=>
 bG Ix <| bG ID <| (cA Z.size G P)∧cU P 34 eE.aF fun ID Ix=>
 (cA Z.size P Ix)∧bI Ix (ID.add 0) (.bool H) fun H=>
 bI H (ID.add 1) (.slice IA IB IC) fun H=>
 bI H (E.add 0) (.bool m) fun H=>
 bI H (E.add 1) (.slice IE Iv Iw) fun H=>
 bP.t Y aU aA aL aR a b ID E H)∧(cU G 34 eE.aF fun H P=>
 (cA Z.size G P)∧aG dQ.id #[.int .u64 c,.int .i64 aL,.agg #[.bool l,.slice n v D],.agg #[.bool g,.slice h i j],.int .i64 aR] P fun D G=>
 cO D fun D=>
 cL D fun D l=>
 cE D fun D=>
 cX D fun D m=>
 bY m fun m n v IA=>
 bG IA <| cL l fun l IA=>
 cE l fun l=>
 cX l fun l IB=>
 bY IB fun IB IC ID IE=>
 bG IE <| bG IA <| (cA Z.size P G)∧bI G (H.add 0) (.bool D) fun D=>
 bI D (H.add 1) (.slice m n v) fun D=>
 bI D (E.add 0) (.bool l) fun D=>
 bI D (E.add 1) (.slice IB IC ID) fun D=>
 bP.t Y aU aA aL aR a b H E D)))∧(cU Z 34 eE.aF fun D E=>
 (cA Z.size Z E)∧(aG hX.id #[.agg #[.bool false,.slice d e f]] E fun G H=>
 cE G fun G=>
 cX G fun G P=>
 bY P fun P l m n=>
 bG n <| (cA Z.size E H)∧(aG dQ.id #[.int .u64 c,.int .i64 aL,.agg #[.bool G,.slice P l m],.agg #[.bool g,.slice h i j],.int .i64 aR] H fun n v=>
 cO n fun n=>
 cL n fun n IA=>
 cE n fun n=>
 cX n fun n IB=>
 bY IB fun IB IC ID IE=>
 bG IE <| cL IA fun IA IE=>
 cE IA fun IA=>
 cX IA fun IA Iv=>
 bY Iv fun Iv Iw Ix Iy=>
 bG Iy <| bG IE <| (cA Z.size H v)∧cU v 34 eE.aF fun IE Iy=>
 (cA Z.size v Iy)∧bI Iy (D.add 0) (.bool n) fun n=>
 bI n (D.add 1) (.slice IB IC ID) fun n=>
 bI n (IE.add 0) (.bool IA) fun n=>
 bI n (IE.add 1) (.slice Iv Iw Ix) fun n=>
 bP.t Y aU aA aL aR a b D IE n)∧(cU H 34 eE.aF fun n v=>
 (cA Z.size H v)∧aG dQ.id #[.int .u64 c,.int .i64 aL,.agg #[.bool G,.slice P l m],.agg #[.bool g,.slice h i j],.int .i64 aR] v fun G H=>
 cO G fun G=>
 cL G fun G P=>
 cE G fun G=>
 cX G fun G l=>
 bY l fun l m IA IB=>
 bG IB <| cL P fun P IB=>
 cE P fun P=>
 cX P fun P IC=>
 bY IC fun IC ID IE Iv=>
 bG Iv <| bG IB <| (cA Z.size v H)∧bI H (D.add 0) (.bool G) fun G=>
 bI G (D.add 1) (.slice l m IA) fun G=>
 bI G (n.add 0) (.bool P) fun G=>
 bI G (n.add 1) (.slice IC ID IE) fun G=>
 bP.t Y aU aA aL aR a b D n G))∧(cU E 34 eE.aF fun G H=>
 (cA Z.size E H)∧aG hX.id #[.agg #[.bool false,.slice d e f]] H fun E P=>
 cE E fun E=>
 cX E fun E l=>
 bY l fun l m n v=>
 bG v <| (cA Z.size H P)∧aG dQ.id #[.int .u64 c,.int .i64 aL,.agg #[.bool E,.slice l m n],.agg #[.bool g,.slice h i j],.int .i64 aR] P fun E H=>
 cO E fun E=>
 cL E fun E l=>
 cE E fun E=>
 cX E fun E m=>
 bY m fun m n v IA=>
 bG IA <| cL l fun l IA=>
 cE l fun l=>
 cX l fun l IB=>
 bY IB fun IB IC ID IE=>
 bG IE <| bG IA <| (cA Z.size P H)∧bI H (D.add 0) (.bool E) fun E=>
 bI E (D.add 1) (.slice m n v) fun E=>
 bI E (G.add 0) (.bool l) fun E=>
 bI E (G.add 1) (.slice IB IC ID) fun E=>
 bP.t Y aU aA aL aR a b D G E))∧(cU Z 34 eE.aF fun D E=>
 (cA Z.size Z E)∧(aG hX.id #[.agg #[.bool false,.slice d e f]] E fun G H=>
 cE G fun G=>
 cX G fun G P=>
 bY P fun P l m n=>
 bG n <| (cA Z.size E H)∧(aG dQ.id #[.int .u64 c,.int .i64 aL,.agg #[.bool G,.slice P l m],.agg #[.bool g,.slice h i j],.int .i64 aR] H fun n v=>
 cO n fun n=>
 cL n fun n IA=>
 cE n fun n=>
 cX n fun n IB=>
 bY IB fun IB IC ID IE=>
 bG IE <| cL IA fun IA IE=>
 cE IA fun IA=>
 cX IA fun IA Iv=>
 bY Iv fun Iv Iw Ix Iy=>
 bG Iy <| bG IE <| (cA Z.size H v)∧cU v 34 eE.aF fun IE Iy=>
 (cA Z.size v Iy)∧bI Iy (IE.add 0) (.bool n) fun n=>
 bI n (IE.add 1) (.slice IB IC ID) fun n=>
 bI n (D.add 0) (.bool IA) fun n=>
 bI n (D.add 1) (.slice Iv Iw Ix) fun n=>
 bP.t Y aU aA aL aR a b IE D n)∧(cU H 34 eE.aF fun n v=>
 (cA Z.size H v)∧aG dQ.id #[.int .u64 c,.int .i64 aL,.agg #[.bool G,.slice P l m],.agg #[.bool g,.slice h i j],.int .i64 aR] v fun G H=>
 cO G fun G=>
 cL G fun G P=>
 cE G fun G=>
 cX G fun G l=>
 bY l fun l m IA IB=>
 bG IB <| cL P fun P IB=>
 cE P fun P=>
 cX P fun P IC=>
 bY IC fun IC ID IE Iv=>
 bG Iv <| bG IB <| (cA Z.size v H)∧bI H (n.add 0) (.bool G) fun G=>
 bI G (n.add 1) (.slice l m IA) fun G=>
 bI G (D.add 0) (.bool P) fun G=>
 bI G (D.add 1) (.slice IC ID IE) fun G=>
 bP.t Y aU aA aL aR a b n D G))∧(cU E 34 eE.aF fun G H=>
 (cA Z.size E H)∧aG hX.id #[.agg #[.bool false,.slice d e f]] H fun E P=>
 cE E fun E=>
 cX E fun E d=>
 bY d fun d e f l=>
 bG l <| (cA Z.size H P)∧aG dQ.id #[.int .u64 c,.int .i64 aL,.agg #[.bool E,.slice d e f],.agg #[.bool g,.slice h i j],.int .i64 aR] P fun E H=>
 cO E fun E=>
 cL E fun E c=>
 cE E fun E=>
 cX E fun E d=>
 bY d fun d e f g=>
 bG g <| cL c fun c g=>
 cE c fun c=>
 cX c fun c h=>
 bY h fun h i j l=>
 bG l <| bG g <| (cA Z.size P H)∧bI H (G.add 0) (.bool E) fun E=>
 bI E (G.add 1) (.slice d e f) fun E=>
 bI E (D.add 0) (.bool c) fun E=>
 bI E (D.add 1) (.slice h i j) fun E=>
 bP.t Y aU aA aL aR a b G D E))
def a4.g(Y:J)(X:Fr)(Z:V):Prop:=aC .u64 (X 2) fun aU=>aC .i64 (X 7) fun aA=>aC .i64 (X 8) fun aL=>aC .i64 (X 9) fun aR=>gB (X 10) fun a=>gB (X 14) fun b=>a4.t Y aU aA aL aR a b Z
theorem a4.ok(Y:J)(X:Fr)(Z:V)(g:a4.g Y X Z):den prog E (aP q [W,W,W,W,W,W,W,W,W]) (aX E [.tmp 6] Y) X Z:=
 aW g fun aU a g=>aW g fun aA b g=>aW g fun aL c g=>aW g fun aR d g=>gN g fun e f g=>gN g fun h i g=>cN 1 (C:=(aP q [W,W,W,W,W,W,W,W,W,W])) (by kernel_rfl) (bP.ok Y) (bH [(2,.int .u64 aU),(7,.int .i64 aA),(8,.int .i64 aL),(9,.int .i64 aR),(10,.pointer (some e)),(14,.pointer (some h))] ⟨a,b,c,d,f,i,trivial⟩ (by kernel_rfl) g)
def aD.t(Y:J)(aU aA:Int)(aL aR:Int)(a:Addr)(b:R)(c d:Nat)(Z:V):Prop:=
 aG hX.id #[.agg #[.bool false,.slice b c d]] Z fun b c=>
 cE b fun b=>
 cX b fun b d=>
 bY d fun d e f g=>
 bG g <| cU c 34 eE.aF fun c g=>
 bI g (c.add 0) (.bool b) fun b=>
 bI b (c.add 1) (.slice d e f) fun b=>
 cR b (c.add 1) fun d d e=>
 cond ((((d:Nat):Int)) == 0) (Y (.bool false) b) (c5 b .i64 (a.add 2) fun d=>
 cond (decide (d≤(-70))) (Y (.bool false) b) (c5 b .i64 (a.add 2) fun d=>
 cond (decide (d > 200)) (Y (.bool false) b) (a4.t Y aU aA aL aR a c b)))
def aD.g(Y:J)(X:Fr)(Z:V):Prop:=aC .u64 (X 2) fun aU=>aC .i64 (X 7) fun aA=>aC .i64 (X 8) fun aL=>aC .i64 (X 9) fun aR=>gB (X 10) fun a=>aE (X 12) fun b c d=>aD.t Y aU aA aL aR a b c d Z
theorem aD.ok(Y:J)(X:Fr)(Z:V)(g:aD.g Y X Z):den prog E (aP q [W,W,W,W,W,W,W]) (aX E [.tmp 6] Y) X Z:=
 aW g fun aU a g=>aW g fun aA b g=>aW g fun aL c g=>aW g fun aR d g=>gN g fun e f g=>a0 g fun h i j l g=>cN 2 (C:=(aP q [W,W,W,W,W,W,W,W,W])) (by kernel_rfl) (a4.ok Y) (bH [(2,.int .u64 aU),(7,.int .i64 aA),(8,.int .i64 aL),(9,.int .i64 aR),(10,.pointer (some e)),(12,.slice h i j)] ⟨a,b,c,d,f,l,trivial⟩ (by kernel_rfl) g)
def u.t(Y:J)(aO r aU:Int)(Z:V):Prop:=
 aN (IntKind.i64.wrap aO) fun dF=>
 (53:Int) ≠ 0∧aN (Int.tmod dF 53) fun eY=>
 aN (IntKind.i64.wrap (1+eY)) fun a=>
 aN (IntKind.i64.wrap r) fun b=>
 (1036:Int) ≠ 0∧aN (Int.tmod b 1036) fun b=>
 aN (IntKind.i64.wrap (b - 64)) fun b=>
 aG m3.id #[.int .i64 a,.int .i64 b] Z fun c d=>
 cO c fun c=>
 cL c fun c e=>
 cE c fun c=>
 dI c .u64 fun c f=>
 bY f fun f g h i=>
 dI i .i64 fun i j=>
 bG j <| dI e .i64 fun e j=>
 bG j <| cU d 26 xZ.aF fun d j=>
 bI j (d.add 0) (.int .u64 c) fun c=>
 bI c (d.add 1) (.slice f g h) fun c=>
 bI c (d.add 2) (.int .i64 i) fun c=>
 aG l8.id #[.int .i64 1400] c fun c f=>
 cO c fun c=>
 bY c fun c g h i=>
 dI i .i64 fun i j=>
 bG j <| cond (e != 0) (Y (.bool false) f) (cond (i != 0) (Y (.bool false) f) (cR f (d.add 1) fun e e i=>
 cond ((((e:Nat):Int)) == 0) (Y (.bool false) f) (c5 f .u64 (d.add 0) fun e=>
 aN (IntKind.i64.wrap (a - 1)) fun i=>
 0≤i∧aN (fC .u64 e i) fun e=>
 cond (e != 1) (Y (.bool false) f) (aD.t Y aU a b 1400 d c g h f))))
def u.g(Y:J)(X:Fr)(Z:V):Prop:=aC .u16 (X 0) fun aO=>aC .u16 (X 1) fun r=>aC .u64 (X 2) fun aU=>u.t Y aO r aU Z
theorem u.ok(Y:J)(X:Fr)(Z:V)(g:u.g Y X Z):den prog E q (aX E [.tmp 6] Y) X Z:=
 aW g fun aO a g=>aW g fun r b g=>aW g fun aU c g=>cN 7 (C:=(aP q [W,W,W,W,W,W,W])) (by kernel_rfl) (aD.ok Y) (bH [(0,.int .u16 aO),(1,.int .u16 r),(2,.int .u64 aU)] ⟨a,b,c,trivial⟩ (by kernel_rfl) g)
def t(aO r aU:Int)(Z:V)(Y:J):Prop:=u.t Y aO r aU Z
theorem ok{aO:Int}{r:Int}{aU:Int}{Z:V}{Y:J}(g:t aO r aU Z Y):aG id #[.int .u16 aO,.int .u16 r,.int .u64 aU] Z Y:=
 c9 dA (c:=q) (c3:=[.tmp 6]) Try.func3 (by kernel_rfl) (by kernel_rfl) (by kernel_rfl) (args:=[.int .u16 aO,.int .u16 r,.int .u64 aU]) (by kernel_rfl) (u.ok Y _ Z (bJ rfl (bJ rfl (bJ rfl (g)))))
end iV
namespace m3
noncomputable def q:Code:=c8 Try.f4
def a4.t(Y:J)(r:Int)(a:Addr)(b:R)(c d:Nat)(e:Int)(f:Bool)(Z:V):Prop:=
 aG oN.id #[.slice b c d,.int .u64 e,.bool f] Z fun b c=>
 aE b fun b d f=>
 aG nO.id #[.int .u64 e,.int .i64 r,.slice b d f] c fun c g=>
 aC .i64 c fun c=>
 bI g (a.add 0) (.int .u64 e) fun e=>
 bI e (a.add 1) (.slice b d f) fun b=>
 bI b (a.add 2) (.int .i64 c) fun b=>
 c5 b .u64 (a.add 0) fun c=>
 cR b (a.add 1) fun d e f=>
 c5 b .i64 (a.add 2) fun a=>
 Y (.tuple #[.agg #[.int .u64 c,.slice d e f,.int .i64 a],.int .i64 0]) b
def a4.g(Y:J)(X:Fr)(Z:V):Prop:=aC .i64 (X 1) fun r=>gB (X 4) fun a=>aE (X 6) fun b c d=>aC .u64 (X 10) fun e=>eL (X 12) fun f=>a4.t Y r a b c d e f Z
theorem a4.ok(Y:J)(X:Fr)(Z:V)(g:a4.g Y X Z):den prog E (aP q [W,W,W,W,W,W,W,W]) (aX E [.cell 4 26,.tmp 5] Y) X Z:=
 aW g fun r a g=>gN g fun b c g=>a0 g fun d e f h g=>aW g fun i j g=>rW g fun l m g=>bH [(1,.int .i64 r),(4,.pointer (some b)),(6,.slice d e f),(10,.int .u64 i),(12,.bool l)] ⟨a,c,h,j,m,trivial⟩ (by kernel_rfl) g
def aD.t(Y:J)(aO r:Int)(a:Addr)(Z:V):Prop:=
 aG pY.id #[.int .i64 r] Z fun b c=>
 cO b fun b=>
 bY b fun b d e f=>
 dI f .i64 fun f g=>
 bG g <| cond (f != 0) (bI c (a.add 0) (.int .u64 0) fun g=>
 bI g (a.add 1) (.slice none 0 0) fun g=>
 bI g (a.add 2) (.int .i64 0) fun g=>
 c5 g .u64 (a.add 0) fun h=>
 cR g (a.add 1) fun i j l=>
 c5 g .i64 (a.add 2) fun m=>
 Y (.tuple #[.agg #[.int .u64 h,.slice i j l,.int .i64 m],.int .i64 f]) g) (aN (IntKind.i64.wrap (aO - 1)) fun f=>
 0≤f∧aN (e7 .u64 1 f) fun f=>
 0≤aO∧aN (e7 .u64 1 aO) fun g=>
 aN (IntKind.u64.wrap (g - 1)) fun g=>
 aG m1.id #[.slice b d e,.int .u64 f,.int .u64 g,.bool true] c fun c h=>
 cO c fun c=>
 dI c .u64 fun c i=>
 bY i fun i j l m=>
 bG m <| aG kM.id #[.slice b d e,.int .u64 f,.int .u64 g] h fun f h=>
 aC .u64 f fun f=>
 cond (decide (f≤g)) (aG m1.id #[.slice b d e,.int .u64 f,.int .u64 g,.bool false] h fun f g=>
 cO f fun f=>
 dI f .u64 fun f m=>
 bY m fun m n v D=>
 bG D <| aG hC.id #[.slice m n v,.slice i j l] g fun D g=>
 aC .i64 D fun D=>
 cond (decide (D < 0)) (a4.t Y r a b d e f false g) (a4.t Y r a b d e c true g)) (a4.t Y r a b d e c true h))
def aD.g(Y:J)(X:Fr)(Z:V):Prop:=aC .i64 (X 0) fun aO=>aC .i64 (X 1) fun r=>gB (X 4) fun a=>aD.t Y aO r a Z
theorem aD.ok(Y:J)(X:Fr)(Z:V)(g:aD.g Y X Z):den prog E (aP q [W,W]) (aX E [.cell 4 26,.tmp 5] Y) X Z:=
 aW g fun aO a g=>aW g fun r b g=>gN g fun c d g=>cN 6 (C:=(aP q [W,W,W,W,W,W,W,W])) (by kernel_rfl) (a4.ok Y) (bH [(0,.int .i64 aO),(1,.int .i64 r),(4,.pointer (some c))] ⟨a,b,d,trivial⟩ (by kernel_rfl) g)
def u.t(Y:J)(aO r:Int)(Z:V):Prop:=
 cU Z 26 xZ.aF fun a b=>
 cond (decide (aO < 1)) (bI b (a.add 0) (.int .u64 0) fun c=>
 bI c (a.add 1) (.slice none 0 0) fun c=>
 bI c (a.add 2) (.int .i64 0) fun c=>
 c5 c .u64 (a.add 0) fun d=>
 cR c (a.add 1) fun e f g=>
 c5 c .i64 (a.add 2) fun h=>
 Y (.tuple #[.agg #[.int .u64 d,.slice e f g,.int .i64 h],.int .i64 1]) c) (cond (decide (aO > 53)) (bI b (a.add 0) (.int .u64 0) fun c=>
 bI c (a.add 1) (.slice none 0 0) fun c=>
 bI c (a.add 2) (.int .i64 0) fun c=>
 c5 c .u64 (a.add 0) fun d=>
 cR c (a.add 1) fun e f g=>
 c5 c .i64 (a.add 2) fun h=>
 Y (.tuple #[.agg #[.int .u64 d,.slice e f g,.int .i64 h],.int .i64 1]) c) (cond (decide (r < (-64))) (bI b (a.add 0) (.int .u64 0) fun c=>
 bI c (a.add 1) (.slice none 0 0) fun c=>
 bI c (a.add 2) (.int .i64 0) fun c=>
 c5 c .u64 (a.add 0) fun d=>
 cR c (a.add 1) fun e f g=>
 c5 c .i64 (a.add 2) fun h=>
 Y (.tuple #[.agg #[.int .u64 d,.slice e f g,.int .i64 h],.int .i64 1]) c) (cond (decide (r > 971)) (bI b (a.add 0) (.int .u64 0) fun c=>
 bI c (a.add 1) (.slice none 0 0) fun c=>
 bI c (a.add 2) (.int .i64 0) fun c=>
 c5 c .u64 (a.add 0) fun d=>
 cR c (a.add 1) fun e f g=>
 c5 c .i64 (a.add 2) fun h=>
 Y (.tuple #[.agg #[.int .u64 d,.slice e f g,.int .i64 h],.int .i64 1]) c) (aD.t Y aO r a b))))
def u.g(Y:J)(X:Fr)(Z:V):Prop:=aC .i64 (X 0) fun aO=>aC .i64 (X 1) fun r=>u.t Y aO r Z
theorem u.ok(Y:J)(X:Fr)(Z:V)(g:u.g Y X Z):den prog E q (aX E [.cell 4 26,.tmp 5] Y) X Z:=
 aW g fun aO a g=>aW g fun r b g=>cN 2 (C:=(aP q [W,W])) (by kernel_rfl) (aD.ok Y) (bH [(0,.int .i64 aO),(1,.int .i64 r)] ⟨a,b,trivial⟩ (by kernel_rfl) g)
def t(aO r:Int)(Z:V)(Y:J):Prop:=u.t Y aO r Z
theorem ok{aO:Int}{r:Int}{Z:V}{Y:J}(g:t aO r Z Y):aG id #[.int .i64 aO,.int .i64 r] Z Y:=
 c9 dA (c:=q) (c3:=[.cell 4 26,.tmp 5]) Try.func4 (by kernel_rfl) (by kernel_rfl) (by kernel_rfl) (args:=[.int .i64 aO,.int .i64 r]) (by kernel_rfl) (u.ok Y _ Z (bJ rfl (bJ rfl (g))))
end m3
namespace l8
noncomputable def q:Code:=c8 Try.f5
def bZ.g(a:Int→Int→V→Prop)(X:Fr)(Z:V):Prop:=aC .i64 (X 0) fun aO=>aC .i64 (X 4) fun b=>a aO b Z
def bP.t(Y:J)(a:Int→Int→V→Prop)(aO b:Int)(Z:V):Prop:=
 aN (IntKind.i64.wrap (aO+b)) fun dF=>
 aG oF.id #[.int .i64 dF] Z fun c d=>
 cO c fun c=>
 bY c fun c e f g=>
 bY g fun g h i j=>
 bG j <| aG iR.id #[.slice c e f,.int .i64 b] d fun c d=>
 cO c fun c=>
 bY c fun c e f j=>
 dI j .i64 fun j j=>
 bG j <| aG iR.id #[.slice g h i,.int .i64 b] d fun d g=>
 cO d fun d=>
 bY d fun d h i j=>
 dI j .i64 fun j j=>
 bG j <| aG hC.id #[.slice c e f,.slice d h i] g fun d g=>
 aC .i64 d fun d=>
 cond (d == 0) (Y (.tuple #[.slice c e f,.int .i64 0]) g) (aN (IntKind.i64.wrap (b*2)) fun b=>
 a aO b g)
def bP.g(Y:J)(a:Int→Int→V→Prop)(X:Fr)(Z:V):Prop:=aC .i64 (X 0) fun aO=>aC .i64 (X 4) fun b=>bP.t Y a aO b Z
theorem bP.ok(Y:J)(a:Int→Int→V→Prop)(X:Fr)(Z:V)(g:bP.g Y a X Z):den prog E (aP q [W,W,W,p,p]) (aM.then (bZ.g a) (aM.inBlock 0 (aX E [.tmp 2,.tmp 3] Y))) X Z:=
 aW g fun aO a g=>aW g fun b c g=>bH [(0,.int .i64 aO),(4,.int .i64 b)] ⟨a,c,trivial⟩ (by kernel_rfl) g
def bZ.t(Y:J):Nat→Int→Int→V→Prop
 | 0=>fun _ _ _=>False
 | n+1=>fun aO a Z=>bP.t Y (bZ.t Y n) aO a Z
theorem bZ.ok(Y:J)(X:Fr)(Z:V)(g:bZ.g (fun aO a Z=>∃ n,bZ.t Y n aO a Z) X Z):den prog E (aP q [W,W,W,p]) (aM.inBlock 0 (aX E [.tmp 2,.tmp 3] Y)) X Z:=by
 obtain⟨aO,b,g⟩:=bC g
 obtain⟨a,c,g⟩:=bC g
 obtain⟨n,g⟩:=g
 refine eZ (fun n=>bZ.g (bZ.t Y n)) (N:=(aP q [W,W,W,p,p])) (by kernel_rfl) (fun X Z g=>?_) (fun n=>bP.ok Y (bZ.t Y n)) n X Z (bJ b (bJ c (g)))
 obtain⟨aO,b,g⟩:=bC g
 obtain⟨a,c,g⟩:=bC g
 exact g
theorem hY.ok(Y:J)(X:Fr)(Z:V)(g:bZ.g (fun aO a Z=>∃ n,bZ.t Y n aO a Z) X Z):den prog E (aP q [W,W,W]) (aX E [.tmp 2,.tmp 3] Y) X Z:=
 eN (by kernel_rfl) (bZ.ok Y X Z g)
def aD.t(Y:J)(aO:Int)(Z:V):Prop:=
 (∃ n,bZ.t Y n aO 48 Z)
def aD.g(Y:J)(X:Fr)(Z:V):Prop:=aC .i64 (X 0) fun aO=>aD.t Y aO Z
theorem aD.ok(Y:J)(X:Fr)(Z:V)(g:aD.g Y X Z):den prog E (aP q [W,W]) (aX E [.tmp 2,.tmp 3] Y) X Z:=
 aW g fun aO a g=>cN 1 (C:=(aP q [W,W,W])) (by kernel_rfl) (hY.ok Y) (bH [(0,.int .i64 aO)] ⟨a,trivial⟩ (by kernel_rfl) g)
def u.t(Y:J)(aO:Int)(Z:V):Prop:=
 cond (decide (aO < 1)) (Y (.tuple #[.slice none 0 0,.int .i64 1]) Z) (cond (decide (aO > 70000)) (Y (.tuple #[.slice none 0 0,.int .i64 1]) Z) (aD.t Y aO Z))
def u.g(Y:J)(X:Fr)(Z:V):Prop:=aC .i64 (X 0) fun aO=>u.t Y aO Z
theorem u.ok(Y:J)(X:Fr)(Z:V)(g:u.g Y X Z):den prog E q (aX E [.tmp 2,.tmp 3] Y) X Z:=
 aW g fun aO a g=>cN 2 (C:=(aP q [W,W])) (by kernel_rfl) (aD.ok Y) (bH [(0,.int .i64 aO)] ⟨a,trivial⟩ (by kernel_rfl) g)
def t(aO:Int)(Z:V)(Y:J):Prop:=u.t Y aO Z
theorem ok{aO:Int}{Z:V}{Y:J}(g:t aO Z Y):aG id #[.int .i64 aO] Z Y:=
 c9 dA (c:=q) (c3:=[.tmp 2,.tmp 3]) Try.func5 (by kernel_rfl) (by kernel_rfl) (by kernel_rfl) (args:=[.int .i64 aO]) (by kernel_rfl) (u.ok Y _ Z (bJ rfl (g)))
end l8
namespace hX
noncomputable def q:Code:=c8 Try.f6
def u.t(Y:J)(a:Bool)(b:R)(c d:Nat)(Z:V):Prop:=
 cU Z 37 [.bool a,.slice b c d] fun a b=>
 cU b 34 eE.aF fun b c=>
 (a.add 0).block < c.size∧c4 c (a.add 0) fun d=>
 (a.add 1).block < c.size∧cR c (a.add 1) fun a e f=>
 aG jD.id #[.slice a e f] c fun a e=>
 aE a fun a f g=>
 (cA c.size c e)∧aG eQ.id #[.bool d,.slice a f g] e fun a d=>
 cE a fun a=>
 cX a fun a f=>
 bY f fun f g h i=>
 bG i <| (cA c.size e d)∧bI d (b.add 0) (.bool a) fun a=>
 bI a (b.add 1) (.slice f g h) fun a=>
 c4 a (b.add 0) fun c=>
 cR a (b.add 1) fun b d e=>
 Y (.agg #[.bool c,.slice b d e]) a
def u.g(Y:J)(X:Fr)(Z:V):Prop:=cE (X 0) fun a=>cL a fun a b=>eL a fun a=>cL b fun b c=>aE b fun b d e=>bG c <| u.t Y a b d e Z
theorem u.ok(Y:J)(X:Fr)(Z:V)(g:u.g Y X Z):den prog E q (aX E [.cell 2 34] Y) X Z:=by
 obtain⟨m,a,b⟩:=hG g
 obtain⟨n,t,rfl,c⟩:=eI b
 obtain⟨d,rfl,e⟩:=g4 c
 obtain⟨v,D,rfl,f⟩:=eI e
 obtain⟨h,i,j,rfl,l⟩:=bT f
 obtain⟨rfl,g⟩:=gM l
 exact bH [(0,.agg #[.bool d,.slice h i j])] ⟨a,trivial⟩ (by kernel_rfl) g
def t(a:Bool)(b:R)(c d:Nat)(Z:V)(Y:J):Prop:=u.t Y a b c d Z
theorem ok{a:Bool}{b:R}{d:Nat}{e:Nat}{Z:V}{Y:J}(g:t a b d e Z Y):aG id #[.agg #[.bool a,.slice b d e]] Z Y:=
 c9 dA (c:=q) (c3:=[.cell 2 34]) Try.func6 (by kernel_rfl) (by kernel_rfl) (by kernel_rfl) (args:=[.agg #[.bool a,.slice b d e]]) (by kernel_rfl) (u.ok Y _ Z (cF rfl (a9 (bK rfl (a9 (aQ rfl (b3 (g))))))))
end hX
namespace dQ
noncomputable def q:Code:=c8 Try.f7
def a4.t(Y:J)(a b:Addr)(c d:Addr)(Z:V):Prop:=
 c4 Z (c.add 0) fun e=>
 cR Z (c.add 1) fun f g h=>
 aG hP.id #[.agg #[.bool e,.slice f g h]] Z fun e f=>
 aC .i64 e fun e=>
 cond (decide (e≥0)) (c.block < f.size∧c4 f (c.add 0) fun e=>
 cR f (c.add 1) fun g h i=>
 (d.block < f.size∧c4 f (d.add 0) fun j=>
 cR f (d.add 1) fun l m n=>
 bI f (a.add 0) (.bool e) fun v=>
 bI v (a.add 1) (.slice g h i) fun v=>
 bI v (b.add 0) (.bool j) fun j=>
 bI j (b.add 1) (.slice l m n) fun j=>
 c4 j (a.add 0) fun l=>
 cR j (a.add 1) fun m n v=>
 c4 j (b.add 0) fun D=>
 cR j (b.add 1) fun E G H=>
 Y (.tuple #[.agg #[.bool l,.slice m n v],.agg #[.bool D,.slice E G H]]) j)∧(bI f (a.add 0) (.bool e) fun D=>
 bI D (a.add 1) (.slice g h i) fun D=>
 d.block < f.size∧c4 D (d.add 0) fun E=>
 cR D (d.add 1) fun G H e=>
 bI D (b.add 0) (.bool E) fun D=>
 bI D (b.add 1) (.slice G H e) fun D=>
 c4 D (a.add 0) fun E=>
 cR D (a.add 1) fun G H e=>
 c4 D (b.add 0) fun g=>
 cR D (b.add 1) fun h i j=>
 Y (.tuple #[.agg #[.bool E,.slice G H e],.agg #[.bool g,.slice h i j]]) D)) (c4 f (d.add 0) fun D=>
 cR f (d.add 1) fun E G H=>
 aG hP.id #[.agg #[.bool D,.slice E G H]] f fun D E=>
 aC .i64 D fun D=>
 cond (decide (D≤0)) (d.block < E.size∧c4 E (d.add 0) fun D=>
 cR E (d.add 1) fun G H d=>
 aG iT.id #[.agg #[.bool D,.slice G H d]] E fun D G=>
 cE D fun D=>
 cX D fun D H=>
 bY H fun H d e f=>
 bG f <| (cA E.size E G)∧c.block < E.size∧c4 G (c.add 0) fun f=>
 cR G (c.add 1) fun c g h=>
 aG iT.id #[.agg #[.bool f,.slice c g h]] G fun c f=>
 cE c fun c=>
 cX c fun c g=>
 bY g fun g h i j=>
 bG j <| (cA E.size G f)∧bI f (a.add 0) (.bool D) fun D=>
 bI D (a.add 1) (.slice H d e) fun D=>
 bI D (b.add 0) (.bool c) fun D=>
 bI D (b.add 1) (.slice g h i) fun D=>
 c4 D (a.add 0) fun G=>
 cR D (a.add 1) fun H c d=>
 c4 D (b.add 0) fun e=>
 cR D (b.add 1) fun f g h=>
 Y (.tuple #[.agg #[.bool G,.slice H c d],.agg #[.bool e,.slice f g h]]) D) (aG hI.id #[.int .i64 0] E fun D E=>
 cE D fun D=>
 cX D fun D G=>
 bY G fun G H c d=>
 bG d <| aG hI.id #[.int .i64 0] E fun E d=>
 cE E fun E=>
 cX E fun E e=>
 bY e fun e f g h=>
 bG h <| bI d (a.add 0) (.bool D) fun D=>
 bI D (a.add 1) (.slice G H c) fun D=>
 bI D (b.add 0) (.bool E) fun D=>
 bI D (b.add 1) (.slice e f g) fun D=>
 c4 D (a.add 0) fun E=>
 cR D (a.add 1) fun G H a=>
 c4 D (b.add 0) fun c=>
 cR D (b.add 1) fun b d e=>
 Y (.tuple #[.agg #[.bool E,.slice G H a],.agg #[.bool c,.slice b d e]]) D))
def a4.g(Y:J)(X:Fr)(Z:V):Prop:=gB (X 10) fun a=>gB (X 11) fun b=>gB (X 13) fun c=>gB (X 14) fun d=>a4.t Y a b c d Z
theorem a4.ok(Y:J)(X:Fr)(Z:V)(g:a4.g Y X Z):den prog E (aP q [W,W,W,W]) (aX E [.cell 10 34,.cell 11 34] Y) X Z:=
 gN g fun a b g=>gN g fun c d g=>gN g fun e f g=>gN g fun h i g=>bH [(10,.pointer (some a)),(11,.pointer (some c)),(13,.pointer (some e)),(14,.pointer (some h))] ⟨b,d,f,i,trivial⟩ (by kernel_rfl) g
def aD.t(Y:J)(a b:Addr)(c d:Addr)(e f:Addr)(Z:V):Prop:=
 e.block < Z.size∧c4 Z (e.add 0) fun g=>
 cR Z (e.add 1) fun e h i=>
 a.block < Z.size∧c4 Z (a.add 0) fun j=>
 cR Z (a.add 1) fun a l m=>
 b.block < Z.size∧c4 Z (b.add 0) fun n=>
 cR Z (b.add 1) fun b v D=>
 (aG h9.id #[.agg #[.bool j,.slice a l m],.agg #[.bool n,.slice b v D]] Z fun E G=>
 cE E fun E=>
 cX E fun E H=>
 bY H fun H P Iv Iw=>
 bG Iw <| (cA Z.size Z G)∧(aG gL.id #[.agg #[.bool g,.slice e h i],.agg #[.bool E,.slice H P Iv]] G fun Iw Ix=>
 cE Iw fun Iw=>
 cX Iw fun Iw Iy=>
 bY Iy fun Iy Iz IA IB=>
 bG IB <| (cA Z.size G Ix)∧cU Ix 34 eE.aF fun IB IC=>
 (cA Z.size Ix IC)∧bI IC (IB.add 0) (.bool Iw) fun IC=>
 bI IC (IB.add 1) (.slice Iy Iz IA) fun IA=>
 a4.t Y c d f IB IA)∧(cU G 34 eE.aF fun IA IB=>
 (cA Z.size G IB)∧aG gL.id #[.agg #[.bool g,.slice e h i],.agg #[.bool E,.slice H P Iv]] IB fun E G=>
 cE E fun E=>
 cX E fun E H=>
 bY H fun H P IC Iv=>
 bG Iv <| (cA Z.size IB G)∧bI G (IA.add 0) (.bool E) fun E=>
 bI E (IA.add 1) (.slice H P IC) fun E=>
 a4.t Y c d f IA E))∧(cU Z 34 eE.aF fun E G=>
 (cA Z.size Z G)∧aG h9.id #[.agg #[.bool j,.slice a l m],.agg #[.bool n,.slice b v D]] G fun D H=>
 cE D fun D=>
 cX D fun D P=>
 bY P fun P a b j=>
 bG j <| (cA Z.size G H)∧aG gL.id #[.agg #[.bool g,.slice e h i],.agg #[.bool D,.slice P a b]] H fun D G=>
 cE D fun D=>
 cX D fun D P=>
 bY P fun P a b e=>
 bG e <| (cA Z.size H G)∧bI G (E.add 0) (.bool D) fun D=>
 bI D (E.add 1) (.slice P a b) fun D=>
 a4.t Y c d f E D)
def aD.g(Y:J)(X:Fr)(Z:V):Prop:=gB (X 7) fun a=>gB (X 8) fun b=>gB (X 10) fun c=>gB (X 11) fun d=>gB (X 12) fun e=>gB (X 13) fun f=>aD.t Y a b c d e f Z
theorem aD.ok(Y:J)(X:Fr)(Z:V)(g:aD.g Y X Z):den prog E (aP q [W,W,W]) (aX E [.cell 10 34,.cell 11 34] Y) X Z:=
 gN g fun a b g=>gN g fun c d g=>gN g fun e f g=>gN g fun h i g=>gN g fun j l g=>gN g fun m n g=>cN 1 (C:=(aP q [W,W,W,W])) (by kernel_rfl) (a4.ok Y) (bH [(7,.pointer (some a)),(8,.pointer (some c)),(10,.pointer (some e)),(11,.pointer (some h)),(12,.pointer (some j)),(13,.pointer (some m))] ⟨b,d,f,i,l,n,trivial⟩ (by kernel_rfl) g)
def u.t(Y:J)(aO r:Int)(a:Bool)(b:R)(c d:Nat)(e:Bool)(f:R)(g h:Nat)(i:Int)(Z:V):Prop:=
 cU Z 34 [.bool a,.slice b c d] fun a b=>
 cU b 34 [.bool e,.slice f g h] fun b c=>
 cU c 34 eE.aF fun c d=>
 cU d 34 eE.aF fun d e=>
 aG gV.id #[.int .u64 aO] e fun e f=>
 aE e fun e g h=>
 aG eQ.id #[.bool false,.slice e g h] f fun e f=>
 cE e fun e=>
 cX e fun e g=>
 bY g fun g h j l=>
 bG l <| aN (IntKind.i64.wrap (i+1)) fun i=>
 aN (IntKind.i64.wrap (i+r)) fun i=>
 aG fZ.id #[.agg #[.bool e,.slice g h j],.int .i64 i] f fun e f=>
 cE e fun e=>
 cX e fun e g=>
 bY g fun g h i j=>
 bG j <| cU f 34 eE.aF fun f j=>
 bI j (f.add 0) (.bool e) fun e=>
 bI e (f.add 1) (.slice g h i) fun e=>
 f.block < e.size∧c4 e (f.add 0) fun g=>
 cR e (f.add 1) fun h i j=>
 a.block < e.size∧c4 e (a.add 0) fun l=>
 cR e (a.add 1) fun m n v=>
 b.block < e.size∧c4 e (b.add 0) fun D=>
 cR e (b.add 1) fun E G H=>
 (aG hI.id #[.int .i64 1] e fun P Iv=>
 cE P fun P=>
 cX P fun P Iw=>
 bY Iw fun Iw Ix Iy Iz=>
 bG Iz <| (cA e.size e Iv)∧(aG hQ.id #[.agg #[.bool D,.slice E G H],.agg #[.bool P,.slice Iw Ix Iy]] Iv fun Iz IA=>
 cE Iz fun Iz=>
 cX Iz fun Iz IB=>
 bY IB fun IB IC ID IE=>
 bG IE <| (cA e.size Iv IA)∧(aG h9.id #[.agg #[.bool l,.slice m n v],.agg #[.bool Iz,.slice IB IC ID]] IA fun IE IF=>
 cE IE fun IE=>
 cX IE fun IE IG=>
 bY IG fun IG IH II IJ=>
 bG IJ <| (cA e.size IA IF)∧(aG gL.id #[.agg #[.bool g,.slice h i j],.agg #[.bool IE,.slice IG IH II]] IF fun IJ IK=>
 cE IJ fun IJ=>
 cX IJ fun IJ IL=>
 bY IL fun IL IM IN IP=>
 bG IP <| (cA e.size IF IK)∧cU IK 34 eE.aF fun IP IQ=>
 (cA e.size IK IQ)∧bI IQ (IP.add 0) (.bool IJ) fun IJ=>
 bI IJ (IP.add 1) (.slice IL IM IN) fun IJ=>
 aD.t Y a b c d f IP IJ)∧(cU IF 34 eE.aF fun IJ IK=>
 (cA e.size IF IK)∧aG gL.id #[.agg #[.bool g,.slice h i j],.agg #[.bool IE,.slice IG IH II]] IK fun IE IF=>
 cE IE fun IE=>
 cX IE fun IE IG=>
 bY IG fun IG IH II IL=>
 bG IL <| (cA e.size IK IF)∧bI IF (IJ.add 0) (.bool IE) fun IE=>
 bI IE (IJ.add 1) (.slice IG IH II) fun IE=>
 aD.t Y a b c d f IJ IE))∧(cU IA 34 eE.aF fun IE IF=>
 (cA e.size IA IF)∧aG h9.id #[.agg #[.bool l,.slice m n v],.agg #[.bool Iz,.slice IB IC ID]] IF fun IA IB=>
 cE IA fun IA=>
 cX IA fun IA IC=>
 bY IC fun IC ID IG IH=>
 bG IH <| (cA e.size IF IB)∧aG gL.id #[.agg #[.bool g,.slice h i j],.agg #[.bool IA,.slice IC ID IG]] IB fun IA IC=>
 cE IA fun IA=>
 cX IA fun IA ID=>
 bY ID fun ID IF IG IH=>
 bG IH <| (cA e.size IB IC)∧bI IC (IE.add 0) (.bool IA) fun IA=>
 bI IA (IE.add 1) (.slice ID IF IG) fun IA=>
 aD.t Y a b c d f IE IA))∧(cU Iv 34 eE.aF fun IA IB=>
 (cA e.size Iv IB)∧aG hQ.id #[.agg #[.bool D,.slice E G H],.agg #[.bool P,.slice Iw Ix Iy]] IB fun P IC=>
 cE P fun P=>
 cX P fun P ID=>
 bY ID fun ID IE IF IG=>
 bG IG <| (cA e.size IB IC)∧aG h9.id #[.agg #[.bool l,.slice m n v],.agg #[.bool P,.slice ID IE IF]] IC fun P IB=>
 cE P fun P=>
 cX P fun P ID=>
 bY ID fun ID IE IF IG=>
 bG IG <| (cA e.size IC IB)∧aG gL.id #[.agg #[.bool g,.slice h i j],.agg #[.bool P,.slice ID IE IF]] IB fun P IC=>
 cE P fun P=>
 cX P fun P ID=>
 bY ID fun ID IE IF IG=>
 bG IG <| (cA e.size IB IC)∧bI IC (IA.add 0) (.bool P) fun P=>
 bI P (IA.add 1) (.slice ID IE IF) fun P=>
 aD.t Y a b c d f IA P))∧(cU e 34 eE.aF fun P IA=>
 (cA e.size e IA)∧aG hI.id #[.int .i64 1] IA fun IB IC=>
 cE IB fun IB=>
 cX IB fun IB ID=>
 bY ID fun ID IE IF IG=>
 bG IG <| (cA e.size IA IC)∧aG hQ.id #[.agg #[.bool D,.slice E G H],.agg #[.bool IB,.slice ID IE IF]] IC fun D E=>
 cE D fun D=>
 cX D fun D G=>
 bY G fun G H IA IB=>
 bG IB <| (cA e.size IC E)∧aG h9.id #[.agg #[.bool l,.slice m n v],.agg #[.bool D,.slice G H IA]] E fun D G=>
 cE D fun D=>
 cX D fun D H=>
 bY H fun H l m n=>
 bG n <| (cA e.size E G)∧aG gL.id #[.agg #[.bool g,.slice h i j],.agg #[.bool D,.slice H l m]] G fun D E=>
 cE D fun D=>
 cX D fun D H=>
 bY H fun H g h i=>
 bG i <| (cA e.size G E)∧bI E (P.add 0) (.bool D) fun D=>
 bI D (P.add 1) (.slice H g h) fun D=>
 aD.t Y a b c d f P D)
def u.g(Y:J)(X:Fr)(Z:V):Prop:=aC .u64 (X 0) fun aO=>aC .i64 (X 1) fun r=>cE (X 2) fun a=>cL a fun a b=>eL a fun a=>cL b fun b c=>aE b fun b d e=>bG c <| cE (X 3) fun c=>cL c fun c f=>eL c fun c=>cL f fun f h=>aE f fun f i j=>bG h <| aC .i64 (X 4) fun h=>u.t Y aO r a b d e c f i j h Z
theorem u.ok(Y:J)(X:Fr)(Z:V)(g:u.g Y X Z):den prog E q (aX E [.cell 10 34,.cell 11 34] Y) X Z:=by
 obtain⟨aO,a,g⟩:=bC g
 obtain⟨r,b,g⟩:=bC g
 obtain⟨IB,c,d⟩:=hG g
 obtain⟨IC,ID,rfl,e⟩:=eI d
 obtain⟨f,rfl,h⟩:=g4 e
 obtain⟨IE,IF,rfl,i⟩:=eI h
 obtain⟨j,l,m,rfl,n⟩:=bT i
 obtain⟨rfl,g⟩:=gM n
 obtain⟨IG,t,v⟩:=hG g
 obtain⟨IH,II,rfl,D⟩:=eI v
 obtain⟨G,rfl,H⟩:=g4 D
 obtain⟨IJ,IK,rfl,P⟩:=eI H
 obtain⟨Iv,Iw,Ix,rfl,Iy⟩:=bT P
 obtain⟨rfl,g⟩:=gM Iy
 obtain⟨Iz,IA,g⟩:=bC g
 exact cN 3 (C:=(aP q [W,W,W])) (by kernel_rfl) (aD.ok Y) (bH [(0,.int .u64 aO),(1,.int .i64 r),(2,.agg #[.bool f,.slice j l m]),(3,.agg #[.bool G,.slice Iv Iw Ix]),(4,.int .i64 Iz)] ⟨a,b,c,t,IA,trivial⟩ (by kernel_rfl) g)
def t(aO r:Int)(a:Bool)(b:R)(c d:Nat)(e:Bool)(f:R)(g h:Nat)(i:Int)(Z:V)(Y:J):Prop:=u.t Y aO r a b c d e f g h i Z
theorem ok{aO:Int}{r:Int}{a:Bool}{b:R}{d:Nat}{e:Nat}{f:Bool}{h:R}{i:Nat}{j:Nat}{l:Int}{Z:V}{Y:J}(g:t aO r a b d e f h i j l Z Y):aG id #[.int .u64 aO,.int .i64 r,.agg #[.bool a,.slice b d e],.agg #[.bool f,.slice h i j],.int .i64 l] Z Y:=
 c9 dA (c:=q) (c3:=[.cell 10 34,.cell 11 34]) Try.func7 (by kernel_rfl) (by kernel_rfl) (by kernel_rfl) (args:=[.int .u64 aO,.int .i64 r,.agg #[.bool a,.slice b d e],.agg #[.bool f,.slice h i j],.int .i64 l]) (by kernel_rfl) (u.ok Y _ Z (bJ rfl (bJ rfl (cF rfl (a9 (bK rfl (a9 (aQ rfl (b3 (cF rfl (a9 (bK rfl (a9 (aQ rfl (b3 (bJ rfl (g)))))))))))))))))
end dQ
namespace fZ
noncomputable def q:Code:=c8 Try.f8
def u.t(Y:J)(a:Bool)(b:R)(c d:Nat)(r:Int)(Z:V):Prop:=
 cU Z 34 [.bool a,.slice b c d] fun a b=>
 cU b 34 eE.aF fun b c=>
 (a.add 0).block < c.size∧c4 c (a.add 0) fun d=>
 (a.add 1).block < c.size∧cR c (a.add 1) fun a e f=>
 aG jK.id #[.slice a e f,.int .i64 r] c fun a e=>
 aE a fun a f g=>
 (cA c.size c e)∧aG eQ.id #[.bool d,.slice a f g] e fun a d=>
 cE a fun a=>
 cX a fun a f=>
 bY f fun f g h i=>
 bG i <| (cA c.size e d)∧bI d (b.add 0) (.bool a) fun a=>
 bI a (b.add 1) (.slice f g h) fun a=>
 c4 a (b.add 0) fun c=>
 cR a (b.add 1) fun b d e=>
 Y (.agg #[.bool c,.slice b d e]) a
def u.g(Y:J)(X:Fr)(Z:V):Prop:=cE (X 0) fun a=>cL a fun a b=>eL a fun a=>cL b fun b c=>aE b fun b d e=>bG c <| aC .i64 (X 1) fun r=>u.t Y a b d e r Z
theorem u.ok(Y:J)(X:Fr)(Z:V)(g:u.g Y X Z):den prog E q (aX E [.cell 4 34] Y) X Z:=by
 obtain⟨n,a,b⟩:=hG g
 obtain⟨t,v,rfl,c⟩:=eI b
 obtain⟨d,rfl,e⟩:=g4 c
 obtain⟨D,G,rfl,f⟩:=eI e
 obtain⟨h,i,j,rfl,l⟩:=bT f
 obtain⟨rfl,g⟩:=gM l
 obtain⟨r,m,g⟩:=bC g
 exact bH [(0,.agg #[.bool d,.slice h i j]),(1,.int .i64 r)] ⟨a,m,trivial⟩ (by kernel_rfl) g
def t(a:Bool)(b:R)(c d:Nat)(r:Int)(Z:V)(Y:J):Prop:=u.t Y a b c d r Z
theorem ok{a:Bool}{b:R}{d:Nat}{e:Nat}{r:Int}{Z:V}{Y:J}(g:t a b d e r Z Y):aG id #[.agg #[.bool a,.slice b d e],.int .i64 r] Z Y:=
 c9 dA (c:=q) (c3:=[.cell 4 34]) Try.func8 (by kernel_rfl) (by kernel_rfl) (by kernel_rfl) (args:=[.agg #[.bool a,.slice b d e],.int .i64 r]) (by kernel_rfl) (u.ok Y _ Z (cF rfl (a9 (bK rfl (a9 (aQ rfl (b3 (bJ rfl (g)))))))))
end fZ
namespace hI
noncomputable def q:Code:=c8 Try.f9
def u.t(Y:J)(aO:Int)(Z:V):Prop:=
 cU Z 34 eE.aF fun a b=>
 cond (decide (aO < 0)) (aN (IntKind.i64.wrap (aO+1)) fun c=>
 aN (IntKind.i64.wrap (0 - c)) fun c=>
 aN (IntKind.u64.wrap c) fun c=>
 aG gV.id #[.int .u64 c] b fun c d=>
 aE c fun c e f=>
 aG gV.id #[.int .u64 1] d fun d g=>
 aE d fun d h i=>
 aG gW.id #[.slice c e f,.slice d h i] g fun c d=>
 aE c fun c e f=>
 aG eQ.id #[.bool true,.slice c e f] d fun c d=>
 cE c fun c=>
 cX c fun c e=>
 bY e fun e f g h=>
 bG h <| bI d (a.add 0) (.bool c) fun c=>
 bI c (a.add 1) (.slice e f g) fun c=>
 c4 c (a.add 0) fun d=>
 cR c (a.add 1) fun e f g=>
 Y (.agg #[.bool d,.slice e f g]) c) (aN (IntKind.u64.wrap aO) fun c=>
 aG gV.id #[.int .u64 c] b fun b c=>
 aE b fun b d e=>
 aG eQ.id #[.bool false,.slice b d e] c fun b c=>
 cE b fun b=>
 cX b fun b d=>
 bY d fun d e f g=>
 bG g <| bI c (a.add 0) (.bool b) fun b=>
 bI b (a.add 1) (.slice d e f) fun b=>
 c4 b (a.add 0) fun c=>
 cR b (a.add 1) fun a d e=>
 Y (.agg #[.bool c,.slice a d e]) b)
def u.g(Y:J)(X:Fr)(Z:V):Prop:=aC .i64 (X 0) fun aO=>u.t Y aO Z
theorem u.ok(Y:J)(X:Fr)(Z:V)(g:u.g Y X Z):den prog E q (aX E [.cell 2 34] Y) X Z:=
 aW g fun aO a g=>bH [(0,.int .i64 aO)] ⟨a,trivial⟩ (by kernel_rfl) g
def t(aO:Int)(Z:V)(Y:J):Prop:=u.t Y aO Z
theorem ok{aO:Int}{Z:V}{Y:J}(g:t aO Z Y):aG id #[.int .i64 aO] Z Y:=
 c9 dA (c:=q) (c3:=[.cell 2 34]) Try.func9 (by kernel_rfl) (by kernel_rfl) (by kernel_rfl) (args:=[.int .i64 aO]) (by kernel_rfl) (u.ok Y _ Z (bJ rfl (g)))
end hI
namespace iA
noncomputable def q:Code:=c8 Try.f10
def u.t(Y:J)(a:Bool)(b:R)(c d:Nat)(e:Bool)(f:R)(g h:Nat)(Z:V):Prop:=
 cU Z 34 [.bool a,.slice b c d] fun a b=>
 cU b 34 [.bool e,.slice f g h] fun b c=>
 c4 c (a.add 0) fun d=>
 cR c (a.add 1) fun a e f=>
 c4 c (b.add 0) fun g=>
 cR c (b.add 1) fun b h i=>
 aG gL.id #[.agg #[.bool d,.slice a e f],.agg #[.bool g,.slice b h i]] c fun a b=>
 cE a fun a=>
 cX a fun a c=>
 bY c fun c d e f=>
 bG f <| aG hP.id #[.agg #[.bool a,.slice c d e]] b fun a b=>
 aC .i64 a fun a=>
 Y (.int .i64 a) b
def u.g(Y:J)(X:Fr)(Z:V):Prop:=cE (X 0) fun a=>cL a fun a b=>eL a fun a=>cL b fun b c=>aE b fun b d e=>bG c <| cE (X 1) fun c=>cL c fun c f=>eL c fun c=>cL f fun f h=>aE f fun f i j=>bG h <| u.t Y a b d e c f i j Z
theorem u.ok(Y:J)(X:Fr)(Z:V)(g:u.g Y X Z):den prog E q (aX E [.tmp 4] Y) X Z:=by
 obtain⟨Ix,a,b⟩:=hG g
 obtain⟨Iy,Iz,rfl,c⟩:=eI b
 obtain⟨d,rfl,e⟩:=g4 c
 obtain⟨IA,IB,rfl,f⟩:=eI e
 obtain⟨h,i,j,rfl,l⟩:=bT f
 obtain⟨rfl,g⟩:=gM l
 obtain⟨IC,m,n⟩:=hG g
 obtain⟨ID,IE,rfl,t⟩:=eI n
 obtain⟨v,rfl,D⟩:=g4 t
 obtain⟨IF,IG,rfl,G⟩:=eI D
 obtain⟨H,P,Iv,rfl,Iw⟩:=bT G
 obtain⟨rfl,g⟩:=gM Iw
 exact bH [(0,.agg #[.bool d,.slice h i j]),(1,.agg #[.bool v,.slice H P Iv])] ⟨a,m,trivial⟩ (by kernel_rfl) g
def t(a:Bool)(b:R)(c d:Nat)(e:Bool)(f:R)(g h:Nat)(Z:V)(Y:J):Prop:=u.t Y a b c d e f g h Z
theorem ok{a:Bool}{b:R}{d:Nat}{e:Nat}{f:Bool}{h:R}{i:Nat}{j:Nat}{Z:V}{Y:J}(g:t a b d e f h i j Z Y):aG id #[.agg #[.bool a,.slice b d e],.agg #[.bool f,.slice h i j]] Z Y:=
 c9 dA (c:=q) (c3:=[.tmp 4]) Try.func10 (by kernel_rfl) (by kernel_rfl) (by kernel_rfl) (args:=[.agg #[.bool a,.slice b d e],.agg #[.bool f,.slice h i j]]) (by kernel_rfl) (u.ok Y _ Z (cF rfl (a9 (bK rfl (a9 (aQ rfl (b3 (cF rfl (a9 (bK rfl (a9 (aQ rfl (b3 (g))))))))))))))
end iA
namespace hR
noncomputable def q:Code:=c8 Try.f11
def aD.t(Y:J)(a b:Addr)(Z:V):Prop:=
 c4 Z (b.add 0) fun c=>
 cR Z (b.add 1) fun d e f=>
 aG hP.id #[.agg #[.bool c,.slice d e f]] Z fun c d=>
 aC .i64 c fun c=>
 cond (decide (c≤0)) (aG hI.id #[.int .i64 1] d fun c e=>
 cE c fun c=>
 cX c fun c f=>
 bY f fun f g h i=>
 bG i <| bI e (a.add 0) (.bool c) fun c=>
 bI c (a.add 1) (.slice f g h) fun c=>
 c4 c (a.add 0) fun e=>
 cR c (a.add 1) fun f g h=>
 Y (.agg #[.bool e,.slice f g h]) c) (c4 d (b.add 0) fun c=>
 cR d (b.add 1) fun b e f=>
 bI d (a.add 0) (.bool c) fun c=>
 bI c (a.add 1) (.slice b e f) fun b=>
 c4 b (a.add 0) fun c=>
 cR b (a.add 1) fun a d e=>
 Y (.agg #[.bool c,.slice a d e]) b)
def aD.g(Y:J)(X:Fr)(Z:V):Prop:=gB (X 8) fun a=>gB (X 9) fun b=>aD.t Y a b Z
theorem aD.ok(Y:J)(X:Fr)(Z:V)(g:aD.g Y X Z):den prog E (aP q [W,W]) (aX E [.cell 8 34] Y) X Z:=
 gN g fun a b g=>gN g fun c d g=>bH [(8,.pointer (some a)),(9,.pointer (some c))] ⟨b,d,trivial⟩ (by kernel_rfl) g
def u.t(Y:J)(aO r:Int)(a:Bool)(b:R)(c d:Nat)(e:Int)(Z:V):Prop:=
 cU Z 34 [.bool a,.slice b c d] fun a b=>
 cU b 34 eE.aF fun b c=>
 aN (IntKind.i64.wrap (e+1)) fun d=>
 aN (IntKind.i64.wrap (d+r)) fun d=>
 a.block < c.size∧c4 c (a.add 0) fun e=>
 cR c (a.add 1) fun a f g=>
 (aG gV.id #[.int .u64 aO] c fun h i=>
 aE h fun h j l=>
 (cA c.size c i)∧(aG eQ.id #[.bool false,.slice h j l] i fun m n=>
 cE m fun m=>
 cX m fun m v=>
 bY v fun v D E G=>
 bG G <| (cA c.size i n)∧(aG fZ.id #[.agg #[.bool m,.slice v D E],.int .i64 d] n fun G H=>
 cE G fun G=>
 cX G fun G P=>
 bY P fun P Iv Iw Ix=>
 bG Ix <| (cA c.size n H)∧(aG hZ.id #[.agg #[.bool G,.slice P Iv Iw],.agg #[.bool e,.slice a f g]] H fun Ix Iy=>
 cE Ix fun Ix=>
 cX Ix fun Ix Iz=>
 bY Iz fun Iz IA IB IC=>
 bG IC <| (cA c.size H Iy)∧cU Iy 34 eE.aF fun IC ID=>
 (cA c.size Iy ID)∧bI ID (IC.add 0) (.bool Ix) fun ID=>
 bI ID (IC.add 1) (.slice Iz IA IB) fun IA=>
 aD.t Y b IC IA)∧(cU H 34 eE.aF fun IA IB=>
 (cA c.size H IB)∧aG hZ.id #[.agg #[.bool G,.slice P Iv Iw],.agg #[.bool e,.slice a f g]] IB fun G H=>
 cE G fun G=>
 cX G fun G P=>
 bY P fun P IC ID Iv=>
 bG Iv <| (cA c.size IB H)∧bI H (IA.add 0) (.bool G) fun G=>
 bI G (IA.add 1) (.slice P IC ID) fun G=>
 aD.t Y b IA G))∧(cU n 34 eE.aF fun G H=>
 (cA c.size n H)∧aG fZ.id #[.agg #[.bool m,.slice v D E],.int .i64 d] H fun D E=>
 cE D fun D=>
 cX D fun D P=>
 bY P fun P m n v=>
 bG v <| (cA c.size H E)∧aG hZ.id #[.agg #[.bool D,.slice P m n],.agg #[.bool e,.slice a f g]] E fun D H=>
 cE D fun D=>
 cX D fun D P=>
 bY P fun P m n v=>
 bG v <| (cA c.size E H)∧bI H (G.add 0) (.bool D) fun D=>
 bI D (G.add 1) (.slice P m n) fun D=>
 aD.t Y b G D))∧(cU i 34 eE.aF fun D E=>
 (cA c.size i E)∧aG eQ.id #[.bool false,.slice h j l] E fun G H=>
 cE G fun G=>
 cX G fun G P=>
 bY P fun P h i j=>
 bG j <| (cA c.size E H)∧aG fZ.id #[.agg #[.bool G,.slice P h i],.int .i64 d] H fun E G=>
 cE E fun E=>
 cX E fun E P=>
 bY P fun P h i j=>
 bG j <| (cA c.size H G)∧aG hZ.id #[.agg #[.bool E,.slice P h i],.agg #[.bool e,.slice a f g]] G fun E H=>
 cE E fun E=>
 cX E fun E P=>
 bY P fun P h i j=>
 bG j <| (cA c.size G H)∧bI H (D.add 0) (.bool E) fun E=>
 bI E (D.add 1) (.slice P h i) fun E=>
 aD.t Y b D E))∧(cU c 34 eE.aF fun D E=>
 (cA c.size c E)∧aG gV.id #[.int .u64 aO] E fun G H=>
 aE G fun G P h=>
 (cA c.size E H)∧aG eQ.id #[.bool false,.slice G P h] H fun E G=>
 cE E fun E=>
 cX E fun E P=>
 bY P fun P h i j=>
 bG j <| (cA c.size H G)∧aG fZ.id #[.agg #[.bool E,.slice P h i],.int .i64 d] G fun E H=>
 cE E fun E=>
 cX E fun E P=>
 bY P fun P d h i=>
 bG i <| (cA c.size G H)∧aG hZ.id #[.agg #[.bool E,.slice P d h],.agg #[.bool e,.slice a f g]] H fun E G=>
 cE E fun E=>
 cX E fun E P=>
 bY P fun P a d e=>
 bG e <| (cA c.size H G)∧bI G (D.add 0) (.bool E) fun E=>
 bI E (D.add 1) (.slice P a d) fun E=>
 aD.t Y b D E)
def u.g(Y:J)(X:Fr)(Z:V):Prop:=aC .u64 (X 0) fun aO=>aC .i64 (X 1) fun r=>cE (X 2) fun a=>cL a fun a b=>eL a fun a=>cL b fun b c=>aE b fun b d e=>bG c <| aC .i64 (X 3) fun c=>u.t Y aO r a b d e c Z
theorem u.ok(Y:J)(X:Fr)(Z:V)(g:u.g Y X Z):den prog E q (aX E [.cell 8 34] Y) X Z:=by
 obtain⟨aO,a,g⟩:=bC g
 obtain⟨r,b,g⟩:=bC g
 obtain⟨D,c,d⟩:=hG g
 obtain⟨G,H,rfl,e⟩:=eI d
 obtain⟨f,rfl,h⟩:=g4 e
 obtain⟨P,Iv,rfl,i⟩:=eI h
 obtain⟨j,l,m,rfl,n⟩:=bT i
 obtain⟨rfl,g⟩:=gM n
 obtain⟨t,v,g⟩:=bC g
 exact cN 2 (C:=(aP q [W,W])) (by kernel_rfl) (aD.ok Y) (bH [(0,.int .u64 aO),(1,.int .i64 r),(2,.agg #[.bool f,.slice j l m]),(3,.int .i64 t)] ⟨a,b,c,v,trivial⟩ (by kernel_rfl) g)
def t(aO r:Int)(a:Bool)(b:R)(c d:Nat)(e:Int)(Z:V)(Y:J):Prop:=u.t Y aO r a b c d e Z
theorem ok{aO:Int}{r:Int}{a:Bool}{b:R}{d:Nat}{e:Nat}{f:Int}{Z:V}{Y:J}(g:t aO r a b d e f Z Y):aG id #[.int .u64 aO,.int .i64 r,.agg #[.bool a,.slice b d e],.int .i64 f] Z Y:=
 c9 dA (c:=q) (c3:=[.cell 8 34]) Try.func11 (by kernel_rfl) (by kernel_rfl) (by kernel_rfl) (args:=[.int .u64 aO,.int .i64 r,.agg #[.bool a,.slice b d e],.int .i64 f]) (by kernel_rfl) (u.ok Y _ Z (bJ rfl (bJ rfl (cF rfl (a9 (bK rfl (a9 (aQ rfl (b3 (bJ rfl (g)))))))))))
end hR
namespace pY
noncomputable def q:Code:=c8 Try.f12
def u.t(Y:J)(aO:Int)(Z:V):Prop:=
 aN (IntKind.i64.wrap (aO+320)) fun dF=>
 aG mZ.id #[.int .i64 dF] Z fun a b=>
 cO a fun a=>
 bY a fun a c d e=>
 dI e .i64 fun e f=>
 bG f <| Y (.tuple #[.slice a c d,.int .i64 e]) b
def u.g(Y:J)(X:Fr)(Z:V):Prop:=aC .i64 (X 0) fun aO=>u.t Y aO Z
theorem u.ok(Y:J)(X:Fr)(Z:V)(g:u.g Y X Z):den prog E q (aX E [.tmp 2,.tmp 3] Y) X Z:=
 aW g fun aO a g=>bH [(0,.int .i64 aO)] ⟨a,trivial⟩ (by kernel_rfl) g
def t(aO:Int)(Z:V)(Y:J):Prop:=u.t Y aO Z
theorem ok{aO:Int}{Z:V}{Y:J}(g:t aO Z Y):aG id #[.int .i64 aO] Z Y:=
 c9 dA (c:=q) (c3:=[.tmp 2,.tmp 3]) Try.func12 (by kernel_rfl) (by kernel_rfl) (by kernel_rfl) (args:=[.int .i64 aO]) (by kernel_rfl) (u.ok Y _ Z (bJ rfl (g)))
end pY
namespace m1
noncomputable def q:Code:=c8 Try.f13
def aD.t(Y:J)(r aU:Int)(a:R)(b c:Nat)(d:R)(e f:Nat)(Z:V):Prop:=
 aN (IntKind.u64.wrap (aU - r)) fun g=>
 aN (IntKind.u64.wrap (g+1)) fun g=>
 aG h1.id #[.agg #[.slice d e f,.slice a b c],.int .u64 g] Z fun a b=>
 cO a fun a=>
 dI a .u64 fun a c=>
 bY c fun c d e f=>
 bG f <| aN (IntKind.u64.wrap (r+a)) fun a=>
 Y (.tuple #[.int .u64 a,.slice c d e]) b
def aD.g(Y:J)(X:Fr)(Z:V):Prop:=aC .u64 (X 1) fun r=>aC .u64 (X 2) fun aU=>aE (X 10) fun a b c=>aE (X 12) fun d e f=>aD.t Y r aU a b c d e f Z
theorem aD.ok(Y:J)(X:Fr)(Z:V)(g:aD.g Y X Z):den prog E (aP q [W,W,W,W,W]) (aX E [.tmp 8,.tmp 9] Y) X Z:=
 aW g fun r a g=>aW g fun aU b g=>a0 g fun c d e f g=>a0 g fun h i j l g=>bH [(1,.int .u64 r),(2,.int .u64 aU),(10,.slice c d e),(12,.slice h i j)] ⟨a,b,f,l,trivial⟩ (by kernel_rfl) g
def u.t(Y:J)(a:R)(b c:Nat)(r aU:Int)(d:Bool)(Z:V):Prop:=
 aG l3.id #[.slice a b c,.int .i64 320] Z fun a b=>
 cO a fun a=>
 bY a fun a c e f=>
 dI f .i64 fun f f=>
 bG f <| aG h6.id #[.slice a c e,.int .u64 r] b fun b f=>
 cO b fun b=>
 bY b fun b g h i=>
 dI i .i64 fun i i=>
 bG i <| aG l3.id #[.slice b g h,.int .i64 320] f fun b f=>
 cO b fun b=>
 bY b fun b g h i=>
 dI i .i64 fun i i=>
 bG i <| cond d (aG oM.id #[.slice a c e] f fun d i=>
 aE d fun d j l=>
 aG oM.id #[.slice b g h] i fun i m=>
 aE i fun i n v=>
 aD.t Y r aU d j l i n v m) (aD.t Y r aU a c e b g h f)
def u.g(Y:J)(X:Fr)(Z:V):Prop:=aE (X 0) fun a b c=>aC .u64 (X 1) fun r=>aC .u64 (X 2) fun aU=>eL (X 3) fun d=>u.t Y a b c r aU d Z
theorem u.ok(Y:J)(X:Fr)(Z:V)(g:u.g Y X Z):den prog E q (aX E [.tmp 8,.tmp 9] Y) X Z:=
 a0 g fun a b c d g=>aW g fun r e g=>aW g fun aU f g=>rW g fun h i g=>cN 5 (C:=(aP q [W,W,W,W,W])) (by kernel_rfl) (aD.ok Y) (bH [(0,.slice a b c),(1,.int .u64 r),(2,.int .u64 aU),(3,.bool h)] ⟨d,e,f,i,trivial⟩ (by kernel_rfl) g)
def t(a:R)(b c:Nat)(r aU:Int)(d:Bool)(Z:V)(Y:J):Prop:=u.t Y a b c r aU d Z
theorem ok{a:R}{b:Nat}{d:Nat}{r:Int}{aU:Int}{e:Bool}{Z:V}{Y:J}(g:t a b d r aU e Z Y):aG id #[.slice a b d,.int .u64 r,.int .u64 aU,.bool e] Z Y:=
 c9 dA (c:=q) (c3:=[.tmp 8,.tmp 9]) Try.func13 (by kernel_rfl) (by kernel_rfl) (by kernel_rfl) (args:=[.slice a b d,.int .u64 r,.int .u64 aU,.bool e]) (by kernel_rfl) (u.ok Y _ Z (aQ rfl (bJ rfl (bJ rfl (bK rfl (g))))))
end m1
namespace kM
noncomputable def q:Code:=c8 Try.f14
def aD.t(Y:J)(r:Int)(Z:V):Prop:=
 Y (.int .u64 r) Z
def aD.g(Y:J)(X:Fr)(Z:V):Prop:=aC .u64 (X 1) fun r=>aD.t Y r Z
theorem aD.ok(Y:J)(X:Fr)(Z:V)(g:aD.g Y X Z):den prog E (aP q [W,W]) (aX E [.tmp 6] Y) X Z:=
 aW g fun r a g=>bH [(1,.int .u64 r)] ⟨a,trivial⟩ (by kernel_rfl) g
def bZ.g(a:R→Nat→Nat→Int→Int→V→Prop)(X:Fr)(Z:V):Prop:=aE (X 0) fun b c d=>aC .u64 (X 1) fun r=>aC .u64 (X 2) fun aU=>a b c d r aU Z
def bP.t(Y:J)(a:R→Nat→Nat→Int→Int→V→Prop)(b:R)(c d:Nat)(r aU:Int)(Z:V):Prop:=
 cond (decide (r≤aU)) (aN (IntKind.u64.wrap (aU - r)) fun dF=>
 (2:Int) ≠ 0∧aN (IntKind.u64.wrap (Int.tdiv dF 2)) fun eY=>
 aN (IntKind.u64.wrap (r+eY)) fun e=>
 aG oN.id #[.slice b c d,.int .u64 e,.bool false] Z fun f g=>
 aE f fun f f h=>
 cond (decide ((((f:Nat):Int)) > 0)) (aN (IntKind.u64.wrap (e - 1)) fun f=>
 a b c d r f g) (aN (IntKind.u64.wrap (e+1)) fun e=>
 a b c d e aU g)) (aD.t Y r Z)
def bP.g(Y:J)(a:R→Nat→Nat→Int→Int→V→Prop)(X:Fr)(Z:V):Prop:=aE (X 0) fun b c d=>aC .u64 (X 1) fun r=>aC .u64 (X 2) fun aU=>bP.t Y a b c d r aU Z
theorem bP.ok(Y:J)(a:R→Nat→Nat→Int→Int→V→Prop)(X:Fr)(Z:V)(g:bP.g Y a X Z):den prog E (aP q [W,p,p,p]) (aM.then (bZ.g a) (aM.inBlock 0 (aM.then (aD.g Y) (aX E [.tmp 6] Y)))) X Z:=
 a0 g fun a b c d g=>aW g fun r e g=>aW g fun aU f g=>bH [(0,.slice a b c),(1,.int .u64 r),(2,.int .u64 aU)] ⟨d,e,f,trivial⟩ (by kernel_rfl) g
def bZ.t(Y:J):Nat→R→Nat→Nat→Int→Int→V→Prop
 | 0=>fun _ _ _ _ _ _=>False
 | n+1=>fun a b c r aU Z=>bP.t Y (bZ.t Y n) a b c r aU Z
theorem bZ.ok(Y:J)(X:Fr)(Z:V)(g:bZ.g (fun a b c r aU Z=>∃ n,bZ.t Y n a b c r aU Z) X Z):den prog E (aP q [W,p,p]) (aM.inBlock 0 (aM.then (aD.g Y) (aX E [.tmp 6] Y))) X Z:=by
 obtain⟨a,b,c,d,g⟩:=bT g
 obtain⟨r,e,g⟩:=bC g
 obtain⟨aU,f,g⟩:=bC g
 obtain⟨n,g⟩:=g
 refine eZ (fun n=>bZ.g (bZ.t Y n)) (N:=(aP q [W,p,p,p])) (by kernel_rfl) (fun X Z g=>?_) (fun n=>bP.ok Y (bZ.t Y n)) n X Z (aQ d (bJ e (bJ f (g))))
 obtain⟨a,b,c,d,g⟩:=bT g
 obtain⟨r,e,g⟩:=bC g
 obtain⟨aU,f,g⟩:=bC g
 exact g
theorem hY.ok(Y:J)(X:Fr)(Z:V)(g:bZ.g (fun a b c r aU Z=>∃ n,bZ.t Y n a b c r aU Z) X Z):den prog E (aP q [W,p]) (aM.then (aD.g Y) (aX E [.tmp 6] Y)) X Z:=
 eN (by kernel_rfl) (bZ.ok Y X Z g)
theorem p2.ok(Y:J)(X:Fr)(Z:V)(g:bZ.g (fun a b c r aU Z=>∃ n,bZ.t Y n a b c r aU Z) X Z):den prog E (aP q [W]) (aX E [.tmp 6] Y) X Z:=
 e8 (by kernel_rfl) (aD.ok Y) (hY.ok Y X Z g)
def u.t(Y:J)(a:R)(b c:Nat)(r aU:Int)(Z:V):Prop:=
 (∃ n,bZ.t Y n a b c r aU Z)
def u.g(Y:J)(X:Fr)(Z:V):Prop:=aE (X 0) fun a b c=>aC .u64 (X 1) fun r=>aC .u64 (X 2) fun aU=>u.t Y a b c r aU Z
theorem u.ok(Y:J)(X:Fr)(Z:V)(g:u.g Y X Z):den prog E q (aX E [.tmp 6] Y) X Z:=
 a0 g fun a b c d g=>aW g fun r e g=>aW g fun aU f g=>cN 1 (C:=(aP q [W])) (by kernel_rfl) (p2.ok Y) (bH [(0,.slice a b c),(1,.int .u64 r),(2,.int .u64 aU)] ⟨d,e,f,trivial⟩ (by kernel_rfl) g)
def t(a:R)(b c:Nat)(r aU:Int)(Z:V)(Y:J):Prop:=u.t Y a b c r aU Z
theorem ok{a:R}{b:Nat}{d:Nat}{r:Int}{aU:Int}{Z:V}{Y:J}(g:t a b d r aU Z Y):aG id #[.slice a b d,.int .u64 r,.int .u64 aU] Z Y:=
 c9 dA (c:=q) (c3:=[.tmp 6]) Try.func14 (by kernel_rfl) (by kernel_rfl) (by kernel_rfl) (args:=[.slice a b d,.int .u64 r,.int .u64 aU]) (by kernel_rfl) (u.ok Y _ Z (aQ rfl (bJ rfl (bJ rfl (g)))))
end kM
namespace hC
noncomputable def q:Code:=c8 Try.f15
def aD.t(Y:J)(Z:V):Prop:=
 Y (.int .i64 0) Z
def aD.g(Y:J)(X:Fr)(Z:V):Prop:=aD.t Y  Z
theorem aD.ok(Y:J)(X:Fr)(Z:V)(g:aD.g Y X Z):den prog E (aP q [W,W,W,W]) (aX E [.tmp 4] Y) X Z:=
 bH [] trivial (by kernel_rfl) g
def a8.g(a:R→Nat→Nat→R→Nat→Nat→Int→V→Prop)(X:Fr)(Z:V):Prop:=aE (X 5) fun b c d=>aE (X 6) fun e f h=>aC .i64 (X 7) fun aA=>a b c d e f h aA Z
def bS.t(Y:J)(a:R→Nat→Nat→R→Nat→Nat→Int→V→Prop)(b:R)(c d:Nat)(e:R)(f g:Nat)(aA:Int)(Z:V):Prop:=
 cond (decide (aA≥0)) (cC b c aA 1 fun h=>
 c5 Z .u64 h fun h=>
 cC e f aA 1 fun i=>
 c5 Z .u64 i fun i=>
 cond (h != i) (cC b c aA 1 fun h=>
 c5 Z .u64 h fun h=>
 cC e f aA 1 fun i=>
 c5 Z .u64 i fun i=>
 cond (decide (h < i)) (Y (.int .i64 (-1)) Z) (Y (.int .i64 1) Z)) (aN (IntKind.i64.wrap (aA - 1)) fun h=>
 a b c d e f g h Z)) (aD.t Y Z)
def bS.g(Y:J)(a:R→Nat→Nat→R→Nat→Nat→Int→V→Prop)(X:Fr)(Z:V):Prop:=aE (X 5) fun b c d=>aE (X 6) fun e f h=>aC .i64 (X 7) fun aA=>bS.t Y a b c d e f h aA Z
theorem bS.ok(Y:J)(a:R→Nat→Nat→R→Nat→Nat→Int→V→Prop)(X:Fr)(Z:V)(g:bS.g Y a X Z):den prog E (aP q [W,W,W,p,W,p,p]) (aM.then (a8.g a) (aM.inBlock 0 (aM.then (aD.g Y) (aX E [.tmp 4] Y)))) X Z:=
 a0 g fun a b c d g=>a0 g fun e f h i g=>aW g fun aA j g=>bH [(5,.slice a b c),(6,.slice e f h),(7,.int .i64 aA)] ⟨d,i,j,trivial⟩ (by kernel_rfl) g
def a8.t(Y:J):Nat→R→Nat→Nat→R→Nat→Nat→Int→V→Prop
 | 0=>fun _ _ _ _ _ _ _ _=>False
 | n+1=>fun a b c d e f aA Z=>bS.t Y (a8.t Y n) a b c d e f aA Z
theorem a8.ok(Y:J)(X:Fr)(Z:V)(g:a8.g (fun a b c d e f aA Z=>∃ n,a8.t Y n a b c d e f aA Z) X Z):den prog E (aP q [W,W,W,p,W,p]) (aM.inBlock 0 (aM.then (aD.g Y) (aX E [.tmp 4] Y))) X Z:=by
 obtain⟨a,b,c,h,g⟩:=bT g
 obtain⟨d,e,f,i,g⟩:=bT g
 obtain⟨aA,j,g⟩:=bC g
 obtain⟨n,g⟩:=g
 refine eZ (fun n=>a8.g (a8.t Y n)) (N:=(aP q [W,W,W,p,W,p,p])) (by kernel_rfl) (fun X Z g=>?_) (fun n=>bS.ok Y (a8.t Y n)) n X Z (aQ h (aQ i (bJ j (g))))
 obtain⟨a,b,c,h,g⟩:=bT g
 obtain⟨d,e,f,i,g⟩:=bT g
 obtain⟨aA,j,g⟩:=bC g
 exact g
theorem gG.ok(Y:J)(X:Fr)(Z:V)(g:a8.g (fun a b c d e f aA Z=>∃ n,a8.t Y n a b c d e f aA Z) X Z):den prog E (aP q [W,W,W,p,W]) (aM.then (aD.g Y) (aX E [.tmp 4] Y)) X Z:=
 eN (by kernel_rfl) (a8.ok Y X Z g)
def a4.t(Y:J)(a:R)(b c:Nat)(d:R)(e f:Nat)(Z:V):Prop:=
 aN (IntKind.i64.wrap ((((b:Nat):Int)) - 1)) fun g=>(∃ n,a8.t Y n a b c d e f g Z)
def a4.g(Y:J)(X:Fr)(Z:V):Prop:=aE (X 5) fun a b c=>aE (X 6) fun d e f=>a4.t Y a b c d e f Z
theorem a4.ok(Y:J)(X:Fr)(Z:V)(g:a4.g Y X Z):den prog E (aP q [W,W,W,p]) (aM.then (aD.g Y) (aX E [.tmp 4] Y)) X Z:=
 a0 g fun a b c d g=>a0 g fun e f h i g=>cN 1 (C:=(aP q [W,W,W,p,W])) (by kernel_rfl) (gG.ok Y) (bH [(5,.slice a b c),(6,.slice e f h)] ⟨d,i,trivial⟩ (by kernel_rfl) g)
theorem gH.ok(Y:J)(X:Fr)(Z:V)(g:a4.g Y X Z):den prog E (aP q [W,W,W]) (aX E [.tmp 4] Y) X Z:=
 e8 (by kernel_rfl) (aD.ok Y) (a4.ok Y X Z g)
def u.t(Y:J)(a:R)(b c:Nat)(d:R)(B e:Nat)(Z:V):Prop:=
 aG jR.id #[.slice a b c] Z fun a b=>
 aE a fun a c f=>
 aG jR.id #[.slice d B e] b fun b d=>
 aE b fun b e g=>
 cond ((((c:Nat):Int)) != (((e:Nat):Int))) (cond (decide ((((c:Nat):Int)) < (((e:Nat):Int)))) (Y (.int .i64 (-1)) d) (Y (.int .i64 1) d)) (a4.t Y a c f b e g d)
def u.g(Y:J)(X:Fr)(Z:V):Prop:=aE (X 0) fun a b c=>aE (X 1) fun d B e=>u.t Y a b c d B e Z
theorem u.ok(Y:J)(X:Fr)(Z:V)(g:u.g Y X Z):den prog E q (aX E [.tmp 4] Y) X Z:=
 a0 g fun a b c d g=>a0 g fun e B f h g=>cN 3 (C:=(aP q [W,W,W])) (by kernel_rfl) (gH.ok Y) (bH [(0,.slice a b c),(1,.slice e B f)] ⟨d,h,trivial⟩ (by kernel_rfl) g)
def t(a:R)(b c:Nat)(d:R)(B e:Nat)(Z:V)(Y:J):Prop:=u.t Y a b c d B e Z
theorem ok{a:R}{b:Nat}{d:Nat}{e:R}{B:Nat}{f:Nat}{Z:V}{Y:J}(g:t a b d e B f Z Y):aG id #[.slice a b d,.slice e B f] Z Y:=
 c9 dA (c:=q) (c3:=[.tmp 4]) Try.func15 (by kernel_rfl) (by kernel_rfl) (by kernel_rfl) (args:=[.slice a b d,.slice e B f]) (by kernel_rfl) (u.ok Y _ Z (aQ rfl (aQ rfl (g))))
end hC
namespace oN
noncomputable def q:Code:=c8 Try.f16
def u.t(Y:J)(a:R)(b c:Nat)(r:Int)(gC:Bool)(Z:V):Prop:=
 aG h6.id #[.slice a b c,.int .u64 r] Z fun a b=>
 cO a fun a=>
 bY a fun a c d e=>
 dI e .i64 fun e e=>
 bG e <| aG iR.id #[.slice a c d,.int .i64 320] b fun a b=>
 cO a fun a=>
 bY a fun a c d e=>
 dI e .i64 fun e e=>
 bG e <| cond gC (aG jV.id #[.int .u64 1] b fun e f=>
 aE e fun e g h=>
 aG hN.id #[.slice a c d,.slice e g h] f fun e f=>
 cO e fun e=>
 bY e fun e g h i=>
 dI i .i64 fun i i=>
 bG i <| Y (.slice e g h) f) (Y (.slice a c d) b)
def u.g(Y:J)(X:Fr)(Z:V):Prop:=aE (X 0) fun a b c=>aC .u64 (X 1) fun r=>eL (X 2) fun gC=>u.t Y a b c r gC Z
theorem u.ok(Y:J)(X:Fr)(Z:V)(g:u.g Y X Z):den prog E q (aX E [.tmp 6] Y) X Z:=
 a0 g fun a b c d g=>aW g fun r e g=>rW g fun gC f g=>bH [(0,.slice a b c),(1,.int .u64 r),(2,.bool gC)] ⟨d,e,f,trivial⟩ (by kernel_rfl) g
def t(a:R)(b c:Nat)(r:Int)(gC:Bool)(Z:V)(Y:J):Prop:=u.t Y a b c r gC Z
theorem ok{a:R}{b:Nat}{d:Nat}{r:Int}{gC:Bool}{Z:V}{Y:J}(g:t a b d r gC Z Y):aG id #[.slice a b d,.int .u64 r,.bool gC] Z Y:=
 c9 dA (c:=q) (c3:=[.tmp 6]) Try.func16 (by kernel_rfl) (by kernel_rfl) (by kernel_rfl) (args:=[.slice a b d,.int .u64 r,.bool gC]) (by kernel_rfl) (u.ok Y _ Z (aQ rfl (bJ rfl (bK rfl (g)))))
end oN
namespace nO
noncomputable def q:Code:=c8 Try.f17
def dG.g(a:Int→Int→R→Nat→Nat→Int→V→Prop)(X:Fr)(Z:V):Prop:=aC .u64 (X 0) fun aO=>aC .i64 (X 1) fun r=>aE (X 2) fun b bO bA=>aC .i64 (X 7) fun aA=>a aO r b bO bA aA Z
def a4.t(Y:J)(bX:Int→Int→R→Nat→Nat→Int→V→Prop)(aO r:Int)(a:R)(bO bA:Nat)(aA:Int)(Z:V):Prop:=
 aG l8.id #[.int .i64 aA] Z fun b c=>
 cO b fun b=>
 bY b fun b d e f=>
 dI f .i64 fun f f=>
 bG f <| aG nH.id #[.slice a bO bA,.slice b d e] c fun b c=>
 cO b fun b=>
 bY b fun b d e f=>
 dI f .i64 fun f f=>
 bG f <| aG hN.id #[.slice b d e,.slice a bO bA] c fun c f=>
 cO c fun c=>
 bY c fun c g h i=>
 dI i .i64 fun i i=>
 bG i <| aG jV.id #[.int .u64 aO] f fun f i=>
 aE f fun f j l=>
 aN (IntKind.i64.wrap (r+aA)) fun m=>
 aN (IntKind.i64.wrap (m+1)) fun m=>
 aG iQ.id #[.slice f j l,.int .i64 m] i fun f i=>
 cO f fun f=>
 bY f fun f j l m=>
 dI m .i64 fun m m=>
 bG m <| aG m2.id #[.slice f j l,.slice b d e] i fun i m=>
 aE i fun i n v=>
 aG m2.id #[.slice f j l,.slice c g h] m fun m D=>
 aE m fun m E G=>
 cond (decide ((((n:Nat):Int)) > 0)) (cond (decide ((((E:Nat):Int)) > 0)) (aG lZ.id #[.slice i n v] D fun H P=>
 aC .i64 H fun H=>
 aG lZ.id #[.slice m E G] P fun E G=>
 aC .i64 E fun E=>
 cond (H == E) (aG hC.id #[.slice f j l,.slice b d e] G fun E H=>
 aC .i64 E fun E=>
 aG hC.id #[.slice f j l,.slice c g h] H fun H P=>
 aC .i64 H fun H=>
 cond (E == H) (aN (IntKind.i64.wrap (aA+2)) fun E=>
 aG lZ.id #[.slice i n v] P fun H b=>
 aC .i64 H fun H=>
 aN (IntKind.i64.wrap (E - H)) fun E=>
 Y (.int .i64 E) b) (aN (IntKind.i64.wrap (aA+1400)) fun E=>
 bX aO r a bO bA E P)) (aN (IntKind.i64.wrap (aA+1400)) fun E=>
 bX aO r a bO bA E G)) (aN (IntKind.i64.wrap (aA+1400)) fun E=>
 bX aO r a bO bA E D)) (aN (IntKind.i64.wrap (aA+1400)) fun E=>
 bX aO r a bO bA E D)
def a4.g(Y:J)(bX:Int→Int→R→Nat→Nat→Int→V→Prop)(X:Fr)(Z:V):Prop:=aC .u64 (X 0) fun aO=>aC .i64 (X 1) fun r=>aE (X 2) fun a bO bA=>aC .i64 (X 7) fun aA=>a4.t Y bX aO r a bO bA aA Z
theorem a4.ok(Y:J)(bX:Int→Int→R→Nat→Nat→Int→V→Prop)(X:Fr)(Z:V)(g:a4.g Y bX X Z):den prog E (aP q [W,W,p,p]) (aM.then (dG.g bX) (aM.inBlock 0 (aX E [.tmp 6] Y))) X Z:=
 aW g fun aO a g=>aW g fun r b g=>a0 g fun c bO bA d g=>aW g fun aA e g=>bH [(0,.int .u64 aO),(1,.int .i64 r),(2,.slice c bO bA),(7,.int .i64 aA)] ⟨a,b,d,e,trivial⟩ (by kernel_rfl) g
def dG.t(Y:J):Nat→Int→Int→R→Nat→Nat→Int→V→Prop
 | 0=>fun _ _ _ _ _ _ _=>False
 | n+1=>fun aO r a bO bA aA Z=>a4.t Y (dG.t Y n) aO r a bO bA aA Z
theorem dG.ok(Y:J)(X:Fr)(Z:V)(g:dG.g (fun aO r a bO bA aA Z=>∃ n,dG.t Y n aO r a bO bA aA Z) X Z):den prog E (aP q [W,W,p]) (aM.inBlock 0 (aX E [.tmp 6] Y)) X Z:=by
 obtain⟨aO,b,g⟩:=bC g
 obtain⟨r,c,g⟩:=bC g
 obtain⟨a,bO,bA,d,g⟩:=bT g
 obtain⟨aA,e,g⟩:=bC g
 obtain⟨n,g⟩:=g
 refine eZ (fun n=>dG.g (dG.t Y n)) (N:=(aP q [W,W,p,p])) (by kernel_rfl) (fun X Z g=>?_) (fun n=>a4.ok Y (dG.t Y n)) n X Z (bJ b (bJ c (aQ d (bJ e (g)))))
 obtain⟨aO,b,g⟩:=bC g
 obtain⟨r,c,g⟩:=bC g
 obtain⟨a,bO,bA,d,g⟩:=bT g
 obtain⟨aA,e,g⟩:=bC g
 exact g
theorem eV.ok(Y:J)(X:Fr)(Z:V)(g:dG.g (fun aO r a bO bA aA Z=>∃ n,dG.t Y n aO r a bO bA aA Z) X Z):den prog E (aP q [W,W]) (aX E [.tmp 6] Y) X Z:=
 eN (by kernel_rfl) (dG.ok Y X Z g)
def u.t(Y:J)(aO r:Int)(a:R)(bO bA:Nat)(Z:V):Prop:=
 (∃ n,dG.t Y n aO r a bO bA 1400 Z)
def u.g(Y:J)(X:Fr)(Z:V):Prop:=aC .u64 (X 0) fun aO=>aC .i64 (X 1) fun r=>aE (X 2) fun a bO bA=>u.t Y aO r a bO bA Z
theorem u.ok(Y:J)(X:Fr)(Z:V)(g:u.g Y X Z):den prog E q (aX E [.tmp 6] Y) X Z:=
 aW g fun aO a g=>aW g fun r b g=>a0 g fun c bO bA d g=>cN 2 (C:=(aP q [W,W])) (by kernel_rfl) (eV.ok Y) (bH [(0,.int .u64 aO),(1,.int .i64 r),(2,.slice c bO bA)] ⟨a,b,d,trivial⟩ (by kernel_rfl) g)
def t(aO r:Int)(a:R)(bO bA:Nat)(Z:V)(Y:J):Prop:=u.t Y aO r a bO bA Z
theorem ok{aO:Int}{r:Int}{a:R}{bO:Nat}{bA:Nat}{Z:V}{Y:J}(g:t aO r a bO bA Z Y):aG id #[.int .u64 aO,.int .i64 r,.slice a bO bA] Z Y:=
 c9 dA (c:=q) (c3:=[.tmp 6]) Try.func17 (by kernel_rfl) (by kernel_rfl) (by kernel_rfl) (args:=[.int .u64 aO,.int .i64 r,.slice a bO bA]) (by kernel_rfl) (u.ok Y _ Z (bJ rfl (bJ rfl (aQ rfl (g)))))
end nO
namespace oF
noncomputable def q:Code:=c8 Try.f18
def u.t(Y:J)(aO:Int)(Z:V):Prop:=
 aG kJ.id #[.int .u64 5,.int .i64 aO] Z fun a b=>
 cO a fun a=>
 bY a fun a c d e=>
 dI e .u64 fun e f=>
 bG f <| aG kJ.id #[.int .u64 239,.int .i64 aO] b fun b f=>
 cO b fun b=>
 bY b fun b g h i=>
 dI i .u64 fun i j=>
 bG j <| aG h6.id #[.slice a c d,.int .u64 16] f fun a c=>
 cO a fun a=>
 bY a fun a d f j=>
 dI j .i64 fun j j=>
 bG j <| aG h6.id #[.slice b g h,.int .u64 4] c fun b c=>
 cO b fun b=>
 bY b fun b g h j=>
 dI j .i64 fun j j=>
 bG j <| aG hU.id #[.slice a d f,.slice b g h] c fun a b=>
 cO a fun a=>
 bY a fun a c d f=>
 dI f .i64 fun f f=>
 bG f <| aN (IntKind.u64.wrap (16*e)) fun e=>
 aN (IntKind.u64.wrap (4*i)) fun f=>
 aN (IntKind.u64.wrap (e+f)) fun e=>
 aG pT.id #[.slice a c d,.int .u64 e] b fun a b=>
 cO a fun a=>
 bY a fun a c d e=>
 bY e fun e f g h=>
 bG h <| Y (.tuple #[.slice a c d,.slice e f g]) b
def u.g(Y:J)(X:Fr)(Z:V):Prop:=aC .i64 (X 0) fun aO=>u.t Y aO Z
theorem u.ok(Y:J)(X:Fr)(Z:V)(g:u.g Y X Z):den prog E q (aX E [.tmp 2,.tmp 3] Y) X Z:=
 aW g fun aO a g=>bH [(0,.int .i64 aO)] ⟨a,trivial⟩ (by kernel_rfl) g
def t(aO:Int)(Z:V)(Y:J):Prop:=u.t Y aO Z
theorem ok{aO:Int}{Z:V}{Y:J}(g:t aO Z Y):aG id #[.int .i64 aO] Z Y:=
 c9 dA (c:=q) (c3:=[.tmp 2,.tmp 3]) Try.func18 (by kernel_rfl) (by kernel_rfl) (by kernel_rfl) (args:=[.int .i64 aO]) (by kernel_rfl) (u.ok Y _ Z (bJ rfl (g)))
end oF
namespace iR
noncomputable def q:Code:=c8 Try.f19
def aD.t(Y:J)(a:R)(b c:Nat)(Z:V):Prop:=
 aG kX.id #[.slice a b c] Z fun a b=>
 cO a fun a=>
 bY a fun a c d e=>
 dI e .i64 fun e f=>
 bG f <| Y (.tuple #[.slice a c d,.int .i64 e]) b
def aD.g(Y:J)(X:Fr)(Z:V):Prop:=aE (X 8) fun a b c=>aD.t Y a b c Z
theorem aD.ok(Y:J)(X:Fr)(Z:V)(g:aD.g Y X Z):den prog E (aP q [W,W,W,W,W,W,W]) (aX E [.tmp 4,.tmp 5] Y) X Z:=
 a0 g fun a b c d g=>bH [(8,.slice a b c)] ⟨d,trivial⟩ (by kernel_rfl) g
def a8.g(a:R→Nat→Nat→Int→Int→R→Nat→Nat→Int→Int→V→Prop)(X:Fr)(Z:V):Prop:=aE (X 0) fun b c d=>aC .i64 (X 6) fun e=>aC .i64 (X 7) fun aA=>aE (X 8) fun f h i=>aC .i64 (X 29) fun j=>aC .i64 (X 30) fun l=>a b c d e aA f h i j l Z
def bS.t(Y:J)(a:R→Nat→Nat→Int→Int→R→Nat→Nat→Int→Int→V→Prop)(b:R)(c d:Nat)(e aA:Int)(f:R)(g h:Nat)(i j:Int)(Z:V):Prop:=
 cond (decide (j < i)) (aN (IntKind.i64.wrap (e+j)) fun l=>
 cC b c l 1 fun l=>
 c5 Z .u64 l fun l=>
 0≤aA∧aN (fC .u64 l aA) fun l=>
 cC f g j 1 fun m=>
 bI Z m (.int .u64 l) fun l=>
 aN (IntKind.i64.wrap (e+j)) fun m=>
 aN (IntKind.i64.wrap (m+1)) fun m=>
 cond (decide (m < (((c:Nat):Int)))) (cC f g j 1 fun m=>
 c5 l .u64 m fun m=>
 aN (IntKind.i64.wrap (e+j)) fun n=>
 aN (IntKind.i64.wrap (n+1)) fun n=>
 cC b c n 1 fun n=>
 c5 l .u64 n fun n=>
 0≤(1:Int)∧aN (e7 .u64 n 1) fun n=>
 aN (IntKind.i64.wrap (63 - aA)) fun v=>
 0≤v∧aN (e7 .u64 n v) fun n=>
 aN (iX .u64 m n) fun m=>
 cC f g j 1 fun n=>
 bI l n (.int .u64 m) fun m=>
 aN (IntKind.i64.wrap (j+1)) fun n=>
 a b c d e aA f g h i n m) (aN (IntKind.i64.wrap (j+1)) fun j=>
 a b c d e aA f g h i j l)) (aD.t Y f g h Z)
def bS.g(Y:J)(a:R→Nat→Nat→Int→Int→R→Nat→Nat→Int→Int→V→Prop)(X:Fr)(Z:V):Prop:=aE (X 0) fun b c d=>aC .i64 (X 6) fun e=>aC .i64 (X 7) fun aA=>aE (X 8) fun f h i=>aC .i64 (X 29) fun j=>aC .i64 (X 30) fun l=>bS.t Y a b c d e aA f h i j l Z
theorem bS.ok(Y:J)(a:R→Nat→Nat→Int→Int→R→Nat→Nat→Int→Int→V→Prop)(X:Fr)(Z:V)(g:bS.g Y a X Z):den prog E (aP q [W,W,W,W,W,W,p,W,p,p]) (aM.then (a8.g a) (aM.inBlock 0 (aM.then (aD.g Y) (aX E [.tmp 4,.tmp 5] Y)))) X Z:=
 a0 g fun a b c d g=>aW g fun e f g=>aW g fun aA h g=>a0 g fun i j l m g=>aW g fun n t g=>aW g fun v D g=>bH [(0,.slice a b c),(6,.int .i64 e),(7,.int .i64 aA),(8,.slice i j l),(29,.int .i64 n),(30,.int .i64 v)] ⟨d,f,h,m,t,D,trivial⟩ (by kernel_rfl) g
def a8.t(Y:J):Nat→R→Nat→Nat→Int→Int→R→Nat→Nat→Int→Int→V→Prop
 | 0=>fun _ _ _ _ _ _ _ _ _ _ _=>False
 | n+1=>fun a b c d aA e f g h i Z=>bS.t Y (a8.t Y n) a b c d aA e f g h i Z
theorem a8.ok(Y:J)(X:Fr)(Z:V)(g:a8.g (fun a b c d aA e f h i j Z=>∃ n,a8.t Y n a b c d aA e f h i j Z) X Z):den prog E (aP q [W,W,W,W,W,W,p,W,p]) (aM.inBlock 0 (aM.then (aD.g Y) (aX E [.tmp 4,.tmp 5] Y))) X Z:=by
 obtain⟨a,b,c,l,g⟩:=bT g
 obtain⟨d,m,g⟩:=bC g
 obtain⟨aA,v,g⟩:=bC g
 obtain⟨e,f,h,D,g⟩:=bT g
 obtain⟨i,G,g⟩:=bC g
 obtain⟨j,H,g⟩:=bC g
 obtain⟨n,g⟩:=g
 refine eZ (fun n=>a8.g (a8.t Y n)) (N:=(aP q [W,W,W,W,W,W,p,W,p,p])) (by kernel_rfl) (fun X Z g=>?_) (fun n=>bS.ok Y (a8.t Y n)) n X Z (aQ l (bJ m (bJ v (aQ D (bJ G (bJ H (g)))))))
 obtain⟨a,b,c,l,g⟩:=bT g
 obtain⟨d,m,g⟩:=bC g
 obtain⟨aA,v,g⟩:=bC g
 obtain⟨e,f,h,D,g⟩:=bT g
 obtain⟨i,G,g⟩:=bC g
 obtain⟨j,H,g⟩:=bC g
 exact g
theorem gG.ok(Y:J)(X:Fr)(Z:V)(g:a8.g (fun a b c d aA e f h i j Z=>∃ n,a8.t Y n a b c d aA e f h i j Z) X Z):den prog E (aP q [W,W,W,W,W,W,p,W]) (aM.then (aD.g Y) (aX E [.tmp 4,.tmp 5] Y)) X Z:=
 eN (by kernel_rfl) (a8.ok Y X Z g)
def a4.t(Y:J)(a:R)(b c:Nat)(d aA:Int)(e:R)(f g:Nat)(Z:V):Prop:=
 (∃ n,a8.t Y n a b c d aA e f g (((f:Nat):Int)) 0 Z)
def a4.g(Y:J)(X:Fr)(Z:V):Prop:=aE (X 0) fun a b c=>aC .i64 (X 6) fun d=>aC .i64 (X 7) fun aA=>aE (X 8) fun e f h=>a4.t Y a b c d aA e f h Z
theorem a4.ok(Y:J)(X:Fr)(Z:V)(g:a4.g Y X Z):den prog E (aP q [W,W,W,W,W,W,p]) (aM.then (aD.g Y) (aX E [.tmp 4,.tmp 5] Y)) X Z:=
 a0 g fun a b c d g=>aW g fun e f g=>aW g fun aA h g=>a0 g fun i j l m g=>cN 1 (C:=(aP q [W,W,W,W,W,W,p,W])) (by kernel_rfl) (gG.ok Y) (bH [(0,.slice a b c),(6,.int .i64 e),(7,.int .i64 aA),(8,.slice i j l)] ⟨d,f,h,m,trivial⟩ (by kernel_rfl) g)
theorem gH.ok(Y:J)(X:Fr)(Z:V)(g:a4.g Y X Z):den prog E (aP q [W,W,W,W,W,W]) (aX E [.tmp 4,.tmp 5] Y) X Z:=
 e8 (by kernel_rfl) (aD.ok Y) (a4.ok Y X Z g)
def u.t(Y:J)(a:R)(b c:Nat)(r:Int)(Z:V):Prop:=
 cond (decide (r < 0)) (Y (.tuple #[.slice none 0 0,.int .i64 1]) Z) (aG iG.id #[.slice a b c] Z fun d e=>
 eL d fun d=>
 cond (!d) (Y (.tuple #[.slice none 0 0,.int .i64 2]) e) ((64:Int) ≠ 0∧aN (IntKind.i64.wrap (Int.tdiv r 64)) fun d=>
 (64:Int) ≠ 0∧aN (Int.tmod r 64) fun f=>
 cond (decide (d≥(((b:Nat):Int)))) (Y (.tuple #[.slice none 0 0,.int .i64 0]) e) (aN (IntKind.i64.wrap ((((b:Nat):Int)) - d)) fun g=>
 g1 e 23 k5 g g fun e h=>
 a4.t Y a b c d f (some e) g.toNat g.toNat h)))
def u.g(Y:J)(X:Fr)(Z:V):Prop:=aE (X 0) fun a b c=>aC .i64 (X 1) fun r=>u.t Y a b c r Z
theorem u.ok(Y:J)(X:Fr)(Z:V)(g:u.g Y X Z):den prog E q (aX E [.tmp 4,.tmp 5] Y) X Z:=
 a0 g fun a b c d g=>aW g fun r e g=>cN 6 (C:=(aP q [W,W,W,W,W,W])) (by kernel_rfl) (gH.ok Y) (bH [(0,.slice a b c),(1,.int .i64 r)] ⟨d,e,trivial⟩ (by kernel_rfl) g)
def t(a:R)(b c:Nat)(r:Int)(Z:V)(Y:J):Prop:=u.t Y a b c r Z
theorem ok{a:R}{b:Nat}{d:Nat}{r:Int}{Z:V}{Y:J}(g:t a b d r Z Y):aG id #[.slice a b d,.int .i64 r] Z Y:=
 c9 dA (c:=q) (c3:=[.tmp 4,.tmp 5]) Try.func19 (by kernel_rfl) (by kernel_rfl) (by kernel_rfl) (args:=[.slice a b d,.int .i64 r]) (by kernel_rfl) (u.ok Y _ Z (aQ rfl (bJ rfl (g))))
end iR
namespace eQ
noncomputable def q:Code:=c8 Try.f20
def u.t(Y:J)(a:Bool)(b:R)(B c:Nat)(Z:V):Prop:=
 cU Z 34 eE.aF fun d e=>
 aG fV.id #[.slice b B c] e fun b c=>
 aE b fun b e f=>
 cond a (bI c (d.add 0) (.bool (decide ((((e:Nat):Int)) > 0))) fun a=>
 bI a (d.add 1) (.slice b e f) fun a=>
 c4 a (d.add 0) fun g=>
 cR a (d.add 1) fun h i j=>
 Y (.agg #[.bool g,.slice h i j]) a) (bI c (d.add 0) (.bool false) fun a=>
 bI a (d.add 1) (.slice b e f) fun a=>
 c4 a (d.add 0) fun b=>
 cR a (d.add 1) fun c d e=>
 Y (.agg #[.bool b,.slice c d e]) a)
def u.g(Y:J)(X:Fr)(Z:V):Prop:=eL (X 0) fun a=>aE (X 1) fun b B c=>u.t Y a b B c Z
theorem u.ok(Y:J)(X:Fr)(Z:V)(g:u.g Y X Z):den prog E q (aX E [.cell 4 34] Y) X Z:=
 rW g fun a b g=>a0 g fun c B d e g=>bH [(0,.bool a),(1,.slice c B d)] ⟨b,e,trivial⟩ (by kernel_rfl) g
def t(a:Bool)(b:R)(B c:Nat)(Z:V)(Y:J):Prop:=u.t Y a b B c Z
theorem ok{a:Bool}{b:R}{B:Nat}{d:Nat}{Z:V}{Y:J}(g:t a b B d Z Y):aG id #[.bool a,.slice b B d] Z Y:=
 c9 dA (c:=q) (c3:=[.cell 4 34]) Try.func20 (by kernel_rfl) (by kernel_rfl) (by kernel_rfl) (args:=[.bool a,.slice b B d]) (by kernel_rfl) (u.ok Y _ Z (bK rfl (aQ rfl (g))))
end eQ
namespace jD
noncomputable def q:Code:=c8 Try.f21
def aD.t(Y:J)(a:R)(b c:Nat)(Z:V):Prop:=
 aG fV.id #[.slice a b c] Z fun a b=>
 aE a fun a c d=>
 Y (.slice a c d) b
def aD.g(Y:J)(X:Fr)(Z:V):Prop:=aE (X 3) fun a b c=>aD.t Y a b c Z
theorem aD.ok(Y:J)(X:Fr)(Z:V)(g:aD.g Y X Z):den prog E (aP q [W,W,W]) (aX E [.tmp 2] Y) X Z:=
 a0 g fun a b c d g=>bH [(3,.slice a b c)] ⟨d,trivial⟩ (by kernel_rfl) g
def a8.g(a:R→Nat→Nat→R→Nat→Nat→Int→V→Prop)(X:Fr)(Z:V):Prop:=aE (X 0) fun b c d=>aE (X 3) fun e f h=>aC .i64 (X 4) fun i=>a b c d e f h i Z
def bS.t(Y:J)(a:R→Nat→Nat→R→Nat→Nat→Int→V→Prop)(b:R)(c d:Nat)(e:R)(f g:Nat)(h:Int)(Z:V):Prop:=
 cond (decide (h < (((c:Nat):Int)))) (cC b c h 1 fun i=>
 c5 Z .u64 i fun i=>
 aN (fK .u64 i 4294967295) fun i=>
 aN (IntKind.u32.wrap i) fun i=>
 cC b c h 1 fun j=>
 c5 Z .u64 j fun j=>
 0≤(32:Int)∧aN (fC .u64 j 32) fun j=>
 aN (IntKind.u32.wrap j) fun j=>
 cU Z 78 [.int .u32 i,.int .u32 j] fun i j=>
 g2 j 78 gP e f g (.slice (some i) 2 2) fun i j l m=>
 aN (IntKind.i64.wrap (h+1)) fun h=>
 a b c d i j l h m) (aD.t Y e f g Z)
def bS.g(Y:J)(a:R→Nat→Nat→R→Nat→Nat→Int→V→Prop)(X:Fr)(Z:V):Prop:=aE (X 0) fun b c d=>aE (X 3) fun e f h=>aC .i64 (X 4) fun i=>bS.t Y a b c d e f h i Z
theorem bS.ok(Y:J)(a:R→Nat→Nat→R→Nat→Nat→Int→V→Prop)(X:Fr)(Z:V)(g:bS.g Y a X Z):den prog E (aP q [W,W,p,W,p,p]) (aM.then (a8.g a) (aM.inBlock 0 (aM.then (aD.g Y) (aX E [.tmp 2] Y)))) X Z:=
 a0 g fun a b c d g=>a0 g fun e f h i g=>aW g fun j l g=>bH [(0,.slice a b c),(3,.slice e f h),(4,.int .i64 j)] ⟨d,i,l,trivial⟩ (by kernel_rfl) g
def a8.t(Y:J):Nat→R→Nat→Nat→R→Nat→Nat→Int→V→Prop
 | 0=>fun _ _ _ _ _ _ _ _=>False
 | n+1=>fun a b c d e f g Z=>bS.t Y (a8.t Y n) a b c d e f g Z
theorem a8.ok(Y:J)(X:Fr)(Z:V)(g:a8.g (fun a b c d e f h Z=>∃ n,a8.t Y n a b c d e f h Z) X Z):den prog E (aP q [W,W,p,W,p]) (aM.inBlock 0 (aM.then (aD.g Y) (aX E [.tmp 2] Y))) X Z:=by
 obtain⟨a,b,c,i,g⟩:=bT g
 obtain⟨d,e,f,j,g⟩:=bT g
 obtain⟨h,l,g⟩:=bC g
 obtain⟨n,g⟩:=g
 refine eZ (fun n=>a8.g (a8.t Y n)) (N:=(aP q [W,W,p,W,p,p])) (by kernel_rfl) (fun X Z g=>?_) (fun n=>bS.ok Y (a8.t Y n)) n X Z (aQ i (aQ j (bJ l (g))))
 obtain⟨a,b,c,i,g⟩:=bT g
 obtain⟨d,e,f,j,g⟩:=bT g
 obtain⟨h,l,g⟩:=bC g
 exact g
theorem gG.ok(Y:J)(X:Fr)(Z:V)(g:a8.g (fun a b c d e f h Z=>∃ n,a8.t Y n a b c d e f h Z) X Z):den prog E (aP q [W,W,p,W]) (aM.then (aD.g Y) (aX E [.tmp 2] Y)) X Z:=
 eN (by kernel_rfl) (a8.ok Y X Z g)
def a4.t(Y:J)(a:R)(b c:Nat)(d:R)(e f:Nat)(Z:V):Prop:=
 (∃ n,a8.t Y n a b c d e f 0 Z)
def a4.g(Y:J)(X:Fr)(Z:V):Prop:=aE (X 0) fun a b c=>aE (X 3) fun d e f=>a4.t Y a b c d e f Z
theorem a4.ok(Y:J)(X:Fr)(Z:V)(g:a4.g Y X Z):den prog E (aP q [W,W,p]) (aM.then (aD.g Y) (aX E [.tmp 2] Y)) X Z:=
 a0 g fun a b c d g=>a0 g fun e f h i g=>cN 1 (C:=(aP q [W,W,p,W])) (by kernel_rfl) (gG.ok Y) (bH [(0,.slice a b c),(3,.slice e f h)] ⟨d,i,trivial⟩ (by kernel_rfl) g)
theorem gH.ok(Y:J)(X:Fr)(Z:V)(g:a4.g Y X Z):den prog E (aP q [W,W]) (aX E [.tmp 2] Y) X Z:=
 e8 (by kernel_rfl) (aD.ok Y) (a4.ok Y X Z g)
def u.t(Y:J)(a:R)(b c:Nat)(Z:V):Prop:=
 aN (IntKind.i64.wrap (2*(((b:Nat):Int)))) fun dF=>
 g1 Z 78 gP 0 dF fun d e=>
 a4.t Y a b c (some d) ((0:Int).toNat) dF.toNat e
def u.g(Y:J)(X:Fr)(Z:V):Prop:=aE (X 0) fun a b c=>u.t Y a b c Z
theorem u.ok(Y:J)(X:Fr)(Z:V)(g:u.g Y X Z):den prog E q (aX E [.tmp 2] Y) X Z:=
 a0 g fun a b c d g=>cN 2 (C:=(aP q [W,W])) (by kernel_rfl) (gH.ok Y) (bH [(0,.slice a b c)] ⟨d,trivial⟩ (by kernel_rfl) g)
def t(a:R)(b c:Nat)(Z:V)(Y:J):Prop:=u.t Y a b c Z
theorem ok{a:R}{b:Nat}{d:Nat}{Z:V}{Y:J}(g:t a b d Z Y):aG id #[.slice a b d] Z Y:=
 c9 dA (c:=q) (c3:=[.tmp 2]) Try.func21 (by kernel_rfl) (by kernel_rfl) (by kernel_rfl) (args:=[.slice a b d]) (by kernel_rfl) (u.ok Y _ Z (aQ rfl (g)))
end jD
namespace gV
noncomputable def q:Code:=c8 Try.f22
def u.t(Y:J)(aO:Int)(Z:V):Prop:=
 aN (fK .u64 aO 4294967295) fun dF=>
 aN (IntKind.u32.wrap dF) fun eY=>
 0≤(32:Int)∧aN (fC .u64 aO 32) fun a=>
 aN (IntKind.u32.wrap a) fun a=>
 cU Z 78 [.int .u32 eY,.int .u32 a] fun a b=>
 aG fV.id #[.slice (some a) 2 2] b fun a b=>
 aE a fun a c d=>
 Y (.slice a c d) b
def u.g(Y:J)(X:Fr)(Z:V):Prop:=aC .u64 (X 0) fun aO=>u.t Y aO Z
theorem u.ok(Y:J)(X:Fr)(Z:V)(g:u.g Y X Z):den prog E q (aX E [.tmp 2] Y) X Z:=
 aW g fun aO a g=>bH [(0,.int .u64 aO)] ⟨a,trivial⟩ (by kernel_rfl) g
def t(aO:Int)(Z:V)(Y:J):Prop:=u.t Y aO Z
theorem ok{aO:Int}{Z:V}{Y:J}(g:t aO Z Y):aG id #[.int .u64 aO] Z Y:=
 c9 dA (c:=q) (c3:=[.tmp 2]) Try.func22 (by kernel_rfl) (by kernel_rfl) (by kernel_rfl) (args:=[.int .u64 aO]) (by kernel_rfl) (u.ok Y _ Z (bJ rfl (g)))
end gV
namespace gL
noncomputable def q:Code:=c8 Try.f23
def u.t(Y:J)(a:Bool)(b:R)(c d:Nat)(e:Bool)(f:R)(g h:Nat)(Z:V):Prop:=
 cU Z 34 [.bool a,.slice b c d] fun a b=>
 cU b 34 [.bool e,.slice f g h] fun b c=>
 cU c 34 eE.aF fun c d=>
 a.block < d.size∧c4 d (a.add 0) fun e=>
 cR d (a.add 1) fun a f g=>
 b.block < d.size∧c4 d (b.add 0) fun h=>
 cR d (b.add 1) fun b i j=>
 aG iT.id #[.agg #[.bool h,.slice b i j]] d fun b h=>
 cE b fun b=>
 cX b fun b i=>
 bY i fun i j l m=>
 bG m <| (cA d.size d h)∧aG hQ.id #[.agg #[.bool e,.slice a f g],.agg #[.bool b,.slice i j l]] h fun a b=>
 cE a fun a=>
 cX a fun a e=>
 bY e fun e f g i=>
 bG i <| (cA d.size h b)∧bI b (c.add 0) (.bool a) fun a=>
 bI a (c.add 1) (.slice e f g) fun a=>
 c4 a (c.add 0) fun b=>
 cR a (c.add 1) fun c d e=>
 Y (.agg #[.bool b,.slice c d e]) a
def u.g(Y:J)(X:Fr)(Z:V):Prop:=cE (X 0) fun a=>cL a fun a b=>eL a fun a=>cL b fun b c=>aE b fun b d e=>bG c <| cE (X 1) fun c=>cL c fun c f=>eL c fun c=>cL f fun f h=>aE f fun f i j=>bG h <| u.t Y a b d e c f i j Z
theorem u.ok(Y:J)(X:Fr)(Z:V)(g:u.g Y X Z):den prog E q (aX E [.cell 4 34] Y) X Z:=by
 obtain⟨Ix,a,b⟩:=hG g
 obtain⟨Iy,Iz,rfl,c⟩:=eI b
 obtain⟨d,rfl,e⟩:=g4 c
 obtain⟨IA,IB,rfl,f⟩:=eI e
 obtain⟨h,i,j,rfl,l⟩:=bT f
 obtain⟨rfl,g⟩:=gM l
 obtain⟨IC,m,n⟩:=hG g
 obtain⟨ID,IE,rfl,t⟩:=eI n
 obtain⟨v,rfl,D⟩:=g4 t
 obtain⟨IF,IG,rfl,G⟩:=eI D
 obtain⟨H,P,Iv,rfl,Iw⟩:=bT G
 obtain⟨rfl,g⟩:=gM Iw
 exact bH [(0,.agg #[.bool d,.slice h i j]),(1,.agg #[.bool v,.slice H P Iv])] ⟨a,m,trivial⟩ (by kernel_rfl) g
def t(a:Bool)(b:R)(c d:Nat)(e:Bool)(f:R)(g h:Nat)(Z:V)(Y:J):Prop:=u.t Y a b c d e f g h Z
theorem ok{a:Bool}{b:R}{d:Nat}{e:Nat}{f:Bool}{h:R}{i:Nat}{j:Nat}{Z:V}{Y:J}(g:t a b d e f h i j Z Y):aG id #[.agg #[.bool a,.slice b d e],.agg #[.bool f,.slice h i j]] Z Y:=
 c9 dA (c:=q) (c3:=[.cell 4 34]) Try.func23 (by kernel_rfl) (by kernel_rfl) (by kernel_rfl) (args:=[.agg #[.bool a,.slice b d e],.agg #[.bool f,.slice h i j]]) (by kernel_rfl) (u.ok Y _ Z (cF rfl (a9 (bK rfl (a9 (aQ rfl (b3 (cF rfl (a9 (bK rfl (a9 (aQ rfl (b3 (g))))))))))))))
end gL
namespace h9
noncomputable def q:Code:=c8 Try.f24
def u.t(Y:J)(a:Bool)(b:R)(c d:Nat)(e:Bool)(f:R)(g h:Nat)(Z:V):Prop:=
 cU Z 34 [.bool a,.slice b c d] fun a b=>
 cU b 34 [.bool e,.slice f g h] fun b c=>
 cU c 34 eE.aF fun c d=>
 (a.add 0).block < d.size∧c4 d (a.add 0) fun e=>
 (b.add 0).block < d.size∧c4 d (b.add 0) fun f=>
 (a.add 1).block < d.size∧cR d (a.add 1) fun a g h=>
 (b.add 1).block < d.size∧cR d (b.add 1) fun b i j=>
 aG gX.id #[.slice a g h,.slice b i j] d fun a b=>
 aE a fun a g h=>
 (cA d.size d b)∧aG eQ.id #[.bool (!(e == f)),.slice a g h] b fun a e=>
 cE a fun a=>
 cX a fun a f=>
 bY f fun f g h i=>
 bG i <| (cA d.size b e)∧bI e (c.add 0) (.bool a) fun a=>
 bI a (c.add 1) (.slice f g h) fun a=>
 c4 a (c.add 0) fun b=>
 cR a (c.add 1) fun c d e=>
 Y (.agg #[.bool b,.slice c d e]) a
def u.g(Y:J)(X:Fr)(Z:V):Prop:=cE (X 0) fun a=>cL a fun a b=>eL a fun a=>cL b fun b c=>aE b fun b d e=>bG c <| cE (X 1) fun c=>cL c fun c f=>eL c fun c=>cL f fun f h=>aE f fun f i j=>bG h <| u.t Y a b d e c f i j Z
theorem u.ok(Y:J)(X:Fr)(Z:V)(g:u.g Y X Z):den prog E q (aX E [.cell 4 34] Y) X Z:=by
 obtain⟨Ix,a,b⟩:=hG g
 obtain⟨Iy,Iz,rfl,c⟩:=eI b
 obtain⟨d,rfl,e⟩:=g4 c
 obtain⟨IA,IB,rfl,f⟩:=eI e
 obtain⟨h,i,j,rfl,l⟩:=bT f
 obtain⟨rfl,g⟩:=gM l
 obtain⟨IC,m,n⟩:=hG g
 obtain⟨ID,IE,rfl,t⟩:=eI n
 obtain⟨v,rfl,D⟩:=g4 t
 obtain⟨IF,IG,rfl,G⟩:=eI D
 obtain⟨H,P,Iv,rfl,Iw⟩:=bT G
 obtain⟨rfl,g⟩:=gM Iw
 exact bH [(0,.agg #[.bool d,.slice h i j]),(1,.agg #[.bool v,.slice H P Iv])] ⟨a,m,trivial⟩ (by kernel_rfl) g
def t(a:Bool)(b:R)(c d:Nat)(e:Bool)(f:R)(g h:Nat)(Z:V)(Y:J):Prop:=u.t Y a b c d e f g h Z
theorem ok{a:Bool}{b:R}{d:Nat}{e:Nat}{f:Bool}{h:R}{i:Nat}{j:Nat}{Z:V}{Y:J}(g:t a b d e f h i j Z Y):aG id #[.agg #[.bool a,.slice b d e],.agg #[.bool f,.slice h i j]] Z Y:=
 c9 dA (c:=q) (c3:=[.cell 4 34]) Try.func24 (by kernel_rfl) (by kernel_rfl) (by kernel_rfl) (args:=[.agg #[.bool a,.slice b d e],.agg #[.bool f,.slice h i j]]) (by kernel_rfl) (u.ok Y _ Z (cF rfl (a9 (bK rfl (a9 (aQ rfl (b3 (cF rfl (a9 (bK rfl (a9 (aQ rfl (b3 (g))))))))))))))
end h9
namespace hQ
noncomputable def q:Code:=c8 Try.f25
def u.t(Y:J)(a:Bool)(b:R)(c d:Nat)(e:Bool)(f:R)(g h:Nat)(Z:V):Prop:=
 cU Z 34 [.bool a,.slice b c d] fun a b=>
 cU b 34 [.bool e,.slice f g h] fun b c=>
 cU c 34 eE.aF fun c d=>
 c4 d (a.add 0) fun e=>
 c4 d (b.add 0) fun f=>
 cond (e == f) ((a.add 0).block < d.size∧c4 d (a.add 0) fun e=>
 (a.add 1).block < d.size∧cR d (a.add 1) fun f g h=>
 (b.add 1).block < d.size∧cR d (b.add 1) fun i j l=>
 aG gW.id #[.slice f g h,.slice i j l] d fun f g=>
 aE f fun f h i=>
 (cA d.size d g)∧aG eQ.id #[.bool e,.slice f h i] g fun e f=>
 cE e fun e=>
 cX e fun e h=>
 bY h fun h i j l=>
 bG l <| (cA d.size g f)∧bI f (c.add 0) (.bool e) fun e=>
 bI e (c.add 1) (.slice h i j) fun e=>
 c4 e (c.add 0) fun f=>
 cR e (c.add 1) fun g h i=>
 Y (.agg #[.bool f,.slice g h i]) e) (cR d (a.add 1) fun e f g=>
 cR d (b.add 1) fun h i j=>
 aG iJ.id #[.slice e f g,.slice h i j] d fun d e=>
 aC .i64 d fun d=>
 cond (decide (d≥0)) ((a.add 0).block < e.size∧c4 e (a.add 0) fun d=>
 (a.add 1).block < e.size∧cR e (a.add 1) fun f g h=>
 (b.add 1).block < e.size∧cR e (b.add 1) fun i j l=>
 aG hA.id #[.slice f g h,.slice i j l] e fun f g=>
 aE f fun f h i=>
 (cA e.size e g)∧aG eQ.id #[.bool d,.slice f h i] g fun d f=>
 cE d fun d=>
 cX d fun d h=>
 bY h fun h i j l=>
 bG l <| (cA e.size g f)∧bI f (c.add 0) (.bool d) fun d=>
 bI d (c.add 1) (.slice h i j) fun d=>
 c4 d (c.add 0) fun f=>
 cR d (c.add 1) fun g h i=>
 Y (.agg #[.bool f,.slice g h i]) d) ((b.add 0).block < e.size∧c4 e (b.add 0) fun d=>
 (b.add 1).block < e.size∧cR e (b.add 1) fun b f g=>
 (a.add 1).block < e.size∧cR e (a.add 1) fun a h i=>
 aG hA.id #[.slice b f g,.slice a h i] e fun a b=>
 aE a fun a f g=>
 (cA e.size e b)∧aG eQ.id #[.bool d,.slice a f g] b fun a d=>
 cE a fun a=>
 cX a fun a f=>
 bY f fun f g h i=>
 bG i <| (cA e.size b d)∧bI d (c.add 0) (.bool a) fun a=>
 bI a (c.add 1) (.slice f g h) fun a=>
 c4 a (c.add 0) fun b=>
 cR a (c.add 1) fun c d e=>
 Y (.agg #[.bool b,.slice c d e]) a))
def u.g(Y:J)(X:Fr)(Z:V):Prop:=cE (X 0) fun a=>cL a fun a b=>eL a fun a=>cL b fun b c=>aE b fun b d e=>bG c <| cE (X 1) fun c=>cL c fun c f=>eL c fun c=>cL f fun f h=>aE f fun f i j=>bG h <| u.t Y a b d e c f i j Z
theorem u.ok(Y:J)(X:Fr)(Z:V)(g:u.g Y X Z):den prog E q (aX E [.cell 4 34] Y) X Z:=by
 obtain⟨Ix,a,b⟩:=hG g
 obtain⟨Iy,Iz,rfl,c⟩:=eI b
 obtain⟨d,rfl,e⟩:=g4 c
 obtain⟨IA,IB,rfl,f⟩:=eI e
 obtain⟨h,i,j,rfl,l⟩:=bT f
 obtain⟨rfl,g⟩:=gM l
 obtain⟨IC,m,n⟩:=hG g
 obtain⟨ID,IE,rfl,t⟩:=eI n
 obtain⟨v,rfl,D⟩:=g4 t
 obtain⟨IF,IG,rfl,G⟩:=eI D
 obtain⟨H,P,Iv,rfl,Iw⟩:=bT G
 obtain⟨rfl,g⟩:=gM Iw
 exact bH [(0,.agg #[.bool d,.slice h i j]),(1,.agg #[.bool v,.slice H P Iv])] ⟨a,m,trivial⟩ (by kernel_rfl) g
def t(a:Bool)(b:R)(c d:Nat)(e:Bool)(f:R)(g h:Nat)(Z:V)(Y:J):Prop:=u.t Y a b c d e f g h Z
theorem ok{a:Bool}{b:R}{d:Nat}{e:Nat}{f:Bool}{h:R}{i:Nat}{j:Nat}{Z:V}{Y:J}(g:t a b d e f h i j Z Y):aG id #[.agg #[.bool a,.slice b d e],.agg #[.bool f,.slice h i j]] Z Y:=
 c9 dA (c:=q) (c3:=[.cell 4 34]) Try.func25 (by kernel_rfl) (by kernel_rfl) (by kernel_rfl) (args:=[.agg #[.bool a,.slice b d e],.agg #[.bool f,.slice h i j]]) (by kernel_rfl) (u.ok Y _ Z (cF rfl (a9 (bK rfl (a9 (aQ rfl (b3 (cF rfl (a9 (bK rfl (a9 (aQ rfl (b3 (g))))))))))))))
end hQ
namespace hP
noncomputable def q:Code:=c8 Try.f26
def u.t(Y:J)(a:Bool)(b:R)(c d:Nat)(Z:V):Prop:=
 cU Z 34 [.bool a,.slice b c d] fun a b=>
 cR b (a.add 1) fun c c d=>
 cond ((((c:Nat):Int)) == 0) (Y (.int .i64 0) b) (c4 b (a.add 0) fun a=>
 cond a (Y (.int .i64 (-1)) b) (Y (.int .i64 1) b))
def u.g(Y:J)(X:Fr)(Z:V):Prop:=cE (X 0) fun a=>cL a fun a b=>eL a fun a=>cL b fun b c=>aE b fun b d e=>bG c <| u.t Y a b d e Z
theorem u.ok(Y:J)(X:Fr)(Z:V)(g:u.g Y X Z):den prog E q (aX E [.tmp 2] Y) X Z:=by
 obtain⟨m,a,b⟩:=hG g
 obtain⟨n,t,rfl,c⟩:=eI b
 obtain⟨d,rfl,e⟩:=g4 c
 obtain⟨v,D,rfl,f⟩:=eI e
 obtain⟨h,i,j,rfl,l⟩:=bT f
 obtain⟨rfl,g⟩:=gM l
 exact bH [(0,.agg #[.bool d,.slice h i j])] ⟨a,trivial⟩ (by kernel_rfl) g
def t(a:Bool)(b:R)(c d:Nat)(Z:V)(Y:J):Prop:=u.t Y a b c d Z
theorem ok{a:Bool}{b:R}{d:Nat}{e:Nat}{Z:V}{Y:J}(g:t a b d e Z Y):aG id #[.agg #[.bool a,.slice b d e]] Z Y:=
 c9 dA (c:=q) (c3:=[.tmp 2]) Try.func26 (by kernel_rfl) (by kernel_rfl) (by kernel_rfl) (args:=[.agg #[.bool a,.slice b d e]]) (by kernel_rfl) (u.ok Y _ Z (cF rfl (a9 (bK rfl (a9 (aQ rfl (b3 (g))))))))
end hP
namespace iT
noncomputable def q:Code:=c8 Try.f27
def u.t(Y:J)(a:Bool)(b:R)(c d:Nat)(Z:V):Prop:=
 cU Z 34 [.bool a,.slice b c d] fun a b=>
 cU b 34 eE.aF fun b c=>
 c4 c (a.add 0) fun d=>
 cR c (a.add 1) fun a e f=>
 aG eQ.id #[.bool (!d),.slice a e f] c fun a c=>
 cE a fun a=>
 cX a fun a d=>
 bY d fun d e f g=>
 bG g <| bI c (b.add 0) (.bool a) fun a=>
 bI a (b.add 1) (.slice d e f) fun a=>
 c4 a (b.add 0) fun c=>
 cR a (b.add 1) fun b d e=>
 Y (.agg #[.bool c,.slice b d e]) a
def u.g(Y:J)(X:Fr)(Z:V):Prop:=cE (X 0) fun a=>cL a fun a b=>eL a fun a=>cL b fun b c=>aE b fun b d e=>bG c <| u.t Y a b d e Z
theorem u.ok(Y:J)(X:Fr)(Z:V)(g:u.g Y X Z):den prog E q (aX E [.cell 2 34] Y) X Z:=by
 obtain⟨m,a,b⟩:=hG g
 obtain⟨n,t,rfl,c⟩:=eI b
 obtain⟨d,rfl,e⟩:=g4 c
 obtain⟨v,D,rfl,f⟩:=eI e
 obtain⟨h,i,j,rfl,l⟩:=bT f
 obtain⟨rfl,g⟩:=gM l
 exact bH [(0,.agg #[.bool d,.slice h i j])] ⟨a,trivial⟩ (by kernel_rfl) g
def t(a:Bool)(b:R)(c d:Nat)(Z:V)(Y:J):Prop:=u.t Y a b c d Z
theorem ok{a:Bool}{b:R}{d:Nat}{e:Nat}{Z:V}{Y:J}(g:t a b d e Z Y):aG id #[.agg #[.bool a,.slice b d e]] Z Y:=
 c9 dA (c:=q) (c3:=[.cell 2 34]) Try.func27 (by kernel_rfl) (by kernel_rfl) (by kernel_rfl) (args:=[.agg #[.bool a,.slice b d e]]) (by kernel_rfl) (u.ok Y _ Z (cF rfl (a9 (bK rfl (a9 (aQ rfl (b3 (g))))))))
end iT
namespace jK
noncomputable def q:Code:=c8 Try.f28
def aD.t(Y:J)(a:R)(b c:Nat)(r:Int)(Z:V):Prop:=
 (32:Int) ≠ 0∧aN (IntKind.i64.wrap (Int.tdiv r 32)) fun d=>
 (32:Int) ≠ 0∧aN (IntKind.i64.wrap (Int.tdiv r 32)) fun e=>
 aN (IntKind.i64.wrap (e+(((b:Nat):Int)))) fun e=>
 aN (IntKind.i64.wrap (e+1)) fun e=>
 g1 Z 78 gP d e fun f g=>
 (32:Int) ≠ 0∧aN (Int.tmod r 32) fun h=>
 0≤h∧aN (e7 .u32 1 h) fun h=>
 aG kE.id #[.slice a b c,.int .u32 h,.int .u32 0] g fun a b=>
 aE a fun a c g=>
 g2 b 78 gP (some f) d.toNat e.toNat (.slice a c g) fun a b c d=>
 aG fV.id #[.slice a b c] d fun a b=>
 aE a fun a c d=>
 Y (.slice a c d) b
def aD.g(Y:J)(X:Fr)(Z:V):Prop:=aE (X 0) fun a b c=>aC .i64 (X 1) fun r=>aD.t Y a b c r Z
theorem aD.ok(Y:J)(X:Fr)(Z:V)(g:aD.g Y X Z):den prog E (aP q [W,W]) (aX E [.tmp 4] Y) X Z:=
 a0 g fun a b c d g=>aW g fun r e g=>bH [(0,.slice a b c),(1,.int .i64 r)] ⟨d,e,trivial⟩ (by kernel_rfl) g
def u.t(Y:J)(a:R)(b c:Nat)(r:Int)(Z:V):Prop:=
 cond (decide (r≤0)) (aG fV.id #[.slice a b c] Z fun d e=>
 aE d fun d f g=>
 Y (.slice d f g) e) (cond ((((b:Nat):Int)) == 0) (aG fV.id #[.slice a b c] Z fun d e=>
 aE d fun d f g=>
 Y (.slice d f g) e) (aD.t Y a b c r Z))
def u.g(Y:J)(X:Fr)(Z:V):Prop:=aE (X 0) fun a b c=>aC .i64 (X 1) fun r=>u.t Y a b c r Z
theorem u.ok(Y:J)(X:Fr)(Z:V)(g:u.g Y X Z):den prog E q (aX E [.tmp 4] Y) X Z:=
 a0 g fun a b c d g=>aW g fun r e g=>cN 2 (C:=(aP q [W,W])) (by kernel_rfl) (aD.ok Y) (bH [(0,.slice a b c),(1,.int .i64 r)] ⟨d,e,trivial⟩ (by kernel_rfl) g)
def t(a:R)(b c:Nat)(r:Int)(Z:V)(Y:J):Prop:=u.t Y a b c r Z
theorem ok{a:R}{b:Nat}{d:Nat}{r:Int}{Z:V}{Y:J}(g:t a b d r Z Y):aG id #[.slice a b d,.int .i64 r] Z Y:=
 c9 dA (c:=q) (c3:=[.tmp 4]) Try.func28 (by kernel_rfl) (by kernel_rfl) (by kernel_rfl) (args:=[.slice a b d,.int .i64 r]) (by kernel_rfl) (u.ok Y _ Z (aQ rfl (bJ rfl (g))))
end jK
namespace gW
noncomputable def q:Code:=c8 Try.f29
def aD.t(Y:J)(a:R)(b c:Nat)(Z:V):Prop:=
 aG fV.id #[.slice a b c] Z fun a b=>
 aE a fun a c d=>
 Y (.slice a c d) b
def aD.g(Y:J)(X:Fr)(Z:V):Prop:=aE (X 5) fun a b c=>aD.t Y a b c Z
theorem aD.ok(Y:J)(X:Fr)(Z:V)(g:aD.g Y X Z):den prog E (aP q [W,W,W,W]) (aX E [.tmp 4] Y) X Z:=
 a0 g fun a b c d g=>bH [(5,.slice a b c)] ⟨d,trivial⟩ (by kernel_rfl) g
def a8.g(a:R→Nat→Nat→R→Nat→Nat→R→Nat→Nat→Int→Int→V→Prop)(X:Fr)(Z:V):Prop:=aE (X 0) fun b c d=>aE (X 1) fun e B f=>aE (X 5) fun h i j=>aC .u64 (X 6) fun l=>aC .i64 (X 7) fun aA=>a b c d e B f h i j l aA Z
def cW.t(Y:J)(a:R→Nat→Nat→R→Nat→Nat→R→Nat→Nat→Int→Int→V→Prop)(b:R)(c d:Nat)(e:R)(B f:Nat)(g:R)(h i:Nat)(j aA:Int)(Z:V):Prop:=
 cond (decide (aA < (((c:Nat):Int)))) (cC b c aA 1 fun l=>
 c5 Z .u32 l fun l=>
 aN (IntKind.u64.wrap l) fun l=>
 aN (IntKind.u64.wrap (j+l)) fun l=>
 cond (decide (aA < (((B:Nat):Int)))) (cC e B aA 1 fun m=>
 c5 Z .u32 m fun m=>
 aN (IntKind.u64.wrap m) fun m=>
 aN (IntKind.u64.wrap (l+m)) fun m=>
 aN (fK .u64 m 4294967295) fun n=>
 aN (IntKind.u32.wrap n) fun n=>
 cU Z 78 [.int .u32 n] fun n v=>
 g2 v 78 gP g h i (.slice (some n) 1 1) fun n v D E=>
 0≤(32:Int)∧aN (fC .u64 m 32) fun m=>
 aN (IntKind.i64.wrap (aA+1)) fun G=>
 a b c d e B f n v D m G E) (aN (fK .u64 l 4294967295) fun D=>
 aN (IntKind.u32.wrap D) fun D=>
 cU Z 78 [.int .u32 D] fun D E=>
 g2 E 78 gP g h i (.slice (some D) 1 1) fun D E G m=>
 0≤(32:Int)∧aN (fC .u64 l 32) fun l=>
 aN (IntKind.i64.wrap (aA+1)) fun n=>
 a b c d e B f D E G l n m)) (cond (decide (aA < (((B:Nat):Int)))) (cC e B aA 1 fun D=>
 c5 Z .u32 D fun D=>
 aN (IntKind.u64.wrap D) fun D=>
 aN (IntKind.u64.wrap (j+D)) fun D=>
 aN (fK .u64 D 4294967295) fun E=>
 aN (IntKind.u32.wrap E) fun E=>
 cU Z 78 [.int .u32 E] fun E G=>
 g2 G 78 gP g h i (.slice (some E) 1 1) fun E G l m=>
 0≤(32:Int)∧aN (fC .u64 D 32) fun D=>
 aN (IntKind.i64.wrap (aA+1)) fun n=>
 a b c d e B f E G l D n m) (aN (fK .u64 j 4294967295) fun D=>
 aN (IntKind.u32.wrap D) fun D=>
 cU Z 78 [.int .u32 D] fun D E=>
 g2 E 78 gP g h i (.slice (some D) 1 1) fun D E G g=>
 0≤(32:Int)∧aN (fC .u64 j 32) fun h=>
 aN (IntKind.i64.wrap (aA+1)) fun i=>
 a b c d e B f D E G h i g))
def cW.g(Y:J)(a:R→Nat→Nat→R→Nat→Nat→R→Nat→Nat→Int→Int→V→Prop)(X:Fr)(Z:V):Prop:=aE (X 0) fun b c d=>aE (X 1) fun e B f=>aE (X 5) fun h i j=>aC .u64 (X 6) fun l=>aC .i64 (X 7) fun aA=>cW.t Y a b c d e B f h i j l aA Z
theorem cW.ok(Y:J)(a:R→Nat→Nat→R→Nat→Nat→R→Nat→Nat→Int→Int→V→Prop)(X:Fr)(Z:V)(g:cW.g Y a X Z):den prog E (aP q [W,W,W,p,W,p,p,W]) (aM.then (a8.g a) (aM.inBlock 0 (aM.then (aD.g Y) (aX E [.tmp 4] Y)))) X Z:=
 a0 g fun a b c d g=>a0 g fun e B f h g=>a0 g fun i j l m g=>aW g fun n t g=>aW g fun aA v g=>bH [(0,.slice a b c),(1,.slice e B f),(5,.slice i j l),(6,.int .u64 n),(7,.int .i64 aA)] ⟨d,h,m,t,v,trivial⟩ (by kernel_rfl) g
def bS.t(Y:J)(a:R→Nat→Nat→R→Nat→Nat→R→Nat→Nat→Int→Int→V→Prop)(b:R)(c d:Nat)(e:R)(B f:Nat)(g:R)(h i:Nat)(j aA:Int)(Z:V):Prop:=
 cond (decide (aA < (((c:Nat):Int)))) (cW.t Y a b c d e B f g h i j aA Z) (cond (decide (aA < (((B:Nat):Int)))) (cW.t Y a b c d e B f g h i j aA Z) (cond (decide (j > 0)) (cW.t Y a b c d e B f g h i j aA Z) (aD.t Y g h i Z)))
def bS.g(Y:J)(a:R→Nat→Nat→R→Nat→Nat→R→Nat→Nat→Int→Int→V→Prop)(X:Fr)(Z:V):Prop:=aE (X 0) fun b c d=>aE (X 1) fun e B f=>aE (X 5) fun h i j=>aC .u64 (X 6) fun l=>aC .i64 (X 7) fun aA=>bS.t Y a b c d e B f h i j l aA Z
theorem bS.ok(Y:J)(a:R→Nat→Nat→R→Nat→Nat→R→Nat→Nat→Int→Int→V→Prop)(X:Fr)(Z:V)(g:bS.g Y a X Z):den prog E (aP q [W,W,W,p,W,p,p]) (aM.then (a8.g a) (aM.inBlock 0 (aM.then (aD.g Y) (aX E [.tmp 4] Y)))) X Z:=
 a0 g fun b c d e g=>a0 g fun f B h i g=>a0 g fun j l m n g=>aW g fun t v g=>aW g fun aA D g=>cN 1 (C:=(aP q [W,W,W,p,W,p,p,W])) (by kernel_rfl) (cW.ok Y a) (bH [(0,.slice b c d),(1,.slice f B h),(5,.slice j l m),(6,.int .u64 t),(7,.int .i64 aA)] ⟨e,i,n,v,D,trivial⟩ (by kernel_rfl) g)
def a8.t(Y:J):Nat→R→Nat→Nat→R→Nat→Nat→R→Nat→Nat→Int→Int→V→Prop
 | 0=>fun _ _ _ _ _ _ _ _ _ _ _ _=>False
 | n+1=>fun a b c d B e f g h i aA Z=>bS.t Y (a8.t Y n) a b c d B e f g h i aA Z
theorem a8.ok(Y:J)(X:Fr)(Z:V)(g:a8.g (fun a b c d B e f h i j aA Z=>∃ n,a8.t Y n a b c d B e f h i j aA Z) X Z):den prog E (aP q [W,W,W,p,W,p]) (aM.inBlock 0 (aM.then (aD.g Y) (aX E [.tmp 4] Y))) X Z:=by
 obtain⟨a,b,c,l,g⟩:=bT g
 obtain⟨d,B,e,m,g⟩:=bT g
 obtain⟨f,h,i,v,g⟩:=bT g
 obtain⟨j,D,g⟩:=bC g
 obtain⟨aA,G,g⟩:=bC g
 obtain⟨n,g⟩:=g
 refine eZ (fun n=>a8.g (a8.t Y n)) (N:=(aP q [W,W,W,p,W,p,p])) (by kernel_rfl) (fun X Z g=>?_) (fun n=>bS.ok Y (a8.t Y n)) n X Z (aQ l (aQ m (aQ v (bJ D (bJ G (g))))))
 obtain⟨a,b,c,l,g⟩:=bT g
 obtain⟨d,B,e,m,g⟩:=bT g
 obtain⟨f,h,i,v,g⟩:=bT g
 obtain⟨j,D,g⟩:=bC g
 obtain⟨aA,G,g⟩:=bC g
 exact g
theorem jE.ok(Y:J)(X:Fr)(Z:V)(g:a8.g (fun a b c d B e f h i j aA Z=>∃ n,a8.t Y n a b c d B e f h i j aA Z) X Z):den prog E (aP q [W,W,W,p,W]) (aM.then (aD.g Y) (aX E [.tmp 4] Y)) X Z:=
 eN (by kernel_rfl) (a8.ok Y X Z g)
def a4.t(Y:J)(a:R)(b c:Nat)(d:R)(B e:Nat)(f:R)(g h:Nat)(i:Int)(Z:V):Prop:=
 (∃ n,a8.t Y n a b c d B e f g h i 0 Z)
def a4.g(Y:J)(X:Fr)(Z:V):Prop:=aE (X 0) fun a b c=>aE (X 1) fun d B e=>aE (X 5) fun f h i=>aC .u64 (X 6) fun j=>a4.t Y a b c d B e f h i j Z
theorem a4.ok(Y:J)(X:Fr)(Z:V)(g:a4.g Y X Z):den prog E (aP q [W,W,W,p]) (aM.then (aD.g Y) (aX E [.tmp 4] Y)) X Z:=
 a0 g fun a b c d g=>a0 g fun e B f h g=>a0 g fun i j l m g=>aW g fun n t g=>cN 1 (C:=(aP q [W,W,W,p,W])) (by kernel_rfl) (jE.ok Y) (bH [(0,.slice a b c),(1,.slice e B f),(5,.slice i j l),(6,.int .u64 n)] ⟨d,h,m,t,trivial⟩ (by kernel_rfl) g)
theorem sY.ok(Y:J)(X:Fr)(Z:V)(g:a4.g Y X Z):den prog E (aP q [W,W,W]) (aX E [.tmp 4] Y) X Z:=
 e8 (by kernel_rfl) (aD.ok Y) (a4.ok Y X Z g)
def u.t(Y:J)(a:R)(b c:Nat)(d:R)(B e:Nat)(Z:V):Prop:=
 aN (IntKind.i64.wrap ((if (((B:Nat):Int)) > (((b:Nat):Int)) then(((B:Nat):Int)) else(((b:Nat):Int)))+1)) fun dF=>
 g1 Z 78 gP 0 dF fun f g=>
 a4.t Y a b c d B e (some f) ((0:Int).toNat) dF.toNat 0 g
def u.g(Y:J)(X:Fr)(Z:V):Prop:=aE (X 0) fun a b c=>aE (X 1) fun d B e=>u.t Y a b c d B e Z
theorem u.ok(Y:J)(X:Fr)(Z:V)(g:u.g Y X Z):den prog E q (aX E [.tmp 4] Y) X Z:=
 a0 g fun a b c d g=>a0 g fun e B f h g=>cN 3 (C:=(aP q [W,W,W])) (by kernel_rfl) (sY.ok Y) (bH [(0,.slice a b c),(1,.slice e B f)] ⟨d,h,trivial⟩ (by kernel_rfl) g)
def t(a:R)(b c:Nat)(d:R)(B e:Nat)(Z:V)(Y:J):Prop:=u.t Y a b c d B e Z
theorem ok{a:R}{b:Nat}{d:Nat}{e:R}{B:Nat}{f:Nat}{Z:V}{Y:J}(g:t a b d e B f Z Y):aG id #[.slice a b d,.slice e B f] Z Y:=
 c9 dA (c:=q) (c3:=[.tmp 4]) Try.func29 (by kernel_rfl) (by kernel_rfl) (by kernel_rfl) (args:=[.slice a b d,.slice e B f]) (by kernel_rfl) (u.ok Y _ Z (aQ rfl (aQ rfl (g))))
end gW
namespace hZ
noncomputable def q:Code:=c8 Try.f30
def aD.t(Y:J)(a b c:Addr)(Z:V):Prop:=
 c4 Z (a.add 0) fun d=>
 cR Z (a.add 1) fun a e f=>
 c4 Z (b.add 0) fun g=>
 cR Z (b.add 1) fun b h i=>
 aG lJ.id #[.agg #[.bool d,.slice a e f],.agg #[.bool g,.slice b h i]] Z fun a b=>
 cE a fun a=>
 cX a fun a d=>
 bY d fun d e f g=>
 bG g <| bI b (c.add 0) (.bool a) fun a=>
 bI a (c.add 1) (.slice d e f) fun a=>
 c4 a (c.add 0) fun b=>
 cR a (c.add 1) fun c d e=>
 Y (.agg #[.bool b,.slice c d e]) a
def aD.g(Y:J)(X:Fr)(Z:V):Prop:=gB (X 2) fun a=>gB (X 3) fun b=>gB (X 4) fun c=>aD.t Y a b c Z
theorem aD.ok(Y:J)(X:Fr)(Z:V)(g:aD.g Y X Z):den prog E (aP q [W,W]) (aX E [.cell 4 34] Y) X Z:=
 gN g fun a b g=>gN g fun c d g=>gN g fun e f g=>bH [(2,.pointer (some a)),(3,.pointer (some c)),(4,.pointer (some e))] ⟨b,d,f,trivial⟩ (by kernel_rfl) g
def u.t(Y:J)(a:Bool)(b:R)(c d:Nat)(e:Bool)(f:R)(g h:Nat)(Z:V):Prop:=
 cU Z 34 [.bool a,.slice b c d] fun a b=>
 cU b 34 [.bool e,.slice f g h] fun b c=>
 cU c 34 eE.aF fun c d=>
 c4 d (b.add 0) fun e=>
 cond e (a.block < d.size∧c4 d (a.add 0) fun e=>
 cR d (a.add 1) fun f g h=>
 aG iT.id #[.agg #[.bool e,.slice f g h]] d fun e f=>
 cE e fun e=>
 cX e fun e g=>
 bY g fun g h i j=>
 bG j <| (cA d.size d f)∧b.block < d.size∧c4 f (b.add 0) fun j=>
 cR f (b.add 1) fun l m n=>
 aG iT.id #[.agg #[.bool j,.slice l m n]] f fun j l=>
 cE j fun j=>
 cX j fun j m=>
 bY m fun m n v D=>
 bG D <| (cA d.size f l)∧bI l (a.add 0) (.bool e) fun D=>
 bI D (a.add 1) (.slice g h i) fun D=>
 bI D (b.add 0) (.bool j) fun D=>
 bI D (b.add 1) (.slice m n v) fun D=>
 aD.t Y a b c D) (aD.t Y a b c d)
def u.g(Y:J)(X:Fr)(Z:V):Prop:=cE (X 0) fun a=>cL a fun a b=>eL a fun a=>cL b fun b c=>aE b fun b d e=>bG c <| cE (X 1) fun c=>cL c fun c f=>eL c fun c=>cL f fun f h=>aE f fun f i j=>bG h <| u.t Y a b d e c f i j Z
theorem u.ok(Y:J)(X:Fr)(Z:V)(g:u.g Y X Z):den prog E q (aX E [.cell 4 34] Y) X Z:=by
 obtain⟨Ix,a,b⟩:=hG g
 obtain⟨Iy,Iz,rfl,c⟩:=eI b
 obtain⟨d,rfl,e⟩:=g4 c
 obtain⟨IA,IB,rfl,f⟩:=eI e
 obtain⟨h,i,j,rfl,l⟩:=bT f
 obtain⟨rfl,g⟩:=gM l
 obtain⟨IC,m,n⟩:=hG g
 obtain⟨ID,IE,rfl,t⟩:=eI n
 obtain⟨v,rfl,D⟩:=g4 t
 obtain⟨IF,IG,rfl,G⟩:=eI D
 obtain⟨H,P,Iv,rfl,Iw⟩:=bT G
 obtain⟨rfl,g⟩:=gM Iw
 exact cN 2 (C:=(aP q [W,W])) (by kernel_rfl) (aD.ok Y) (bH [(0,.agg #[.bool d,.slice h i j]),(1,.agg #[.bool v,.slice H P Iv])] ⟨a,m,trivial⟩ (by kernel_rfl) g)
def t(a:Bool)(b:R)(c d:Nat)(e:Bool)(f:R)(g h:Nat)(Z:V)(Y:J):Prop:=u.t Y a b c d e f g h Z
theorem ok{a:Bool}{b:R}{d:Nat}{e:Nat}{f:Bool}{h:R}{i:Nat}{j:Nat}{Z:V}{Y:J}(g:t a b d e f h i j Z Y):aG id #[.agg #[.bool a,.slice b d e],.agg #[.bool f,.slice h i j]] Z Y:=
 c9 dA (c:=q) (c3:=[.cell 4 34]) Try.func30 (by kernel_rfl) (by kernel_rfl) (by kernel_rfl) (args:=[.agg #[.bool a,.slice b d e],.agg #[.bool f,.slice h i j]]) (by kernel_rfl) (u.ok Y _ Z (cF rfl (a9 (bK rfl (a9 (aQ rfl (b3 (cF rfl (a9 (bK rfl (a9 (aQ rfl (b3 (g))))))))))))))
end hZ
namespace mZ
noncomputable def q:Code:=c8 Try.f31
def bZ.g(a:Int→Int→V→Prop)(X:Fr)(Z:V):Prop:=aC .i64 (X 0) fun aO=>aC .i64 (X 4) fun b=>a aO b Z
def bP.t(Y:J)(a:Int→Int→V→Prop)(aO b:Int)(Z:V):Prop:=
 aN (IntKind.i64.wrap (aO+b)) fun dF=>
 aG oF.id #[.int .i64 dF] Z fun c d=>
 cO c fun c=>
 bY c fun c e f g=>
 bY g fun g h i j=>
 bG j <| aG jV.id #[.int .u64 1] d fun d j=>
 aE d fun d l m=>
 aN (IntKind.i64.wrap (2*aO)) fun n=>
 aN (IntKind.i64.wrap (n+b)) fun n=>
 aN (IntKind.i64.wrap (n+1)) fun n=>
 aG iQ.id #[.slice d l m,.int .i64 n] j fun d j=>
 cO d fun d=>
 bY d fun d l m n=>
 dI n .i64 fun n n=>
 bG n <| aG lE.id #[.slice d l m,.slice g h i] j fun g h=>
 cO g fun g=>
 bY g fun g i j n=>
 bY n fun n n n n=>
 dI n .i64 fun n n=>
 bG n <| aG lE.id #[.slice d l m,.slice c e f] h fun c d=>
 cO c fun c=>
 bY c fun c e f h=>
 bY h fun h h h h=>
 dI h .i64 fun h h=>
 bG h <| aG hC.id #[.slice g i j,.slice c e f] d fun c d=>
 aC .i64 c fun c=>
 cond (c == 0) (Y (.tuple #[.slice g i j,.int .i64 0]) d) (aN (IntKind.i64.wrap (b*2)) fun b=>
 a aO b d)
def bP.g(Y:J)(a:Int→Int→V→Prop)(X:Fr)(Z:V):Prop:=aC .i64 (X 0) fun aO=>aC .i64 (X 4) fun b=>bP.t Y a aO b Z
theorem bP.ok(Y:J)(a:Int→Int→V→Prop)(X:Fr)(Z:V)(g:bP.g Y a X Z):den prog E (aP q [W,W,W,p,p]) (aM.then (bZ.g a) (aM.inBlock 0 (aX E [.tmp 2,.tmp 3] Y))) X Z:=
 aW g fun aO a g=>aW g fun b c g=>bH [(0,.int .i64 aO),(4,.int .i64 b)] ⟨a,c,trivial⟩ (by kernel_rfl) g
def bZ.t(Y:J):Nat→Int→Int→V→Prop
 | 0=>fun _ _ _=>False
 | n+1=>fun aO a Z=>bP.t Y (bZ.t Y n) aO a Z
theorem bZ.ok(Y:J)(X:Fr)(Z:V)(g:bZ.g (fun aO a Z=>∃ n,bZ.t Y n aO a Z) X Z):den prog E (aP q [W,W,W,p]) (aM.inBlock 0 (aX E [.tmp 2,.tmp 3] Y)) X Z:=by
 obtain⟨aO,b,g⟩:=bC g
 obtain⟨a,c,g⟩:=bC g
 obtain⟨n,g⟩:=g
 refine eZ (fun n=>bZ.g (bZ.t Y n)) (N:=(aP q [W,W,W,p,p])) (by kernel_rfl) (fun X Z g=>?_) (fun n=>bP.ok Y (bZ.t Y n)) n X Z (bJ b (bJ c (g)))
 obtain⟨aO,b,g⟩:=bC g
 obtain⟨a,c,g⟩:=bC g
 exact g
theorem hY.ok(Y:J)(X:Fr)(Z:V)(g:bZ.g (fun aO a Z=>∃ n,bZ.t Y n aO a Z) X Z):den prog E (aP q [W,W,W]) (aX E [.tmp 2,.tmp 3] Y) X Z:=
 eN (by kernel_rfl) (bZ.ok Y X Z g)
def aD.t(Y:J)(aO:Int)(Z:V):Prop:=
 (∃ n,bZ.t Y n aO 48 Z)
def aD.g(Y:J)(X:Fr)(Z:V):Prop:=aC .i64 (X 0) fun aO=>aD.t Y aO Z
theorem aD.ok(Y:J)(X:Fr)(Z:V)(g:aD.g Y X Z):den prog E (aP q [W,W]) (aX E [.tmp 2,.tmp 3] Y) X Z:=
 aW g fun aO a g=>cN 1 (C:=(aP q [W,W,W])) (by kernel_rfl) (hY.ok Y) (bH [(0,.int .i64 aO)] ⟨a,trivial⟩ (by kernel_rfl) g)
def u.t(Y:J)(aO:Int)(Z:V):Prop:=
 cond (decide (aO < 1)) (Y (.tuple #[.slice none 0 0,.int .i64 1]) Z) (cond (decide (aO > 70000)) (Y (.tuple #[.slice none 0 0,.int .i64 1]) Z) (aD.t Y aO Z))
def u.g(Y:J)(X:Fr)(Z:V):Prop:=aC .i64 (X 0) fun aO=>u.t Y aO Z
theorem u.ok(Y:J)(X:Fr)(Z:V)(g:u.g Y X Z):den prog E q (aX E [.tmp 2,.tmp 3] Y) X Z:=
 aW g fun aO a g=>cN 2 (C:=(aP q [W,W])) (by kernel_rfl) (aD.ok Y) (bH [(0,.int .i64 aO)] ⟨a,trivial⟩ (by kernel_rfl) g)
def t(aO:Int)(Z:V)(Y:J):Prop:=u.t Y aO Z
theorem ok{aO:Int}{Z:V}{Y:J}(g:t aO Z Y):aG id #[.int .i64 aO] Z Y:=
 c9 dA (c:=q) (c3:=[.tmp 2,.tmp 3]) Try.func31 (by kernel_rfl) (by kernel_rfl) (by kernel_rfl) (args:=[.int .i64 aO]) (by kernel_rfl) (u.ok Y _ Z (bJ rfl (g)))
end mZ
namespace l3
noncomputable def q:Code:=c8 Try.f32
def aD.t(Y:J)(a:R)(b c:Nat)(Z:V):Prop:=
 aG kX.id #[.slice a b c] Z fun a b=>
 cO a fun a=>
 bY a fun a c d e=>
 dI e .i64 fun e f=>
 bG f <| Y (.tuple #[.slice a c d,.int .i64 e]) b
def aD.g(Y:J)(X:Fr)(Z:V):Prop:=aE (X 8) fun a b c=>aD.t Y a b c Z
theorem aD.ok(Y:J)(X:Fr)(Z:V)(g:aD.g Y X Z):den prog E (aP q [W,W,W,W,W,W,W]) (aX E [.tmp 4,.tmp 5] Y) X Z:=
 a0 g fun a b c d g=>bH [(8,.slice a b c)] ⟨d,trivial⟩ (by kernel_rfl) g
def u.t(Y:J)(a:R)(b c:Nat)(r:Int)(Z:V):Prop:=
 cond (decide (r < 0)) (Y (.tuple #[.slice none 0 0,.int .i64 1]) Z) (aG iG.id #[.slice a b c] Z fun d e=>
 eL d fun d=>
 cond (!d) (Y (.tuple #[.slice none 0 0,.int .i64 2]) e) ((64:Int) ≠ 0∧aN (IntKind.i64.wrap (Int.tdiv r 64)) fun d=>
 (64:Int) ≠ 0∧aN (Int.tmod r 64) fun f=>
 g1 e 23 k5 (((b:Nat):Int)) (((b:Nat):Int)) fun e g=>
 kR g 1 (some e) ((((b:Nat):Int)).toNat) (.slice a b c) fun a a=>
 cond (decide (d < (((b:Nat):Int)))) (cC (some e) ((((b:Nat):Int)).toNat) d 1 fun c=>
 c5 a .u64 c fun c=>
 0≤f∧aN (e7 .u64 1 f) fun f=>
 aN (IntKind.u64.wrap (f - 1)) fun f=>
 aN (fK .u64 c f) fun c=>
 cC (some e) ((((b:Nat):Int)).toNat) d 1 fun f=>
 bI a f (.int .u64 c) fun c=>
 aN (IntKind.i64.wrap (d+1)) fun d=>
 gT 1 (some e) ((((b:Nat):Int)).toNat) ((((b:Nat):Int)).toNat) none (some (.int .i64 d)) none fun d f g=>
 aD.t Y d f g c) (aD.t Y (some e) ((((b:Nat):Int)).toNat) ((((b:Nat):Int)).toNat) a)))
def u.g(Y:J)(X:Fr)(Z:V):Prop:=aE (X 0) fun a b c=>aC .i64 (X 1) fun r=>u.t Y a b c r Z
theorem u.ok(Y:J)(X:Fr)(Z:V)(g:u.g Y X Z):den prog E q (aX E [.tmp 4,.tmp 5] Y) X Z:=
 a0 g fun a b c d g=>aW g fun r e g=>cN 7 (C:=(aP q [W,W,W,W,W,W,W])) (by kernel_rfl) (aD.ok Y) (bH [(0,.slice a b c),(1,.int .i64 r)] ⟨d,e,trivial⟩ (by kernel_rfl) g)
def t(a:R)(b c:Nat)(r:Int)(Z:V)(Y:J):Prop:=u.t Y a b c r Z
theorem ok{a:R}{b:Nat}{d:Nat}{r:Int}{Z:V}{Y:J}(g:t a b d r Z Y):aG id #[.slice a b d,.int .i64 r] Z Y:=
 c9 dA (c:=q) (c3:=[.tmp 4,.tmp 5]) Try.func32 (by kernel_rfl) (by kernel_rfl) (by kernel_rfl) (args:=[.slice a b d,.int .i64 r]) (by kernel_rfl) (u.ok Y _ Z (aQ rfl (bJ rfl (g))))
end l3
namespace h6
noncomputable def q:Code:=c8 Try.f33
def aD.t(Y:J)(a:R)(a b:Nat)(b:R)(c d:Nat)(aA:Int)(Z:V):Prop:=
 cC b c (((a:Nat):Int)) 1 fun a=>
 bI Z a (.int .u64 aA) fun a=>
 aG kX.id #[.slice b c d] a fun a b=>
 cO a fun a=>
 bY a fun a c d e=>
 dI e .i64 fun e f=>
 bG f <| Y (.tuple #[.slice a c d,.int .i64 e]) b
def aD.g(Y:J)(X:Fr)(Z:V):Prop:=aE (X 0) fun a b c=>aE (X 6) fun d e f=>aC .u64 (X 7) fun aA=>aD.t Y a b c d e f aA Z
theorem aD.ok(Y:J)(X:Fr)(Z:V)(g:aD.g Y X Z):den prog E (aP q [W,W,W,W,W]) (aX E [.tmp 4,.tmp 5] Y) X Z:=
 a0 g fun a b c d g=>a0 g fun e f h i g=>aW g fun aA j g=>bH [(0,.slice a b c),(6,.slice e f h),(7,.int .u64 aA)] ⟨d,i,j,trivial⟩ (by kernel_rfl) g
def a8.g(a:R→Nat→Nat→Int→R→Nat→Nat→Int→Int→Int→V→Prop)(X:Fr)(Z:V):Prop:=aE (X 0) fun b c d=>aC .u64 (X 1) fun r=>aE (X 6) fun e f h=>aC .u64 (X 7) fun aA=>aC .i64 (X 20) fun i=>aC .i64 (X 21) fun j=>a b c d r e f h aA i j Z
def bS.t(Y:J)(a:R→Nat→Nat→Int→R→Nat→Nat→Int→Int→Int→V→Prop)(b:R)(c d:Nat)(r:Int)(e:R)(f g:Nat)(aA h i:Int)(Z:V):Prop:=
 cond (decide (i < h)) (cC b c i 1 fun j=>
 c5 Z .u64 j fun j=>
 aG nF.id #[.int .u64 j,.int .u64 r] Z fun j l=>
 cO j fun j=>
 dI j .u64 fun j m=>
 dI m .u64 fun m n=>
 bG n <| k6 m aA 0 fun m n=>
 cC e f i 1 fun v=>
 bI l v (.int .u64 m) fun l=>
 aN (IntKind.u64.wrap (j+n)) fun j=>
 aN (IntKind.i64.wrap (i+1)) fun i=>
 a b c d r e f g j h i l) (aD.t Y b c d e f g aA Z)
def bS.g(Y:J)(a:R→Nat→Nat→Int→R→Nat→Nat→Int→Int→Int→V→Prop)(X:Fr)(Z:V):Prop:=aE (X 0) fun b c d=>aC .u64 (X 1) fun r=>aE (X 6) fun e f h=>aC .u64 (X 7) fun aA=>aC .i64 (X 20) fun i=>aC .i64 (X 21) fun j=>bS.t Y a b c d r e f h aA i j Z
theorem bS.ok(Y:J)(a:R→Nat→Nat→Int→R→Nat→Nat→Int→Int→Int→V→Prop)(X:Fr)(Z:V)(g:bS.g Y a X Z):den prog E (aP q [W,W,W,W,p,W,p,p]) (aM.then (a8.g a) (aM.inBlock 0 (aM.then (aD.g Y) (aX E [.tmp 4,.tmp 5] Y)))) X Z:=
 a0 g fun a b c d g=>aW g fun r e g=>a0 g fun f h i j g=>aW g fun aA l g=>aW g fun m n g=>aW g fun t v g=>bH [(0,.slice a b c),(1,.int .u64 r),(6,.slice f h i),(7,.int .u64 aA),(20,.int .i64 m),(21,.int .i64 t)] ⟨d,e,j,l,n,v,trivial⟩ (by kernel_rfl) g
def a8.t(Y:J):Nat→R→Nat→Nat→Int→R→Nat→Nat→Int→Int→Int→V→Prop
 | 0=>fun _ _ _ _ _ _ _ _ _ _ _=>False
 | n+1=>fun a b c r d e f aA g h Z=>bS.t Y (a8.t Y n) a b c r d e f aA g h Z
theorem a8.ok(Y:J)(X:Fr)(Z:V)(g:a8.g (fun a b c r d e f aA h i Z=>∃ n,a8.t Y n a b c r d e f aA h i Z) X Z):den prog E (aP q [W,W,W,W,p,W,p]) (aM.inBlock 0 (aM.then (aD.g Y) (aX E [.tmp 4,.tmp 5] Y))) X Z:=by
 obtain⟨a,b,c,j,g⟩:=bT g
 obtain⟨r,l,g⟩:=bC g
 obtain⟨d,e,f,m,g⟩:=bT g
 obtain⟨aA,v,g⟩:=bC g
 obtain⟨h,D,g⟩:=bC g
 obtain⟨i,G,g⟩:=bC g
 obtain⟨n,g⟩:=g
 refine eZ (fun n=>a8.g (a8.t Y n)) (N:=(aP q [W,W,W,W,p,W,p,p])) (by kernel_rfl) (fun X Z g=>?_) (fun n=>bS.ok Y (a8.t Y n)) n X Z (aQ j (bJ l (aQ m (bJ v (bJ D (bJ G (g)))))))
 obtain⟨a,b,c,j,g⟩:=bT g
 obtain⟨r,l,g⟩:=bC g
 obtain⟨d,e,f,m,g⟩:=bT g
 obtain⟨aA,v,g⟩:=bC g
 obtain⟨h,D,g⟩:=bC g
 obtain⟨i,G,g⟩:=bC g
 exact g
theorem gG.ok(Y:J)(X:Fr)(Z:V)(g:a8.g (fun a b c r d e f aA h i Z=>∃ n,a8.t Y n a b c r d e f aA h i Z) X Z):den prog E (aP q [W,W,W,W,p,W]) (aM.then (aD.g Y) (aX E [.tmp 4,.tmp 5] Y)) X Z:=
 eN (by kernel_rfl) (a8.ok Y X Z g)
def a4.t(Y:J)(a:R)(b c:Nat)(r:Int)(d:R)(e f:Nat)(aA:Int)(Z:V):Prop:=
 (∃ n,a8.t Y n a b c r d e f aA (((b:Nat):Int)) 0 Z)
def a4.g(Y:J)(X:Fr)(Z:V):Prop:=aE (X 0) fun a b c=>aC .u64 (X 1) fun r=>aE (X 6) fun d e f=>aC .u64 (X 7) fun aA=>a4.t Y a b c r d e f aA Z
theorem a4.ok(Y:J)(X:Fr)(Z:V)(g:a4.g Y X Z):den prog E (aP q [W,W,W,W,p]) (aM.then (aD.g Y) (aX E [.tmp 4,.tmp 5] Y)) X Z:=
 a0 g fun a b c d g=>aW g fun r e g=>a0 g fun f h i j g=>aW g fun aA l g=>cN 1 (C:=(aP q [W,W,W,W,p,W])) (by kernel_rfl) (gG.ok Y) (bH [(0,.slice a b c),(1,.int .u64 r),(6,.slice f h i),(7,.int .u64 aA)] ⟨d,e,j,l,trivial⟩ (by kernel_rfl) g)
theorem gH.ok(Y:J)(X:Fr)(Z:V)(g:a4.g Y X Z):den prog E (aP q [W,W,W,W]) (aX E [.tmp 4,.tmp 5] Y) X Z:=
 e8 (by kernel_rfl) (aD.ok Y) (a4.ok Y X Z g)
def u.t(Y:J)(a:R)(b c:Nat)(r:Int)(Z:V):Prop:=
 aG iG.id #[.slice a b c] Z fun d e=>
 eL d fun d=>
 cond (!d) (Y (.tuple #[.slice none 0 0,.int .i64 2]) e) (aN (IntKind.i64.wrap ((((b:Nat):Int))+1)) fun d=>
 g1 e 23 k5 d d fun e f=>
 a4.t Y a b c r (some e) d.toNat d.toNat 0 f)
def u.g(Y:J)(X:Fr)(Z:V):Prop:=aE (X 0) fun a b c=>aC .u64 (X 1) fun r=>u.t Y a b c r Z
theorem u.ok(Y:J)(X:Fr)(Z:V)(g:u.g Y X Z):den prog E q (aX E [.tmp 4,.tmp 5] Y) X Z:=
 a0 g fun a b c d g=>aW g fun r e g=>cN 4 (C:=(aP q [W,W,W,W])) (by kernel_rfl) (gH.ok Y) (bH [(0,.slice a b c),(1,.int .u64 r)] ⟨d,e,trivial⟩ (by kernel_rfl) g)
def t(a:R)(b c:Nat)(r:Int)(Z:V)(Y:J):Prop:=u.t Y a b c r Z
theorem ok{a:R}{b:Nat}{d:Nat}{r:Int}{Z:V}{Y:J}(g:t a b d r Z Y):aG id #[.slice a b d,.int .u64 r] Z Y:=
 c9 dA (c:=q) (c3:=[.tmp 4,.tmp 5]) Try.func33 (by kernel_rfl) (by kernel_rfl) (by kernel_rfl) (args:=[.slice a b d,.int .u64 r]) (by kernel_rfl) (u.ok Y _ Z (aQ rfl (bJ rfl (g))))
end h6
namespace oM
noncomputable def q:Code:=c8 Try.f34
def u.t(Y:J)(a:R)(b c:Nat)(Z:V):Prop:=
 cond ((((b:Nat):Int)) == 0) (Y (.slice none 0 0) Z) (aG oL.id #[] Z fun d e=>
 aE d fun d f g=>
 aG mA.id #[.slice d f g,.slice a b c,.int .u64 1] e fun a b=>
 aE a fun a c d=>
 Y (.slice a c d) b)
def u.g(Y:J)(X:Fr)(Z:V):Prop:=aE (X 0) fun a b c=>u.t Y a b c Z
theorem u.ok(Y:J)(X:Fr)(Z:V)(g:u.g Y X Z):den prog E q (aX E [.tmp 2] Y) X Z:=
 a0 g fun a b c d g=>bH [(0,.slice a b c)] ⟨d,trivial⟩ (by kernel_rfl) g
def t(a:R)(b c:Nat)(Z:V)(Y:J):Prop:=u.t Y a b c Z
theorem ok{a:R}{b:Nat}{d:Nat}{Z:V}{Y:J}(g:t a b d Z Y):aG id #[.slice a b d] Z Y:=
 c9 dA (c:=q) (c3:=[.tmp 2]) Try.func34 (by kernel_rfl) (by kernel_rfl) (by kernel_rfl) (args:=[.slice a b d]) (by kernel_rfl) (u.ok Y _ Z (aQ rfl (g)))
end oM
namespace h1
noncomputable def q:Code:=c8 Try.f35
def dG.g(a:Int→R→Nat→Nat→Int→R→Nat→Nat→Int→R→Nat→Nat→Int→V→Prop)(X:Fr)(Z:V):Prop:=aC .u64 (X 1) fun r=>aE (X 6) fun b c d=>aC .u64 (X 7) fun aA=>aE (X 8) fun e f h=>aC .u64 (X 9) fun aR=>aE (X 10) fun i j l=>aC .u64 (X 11) fun m=>a r b c d aA e f h aR i j l m Z
def gY.t(Y:J)(bX:Int→R→Nat→Nat→Int→R→Nat→Nat→Int→R→Nat→Nat→Int→V→Prop)(r:Int)(a:R)(b c:Nat)(aA:Int)(d:R)(e f:Nat)(aR:Int)(g:R)(h i:Nat)(j:Int)(l:Bool)(Z:V):Prop:=
 cond l (Y (.tuple #[.int .u64 aA,.slice a b c]) Z) (bX r a b c aA d e f aR g h i j Z)
def gY.g(Y:J)(bX:Int→R→Nat→Nat→Int→R→Nat→Nat→Int→R→Nat→Nat→Int→V→Prop)(X:Fr)(Z:V):Prop:=aC .u64 (X 1) fun r=>aE (X 6) fun a b c=>aC .u64 (X 7) fun aA=>aE (X 8) fun d e f=>aC .u64 (X 9) fun aR=>aE (X 10) fun h i j=>aC .u64 (X 11) fun l=>eL (X 144) fun m=>gY.t Y bX r a b c aA d e f aR h i j l m Z
theorem gY.ok(Y:J)(bX:Int→R→Nat→Nat→Int→R→Nat→Nat→Int→R→Nat→Nat→Int→V→Prop)(X:Fr)(Z:V)(g:gY.g Y bX X Z):den prog E (aP q [W,W,W,W,W,p,p,p,W,W,W,W,W,W,W,W,W,W,W]) (aM.inBlock 1 (aM.then (dG.g bX) (aM.inBlock 0 (aX E [.tmp 4,.tmp 5] Y)))) X Z:=
 aW g fun r a g=>a0 g fun b c d e g=>aW g fun aA f g=>a0 g fun h i j l g=>aW g fun aR m g=>a0 g fun n t v D g=>aW g fun G H g=>rW g fun P Iv g=>bH [(1,.int .u64 r),(6,.slice b c d),(7,.int .u64 aA),(8,.slice h i j),(9,.int .u64 aR),(10,.slice n t v),(11,.int .u64 G),(144,.bool P)] ⟨a,e,f,l,m,D,H,Iv,trivial⟩ (by kernel_rfl) g
def fJ.t(Y:J)(bX:Int→R→Nat→Nat→Int→R→Nat→Nat→Int→R→Nat→Nat→Int→V→Prop)(r:Int)(a:R)(b c:Nat)(aA:Int)(d:R)(e f:Nat)(aR:Int)(g:R)(h i:Nat)(j l:Int)(Z:V):Prop:=
 cond (l == 0) (Y (.tuple #[.int .u64 aA,.slice a b c]) Z) (aG mA.id #[.slice d e f,.slice g h i,.int .u64 l] Z fun d e=>
 aE d fun d f m=>
 aG nN.id #[.int .u64 aR,.int .u64 l,.int .u64 j,.int .u64 r] e fun e l=>
 aC .u64 e fun e=>
 cond ((((f:Nat):Int)) == 0) (gY.t Y bX r a b c aA d f m e g h i j true l) (gY.t Y bX r a b c aA d f m e g h i j (decide (e > r)) l))
def fJ.g(Y:J)(bX:Int→R→Nat→Nat→Int→R→Nat→Nat→Int→R→Nat→Nat→Int→V→Prop)(X:Fr)(Z:V):Prop:=aC .u64 (X 1) fun r=>aE (X 6) fun a b c=>aC .u64 (X 7) fun aA=>aE (X 8) fun d e f=>aC .u64 (X 9) fun aR=>aE (X 10) fun h i j=>aC .u64 (X 11) fun l=>aC .u64 (X 16) fun m=>fJ.t Y bX r a b c aA d e f aR h i j l m Z
theorem fJ.ok(Y:J)(bX:Int→R→Nat→Nat→Int→R→Nat→Nat→Int→R→Nat→Nat→Int→V→Prop)(X:Fr)(Z:V)(g:fJ.g Y bX X Z):den prog E (aP q [W,W,W,W,W,p,p,p,W,W,W,W,W,W,W,W]) (aM.inBlock 1 (aM.then (dG.g bX) (aM.inBlock 0 (aX E [.tmp 4,.tmp 5] Y)))) X Z:=
 aW g fun r a g=>a0 g fun b c d e g=>aW g fun aA f g=>a0 g fun h i j l g=>aW g fun aR m g=>a0 g fun n t v D g=>aW g fun G H g=>aW g fun P Iv g=>cN 3 (C:=(aP q [W,W,W,W,W,p,p,p,W,W,W,W,W,W,W,W,W,W,W])) (by kernel_rfl) (gY.ok Y bX) (bH [(1,.int .u64 r),(6,.slice b c d),(7,.int .u64 aA),(8,.slice h i j),(9,.int .u64 aR),(10,.slice n t v),(11,.int .u64 G),(16,.int .u64 P)] ⟨a,e,f,l,m,D,H,Iv,trivial⟩ (by kernel_rfl) g)
def dX.t(Y:J)(bX:Int→R→Nat→Nat→Int→R→Nat→Nat→Int→R→Nat→Nat→Int→V→Prop)(r:Int)(a:R)(b c:Nat)(aA:Int)(d:R)(e f:Nat)(aR:Int)(g:R)(h i:Nat)(j l:Int)(Z:V):Prop:=
 aG mB.id #[.slice d e f,.slice g h i,.int .u64 r] Z fun m n=>
 aC .u64 m fun m=>
 cond (decide (l > m)) (fJ.t Y bX r a b c aA d e f aR g h i j m n) (fJ.t Y bX r a b c aA d e f aR g h i j l n)
def dX.g(Y:J)(bX:Int→R→Nat→Nat→Int→R→Nat→Nat→Int→R→Nat→Nat→Int→V→Prop)(X:Fr)(Z:V):Prop:=aC .u64 (X 1) fun r=>aE (X 6) fun a b c=>aC .u64 (X 7) fun aA=>aE (X 8) fun d e f=>aC .u64 (X 9) fun aR=>aE (X 10) fun h i j=>aC .u64 (X 11) fun l=>aC .u64 (X 16) fun m=>dX.t Y bX r a b c aA d e f aR h i j l m Z
theorem dX.ok(Y:J)(bX:Int→R→Nat→Nat→Int→R→Nat→Nat→Int→R→Nat→Nat→Int→V→Prop)(X:Fr)(Z:V)(g:dX.g Y bX X Z):den prog E (aP q [W,W,W,W,W,p,p,p,W,W,W,W,W,W,W]) (aM.inBlock 1 (aM.then (dG.g bX) (aM.inBlock 0 (aX E [.tmp 4,.tmp 5] Y)))) X Z:=
 aW g fun r a g=>a0 g fun b c d e g=>aW g fun aA f g=>a0 g fun h i j l g=>aW g fun aR m g=>a0 g fun n t v D g=>aW g fun G H g=>aW g fun P Iv g=>cN 1 (C:=(aP q [W,W,W,W,W,p,p,p,W,W,W,W,W,W,W,W])) (by kernel_rfl) (fJ.ok Y bX) (bH [(1,.int .u64 r),(6,.slice b c d),(7,.int .u64 aA),(8,.slice h i j),(9,.int .u64 aR),(10,.slice n t v),(11,.int .u64 G),(16,.int .u64 P)] ⟨a,e,f,l,m,D,H,Iv,trivial⟩ (by kernel_rfl) g)
def dP.t(Y:J)(bX:Int→R→Nat→Nat→Int→R→Nat→Nat→Int→R→Nat→Nat→Int→V→Prop)(r:Int)(a:R)(b c:Nat)(aA:Int)(d:R)(e f:Nat)(aR:Int)(g:R)(h i:Nat)(j:Int)(Z:V):Prop:=
 aG hU.id #[.slice d e f,.slice a b c] Z fun l m=>
 cO l fun l=>
 bY l fun l n v D=>
 dI D .i64 fun D D=>
 bG D <| aG mB.id #[.slice l n v,.slice g h i,.int .u64 r] m fun D m=>
 aC .u64 D fun D=>
 aG h6.id #[.slice g h i,.int .u64 D] m fun m E=>
 cO m fun m=>
 bY m fun m G H P=>
 dI P .i64 fun P P=>
 bG P <| aG hC.id #[.slice m G H,.slice l n v] E fun E G=>
 aC .i64 E fun E=>
 cond (decide (E < 0)) (aN (IntKind.u64.wrap (D+1)) fun E=>
 dX.t Y bX r a b c aA d e f aR g h i j E G) (dX.t Y bX r a b c aA d e f aR g h i j D G)
def dP.g(Y:J)(bX:Int→R→Nat→Nat→Int→R→Nat→Nat→Int→R→Nat→Nat→Int→V→Prop)(X:Fr)(Z:V):Prop:=aC .u64 (X 1) fun r=>aE (X 6) fun a b c=>aC .u64 (X 7) fun aA=>aE (X 8) fun d e f=>aC .u64 (X 9) fun aR=>aE (X 10) fun h i j=>aC .u64 (X 11) fun l=>dP.t Y bX r a b c aA d e f aR h i j l Z
theorem dP.ok(Y:J)(bX:Int→R→Nat→Nat→Int→R→Nat→Nat→Int→R→Nat→Nat→Int→V→Prop)(X:Fr)(Z:V)(g:dP.g Y bX X Z):den prog E (aP q [W,W,W,W,W,p,p,p,W,W,W,W]) (aM.inBlock 1 (aM.then (dG.g bX) (aM.inBlock 0 (aX E [.tmp 4,.tmp 5] Y)))) X Z:=
 aW g fun r a g=>a0 g fun b c d e g=>aW g fun aA f g=>a0 g fun h i j l g=>aW g fun aR m g=>a0 g fun n t v D g=>aW g fun G H g=>cN 3 (C:=(aP q [W,W,W,W,W,p,p,p,W,W,W,W,W,W,W])) (by kernel_rfl) (dX.ok Y bX) (bH [(1,.int .u64 r),(6,.slice b c d),(7,.int .u64 aA),(8,.slice h i j),(9,.int .u64 aR),(10,.slice n t v),(11,.int .u64 G)] ⟨a,e,f,l,m,D,H,trivial⟩ (by kernel_rfl) g)
def cW.t(Y:J)(bX:Int→R→Nat→Nat→Int→R→Nat→Nat→Int→R→Nat→Nat→Int→V→Prop)(r:Int)(a:R)(b c:Nat)(aA:Int)(d:R)(e f:Nat)(aR:Int)(g:R)(h i:Nat)(j:Int)(Z:V):Prop:=
 cond ((((h:Nat):Int)) == 0) (Y (.tuple #[.int .u64 aA,.slice a b c]) Z) (cond (decide (j > r)) (Y (.tuple #[.int .u64 aA,.slice a b c]) Z) (dP.t Y bX r a b c aA d e f aR g h i j Z))
def cW.g(Y:J)(bX:Int→R→Nat→Nat→Int→R→Nat→Nat→Int→R→Nat→Nat→Int→V→Prop)(X:Fr)(Z:V):Prop:=aC .u64 (X 1) fun r=>aE (X 6) fun a b c=>aC .u64 (X 7) fun aA=>aE (X 8) fun d e f=>aC .u64 (X 9) fun aR=>aE (X 10) fun h i j=>aC .u64 (X 11) fun l=>cW.t Y bX r a b c aA d e f aR h i j l Z
theorem cW.ok(Y:J)(bX:Int→R→Nat→Nat→Int→R→Nat→Nat→Int→R→Nat→Nat→Int→V→Prop)(X:Fr)(Z:V)(g:cW.g Y bX X Z):den prog E (aP q [W,W,W,W,W,p,p,p,W,W,W]) (aM.inBlock 1 (aM.then (dG.g bX) (aM.inBlock 0 (aX E [.tmp 4,.tmp 5] Y)))) X Z:=
 aW g fun r a g=>a0 g fun b c d e g=>aW g fun aA f g=>a0 g fun h i j l g=>aW g fun aR m g=>a0 g fun n t v D g=>aW g fun G H g=>cN 1 (C:=(aP q [W,W,W,W,W,p,p,p,W,W,W,W])) (by kernel_rfl) (dP.ok Y bX) (bH [(1,.int .u64 r),(6,.slice b c d),(7,.int .u64 aA),(8,.slice h i j),(9,.int .u64 aR),(10,.slice n t v),(11,.int .u64 G)] ⟨a,e,f,l,m,D,H,trivial⟩ (by kernel_rfl) g)
def bS.t(Y:J)(bX:Int→R→Nat→Nat→Int→R→Nat→Nat→Int→R→Nat→Nat→Int→V→Prop)(r:Int)(a:R)(b c:Nat)(aA:Int)(d:R)(e f:Nat)(aR:Int)(g:R)(h i:Nat)(j:Int)(Z:V):Prop:=
 aG mB.id #[.slice g h i,.slice d e f,.int .u64 r] Z fun l m=>
 aC .u64 l fun l=>
 cond (decide (l > 0)) (aG mA.id #[.slice g h i,.slice d e f,.int .u64 l] m fun n v=>
 aE n fun n D E=>
 aG nN.id #[.int .u64 j,.int .u64 l,.int .u64 aR,.int .u64 r] v fun l v=>
 aC .u64 l fun l=>
 cW.t Y bX r a b c aA d e f aR n D E l v) (cW.t Y bX r a b c aA d e f aR g h i j m)
def bS.g(Y:J)(bX:Int→R→Nat→Nat→Int→R→Nat→Nat→Int→R→Nat→Nat→Int→V→Prop)(X:Fr)(Z:V):Prop:=aC .u64 (X 1) fun r=>aE (X 6) fun a b c=>aC .u64 (X 7) fun aA=>aE (X 8) fun d e f=>aC .u64 (X 9) fun aR=>aE (X 10) fun h i j=>aC .u64 (X 11) fun l=>bS.t Y bX r a b c aA d e f aR h i j l Z
theorem bS.ok(Y:J)(bX:Int→R→Nat→Nat→Int→R→Nat→Nat→Int→R→Nat→Nat→Int→V→Prop)(X:Fr)(Z:V)(g:bS.g Y bX X Z):den prog E (aP q [W,W,W,W,W,p,p,p,W,W]) (aM.inBlock 1 (aM.then (dG.g bX) (aM.inBlock 0 (aX E [.tmp 4,.tmp 5] Y)))) X Z:=
 aW g fun r a g=>a0 g fun b c d e g=>aW g fun aA f g=>a0 g fun h i j l g=>aW g fun aR m g=>a0 g fun n t v D g=>aW g fun G H g=>cN 1 (C:=(aP q [W,W,W,W,W,p,p,p,W,W,W])) (by kernel_rfl) (cW.ok Y bX) (bH [(1,.int .u64 r),(6,.slice b c d),(7,.int .u64 aA),(8,.slice h i j),(9,.int .u64 aR),(10,.slice n t v),(11,.int .u64 G)] ⟨a,e,f,l,m,D,H,trivial⟩ (by kernel_rfl) g)
def bP.t(Y:J)(bX:Int→R→Nat→Nat→Int→R→Nat→Nat→Int→R→Nat→Nat→Int→V→Prop)(r:Int)(a:R)(b c:Nat)(aA:Int)(d:R)(e f:Nat)(aR:Int)(g:R)(h i:Nat)(j:Int)(Z:V):Prop:=
 aN (IntKind.u64.wrap (aA+aR)) fun l=>
 aN (IntKind.u64.wrap (r - 1)) fun m=>
 cond (decide (l > m)) (Y (.tuple #[.int .u64 aA,.slice a b c]) Z) (cond ((((b:Nat):Int)) == 0) (Y (.tuple #[.int .u64 aA,.slice a b c]) Z) (aG hC.id #[.slice d e f,.slice a b c] Z fun l m=>
 aC .i64 l fun l=>
 cond (decide (l≤0)) (Y (.tuple #[.int .u64 aA,.slice a b c]) m) (bS.t Y bX r a b c aA d e f aR g h i j m)))
def bP.g(Y:J)(bX:Int→R→Nat→Nat→Int→R→Nat→Nat→Int→R→Nat→Nat→Int→V→Prop)(X:Fr)(Z:V):Prop:=aC .u64 (X 1) fun r=>aE (X 6) fun a b c=>aC .u64 (X 7) fun aA=>aE (X 8) fun d e f=>aC .u64 (X 9) fun aR=>aE (X 10) fun h i j=>aC .u64 (X 11) fun l=>bP.t Y bX r a b c aA d e f aR h i j l Z
theorem bP.ok(Y:J)(bX:Int→R→Nat→Nat→Int→R→Nat→Nat→Int→R→Nat→Nat→Int→V→Prop)(X:Fr)(Z:V)(g:bP.g Y bX X Z):den prog E (aP q [W,W,W,W,W,p,p,p,W]) (aM.inBlock 1 (aM.then (dG.g bX) (aM.inBlock 0 (aX E [.tmp 4,.tmp 5] Y)))) X Z:=
 aW g fun r a g=>a0 g fun b c d e g=>aW g fun aA f g=>a0 g fun h i j l g=>aW g fun aR m g=>a0 g fun n t v D g=>aW g fun G H g=>cN 1 (C:=(aP q [W,W,W,W,W,p,p,p,W,W])) (by kernel_rfl) (bS.ok Y bX) (bH [(1,.int .u64 r),(6,.slice b c d),(7,.int .u64 aA),(8,.slice h i j),(9,.int .u64 aR),(10,.slice n t v),(11,.int .u64 G)] ⟨a,e,f,l,m,D,H,trivial⟩ (by kernel_rfl) g)
def a4.t(Y:J)(bX:Int→R→Nat→Nat→Int→R→Nat→Nat→Int→R→Nat→Nat→Int→V→Prop)(r:Int)(a:R)(b c:Nat)(aA:Int)(d:R)(e f:Nat)(aR:Int)(g:R)(h i:Nat)(j:Int)(Z:V):Prop:=
 aG mB.id #[.slice a b c,.slice d e f,.int .u64 r] Z fun l m=>
 aC .u64 l fun l=>
 aN (IntKind.u64.wrap (r - 1)) fun n=>
 aN (IntKind.u64.wrap (n - aA)) fun n=>
 aR ≠ 0∧aN (IntKind.u64.wrap (Int.tdiv n aR)) fun n=>
 cond (decide ((if n < l then n else l) > 0)) (aG mA.id #[.slice a b c,.slice d e f,.int .u64 (if n < l then n else l)] m fun v D=>
 aE v fun v E G=>
 aN (IntKind.u64.wrap ((if n < l then n else l)*aR)) fun l=>
 aN (IntKind.u64.wrap (aA+l)) fun l=>
 bP.t Y bX r v E G l d e f aR g h i j D) (bP.t Y bX r a b c aA d e f aR g h i j m)
def a4.g(Y:J)(bX:Int→R→Nat→Nat→Int→R→Nat→Nat→Int→R→Nat→Nat→Int→V→Prop)(X:Fr)(Z:V):Prop:=aC .u64 (X 1) fun r=>aE (X 6) fun a b c=>aC .u64 (X 7) fun aA=>aE (X 8) fun d e f=>aC .u64 (X 9) fun aR=>aE (X 10) fun h i j=>aC .u64 (X 11) fun l=>a4.t Y bX r a b c aA d e f aR h i j l Z
theorem a4.ok(Y:J)(bX:Int→R→Nat→Nat→Int→R→Nat→Nat→Int→R→Nat→Nat→Int→V→Prop)(X:Fr)(Z:V)(g:a4.g Y bX X Z):den prog E (aP q [W,W,W,W,W,p,p,p]) (aM.inBlock 1 (aM.then (dG.g bX) (aM.inBlock 0 (aX E [.tmp 4,.tmp 5] Y)))) X Z:=
 aW g fun r a g=>a0 g fun b c d e g=>aW g fun aA f g=>a0 g fun h i j l g=>aW g fun aR m g=>a0 g fun n t v D g=>aW g fun G H g=>cN 1 (C:=(aP q [W,W,W,W,W,p,p,p,W])) (by kernel_rfl) (bP.ok Y bX) (bH [(1,.int .u64 r),(6,.slice b c d),(7,.int .u64 aA),(8,.slice h i j),(9,.int .u64 aR),(10,.slice n t v),(11,.int .u64 G)] ⟨a,e,f,l,m,D,H,trivial⟩ (by kernel_rfl) g)
theorem hD.ok(Y:J)(bX:Int→R→Nat→Nat→Int→R→Nat→Nat→Int→R→Nat→Nat→Int→V→Prop)(X:Fr)(Z:V)(g:a4.g Y bX X Z):den prog E (aP q [W,W,W,W,W,p,p]) (aM.then (dG.g bX) (aM.inBlock 0 (aX E [.tmp 4,.tmp 5] Y))) X Z:=
 eN (by kernel_rfl) (a4.ok Y bX X Z g)
def dG.t(Y:J):Nat→Int→R→Nat→Nat→Int→R→Nat→Nat→Int→R→Nat→Nat→Int→V→Prop
 | 0=>fun _ _ _ _ _ _ _ _ _ _ _ _ _ _=>False
 | n+1=>fun r a b c aA d e f aR g h i j Z=>a4.t Y (dG.t Y n) r a b c aA d e f aR g h i j Z
theorem dG.ok(Y:J)(X:Fr)(Z:V)(g:dG.g (fun r a b c aA d e f aR h i j l Z=>∃ n,dG.t Y n r a b c aA d e f aR h i j l Z) X Z):den prog E (aP q [W,W,W,W,W,p]) (aM.inBlock 0 (aX E [.tmp 4,.tmp 5] Y)) X Z:=by
 obtain⟨r,m,g⟩:=bC g
 obtain⟨a,b,c,v,g⟩:=bT g
 obtain⟨aA,D,g⟩:=bC g
 obtain⟨d,e,f,G,g⟩:=bT g
 obtain⟨aR,H,g⟩:=bC g
 obtain⟨h,i,j,P,g⟩:=bT g
 obtain⟨l,Iv,g⟩:=bC g
 obtain⟨n,g⟩:=g
 refine eZ (fun n=>dG.g (dG.t Y n)) (N:=(aP q [W,W,W,W,W,p,p])) (by kernel_rfl) (fun X Z g=>?_) (fun n=>hD.ok Y (dG.t Y n)) n X Z (bJ m (aQ v (bJ D (aQ G (bJ H (aQ P (bJ Iv (g))))))))
 obtain⟨r,m,g⟩:=bC g
 obtain⟨a,b,c,v,g⟩:=bT g
 obtain⟨aA,D,g⟩:=bC g
 obtain⟨d,e,f,G,g⟩:=bT g
 obtain⟨aR,H,g⟩:=bC g
 obtain⟨h,i,j,P,g⟩:=bT g
 obtain⟨l,Iv,g⟩:=bC g
 exact g
theorem h0.ok(Y:J)(X:Fr)(Z:V)(g:dG.g (fun r a b c aA d e f aR h i j l Z=>∃ n,dG.t Y n r a b c aA d e f aR h i j l Z) X Z):den prog E (aP q [W,W,W,W,W]) (aX E [.tmp 4,.tmp 5] Y) X Z:=
 eN (by kernel_rfl) (dG.ok Y X Z g)
def u.t(Y:J)(a:R)(b c:Nat)(d:R)(e f:Nat)(r:Int)(Z:V):Prop:=
 cU Z 65 [.slice a b c,.slice d e f] fun a b=>
 cR b (a.add 0) fun c d e=>
 aG oL.id #[] b fun f g=>
 aE f fun f h i=>
 (cA b.size b g)∧(a.add 1).block < b.size∧cR g (a.add 1) fun j l m=>
 aG mA.id #[.slice f h i,.slice j l m,.int .u64 1] g fun f h=>
 aE f fun f i j=>
 (cA b.size g h)∧cR h (a.add 1) fun a b g=>
 (∃ n,dG.t Y n r c d e 0 f i j 1 a b g 1 h)
def u.g(Y:J)(X:Fr)(Z:V):Prop:=cE (X 0) fun a=>cL a fun a b=>aE a fun a c d=>cL b fun b e=>aE b fun b f h=>bG e <| aC .u64 (X 1) fun r=>u.t Y a c d b f h r Z
theorem u.ok(Y:J)(X:Fr)(Z:V)(g:u.g Y X Z):den prog E q (aX E [.tmp 4,.tmp 5] Y) X Z:=by
 obtain⟨v,a,b⟩:=hG g
 obtain⟨D,G,rfl,c⟩:=eI b
 obtain⟨d,e,f,rfl,h⟩:=bT c
 obtain⟨H,P,rfl,i⟩:=eI h
 obtain⟨j,l,m,rfl,n⟩:=bT i
 obtain⟨rfl,g⟩:=gM n
 obtain⟨r,t,g⟩:=bC g
 exact cN 5 (C:=(aP q [W,W,W,W,W])) (by kernel_rfl) (h0.ok Y) (bH [(0,.agg #[.slice d e f,.slice j l m]),(1,.int .u64 r)] ⟨a,t,trivial⟩ (by kernel_rfl) g)
def t(a:R)(b c:Nat)(d:R)(e f:Nat)(r:Int)(Z:V)(Y:J):Prop:=u.t Y a b c d e f r Z
theorem ok{a:R}{b:Nat}{d:Nat}{e:R}{f:Nat}{h:Nat}{r:Int}{Z:V}{Y:J}(g:t a b d e f h r Z Y):aG id #[.agg #[.slice a b d,.slice e f h],.int .u64 r] Z Y:=
 c9 dA (c:=q) (c3:=[.tmp 4,.tmp 5]) Try.func35 (by kernel_rfl) (by kernel_rfl) (by kernel_rfl) (args:=[.agg #[.slice a b d,.slice e f h],.int .u64 r]) (by kernel_rfl) (u.ok Y _ Z (cF rfl (a9 (aQ rfl (a9 (aQ rfl (b3 (bJ rfl (g)))))))))
end h1
namespace jR
noncomputable def q:Code:=c8 Try.f36
def aD.t(Y:J)(a:R)(b c:Nat)(d:Int)(Z:V):Prop:=
 gT 1 a b c none (some (.int .i64 d)) none fun a b c=>Y (.slice a b c) Z
def aD.g(Y:J)(X:Fr)(Z:V):Prop:=aE (X 0) fun a b c=>aC .i64 (X 3) fun d=>aD.t Y a b c d Z
theorem aD.ok(Y:J)(X:Fr)(Z:V)(g:aD.g Y X Z):den prog E (aP q [W,W,W]) (aX E [.tmp 2] Y) X Z:=
 a0 g fun a b c d g=>aW g fun e f g=>bH [(0,.slice a b c),(3,.int .i64 e)] ⟨d,f,trivial⟩ (by kernel_rfl) g
def bZ.g(a:R→Nat→Nat→Int→V→Prop)(X:Fr)(Z:V):Prop:=aE (X 0) fun b c d=>aC .i64 (X 3) fun e=>a b c d e Z
def bP.t(Y:J)(a:R→Nat→Nat→Int→V→Prop)(b:R)(c d:Nat)(e:Int)(Z:V):Prop:=
 cond (decide (e > 0)) (aN (IntKind.i64.wrap (e - 1)) fun eY=>
 cC b c eY 1 fun f=>
 c5 Z .u64 f fun f=>
 cond (f == 0) (aN (IntKind.i64.wrap (e - 1)) fun f=>
 a b c d f Z) (aD.t Y b c d e Z)) (aD.t Y b c d e Z)
def bP.g(Y:J)(a:R→Nat→Nat→Int→V→Prop)(X:Fr)(Z:V):Prop:=aE (X 0) fun b c d=>aC .i64 (X 3) fun e=>bP.t Y a b c d e Z
theorem bP.ok(Y:J)(a:R→Nat→Nat→Int→V→Prop)(X:Fr)(Z:V)(g:bP.g Y a X Z):den prog E (aP q [W,W,p,p,p]) (aM.then (bZ.g a) (aM.inBlock 0 (aM.then (aD.g Y) (aX E [.tmp 2] Y)))) X Z:=
 a0 g fun a b c d g=>aW g fun e f g=>bH [(0,.slice a b c),(3,.int .i64 e)] ⟨d,f,trivial⟩ (by kernel_rfl) g
def bZ.t(Y:J):Nat→R→Nat→Nat→Int→V→Prop
 | 0=>fun _ _ _ _ _=>False
 | n+1=>fun a b c d Z=>bP.t Y (bZ.t Y n) a b c d Z
theorem bZ.ok(Y:J)(X:Fr)(Z:V)(g:bZ.g (fun a b c d Z=>∃ n,bZ.t Y n a b c d Z) X Z):den prog E (aP q [W,W,p,p]) (aM.inBlock 0 (aM.then (aD.g Y) (aX E [.tmp 2] Y))) X Z:=by
 obtain⟨a,b,c,e,g⟩:=bT g
 obtain⟨d,f,g⟩:=bC g
 obtain⟨n,g⟩:=g
 refine eZ (fun n=>bZ.g (bZ.t Y n)) (N:=(aP q [W,W,p,p,p])) (by kernel_rfl) (fun X Z g=>?_) (fun n=>bP.ok Y (bZ.t Y n)) n X Z (aQ e (bJ f (g)))
 obtain⟨a,b,c,e,g⟩:=bT g
 obtain⟨d,f,g⟩:=bC g
 exact g
theorem hY.ok(Y:J)(X:Fr)(Z:V)(g:bZ.g (fun a b c d Z=>∃ n,bZ.t Y n a b c d Z) X Z):den prog E (aP q [W,W,p]) (aM.then (aD.g Y) (aX E [.tmp 2] Y)) X Z:=
 eN (by kernel_rfl) (bZ.ok Y X Z g)
theorem p2.ok(Y:J)(X:Fr)(Z:V)(g:bZ.g (fun a b c d Z=>∃ n,bZ.t Y n a b c d Z) X Z):den prog E (aP q [W,W]) (aX E [.tmp 2] Y) X Z:=
 e8 (by kernel_rfl) (aD.ok Y) (hY.ok Y X Z g)
def u.t(Y:J)(a:R)(b c:Nat)(Z:V):Prop:=
 (∃ n,bZ.t Y n a b c (((b:Nat):Int)) Z)
def u.g(Y:J)(X:Fr)(Z:V):Prop:=aE (X 0) fun a b c=>u.t Y a b c Z
theorem u.ok(Y:J)(X:Fr)(Z:V)(g:u.g Y X Z):den prog E q (aX E [.tmp 2] Y) X Z:=
 a0 g fun a b c d g=>cN 2 (C:=(aP q [W,W])) (by kernel_rfl) (p2.ok Y) (bH [(0,.slice a b c)] ⟨d,trivial⟩ (by kernel_rfl) g)
def t(a:R)(b c:Nat)(Z:V)(Y:J):Prop:=u.t Y a b c Z
theorem ok{a:R}{b:Nat}{d:Nat}{Z:V}{Y:J}(g:t a b d Z Y):aG id #[.slice a b d] Z Y:=
 c9 dA (c:=q) (c3:=[.tmp 2]) Try.func36 (by kernel_rfl) (by kernel_rfl) (by kernel_rfl) (args:=[.slice a b d]) (by kernel_rfl) (u.ok Y _ Z (aQ rfl (g)))
end jR
namespace hN
noncomputable def q:Code:=c8 Try.f37
def bP.t(Y:J)(a:R)(a b:Nat)(b:R)(c d:Nat)(aA:Int)(Z:V):Prop:=
 cC b c (((a:Nat):Int)) 1 fun a=>
 bI Z a (.int .u64 aA) fun a=>
 aG kX.id #[.slice b c d] a fun a b=>
 cO a fun a=>
 bY a fun a c d e=>
 dI e .i64 fun e f=>
 bG f <| Y (.tuple #[.slice a c d,.int .i64 e]) b
def bP.g(Y:J)(X:Fr)(Z:V):Prop:=aE (X 0) fun a b c=>aE (X 6) fun d e f=>aC .u64 (X 7) fun aA=>bP.t Y a b c d e f aA Z
theorem bP.ok(Y:J)(X:Fr)(Z:V)(g:bP.g Y X Z):den prog E (aP q [W,W,W,W,W,W]) (aX E [.tmp 4,.tmp 5] Y) X Z:=
 a0 g fun a b c d g=>a0 g fun e f h i g=>aW g fun aA j g=>bH [(0,.slice a b c),(6,.slice e f h),(7,.int .u64 aA)] ⟨d,i,j,trivial⟩ (by kernel_rfl) g
def fA.g(a:R→Nat→Nat→R→Nat→Nat→R→Nat→Nat→Int→Int→Int→V→Prop)(X:Fr)(Z:V):Prop:=aE (X 0) fun b c d=>aE (X 1) fun e B f=>aE (X 6) fun h i j=>aC .u64 (X 7) fun aA=>aC .i64 (X 30) fun l=>aC .i64 (X 31) fun m=>a b c d e B f h i j aA l m Z
def dP.t(Y:J)(a:R→Nat→Nat→R→Nat→Nat→R→Nat→Nat→Int→Int→Int→V→Prop)(b:R)(c d:Nat)(e:R)(B f:Nat)(g:R)(h i:Nat)(aA j l:Int)(Z:V):Prop:=
 cond (decide (l < j)) (cond (decide (l < (((B:Nat):Int)))) (cC e B l 1 fun m=>
 c5 Z .u64 m fun m=>
 cC b c l 1 fun n=>
 c5 Z .u64 n fun n=>
 k6 n m aA fun m n=>
 cC g h l 1 fun v=>
 bI Z v (.int .u64 m) fun m=>
 aN (IntKind.i64.wrap (l+1)) fun v=>
 a b c d e B f g h i n j v m) (cC b c l 1 fun m=>
 c5 Z .u64 m fun m=>
 k6 m 0 aA fun m n=>
 cC g h l 1 fun v=>
 bI Z v (.int .u64 m) fun m=>
 aN (IntKind.i64.wrap (l+1)) fun l=>
 a b c d e B f g h i n j l m)) (bP.t Y b c d g h i aA Z)
def dP.g(Y:J)(a:R→Nat→Nat→R→Nat→Nat→R→Nat→Nat→Int→Int→Int→V→Prop)(X:Fr)(Z:V):Prop:=aE (X 0) fun b c d=>aE (X 1) fun e B f=>aE (X 6) fun h i j=>aC .u64 (X 7) fun aA=>aC .i64 (X 30) fun l=>aC .i64 (X 31) fun m=>dP.t Y a b c d e B f h i j aA l m Z
theorem dP.ok(Y:J)(a:R→Nat→Nat→R→Nat→Nat→R→Nat→Nat→Int→Int→Int→V→Prop)(X:Fr)(Z:V)(g:dP.g Y a X Z):den prog E (aP q [W,W,W,W,W,p,W,p,p]) (aM.then (fA.g a) (aM.inBlock 0 (aM.then (bP.g Y) (aX E [.tmp 4,.tmp 5] Y)))) X Z:=
 a0 g fun a b c d g=>a0 g fun e B f h g=>a0 g fun i j l m g=>aW g fun aA n g=>aW g fun t v g=>aW g fun D G g=>bH [(0,.slice a b c),(1,.slice e B f),(6,.slice i j l),(7,.int .u64 aA),(30,.int .i64 t),(31,.int .i64 D)] ⟨d,h,m,n,v,G,trivial⟩ (by kernel_rfl) g
def fA.t(Y:J):Nat→R→Nat→Nat→R→Nat→Nat→R→Nat→Nat→Int→Int→Int→V→Prop
 | 0=>fun _ _ _ _ _ _ _ _ _ _ _ _ _=>False
 | n+1=>fun a b c d B e f g h aA i j Z=>dP.t Y (fA.t Y n) a b c d B e f g h aA i j Z
theorem fA.ok(Y:J)(X:Fr)(Z:V)(g:fA.g (fun a b c d B e f h i aA j l Z=>∃ n,fA.t Y n a b c d B e f h i aA j l Z) X Z):den prog E (aP q [W,W,W,W,W,p,W,p]) (aM.inBlock 0 (aM.then (bP.g Y) (aX E [.tmp 4,.tmp 5] Y))) X Z:=by
 obtain⟨a,b,c,m,g⟩:=bT g
 obtain⟨d,B,e,v,g⟩:=bT g
 obtain⟨f,h,i,D,g⟩:=bT g
 obtain⟨aA,G,g⟩:=bC g
 obtain⟨j,H,g⟩:=bC g
 obtain⟨l,P,g⟩:=bC g
 obtain⟨n,g⟩:=g
 refine eZ (fun n=>fA.g (fA.t Y n)) (N:=(aP q [W,W,W,W,W,p,W,p,p])) (by kernel_rfl) (fun X Z g=>?_) (fun n=>dP.ok Y (fA.t Y n)) n X Z (aQ m (aQ v (aQ D (bJ G (bJ H (bJ P (g)))))))
 obtain⟨a,b,c,m,g⟩:=bT g
 obtain⟨d,B,e,v,g⟩:=bT g
 obtain⟨f,h,i,D,g⟩:=bT g
 obtain⟨aA,G,g⟩:=bC g
 obtain⟨j,H,g⟩:=bC g
 obtain⟨l,P,g⟩:=bC g
 exact g
theorem iU.ok(Y:J)(X:Fr)(Z:V)(g:fA.g (fun a b c d B e f h i aA j l Z=>∃ n,fA.t Y n a b c d B e f h i aA j l Z) X Z):den prog E (aP q [W,W,W,W,W,p,W]) (aM.then (bP.g Y) (aX E [.tmp 4,.tmp 5] Y)) X Z:=
 eN (by kernel_rfl) (fA.ok Y X Z g)
def bS.t(Y:J)(a:R)(b c:Nat)(d:R)(B e:Nat)(f:R)(g h:Nat)(aA:Int)(Z:V):Prop:=
 (∃ n,fA.t Y n a b c d B e f g h aA (((b:Nat):Int)) 0 Z)
def bS.g(Y:J)(X:Fr)(Z:V):Prop:=aE (X 0) fun a b c=>aE (X 1) fun d B e=>aE (X 6) fun f h i=>aC .u64 (X 7) fun aA=>bS.t Y a b c d B e f h i aA Z
theorem bS.ok(Y:J)(X:Fr)(Z:V)(g:bS.g Y X Z):den prog E (aP q [W,W,W,W,W,p]) (aM.then (bP.g Y) (aX E [.tmp 4,.tmp 5] Y)) X Z:=
 a0 g fun a b c d g=>a0 g fun e B f h g=>a0 g fun i j l m g=>aW g fun aA n g=>cN 1 (C:=(aP q [W,W,W,W,W,p,W])) (by kernel_rfl) (iU.ok Y) (bH [(0,.slice a b c),(1,.slice e B f),(6,.slice i j l),(7,.int .u64 aA)] ⟨d,h,m,n,trivial⟩ (by kernel_rfl) g)
theorem Il.ok(Y:J)(X:Fr)(Z:V)(g:bS.g Y X Z):den prog E (aP q [W,W,W,W,W]) (aX E [.tmp 4,.tmp 5] Y) X Z:=
 e8 (by kernel_rfl) (bP.ok Y) (bS.ok Y X Z g)
def a4.t(Y:J)(a:R)(b c:Nat)(d:R)(B e:Nat)(Z:V):Prop:=
 aN (IntKind.i64.wrap ((((b:Nat):Int))+1)) fun f=>
 g1 Z 23 k5 f f fun g h=>
 bS.t Y a b c d B e (some g) f.toNat f.toNat 0 h
def a4.g(Y:J)(X:Fr)(Z:V):Prop:=aE (X 0) fun a b c=>aE (X 1) fun d B e=>a4.t Y a b c d B e Z
theorem a4.ok(Y:J)(X:Fr)(Z:V)(g:a4.g Y X Z):den prog E (aP q [W,W,W]) (aX E [.tmp 4,.tmp 5] Y) X Z:=
 a0 g fun a b c d g=>a0 g fun e B f h g=>cN 2 (C:=(aP q [W,W,W,W,W])) (by kernel_rfl) (Il.ok Y) (bH [(0,.slice a b c),(1,.slice e B f)] ⟨d,h,trivial⟩ (by kernel_rfl) g)
def aD.t(Y:J)(a:R)(b c:Nat)(d:R)(B e:Nat)(Z:V):Prop:=
 cond (decide ((((b:Nat):Int)) < (((B:Nat):Int)))) (a4.t Y d B e a b c Z) (a4.t Y a b c d B e Z)
def aD.g(Y:J)(X:Fr)(Z:V):Prop:=aE (X 0) fun a b c=>aE (X 1) fun d B e=>aD.t Y a b c d B e Z
theorem aD.ok(Y:J)(X:Fr)(Z:V)(g:aD.g Y X Z):den prog E (aP q [W,W]) (aX E [.tmp 4,.tmp 5] Y) X Z:=
 a0 g fun a b c d g=>a0 g fun e B f h g=>cN 1 (C:=(aP q [W,W,W])) (by kernel_rfl) (a4.ok Y) (bH [(0,.slice a b c),(1,.slice e B f)] ⟨d,h,trivial⟩ (by kernel_rfl) g)
def u.t(Y:J)(a:R)(b c:Nat)(d:R)(B e:Nat)(Z:V):Prop:=
 aG iG.id #[.slice a b c] Z fun f g=>
 eL f fun f=>
 cond (!f) (Y (.tuple #[.slice none 0 0,.int .i64 2]) g) (aG iG.id #[.slice d B e] g fun f g=>
 eL f fun f=>
 cond (!f) (Y (.tuple #[.slice none 0 0,.int .i64 2]) g) (aD.t Y a b c d B e g))
def u.g(Y:J)(X:Fr)(Z:V):Prop:=aE (X 0) fun a b c=>aE (X 1) fun d B e=>u.t Y a b c d B e Z
theorem u.ok(Y:J)(X:Fr)(Z:V)(g:u.g Y X Z):den prog E q (aX E [.tmp 4,.tmp 5] Y) X Z:=
 a0 g fun a b c d g=>a0 g fun e B f h g=>cN 2 (C:=(aP q [W,W])) (by kernel_rfl) (aD.ok Y) (bH [(0,.slice a b c),(1,.slice e B f)] ⟨d,h,trivial⟩ (by kernel_rfl) g)
def t(a:R)(b c:Nat)(d:R)(B e:Nat)(Z:V)(Y:J):Prop:=u.t Y a b c d B e Z
theorem ok{a:R}{b:Nat}{d:Nat}{e:R}{B:Nat}{f:Nat}{Z:V}{Y:J}(g:t a b d e B f Z Y):aG id #[.slice a b d,.slice e B f] Z Y:=
 c9 dA (c:=q) (c3:=[.tmp 4,.tmp 5]) Try.func37 (by kernel_rfl) (by kernel_rfl) (by kernel_rfl) (args:=[.slice a b d,.slice e B f]) (by kernel_rfl) (u.ok Y _ Z (aQ rfl (aQ rfl (g))))
end hN
namespace jV
noncomputable def q:Code:=c8 Try.f38
def u.t(Y:J)(aO:Int)(Z:V):Prop:=
 cond (aO == 0) (Y (.slice none 0 0) Z) (cU Z 23 [.int .u64 aO] fun a b=>Y (.slice (some a) 1 1) b)
def u.g(Y:J)(X:Fr)(Z:V):Prop:=aC .u64 (X 0) fun aO=>u.t Y aO Z
theorem u.ok(Y:J)(X:Fr)(Z:V)(g:u.g Y X Z):den prog E q (aX E [.tmp 2] Y) X Z:=
 aW g fun aO a g=>bH [(0,.int .u64 aO)] ⟨a,trivial⟩ (by kernel_rfl) g
def t(aO:Int)(Z:V)(Y:J):Prop:=u.t Y aO Z
theorem ok{aO:Int}{Z:V}{Y:J}(g:t aO Z Y):aG id #[.int .u64 aO] Z Y:=
 c9 dA (c:=q) (c3:=[.tmp 2]) Try.func38 (by kernel_rfl) (by kernel_rfl) (by kernel_rfl) (args:=[.int .u64 aO]) (by kernel_rfl) (u.ok Y _ Z (bJ rfl (g)))
end jV
namespace nH
noncomputable def q:Code:=c8 Try.f39
def aD.t(Y:J)(a:R)(b c:Nat)(d:R)(B e:Nat)(Z:V):Prop:=
 aG lF.id #[.slice a b c,.slice d B e] Z fun a b=>
 aE a fun a c d=>
 aG pK.id #[.slice a c d] b fun a b=>
 cO a fun a=>
 bY a fun a c d e=>
 dI e .i64 fun e f=>
 bG f <| Y (.tuple #[.slice a c d,.int .i64 e]) b
def aD.g(Y:J)(X:Fr)(Z:V):Prop:=aE (X 0) fun a b c=>aE (X 1) fun d B e=>aD.t Y a b c d B e Z
theorem aD.ok(Y:J)(X:Fr)(Z:V)(g:aD.g Y X Z):den prog E (aP q [W,W]) (aX E [.tmp 4,.tmp 5] Y) X Z:=
 a0 g fun a b c d g=>a0 g fun e B f h g=>bH [(0,.slice a b c),(1,.slice e B f)] ⟨d,h,trivial⟩ (by kernel_rfl) g
def u.t(Y:J)(a:R)(b c:Nat)(d:R)(B e:Nat)(Z:V):Prop:=
 aG iG.id #[.slice a b c] Z fun f g=>
 eL f fun f=>
 cond (!f) (Y (.tuple #[.slice none 0 0,.int .i64 2]) g) (aG iG.id #[.slice d B e] g fun f g=>
 eL f fun f=>
 cond (!f) (Y (.tuple #[.slice none 0 0,.int .i64 2]) g) (aD.t Y a b c d B e g))
def u.g(Y:J)(X:Fr)(Z:V):Prop:=aE (X 0) fun a b c=>aE (X 1) fun d B e=>u.t Y a b c d B e Z
theorem u.ok(Y:J)(X:Fr)(Z:V)(g:u.g Y X Z):den prog E q (aX E [.tmp 4,.tmp 5] Y) X Z:=
 a0 g fun a b c d g=>a0 g fun e B f h g=>cN 2 (C:=(aP q [W,W])) (by kernel_rfl) (aD.ok Y) (bH [(0,.slice a b c),(1,.slice e B f)] ⟨d,h,trivial⟩ (by kernel_rfl) g)
def t(a:R)(b c:Nat)(d:R)(B e:Nat)(Z:V)(Y:J):Prop:=u.t Y a b c d B e Z
theorem ok{a:R}{b:Nat}{d:Nat}{e:R}{B:Nat}{f:Nat}{Z:V}{Y:J}(g:t a b d e B f Z Y):aG id #[.slice a b d,.slice e B f] Z Y:=
 c9 dA (c:=q) (c3:=[.tmp 4,.tmp 5]) Try.func39 (by kernel_rfl) (by kernel_rfl) (by kernel_rfl) (args:=[.slice a b d,.slice e B f]) (by kernel_rfl) (u.ok Y _ Z (aQ rfl (aQ rfl (g))))
end nH
namespace iQ
noncomputable def q:Code:=c8 Try.f40
def aD.t(Y:J)(a:R)(b c:Nat)(Z:V):Prop:=
 aG kX.id #[.slice a b c] Z fun a b=>
 cO a fun a=>
 bY a fun a c d e=>
 dI e .i64 fun e f=>
 bG f <| Y (.tuple #[.slice a c d,.int .i64 e]) b
def aD.g(Y:J)(X:Fr)(Z:V):Prop:=aE (X 8) fun a b c=>aD.t Y a b c Z
theorem aD.ok(Y:J)(X:Fr)(Z:V)(g:aD.g Y X Z):den prog E (aP q [W,W,W,W,W,W,W,W]) (aX E [.tmp 4,.tmp 5] Y) X Z:=
 a0 g fun a b c d g=>bH [(8,.slice a b c)] ⟨d,trivial⟩ (by kernel_rfl) g
def a8.g(a:R→Nat→Nat→Int→Int→R→Nat→Nat→Int→Int→V→Prop)(X:Fr)(Z:V):Prop:=aE (X 0) fun b c d=>aC .i64 (X 6) fun e=>aC .i64 (X 7) fun aA=>aE (X 8) fun f h i=>aC .i64 (X 34) fun j=>aC .i64 (X 35) fun l=>a b c d e aA f h i j l Z
def bS.t(Y:J)(a:R→Nat→Nat→Int→Int→R→Nat→Nat→Int→Int→V→Prop)(b:R)(c d:Nat)(e aA:Int)(f:R)(g h:Nat)(i j:Int)(Z:V):Prop:=
 cond (decide (j < i)) (aN (IntKind.i64.wrap (e+j)) fun l=>
 cC f g l 1 fun m=>
 c5 Z .u64 m fun m=>
 cC b c j 1 fun n=>
 c5 Z .u64 n fun n=>
 0≤aA∧aN (e7 .u64 n aA) fun n=>
 aN (iX .u64 m n) fun m=>
 cC f g l 1 fun l=>
 bI Z l (.int .u64 m) fun l=>
 aN (IntKind.i64.wrap (e+j)) fun m=>
 aN (IntKind.i64.wrap (m+1)) fun m=>
 cC b c j 1 fun n=>
 c5 l .u64 n fun n=>
 0≤(1:Int)∧aN (fC .u64 n 1) fun n=>
 aN (IntKind.i64.wrap (63 - aA)) fun v=>
 0≤v∧aN (fC .u64 n v) fun n=>
 cC f g m 1 fun m=>
 bI l m (.int .u64 n) fun l=>
 aN (IntKind.i64.wrap (j+1)) fun j=>
 a b c d e aA f g h i j l) (aD.t Y f g h Z)
def bS.g(Y:J)(a:R→Nat→Nat→Int→Int→R→Nat→Nat→Int→Int→V→Prop)(X:Fr)(Z:V):Prop:=aE (X 0) fun b c d=>aC .i64 (X 6) fun e=>aC .i64 (X 7) fun aA=>aE (X 8) fun f h i=>aC .i64 (X 34) fun j=>aC .i64 (X 35) fun l=>bS.t Y a b c d e aA f h i j l Z
theorem bS.ok(Y:J)(a:R→Nat→Nat→Int→Int→R→Nat→Nat→Int→Int→V→Prop)(X:Fr)(Z:V)(g:bS.g Y a X Z):den prog E (aP q [W,W,W,W,W,W,W,p,W,p,p]) (aM.then (a8.g a) (aM.inBlock 0 (aM.then (aD.g Y) (aX E [.tmp 4,.tmp 5] Y)))) X Z:=
 a0 g fun a b c d g=>aW g fun e f g=>aW g fun aA h g=>a0 g fun i j l m g=>aW g fun n t g=>aW g fun v D g=>bH [(0,.slice a b c),(6,.int .i64 e),(7,.int .i64 aA),(8,.slice i j l),(34,.int .i64 n),(35,.int .i64 v)] ⟨d,f,h,m,t,D,trivial⟩ (by kernel_rfl) g
def a8.t(Y:J):Nat→R→Nat→Nat→Int→Int→R→Nat→Nat→Int→Int→V→Prop
 | 0=>fun _ _ _ _ _ _ _ _ _ _ _=>False
 | n+1=>fun a b c d aA e f g h i Z=>bS.t Y (a8.t Y n) a b c d aA e f g h i Z
theorem a8.ok(Y:J)(X:Fr)(Z:V)(g:a8.g (fun a b c d aA e f h i j Z=>∃ n,a8.t Y n a b c d aA e f h i j Z) X Z):den prog E (aP q [W,W,W,W,W,W,W,p,W,p]) (aM.inBlock 0 (aM.then (aD.g Y) (aX E [.tmp 4,.tmp 5] Y))) X Z:=by
 obtain⟨a,b,c,l,g⟩:=bT g
 obtain⟨d,m,g⟩:=bC g
 obtain⟨aA,v,g⟩:=bC g
 obtain⟨e,f,h,D,g⟩:=bT g
 obtain⟨i,G,g⟩:=bC g
 obtain⟨j,H,g⟩:=bC g
 obtain⟨n,g⟩:=g
 refine eZ (fun n=>a8.g (a8.t Y n)) (N:=(aP q [W,W,W,W,W,W,W,p,W,p,p])) (by kernel_rfl) (fun X Z g=>?_) (fun n=>bS.ok Y (a8.t Y n)) n X Z (aQ l (bJ m (bJ v (aQ D (bJ G (bJ H (g)))))))
 obtain⟨a,b,c,l,g⟩:=bT g
 obtain⟨d,m,g⟩:=bC g
 obtain⟨aA,v,g⟩:=bC g
 obtain⟨e,f,h,D,g⟩:=bT g
 obtain⟨i,G,g⟩:=bC g
 obtain⟨j,H,g⟩:=bC g
 exact g
theorem gG.ok(Y:J)(X:Fr)(Z:V)(g:a8.g (fun a b c d aA e f h i j Z=>∃ n,a8.t Y n a b c d aA e f h i j Z) X Z):den prog E (aP q [W,W,W,W,W,W,W,p,W]) (aM.then (aD.g Y) (aX E [.tmp 4,.tmp 5] Y)) X Z:=
 eN (by kernel_rfl) (a8.ok Y X Z g)
def a4.t(Y:J)(a:R)(b c:Nat)(d aA:Int)(e:R)(f g:Nat)(Z:V):Prop:=
 (∃ n,a8.t Y n a b c d aA e f g (((b:Nat):Int)) 0 Z)
def a4.g(Y:J)(X:Fr)(Z:V):Prop:=aE (X 0) fun a b c=>aC .i64 (X 6) fun d=>aC .i64 (X 7) fun aA=>aE (X 8) fun e f h=>a4.t Y a b c d aA e f h Z
theorem a4.ok(Y:J)(X:Fr)(Z:V)(g:a4.g Y X Z):den prog E (aP q [W,W,W,W,W,W,W,p]) (aM.then (aD.g Y) (aX E [.tmp 4,.tmp 5] Y)) X Z:=
 a0 g fun a b c d g=>aW g fun e f g=>aW g fun aA h g=>a0 g fun i j l m g=>cN 1 (C:=(aP q [W,W,W,W,W,W,W,p,W])) (by kernel_rfl) (gG.ok Y) (bH [(0,.slice a b c),(6,.int .i64 e),(7,.int .i64 aA),(8,.slice i j l)] ⟨d,f,h,m,trivial⟩ (by kernel_rfl) g)
theorem gH.ok(Y:J)(X:Fr)(Z:V)(g:a4.g Y X Z):den prog E (aP q [W,W,W,W,W,W,W]) (aX E [.tmp 4,.tmp 5] Y) X Z:=
 e8 (by kernel_rfl) (aD.ok Y) (a4.ok Y X Z g)
def u.t(Y:J)(a:R)(b c:Nat)(r:Int)(Z:V):Prop:=
 cond (decide (r < 0)) (Y (.tuple #[.slice none 0 0,.int .i64 1]) Z) (aG iG.id #[.slice a b c] Z fun d e=>
 eL d fun d=>
 cond (!d) (Y (.tuple #[.slice none 0 0,.int .i64 2]) e) (cond ((((b:Nat):Int)) == 0) (Y (.tuple #[.slice none 0 0,.int .i64 0]) e) (aG lZ.id #[.slice a b c] e fun d e=>
 aC .i64 d fun d=>
 aN (IntKind.i64.wrap (524288 - d)) fun d=>
 cond (decide (r > d)) (Y (.tuple #[.slice none 0 0,.int .i64 5]) e) ((64:Int) ≠ 0∧aN (IntKind.i64.wrap (Int.tdiv r 64)) fun d=>
 (64:Int) ≠ 0∧aN (Int.tmod r 64) fun f=>
 aN (IntKind.i64.wrap (d+(((b:Nat):Int)))) fun g=>
 aN (IntKind.i64.wrap (g+1)) fun g=>
 g1 e 23 k5 g g fun e h=>
 a4.t Y a b c d f (some e) g.toNat g.toNat h))))
def u.g(Y:J)(X:Fr)(Z:V):Prop:=aE (X 0) fun a b c=>aC .i64 (X 1) fun r=>u.t Y a b c r Z
theorem u.ok(Y:J)(X:Fr)(Z:V)(g:u.g Y X Z):den prog E q (aX E [.tmp 4,.tmp 5] Y) X Z:=
 a0 g fun a b c d g=>aW g fun r e g=>cN 7 (C:=(aP q [W,W,W,W,W,W,W])) (by kernel_rfl) (gH.ok Y) (bH [(0,.slice a b c),(1,.int .i64 r)] ⟨d,e,trivial⟩ (by kernel_rfl) g)
def t(a:R)(b c:Nat)(r:Int)(Z:V)(Y:J):Prop:=u.t Y a b c r Z
theorem ok{a:R}{b:Nat}{d:Nat}{r:Int}{Z:V}{Y:J}(g:t a b d r Z Y):aG id #[.slice a b d,.int .i64 r] Z Y:=
 c9 dA (c:=q) (c3:=[.tmp 4,.tmp 5]) Try.func40 (by kernel_rfl) (by kernel_rfl) (by kernel_rfl) (args:=[.slice a b d,.int .i64 r]) (by kernel_rfl) (u.ok Y _ Z (aQ rfl (bJ rfl (g))))
end iQ
namespace m2
noncomputable def q:Code:=c8 Try.f41
def aD.t(Y:J)(a:R)(b c:Nat)(d:R)(B e:Nat)(Z:V):Prop:=
 aG hU.id #[.slice a b c,.slice d B e] Z fun a b=>
 cO a fun a=>
 bY a fun a c d e=>
 dI e .i64 fun e e=>
 bG e <| Y (.slice a c d) b
def aD.g(Y:J)(X:Fr)(Z:V):Prop:=aE (X 0) fun a b c=>aE (X 1) fun d B e=>aD.t Y a b c d B e Z
theorem aD.ok(Y:J)(X:Fr)(Z:V)(g:aD.g Y X Z):den prog E (aP q [W,W]) (aX E [.tmp 4] Y) X Z:=
 a0 g fun a b c d g=>a0 g fun e B f h g=>bH [(0,.slice a b c),(1,.slice e B f)] ⟨d,h,trivial⟩ (by kernel_rfl) g
def u.t(Y:J)(a:R)(b c:Nat)(d:R)(B e:Nat)(Z:V):Prop:=
 aG hC.id #[.slice a b c,.slice d B e] Z fun f g=>
 aC .i64 f fun f=>
 cond (decide (f < 0)) (aD.t Y d B e a b c g) (aD.t Y a b c d B e g)
def u.g(Y:J)(X:Fr)(Z:V):Prop:=aE (X 0) fun a b c=>aE (X 1) fun d B e=>u.t Y a b c d B e Z
theorem u.ok(Y:J)(X:Fr)(Z:V)(g:u.g Y X Z):den prog E q (aX E [.tmp 4] Y) X Z:=
 a0 g fun a b c d g=>a0 g fun e B f h g=>cN 2 (C:=(aP q [W,W])) (by kernel_rfl) (aD.ok Y) (bH [(0,.slice a b c),(1,.slice e B f)] ⟨d,h,trivial⟩ (by kernel_rfl) g)
def t(a:R)(b c:Nat)(d:R)(B e:Nat)(Z:V)(Y:J):Prop:=u.t Y a b c d B e Z
theorem ok{a:R}{b:Nat}{d:Nat}{e:R}{B:Nat}{f:Nat}{Z:V}{Y:J}(g:t a b d e B f Z Y):aG id #[.slice a b d,.slice e B f] Z Y:=
 c9 dA (c:=q) (c3:=[.tmp 4]) Try.func41 (by kernel_rfl) (by kernel_rfl) (by kernel_rfl) (args:=[.slice a b d,.slice e B f]) (by kernel_rfl) (u.ok Y _ Z (aQ rfl (aQ rfl (g))))
end m2
namespace lZ
noncomputable def q:Code:=c8 Try.f42
def u.t(Y:J)(a:R)(b c:Nat)(Z:V):Prop:=
 aG jR.id #[.slice a b c] Z fun a b=>
 aE a fun a c d=>
 cond ((((c:Nat):Int)) == 0) (Y (.int .i64 0) b) (aN (IntKind.i64.wrap ((((c:Nat):Int)) - 1)) fun d=>
 aN (IntKind.i64.wrap (64*d)) fun d=>
 aN (IntKind.i64.wrap ((((c:Nat):Int)) - 1)) fun e=>
 cC a c e 1 fun a=>
 c5 b .u64 a fun a=>
 aG kC.id #[.int .u64 a] b fun a b=>
 aC .i64 a fun a=>
 aN (IntKind.i64.wrap (d+a)) fun a=>
 Y (.int .i64 a) b)
def u.g(Y:J)(X:Fr)(Z:V):Prop:=aE (X 0) fun a b c=>u.t Y a b c Z
theorem u.ok(Y:J)(X:Fr)(Z:V)(g:u.g Y X Z):den prog E q (aX E [.tmp 2] Y) X Z:=
 a0 g fun a b c d g=>bH [(0,.slice a b c)] ⟨d,trivial⟩ (by kernel_rfl) g
def t(a:R)(b c:Nat)(Z:V)(Y:J):Prop:=u.t Y a b c Z
theorem ok{a:R}{b:Nat}{d:Nat}{Z:V}{Y:J}(g:t a b d Z Y):aG id #[.slice a b d] Z Y:=
 c9 dA (c:=q) (c3:=[.tmp 2]) Try.func42 (by kernel_rfl) (by kernel_rfl) (by kernel_rfl) (args:=[.slice a b d]) (by kernel_rfl) (u.ok Y _ Z (aQ rfl (g)))
end lZ
namespace kJ
noncomputable def q:Code:=c8 Try.f43
def aD.t(Y:J)(a:R)(b c:Nat)(d:R)(e f:Nat)(g:Int)(Z:V):Prop:=
 aG hU.id #[.slice a b c,.slice d e f] Z fun a b=>
 cO a fun a=>
 bY a fun a c d e=>
 dI e .i64 fun e e=>
 bG e <| Y (.tuple #[.slice a c d,.int .u64 g]) b
def aD.g(Y:J)(X:Fr)(Z:V):Prop:=aE (X 8) fun a b c=>aE (X 9) fun d e f=>aC .u64 (X 10) fun h=>aD.t Y a b c d e f h Z
theorem aD.ok(Y:J)(X:Fr)(Z:V)(g:aD.g Y X Z):den prog E (aP q [W,W,W,W,W,W]) (aX E [.tmp 4,.tmp 5] Y) X Z:=
 a0 g fun a b c d g=>a0 g fun e f h i g=>aW g fun j l g=>bH [(8,.slice a b c),(9,.slice e f h),(10,.int .u64 j)] ⟨d,i,l,trivial⟩ (by kernel_rfl) g
def a8.g(a:Int→R→Nat→Nat→R→Nat→Nat→R→Nat→Nat→Int→Int→V→Prop)(X:Fr)(Z:V):Prop:=aC .u64 (X 0) fun aO=>aE (X 6) fun b c d=>aE (X 8) fun e f h=>aE (X 9) fun i j l=>aC .u64 (X 10) fun m=>aC .u64 (X 11) fun n=>a aO b c d e f h i j l m n Z
def bS.t(Y:J)(a:Int→R→Nat→Nat→R→Nat→Nat→R→Nat→Nat→Int→Int→V→Prop)(aO:Int)(b:R)(c d:Nat)(e:R)(f g:Nat)(h:R)(i j:Nat)(l m:Int)(Z:V):Prop:=
 cond (decide ((((c:Nat):Int)) > 0)) (aG h7.id #[.slice b c d,.int .u64 m] Z fun n v=>
 cO n fun n=>
 bY n fun n D E G=>
 dI G .u64 fun G G=>
 dI G .i64 fun G G=>
 bG G <| (4:Int) ≠ 0∧aN (Int.tmod m 4) fun G=>
 cond (G == 1) (aG hN.id #[.slice e f g,.slice n D E] v fun G H=>
 cO G fun G=>
 bY G fun G P Iv Iw=>
 dI Iw .i64 fun Iw Iw=>
 bG Iw <| aG nL.id #[.slice b c d,.int .u64 aO] H fun H Iw=>
 aE H fun H Ix Iy=>
 aN (IntKind.u64.wrap (l+3)) fun Iz=>
 aN (IntKind.u64.wrap (m+2)) fun IA=>
 a aO H Ix Iy G P Iv h i j Iz IA Iw) (aG hN.id #[.slice h i j,.slice n D E] v fun D E=>
 cO D fun D=>
 bY D fun D G H P=>
 dI P .i64 fun P P=>
 bG P <| aG nL.id #[.slice b c d,.int .u64 aO] E fun E P=>
 aE E fun E b c=>
 aN (IntKind.u64.wrap (l+3)) fun d=>
 aN (IntKind.u64.wrap (m+2)) fun m=>
 a aO E b c e f g D G H d m P)) (aD.t Y e f g h i j l Z)
def bS.g(Y:J)(a:Int→R→Nat→Nat→R→Nat→Nat→R→Nat→Nat→Int→Int→V→Prop)(X:Fr)(Z:V):Prop:=aC .u64 (X 0) fun aO=>aE (X 6) fun b c d=>aE (X 8) fun e f h=>aE (X 9) fun i j l=>aC .u64 (X 10) fun m=>aC .u64 (X 11) fun n=>bS.t Y a aO b c d e f h i j l m n Z
theorem bS.ok(Y:J)(a:Int→R→Nat→Nat→R→Nat→Nat→R→Nat→Nat→Int→Int→V→Prop)(X:Fr)(Z:V)(g:bS.g Y a X Z):den prog E (aP q [W,W,W,W,W,p,W,p,p]) (aM.then (a8.g a) (aM.inBlock 0 (aM.then (aD.g Y) (aX E [.tmp 4,.tmp 5] Y)))) X Z:=
 aW g fun aO a g=>a0 g fun b c d e g=>a0 g fun f h i j g=>a0 g fun l m n t g=>aW g fun v D g=>aW g fun G H g=>bH [(0,.int .u64 aO),(6,.slice b c d),(8,.slice f h i),(9,.slice l m n),(10,.int .u64 v),(11,.int .u64 G)] ⟨a,e,j,t,D,H,trivial⟩ (by kernel_rfl) g
def a8.t(Y:J):Nat→Int→R→Nat→Nat→R→Nat→Nat→R→Nat→Nat→Int→Int→V→Prop
 | 0=>fun _ _ _ _ _ _ _ _ _ _ _ _ _=>False
 | n+1=>fun aO a b c d e f g h i j l Z=>bS.t Y (a8.t Y n) aO a b c d e f g h i j l Z
theorem a8.ok(Y:J)(X:Fr)(Z:V)(g:a8.g (fun aO a b c d e f h i j l m Z=>∃ n,a8.t Y n aO a b c d e f h i j l m Z) X Z):den prog E (aP q [W,W,W,W,W,p,W,p]) (aM.inBlock 0 (aM.then (aD.g Y) (aX E [.tmp 4,.tmp 5] Y))) X Z:=by
 obtain⟨aO,v,g⟩:=bC g
 obtain⟨a,b,c,D,g⟩:=bT g
 obtain⟨d,e,f,G,g⟩:=bT g
 obtain⟨h,i,j,H,g⟩:=bT g
 obtain⟨l,P,g⟩:=bC g
 obtain⟨m,Iv,g⟩:=bC g
 obtain⟨n,g⟩:=g
 refine eZ (fun n=>a8.g (a8.t Y n)) (N:=(aP q [W,W,W,W,W,p,W,p,p])) (by kernel_rfl) (fun X Z g=>?_) (fun n=>bS.ok Y (a8.t Y n)) n X Z (bJ v (aQ D (aQ G (aQ H (bJ P (bJ Iv (g)))))))
 obtain⟨aO,v,g⟩:=bC g
 obtain⟨a,b,c,D,g⟩:=bT g
 obtain⟨d,e,f,G,g⟩:=bT g
 obtain⟨h,i,j,H,g⟩:=bT g
 obtain⟨l,P,g⟩:=bC g
 obtain⟨m,Iv,g⟩:=bC g
 exact g
theorem gG.ok(Y:J)(X:Fr)(Z:V)(g:a8.g (fun aO a b c d e f h i j l m Z=>∃ n,a8.t Y n aO a b c d e f h i j l m Z) X Z):den prog E (aP q [W,W,W,W,W,p,W]) (aM.then (aD.g Y) (aX E [.tmp 4,.tmp 5] Y)) X Z:=
 eN (by kernel_rfl) (a8.ok Y X Z g)
def a4.t(Y:J)(aO:Int)(a:R)(b c:Nat)(d:R)(e f:Nat)(g:R)(h i:Nat)(j:Int)(Z:V):Prop:=
 (∃ n,a8.t Y n aO a b c d e f g h i j 1 Z)
def a4.g(Y:J)(X:Fr)(Z:V):Prop:=aC .u64 (X 0) fun aO=>aE (X 6) fun a b c=>aE (X 8) fun d e f=>aE (X 9) fun h i j=>aC .u64 (X 10) fun l=>a4.t Y aO a b c d e f h i j l Z
theorem a4.ok(Y:J)(X:Fr)(Z:V)(g:a4.g Y X Z):den prog E (aP q [W,W,W,W,W,p]) (aM.then (aD.g Y) (aX E [.tmp 4,.tmp 5] Y)) X Z:=
 aW g fun aO a g=>a0 g fun b c d e g=>a0 g fun f h i j g=>a0 g fun l m n t g=>aW g fun v D g=>cN 1 (C:=(aP q [W,W,W,W,W,p,W])) (by kernel_rfl) (gG.ok Y) (bH [(0,.int .u64 aO),(6,.slice b c d),(8,.slice f h i),(9,.slice l m n),(10,.int .u64 v)] ⟨a,e,j,t,D,trivial⟩ (by kernel_rfl) g)
theorem gH.ok(Y:J)(X:Fr)(Z:V)(g:a4.g Y X Z):den prog E (aP q [W,W,W,W,W]) (aX E [.tmp 4,.tmp 5] Y) X Z:=
 e8 (by kernel_rfl) (aD.ok Y) (a4.ok Y X Z g)
def u.t(Y:J)(aO r:Int)(Z:V):Prop:=
 aG jV.id #[.int .u64 1] Z fun a b=>
 aE a fun a c d=>
 aG iQ.id #[.slice a c d,.int .i64 r] b fun a b=>
 cO a fun a=>
 bY a fun a c d e=>
 dI e .i64 fun e e=>
 bG e <| aG h7.id #[.slice a c d,.int .u64 aO] b fun a b=>
 cO a fun a=>
 bY a fun a c d e=>
 dI e .u64 fun e e=>
 dI e .i64 fun e e=>
 bG e <| cU b 23 [] fun b e=>
 cU e 23 [] fun e f=>
 a4.t Y aO a c d (some b) 0 0 (some e) 0 0 2 f
def u.g(Y:J)(X:Fr)(Z:V):Prop:=aC .u64 (X 0) fun aO=>aC .i64 (X 1) fun r=>u.t Y aO r Z
theorem u.ok(Y:J)(X:Fr)(Z:V)(g:u.g Y X Z):den prog E q (aX E [.tmp 4,.tmp 5] Y) X Z:=
 aW g fun aO a g=>aW g fun r b g=>cN 5 (C:=(aP q [W,W,W,W,W])) (by kernel_rfl) (gH.ok Y) (bH [(0,.int .u64 aO),(1,.int .i64 r)] ⟨a,b,trivial⟩ (by kernel_rfl) g)
def t(aO r:Int)(Z:V)(Y:J):Prop:=u.t Y aO r Z
theorem ok{aO:Int}{r:Int}{Z:V}{Y:J}(g:t aO r Z Y):aG id #[.int .u64 aO,.int .i64 r] Z Y:=
 c9 dA (c:=q) (c3:=[.tmp 4,.tmp 5]) Try.func43 (by kernel_rfl) (by kernel_rfl) (by kernel_rfl) (args:=[.int .u64 aO,.int .i64 r]) (by kernel_rfl) (u.ok Y _ Z (bJ rfl (bJ rfl (g))))
end kJ
namespace hU
noncomputable def q:Code:=c8 Try.f44
def a4.t(Y:J)(a:R)(b c:Nat)(Z:V):Prop:=
 aG kX.id #[.slice a b c] Z fun a b=>
 cO a fun a=>
 bY a fun a c d e=>
 dI e .i64 fun e f=>
 bG f <| Y (.tuple #[.slice a c d,.int .i64 e]) b
def a4.g(Y:J)(X:Fr)(Z:V):Prop:=aE (X 6) fun a b c=>a4.t Y a b c Z
theorem a4.ok(Y:J)(X:Fr)(Z:V)(g:a4.g Y X Z):den prog E (aP q [W,W,W,W,W,W]) (aX E [.tmp 4,.tmp 5] Y) X Z:=
 a0 g fun a b c d g=>bH [(6,.slice a b c)] ⟨d,trivial⟩ (by kernel_rfl) g
def eC.g(a:R→Nat→Nat→R→Nat→Nat→R→Nat→Nat→Int→Int→Int→V→Prop)(X:Fr)(Z:V):Prop:=aE (X 0) fun b c d=>aE (X 1) fun e B f=>aE (X 6) fun h i j=>aC .u64 (X 7) fun aA=>aC .i64 (X 26) fun l=>aC .i64 (X 27) fun m=>a b c d e B f h i j aA l m Z
def cW.t(Y:J)(a:R→Nat→Nat→R→Nat→Nat→R→Nat→Nat→Int→Int→Int→V→Prop)(b:R)(c d:Nat)(e:R)(B f:Nat)(g:R)(h i:Nat)(aA j l:Int)(Z:V):Prop:=
 cond (decide (l < j)) (cond (decide (l < (((B:Nat):Int)))) (cC e B l 1 fun m=>
 c5 Z .u64 m fun m=>
 cC b c l 1 fun n=>
 c5 Z .u64 n fun n=>
 nQ n m aA fun m n=>
 cC g h l 1 fun v=>
 bI Z v (.int .u64 m) fun m=>
 aN (IntKind.i64.wrap (l+1)) fun v=>
 a b c d e B f g h i n j v m) (cC b c l 1 fun m=>
 c5 Z .u64 m fun m=>
 nQ m 0 aA fun m n=>
 cC g h l 1 fun v=>
 bI Z v (.int .u64 m) fun m=>
 aN (IntKind.i64.wrap (l+1)) fun l=>
 a b c d e B f g h i n j l m)) (a4.t Y g h i Z)
def cW.g(Y:J)(a:R→Nat→Nat→R→Nat→Nat→R→Nat→Nat→Int→Int→Int→V→Prop)(X:Fr)(Z:V):Prop:=aE (X 0) fun b c d=>aE (X 1) fun e B f=>aE (X 6) fun h i j=>aC .u64 (X 7) fun aA=>aC .i64 (X 26) fun l=>aC .i64 (X 27) fun m=>cW.t Y a b c d e B f h i j aA l m Z
theorem cW.ok(Y:J)(a:R→Nat→Nat→R→Nat→Nat→R→Nat→Nat→Int→Int→Int→V→Prop)(X:Fr)(Z:V)(g:cW.g Y a X Z):den prog E (aP q [W,W,W,W,W,p,W,p,p]) (aM.then (eC.g a) (aM.inBlock 0 (aM.then (a4.g Y) (aX E [.tmp 4,.tmp 5] Y)))) X Z:=
 a0 g fun a b c d g=>a0 g fun e B f h g=>a0 g fun i j l m g=>aW g fun aA n g=>aW g fun t v g=>aW g fun D G g=>bH [(0,.slice a b c),(1,.slice e B f),(6,.slice i j l),(7,.int .u64 aA),(26,.int .i64 t),(27,.int .i64 D)] ⟨d,h,m,n,v,G,trivial⟩ (by kernel_rfl) g
def eC.t(Y:J):Nat→R→Nat→Nat→R→Nat→Nat→R→Nat→Nat→Int→Int→Int→V→Prop
 | 0=>fun _ _ _ _ _ _ _ _ _ _ _ _ _=>False
 | n+1=>fun a b c d B e f g h aA i j Z=>cW.t Y (eC.t Y n) a b c d B e f g h aA i j Z
theorem eC.ok(Y:J)(X:Fr)(Z:V)(g:eC.g (fun a b c d B e f h i aA j l Z=>∃ n,eC.t Y n a b c d B e f h i aA j l Z) X Z):den prog E (aP q [W,W,W,W,W,p,W,p]) (aM.inBlock 0 (aM.then (a4.g Y) (aX E [.tmp 4,.tmp 5] Y))) X Z:=by
 obtain⟨a,b,c,m,g⟩:=bT g
 obtain⟨d,B,e,v,g⟩:=bT g
 obtain⟨f,h,i,D,g⟩:=bT g
 obtain⟨aA,G,g⟩:=bC g
 obtain⟨j,H,g⟩:=bC g
 obtain⟨l,P,g⟩:=bC g
 obtain⟨n,g⟩:=g
 refine eZ (fun n=>eC.g (eC.t Y n)) (N:=(aP q [W,W,W,W,W,p,W,p,p])) (by kernel_rfl) (fun X Z g=>?_) (fun n=>cW.ok Y (eC.t Y n)) n X Z (aQ m (aQ v (aQ D (bJ G (bJ H (bJ P (g)))))))
 obtain⟨a,b,c,m,g⟩:=bT g
 obtain⟨d,B,e,v,g⟩:=bT g
 obtain⟨f,h,i,D,g⟩:=bT g
 obtain⟨aA,G,g⟩:=bC g
 obtain⟨j,H,g⟩:=bC g
 obtain⟨l,P,g⟩:=bC g
 exact g
theorem jE.ok(Y:J)(X:Fr)(Z:V)(g:eC.g (fun a b c d B e f h i aA j l Z=>∃ n,eC.t Y n a b c d B e f h i aA j l Z) X Z):den prog E (aP q [W,W,W,W,W,p,W]) (aM.then (a4.g Y) (aX E [.tmp 4,.tmp 5] Y)) X Z:=
 eN (by kernel_rfl) (eC.ok Y X Z g)
def bP.t(Y:J)(a:R)(b c:Nat)(d:R)(B e:Nat)(f:R)(g h:Nat)(aA:Int)(Z:V):Prop:=
 (∃ n,eC.t Y n a b c d B e f g h aA (((b:Nat):Int)) 0 Z)
def bP.g(Y:J)(X:Fr)(Z:V):Prop:=aE (X 0) fun a b c=>aE (X 1) fun d B e=>aE (X 6) fun f h i=>aC .u64 (X 7) fun aA=>bP.t Y a b c d B e f h i aA Z
theorem bP.ok(Y:J)(X:Fr)(Z:V)(g:bP.g Y X Z):den prog E (aP q [W,W,W,W,W,p]) (aM.then (a4.g Y) (aX E [.tmp 4,.tmp 5] Y)) X Z:=
 a0 g fun a b c d g=>a0 g fun e B f h g=>a0 g fun i j l m g=>aW g fun aA n g=>cN 1 (C:=(aP q [W,W,W,W,W,p,W])) (by kernel_rfl) (jE.ok Y) (bH [(0,.slice a b c),(1,.slice e B f),(6,.slice i j l),(7,.int .u64 aA)] ⟨d,h,m,n,trivial⟩ (by kernel_rfl) g)
theorem sY.ok(Y:J)(X:Fr)(Z:V)(g:bP.g Y X Z):den prog E (aP q [W,W,W,W,W]) (aX E [.tmp 4,.tmp 5] Y) X Z:=
 e8 (by kernel_rfl) (a4.ok Y) (bP.ok Y X Z g)
def aD.t(Y:J)(a:R)(b c:Nat)(d:R)(B e:Nat)(Z:V):Prop:=
 aG hC.id #[.slice a b c,.slice d B e] Z fun f g=>
 aC .i64 f fun f=>
 cond (decide (f < 0)) (Y (.tuple #[.slice none 0 0,.int .i64 3]) g) (g1 g 23 k5 (((b:Nat):Int)) (((b:Nat):Int)) fun f g=>
 bP.t Y a b c d B e (some f) ((((b:Nat):Int)).toNat) ((((b:Nat):Int)).toNat) 0 g)
def aD.g(Y:J)(X:Fr)(Z:V):Prop:=aE (X 0) fun a b c=>aE (X 1) fun d B e=>aD.t Y a b c d B e Z
theorem aD.ok(Y:J)(X:Fr)(Z:V)(g:aD.g Y X Z):den prog E (aP q [W,W]) (aX E [.tmp 4,.tmp 5] Y) X Z:=
 a0 g fun a b c d g=>a0 g fun e B f h g=>cN 3 (C:=(aP q [W,W,W,W,W])) (by kernel_rfl) (sY.ok Y) (bH [(0,.slice a b c),(1,.slice e B f)] ⟨d,h,trivial⟩ (by kernel_rfl) g)
def u.t(Y:J)(a:R)(b c:Nat)(d:R)(B e:Nat)(Z:V):Prop:=
 aG iG.id #[.slice a b c] Z fun f g=>
 eL f fun f=>
 cond (!f) (Y (.tuple #[.slice none 0 0,.int .i64 2]) g) (aG iG.id #[.slice d B e] g fun f g=>
 eL f fun f=>
 cond (!f) (Y (.tuple #[.slice none 0 0,.int .i64 2]) g) (aD.t Y a b c d B e g))
def u.g(Y:J)(X:Fr)(Z:V):Prop:=aE (X 0) fun a b c=>aE (X 1) fun d B e=>u.t Y a b c d B e Z
theorem u.ok(Y:J)(X:Fr)(Z:V)(g:u.g Y X Z):den prog E q (aX E [.tmp 4,.tmp 5] Y) X Z:=
 a0 g fun a b c d g=>a0 g fun e B f h g=>cN 2 (C:=(aP q [W,W])) (by kernel_rfl) (aD.ok Y) (bH [(0,.slice a b c),(1,.slice e B f)] ⟨d,h,trivial⟩ (by kernel_rfl) g)
def t(a:R)(b c:Nat)(d:R)(B e:Nat)(Z:V)(Y:J):Prop:=u.t Y a b c d B e Z
theorem ok{a:R}{b:Nat}{d:Nat}{e:R}{B:Nat}{f:Nat}{Z:V}{Y:J}(g:t a b d e B f Z Y):aG id #[.slice a b d,.slice e B f] Z Y:=
 c9 dA (c:=q) (c3:=[.tmp 4,.tmp 5]) Try.func44 (by kernel_rfl) (by kernel_rfl) (by kernel_rfl) (args:=[.slice a b d,.slice e B f]) (by kernel_rfl) (u.ok Y _ Z (aQ rfl (aQ rfl (g))))
end hU
namespace pT
noncomputable def q:Code:=c8 Try.f45
def u.t(Y:J)(a:R)(b c:Nat)(r:Int)(Z:V):Prop:=
 aG jV.id #[.int .u64 r] Z fun d e=>
 aE d fun d f g=>
 aG hU.id #[.slice a b c,.slice d f g] e fun d e=>
 cO d fun d=>
 bY d fun d f g h=>
 dI h .i64 fun h h=>
 bG h <| aG jV.id #[.int .u64 r] e fun e h=>
 aE e fun e i j=>
 aG hN.id #[.slice a b c,.slice e i j] h fun a b=>
 cO a fun a=>
 bY a fun a c e h=>
 dI h .i64 fun h h=>
 bG h <| Y (.tuple #[.slice d f g,.slice a c e]) b
def u.g(Y:J)(X:Fr)(Z:V):Prop:=aE (X 0) fun a b c=>aC .u64 (X 1) fun r=>u.t Y a b c r Z
theorem u.ok(Y:J)(X:Fr)(Z:V)(g:u.g Y X Z):den prog E q (aX E [.tmp 4,.tmp 5] Y) X Z:=
 a0 g fun a b c d g=>aW g fun r e g=>bH [(0,.slice a b c),(1,.int .u64 r)] ⟨d,e,trivial⟩ (by kernel_rfl) g
def t(a:R)(b c:Nat)(r:Int)(Z:V)(Y:J):Prop:=u.t Y a b c r Z
theorem ok{a:R}{b:Nat}{d:Nat}{r:Int}{Z:V}{Y:J}(g:t a b d r Z Y):aG id #[.slice a b d,.int .u64 r] Z Y:=
 c9 dA (c:=q) (c3:=[.tmp 4,.tmp 5]) Try.func45 (by kernel_rfl) (by kernel_rfl) (by kernel_rfl) (args:=[.slice a b d,.int .u64 r]) (by kernel_rfl) (u.ok Y _ Z (aQ rfl (bJ rfl (g))))
end pT
namespace iG
noncomputable def q:Code:=c8 Try.f46
def u.t(Y:J)(a:R)(b c:Nat)(Z:V):Prop:=
 cond (decide ((((b:Nat):Int))≤8192)) (cond ((((b:Nat):Int)) == 0) (Y (.bool true) Z) (aN (IntKind.i64.wrap ((((b:Nat):Int)) - 1)) fun dF=>
 cC a b dF 1 fun a=>
 c5 Z .u64 a fun a=>
 Y (.bool (a != 0)) Z)) (Y (.bool false) Z)
def u.g(Y:J)(X:Fr)(Z:V):Prop:=aE (X 0) fun a b c=>u.t Y a b c Z
theorem u.ok(Y:J)(X:Fr)(Z:V)(g:u.g Y X Z):den prog E q (aX E [.tmp 2] Y) X Z:=
 a0 g fun a b c d g=>bH [(0,.slice a b c)] ⟨d,trivial⟩ (by kernel_rfl) g
def t(a:R)(b c:Nat)(Z:V)(Y:J):Prop:=u.t Y a b c Z
theorem ok{a:R}{b:Nat}{d:Nat}{Z:V}{Y:J}(g:t a b d Z Y):aG id #[.slice a b d] Z Y:=
 c9 dA (c:=q) (c3:=[.tmp 2]) Try.func46 (by kernel_rfl) (by kernel_rfl) (by kernel_rfl) (args:=[.slice a b d]) (by kernel_rfl) (u.ok Y _ Z (aQ rfl (g)))
end iG
namespace kX
noncomputable def q:Code:=c8 Try.f47
def u.t(Y:J)(a:R)(b c:Nat)(Z:V):Prop:=
 aG jR.id #[.slice a b c] Z fun a b=>
 aE a fun a c d=>
 cond (decide ((((c:Nat):Int)) > 8192)) (Y (.tuple #[.slice none 0 0,.int .i64 5]) b) (Y (.tuple #[.slice a c d,.int .i64 0]) b)
def u.g(Y:J)(X:Fr)(Z:V):Prop:=aE (X 0) fun a b c=>u.t Y a b c Z
theorem u.ok(Y:J)(X:Fr)(Z:V)(g:u.g Y X Z):den prog E q (aX E [.tmp 2,.tmp 3] Y) X Z:=
 a0 g fun a b c d g=>bH [(0,.slice a b c)] ⟨d,trivial⟩ (by kernel_rfl) g
def t(a:R)(b c:Nat)(Z:V)(Y:J):Prop:=u.t Y a b c Z
theorem ok{a:R}{b:Nat}{d:Nat}{Z:V}{Y:J}(g:t a b d Z Y):aG id #[.slice a b d] Z Y:=
 c9 dA (c:=q) (c3:=[.tmp 2,.tmp 3]) Try.func47 (by kernel_rfl) (by kernel_rfl) (by kernel_rfl) (args:=[.slice a b d]) (by kernel_rfl) (u.ok Y _ Z (aQ rfl (g)))
end kX
namespace fV
noncomputable def q:Code:=c8 Try.f48
def aD.t(Y:J)(a:R)(b c:Nat)(d:Int)(Z:V):Prop:=
 g1 Z 78 gP d d fun e f=>
 gT 1 a b c none (some (.int .i64 d)) none fun a b c=>
 kR f 1 (some e) d.toNat (.slice a b c) fun a a=>
 Y (.slice (some e) d.toNat d.toNat) a
def aD.g(Y:J)(X:Fr)(Z:V):Prop:=aE (X 0) fun a b c=>aC .i64 (X 3) fun d=>aD.t Y a b c d Z
theorem aD.ok(Y:J)(X:Fr)(Z:V)(g:aD.g Y X Z):den prog E (aP q [W,W,W]) (aX E [.tmp 2] Y) X Z:=
 a0 g fun a b c d g=>aW g fun e f g=>bH [(0,.slice a b c),(3,.int .i64 e)] ⟨d,f,trivial⟩ (by kernel_rfl) g
def bZ.g(a:R→Nat→Nat→Int→V→Prop)(X:Fr)(Z:V):Prop:=aE (X 0) fun b c d=>aC .i64 (X 3) fun e=>a b c d e Z
def bP.t(Y:J)(a:R→Nat→Nat→Int→V→Prop)(b:R)(c d:Nat)(e:Int)(Z:V):Prop:=
 cond (decide (e > 0)) (aN (IntKind.i64.wrap (e - 1)) fun f=>
 cC b c f 1 fun f=>
 c5 Z .u32 f fun f=>
 cond (f == 0) (aN (IntKind.i64.wrap (e - 1)) fun f=>
 a b c d f Z) (aD.t Y b c d e Z)) (aD.t Y b c d e Z)
def bP.g(Y:J)(a:R→Nat→Nat→Int→V→Prop)(X:Fr)(Z:V):Prop:=aE (X 0) fun b c d=>aC .i64 (X 3) fun e=>bP.t Y a b c d e Z
theorem bP.ok(Y:J)(a:R→Nat→Nat→Int→V→Prop)(X:Fr)(Z:V)(g:bP.g Y a X Z):den prog E (aP q [W,W,p,p,p]) (aM.then (bZ.g a) (aM.inBlock 0 (aM.then (aD.g Y) (aX E [.tmp 2] Y)))) X Z:=
 a0 g fun a b c d g=>aW g fun e f g=>bH [(0,.slice a b c),(3,.int .i64 e)] ⟨d,f,trivial⟩ (by kernel_rfl) g
def bZ.t(Y:J):Nat→R→Nat→Nat→Int→V→Prop
 | 0=>fun _ _ _ _ _=>False
 | n+1=>fun a b c d Z=>bP.t Y (bZ.t Y n) a b c d Z
theorem bZ.ok(Y:J)(X:Fr)(Z:V)(g:bZ.g (fun a b c d Z=>∃ n,bZ.t Y n a b c d Z) X Z):den prog E (aP q [W,W,p,p]) (aM.inBlock 0 (aM.then (aD.g Y) (aX E [.tmp 2] Y))) X Z:=by
 obtain⟨a,b,c,e,g⟩:=bT g
 obtain⟨d,f,g⟩:=bC g
 obtain⟨n,g⟩:=g
 refine eZ (fun n=>bZ.g (bZ.t Y n)) (N:=(aP q [W,W,p,p,p])) (by kernel_rfl) (fun X Z g=>?_) (fun n=>bP.ok Y (bZ.t Y n)) n X Z (aQ e (bJ f (g)))
 obtain⟨a,b,c,e,g⟩:=bT g
 obtain⟨d,f,g⟩:=bC g
 exact g
theorem hY.ok(Y:J)(X:Fr)(Z:V)(g:bZ.g (fun a b c d Z=>∃ n,bZ.t Y n a b c d Z) X Z):den prog E (aP q [W,W,p]) (aM.then (aD.g Y) (aX E [.tmp 2] Y)) X Z:=
 eN (by kernel_rfl) (bZ.ok Y X Z g)
theorem p2.ok(Y:J)(X:Fr)(Z:V)(g:bZ.g (fun a b c d Z=>∃ n,bZ.t Y n a b c d Z) X Z):den prog E (aP q [W,W]) (aX E [.tmp 2] Y) X Z:=
 e8 (by kernel_rfl) (aD.ok Y) (hY.ok Y X Z g)
def u.t(Y:J)(a:R)(b c:Nat)(Z:V):Prop:=
 (∃ n,bZ.t Y n a b c (((b:Nat):Int)) Z)
def u.g(Y:J)(X:Fr)(Z:V):Prop:=aE (X 0) fun a b c=>u.t Y a b c Z
theorem u.ok(Y:J)(X:Fr)(Z:V)(g:u.g Y X Z):den prog E q (aX E [.tmp 2] Y) X Z:=
 a0 g fun a b c d g=>cN 2 (C:=(aP q [W,W])) (by kernel_rfl) (p2.ok Y) (bH [(0,.slice a b c)] ⟨d,trivial⟩ (by kernel_rfl) g)
def t(a:R)(b c:Nat)(Z:V)(Y:J):Prop:=u.t Y a b c Z
theorem ok{a:R}{b:Nat}{d:Nat}{Z:V}{Y:J}(g:t a b d Z Y):aG id #[.slice a b d] Z Y:=
 c9 dA (c:=q) (c3:=[.tmp 2]) Try.func48 (by kernel_rfl) (by kernel_rfl) (by kernel_rfl) (args:=[.slice a b d]) (by kernel_rfl) (u.ok Y _ Z (aQ rfl (g)))
end fV
namespace gX
noncomputable def q:Code:=c8 Try.f49
def aD.t(Y:J)(a:R)(b c:Nat)(Z:V):Prop:=
 aG fV.id #[.slice a b c] Z fun a b=>
 aE a fun a c d=>
 Y (.slice a c d) b
def aD.g(Y:J)(X:Fr)(Z:V):Prop:=aE (X 5) fun a b c=>aD.t Y a b c Z
theorem aD.ok(Y:J)(X:Fr)(Z:V)(g:aD.g Y X Z):den prog E (aP q [W,W,W]) (aX E [.tmp 4] Y) X Z:=
 a0 g fun a b c d g=>bH [(5,.slice a b c)] ⟨d,trivial⟩ (by kernel_rfl) g
def a8.g(a:R→Nat→Nat→R→Nat→Nat→R→Nat→Nat→Int→V→Prop)(X:Fr)(Z:V):Prop:=aE (X 0) fun b c d=>aE (X 1) fun e B f=>aE (X 5) fun h i j=>aC .i64 (X 6) fun l=>a b c d e B f h i j l Z
def cW.t(Y:J)(a:R→Nat→Nat→R→Nat→Nat→R→Nat→Nat→Int→V→Prop)(b:R)(c d:Nat)(e:R)(B f:Nat)(g:R)(h i:Nat)(j:Int)(Z:V):Prop:=
 aN (IntKind.i64.wrap (j+1)) fun j=>a b c d e B f g h i j Z
def cW.g(Y:J)(a:R→Nat→Nat→R→Nat→Nat→R→Nat→Nat→Int→V→Prop)(X:Fr)(Z:V):Prop:=aE (X 0) fun b c d=>aE (X 1) fun e B f=>aE (X 5) fun h i j=>aC .i64 (X 6) fun l=>cW.t Y a b c d e B f h i j l Z
theorem cW.ok(Y:J)(a:R→Nat→Nat→R→Nat→Nat→R→Nat→Nat→Int→V→Prop)(X:Fr)(Z:V)(g:cW.g Y a X Z):den prog E (aP q [W,W,p,W,p,p,W,W]) (aM.then (a8.g a) (aM.inBlock 0 (aM.then (aD.g Y) (aX E [.tmp 4] Y)))) X Z:=
 a0 g fun a b c d g=>a0 g fun e B f h g=>a0 g fun i j l m g=>aW g fun n t g=>bH [(0,.slice a b c),(1,.slice e B f),(5,.slice i j l),(6,.int .i64 n)] ⟨d,h,m,t,trivial⟩ (by kernel_rfl) g
def dX.t(Y:J)(a:R→Nat→Nat→R→Nat→Nat→R→Nat→Nat→Int→V→Prop)(b:R)(c d:Nat)(e:R)(B f:Nat)(g:R)(h i:Nat)(j aA:Int)(Z:V):Prop:=
 aN (IntKind.i64.wrap (j+(((B:Nat):Int)))) fun l=>
 aN (IntKind.u32.wrap aA) fun m=>
 cC g h l 1 fun l=>
 bI Z l (.int .u32 m) fun l=>
 cW.t Y a b c d e B f g h i j l
def dX.g(Y:J)(a:R→Nat→Nat→R→Nat→Nat→R→Nat→Nat→Int→V→Prop)(X:Fr)(Z:V):Prop:=aE (X 0) fun b c d=>aE (X 1) fun e B f=>aE (X 5) fun h i j=>aC .i64 (X 6) fun l=>aC .u64 (X 7) fun aA=>dX.t Y a b c d e B f h i j l aA Z
theorem dX.ok(Y:J)(a:R→Nat→Nat→R→Nat→Nat→R→Nat→Nat→Int→V→Prop)(X:Fr)(Z:V)(g:dX.g Y a X Z):den prog E (aP q [W,W,p,W,p,p,W,p,p,W,W,W]) (aM.inBlock 1 (aM.then (cW.g Y a) (aM.then (a8.g a) (aM.inBlock 0 (aM.then (aD.g Y) (aX E [.tmp 4] Y)))))) X Z:=
 a0 g fun a b c d g=>a0 g fun e B f h g=>a0 g fun i j l m g=>aW g fun n t g=>aW g fun aA v g=>bH [(0,.slice a b c),(1,.slice e B f),(5,.slice i j l),(6,.int .i64 n),(7,.int .u64 aA)] ⟨d,h,m,t,v,trivial⟩ (by kernel_rfl) g
def jJ.g(a:R→Nat→Nat→R→Nat→Nat→R→Nat→Nat→Int→Int→Int→Int→V→Prop)(X:Fr)(Z:V):Prop:=aE (X 0) fun b c d=>aE (X 1) fun e B f=>aE (X 5) fun h i j=>aC .i64 (X 6) fun l=>aC .u64 (X 7) fun aA=>aC .u64 (X 8) fun aL=>aC .i64 (X 9) fun aR=>a b c d e B f h i j l aA aL aR Z
def n0.t(Y:J)(a:R→Nat→Nat→R→Nat→Nat→R→Nat→Nat→Int→V→Prop)(b:R→Nat→Nat→R→Nat→Nat→R→Nat→Nat→Int→Int→Int→Int→V→Prop)(c:R)(d e:Nat)(f:R)(B g:Nat)(h:R)(i j:Nat)(l aA:Int)(aL aR:Int)(Z:V):Prop:=
 cond (decide (aR < (((B:Nat):Int)))) (aN (IntKind.i64.wrap (l+aR)) fun m=>
 cC h i m 1 fun m=>
 c5 Z .u32 m fun m=>
 aN (IntKind.u64.wrap m) fun m=>
 cC f B aR 1 fun n=>
 c5 Z .u32 n fun n=>
 aN (IntKind.u64.wrap n) fun n=>
 aN (IntKind.u64.wrap (aL*n)) fun n=>
 aN (IntKind.u64.wrap (m+n)) fun m=>
 aN (IntKind.u64.wrap (aA+m)) fun m=>
 aN (IntKind.i64.wrap (l+aR)) fun n=>
 aN (fK .u64 m 4294967295) fun v=>
 aN (IntKind.u32.wrap v) fun v=>
 cC h i n 1 fun n=>
 bI Z n (.int .u32 v) fun n=>
 0≤(32:Int)∧aN (fC .u64 m 32) fun m=>
 aN (IntKind.i64.wrap (aR+1)) fun v=>
 b c d e f B g h i j l m aL v n) (dX.t Y a c d e f B g h i j l aA Z)
def n0.g(Y:J)(a:R→Nat→Nat→R→Nat→Nat→R→Nat→Nat→Int→V→Prop)(b:R→Nat→Nat→R→Nat→Nat→R→Nat→Nat→Int→Int→Int→Int→V→Prop)(X:Fr)(Z:V):Prop:=aE (X 0) fun c d e=>aE (X 1) fun f B h=>aE (X 5) fun i j l=>aC .i64 (X 6) fun m=>aC .u64 (X 7) fun aA=>aC .u64 (X 8) fun aL=>aC .i64 (X 9) fun aR=>n0.t Y a b c d e f B h i j l m aA aL aR Z
theorem n0.ok(Y:J)(a:R→Nat→Nat→R→Nat→Nat→R→Nat→Nat→Int→V→Prop)(b:R→Nat→Nat→R→Nat→Nat→R→Nat→Nat→Int→Int→Int→Int→V→Prop)(X:Fr)(Z:V)(g:n0.g Y a b X Z):den prog E (aP q [W,W,p,W,p,p,W,p,p,W,W,p,W,p,p]) (aM.then (jJ.g b) (aM.inBlock 2 (aM.then (dX.g Y a) (aM.inBlock 1 (aM.then (cW.g Y a) (aM.then (a8.g a) (aM.inBlock 0 (aM.then (aD.g Y) (aX E [.tmp 4] Y))))))))) X Z:=
 a0 g fun a b c d g=>a0 g fun e B f h g=>a0 g fun i j l m g=>aW g fun n t g=>aW g fun aA v g=>aW g fun aL D g=>aW g fun aR G g=>bH [(0,.slice a b c),(1,.slice e B f),(5,.slice i j l),(6,.int .i64 n),(7,.int .u64 aA),(8,.int .u64 aL),(9,.int .i64 aR)] ⟨d,h,m,t,v,D,G,trivial⟩ (by kernel_rfl) g
def jJ.t(Y:J)(a:R→Nat→Nat→R→Nat→Nat→R→Nat→Nat→Int→V→Prop):Nat→R→Nat→Nat→R→Nat→Nat→R→Nat→Nat→Int→Int→Int→Int→V→Prop
 | 0=>fun _ _ _ _ _ _ _ _ _ _ _ _ _ _=>False
 | n+1=>fun b c d e B f g h i j aA aL aR Z=>n0.t Y a (jJ.t Y a n) b c d e B f g h i j aA aL aR Z
theorem jJ.ok(Y:J)(a:R→Nat→Nat→R→Nat→Nat→R→Nat→Nat→Int→V→Prop)(X:Fr)(Z:V)(g:jJ.g (fun b c d e B f h i j l aA aL aR Z=>∃ n,jJ.t Y a n b c d e B f h i j l aA aL aR Z) X Z):den prog E (aP q [W,W,p,W,p,p,W,p,p,W,W,p,W,p]) (aM.inBlock 2 (aM.then (dX.g Y a) (aM.inBlock 1 (aM.then (cW.g Y a) (aM.then (a8.g a) (aM.inBlock 0 (aM.then (aD.g Y) (aX E [.tmp 4] Y)))))))) X Z:=by
 obtain⟨b,c,d,m,g⟩:=bT g
 obtain⟨e,B,f,v,g⟩:=bT g
 obtain⟨h,i,j,D,g⟩:=bT g
 obtain⟨l,G,g⟩:=bC g
 obtain⟨aA,H,g⟩:=bC g
 obtain⟨aL,P,g⟩:=bC g
 obtain⟨aR,Iv,g⟩:=bC g
 obtain⟨n,g⟩:=g
 refine eZ (fun n=>jJ.g (jJ.t Y a n)) (N:=(aP q [W,W,p,W,p,p,W,p,p,W,W,p,W,p,p])) (by kernel_rfl) (fun X Z g=>?_) (fun n=>n0.ok Y a (jJ.t Y a n)) n X Z (aQ m (aQ v (aQ D (bJ G (bJ H (bJ P (bJ Iv (g))))))))
 obtain⟨b,c,d,m,g⟩:=bT g
 obtain⟨e,B,f,v,g⟩:=bT g
 obtain⟨h,i,j,D,g⟩:=bT g
 obtain⟨l,G,g⟩:=bC g
 obtain⟨aA,H,g⟩:=bC g
 obtain⟨aL,P,g⟩:=bC g
 obtain⟨aR,Iv,g⟩:=bC g
 exact g
theorem h0.ok(Y:J)(a:R→Nat→Nat→R→Nat→Nat→R→Nat→Nat→Int→V→Prop)(X:Fr)(Z:V)(g:jJ.g (fun b c d e B f h i j l aA aL aR Z=>∃ n,jJ.t Y a n b c d e B f h i j l aA aL aR Z) X Z):den prog E (aP q [W,W,p,W,p,p,W,p,p,W,W,p,W]) (aM.then (dX.g Y a) (aM.inBlock 1 (aM.then (cW.g Y a) (aM.then (a8.g a) (aM.inBlock 0 (aM.then (aD.g Y) (aX E [.tmp 4] Y))))))) X Z:=
 eN (by kernel_rfl) (jJ.ok Y a X Z g)
def fJ.t(Y:J)(a:R→Nat→Nat→R→Nat→Nat→R→Nat→Nat→Int→V→Prop)(b:R)(c d:Nat)(e:R)(B f:Nat)(g:R)(h i:Nat)(j aA aL:Int)(Z:V):Prop:=
 (∃ n,jJ.t Y a n b c d e B f g h i j aA aL 0 Z)
def fJ.g(Y:J)(a:R→Nat→Nat→R→Nat→Nat→R→Nat→Nat→Int→V→Prop)(X:Fr)(Z:V):Prop:=aE (X 0) fun b c d=>aE (X 1) fun e B f=>aE (X 5) fun h i j=>aC .i64 (X 6) fun l=>aC .u64 (X 7) fun aA=>aC .u64 (X 8) fun aL=>fJ.t Y a b c d e B f h i j l aA aL Z
theorem fJ.ok(Y:J)(a:R→Nat→Nat→R→Nat→Nat→R→Nat→Nat→Int→V→Prop)(X:Fr)(Z:V)(g:fJ.g Y a X Z):den prog E (aP q [W,W,p,W,p,p,W,p,p,W,W,p]) (aM.then (dX.g Y a) (aM.inBlock 1 (aM.then (cW.g Y a) (aM.then (a8.g a) (aM.inBlock 0 (aM.then (aD.g Y) (aX E [.tmp 4] Y))))))) X Z:=
 a0 g fun b c d e g=>a0 g fun f B h i g=>a0 g fun j l m n g=>aW g fun t v g=>aW g fun aA D g=>aW g fun aL G g=>cN 1 (C:=(aP q [W,W,p,W,p,p,W,p,p,W,W,p,W])) (by kernel_rfl) (h0.ok Y a) (bH [(0,.slice b c d),(1,.slice f B h),(5,.slice j l m),(6,.int .i64 t),(7,.int .u64 aA),(8,.int .u64 aL)] ⟨e,i,n,v,D,G,trivial⟩ (by kernel_rfl) g)
theorem sZ.ok(Y:J)(a:R→Nat→Nat→R→Nat→Nat→R→Nat→Nat→Int→V→Prop)(X:Fr)(Z:V)(g:fJ.g Y a X Z):den prog E (aP q [W,W,p,W,p,p,W,p,p,W,W]) (aM.inBlock 1 (aM.then (cW.g Y a) (aM.then (a8.g a) (aM.inBlock 0 (aM.then (aD.g Y) (aX E [.tmp 4] Y)))))) X Z:=
 e8 (by kernel_rfl) (dX.ok Y a) (fJ.ok Y a X Z g)
def dP.t(Y:J)(a:R→Nat→Nat→R→Nat→Nat→R→Nat→Nat→Int→V→Prop)(b:R)(c d:Nat)(e:R)(B f:Nat)(g:R)(h i:Nat)(j:Int)(Z:V):Prop:=
 cC b c j 1 fun l=>
 c5 Z .u32 l fun l=>
 aN (IntKind.u64.wrap l) fun l=>
 fJ.t Y a b c d e B f g h i j 0 l Z
def dP.g(Y:J)(a:R→Nat→Nat→R→Nat→Nat→R→Nat→Nat→Int→V→Prop)(X:Fr)(Z:V):Prop:=aE (X 0) fun b c d=>aE (X 1) fun e B f=>aE (X 5) fun h i j=>aC .i64 (X 6) fun l=>dP.t Y a b c d e B f h i j l Z
theorem dP.ok(Y:J)(a:R→Nat→Nat→R→Nat→Nat→R→Nat→Nat→Int→V→Prop)(X:Fr)(Z:V)(g:dP.g Y a X Z):den prog E (aP q [W,W,p,W,p,p,W,p,p]) (aM.inBlock 1 (aM.then (cW.g Y a) (aM.then (a8.g a) (aM.inBlock 0 (aM.then (aD.g Y) (aX E [.tmp 4] Y)))))) X Z:=
 a0 g fun b c d e g=>a0 g fun f B h i g=>a0 g fun j l m n g=>aW g fun t v g=>cN 2 (C:=(aP q [W,W,p,W,p,p,W,p,p,W,W])) (by kernel_rfl) (sZ.ok Y a) (bH [(0,.slice b c d),(1,.slice f B h),(5,.slice j l m),(6,.int .i64 t)] ⟨e,i,n,v,trivial⟩ (by kernel_rfl) g)
theorem eR.ok(Y:J)(a:R→Nat→Nat→R→Nat→Nat→R→Nat→Nat→Int→V→Prop)(X:Fr)(Z:V)(g:dP.g Y a X Z):den prog E (aP q [W,W,p,W,p,p,W,p]) (aM.then (cW.g Y a) (aM.then (a8.g a) (aM.inBlock 0 (aM.then (aD.g Y) (aX E [.tmp 4] Y))))) X Z:=
 eN (by kernel_rfl) (dP.ok Y a X Z g)
theorem s0.ok(Y:J)(a:R→Nat→Nat→R→Nat→Nat→R→Nat→Nat→Int→V→Prop)(X:Fr)(Z:V)(g:dP.g Y a X Z):den prog E (aP q [W,W,p,W,p,p,W]) (aM.then (a8.g a) (aM.inBlock 0 (aM.then (aD.g Y) (aX E [.tmp 4] Y)))) X Z:=
 e8 (by kernel_rfl) (cW.ok Y a) (eR.ok Y a X Z g)
def bS.t(Y:J)(a:R→Nat→Nat→R→Nat→Nat→R→Nat→Nat→Int→V→Prop)(b:R)(c d:Nat)(e:R)(B f:Nat)(g:R)(h i:Nat)(j:Int)(Z:V):Prop:=
 cond (decide (j < (((c:Nat):Int)))) (dP.t Y a b c d e B f g h i j Z) (aD.t Y g h i Z)
def bS.g(Y:J)(a:R→Nat→Nat→R→Nat→Nat→R→Nat→Nat→Int→V→Prop)(X:Fr)(Z:V):Prop:=aE (X 0) fun b c d=>aE (X 1) fun e B f=>aE (X 5) fun h i j=>aC .i64 (X 6) fun l=>bS.t Y a b c d e B f h i j l Z
theorem bS.ok(Y:J)(a:R→Nat→Nat→R→Nat→Nat→R→Nat→Nat→Int→V→Prop)(X:Fr)(Z:V)(g:bS.g Y a X Z):den prog E (aP q [W,W,p,W,p,p]) (aM.then (a8.g a) (aM.inBlock 0 (aM.then (aD.g Y) (aX E [.tmp 4] Y)))) X Z:=
 a0 g fun b c d e g=>a0 g fun f B h i g=>a0 g fun j l m n g=>aW g fun t v g=>cN 1 (C:=(aP q [W,W,p,W,p,p,W])) (by kernel_rfl) (s0.ok Y a) (bH [(0,.slice b c d),(1,.slice f B h),(5,.slice j l m),(6,.int .i64 t)] ⟨e,i,n,v,trivial⟩ (by kernel_rfl) g)
def a8.t(Y:J):Nat→R→Nat→Nat→R→Nat→Nat→R→Nat→Nat→Int→V→Prop
 | 0=>fun _ _ _ _ _ _ _ _ _ _ _=>False
 | n+1=>fun a b c d B e f g h i Z=>bS.t Y (a8.t Y n) a b c d B e f g h i Z
theorem a8.ok(Y:J)(X:Fr)(Z:V)(g:a8.g (fun a b c d B e f h i j Z=>∃ n,a8.t Y n a b c d B e f h i j Z) X Z):den prog E (aP q [W,W,p,W,p]) (aM.inBlock 0 (aM.then (aD.g Y) (aX E [.tmp 4] Y))) X Z:=by
 obtain⟨a,b,c,l,g⟩:=bT g
 obtain⟨d,B,e,m,g⟩:=bT g
 obtain⟨f,h,i,v,g⟩:=bT g
 obtain⟨j,D,g⟩:=bC g
 obtain⟨n,g⟩:=g
 refine eZ (fun n=>a8.g (a8.t Y n)) (N:=(aP q [W,W,p,W,p,p])) (by kernel_rfl) (fun X Z g=>?_) (fun n=>bS.ok Y (a8.t Y n)) n X Z (aQ l (aQ m (aQ v (bJ D (g)))))
 obtain⟨a,b,c,l,g⟩:=bT g
 obtain⟨d,B,e,m,g⟩:=bT g
 obtain⟨f,h,i,v,g⟩:=bT g
 obtain⟨j,D,g⟩:=bC g
 exact g
theorem kI.ok(Y:J)(X:Fr)(Z:V)(g:a8.g (fun a b c d B e f h i j Z=>∃ n,a8.t Y n a b c d B e f h i j Z) X Z):den prog E (aP q [W,W,p,W]) (aM.then (aD.g Y) (aX E [.tmp 4] Y)) X Z:=
 eN (by kernel_rfl) (a8.ok Y X Z g)
def a4.t(Y:J)(a:R)(b c:Nat)(d:R)(B e:Nat)(f:R)(g h:Nat)(Z:V):Prop:=
 (∃ n,a8.t Y n a b c d B e f g h 0 Z)
def a4.g(Y:J)(X:Fr)(Z:V):Prop:=aE (X 0) fun a b c=>aE (X 1) fun d B e=>aE (X 5) fun f h i=>a4.t Y a b c d B e f h i Z
theorem a4.ok(Y:J)(X:Fr)(Z:V)(g:a4.g Y X Z):den prog E (aP q [W,W,p]) (aM.then (aD.g Y) (aX E [.tmp 4] Y)) X Z:=
 a0 g fun a b c d g=>a0 g fun e B f h g=>a0 g fun i j l m g=>cN 1 (C:=(aP q [W,W,p,W])) (by kernel_rfl) (kI.ok Y) (bH [(0,.slice a b c),(1,.slice e B f),(5,.slice i j l)] ⟨d,h,m,trivial⟩ (by kernel_rfl) g)
theorem Im.ok(Y:J)(X:Fr)(Z:V)(g:a4.g Y X Z):den prog E (aP q [W,W]) (aX E [.tmp 4] Y) X Z:=
 e8 (by kernel_rfl) (aD.ok Y) (a4.ok Y X Z g)
def u.t(Y:J)(a:R)(b c:Nat)(d:R)(B e:Nat)(Z:V):Prop:=
 aN (IntKind.i64.wrap ((((b:Nat):Int))+(((B:Nat):Int)))) fun dF=>
 g1 Z 78 gP dF dF fun f g=>
 a4.t Y a b c d B e (some f) dF.toNat dF.toNat g
def u.g(Y:J)(X:Fr)(Z:V):Prop:=aE (X 0) fun a b c=>aE (X 1) fun d B e=>u.t Y a b c d B e Z
theorem u.ok(Y:J)(X:Fr)(Z:V)(g:u.g Y X Z):den prog E q (aX E [.tmp 4] Y) X Z:=
 a0 g fun a b c d g=>a0 g fun e B f h g=>cN 2 (C:=(aP q [W,W])) (by kernel_rfl) (Im.ok Y) (bH [(0,.slice a b c),(1,.slice e B f)] ⟨d,h,trivial⟩ (by kernel_rfl) g)
def t(a:R)(b c:Nat)(d:R)(B e:Nat)(Z:V)(Y:J):Prop:=u.t Y a b c d B e Z
theorem ok{a:R}{b:Nat}{d:Nat}{e:R}{B:Nat}{f:Nat}{Z:V}{Y:J}(g:t a b d e B f Z Y):aG id #[.slice a b d,.slice e B f] Z Y:=
 c9 dA (c:=q) (c3:=[.tmp 4]) Try.func49 (by kernel_rfl) (by kernel_rfl) (by kernel_rfl) (args:=[.slice a b d,.slice e B f]) (by kernel_rfl) (u.ok Y _ Z (aQ rfl (aQ rfl (g))))
end gX
end Go.Proofs.Ytelmicicapbgeaa.G
