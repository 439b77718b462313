import Derived.Test.YtllhckjfhefcdaaGreatDoorKB
import Derived.Test.YtllhckjfhefcdaaGreatDoorKC0
import Derived.Test.YtllhckjfhefcdaaGreatDoorKC1
import Derived.Test.YtllhckjfhefcdaaGreatDoorKC2
import Derived.Test.YtllhckjfhefcdaaGreatDoorKC3
namespace Go.Proofs.YtllhckjfhefcdaaGreatDoor.G
open Go.Gv
set_option linter.unusedVariables false
set_option maxRecDepth 100000
theorem zB(aN:Int):IntKind.u64.wrap aN=(((IntKind.u64.wrap aN).toNat:Nat):Int):=by
 have a:=pB.mp (iS .u64 aN);omega
theorem zC(aN:Int):(IntKind.u64.wrap aN).toNat < 18446744073709551616:=by
 have a:=pB.mp (iS .u64 aN);omega
abbrev oZ(aB:V):K:=fun v A=>a4 aB A∧v=.bool true
theorem zD{Z:V}{N l:Nat}{T k6:List Nat}(q:eM Z N (T ++ k6)){Q:Int}{C:Nat}(bE:Q=(C:Int))(b:T.length=l)(c:C < l){I:Int}{v:Nat}(d:I=(v:Int))(aU:v < 18446744073709551616){p:V→Prop}
  (g:eM (fY Z ⟨N,C,none⟩ (g2 v)) N (T.set C v ++ k6)→a1 N Z (fY Z ⟨N,C,none⟩ (g2 v))→p (fY Z ⟨N,C,none⟩ (g2 v))):cL (some ⟨N,0,none⟩) l Q 1 fun o=>aW Z o (.int .u64 I) p:=by
 subst bE;subst d;subst b
 have a:=q.set C aU
 rw [List.set_append_left _ _ c] at a
 refine⟨⟨by omega,by omega⟩,?_⟩
 show aW Z ((⟨N,0,none⟩:Addr).add ((C:Int).toNat*1)) _ _
 rw [show(C:Int).toNat*1=C by omega,w]
 exact⟨⟨⟨_,q.cell (by rw [List.length_append];omega)⟩,q.frozen C⟩,g a (a1.set _ _ _ _)⟩
theorem uA{c5 bE:Nat}{Z:V}{O:fU}{T:List Nat}(q:e8 c5 bE Z O T)(f:T.length≤17592186044336){c4:V}(c:c4.size≤c5):O.2.1≤O.2.2∧O.2.1≤17592186044336∧((O.1=none∧O.2.2=0)∨∃ N aK,O.1=some ⟨N,0,none⟩∧c4.size≤N∧dI dQ Z N aK∧O.2.2≤aK.length):=by
 obtain⟨g,h,i,d⟩:=q
 refine⟨by omega,by omega,?_⟩
 rcases d with ⟨_,a,b⟩ | ⟨N,rest,a,b,_,q,e⟩
 ·exact Or.inl ⟨a,b⟩
 ·exact Or.inr ⟨N,_,a,Nat.le_trans c b,q,e⟩
def j4(M:Int)(I aN:fJ)(n:Int):fJ × Int:=iA.v M I.1 I.2 aN.1 aN.2 n
theorem wW(Q:Int):(fP Q).1.2.length≤8192:=by
 unfold fP;split
 ·assumption
 ·exact Nat.zero_le _
theorem Jl{L:Prop}[Decidable L]{z o:fJ × Int}(a:z.1.2.length≤8192)(b:o.1.2.length≤8192):(if L then z else o).1.2.length≤8192:=by
 split <;> assumption
theorem A6(M:Int)(I aN:fJ){n:Int}(a:In .i64 n):(j4 M I aN n).1.2.length≤8192:=by
 have aB:(l1:fJ).2.length≤8192:=Nat.zero_le _
 have a0:(fE n).2.length≤8192:=by
  have:=mF.mp a
  exact AV (Q:=n) (by omega)
 have b:∀ a9 I aN,(gR a9 I aN).1.2.length≤8192:=fun a9 I aN=>by unfold gR;split;exact wW _;exact aB
 have c:∀ a9 I aN,(hM a9 I aN).1.2.length≤8192:=fun a9 I aN=>by
  unfold hM;split
  ·split;exact aB;exact wW _
  ·exact aB
 have d:∀ I n,(qK I n).1.2.length≤8192:=fun I n=>by
  unfold qK;split
  ·exact aB
  ·split;exact wW _;exact aB
 have e:∀ a9 I n,(iM a9 I n).1.2.length≤8192:=fun a9 I n=>by
  unfold iM;split
  ·exact aB
  ·split;exact wW _;exact aB
 have f:∀ I,(oJ I).1.2.length≤8192:=fun I=>by unfold oJ;split;exact wW _;exact aB
 unfold j4 iA.v iA.F.v
 simp only [bY,iA.aC.v,cond_eq_ite,DR]
 repeat' first | exact b _ _ _ | exact c _ _ _ | exact d _ _ | exact e _ _ _ | exact f _ | exact a0 | exact aB | refine Jl ?_ ?_
abbrev lS(M:Int)(z:Bool)(a:U)(l L:Nat)(o:Bool)(N:U)(m bH:Nat)(n:Int):List Value:=[.int .i64 M,.bool z,.slice a l L,.bool o,.slice N m bH,.int .i64 n]
def A7(a9:FuncId):Prop:=∀ {Z:V} {M n:Int} {z o:Bool} {a N:U} {L bH l m:Nat} {T u:List Nat},In .i64 M→bJ Z a L T→l=T.length→bJ Z N bH u→m=u.length→In .i64 n→gK Z→
 aF a9 #[.agg #[.int .i64 M,.bool z,.slice a l L,.bool o,.slice N m bH,.int .i64 n]] Z fun v A=>a4 Z A∧s2 dZ (c3 .i64) Z A v (j4 M (z,T) (o,u) n)
theorem wX:A7 iA.id:=fun Q s J O a9 C dX=>iA.aU Q s J O a9 C dX
theorem A8:A7 oW.id:=by
 intro Z M n z o a N L bH l m T u Q s J O a9 C dX
 have:=oW.aU (eB:=z) (e9:=o) Q s J O a9 C
 rw [I4] at this;exact this
theorem rO{Z:V}{N:Nat}{bW:List Value}(q:cR Z N bW){M:Nat}{I:Bool}(a:bW[M]?=some (.bool I)){p:Bool→Prop}(g:p I):e7 Z ((⟨N,0,none⟩:Addr).add M) fun v=>b9 v p:=x2 q a (aO rfl g)
theorem l4{Z:V}{N:Nat}{bW:List Value}(q:cR Z N bW)(c:bW.length=2){a b:Value}{p:V→Prop}(g:∀ A,cR A N [a,b]→a1 N Z A→p A):
  aW Z ((⟨N,0,none⟩:Addr).add 0) a fun a0=>aW a0 ((⟨N,0,none⟩:Addr).add 1) b p:=by
 match bW,c with
 | [S,j],_=>
  refine kJ q (Nat.le_of_ble_eq_true rfl) fun a0 d e=>?_
  refine kJ d (Nat.le_of_ble_eq_true rfl) fun f h i=>?_
  exact g f h (e.trans i)
theorem sW{Z:V}{N:Nat}{bW:List Value}(q:cR Z N bW)(m:bW.length=6){a b c d e f:Value}{p:V→Prop}(g:∀ A,cR A N [a,b,c,d,e,f]→a1 N Z A→p A):
  aW Z ((⟨N,0,none⟩:Addr).add 0) a fun a0=>aW a0 ((⟨N,0,none⟩:Addr).add 1) b fun h=>aW h ((⟨N,0,none⟩:Addr).add 2) c fun i=>aW i ((⟨N,0,none⟩:Addr).add 3) d fun j=>aW j ((⟨N,0,none⟩:Addr).add 4) e fun l=>aW l ((⟨N,0,none⟩:Addr).add 5) f p:=by
 match bW,m with
 | [S,La,Lb,Lc,Ld,Le],_=>
  refine kJ q (Nat.le_of_ble_eq_true rfl) fun a0 n t=>?_
  refine kJ n (Nat.le_of_ble_eq_true rfl) fun h v D=>?_
  refine kJ v (Nat.le_of_ble_eq_true rfl) fun i E G=>?_
  refine kJ E (Nat.le_of_ble_eq_true rfl) fun j H P=>?_
  refine kJ H (Nat.le_of_ble_eq_true rfl) fun l K5 K6=>?_
  refine kJ K5 (Nat.le_of_ble_eq_true rfl) fun K7 K8 K9=>?_
  exact g K7 K8 (t.trans (D.trans (G.trans (P.trans (K6.trans K9)))))
theorem kU{Z:V}{b7:Nat}{M n:Int}{z o:Bool}{a N:U}{L bH l m:Nat}(q:cR Z b7 (lS M z a l L o N m bH n)){p:Int→Bool→U→Nat→Nat→Bool→U→Nat→Nat→Int→Prop}(g:p M z a l L o N m bH n):
  e7 Z ((⟨b7,0,none⟩:Addr).add 0) fun b=>aV .i64 b fun c=>e7 Z ((⟨b7,0,none⟩:Addr).add 1) fun d=>b9 d fun e=>e7 Z ((⟨b7,0,none⟩:Addr).add 2) fun f=>aG f fun h i j=>e7 Z ((⟨b7,0,none⟩:Addr).add 3) fun t=>b9 t fun v=>e7 Z ((⟨b7,0,none⟩:Addr).add 4) fun D=>aG D fun E G H=>e7 Z ((⟨b7,0,none⟩:Addr).add 5) fun P=>aV .i64 P fun K5=>p c e h i j v E G H K5:=
 lY q rfl (rO q rfl (qD q rfl (rO q rfl (qD q rfl (lY q rfl g)))))
structure h5(c5 bE:Nat)(Z:V)(aX:Nat)(z:fJ):Prop where
 x5:∃ a L,cR Z aX [.bool z.1,.slice a z.2.length L]∧e8 c5 bE Z (a,z.2.length,L) z.2
 K2:c5≤aX
 K3:aX < bE
theorem h5.B{c5 bE aX:Nat}{Z A:V}{z:fJ}(b3:h5 c5 bE Z aX z)(M:a4 Z A):h5 c5 bE A aX z:=by
 obtain⟨⟨a,L,q,aA⟩,b,c⟩:=b3
 exact⟨⟨a,L,q.B M,aA.B M⟩,b,c⟩
theorem h5.bT{c5 bE aX o:Nat}{Z A:V}{z:fJ}(b3:h5 c5 bE Z aX z)(b:o < c5∨bE≤o)(M:a1 o Z A):h5 c5 bE A aX z:=by
 obtain⟨⟨a,L,q,aA⟩,c,d⟩:=b3
 exact⟨⟨a,L,q.bT (by omega) M,aA.bT b M⟩,c,d⟩
section
variable {Z a0:V} {c5 bE x3 hI aX g8 b7:Nat} {z Af:fJ}
theorem h5.Ea(b3:h5 c5 bE Z aX z){p:Bool→U→Nat→Nat→Prop}(g:∀ a L,e8 c5 bE Z (a,z.2.length,L) z.2→p z.1 a z.2.length L):
  e7 Z ((⟨aX,0,none⟩:Addr).add 0) fun v=>b9 v fun N=>e7 Z ((⟨aX,0,none⟩:Addr).add 1) fun v=>aG v fun a l L=>p N a l L:=by
 obtain⟨⟨a,L,q,aA⟩,_,_⟩:=b3
 exact rO q rfl (qD q rfl (g a L aA))
theorem h5.wY(b3:h5 c5 bE Z aX z){p:U→Nat→Nat→Prop}(g:∀ a L,e8 c5 bE Z (a,z.2.length,L) z.2→p a z.2.length L):
  e7 Z ((⟨aX,0,none⟩:Addr).add 1) fun v=>aG v fun a l L=>p a l L:=by
 obtain⟨⟨a,L,q,aA⟩,_,_⟩:=b3
 exact qD q rfl (g a L aA)
theorem A9{a N:U}{L bH l m:Nat}(s:bJ Z a L z.2)(b:l=z.2.length)(O:bJ Z N bH z.2)(c:m=z.2.length){aL p:V→Prop}(g:∀ A,a4 Z A→p A):
  aF iN.id #[.agg #[.bool z.1,.slice a l L],.agg #[.bool z.1,.slice N m bH]] Z fun v A=>b9 v fun N=>cond (!N) (aL A) (p A):=
 bF (iN.aY s b O c) fun v A ⟨M,J⟩=>by
  have J:v=.bool (decide (z=z)):=J
  rw [decide_eq_true rfl] at J
  subst J
  exact aO rfl (h9 (fun d=>absurd d (by simp)) fun _=>g A M)
theorem qQ(I:h5 c5 bE Z aX z)(aN:h5 x3 hI Z g8 z){aL p:V→Prop}(g:∀ A,a4 Z A→p A):
  e7 Z ((⟨aX,0,none⟩:Addr).add 0) fun b=>b9 b fun c=>e7 Z ((⟨aX,0,none⟩:Addr).add 1) fun d=>aG d fun e f h=>e7 Z ((⟨g8,0,none⟩:Addr).add 0) fun i=>b9 i fun j=>e7 Z ((⟨g8,0,none⟩:Addr).add 1) fun l=>aG l fun m n t=>
   aF iN.id #[.agg #[.bool c,.slice e f h],.agg #[.bool j,.slice m n t]] Z fun v A=>b9 v fun N=>cond (!N) (aL A) (p A):=
 I.Ea fun a L aA=>aN.Ea fun N bH dU=>A9 aA.rd rfl dU.rd rfl g
theorem Eb{v:Value}{z:fJ × Int}(O:s2 dZ (c3 .i64) Z a0 v z){p:Bool→U→Nat→Nat→Int→Prop}(g:∀ a L,e8 Z.size a0.size a0 (a,z.1.2.length,L) z.1.2→p z.1.1 a z.1.2.length L z.2):
  c0 v fun b=>bR b fun c d=>bU c fun e=>bR e fun f h=>b9 f fun i=>bR h fun j m=>aG j fun a l L=>bC m <| bR d fun n t=>aV .i64 n fun I=>bC t (p i a l L I):=by
 obtain⟨_,_,rfl,⟨a,L,rfl,s⟩,⟨rfl,Q⟩⟩:=O
 exact dP rfl (aM (bZ rfl (aM (aO rfl (aM (k rfl (bP (aM (bI rfl (bP (g a L (e8.tO s rfl (Nat.le_refl _) (Nat.le_refl _)))))))))))))
theorem uB{a9:FuncId}(dJ:A7 a9){M n:Int}{I aN:fJ}{a N:U}{L bH l m:Nat}(q:cR Z b7 (lS M I.1 a l L aN.1 N m bH n))(i:In .i64 M)(s:bJ Z a L I.2)(j:l=I.2.length)(O:bJ Z N bH aN.2)(D:m=aN.2.length)(E:In .i64 n)(dX:gK Z){t:TypeId}{aK:List Value}(G:aK.length=2){p:Addr→Int→V→Prop}
  (g:∀ aX A,a4 Z A→h5 Z.size A.size A aX (j4 M I aN n).1→p ⟨aX,0,none⟩ (j4 M I aN n).2 A) :
  e7 Z ((⟨b7,0,none⟩:Addr).add 0) fun H=>aV .i64 H fun P=>e7 Z ((⟨b7,0,none⟩:Addr).add 1) fun K5=>b9 K5 fun K6=>e7 Z ((⟨b7,0,none⟩:Addr).add 2) fun K7=>aG K7 fun K8 K9 La=>e7 Z ((⟨b7,0,none⟩:Addr).add 3) fun Lb=>b9 Lb fun Lc=>e7 Z ((⟨b7,0,none⟩:Addr).add 4) fun Ld=>aG Ld fun Le Lf Lg=>e7 Z ((⟨b7,0,none⟩:Addr).add 5) fun Lh=>aV .i64 Lh fun Li=>
   aF a9 #[.agg #[.int .i64 P,.bool K6,.slice K8 K9 La,.bool Lc,.slice Le Lf Lg,.int .i64 Li]] Z fun v a0=>
   c0 v fun Lj=>bR Lj fun Lk Ll=>bU Lk fun Lm=>bR Lm fun Ln Lo=>b9 Ln fun Lp=>bR Lo fun Lq Lr=>aG Lq fun a l L=>bC Lr <| bR Ll fun Ls Lt=>aV .i64 Ls fun I=>bC Lt <|
   b4 a0 t aK fun o d=>aW d (o.add 0) (.bool Lp) fun Lu=>aW Lu (o.add 1) (.slice a l L) fun b=>p o I b:=by
 refine kU q (bF (dJ i s j O D E dX) fun v a0 ⟨e,Lv⟩=>Eb Lv fun Lw cW aA=>?_)
 refine cK fun d f Lx=>l4 f G fun b Ly h=>?_
 have c:=h.B Lx (Nat.le_refl _)
 exact g a0.size b (e.trans c) ⟨⟨Lw,cW,Ly,(aA.B c).wide (Nat.le_refl _) c.le⟩,e.le,Nat.lt_of_lt_of_le f.lt h.le⟩
theorem qR{N:Bool}{a:U}{L l:Nat}{T:List Nat}(s:bJ Z a L T)(c:l=T.length){p:Bool→U→Nat→Nat→V→Prop}(g:∀ b cW A,a4 Z A→e8 Z.size A.size A (b,T.length,cW) T→p N b T.length cW A):
  aF hC.id #[.agg #[.bool N,.slice a l L]] Z fun v A=>bU v fun aN=>bR aN fun d g4=>b9 d fun fF=>bR g4 fun e f=>aG e fun h y i=>bC f (p fF h y i A):=
 bF (hC.aY (z:=N) s c) fun v A ⟨M,b,cW,J,aA⟩=>by
  subst J
  exact bZ rfl (aM (aO rfl (aM (k rfl (bP (g b cW A M (e8.tO aA rfl (Nat.le_refl _) (Nat.le_refl _))))))))
theorem zE{M n:Int}{I aN:fJ}{a N:U}{L bH l m:Nat}(b:In .i64 M)(s:bJ Z a L I.2)(c:l=I.2.length)(O:bJ Z N bH aN.2)(d:m=aN.2.length)(e:In .i64 n)(dX:gK Z){p:Bool→U→Nat→Nat→Int→V→Prop}
  (g:∀ f cW A,a4 Z A→e8 Z.size A.size A (f,(j4 M I aN n).1.2.length,cW) (j4 M I aN n).1.2→p (j4 M I aN n).1.1 f (j4 M I aN n).1.2.length cW (j4 M I aN n).2 A) :
  aF iA.id #[.agg #[.int .i64 M,.bool I.1,.slice a l L,.bool aN.1,.slice N m bH,.int .i64 n]] Z fun v a0=>
   c0 v fun h=>bR h fun h i=>bU h fun h=>bR h fun h j=>b9 h fun h=>bR j fun j t=>aG j fun a l L=>bC t <| bR i fun i j=>aV .i64 i fun I=>bC j (p h a l L I a0):=
 bF (wX b s c O d e dX) fun v a0 ⟨b,c⟩=>Eb c fun f cW aA=>g f cW a0 b aA
end
theorem Jm{M n:Int}{I aN:fJ}{a N:U}{L bH:Nat}{P:Nat}{Z:V}(q:cR Z P (lS M I.1 a I.2.length L aN.1 N aN.2.length bH n))(G:In .i64 M)(s:bJ Z a L I.2)(O:bJ Z N bH aN.2)(H:In .i64 n)(dX:gK Z){t:TypeId}{aK:List Value}(K5:aK.length=2){bN:Addr→V→Prop}
  (g:∀ aX A,a4 Z A→h5 Z.size A.size A aX (j4 M I aN n).1→bN ⟨aX,0,none⟩ A) :
 ((⟨P,0,none⟩:Addr).add 0).block < Z.size∧e7 Z ((⟨P,0,none⟩:Addr).add 0) fun LR=>
 aV .i64 LR fun K6=>
 ((⟨P,0,none⟩:Addr).add 1).block < Z.size∧e7 Z (((⟨P,0,none⟩:Addr).add 1).add 0) fun LS=>
 b9 LS fun Lz=>
 e7 Z (((⟨P,0,none⟩:Addr).add 1).add 1) fun LU=>
 aG LU fun LA LB LC=>
 ((⟨P,0,none⟩:Addr).add 3).block < Z.size∧e7 Z (((⟨P,0,none⟩:Addr).add 3).add 0) fun LV=>
 b9 LV fun Lc=>
 e7 Z (((⟨P,0,none⟩:Addr).add 3).add 1) fun LW=>
 aG LW fun Ld Le Lf=>
 ((⟨P,0,none⟩:Addr).add 5).block < Z.size∧e7 Z ((⟨P,0,none⟩:Addr).add 5) fun LX=>
 aV .i64 LX fun K7=>
 (aF hC.id #[.agg #[.bool Lz,.slice LA LB LC]] Z fun LY m=>
 bU LY fun LZ=>
 bR LZ fun L0 L1=>
 b9 L0 fun Lg=>
 bR L1 fun L2 L3=>
 aG L2 fun Lh Li Lj=>
 bC L3 <| (cG Z.size Z m)∧(aF hC.id #[.agg #[.bool Lc,.slice Ld Le Lf]] m fun L4 v=>
 bU L4 fun L5=>
 bR L5 fun L6 L7=>
 b9 L6 fun LD=>
 bR L7 fun L8 L9=>
 aG L8 fun LF LG LH=>
 bC L9 <| (cG Z.size m v)∧(aF iA.id #[.agg #[.int .i64 K6,.bool Lg,.slice Lh Li Lj,.bool LD,.slice LF LG LH,.int .i64 K7]] v fun Ma Lk=>
 c0 Ma fun Mb=>
 bR Mb fun Mc Md=>
 bU Mc fun Me=>
 bR Me fun Mf Mg=>
 b9 Mf fun Mh=>
 bR Mg fun Mi Mj=>
 aG Mi fun Mk Ml Mm=>
 bC Mj <| bR Md fun Mn Mo=>
 aV .i64 Mn fun NR=>
 bC Mo <| (cG Z.size v Lk)∧b4 Lk t aK fun Ll LI=>
 (cG Z.size Lk LI)∧aW LI (Ll.add 0) (.bool Mh) fun Mp=>
 aW Mp (Ll.add 1) (.slice Mk Ml Mm) fun Mq=>
 bN Ll Mq)∧(b4 v t aK fun Lm Ln=>
 (cG Z.size v Ln)∧aF iA.id #[.agg #[.int .i64 K6,.bool Lg,.slice Lh Li Lj,.bool LD,.slice LF LG LH,.int .i64 K7]] Ln fun Mr LJ=>
 c0 Mr fun Ms=>
 bR Ms fun Mt Mu=>
 bU Mt fun Mv=>
 bR Mv fun Mw Mx=>
 b9 Mw fun My=>
 bR Mx fun Mz MA=>
 aG Mz fun MB MC MD=>
 bC MA <| bR Mu fun ME MF=>
 aV .i64 ME fun NS=>
 bC MF <| (cG Z.size Ln LJ)∧aW LJ (Lm.add 0) (.bool My) fun MG=>
 aW MG (Lm.add 1) (.slice MB MC MD) fun MH=>
 bN Lm MH))∧(b4 m t aK fun Lo Lp=>
 (cG Z.size m Lp)∧aF hC.id #[.agg #[.bool Lc,.slice Ld Le Lf]] Lp fun MI Lq=>
 bU MI fun MJ=>
 bR MJ fun MK ML=>
 b9 MK fun MM=>
 bR ML fun MN MO=>
 aG MN fun MP MQ MR=>
 bC MO <| (cG Z.size Lp Lq)∧aF iA.id #[.agg #[.int .i64 K6,.bool Lg,.slice Lh Li Lj,.bool MM,.slice MP MQ MR,.int .i64 K7]] Lq fun MS LK=>
 c0 MS fun MT=>
 bR MT fun MU MV=>
 bU MU fun MW=>
 bR MW fun MX MY=>
 b9 MX fun MZ=>
 bR MY fun M0 M1=>
 aG M0 fun M2 M3 M4=>
 bC M1 <| bR MV fun M5 M6=>
 aV .i64 M5 fun NT=>
 bC M6 <| (cG Z.size Lq LK)∧aW LK (Lo.add 0) (.bool MZ) fun M7=>
 aW M7 (Lo.add 1) (.slice M2 M3 M4) fun M8=>
 bN Lo M8))∧(b4 Z t aK fun Lr Ls=>
 (cG Z.size Z Ls)∧aF hC.id #[.agg #[.bool Lz,.slice LA LB LC]] Ls fun M9 Lt=>
 bU M9 fun Na=>
 bR Na fun Nb Nc=>
 b9 Nb fun Nd=>
 bR Nc fun Nf Ng=>
 aG Nf fun Nh Ni Nj=>
 bC Ng <| (cG Z.size Ls Lt)∧aF hC.id #[.agg #[.bool Lc,.slice Ld Le Lf]] Lt fun Nk Lu=>
 bU Nk fun Nl=>
 bR Nl fun Nm Nn=>
 b9 Nm fun No=>
 bR Nn fun Np Nq=>
 aG Np fun Nr Ns Nt=>
 bC Nq <| (cG Z.size Lt Lu)∧aF iA.id #[.agg #[.int .i64 K6,.bool Nd,.slice Nh Ni Nj,.bool No,.slice Nr Ns Nt,.int .i64 K7]] Lu fun Nu LL=>
 c0 Nu fun Nv=>
 bR Nv fun Nw Nx=>
 bU Nw fun Ny=>
 bR Ny fun Nz NA=>
 b9 Nz fun NB=>
 bR NA fun NC ND=>
 aG NC fun NE NF NG=>
 bC ND <| bR Nx fun NH NI=>
 aV .i64 NH fun NU=>
 bC NI <| (cG Z.size Lu LL)∧aW LL (Lr.add 0) (.bool NB) fun NJ=>
 aW NJ (Lr.add 1) (.slice NE NF NG) fun NK=>
 bN Lr NK):=by
 have K8:∀ {j:V} {aX c5 bE:Nat} {bW:List Value} {K9:U} {cW:Nat},a4 Z j→Z.size≤aX→cR j aX bW→bW.length=2→Z.size≤c5→bE≤j.size→(aX < c5∨bE≤aX)→e8 c5 bE j (K9,(j4 M I aN n).1.2.length,cW) (j4 M I aN n).1.2→
   aW j ((⟨aX,0,none⟩:Addr).add 0) (.bool (j4 M I aN n).1.1) fun NL=>aW NL ((⟨aX,0,none⟩:Addr).add 1) (.slice K9 (j4 M I aN n).1.2.length cW) fun Lv=>bN ⟨aX,0,none⟩ Lv:=by
  intro j aX c5 bE bW K9 cW NM c4 LM aU a0 La D aA
  refine l4 LM aU fun Lv NN Lb=>?_
  exact g aX Lv (Lb.B NM c4) ⟨⟨K9,cW,NN,(aA.bT D Lb).wide a0 (Nat.le_trans La Lb.le)⟩,c4,Nat.lt_of_lt_of_le LM.lt Lb.le⟩
 refine⟨q.qC 0,lY q rfl ⟨q.qC 1,aI q (c9 _ _ _) rfl (aO rfl (aI q (c9 _ _ _) rfl (k rfl ⟨q.qC 3,aI q (c9 _ _ _) rfl (aO rfl (aI q (c9 _ _ _) rfl (k rfl ⟨q.qC 5,lY q rfl ⟨?_,?_⟩⟩)))⟩)))⟩⟩
 ·refine qR s rfl fun NO NP a0 h E=>⟨h.c1 (Nat.le_refl _),?_,?_⟩
  ·refine qR (O.B h) rfl fun LN bX La e l=>⟨e.c1 h.le,?_,?_⟩
   ·have c:=h.trans e
    refine zE G (E.B e).rd rfl l.rd rfl H (dX.B c) fun Lw Lx D b i=>⟨b.c1 c.le,?_⟩
    refine cK fun Ly NQ d=>⟨d.c1 (c.trans b).le,?_⟩
    exact K8 (c.trans (b.trans d)) (c.trans b).le NQ K5 c.le d.le (.inr (Nat.le_refl _)) (i.B d)
   ·have c:=h.trans e
    refine cK fun D LO b=>⟨b.c1 c.le,?_⟩
    have f:=c.trans b
    refine zE G (E.B (e.trans b)).rd rfl (l.B b).rd rfl H (dX.B f) fun Lw Lx Ly d i=>⟨d.c1 f.le,?_⟩
    exact K8 (f.trans d) c.le (LO.B d) K5 f.le (Nat.le_refl _) (.inl LO.lt) i
  ·refine cK fun La LP e=>⟨e.c1 h.le,?_⟩
   have c:=h.trans e
   refine qR (O.B c) rfl fun LN bX D b l=>⟨b.c1 c.le,?_⟩
   have f:=c.trans b
   refine zE G (E.B (e.trans b)).rd rfl l.rd rfl H (dX.B f) fun Lw Lx Ly d i=>⟨d.c1 f.le,?_⟩
   exact K8 (f.trans d) h.le (LP.B (b.trans d)) K5 f.le (Nat.le_refl _) (.inl (LP.B b).lt) i
 ·refine cK fun a0 LQ h=>⟨h.c1 (Nat.le_refl _),?_⟩
  refine qR (s.B h) rfl fun NO NP La e E=>⟨e.c1 h.le,?_⟩
  have c:=h.trans e
  refine qR (O.B c) rfl fun LN bX D b l=>⟨b.c1 c.le,?_⟩
  have f:=c.trans b
  refine zE G (E.B b).rd rfl l.rd rfl H (dX.B f) fun Lw Lx Ly d i=>⟨d.c1 f.le,?_⟩
  exact K8 (f.trans d) (Nat.le_refl _) (LQ.B (e.trans (b.trans d))) K5 f.le (Nat.le_refl _) (.inl (LQ.B (e.trans b)).lt) i
theorem Ec{M n:Int}{I aN:fJ}{a N:U}{L bH:Nat}{Z:V}(s:bJ Z a L I.2)(O:bJ Z N bH aN.2){t:TypeId}{aK:List Value}(P:aK.length=6){bN:Addr→V→Prop}
  (g:∀ b7 A h cW i j,a4 Z A→Z.size≤b7→cR A b7 (lS M I.1 h I.2.length cW aN.1 i aN.2.length j n)→e8 Z.size A.size A (h,I.2.length,cW) I.2→e8 Z.size A.size A (i,aN.2.length,j) aN.2→bN ⟨b7,0,none⟩ A) :
 (aF hC.id #[.agg #[.bool I.1,.slice a I.2.length L]] Z fun Ln D=>
 bU Ln fun Lo=>
 bR Lo fun Lp Lq=>
 b9 Lp fun Lc=>
 bR Lq fun Lr Ls=>
 aG Lr fun Ld Le Lf=>
 bC Ls <| (cG Z.size Z D)∧(aF hC.id #[.agg #[.bool aN.1,.slice N aN.2.length bH]] D fun Lt K5=>
 bU Lt fun Lu=>
 bR Lu fun Lv Lw=>
 b9 Lv fun Lx=>
 bR Lw fun Ly Lz=>
 aG Ly fun LA LB LC=>
 bC Lz <| (cG Z.size D K5)∧b4 K5 t aK fun l Lg=>
 (cG Z.size K5 Lg)∧aW Lg (l.add 0) (.int .i64 M) fun LD=>
 aW LD (l.add 1) (.bool Lc) fun LF=>
 aW LF (l.add 2) (.slice Ld Le Lf) fun LG=>
 aW LG (l.add 3) (.bool Lx) fun LH=>
 aW LH (l.add 4) (.slice LA LB LC) fun LI=>
 aW LI (l.add 5) (.int .i64 n) fun LJ=>
 bN l LJ)∧(b4 D t aK fun m K6=>
 (cG Z.size D K6)∧aF hC.id #[.agg #[.bool aN.1,.slice N aN.2.length bH]] K6 fun LK Lh=>
 bU LK fun LL=>
 bR LL fun LM LN=>
 b9 LM fun LO=>
 bR LN fun LP LQ=>
 aG LP fun LR LS LU=>
 bC LQ <| (cG Z.size K6 Lh)∧aW Lh (m.add 0) (.int .i64 M) fun LV=>
 aW LV (m.add 1) (.bool Lc) fun LW=>
 aW LW (m.add 2) (.slice Ld Le Lf) fun LX=>
 aW LX (m.add 3) (.bool LO) fun LY=>
 aW LY (m.add 4) (.slice LR LS LU) fun LZ=>
 aW LZ (m.add 5) (.int .i64 n) fun L0=>
 bN m L0))∧(b4 Z t aK fun v K7=>
 (cG Z.size Z K7)∧aF hC.id #[.agg #[.bool I.1,.slice a I.2.length L]] K7 fun L1 K8=>
 bU L1 fun L2=>
 bR L2 fun L3 L4=>
 b9 L3 fun L5=>
 bR L4 fun L6 L7=>
 aG L6 fun L8 L9 Ma=>
 bC L7 <| (cG Z.size K7 K8)∧aF hC.id #[.agg #[.bool aN.1,.slice N aN.2.length bH]] K8 fun Mb Li=>
 bU Mb fun Mc=>
 bR Mc fun Md Me=>
 b9 Md fun Mf=>
 bR Me fun Mg Mh=>
 aG Mg fun Mi Mj Mk=>
 bC Mh <| (cG Z.size K8 Li)∧aW Li (v.add 0) (.int .i64 M) fun Ml=>
 aW Ml (v.add 1) (.bool L5) fun Mm=>
 aW Mm (v.add 2) (.slice L8 L9 Ma) fun Mn=>
 aW Mn (v.add 3) (.bool Mf) fun Mo=>
 aW Mo (v.add 4) (.slice Mi Mj Mk) fun Mp=>
 aW Mp (v.add 5) (.int .i64 n) fun Mq=>
 bN v Mq):=by
 have K9:∀ {f:V} {aX y g0 b8 g1:Nat} {bW:List Value} {h i:U} {cW j:Nat},a4 Z f→Z.size≤aX→cR f aX bW→bW.length=6→Z.size≤y→g0≤f.size→(aX < y∨g0≤aX)→Z.size≤b8→g1≤f.size→(aX < b8∨g1≤aX)→e8 y g0 f (h,I.2.length,cW) I.2→e8 b8 g1 f (i,aN.2.length,j) aN.2→
   aW f ((⟨aX,0,none⟩:Addr).add 0) (.int .i64 M) fun Mr=>aW Mr ((⟨aX,0,none⟩:Addr).add 1) (.bool I.1) fun La=>aW La ((⟨aX,0,none⟩:Addr).add 2) (.slice h I.2.length cW) fun Ms=>aW Ms ((⟨aX,0,none⟩:Addr).add 3) (.bool aN.1) fun Mt=>aW Mt ((⟨aX,0,none⟩:Addr).add 4) (.slice i aN.2.length j) fun Mu=>aW Mu ((⟨aX,0,none⟩:Addr).add 5) (.int .i64 n) fun Mv=>bN ⟨aX,0,none⟩ Mv:=by
  intro f aX y g0 b8 g1 bW h i cW j Mw c4 Mx aU My Mz MA MB MC MD aA dU
  refine sW Mx aU fun La ME E=>?_
  exact g aX La h cW i j (E.B Mw c4) c4 ME ((aA.bT MA E).wide My (Nat.le_trans Mz E.le)) ((dU.bT MD E).wide MB (Nat.le_trans MC E.le))
 refine⟨?_,?_⟩
 ·refine qR s rfl fun MF MG a0 d H=>⟨d.c1 (Nat.le_refl _),?_,?_⟩
  ·refine qR (O.B d) rfl fun Lj bX Lk c G=>⟨c.c1 d.le,?_⟩
   have e:=d.trans c
   refine cK fun Ll MH b=>⟨b.c1 e.le,?_⟩
   exact K9 (e.trans b) e.le MH P (Nat.le_refl _) (c.trans b).le (.inr c.le) d.le b.le (.inr (Nat.le_refl _)) (H.B (c.trans b)) (G.B b)
  ·refine cK fun Lk Lm c=>⟨c.c1 d.le,?_⟩
   have e:=d.trans c
   refine qR (O.B e) rfl fun Lj bX Ll b G=>⟨b.c1 e.le,?_⟩
   exact K9 (e.trans b) d.le (Lm.B b) P (Nat.le_refl _) (c.trans b).le (.inr (Nat.le_refl _)) e.le (Nat.le_refl _) (.inl Lm.lt) (H.B (c.trans b)) G
 ·refine cK fun a0 Lb d=>⟨d.c1 (Nat.le_refl _),?_⟩
  refine qR (s.B d) rfl fun MF MG Lk c H=>⟨c.c1 d.le,?_⟩
  have e:=d.trans c
  refine qR (O.B e) rfl fun Lj bX Ll b G=>⟨b.c1 e.le,?_⟩
  exact K9 (e.trans b) (Nat.le_refl _) (Lb.B (c.trans b)) P d.le b.le (.inl Lb.lt) e.le (Nat.le_refl _) (.inl (Lb.B c).lt) (H.B b) G
theorem Jn{Y:K}{b:Addr}{c:Addr}{d:U}{e:Nat}{f:Nat}{G:Nat}{h:U}{i:Nat}{j:Nat}{l:Addr}{m:Addr}{v:Addr}{D:Addr}{E:Addr}{aX n:Nat}{k6:List Nat}{Z:V}(K7:n≤17592186043904)
  (g:∀ A fI,fI.length=n→eM A aX (fI ++ k6)→a1 aX Z A→gU.cA.t Y b c d e f h i j l m v D E A) :
  ∀ (M Q:Nat) (A:V) (fI:List Nat),Q+M=n→fI.length=n→eM A aX (fI ++ k6)→a1 aX Z A→gU.eT.t Y (M+1) b c d e f (some ⟨aX,0,none⟩) n G h i j l m v D E (Q:Int) A:=by
 intro M
 induction M with
 | zero=>
  intro Q A fI H a q b1
  unfold gU.eT.t gU.g7.t
  exact cD (fun aP=>absurd aP (by omega)) fun _=>g A fI a q b1
 | succ M P=>
  intro Q A fI H a q b1
  unfold gU.eT.t gU.g7.t
  refine cD (fun _=>?_) fun aP=>absurd (by omega) aP
  refine fG (eG.rd (L:=n) ⟨_,q⟩ (by omega)) (C:=Q) rfl a.symm (by omega) ?_
  refine⟨by decide,⟨⟨?_⟩⟩⟩
  refine zD q (C:=Q) rfl a (by omega) (zB _) (zC _) fun K5 K6=>?_
  refine cP ((Q+1:Nat):Int) (by omega) (by omega) (by omega) ?_
  exact P (Q+1) _ _ (by omega) (by simp [a]) K5 (b1.trans K6)
theorem Jo{Y:K}{b:Addr}{c:Addr}{K5:Nat}{d:U}{e:Nat}{f:Nat}{h:U}{i:Nat}{j:Nat}{l:U}{m:Nat}{v:Nat}{D:Addr}{E:Addr}{G:Addr}{H:Addr}{P:Addr}{aX n:Nat}{k6:List Nat}{Z:V}(La:n≤17592186043904)
  (g:∀ A fI,fI.length=n→eM A aX (fI ++ k6)→a1 aX Z A→gU.eL.t Y b c d e f h i j l m v D E G H P A) :
  ∀ (M Q:Nat) (A:V) (fI:List Nat),Q+M=n→fI.length=n→eM A aX (fI ++ k6)→a1 aX Z A→gU.l9.t Y (M+1) b c (some ⟨aX,0,none⟩) n K5 d e f h i j l m v D E G H P (Q:Int) A:=by
 intro M
 induction M with
 | zero=>
  intro Q A fI K6 a q b1
  unfold gU.l9.t gU.lG.t
  exact cD (fun aP=>absurd aP (by omega)) fun _=>g A fI a q b1
 | succ M K7=>
  intro Q A fI K6 a q b1
  unfold gU.l9.t gU.lG.t
  refine cD (fun _=>?_) fun aP=>absurd (by omega) aP
  refine fG (eG.rd (L:=n) ⟨_,q⟩ (by omega)) (C:=Q) rfl a.symm (by omega) ?_
  refine⟨by decide,⟨⟨?_⟩⟩⟩
  refine zD q (C:=Q) rfl a (by omega) (zB _) (zC _) fun K8 K9=>?_
  refine cP ((Q+1:Nat):Int) (by omega) (by omega) (by omega) ?_
  exact K7 (Q+1) _ _ (by omega) (by simp [a]) K8 (b1.trans K9)
theorem Jp{Y:K}{b:Addr}{c:U}{cM:Nat}{d:Nat}{l:Nat}{e:U}{f:Nat}{h:Nat}{i:Addr}{j:Addr}{aX n:Nat}{k6:List Nat}{Z:V}(G:n≤17592186043904)
  (g:∀ A fI,fI.length=n→eM A aX (fI ++ k6)→a1 aX Z A→hD.aC.t Y b c cM d e f h i j A) :
  ∀ (M Q:Nat) (A:V) (fI:List Nat),Q+M=n→fI.length=n→eM A aX (fI ++ k6)→a1 aX Z A→hD.dN.t Y (M+1) b c cM d (some ⟨aX,0,none⟩) n l e f h i j (Q:Int) A:=by
 intro M
 induction M with
 | zero=>
  intro Q A fI m a q b1
  unfold hD.dN.t hD.dD.t
  exact cD (fun aP=>absurd aP (by omega)) fun _=>g A fI a q b1
 | succ M v=>
  intro Q A fI m a q b1
  unfold hD.dN.t hD.dD.t
  refine cD (fun _=>?_) fun aP=>absurd (by omega) aP
  refine fG (eG.rd (L:=n) ⟨_,q⟩ (by omega)) (C:=Q) rfl a.symm (by omega) ?_
  refine⟨⟨by decide,⟨?_⟩⟩⟩
  refine zD q (C:=Q) rfl a (by omega) (zB _) (zC _) fun D E=>?_
  refine cP ((Q+1:Nat):Int) (by omega) (by omega) (by omega) ?_
  exact v (Q+1) _ _ (by omega) (by simp [a]) D (b1.trans E)
theorem Jq{Y:K}{b:Addr}{v:Nat}{c:U}{cM:Nat}{d:Nat}{e:U}{a5:Nat}{f:Nat}{h:U}{i:Nat}{j:Nat}{l:Addr}{m:Addr}{aX n:Nat}{k6:List Nat}{Z:V}(P:n≤17592186043904)
  (g:∀ A fI,fI.length=n→eM A aX (fI ++ k6)→a1 aX Z A→hD.cA.t Y b c cM d e a5 f h i j l m A) :
  ∀ (M Q:Nat) (A:V) (fI:List Nat),Q+M=n→fI.length=n→eM A aX (fI ++ k6)→a1 aX Z A→hD.hE.t Y (M+1) b (some ⟨aX,0,none⟩) n v c cM d e a5 f h i j l m (Q:Int) A:=by
 intro M
 induction M with
 | zero=>
  intro Q A fI D a q b1
  unfold hD.hE.t hD.lE.t
  exact cD (fun aP=>absurd aP (by omega)) fun _=>g A fI a q b1
 | succ M E=>
  intro Q A fI D a q b1
  unfold hD.hE.t hD.lE.t
  refine cD (fun _=>?_) fun aP=>absurd (by omega) aP
  refine fG (eG.rd (L:=n) ⟨_,q⟩ (by omega)) (C:=Q) rfl a.symm (by omega) ?_
  refine⟨⟨by decide,⟨?_⟩⟩⟩
  refine zD q (C:=Q) rfl a (by omega) (zB _) (zC _) fun G H=>?_
  refine cP ((Q+1:Nat):Int) (by omega) (by omega) (by omega) ?_
  exact E (Q+1) _ _ (by omega) (by simp [a]) G (b1.trans H)
structure mU(aB Z:V)(bD aX b7:Nat)(jI jJ:List Nat)(qS:List Value)(eW dL:fJ)(aA dU fF gG fH jK mV lT eK lU y g0 b8 g1 dB jE cM gS:Nat):Prop where
 aR:a4 aB Z
 g9:eM Z bD jI
 hA:eM Z aX jJ
 h6:cR Z b7 qS
 n6:h5 mV lT Z aA eW
 rP:h5 eK lU Z dU dL
 dV:h5 y g0 Z fF eW
 j5:h5 b8 g1 Z gG eW
 qT:h5 dB jE Z fH dL
 sX:h5 cM gS Z jK eW
 pU:aB.size≤bD∧bD < aX∧aX < b7∧lT≤bD∧lU≤bD∧aX < y∧y≤g0∧g0≤b8∧b8≤g1∧g1≤dB∧dB≤jE∧jE≤cM∧cM≤gS∧gS≤Z.size
section
variable {aB Z A:V} {bD aX b7:Nat} {jI jJ fI:List Nat} {qS:List Value} {eW dL hB I aN:fJ} {aA dU fF gG fH jK mV lT eK lU y g0 b8 g1 dB jE cM gS:Nat} {Ba Ed Jr sY a5 kP fV fW:Nat} {M n:Int} {uC dX:List Nat}
theorem mU.B(O:mU aB Z bD aX b7 jI jJ qS eW dL aA dU fF gG fH jK mV lT eK lU y g0 b8 g1 dB jE cM gS)(M:a4 Z A):mU aB A bD aX b7 jI jJ qS eW dL aA dU fF gG fH jK mV lT eK lU y g0 b8 g1 dB jE cM gS:=
 ⟨O.aR.trans M,O.g9.B M,O.hA.B M,O.h6.B M,O.n6.B M,O.rP.B M,O.dV.B M,O.j5.B M,O.qT.B M,O.sX.B M,by have:=M.le;have:=O.pU;omega⟩
theorem mU.Ee(O:mU aB Z bD aX b7 jI jJ qS eW dL aA dU fF gG fH jK mV lT eK lU y g0 b8 g1 dB jE cM gS)(M:a1 bD Z A)(q:eM A bD fI):mU aB A bD aX b7 fI jJ qS eW dL aA dU fF gG fH jK mV lT eK lU y g0 b8 g1 dB jE cM gS:=by
 have:=M.le;have:=O.pU
 exact⟨M.B O.aR (by omega),q,O.hA.bT (by omega) M,O.h6.bT (by omega) M,O.n6.bT (by omega) M,O.rP.bT (by omega) M,O.dV.bT (by omega) M,O.j5.bT (by omega) M,O.qT.bT (by omega) M,O.sX.bT (by omega) M,by omega⟩
theorem mU.Ef(O:mU aB Z bD aX b7 jI jJ qS eW dL aA dU fF gG fH jK mV lT eK lU y g0 b8 g1 dB jE cM gS)(M:a1 aX Z A)(q:eM A aX fI):mU aB A bD aX b7 jI fI qS eW dL aA dU fF gG fH jK mV lT eK lU y g0 b8 g1 dB jE cM gS:=by
 have:=M.le;have:=O.pU
 exact⟨M.B O.aR (by omega),O.g9.bT (by omega) M,q,O.h6.bT (by omega) M,O.n6.bT (by omega) M,O.rP.bT (by omega) M,O.dV.bT (by omega) M,O.j5.bT (by omega) M,O.qT.bT (by omega) M,O.sX.bT (by omega) M,by omega⟩
theorem Js(O:mU aB Z bD aX b7 jI jJ qS eW dL aA dU fF gG fH jK mV lT eK lU y g0 b8 g1 dB jE cM gS)(Lb:h5 a5 kP Z sY hB)(Lh:gS≤a5)(Li:a5≤kP)(Lj:kP≤Z.size)(Lc:fV=jI.length)(Ld:fW=jJ.length)(Lk:jI.length≤17592186044336)(Ll:jJ.length≤17592186044336)(Lm:eW.2.length≤8192)(Ln:dL.2.length≤8192)(pA:hB.2.length≤8192):
  gU.eC.t (oZ aB) (some ⟨bD,0,none⟩) fV fV (some ⟨aX,0,none⟩) fW fW ⟨fF,0,none⟩ ⟨gG,0,none⟩ ⟨fH,0,none⟩ ⟨jK,0,none⟩ ⟨sY,0,none⟩ Z:=by
 subst Lc;subst Ld
 unfold gU.eC.t
 refine O.dV.wY fun i j aQ=>O.j5.wY fun l bX e=>O.qT.wY fun m n f=>O.sX.wY fun D E g=>Lb.wY fun G H h=>?_
 have pU:=O.pU
 have Lo:=O.hA.lt
 refine wF tN [((i,eW.2.length,j):fU),(l,eW.2.length,bX),(m,dL.2.length,n),(D,eW.2.length,E),(G,hB.2.length,H),(some ⟨bD,0,none⟩,jI.length,jI.length),(some ⟨aX,0,none⟩,jJ.length,jJ.length)] rfl (fun _ _=>trivial) fun P K5 c=>?_
 have K6:e8 bD (bD+1) P (some ⟨bD,0,none⟩,jI.length,jI.length) jI:=⟨rfl,Nat.le_refl _,by omega,Or.inr ⟨bD,[],rfl,Nat.le_refl _,by omega,by rw [List.append_nil];exact(O.g9.B c).p8,by show jI.length≤_;simp⟩⟩
 have K7:e8 aX (aX+1) P (some ⟨aX,0,none⟩,jJ.length,jJ.length) jJ:=⟨rfl,Nat.le_refl _,by omega,Or.inr ⟨aX,[],rfl,Nat.le_refl _,by omega,by rw [List.append_nil];exact(O.hA.B c).p8,by show jJ.length≤_;simp⟩⟩
 have aQ:=aQ.B c;have e:=e.B c;have f:=f.B c;have g:=g.B c;have h:=h.B c
 have fF:=aQ.block;have gG:=e.block;have fH:=f.block;have jK:=g.block;have sY:=h.block;have K8:=K6.block;have K9:=K7.block
 have dK:Sep aB P [((i,eW.2.length,j):fU),(l,eW.2.length,bX),(m,dL.2.length,n),(D,eW.2.length,E),(G,hB.2.length,H),(some ⟨bD,0,none⟩,jI.length,jI.length),(some ⟨aX,0,none⟩,jJ.length,jJ.length)]:=by
  refine⟨fun O aY=>?_,fun Q C O t z o a Le b Lf J=>?_⟩
  ·simp at aY
   rcases aY with J | J | J | J | J | J | J <;> subst J
   ·exact uA aQ (by omega) (by omega)
   ·exact uA e (by omega) (by omega)
   ·exact uA f (by omega) (by omega)
   ·exact uA g (by omega) (by omega)
   ·exact uA h (by omega) (by omega)
   ·exact uA K6 (by omega) (by omega)
   ·exact uA K7 (by omega) (by omega)
  ·have La:∀ (Q:Nat) (O:fU) (z:Addr),[((i,eW.2.length,j):fU),(l,eW.2.length,bX),(m,dL.2.length,n),(D,eW.2.length,E),(G,hB.2.length,H),(some ⟨bD,0,none⟩,jI.length,jI.length),(some ⟨aX,0,none⟩,jJ.length,jJ.length)][Q]?=some O→O.1=some z→
     (Q=0∧y≤z.block∧z.block < g0)∨(Q=1∧b8≤z.block∧z.block < g1)∨(Q=2∧dB≤z.block∧z.block < jE)∨(Q=3∧cM≤z.block∧z.block < gS)∨(Q=4∧a5≤z.block∧z.block < kP)∨(Q=5∧bD≤z.block∧z.block < bD+1)∨(Q=6∧aX≤z.block∧z.block < aX+1):=by
    intro Q O z a b
    match Q with
    | 0=>simp at a;subst a;have:=fF z b;omega
    | 1=>simp at a;subst a;have:=gG z b;omega
    | 2=>simp at a;subst a;have:=fH z b;omega
    | 3=>simp at a;subst a;have:=jK z b;omega
    | 4=>simp at a;subst a;have:=sY z b;omega
    | 5=>simp at a;subst a;have:=K8 z b;omega
    | 6=>simp at a;subst a;have:=K9 z b;omega
    | Q+7=>simp at a
   have Lp:=La Q O z a b
   have Lq:=La C t o Le Lf
   omega
 refine bF (Jk (O.aR.trans c) (K5.o9 (L:=7) (show 7≤11728124029610 by decide) (Nat.le_refl 7)) rfl (Nat.le_of_ble_eq_true rfl) dK fun z Lg=>?_) fun v A ⟨J,eA⟩=>?_
 ·cases Lg
  refine⟨K5.lt,fun O aY o d=>?_⟩
  simp at aY
  show o.block ≠ Z.size
  rcases aY with J | J | J | J | J | J | J <;> subst J
  ·have:=fF o d;omega
  ·have:=gG o d;omega
  ·have:=fH o d;omega
  ·have:=jK o d;omega
  ·have:=sY o d;omega
  ·have:=K8 o d;omega
  ·have:=K9 o d;omega
 ·subst J
  exact aO rfl ⟨eA,rfl⟩
theorem Jt(O:mU aB Z bD aX b7 jI jJ qS eW dL aA dU fF gG fH jK mV lT eK lU y g0 b8 g1 dB jE cM gS)(e:h5 Ed Jr Z Ba hB)(a:h5 a5 kP Z sY hB)(K7:aX < Ed)(l:gS≤a5)(m:a5≤kP)(K8:kP≤Z.size)(n:fV=jI.length)(D:fW=jJ.length)(K9:jI.length≤17592186044336)(La:jJ.length≤17592186044336)(E:eW.2.length≤8192)(G:dL.2.length≤8192)(pA:hB.2.length≤8192):
  gU.dD.t (oZ aB) ⟨aA,0,none⟩ ⟨dU,0,none⟩ (some ⟨bD,0,none⟩) fV fV (some ⟨aX,0,none⟩) fW fW ⟨fF,0,none⟩ ⟨gG,0,none⟩ ⟨fH,0,none⟩ ⟨jK,0,none⟩ ⟨Ba,0,none⟩ ⟨sY,0,none⟩ Z:=by
 subst n;subst D
 unfold gU.dD.t
 have pU:=O.pU
 refine bF (D4 O.g9 rfl) fun v Lb ⟨cO,b,Lc,H,P⟩=>?_
 subst cO
 refine dP rfl (bP ?_)
 have O:=O.Ee b H
 refine bF (D4 O.hA rfl) fun v Ld ⟨cO,c,Le,K5,K6⟩=>?_
 subst cO
 refine dP rfl (bP ?_)
 have O:=O.Ef c K5
 have e:=(e.bT (.inl (by omega)) b).bT (.inl (by omega)) c
 have a:=(a.bT (.inl (by omega)) b).bT (.inl (by omega)) c
 refine qQ O.dV O.n6 fun Lf g=>?_
 have O:=O.B g
 refine qQ O.j5 O.n6 fun Lg h=>?_
 have O:=O.B h
 refine qQ O.qT O.rP fun Lh i=>?_
 have O:=O.B i
 refine qQ O.sX O.n6 fun Li j=>?_
 have O:=O.B j
 have d:=g.trans (h.trans (i.trans j))
 refine qQ (a.B d) (e.B d) fun Lj f=>?_
 have Lk:=b.le;have Ll:=c.le;have Lm:=d.le;have Ln:=f.le
 exact Js (O.B f) ((a.B d).B f) l m (by omega) P.symm K6.symm (by omega) (by omega) E G pA
theorem Ju{bN:Nat}{j l:U}{cW m:Nat}(O:mU aB Z bD aX b7 (I.2 ++ uC) (aN.2 ++ dX) (lS M I.1 (some ⟨bD,0,none⟩) I.2.length (I.2.length+80) aN.1 (some ⟨aX,0,none⟩) aN.2.length (aN.2.length+80) n) eW dL aA dU fF gG fH jK mV lT eK lU y g0 b8 g1 dB jE cM gS)
  (v:cR Z bN (lS M I.1 j I.2.length cW aN.1 l aN.2.length m n)) (D:bJ Z j cW I.2) (E:bJ Z l m aN.2) (G:In .i64 M) (e:In .i64 n) (H:gK aB) (La:uC.length=80) (Lb:dX.length=80) (Lc:I.2.length≤17592186043904) (Ld:aN.2.length≤17592186043904) (K7:eW.2.length≤8192) (K8:dL.2.length≤8192) :
  gU.b0.t (oZ aB) ⟨aA,0,none⟩ ⟨dU,0,none⟩ (some ⟨bD,0,none⟩) (I.2.length+80) (I.2.length+80) (some ⟨aX,0,none⟩) (aN.2.length+80) (aN.2.length+80) ⟨b7,0,none⟩ ⟨fF,0,none⟩ ⟨gG,0,none⟩ ⟨fH,0,none⟩ ⟨jK,0,none⟩ ⟨bN,0,none⟩ Z:=by
 unfold gU.b0.t
 have pU:=O.pU
 have Le:=O.hA.lt
 have Lf:=O.h6.lt
 refine uB A8 v G D rfl E rfl e (H.B O.aR) rfl fun Ba Lg f b=>?_
 have O:=O.B f
 refine uB wX O.h6 G (eG.rd (L:=I.2.length+80) ⟨_,O.g9⟩ (by omega)) rfl (eG.rd (L:=aN.2.length+80) ⟨_,O.hA⟩ (by omega)) rfl e (H.B O.aR) rfl fun sY Lh c P=>?_
 have O:=O.B c
 have b:=b.B c
 refine mZ (fun K9=>absurd rfl K9) fun _=>?_
 refine qQ P b fun Li d=>?_
 have O:=O.B d
 have g:=f.trans (c.trans d)
 have h:=v.B g
 refine aI O.h6 (c9 _ _ _) rfl (aO rfl (aI O.h6 (c9 _ _ _) rfl (k rfl (aI h (c9 _ _ _) rfl (aO rfl (aI h (c9 _ _ _) rfl (k rfl ?_)))))))
 refine A9 (z:=I) (eG.rd (L:=I.2.length+80) ⟨_,O.g9⟩ (by omega)) rfl (D.B g) rfl fun Lj a=>?_
 have O:=O.B a
 have K5:=h.B a
 refine aI O.h6 (c9 _ _ _) rfl (aO rfl (aI O.h6 (c9 _ _ _) rfl (k rfl (aI K5 (c9 _ _ _) rfl (aO rfl (aI K5 (c9 _ _ _) rfl (k rfl ?_)))))))
 refine A9 (z:=aN) (eG.rd (L:=aN.2.length+80) ⟨_,O.hA⟩ (by omega)) rfl (E.B (g.trans a)) rfl fun Lk i=>?_
 have Ll:=f.le;have Lm:=c.le;have Ln:=d.le;have Lo:=a.le;have Lp:=i.le
 have K6:=d.trans (a.trans i)
 exact Jt (O.B i) (b.B K6) (P.B K6) (by omega) (by omega) (by omega) (by omega) (by rw [List.length_append];omega) (by rw [List.length_append];omega) (by rw [List.length_append];omega) (by rw [List.length_append];omega) K7 K8 (A6 _ _ _ e)
theorem Jv(O:mU aB Z bD aX b7 (I.2 ++ uC) (aN.2 ++ dX) (lS M I.1 (some ⟨bD,0,none⟩) fV (fV+80) aN.1 (some ⟨aX,0,none⟩) fW (fW+80) n) eW dL aA dU fF gG fH jK mV lT eK lU y g0 b8 g1 dB jE cM gS)(a:fV=I.2.length)(b:fW=aN.2.length)
  (c:In .i64 M) (d:In .i64 n) (e:gK aB) (f:uC.length=80) (g:dX.length=80) (h:I.2.length≤17592186043904) (i:aN.2.length≤17592186043904) (j:eW.2.length≤8192) (l:dL.2.length≤8192) :
  gU.cA.t (oZ aB) ⟨aA,0,none⟩ ⟨dU,0,none⟩ (some ⟨bD,0,none⟩) (fV+80) (fV+80) (some ⟨aX,0,none⟩) (fW+80) (fW+80) ⟨b7,0,none⟩ ⟨fF,0,none⟩ ⟨gG,0,none⟩ ⟨fH,0,none⟩ ⟨jK,0,none⟩ Z:=by
 subst a;subst b
 unfold gU.cA.t
 have q:=O.h6
 refine⟨q.qC 0,lY q rfl ⟨q.qC 1,aI q (c9 _ _ _) rfl (aO rfl (aI q (c9 _ _ _) rfl (k rfl ⟨q.qC 3,aI q (c9 _ _ _) rfl (aO rfl (aI q (c9 _ _ _) rfl (k rfl ⟨q.qC 5,lY q rfl ?_⟩)))⟩)))⟩⟩
 refine Ec (I:=I) (aN:=aN) (eG.rd (L:=I.2.length+80) ⟨_,O.g9⟩ (by omega)) (eG.rd (L:=aN.2.length+80) ⟨_,O.hA⟩ (by omega)) rfl fun bN E G cW H P m K5 v D eE=>?_
 exact Ju (O.B m) v D.rd eE.rd c d e f g h i j l
theorem Jw(O:mU aB Z bD aX b7 (I.2 ++ uC) (aN.2 ++ dX) (lS M I.1 (some ⟨bD,0,none⟩) I.2.length (I.2.length+80) aN.1 (some ⟨aX,0,none⟩) aN.2.length (aN.2.length+80) n) eW dL aA dU fF gG fH jK mV lT eK lU y g0 b8 g1 dB jE cM gS)
  (d:In .i64 M) (e:In .i64 n) (f:gK aB) (g:uC.length=80) (h:dX.length=80) (i:I.2.length≤17592186043904) (j:aN.2.length≤17592186043904) (l:eW.2.length≤8192) (m:dL.2.length≤8192) :
  gU.a7.t (oZ aB) ⟨aA,0,none⟩ ⟨dU,0,none⟩ (some ⟨bD,0,none⟩) I.2.length (I.2.length+80) (some ⟨bD,0,none⟩) (I.2.length+80) (I.2.length+80) (some ⟨aX,0,none⟩) aN.2.length (aN.2.length+80) (some ⟨aX,0,none⟩) (aN.2.length+80) (aN.2.length+80) ⟨b7,0,none⟩ ⟨fF,0,none⟩ ⟨gG,0,none⟩ ⟨fH,0,none⟩ ⟨jK,0,none⟩ Z:=by
 unfold gU.a7.t
 refine qQ O.dV O.n6 fun Lc v=>?_
 have O:=O.B v
 refine qQ O.j5 O.n6 fun Ld D=>?_
 have O:=O.B D
 refine qQ O.qT O.rP fun Le E=>?_
 have O:=O.B E
 refine qQ O.sX O.n6 fun G H=>?_
 have O:=O.B H
 unfold gU.kB.t
 refine⟨I.2.length+1,Jo (k6:=uC) i (fun P a K5 K6 K7=>?_) I.2.length 0 G I.2 (by omega) rfl O.g9 (a1.refl _ _)⟩
 have b:=O.Ee K7 K6
 unfold gU.eL.t
 refine⟨aN.2.length+1,Jn (k6:=dX) j (fun Lf c K8 K9 La=>?_) aN.2.length 0 P aN.2 (by omega) rfl b.hA (a1.refl _ _)⟩
 have Lb:=b.Ef La K9
 exact Jv (I:=(I.1,a)) (aN:=(aN.1,c)) Lb K5.symm K8.symm d e f g h (by show a.length≤_;omega) (by show c.length≤_;omega) l m
theorem Jx{a N:U}{L bH P:Nat}{J:Int}(aR:a4 aB Z)(l:cR Z P (lS M I.1 a I.2.length L aN.1 N aN.2.length bH n))(s:bJ Z a L I.2)(m:bJ Z N bH aN.2)
  (g9:eM Z bD (I.2 ++ marks I.2.length)) (hA:eM Z aX (aN.2 ++ marks aN.2.length)) (h6:cR Z b7 (lS M I.1 (some ⟨bD,0,none⟩) I.2.length (I.2.length+80) aN.1 (some ⟨aX,0,none⟩) aN.2.length (aN.2.length+80) n))
  (n6:h5 mV lT Z aA (j4 M I aN n).1) (rP:h5 eK lU Z dU dL) (dV:h5 y g0 Z fF (j4 M I aN n).1) (j5:h5 b8 g1 Z gG (j4 M I aN n).1) (qT:h5 dB jE Z fH dL)
  (pU:aB.size≤bD∧bD < aX∧aX < b7∧lT≤bD∧lU≤bD∧aX < y∧y≤g0∧g0≤b8∧b8≤g1∧g1≤dB∧dB≤jE∧jE≤Z.size)
  (e:In .i64 M) (d:In .i64 n) (f:gK aB) (v:I.2.length≤17592186043904) (D:aN.2.length≤17592186043904) (E:dL.2.length≤8192) (G:J=(j4 M I aN n).2) :
  gU.aC.t (oZ aB) ⟨P,0,none⟩ ⟨aA,0,none⟩ (j4 M I aN n).2 ⟨dU,0,none⟩ (some ⟨bD,0,none⟩) I.2.length (I.2.length+80) (some ⟨bD,0,none⟩) (I.2.length+80) (I.2.length+80) (some ⟨aX,0,none⟩) aN.2.length (aN.2.length+80) (some ⟨aX,0,none⟩) (aN.2.length+80) (aN.2.length+80) ⟨b7,0,none⟩ ⟨fF,0,none⟩ J ⟨gG,0,none⟩ ⟨fH,0,none⟩ Z:=by
 unfold gU.aC.t
 have H:=l3 I.2.length
 have K5:=l3 aN.2.length
 refine uB wX h6 e (eG.rd (L:=I.2.length+80) ⟨_,g9⟩ (by omega)) rfl (eG.rd (L:=aN.2.length+80) ⟨_,hA⟩ (by omega)) rfl d (f.B aR) rfl fun jK g b sX=>?_
 refine mZ (fun c=>absurd G c) fun _=>?_
 have h:=l.B b
 have i:=g9.B b
 have j:=hA.B b
 refine aI h (c9 _ _ _) rfl (k rfl ?_)
 refine vO (i.rd (L:=I.2.length+80) (by rw [List.length_append];omega)) (s.B b) rfl rfl ?_
 refine h9 (fun c=>absurd c (by simp)) fun _=>?_
 refine aI h (c9 _ _ _) rfl (k rfl ?_)
 refine vO (j.rd (L:=aN.2.length+80) (by rw [List.length_append];omega)) (m.B b) rfl rfl ?_
 refine h9 (fun c=>absurd c (by simp)) fun _=>?_
 have K6:=b.le
 have O:mU aB g bD aX b7 (I.2 ++ marks I.2.length) (aN.2 ++ marks aN.2.length) (lS M I.1 (some ⟨bD,0,none⟩) I.2.length (I.2.length+80) aN.1 (some ⟨aX,0,none⟩) aN.2.length (aN.2.length+80) n) (j4 M I aN n).1 dL aA dU fF gG fH jK mV lT eK lU y g0 b8 g1 dB jE Z.size g.size:=
  ⟨aR.trans b,i,j,h6.B b,n6.B b,rP.B b,dV.B b,j5.B b,qT.B b,sX,by omega⟩
 exact Jw O e d f H K5 v D (A6 _ _ _ d) E
theorem wZ{a N Ld Le:U}{L bH cW Lf l m Lg Lh:Nat}{p4 sZ:fJ}{eA Li:Int}
  (j:In .i64 M) (s:bJ Z a L I.2) (O:bJ Z N bH aN.2) (Lq:l=I.2.length) (Lr:m=aN.2.length) (D:In .i64 n) (Ls:I.2.length≤17592186043904) (Lt:aN.2.length≤17592186043904)
  (Lj:In .i64 eA) (Lk:bJ Z Ld cW p4.2) (Ll:bJ Z Le Lf sZ.2) (Lu:Lg=p4.2.length) (Lv:Lh=sZ.2.length) (K8:In .i64 Li) (e:gK Z) :
  aF gU.id #[.agg #[.int .i64 M,.bool I.1,.slice a l L,.bool aN.1,.slice N m bH,.int .i64 n],.agg #[.int .i64 eA,.bool p4.1,.slice Ld Lg cW,.bool sZ.1,.slice Le Lh Lf,.int .i64 Li]] Z fun v A=>a4 Z A∧v=.bool true:=by
 subst Lq;subst Lr;subst Lu;subst Lv
 refine gU.ok ?_
 unfold gU.t gU.F.t
 refine cK fun a0 b Lm=>?_
 refine cK fun Lz E K9=>?_
 have G:=Lm.trans K9
 have b:=b.B K9
 refine uB A8 b j (s.B G) rfl (O.B G) rfl D (e.B G) rfl fun aA LA H n6=>?_
 have E:=E.B H
 have P:=G.trans H
 refine uB A8 E Lj (Lk.B P) rfl (Ll.B P) rfl K8 (e.B P) rfl fun dU LB g rP=>?_
 have La:=P.trans g
 have b:=b.B (H.trans g)
 refine aI b (c9 _ _ _) rfl (k rfl ?_)
 refine bF (y7 (s.B La) rfl (by omega)) fun v LC ⟨h,bD,LD,cO,g9⟩=>?_
 subst cO
 refine dP rfl (aM (k rfl (aM (k rfl (bP ?_)))))
 refine aI (b.B h) (c9 _ _ _) rfl (k rfl ?_)
 refine bF (y7 (O.B (La.trans h)) rfl (by omega)) fun v Lw ⟨K5,aX,c4,cO,hA⟩=>?_
 subst cO
 refine dP rfl (aM (k rfl (aM (k rfl (bP ?_)))))
 have b:=b.B (h.trans K5)
 refine lY b rfl (aI b (c9 _ _ _) rfl (aO rfl (aI b (c9 _ _ _) rfl (aO rfl (lY b rfl ?_)))))
 refine cK fun LF Lx Ln=>?_
 refine sW Lx rfl fun Ly h6 Lo=>?_
 have K6:a4 Lw Ly:=Lo.B Ln (Nat.le_refl _)
 have LG:=g9.lt;have LH:=hA.lt;have LI:=h6.lt
 have g9:=g9.B (K5.trans K6)
 have hA:=hA.B K6
 have LJ:=l3 I.2.length
 have LK:=l3 aN.2.length
 have Lp:=h.trans (K5.trans K6)
 have Lb:=La.trans Lp
 refine uB wX h6 j (eG.rd (L:=I.2.length+80) ⟨_,g9⟩ (by omega)) rfl (eG.rd (L:=aN.2.length+80) ⟨_,hA⟩ (by omega)) rfl D (e.B Lb) rfl fun fF LL c dV=>?_
 have h6:=h6.B c
 have g9:=g9.B c
 have hA:=hA.B c
 refine uB wX h6 j (eG.rd (L:=I.2.length+80) ⟨_,g9⟩ (by omega)) rfl (eG.rd (L:=aN.2.length+80) ⟨_,hA⟩ (by omega)) rfl D (e.B (Lb.trans c)) rfl fun gG LM K7 j5=>?_
 have f:=Lb.trans (c.trans K7)
 have Lc:=Lp.trans (c.trans K7)
 refine Jm (E.B (g.trans Lc)) Lj (Lk.B f) (Ll.B f) K8 (e.B f) rfl fun fH LN d qT=>?_
 have i:=K7.trans d
 have LO:=Lm.le;have LP:=K9.le;have LQ:=H.le;have LR:=g.le;have LS:=h.le;have LU:=K5.le;have LV:=Ln.le;have LW:=Lo.le;have LX:=c.le;have LY:=K7.le;have LZ:=d.le
 exact Jx (f.trans d) (b.B (K6.trans (c.trans i))) (s.B (f.trans d)) (O.B (f.trans d)) (g9.B i) (hA.B i) (h6.B i) (n6.B (g.trans (Lc.trans d))) (rP.B (Lc.trans d)) (dV.B i) (j5.B d) qT
  (by omega) j D e Ls Lt (A6 _ _ _ K8) rfl
end
abbrev Bb:=Bool × List Nat × Unit
abbrev uD:=Int × (Bb × (Bb × (Int × Unit)))
abbrev zF:hQ uD:=kI (u4 .i64) 1 (kI wT 2 (kI wT 2 (kI (u4 .i64) 1 tH)))
abbrev w0(Z:V)(a:U)(L:Nat)(os:List uD):Prop:=tG zF 6 1759218604390 Z a L os
theorem Cq:o6 u5:=fun _ _ _ _ b3 _=>b3
theorem Eg:o6 wT:=u6 Cq (u6 Fs Cv 1) 1
theorem Jy:o6 zF:=u6 (Cp _) (u6 Eg (u6 Eg (u6 (Cp _) Cv 1) 2) 2) 1
theorem w0.B{Z A:V}{a:U}{L:Nat}{os:List uD}(s:w0 Z a L os)(M:a4 Z A):w0 A a L os:=tG.B Jy s M
theorem Eh{dC gM:Type}{dK:hQ dC}{dF:hQ gM}{Z:V}{cQ:List Value}{z:dC × gM}(b3:kI dK 2 dF Z cQ z):∃ L bH rest,cQ=L :: bH :: rest∧dK Z [L,bH] z.1∧dF Z rest z.2:=by
 obtain⟨l,O,t⟩:=b3
 match cQ with
 | []=>simp at l
 | [_]=>simp at l
 | L :: bH :: s=>exact⟨L,bH,s,rfl,O,t⟩
theorem Ei{Z:V}{v aA:Value}{I:Bb}(b3:wT Z [v,aA] I):∃ a L,v=.bool I.1∧aA=.slice a I.2.1.length L∧bJ Z a L I.2.1:=by
 obtain⟨a,L,J,s⟩:=Ij (cQ:=#[v,aA]) b3
 have J:=congrArg Array.toList J
 simp only [List.cons.injEq,and_true] at J
 exact⟨a,L,J.1,J.2,s⟩
theorem Jz{Z:V}{o:Addr}{bW:List Value}{q:uD}(b:jX Z o 0 bW)(O:zF Z bW q):
  ∃ a L N bH,fQ Z (o.add 0)=some (.int .i64 q.1)∧fQ Z (o.add 1)=some (.bool q.2.1.1)∧fQ Z (o.add 2)=some (.slice a q.2.1.2.1.length L)∧fQ Z (o.add 3)=some (.bool q.2.2.1.1)∧fQ Z (o.add 4)=some (.slice N q.2.2.1.2.1.length bH)∧fQ Z (o.add 5)=some (.int .i64 q.2.2.2.1)∧
   In .i64 q.1∧bJ Z a L q.2.1.2.1∧bJ Z N bH q.2.2.1.2.1∧In .i64 q.2.2.2.1:=by
 obtain⟨E,kV,e,⟨c,qZ⟩,O⟩:=yY O
 obtain⟨G,H,P,f,dV,O⟩:=Eh O
 obtain⟨K5,K6,K7,g,j5,O⟩:=Eh O
 obtain⟨K8,h,i,⟨d,j⟩,O⟩:=yY O
 have O:h=[]:=O
 obtain⟨a,L,l,m,n⟩:=Ei dV
 obtain⟨N,bH,t,v,D⟩:=Ei j5
 simp only [List.cons.injEq,and_true] at c d
 subst O i g f e c d l m t v
 exact⟨a,L,N,bH,b.1,b.2.1,b.2.2.1,b.2.2.2.1,b.2.2.2.2.1,b.2.2.2.2.2.1,CR qZ,n,D,CR j⟩
theorem JA(M:Int)(z:Bool)(T:List Nat)(o:Bool)(u:List Nat)(n:Int):pR.v M z T o u n z T o u=true:=by
 unfold pR.v pR.F.v
 simp only [bY,beq_self_eq_true,cond_true,Bool.cond_self]
theorem Ej{Z:V}{M n:Int}{I aN:fJ}{a N b c:U}{L bH cW d l m e f:Nat}(h:In .i64 M)(s:bJ Z a L I.2)(i:l=I.2.length)(O:bJ Z N bH aN.2)(j:m=aN.2.length)(D:In .i64 n)(E:bJ Z b cW I.2)(G:e=I.2.length)(H:bJ Z c d aN.2)(P:f=aN.2.length){p:Bool→V→Prop}(g:∀ A,a4 Z A→p true A):
  aF pR.id #[.agg #[.int .i64 M,.bool I.1,.slice a l L,.bool aN.1,.slice N m bH,.int .i64 n],.agg #[.bool I.1,.slice b e cW],.agg #[.bool aN.1,.slice c f d]] Z fun v A=>b9 v fun t=>p t A:=
 bF (pR.aU (eB:=I.1) (e9:=aN.1) (aT:=I.1) (cU:=aN.1) h s i O j D E G H P) fun v A ⟨K5,J⟩=>by
  rw [JA] at J
  have J:v=.bool true:=J
  subst J
  exact aO rfl (g A K5)
section
variable {aB Z:V} {bD aX aL bA b7:Nat} {I aN:fJ} {fV fW:Nat} {M n:Int} {a N:U} {L bH:Nat}
theorem JB{bN:Nat}{d e:U}{cW f:Nat}(aR:a4 aB Z)(g9:eM Z bD (I.2 ++ marks I.2.length))(hA:eM Z aX (aN.2 ++ marks aN.2.length))(g:cR Z aL [.bool I.1,.slice (some ⟨bD,0,none⟩) fV (fV+80)])(h:cR Z bA [.bool aN.1,.slice (some ⟨aX,0,none⟩) fW (fW+80)])(l:fV=I.2.length)(m:fW=aN.2.length)
  (b:cR Z bN (lS M I.1 d I.2.length cW aN.1 e aN.2.length f n)) (i:bJ Z d cW I.2) (j:bJ Z e f aN.2) (v:In .i64 M) (D:In .i64 n) :
  hD.a7.t (oZ aB) (some ⟨bD,0,none⟩) (fV+80) (fV+80) (some ⟨aX,0,none⟩) (fW+80) (fW+80) ⟨aL,0,none⟩ ⟨bA,0,none⟩ ⟨bN,0,none⟩ Z:=by
 subst l;subst m
 unfold hD.a7.t
 have E:=l3 I.2.length
 have G:=l3 aN.2.length
 refine kU b (rO g rfl (qD g rfl (rO h rfl (qD h rfl ?_))))
 refine Ej (I:=I) (aN:=aN) v i rfl j rfl D (eG.rd (L:=I.2.length+80) ⟨_,g9⟩ (by omega)) rfl (eG.rd (L:=aN.2.length+80) ⟨_,hA⟩ (by omega)) rfl fun a0 a=>?_
 refine Ao (fun _=>?_) fun c=>absurd c (by simp)
 have b:=b.B a
 refine aI b (c9 _ _ _) rfl (k rfl ?_)
 refine vO ((g9.B a).rd (L:=I.2.length+80) (by rw [List.length_append];omega)) (i.B a) rfl rfl ?_
 refine Ao (fun _=>?_) fun c=>absurd c (by simp)
 refine aI b (c9 _ _ _) rfl (k rfl ?_)
 refine vO ((hA.B a).rd (L:=aN.2.length+80) (by rw [List.length_append];omega)) (j.B a) rfl rfl ?_
 exact⟨aR.trans a,rfl⟩
theorem JC{z o:Bool}{l m:Nat}(aR:a4 aB Z)(h6:cR Z b7 (lS M z a l L o N m bH n))(g9:eM Z bD (I.2 ++ marks I.2.length))(hA:eM Z aX (aN.2 ++ marks aN.2.length))(c:cR Z aL [.bool I.1,.slice (some ⟨bD,0,none⟩) fV (fV+80)])(d:cR Z bA [.bool aN.1,.slice (some ⟨aX,0,none⟩) fW (fW+80)])(e:fV=I.2.length)(f:fW=aN.2.length)(g:In .i64 M)(h:In .i64 n):
  hD.aC.t (oZ aB) ⟨b7,0,none⟩ (some ⟨bD,0,none⟩) (fV+80) (fV+80) (some ⟨aX,0,none⟩) (fW+80) (fW+80) ⟨aL,0,none⟩ ⟨bA,0,none⟩ Z:=by
 subst e;subst f
 unfold hD.aC.t
 refine⟨h6.qC 0,lY h6 rfl ⟨c.lt,rO c rfl (qD c rfl ⟨d.lt,rO d rfl (qD d rfl ⟨h6.qC 5,lY h6 rfl ?_⟩)⟩)⟩⟩
 have v:=l3 I.2.length
 have D:=l3 aN.2.length
 refine Ec (I:=I) (aN:=aN) (eG.rd (L:=I.2.length+80) ⟨_,g9⟩ (by omega)) (eG.rd (L:=aN.2.length+80) ⟨_,hA⟩ (by omega)) rfl fun bN a0 E cW G H b P i j eE=>?_
 exact JB (aR.trans b) (g9.B b) (hA.B b) (c.B b) (d.B b) rfl rfl i j.rd eE.rd g h
theorem JD(aR:a4 aB Z)(s:bJ Z a L I.2)(O:bJ Z N bH aN.2)(h6:cR Z b7 (lS M I.1 a I.2.length L aN.1 N aN.2.length bH n))(g9:eM Z bD (I.2 ++ marks I.2.length))(hA:eM Z aX (aN.2 ++ marks aN.2.length))(f:cR Z aL [.bool I.1,.slice (some ⟨bD,0,none⟩) I.2.length (I.2.length+80)])(g:cR Z bA [.bool aN.1,.slice (some ⟨aX,0,none⟩) aN.2.length (aN.2.length+80)])
  (pU:aB.size≤bD∧aB.size≤aX∧bD ≠ aX∧b7 ≠ bD∧b7 ≠ aX∧aL ≠ bD∧aL ≠ aX∧bA ≠ bD∧bA ≠ aX) (l:In .i64 M) (m:In .i64 n) (K6:I.2.length≤17592186043904) (K7:aN.2.length≤17592186043904) :
  ∀ (t Q:Nat) (c:V),Q+t=2→a4 Z c→hD.mA.t (oZ aB) (t+1) ⟨b7,0,none⟩ (some ⟨bD,0,none⟩) I.2.length (I.2.length+80) (some ⟨bD,0,none⟩) (I.2.length+80) (I.2.length+80) (some ⟨aX,0,none⟩) aN.2.length (aN.2.length+80) (some ⟨aX,0,none⟩) (aN.2.length+80) (aN.2.length+80) ⟨aL,0,none⟩ ⟨bA,0,none⟩ (Q:Int) c:=by
 have Lf:=l3 I.2.length
 have Lg:=l3 aN.2.length
 intro t
 induction t with
 | zero=>
  intro Q c bE b
  unfold hD.mA.t hD.hN.t
  refine cD (fun aP=>absurd aP (by omega)) fun _=>?_
  unfold hD.gJ.t
  refine⟨I.2.length+1,Jq (k6:=marks I.2.length) K6 (fun h K8 v K9 i=>?_) I.2.length 0 c I.2 (by omega) rfl (g9.B b) (a1.refl _ _)⟩
  unfold hD.cA.t
  refine⟨aN.2.length+1,Jp (k6:=marks aN.2.length) K7 (fun La Lb D E j=>?_) aN.2.length 0 h aN.2 (by omega) rfl ((hA.B b).bT (by omega) i) (a1.refl _ _)⟩
  have a9:∀ {N:Nat} {bW:List Value},cR Z N bW→N ≠ bD→N ≠ aX→cR La N bW:=fun q Lc Ld=>((q.B b).bT Lc i).bT Ld j
  have G:=K9.bT (show bD ≠ aX by omega) j
  rw [← v] at G;rw [← D] at E
  exact JC (I:=(I.1,K8)) (aN:=(aN.1,Lb)) (j.B (i.B (aR.trans b) (by omega)) (by omega)) (a9 h6 (by omega) (by omega)) G E (a9 f (by omega) (by omega)) (a9 g (by omega) (by omega)) v.symm D.symm l m
 | succ t Le=>
  intro Q c bE b
  unfold hD.mA.t hD.hN.t
  refine cD (fun _=>?_) fun aP=>absurd (by omega) aP
  have H:=h6.B b
  refine kU H (rO (f.B b) rfl (qD (f.B b) rfl (rO (g.B b) rfl (qD (g.B b) rfl ?_))))
  refine Ej (I:=I) (aN:=aN) l (s.B b) rfl (O.B b) rfl m (eG.rd (L:=I.2.length+80) ⟨_,g9.B b⟩ (by omega)) rfl (eG.rd (L:=aN.2.length+80) ⟨_,hA.B b⟩ (by omega)) rfl fun h P=>?_
  have d:=b.trans P
  have K5:=H.B P
  refine h9 (fun e=>absurd e (by simp)) fun _=>?_
  refine aI K5 (c9 _ _ _) rfl (k rfl ?_)
  refine vO ((g9.B d).rd (L:=I.2.length+80) (by rw [List.length_append];omega)) (s.B d) rfl rfl ?_
  refine h9 (fun e=>absurd e (by simp)) fun _=>?_
  refine aI K5 (c9 _ _ _) rfl (k rfl ?_)
  refine vO ((hA.B d).rd (L:=aN.2.length+80) (by rw [List.length_append];omega)) (O.B d) rfl rfl ?_
  refine h9 (fun e=>absurd e (by simp)) fun _=>?_
  refine cP ((Q+1:Nat):Int) (by omega) (by omega) (by omega) ?_
  exact Le (Q+1) h (by omega) d
theorem Bc{l m:Nat}(Le:In .i64 M)(s:bJ Z a L I.2)(O:bJ Z N bH aN.2)(Lf:l=I.2.length)(Lg:m=aN.2.length)(Lh:In .i64 n)(Li:I.2.length≤17592186043904)(Lj:aN.2.length≤17592186043904):
  aF hD.id #[.agg #[.int .i64 M,.bool I.1,.slice a l L,.bool aN.1,.slice N m bH,.int .i64 n]] Z fun v A=>a4 Z A∧v=.bool true:=by
 subst Lf;subst Lg
 refine hD.ok ?_
 unfold hD.t hD.F.t
 refine cK fun a0 e K5=>?_
 refine aI e (c9 _ _ _) rfl (k rfl ?_)
 refine bF (y7 (s.B K5) rfl (by omega)) fun v Ll ⟨G,bD,Lm,cO,g9⟩=>?_
 subst cO
 refine dP rfl (aM (k rfl (aM (k rfl (bP ?_)))))
 refine aI (e.B G) (c9 _ _ _) rfl (k rfl ?_)
 refine bF (y7 (O.B (K5.trans G)) rfl (by omega)) fun v K7 ⟨K6,aX,c4,cO,hA⟩=>?_
 subst cO
 refine dP rfl (aM (k rfl (aM (k rfl (bP ?_)))))
 have Lk:=K5.trans (G.trans K6)
 have Ln:=e.lt;have Lo:=g9.lt;have Lp:=hA.lt
 have e:=e.B (G.trans K6)
 have g9:=g9.B K6
 have Lq:=K5.le;have Lr:=G.le;have Ls:=K6.le
 have E:∀ {D:V} {aL bA:Nat},a4 K7 D→K7.size≤aL→K7.size≤bA→cR D aL [.bool I.1,.slice (some ⟨bD,0,none⟩) I.2.length (I.2.length+80)]→cR D bA [.bool aN.1,.slice (some ⟨aX,0,none⟩) aN.2.length (aN.2.length+80)]→
   hD.nJ.t (oZ Z) ⟨Z.size,0,none⟩ (some ⟨bD,0,none⟩) I.2.length (I.2.length+80) (some ⟨bD,0,none⟩) (I.2.length+80) (I.2.length+80) (some ⟨aX,0,none⟩) aN.2.length (aN.2.length+80) (some ⟨aX,0,none⟩) (aN.2.length+80) (aN.2.length+80) ⟨aL,0,none⟩ ⟨bA,0,none⟩ D:=by
  intro D aL bA b Lt Lu g h
  unfold hD.nJ.t
  have K8:=Lk.trans b
  exact⟨2+1,JD K8 (s.B K8) (O.B K8) (e.B b) (g9.B b) (hA.B b) g h (by omega) Le Lh Li Lj 2 0 D (by omega) (a4.refl _)⟩
 refine⟨eY (c9 _ _ _) e.lt,aI e (c9 _ _ _) rfl (aO rfl ⟨⟨eY (c9 _ _ _) e.lt,aI e (c9 _ _ _) rfl (aO rfl ⟨?_,?_⟩)⟩,?_,?_⟩)⟩
 ·refine cK fun K9 i c=>⟨c.c1 (Nat.le_refl _),cK fun D j b=>⟨b.c1 c.le,?_⟩⟩
  have La:=c.le;have Lb:=i.lt;have Lc:=j.lt
  refine l4 (i.B b) rfl fun H g d=>l4 (j.bT (by omega) d) rfl fun P h f=>?_
  exact E (f.B (d.B (c.trans b) (by omega)) (by omega)) (by omega) (by omega) (g.bT (by omega) f) h
 ·refine cK fun K9 i c=>⟨c.c1 (Nat.le_refl _),cK fun D j b=>⟨b.c1 c.le,?_⟩⟩
  have La:=c.le;have Lb:=i.lt;have Lc:=j.lt
  refine l4 j rfl fun H g d=>l4 ((i.B b).bT (by omega) d) rfl fun P h f=>?_
  exact E (f.B (d.B (c.trans b) (by omega)) (by omega)) (by omega) (by omega) (g.bT (by omega) f) h
 ·refine cK fun K9 i c=>⟨c.c1 (Nat.le_refl _),cK fun D j b=>⟨b.c1 c.le,?_,?_⟩⟩
  all_goals have La:=c.le;have Lb:=i.lt;have Lc:=j.lt
  ·have Ld:=e.B (c.trans b)
   refine⟨eY (c9 _ _ _) e.lt,aI Ld (c9 _ _ _) rfl (aO rfl ?_)⟩
   refine l4 (i.B b) rfl fun H g d=>l4 (j.bT (by omega) d) rfl fun P h f=>?_
   exact E (f.B (d.B (c.trans b) (by omega)) (by omega)) (by omega) (by omega) (g.bT (by omega) f) h
  ·refine l4 (i.B b) rfl fun H g d=>?_
   refine⟨eY (c9 _ _ _) e.lt,aI ((e.B (c.trans b)).bT (by omega) d) (c9 _ _ _) rfl (aO rfl ?_)⟩
   refine l4 (j.bT (by omega) d) rfl fun P h f=>?_
   exact E (f.B (d.B (c.trans b) (by omega)) (by omega)) (by omega) (by omega) (g.bT (by omega) f) h
 ·refine cK fun K9 i c=>⟨c.c1 (Nat.le_refl _),cK fun D j b=>⟨b.c1 c.le,?_,?_⟩⟩
  all_goals have La:=c.le;have Lb:=i.lt;have Lc:=j.lt
  ·have Ld:=e.B (c.trans b)
   refine⟨eY (c9 _ _ _) e.lt,aI Ld (c9 _ _ _) rfl (aO rfl ?_)⟩
   refine l4 j rfl fun H g d=>l4 ((i.B b).bT (by omega) d) rfl fun P h f=>?_
   exact E (f.B (d.B (c.trans b) (by omega)) (by omega)) (by omega) (by omega) (g.bT (by omega) f) h
  ·refine l4 j rfl fun H g d=>?_
   refine⟨eY (c9 _ _ _) e.lt,aI ((e.B (c.trans b)).bT (by omega) d) (c9 _ _ _) rfl (aO rfl ?_)⟩
   refine l4 ((i.B b).bT (by omega) d) rfl fun P h f=>?_
   exact E (f.B (d.B (c.trans b) (by omega)) (by omega)) (by omega) (by omega) (g.bT (by omega) f) h
end
theorem JE{Z:V}{o:Addr}{bW:List Value}{q:uD}(b:jX Z o 0 bW)(O:zF Z bW q):
  ∃ a L N bH,fQ Z (o.add 0)=some (.int .i64 q.1)∧fQ Z (o.add 1)=some (.bool q.2.1.1)∧fQ Z (o.add 2)=some (.slice a q.2.1.2.1.length L)∧fQ Z (o.add 3)=some (.bool q.2.2.1.1)∧fQ Z (o.add 4)=some (.slice N q.2.2.1.2.1.length bH)∧fQ Z (o.add 5)=some (.int .i64 q.2.2.2.1)∧
   In .i64 q.1∧bJ Z a L q.2.1.2.1∧bJ Z N bH q.2.2.1.2.1∧In .i64 q.2.2.2.1∧q.2.1.2.1.length≤17592186043904∧q.2.2.1.2.1.length≤17592186043904:=by
 obtain⟨a,L,N,bH,c,d,e,f,g,h,i,j,l,m⟩:=Jz b O
 obtain⟨_,_,_,⟨_,_,_,⟨_,_,_,_,g0⟩,_⟩,_,⟨_,_,_,⟨_,_,_,_,g1⟩,_⟩,_⟩:=O
 exact⟨a,L,N,bH,c,d,e,f,g,h,i,j,l,m,g0,g1⟩
theorem JF{aB aP:V}{b7:Nat}{S:U}{R:Nat}{os:List uD}(s:w0 aP S R os)(Lv:a4 aB aP)(dX:gK aP)(Lo:aP.size≤b7):
  ∀ (M Q:Nat) (Z:V) (K6 D:Int) (I aN:fJ) (a N:U) (L bH:Nat),Q+M=os.length→a4 aP Z→cR Z b7 (lS K6 I.1 a I.2.length L aN.1 N aN.2.length bH D)→bJ aP a L I.2→bJ aP N bH aN.2→In .i64 K6→In .i64 D→
   nK.bG.t (oZ aB) (M+1) ⟨b7,0,none⟩ S os.length R (os.length:Int) (Q:Int) Z:=by
 have a0:os.length≤1759218604390:=s.len
 intro M
 induction M with
 | zero=>
  intro Q Z K6 D I aN a N L bH Lw b1 Lp H pA K8 P
  unfold nK.bG.t nK.b0.t
  refine cD (fun aP=>absurd aP (by omega)) fun _=>?_
  unfold nK.aC.t
  exact⟨Lv.trans b1,rfl⟩
 | succ M La=>
  intro Q Z K6 D I aN a N L bH Lw b1 Lp H pA K8 P
  unfold nK.bG.t nK.b0.t
  refine cD (fun _=>?_) fun aP=>absurd (by omega) aP
  obtain⟨q,Lx⟩:∃ q,os[Q]?=some q:=⟨os[Q]'(by omega),by simp⟩
  refine FG s rfl rfl Lx fun o bW LL Ly O=>?_
  obtain⟨LM,LN,fF,LO,Lz,LA,LB,LC,LD,LF,e,i,j,l,g0,g1⟩:=JE Ly O
  refine vC (b1.cell Lz) (bI rfl (vC (b1.cell LA) (aO rfl (vC (b1.cell LB) (k rfl (vC (b1.cell LC) (aO rfl (vC (b1.cell LD) (k rfl (vC (b1.cell LF) (bI rfl ?_)))))))))))
  obtain⟨aL,Lq⟩:∃ aL:fJ,aL=(q.2.1.1,q.2.1.2.1):=⟨_,rfl⟩
  obtain⟨bA,Lr⟩:∃ bA:fJ,bA=(q.2.2.1.1,q.2.2.1.2.1):=⟨_,rfl⟩
  have aQ:q.2.1.1=aL.1:=by rw [Lq]
  have Ls:q.2.1.2.1=aL.2:=by rw [Lq]
  have g4:q.2.2.1.1=bA.1:=by rw [Lr]
  have Lt:q.2.2.1.2.1=bA.2:=by rw [Lr]
  rw [Ls] at i g0
  rw [Lt] at j g1
  rw [aQ,Ls,g4,Lt]
  refine cK fun LP LG LH=>sW LG rfl fun K5 b LI=>?_
  have Lu:a4 Z K5:=LI.B LH (Nat.le_refl _)
  have f:=b1.trans Lu
  have E:=Lp.B Lu
  have next:∀ A,a4 K5 A→a2 (IntKind.i64.wrap ((Q:Int)+1)) fun LJ=>nK.bG.t (oZ aB) (M+1) ⟨b7,0,none⟩ S os.length R (os.length:Int) LJ A:=by
   intro A eA
   refine cP ((Q+1:Nat):Int) (by omega) (by omega) (by omega) ?_
   exact La (Q+1) A K6 D I aN a N L bH (by omega) (f.trans eA) (E.B eA) H pA K8 P
  refine lY b rfl (cD (fun _=>?_) fun _=>?_)
  ·refine kU b (bF (Bc (I:=aL) (aN:=bA) e (i.B f) (j.B f) rfl rfl l g0 g1) fun v K9 ⟨m,cO⟩=>?_)
   subst cO
   exact aO rfl (h9 (fun c=>absurd c (by simp)) fun _=>next _ m)
  refine lY b rfl (cD (fun _=>?_) fun _=>?_)
  ·refine kU b (bF (Bc (I:=aL) (aN:=bA) e (i.B f) (j.B f) rfl rfl l g0 g1) fun v K9 ⟨m,cO⟩=>?_)
   subst cO
   exact aO rfl (h9 (fun c=>absurd c (by simp)) fun _=>next _ m)
  refine lY b rfl (cD (fun _=>?_) fun _=>?_)
  ·refine lY b rfl (cD (fun _=>?_) fun _=>?_)
   ·refine kU b (bF (Bc (I:=aL) (aN:=bA) e (i.B f) (j.B f) rfl rfl l g0 g1) fun v K9 ⟨m,cO⟩=>?_)
    subst cO
    exact aO rfl (h9 (fun c=>absurd c (by simp)) fun _=>next _ m)
   ·refine kU E (cK fun K9 Lb m=>sW Lb rfl fun Lc Ld Le=>?_)
    have K7:a4 K5 Lc:=Le.B m (Nat.le_refl _)
    refine lY (b.B K7) rfl ?_
    refine kJ Ld (Nat.le_of_ble_eq_true rfl) fun Lf Lg Lh=>?_
    have g:a4 K5 Lf:=Lh.B K7 (Nat.le_refl _)
    have d:=f.trans g
    refine kU (b.B g) (kU (E.B g) ?_)
    refine bF (wZ (I:=aL) (aN:=bA) (p4:=I) (sZ:=aN) e (i.B d) (j.B d) rfl rfl l g0 g1 K8 (H.B d) (pA.B d) rfl rfl P (dX.B d)) fun v Li ⟨n,cO⟩=>?_
    subst cO
    refine aO rfl (h9 (fun c=>absurd c (by simp)) fun _=>?_)
    have h:=d.trans n
    have Lj:cR Li _ (lS q.1 I.1 a I.2.length L aN.1 N aN.2.length bH D):=Lg.B n
    refine kU (b.B (g.trans n)) (kU Lj ?_)
    refine bF (wZ (I:=aL) (aN:=bA) (p4:=I) (sZ:=aN) e (i.B h) (j.B h) rfl rfl l g0 g1 e (H.B h) (pA.B h) rfl rfl P (dX.B h)) fun v LK ⟨Lk,cO⟩=>?_
    subst cO
    refine aO rfl (h9 (fun c=>absurd c (by simp)) fun _=>?_)
    have G:=g.trans (n.trans Lk)
    refine kU (b.B G) (sW (E.B G) rfl fun Ll Lm Ln=>?_)
    refine cP ((Q+1:Nat):Int) (by omega) (by omega) (by omega) ?_
    exact La (Q+1) Ll q.1 q.2.2.2.1 aL bA _ _ _ _ (by omega) (Ln.B (f.trans G) Lo) Lm i j e l
  ·refine kU E (cK fun K9 Lb m=>sW Lb rfl fun Lc Ld Le=>?_)
   have K7:a4 K5 Lc:=Le.B m (Nat.le_refl _)
   refine lY (b.B K7) rfl ?_
   refine kJ Ld (Nat.le_of_ble_eq_true rfl) fun Lf Lg Lh=>?_
   have g:a4 K5 Lf:=Lh.B K7 (Nat.le_refl _)
   have d:=f.trans g
   refine kU (b.B g) (kU (E.B g) ?_)
   refine bF (wZ (I:=aL) (aN:=bA) (p4:=I) (sZ:=aN) e (i.B d) (j.B d) rfl rfl l g0 g1 K8 (H.B d) (pA.B d) rfl rfl P (dX.B d)) fun v Li ⟨n,cO⟩=>?_
   subst cO
   refine aO rfl (h9 (fun c=>absurd c (by simp)) fun _=>?_)
   have h:=d.trans n
   have Lj:cR Li _ (lS q.1 I.1 a I.2.length L aN.1 N aN.2.length bH D):=Lg.B n
   refine kU (b.B (g.trans n)) (kU Lj ?_)
   refine bF (wZ (I:=aL) (aN:=bA) (p4:=I) (sZ:=aN) e (i.B h) (j.B h) rfl rfl l g0 g1 e (H.B h) (pA.B h) rfl rfl P (dX.B h)) fun v LK ⟨Lk,cO⟩=>?_
   subst cO
   refine aO rfl (h9 (fun c=>absurd c (by simp)) fun _=>?_)
   have G:=g.trans (n.trans Lk)
   refine kU (b.B G) (sW (E.B G) rfl fun Ll Lm Ln=>?_)
   refine cP ((Q+1:Nat):Int) (by omega) (by omega) (by omega) ?_
   exact La (Q+1) Ll q.1 q.2.2.2.1 aL bA _ _ _ _ (by omega) (Ln.B (f.trans G) Lo) Lm i j e l
theorem JG{S:U}{R i:Nat}{os:List uD}{Z:V}(E:w0 Z S R os)(G:i=os.length)(dX:gK Z):
  aF nK.id #[.slice S i R] Z fun v A=>a4 Z A∧v=.bool true:=by
 subst G
 refine nK.ok ?_
 unfold nK.t nK.F.t
 refine bF (kZ.aY (I:=-5) (by decide)) fun v H ⟨P,K5,K6,cO,K7⟩=>?_
 subst cO
 refine bZ rfl (aM (aO rfl (aM (k rfl (bP ?_)))))
 refine Cm [1,2] (by rfl) (by decide) (by decide) fun f K8 j=>?_
 refine cK fun Lh K9 La=>sW K9 rfl fun Lb l Lc=>?_
 have Ld:a4 f Lb:=Lc.B La (Nat.le_refl _)
 have m:bJ f K5 K6 (fE (-5)).2:=(K7.B j).jD
 have n:bJ f (some ⟨H.size,0,none⟩) 2 [1,2]:=K8.rd (by decide)
 have d:=P.trans j
 refine bF Ii fun v Li ⟨a,J⟩=>?_
 have J:v=.bool true:=J
 subst J
 refine aO rfl ⟨a.c1 (Nat.le_refl _),?_⟩
 refine h9 (fun g=>absurd g (by simp)) fun _=>?_
 have D:=l.B a
 refine⟨l.lt,kU D ?_⟩
 refine bF (kZ.aY (I:=9) (by decide)) fun v Lj ⟨b,Lk,Ll,cO,Le⟩=>?_
 subst cO
 refine bZ rfl (aM (aO rfl (aM (k rfl (bP ⟨b.c1 a.le,?_⟩)))))
 refine bF (kZ.aY (I:=-4) (by decide)) fun v Lm ⟨c,Ln,Lo,cO,Lf⟩=>?_
 subst cO
 refine bZ rfl (aM (aO rfl (aM (k rfl (bP ⟨c.c1 (a.trans b).le,?_⟩)))))
 have e:=Ld.trans (a.trans (b.trans c))
 have Lp:(fE (-5)).2.length≤8192:=AV (Q:=-5) (by decide)
 refine bF (wZ (I:=fE (-5)) (aN:=(false,[1,2])) (p4:=fE 9) (sZ:=fE (-4)) (by decide) (m.B e) (n.B e) rfl rfl (by decide) (by omega) (by decide) (by decide) (Le.B c).jD Lf.jD rfl rfl (by decide) (dX.B (d.trans e))) fun v Lg ⟨h,cO⟩=>?_
 subst cO
 refine aO rfl ⟨h.c1 (a.trans (b.trans c)).le,?_⟩
 refine h9 (fun g=>absurd g (by simp)) fun _=>?_
 unfold nK.a7.t
 refine⟨os.length+1,?_⟩
 exact JF (E.B d) d (dX.B d) (Nat.le_refl _) os.length 0 Lg 7 0 (fE (-5)) (false,[1,2]) _ _ _ _ (by omega) (e.trans h) (D.B (b.trans (c.trans h))) m n (by decide) (by decide)
end Go.Proofs.YtllhckjfhefcdaaGreatDoor.G
