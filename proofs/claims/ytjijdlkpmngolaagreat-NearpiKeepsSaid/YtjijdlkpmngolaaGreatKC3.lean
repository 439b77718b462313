import Derived.LoopNIn
import Derived.TacticsIn
import Derived.RangeFuncKeeps
import Derived.RangeFuncCalls
import Derived.Shelf.Abstract
import Derived.RangeFuncFrom
import Derived.Test.YtjijdlkpmngolaaGreatKA
import Derived.Test.YtjijdlkpmngolaaGreatKM
import Derived.Test.YtjijdlkpmngolaaGreatKQ0
import Derived.Test.YtjijdlkpmngolaaGreatKQ1
import Derived.Test.YtjijdlkpmngolaaGreatKQ2
import Derived.Test.YtjijdlkpmngolaaGreatKQ3
import Derived.Test.YtjijdlkpmngolaaGreatKQ4
import Derived.Test.YtjijdlkpmngolaaGreatKQ5
import Derived.Test.YtjijdlkpmngolaaGreatKQ6
import Derived.Test.YtjijdlkpmngolaaGreatKQ7
import Derived.Test.YtjijdlkpmngolaaGreatKE
import Derived.Test.YtjijdlkpmngolaaGreatKB
import Derived.Test.YtjijdlkpmngolaaGreatKC0
import Derived.Test.YtjijdlkpmngolaaGreatKC1
import Derived.Test.YtjijdlkpmngolaaGreatKC2
set_option linter.unusedVariables false
namespace Go.Gv
set_option linter.unusedVariables false
set_option linter.unusedSimpArgs false
variable {P:Program} {E:Env}
def p8(F:Fence):Prop:=F=Fence.wide∨∃ l,F=Fence.wide.inRound l
theorem p8.fn{F:Fence}(Z:p8 F)(f:FuncId):F.fn f:=by
 rcases Z with rfl | ⟨l,rfl⟩ <;> exact trivial
theorem p8.depth{F:Fence}(Z:p8 F)(m:Nat):F.depth.isSome=true→1≤m:=by
 rcases Z with rfl | ⟨l,rfl⟩ <;> intro N <;> cases N
theorem p8.calls{F:Fence}(Z:p8 F){m:Nat}{f:FuncId}{args:Array Value}{aE:World}{Y:Ending→World→Prop}(c:Calls P f args aE Y):CallsIn F m P f args aE Y:=by
 rcases Z with rfl | ⟨l,rfl⟩
 ·exact callsIn_wide.2 c
 ·exact CallsIn.inRound l (callsIn_wide.2 c)
def q7(P:Program)(v:Value)(args:Array Value)(Z:U)(aH:Value→U→Prop):Prop:=
 ∃ l,v=.func (.yield l) #[] #[]∧∀ aE:World,aE.heap=Z→YieldAt Fence.wide 0 P l args aE fun N cK=>∃ v,N=.returned v∧e2 aE cK∧aH v cK.heap
theorem q7.mono{v:Value}{args:Array Value}{Z:U}{aH a:Value→U→Prop}(b:∀ v Z,aH v Z→a v Z)(c:q7 P v args Z aH):q7 P v args Z a:=by
 obtain⟨l,N,c⟩:=c
 refine⟨l,N,fun aE d=>?_⟩
 obtain⟨fn,tmps,assign,body,r,R⟩:=c aE d
 exact⟨fn,tmps,assign,body,r,R.mono fun N cK ⟨v,a1,e,f⟩=>⟨v,a1,e,b _ _ f⟩⟩
def Bw(aQ:Oper):Bool:=match aQ.op with
 | .call c=>(match c.callee with
  | .value (.tmp _)=>true
  | _=>false)
 | .makeFunc (.func _) _ _=>true
 | _=>false
def q8(aQ:Oper):Bool:=match aQ.op with
 | .defer _=>true
 | _=>false
def zQ(P:Program)(E:Env)(aQ:Oper)(X:Fr)(Z:U)(aH:Value→U→Prop):Prop:=
 match aQ.op with
 | .call c=>(match c.callee with
  | .value (.tmp t)=>q7 P (X t) (c.args.toList.map (c3 X)).toArray Z fun v aB=>sK E aQ.type v fun a=>aH a aB
  | _=>n6 P E false 0 aQ X Z aH)
 | .makeFunc (.func f) first captured=>aH (.func (.func f) (first.toList.map (c3 X)).toArray (captured.toList.map (c3 X)).toArray) Z
 | _=>n6 P E false 0 aQ X Z aH
def r8(P:Program)(E:Env):List Oper→Fr→U→(Fr→U→Prop)→Prop
 | [],X,Z,aH=>aH X Z
 | aQ :: rest,X,Z,aH=>match aQ.guard with
  | none=>zQ P E aQ X Z fun v aB=>r8 P E rest (lT X aQ.dst v) aB aH
  | some _=>False
def fS(P:Program)(E:Env):Code→(aV→Fr→U→Prop)→Fr→U→Prop
 | .skip,Q,X,Z=>Q .normal X Z
 | .region id ops draw,Q,X,Z=>bif ops.toList.any Bw then r8 P E ops.toList X Z (Q .normal) else den P E (.region id ops draw) Q X Z
 | .seq a K,Q,X,Z=>fS P E a (aV.then (fS P E K Q) Q) X Z
 | .cond c a K,Q,X,Z=>match c3 X c with
  | .bool t=>cond t (fS P E a Q (x5 X c true) Z) (fS P E K Q (x5 X c false) Z)
  | _=>False
 | .block id c,Q,X,Z=>fS P E c (aV.inBlock id Q) X Z
 | .loop c,Q,X,Z=>∃ n,iter (fun bP=>fS P E c (aV.then bP Q)) n X Z
 | .exit id,Q,X,Z=>Q (.exit id) X Z
 | .ret,Q,X,Z=>Q .ret X Z
 | .rangeFunc ..,_,_,_=>False
 | .scope _,_,_,_=>False
 | .label _,Q,X,Z=>Q .normal X Z
 | .goto _,_,_,_=>False
 | .refuse _,_,_,_=>False
theorem MS{aQ:Oper}{X:Fr}{Z:U}{aH b:Value→U→Prop}(a:∀ v Z,aH v Z→b v Z)(aW:zQ P E aQ X Z aH):zQ P E aQ X Z b:=by
 unfold zQ at *
 split at aW
 ·split at aW
  ·exact q7.mono (fun v aB g=>Cd (fun c=>a c aB) g) aW
  ·exact Aw a aW
 ·exact a _ _ aW
 ·exact Aw a aW
theorem Hw:∀ {l:List Oper} {X:Fr} {Z:U} {aH a:Fr→U→Prop},(∀ X Z,aH X Z→a X Z)→r8 P E l X Z aH→r8 P E l X Z a
 | [],_,_,_,_,b,aW=>b _ _ aW
 | aQ :: rest,X,Z,aH,a,b,aW=>by
  unfold r8 at *
  split at aW
  ·exact MS (fun v aB g=>Hw b g) aW
  ·cases aW
theorem Bx:∀ {c:Code} {Q b:aV→Fr→U→Prop} {X:Fr} {Z:U},(∀ N X Z,Q N X Z→b N X Z)→fS P E c Q X Z→fS P E c b X Z:=by
 intro c
 induction c with
 | skip=>intro Q b X Z a aW;exact a _ _ _ aW
 | label l=>intro Q b X Z a aW;exact a _ _ _ aW
 | ret=>intro Q b X Z a aW;exact a _ _ _ aW
 | exit id=>intro Q b X Z a aW;exact a _ _ _ aW
 | region id ops draw=>
  intro Q b X Z a aW
  unfold fS at *
  cases h:ops.toList.any Bw with
  | true=>rw [h] at aW;simp only [cond_true] at aW ⊢;exact Hw (a _) aW
  | false=>rw [h] at aW;simp only [cond_false] at aW ⊢;exact yK a aW
 | seq L aT d e=>
  intro Q b X Z a aW
  refine d (fun N i aB g=>?_) aW
  cases N with
  | normal=>exact e a g
  | exit id=>exact a _ _ _ g
  | ret=>exact a _ _ _ g
 | cond c L aT d e=>
  intro Q b X Z a aW
  simp only [fS] at *
  split at aW
  ·rename_i t N
   cases t with
   | true=>exact d a aW
   | false=>exact e a aW
  ·cases aW
 | block id c bZ=>
  intro Q b X Z a aW
  refine bZ (fun N i aB g=>?_) aW
  cases N with
  | normal=>exact a _ _ _ g
  | ret=>exact a _ _ _ g
  | exit j=>
   simp only [aV.inBlock] at *
   cases a3:Nat.beq j id with
   | true=>rw [a3] at g;exact a _ _ _ g
   | false=>rw [a3] at g;exact a _ _ _ g
 | loop c bZ=>
  intro Q b X Z a aW
  obtain⟨n,aW⟩:=aW
  refine⟨n,?_⟩
  have key:∀ n X Z,iter (fun bP=>fS P E c (aV.then bP Q)) n X Z→iter (fun bP=>fS P E c (aV.then bP b)) n X Z:=by
   intro n
   induction n with
   | zero=>intro X Z g;exact g
   | succ n k=>
    intro X Z g
    refine bZ (fun N i aB f=>?_) g
    cases N with
    | normal=>exact k _ _ f
    | exit id=>exact a _ _ _ f
    | ret=>exact a _ _ _ f
  exact key n X Z aW
 | _=>intro Q b X Z a aW;exact aW
def l4:Code→Bool
 | .region _ ops draw=>!draw
 | .seq a K=>l4 a && l4 K
 | .cond _ a K=>l4 a && l4 K
 | .block _ c=>l4 c
 | .loop c=>l4 c
 | .scope c=>l4 c
 | _=>true
def l5(E:Env)(n:Nat):Code→Bool
 | .region _ ops draw=>uU E n ops draw && ops.toList.all (fun aQ=>!q8 aQ) && (!ops.toList.any Bw || !draw)
 | .seq a K=>l5 E n a && l5 E n K
 | .cond _ a K=>l5 E n a && l5 E n K
 | .block _ c=>l5 E n c
 | .loop c=>l5 E n c
 | .scope c=>l5 E n c
 | _=>true
theorem By{F:Fence}{a:Operand→Value}{aQ:Oper}(Z:q8 aQ=false):aQ.semAt F.round a=execOp a aQ:=
 Oper.semAt_eq _ _ _ fun c N=>by unfold q8 at Z;rw [N] at Z;cases Z
theorem Hx{F:Fence}(b:p8 F){m:Nat}{md:Bool}{c4:Nat}{ops:Array Oper}{aQ:Oper}{a:Act}{aE:World}{bP:Value→U→Prop}(bH:fE P E md c4 ops aQ a aE.heap bP)(k:q8 aQ=false)
  {aH:Act→World→Prop} {Q:Exit→Act→World→Prop} (d:∀ v cK,e2 aE cK→bP v cK.heap→aH (a.put aQ.dst v) cK) :
  if Region.wanted aQ (yielded ops a.tmps) then aQ.wpIn F m P a aE aH Q else(∀ f,aQ.about P aE a.eval=some f→F.fn f)∧aH (a.put aQ.dst undef) aE:=by
 unfold fE at bH
 by_cases i:Region.wanted aQ (yielded ops a.tmps)=true
 ·rw [if_pos i] at bH ⊢
  refine⟨fun f _=>b.fn f,?_⟩
  rw [By k]
  have runs:∀ v,oZ P aQ a aE v→bP v aE.heap→aQ.uponIn F m P a aH Q ((execOp a.eval aQ).run P aE):=by
   intro v l R
   rw [show(execOp a.eval aQ).run P aE=_ from l]
   exact d v aE (e2.refl aE) R
  have j:∀ gQ,nE P aQ a aE gQ→(∀ v Z,gQ v Z→bP v Z)→aQ.uponIn F m P a aH Q ((execOp a.eval aQ).run P aE):=by
   rintro gQ (⟨v,cK,r,aG,R⟩ | ⟨cK,r,aG,R⟩ | ⟨f,args,r,c⟩) h
   ·rw [r];exact d v cK aG (h _ _ R)
   ·rw [r];exact d undef cK aG (h _ _ R)
   ·rw [r,Oper.uponIn_enter]
    refine⟨b.depth m,b.calls (c.mono ?_)⟩
    rintro N cK ⟨v,rfl,aG,R⟩
    exact d v cK aG (h _ _ R)
  cases e:gP E aQ.op with
  | pure=>simp only [e] at bH;obtain⟨v,a1,g⟩:=bH;exact runs v (a1 aE) g
  | load=>
   simp only [e] at bH
   obtain⟨v,a1,g⟩:=bH
   refine runs v (a1 aE ?_) g
   cases md
   ·exact rfl
   ·exact e4.refl _ _
  | quiet=>
   simp only [e] at bH
   obtain⟨v,a1,g⟩:=bH
   obtain⟨f,args,r,c⟩:=a1 aE rfl
   rw [r,Oper.uponIn_enter]
   refine⟨b.depth m,b.calls (c.mono ?_)⟩
   rintro N cK ⟨rfl,aG,R⟩
   exact d v cK aG (by rw [R];exact g)
  | call=>simp only [e] at bH;exact j _ (bH aE rfl) fun v Z R=>R.2
  | act=>simp only [e] at bH;exact j _ (bH aE rfl) fun v Z R=>R
 ·rw [if_neg i] at bH ⊢
  exact⟨fun f _=>b.fn f,d undef aE (e2.refl aE) bH⟩
theorem MT{F:Fence}(b:p8 F){m:Nat}{aQ:Oper}{c:Call}{t:Nat}(d:aQ.op=.call c)(e:c.callee=.value (.tmp t)){X:Fr}{a:Act}(i:a.eval=c3 X){aE:World}{aH:Value→U→Prop}
  (aW:q7 P (X t) (c.args.toList.map (c3 X)).toArray aE.heap aH) {h:Act→World→Prop} {Q:Exit→Act→World→Prop} (j:∀ v cK,e2 aE cK→aH v cK.heap→h (a.put aQ.dst v) cK):aQ.wpIn F m P a aE h Q:=by
 obtain⟨l,k,aW⟩:=aW
 obtain⟨fn,tmps,assign,body,r,R⟩:=aW aE rfl
 have n:q8 aQ=false:=by unfold q8;rw [d]
 refine⟨fun f _=>b.fn f,?_⟩
 rw [By n,i]
 obtain⟨dst,op,type,pos,after,guard⟩:=aQ
 obtain⟨callee,⟨args⟩,qN⟩:=c
 simp only at d e
 subst d;subst e
 have hex:(execOp (c3 X) ⟨dst,.call ⟨.value (.tmp t),⟨args⟩,qN⟩,type,pos,after,guard⟩).run P aE=.ok (.round l fn tmps assign body) aE:=by
  have o:(Instr.yield l (List.map (c3 X) args).toArray).run P aE=.ok (.round l fn tmps assign body) aE:=r
  simp [execOp,resolve,Deferred.ofValue,c3,invoke,k,o]
 rw [hex,Oper.uponIn_round]
 refine⟨b.depth m,?_⟩
 have p:RoundIn F (m - 1) P l fn tmps assign body aE fun N cK=>∃ v,N=.returned v∧e2 aE cK∧aH v cK.heap:=by
  rcases b with rfl | ⟨q,rfl⟩
  ·exact⟨R.1,fun c dR _=>R.2 c dR fun aZ aW=>by cases aW⟩
  ·exact⟨R.1,fun c dR _=>R.2 c dR fun aZ aW=>by cases aW⟩
 refine p.mono ?_
 rintro N cK ⟨v,rfl,aG,g⟩
 exact j v cK aG g
theorem Hy(dA:h4 P E){F:Fence}(e:p8 F){m n:Nat}{ops:Array Oper}{aH:Fr→U→Prop}{Q:Exit→Act→World→Prop}{lJ:World}(j:∀ k o cK,gM n k o→e2 lJ cK→aH k cK.heap→Q .normal o cK):
  ∀ {l:List Oper} {X:Fr} {a:Act} {aE:World},l.all (qK n)=true→l.all (fun aQ=>!q8 aQ)=true→gM n X a→e2 lJ aE→r8 P E l X aE.heap aH→wpListIn F m P ops Q l a aE
 | [],X,a,aE,_,_,b,aG,aW=>j X a aE b aG aW
 | aQ :: rest,X,a,aE,a3,d,b,aG,aW=>by
  simp only [List.all_cons,Bool.and_eq_true] at a3 d
  obtain⟨p,q⟩:=a3
  obtain⟨r,s⟩:=d
  have d:q8 aQ=false:=by simpa using r
  unfold r8 at aW
  split at aW
  ·rename_i u
   have h:Region.wanted aQ (yielded ops a.tmps)=true:=by simp [Region.wanted,u]
   have next:∀ v cK,e2 aE cK→r8 P E rest (lT X aQ.dst v) cK.heap aH→wpListIn F m P ops Q rest (a.put aQ.dst v) cK:=
    fun v cK i R=>Hy dA e j q s (b.put p v) (aG.trans i) R
   unfold wpListIn
   rw [if_pos h]
   have plain:n6 P E false 0 aQ X aE.heap (fun v aB=>r8 P E rest (lT X aQ.dst v) aB aH)→aQ.wpIn F m P a aE (wpListIn F m P ops Q rest) Q:=by
    intro aW
    have a1:=Hx (P:=P) (E:=E) (m:=m) (ops:=ops) (Q:=Q) (aH:=wpListIn F m P ops Q rest) e (B9 (ops:=ops) dA b.c3 aW h) d next
    rw [if_pos h] at a1;exact a1
   unfold zQ at aW
   split at aW
   ·rename_i c g
    split at aW
    ·rename_i t w
     exact MT e g w b.c3 aW fun v cK i R=>by
      obtain x:=B1 R
      exact next v cK i x
    ·exact plain aW
   ·rename_i f first captured g
    refine⟨fun f _=>e.fn f,?_⟩
    rw [By d,b.c3]
    have hex:(execOp (c3 X) aQ).run P aE=.ok (.value (.func (.func f) (first.toList.map (c3 X)).toArray (captured.toList.map (c3 X)).toArray)) aE:=by
     obtain⟨dst,op,type,pos,after,guard⟩:=aQ
     obtain⟨first⟩:=first
     obtain⟨captured⟩:=captured
     simp only at g
     subst g
     simp [execOp,Instr.makeFunc]
    rw [hex]
    exact next _ aE (e2.refl aE) aW
   ·exact plain aW
  ·cases aW
theorem MU(dA:h4 P E){F:Fence}(i:p8 F){m id n:Nat}{ops:Array Oper}(f:uU E n ops false=true)(j:ops.toList.all (fun aQ=>!q8 aQ)=true){X:Fr}{a:Act}{aE:World}(k:gM n X a){Q:aV→Fr→U→Prop}
  (aW:den P E (.region id ops false) Q X aE.heap) {g:Exit→Act→World→Prop} (o:∀ b e cK,gM n b e→e2 aE cK→Q .normal b cK.heap→g .normal e cK) :
  (Code.region id ops false).wpIn F m P g a aE:=by
 obtain⟨l⟩:=ops
 simp only [uU,Bool.and_eq_true] at f
 obtain⟨a3,f⟩:=f
 have p:l.all (qK n)=true:=a3
 have q:j3 P E (rG E false l) aE.heap.size l l X aE.heap (Q .normal):=aW
 have s:=As dA (R:=0) (fun aD=>by simp) p k q
 refine wpIn_region ?_
 have key:∀ (d:List Nat) (a:Act) (c:World),e2 aE c→jI P E (rG E false l) aE.heap.size l.toArray (fun e aB=>∃ b,gM n b e∧Q .normal b aB) d a c.heap→wpOpsIn F m P l.toArray g d a c:=by
  intro d
  induction d with
  | nil=>intro a c aG ⟨b,r,R⟩;exact o b a c r aG R
  | cons O d bZ=>
   intro a c aG R
   unfold wpOpsIn
   simp only [jI] at R
   cases h:l.toArray[O]? with
   | none=>simp only [h] at R ⊢;exact bZ a c aG R
   | some aQ=>
    simp only [h] at R ⊢
    have t:q8 aQ=false:=by
     have a1:=List.all_eq_true.1 j aQ (List.mem_of_getElem? (by simpa using h))
     simpa using a1
    exact Hx i R t fun v cK u c1=>bZ _ cK (aG.trans u) c1
 rw [List.range_eq_range']
 exact key _ a aE (e2.refl aE) (by simpa using s)
theorem xV(dA:h4 P E){F:Fence}(w:p8 F){m n:Nat}:∀ {c:Code} {Q:aV→Fr→U→Prop} {X:Fr} {a:Act} {aE:World} {i:Exit→Act→World→Prop},l5 E n c=true→(F=Fence.wide∨l4 c=true)→gM n X a→fS P E c Q X aE.heap→
  (∀ N e f cK,gM n e f→e2 aE cK→Q N e cK.heap→i N.up f cK)→c.wpIn F m P i a aE:=by
 intro c
 induction c with
 | skip=>intro Q X a aE i g h d aW b;exact wpIn_skip (b .normal X a aE d (e2.refl aE) aW)
 | label l=>intro Q X a aE i g h d aW b;exact wpIn_label (b .normal X a aE d (e2.refl aE) aW)
 | ret=>intro Q X a aE i g h d aW b;exact wpIn_ret (b .ret X a aE d (e2.refl aE) aW)
 | exit id=>intro Q X a aE i g h d aW b;exact wpIn_exit (b (.exit id) X a aE d (e2.refl aE) aW)
 | region id ops draw=>
  intro Q X a aE i g h d aW b
  unfold l5 at g
  rw [Bool.and_eq_true,Bool.and_eq_true] at g
  obtain⟨⟨k,x⟩,y⟩:=g
  unfold fS at aW
  cases z:ops.toList.any Bw with
  | true=>
   rw [z] at aW y
   have B:draw=false:=by simpa using y
   subst B
   simp only [cond_true] at aW
   have a3:ops.toList.all (qK n)=true:=by
    simp only [uU,Bool.and_eq_true] at k;exact k.1
   exact wpIn_region_list (Hy dA w (lJ:=aE) (fun e f cK r aG R=>b .normal e f cK r aG R) a3 x d (e2.refl aE) aW)
  | false=>
   rw [z] at aW
   simp only [cond_false] at aW
   cases draw with
   | false=>exact MU dA w k x d aW fun e f cK r aG R=>b .normal e f cK r aG R
   | true=>
    rcases h with rfl | h
    ·exact wpIn_wide.2 (EO dA k d aW fun e f cK r aG R=>b .normal e f cK r aG R)
    ·cases h
 | seq L aT o p=>
  intro Q X a aE i g h d aW b
  simp only [l5,Bool.and_eq_true] at g
  have q:F=Fence.wide∨l4 L=true:=h.imp id fun Z=>by simp only [l4,Bool.and_eq_true] at Z;exact Z.1
  have s:F=Fence.wide∨l4 aT=true:=h.imp id fun Z=>by simp only [l4,Bool.and_eq_true] at Z;exact Z.2
  refine wpIn_seq (o g.1 q d aW fun N e f cK r aG R=>?_)
  cases N with
  | normal=>exact p g.2 s r R fun C D bO j G s2 H=>b C D bO j G (aG.trans s2) H
  | exit id=>exact b (.exit id) e f cK r aG R
  | ret=>exact b .ret e f cK r aG R
 | cond c L aT o p=>
  intro Q X a aE i g h d aW b
  simp only [l5,Bool.and_eq_true] at g
  have q:F=Fence.wide∨l4 L=true:=h.imp id fun Z=>by simp only [l4,Bool.and_eq_true] at Z;exact Z.1
  have s:F=Fence.wide∨l4 aT=true:=h.imp id fun Z=>by simp only [l4,Bool.and_eq_true] at Z;exact Z.2
  simp only [fS] at aW
  split at aW
  ·rename_i t u
   have I:a.eval c=.bool t:=by rw [d.c3];exact u
   refine wpIn_cond I ?_
   cases t with
   | true=>simp only [cond_true,Ab u] at aW;exact o g.1 q d aW b
   | false=>simp only [cond_false,Ab u] at aW;exact p g.2 s d aW b
  ·cases aW
 | block id c bZ=>
  intro Q X a aE i g h d aW b
  refine wpIn_block (bZ g h d aW fun N e f cK r aG R=>?_)
  cases N with
  | normal=>exact b .normal e f cK r aG R
  | ret=>exact b .ret e f cK r aG R
  | exit A=>
   simp only [aV.inBlock] at R
   simp only [aV.up,Exit.inBlock]
   cases a3:Nat.beq A id with
   | true=>
    simp only [a3,cond_true] at R
    rw [if_pos (Nat.eq_of_beq_eq_true a3)]
    exact b .normal e f cK r aG R
   | false=>
    simp only [a3,cond_false] at R
    rw [if_neg (fun N=>by subst N;simp at a3)]
    exact b (.exit A) e f cK r aG R
 | loop c bZ=>
  intro Q X a aE i g h d aW b
  obtain⟨R,aW⟩:=aW
  refine wpIn_loop_rounds R ?_
  have key:∀ R X a j,gM n X a→e2 aE j→iter (fun bP=>fS P E c (aV.then bP Q)) R X j.heap→Code.roundsIn F m P c i R a j:=by
   intro R
   induction R with
   | zero=>intro X a j _ _ Z;exact Z.elim
   | succ R J=>
    intro X a j d aG Z
    rw [roundsIn_succ]
    refine bZ g h d Z fun N e f cK r v R=>?_
    cases N with
    | normal=>exact J e f cK r (aG.trans v) R
    | exit id=>exact b (.exit id) e f cK r (aG.trans v) R
    | ret=>exact b .ret e f cK r (aG.trans v) R
  exact key R X a aE d (e2.refl aE) aW
 | _=>intro Q X a aE i g h d aW b;exact aW.elim
theorem DB(dA:h4 P E){fn:Func}{dH:List ResultVar}(b:fn.results.toList=dH){n:Nat}{X:Fr}{a:Act}{aE:World}(r:gM n X a){Y:Value→U→Prop}
  (R:qJ E X aE.heap dH fun b8=>Y (wR b8) aE.heap):∃ v,(results fn a.tmps).run P aE=.ok v aE∧Y v aE.heap:=by
 obtain⟨b8,a1,c⟩:=Au dA r R
 refine⟨_,?_,a1⟩
 have d:results fn a.tmps=(fn.results.mapM (yI a.tmps) >>= fun b8=>pure (if Z:b8.size=1 then b8[0] else .tuple b8)):=rfl
 rw [d,Sem.run_bind,Array.mapM_eq_mapM_toList,Sem.run_map,b,c]
 simp only [Result.andThen,Sem.run_pure]
 congr 1
 match b8 with
 | []=>rfl
 | [t]=>rfl
 | t :: e :: kQ=>simp [wR]
theorem Hz(dA:h4 P E){f:FuncId}{fn:Func}{c:Code}{dH:List ResultVar}(e:P.funcs[f]?=some fn)(a3:fn.body=some c)(g:l5 E fn.ntmps c=true)(d:fn.results.toList=dH)
  {args:List Value} (a:Nat.ble args.length fn.ntmps=true) {Z:U} {Y:Value→U→Prop}
  (aW:fS P E c (bC E dH Y) (wQ args) Z):n1 P f args.toArray Z Y:=by
 have a:=Nat.le_of_ble_eq_true a
 intro aE h
 subst h
 refine calls_of_wp e a3 ?_
 have i:=Cc args fn.ntmps a
 have j:fn.ntmps - args.toArray.size=fn.ntmps - args.length:=by simp
 rw [j]
 refine(wpIn_wide (n:=0)).1 (xV dA (.inl rfl) g (.inl rfl) i aW fun N k l cK r aG R=>?_)
 cases N with
 | normal=>obtain⟨v,a1,b⟩:=DB dA d r R;exact⟨r.defers,v,a1,v,rfl,aG,b⟩
 | ret=>obtain⟨v,a1,b⟩:=DB dA d r R;exact⟨r.defers,v,a1,v,rfl,aG,b⟩
 | exit id=>exact R.elim
theorem xW{c:Code}{Q:aV→Fr→U→Prop}{X:Fr}{Z:U}(l:List (Nat × Value))(a:Ax X l){t:Prop}(b:fS P E c Q (yL X l) Z=t)(g:t):fS P E c Q X Z:=by
 rw [← b,Ch a] at g;exact g
theorem MV{bP:Fr→U→Prop}{Q:aV→Fr→U→Prop}:∀ {n:Nat} {c:Code} (_:∀ X Z,bP X Z→fS P E (rest n c) Q X Z) {X:Fr} {Z:U},fS P E (first n c) (aV.then bP Q) X Z→fS P E c Q X Z:=by
 have key:∀ (c:Code),(∀ X Z,bP X Z→fS P E .skip Q X Z)→∀ {X:Fr} {Z:U},fS P E c (aV.then bP Q) X Z→fS P E c Q X Z:=by
  intro c b X Z g
  refine Bx (fun N X Z g=>?_) g
  cases N with
  | normal=>exact b _ _ g
  | exit O=>exact g
  | ret=>exact g
 have one:∀ (a K:Code),(∀ X Z,bP X Z→fS P E K Q X Z)→∀ {X:Fr} {Z:U},fS P E a (aV.then bP Q) X Z→fS P E (.seq a K) Q X Z:=by
  intro a K b X Z g
  show fS P E a (aV.then (fS P E K Q) Q) X Z
  refine Bx (fun N X Z g=>?_) g
  cases N with
  | normal=>exact b _ _ g
  | exit O=>exact g
  | ret=>exact g
 intro n
 induction n with
 | zero=>
  intro c b X Z g
  have e:first 0 c=c:=by cases c <;> rfl
  have f:rest 0 c=.skip:=by cases c <;> rfl
  rw [e] at g;rw [f] at b;exact key c b g
 | succ n bZ=>
  intro c b X Z g
  cases c with
  | seq a K=>
   cases n with
   | zero=>exact one a K b g
   | succ m=>
    have d:fS P E a (aV.then (fS P E (first (m+1) K) (aV.then bP Q)) (aV.then bP Q)) X Z:=g
    rw [E1] at d <;> skip
    all_goals show fS P E a (aV.then (fS P E K Q) Q) X Z
    all_goals refine Bx (fun N X Z g=>?_) d
    all_goals cases N with
     | normal=>exact bZ b g
     | exit O=>exact g
     | ret=>exact g
  | _=>exact key _ (by cases n <;> exact b) (by cases n <;> exact g)
theorem HA(n:Nat){c r:Code}{bP:Fr→U→Prop}{Q:aV→Fr→U→Prop}(a:rest n c=r)(b:∀ X Z,bP X Z→fS P E r Q X Z){X:Fr}{Z:U}(g:fS P E (first n c) (aV.then bP Q) X Z):fS P E c Q X Z:=by
 subst a;exact MV b g
theorem MW{c a:Code}{O:Nat}{Q:aV→Fr→U→Prop}(b:c=.block O a){X:Fr}{Z:U}(g:fS P E a (aV.inBlock O Q) X Z):fS P E c Q X Z:=by
 subst b;exact g
theorem MX{c K:Code}{Q:aV→Fr→U→Prop}(T:Nat→Fr→U→Prop)(a:c=.loop K)(a2:∀ X Z,T 0 X Z→False)(bH:∀ n X Z,T (n+1) X Z→fS P E K (aV.then (T n) Q) X Z)(n:Nat)(X:Fr)(Z:U)(g:T n X Z):fS P E c Q X Z:=by
 subst a
 refine⟨n,?_⟩
 induction n generalizing X Z with
 | zero=>exact(a2 X Z g).elim
 | succ n bZ=>
  show fS P E K (aV.then (iter (fun bP=>fS P E K (aV.then bP Q)) n) Q) X Z
  refine Bx (fun N X Z g=>?_) (bH n X Z g)
  cases N with
  | normal=>exact bZ _ _ g
  | exit O=>exact g
  | ret=>exact g
def vV(v:Value)(aH:Value→Prop):Prop:=aH v
theorem xX{v:Value}{aH:Value→Prop}(Z:vV v aH):∃ L,v=L∧aH L:=⟨v,rfl,Z⟩
theorem HB{v L:Value}{aH:Value→Prop}(N:v=L)(g:aH L):vV v aH:=by subst N;exact g
def MY:Code→Code
 | .rangeFunc _ _ a _=>a
 | c=>c
def MZ:Code→Code
 | .rangeFunc _ _ _ K=>K
 | c=>c
def vW(T:Addr→Addr→Addr→Value→U→Prop):aV→Fr→U→Prop
 | .normal,X,Z=>gW (X 1) fun cQ=>gW (X 2) fun e7=>gW (X 4) fun eH=>vV (X 14) fun v=>T cQ e7 eH v Z
 | _,_,_=>False
def M0(a b:U→Prop):aV→Fr→U→Prop
 | .normal,_,Z=>a Z
 | .ret,_,Z=>b Z
 | _,_,_=>False
set_option linter.unusedSimpArgs false
variable {P:Program} {E:Env}
structure jS(bA:Nat)(Z aB:U):Prop where
 le:Z.size≤aB.size
 at_:∀ (K:Nat) (aQ:Obj),Z[K]?=some aQ→(K < bA∨aQ.isCells=true)→aB[K]?=some aQ
theorem bK.uD{bA:Nat}{Z aB:U}(R:bK Z aB):jS bA Z aB:=⟨R.le,fun K aQ N _=>(R.pre K (Array.getElem?_eq_some_iff.1 N).1).trans N⟩
theorem jS.put{bA l:Nat}{Z:U}{aQ:Obj}(fO:Obj)(a:Z[l]?=some aQ)(c0:bA≤l)(b:aQ.isCells=false):jS bA Z (Z.setIfInBounds l fO):=by
 refine⟨by simp,fun K cY N a3=>?_⟩
 have c:l ≠ K:=by
  rintro rfl
  rcases a3 with a3 | a3
  ·omega
  ·rw [a] at N;cases N;rw [b] at a3;cases a3
 rw [Array.getElem?_setIfInBounds_ne c];exact N
theorem bK.push(Z:U)(aQ:Obj):bK Z (Z.push aQ):=⟨by simp,fun K a3=>by rw [Array.getElem?_push,if_neg (by omega)]⟩
def lQ(Z aB:U):Prop:=∀ (K:Nat) (aQ:Obj),Z[K]?=some aQ→aQ.isCells=false→aB[K]?=some aQ
def uE(P:Program)(l:Nat)(args:Array Value)(Z:U)(aH:Value→U→Prop):Prop:=
 ∀ aE:World,aE.heap=Z→YieldAt Fence.wide 0 P l args aE fun N cK=>∃ v,N=.returned v∧e2 aE cK∧aH v cK.heap
theorem uE.M1{l:Nat}{args:Array Value}{Z:U}{aH:Value→U→Prop}(aT:uE P l args Z aH):q7 P (.func (.yield l) #[] #[]) args Z aH:=⟨l,rfl,aT⟩
theorem uE.mono{l:Nat}{args:Array Value}{Z:U}{aH a:Value→U→Prop}(b:∀ v Z,aH v Z→a v Z)(c:uE P l args Z aH):uE P l args Z a:=by
 intro aE d
 obtain⟨fn,tmps,assign,body,r,R⟩:=c aE d
 exact⟨fn,tmps,assign,body,r,R.mono fun N cK ⟨v,a1,e,f⟩=>⟨v,a1,e,b _ _ f⟩⟩
def HC{dF:Type}(P:Program)(a:Nat)(b:Array Value)(c:dF→Array Value)(d:U→U→Prop)(c8 e:List dF→Prop)(bP:Nat)(a2:U):Prop:=
 ∀ (l:Nat) (f g:List dF→U→Prop) (Z:U),bK a2 Z→(∀ aG Z aB,f aG Z→bK Z aB→f aG aB)→(∀ aG Z aB,g aG Z→bK Z aB→g aG aB)→
  (∀ pre L a1,f pre a1→pre.length < bP→uE P l (c L) a1 fun v aB=>(v=.bool true∧f (pre ++ [L]) aB∧d a1 aB)∨(v=.bool false∧g (pre ++ [L]) aB))→
  f [] Z→n1 P a (#[.func (.yield l) #[] #[]] ++ b) Z fun _ aB=>(∃ aC,c8 aC∧f aC aB)∨(∃ pre,e pre∧g pre aB)
def M3{dF:Type}(a:U→U→Prop)(b c:List dF→U→Prop)(aC:List dF)(bR:World):Exit→Act→World→Prop
 | .normal,_,d=>e2 bR d∧lQ bR.heap d.heap∧a bR.heap d.heap∧b aC d.heap
 | .ret,_,d=>e2 bR d∧lQ bR.heap d.heap∧c aC d.heap
 | _,_,_=>False
theorem M4{dF:Type}{n:Nat}{g:Operand}{x:Array Tmp}{assign body:Code}{Q:Exit→Act→World→Prop}{a:Act}{aE:World}
  {j:Nat} {y:Array Value} (QA:a.eval g=.func (.func j) #[] y) (QB:∀ args aE,(callFunc j args).run P aE=.ok (.enter j args) aE)
  {z:dF→Array Value} {k:U→U→Prop} {c8 H:List dF→Prop} {bP:Nat} (QC:HC P j y z k c8 H bP aE.heap)
  (I:∀ {m bA aO:U},k m bA→k bA aO→k m aO) (J:∀ Z aB,jS aE.heap.size Z aB→k Z aB) (QD:∀ L,(z L).size=x.size)
  (h s:List dF→U→Prop) (u:∀ aG Z aB,h aG Z→jS aE.heap.size Z aB→h aG aB) (B:∀ aG Z aB,s aG Z→jS aE.heap.size Z aB→s aG aB) (a2:h [] aE.heap) (T:dF→Act)
  (QE:∀ (l:Nat) (L:dF) (bR:World) (aH:Act→World→Prop),aH (T L) bR→
   assign.wpIn (Fence.wide.inRound l) 0 P (Exit.then aH (fun _ _ _=>False)) { tmps:=(x.zip (z L)).foldl (fun t (p,v)=>t.setIfInBounds p v) a.tmps,defers:=[] } bR)
  (QF:∀ (l:Nat) (pre:List dF) (L:dF) (bR:World),h pre bR.heap→pre.length < bP→body.wpIn (Fence.wide.inRound l) 0 P (M3 k h s (pre ++ [L]) bR) (T L) bR)
  (QG:∀ (D:Nat) (aC:List dF) (bR:World),aE.heap.size≤D→e2 aE bR→c8 aC→h aC bR.heap→bR.heap[D]?=some (.deferred (some []))→Q .normal { a with defers:={ target:=.collected D,args:=#[] } :: a.defers } bR)
  (QH:∀ (D:Nat) (pre:List dF) (bR:World),aE.heap.size≤D→e2 aE bR→H pre→s pre bR.heap→bR.heap[D]?=some (.deferred (some []))→Code.ret.wpIn Fence.wide n P Q { a with defers:={ target:=.collected D,args:=#[] } :: a.defers } bR) :
  (Code.rangeFunc g x assign body).wpIn Fence.wide n P Q a aE:=by
 refine wpIn_rangeFunc ?_
 intro fn QI
 rw [show Fence.wide.round=none from rfl]
 obtain⟨rec,e⟩:∃ rec:LoopState→Option Code→Loop,rec=fun QJ QK=>{ state:=QJ,pending:=QK,fn,tmps:=a.tmps,params:=x,assign,body,defers:=aE.heap.size }:=⟨_,rfl⟩
 obtain⟨d,w⟩:∃ d,(aE.alloc (.deferred (some []))).alloc (.loop (rec .ready none))=d:=⟨_,rfl⟩
 have QL:d.heap[aE.heap.size+1]?=some (.loop (rec .ready none)):=by
  rw [← w];have:=World.alloc_heap_new (aE.alloc (.deferred (some []))) (.loop (rec .ready none));rwa [World.size_alloc] at this
 have QM:d.heap[aE.heap.size]?=some (.deferred (some [])):=by
  rw [← w];show((aE.heap.push _).push _)[aE.heap.size]?=_;simp [Array.getElem?_push]
 have V:bK aE.heap d.heap:=by rw [← w];exact(bK.push _ _).trans (bK.push _ _)
 have Qx:e2 aE d:=by rw [← w];exact⟨rfl,rfl,rfl⟩
 have QN:h [] d.heap:=u _ _ _ a2 V.uD
 refine⟨aE.heap.size+1,[{ target:=.collected aE.heap.size,args:=#[] }],d,{ target:=.fn (.func j) y,args:=#[.func (.yield (aE.heap.size+1)) #[] #[]] },d,j,
  #[.func (.yield (aE.heap.size+1)) #[] #[]] ++ y,d,?_,?_,fun _ _=>trivial,?_,fun N=>(by cases N),?_⟩
 ·rw [← w,e];exact run_enterLoop_outer _ _ _ _ _
 ·simp only [resolve,QA]
  simp [go_sem]
 ·simp [invoke,go_sem,QB]
 ·have QO:=QC (aE.heap.size+1)
   (fun pre Z=>h pre Z∧Z[aE.heap.size+1]?=some (.loop (rec .ready none))∧Z[aE.heap.size]?=some (.deferred (some [])))
   (fun pre Z=>s pre Z∧Z[aE.heap.size+1]?=some (.loop (rec .done (some .ret)))∧Z[aE.heap.size]?=some (.deferred (some [])))
   d.heap V
   (fun aG m bA bH c=>⟨u aG m bA bH.1 c.uD,(c.pre _ (Array.getElem?_eq_some_iff.1 bH.2.1).1).trans bH.2.1,(c.pre _ (Array.getElem?_eq_some_iff.1 bH.2.2).1).trans bH.2.2⟩)
   (fun aG m bA bH c=>⟨B aG m bA bH.1 c.uD,(c.pre _ (Array.getElem?_eq_some_iff.1 bH.2.1).1).trans bH.2.1,(c.pre _ (Array.getElem?_eq_some_iff.1 bH.2.2).1).trans bH.2.2⟩)
   ?_ ⟨QN,QL,QM⟩
  ·refine CallsIn.mono (callsIn_wide.2 (QO d rfl)) ?_
   rintro N o ⟨v,rfl,s2,(⟨aC,QP,a8,f,c⟩ | ⟨pre,QQ,a8,f,c⟩)⟩
   ·refine⟨none,o.putObj (aE.heap.size+1) (.loop { rec .ready none with state:=.exhausted }),by have:=run_endLoop (P:=P) f (by rw [e];simp);rw [e] at this ⊢;exact this,?_⟩
    have iU:e2 o (o.putObj (aE.heap.size+1) (.loop { rec .ready none with state:=.exhausted })):=⟨rfl,rfl,rfl⟩
    exact QG _ aC _ (Nat.le_refl _) (Qx.trans (s2.trans iU)) QP (u _ _ _ a8 (jS.put _ f (by omega) rfl)) ((World.putObj_heap_other (by omega)).trans c)
   ·refine⟨some .ret,o.putObj (aE.heap.size+1) (.loop { rec .done (some .ret) with state:=.exhausted }),by have:=run_endLoop (P:=P) f (by rw [e];simp);rw [e] at this ⊢;exact this,?_⟩
    have iU:e2 o (o.putObj (aE.heap.size+1) (.loop { rec .done (some .ret) with state:=.exhausted })):=⟨rfl,rfl,rfl⟩
    exact QH _ pre _ (Nat.le_refl _) (Qx.trans (s2.trans iU)) QQ (B _ _ _ a8 (jS.put _ f (by omega) rfl)) ((World.putObj_heap_other (by omega)).trans c)
  ·rintro pre L a1 ⟨a8,f,c⟩ QR bR rfl
   have dC:aE.heap.size+1 < bR.heap.size:=(Array.getElem?_eq_some_iff.1 f).1
   have Qy:=run_yield (P:=P) (args:=z L) f (by rw [e];exact QD L)
   rw [e] at Qy
   refine⟨fn,_,assign,body,Qy,roundIn_of_wpIn QI (QE _ L bR _ ⟨_,run_beginRound f (by rw [e]),?_⟩)⟩
   have QS:(bR.putObj (aE.heap.size+1) (.loop { rec .ready none with state:=.busy })).heap[aE.heap.size+1]?=some (.loop { rec .ready none with state:=.busy }):=World.putObj_heap_same dC
   have QT:(bR.putObj (aE.heap.size+1) (.loop { rec .ready none with state:=.busy })).heap[aE.heap.size]?=some (.deferred (some [])):=(World.putObj_heap_other (by omega)).trans c
   have Qz:jS aE.heap.size bR.heap (bR.putObj (aE.heap.size+1) (.loop { rec .ready none with state:=.busy })).heap:=jS.put _ f (by omega) rfl
   refine wpIn_mono (QF _ pre L _ (u _ _ _ a8 Qz) QR) ?_
   have fin:∀ (jump:Option Code) (b:World),lQ (bR.putObj (aE.heap.size+1) (.loop { rec .ready none with state:=.busy })).heap b.heap→
     (Instr.endRound (aE.heap.size+1) jump).run P b=.ok (.bool jump.isNone) (b.putObj (aE.heap.size+1) (.loop (rec (if jump.isNone then .ready else .done) jump)))∧
     b.heap[aE.heap.size+1]?=some (.loop { rec .ready none with state:=.busy })∧
     (b.putObj (aE.heap.size+1) (.loop (rec (if jump.isNone then .ready else .done) jump))).heap[aE.heap.size+1]?=some (.loop (rec (if jump.isNone then .ready else .done) jump))∧
     (b.putObj (aE.heap.size+1) (.loop (rec (if jump.isNone then .ready else .done) jump))).heap[aE.heap.size]?=some (.deferred (some [])):=fun jump b q=>by
    have i:=q _ _ QS rfl
    have:=run_endRound (P:=P) jump i
    rw [e] at this ⊢
    exact⟨this,by rw [e] at i;exact i,World.putObj_heap_same (Array.getElem?_eq_some_iff.1 i).1,(World.putObj_heap_other (by omega)).trans (q _ _ QT rfl)⟩
   rintro N c9 b r
   cases N with
   | normal=>
    obtain⟨iU,q,QU,C⟩:=r
    obtain⟨E,i,F,G⟩:=fin none b q
    have A:jS aE.heap.size b.heap (b.putObj (aE.heap.size+1) (.loop (rec .ready none))).heap:=jS.put _ i (by omega) rfl
    exact⟨_,_,E,_,rfl,⟨iU.os,iU.tape,iU.output⟩,.inl ⟨rfl,⟨u _ _ _ C A,F,G⟩,I (I (J _ _ Qz) QU) (J _ _ A)⟩⟩
   | ret=>
    obtain⟨iU,q,C⟩:=r
    obtain⟨E,i,F,G⟩:=fin (some .ret) b q
    have A:jS aE.heap.size b.heap (b.putObj (aE.heap.size+1) (.loop (rec .done (some .ret)))).heap:=jS.put _ i (by omega) rfl
    exact⟨_,_,E,_,rfl,⟨iU.os,iU.tape,iU.output⟩,.inr ⟨rfl,B _ _ _ C A,F,G⟩⟩
   | exit id=>exact r.elim
   | goto t=>exact r.elim
   | panic QV=>exact r.elim
   | outgrown=>exact r.elim
end Go.Gv
namespace Go.Proofs.YtjijdlkpmngolaaGreat.G
open Go.Gv
set_option maxRecDepth 100000
set_option linter.unusedVariables false
set_option maxRecDepth 100000
namespace nA
noncomputable def aO:Code:=dY Tryz.f104
def dG.g(bP:Value→S→Nat→Nat→S→Nat→Nat→S→Nat→Nat→S→Nat→Nat→U→Prop)(X:Fr)(Z:U):Prop:=vV (X 0) fun a=>aR (X 6) fun bG b bI=>aR (X 7) fun bX c bY=>aR (X 8) fun b6 d b7=>aR (X 9) fun e f h=>bP a bG b bI bX c bY b6 d b7 e f h Z
def cF.t(Y:aF)(b1:Value→S→Nat→Nat→S→Nat→Nat→S→Nat→Nat→S→Nat→Nat→U→Prop)(a:Value)(bG:S)(b:Nat)(bI:Nat)(bX:S)(c:Nat)(bY:Nat)(b6:S)(d:Nat)(b7:Nat)(e:S)(f:Nat)(g:Nat)(Z:U):Prop:=
 a4 nP.id #[.slice bG b bI,.slice bX c bY] Z fun b fV=>
 cW b fun b=>
 cV b fun b h=>
 aR b fun b i j=>
 cV h fun h k=>
 aR h fun h l m=>
 cV k fun k n=>
 a0 .i64 k fun k=>
 b9 n <| a4 nP.id #[.slice b6 d b7,.slice e f g] fV fun d n=>
 cW d fun d=>
 cV d fun d o=>
 aR d fun d p q=>
 cV o fun o r=>
 aR o fun o s u=>
 cV r fun r v=>
 a0 .i64 r fun r=>
 b9 v <| cond (k != 0) (Y (.tuple #[]) n) (cond (r != 0) (Y (.tuple #[]) n) (a4 jO.id #[.slice b i j,.slice d p q] n fun d j=>
 a0 .i64 d fun d=>
 cond (d != 0) (Y (.tuple #[]) j) (cond (decide ((((i:Nat):Int)) > 1)) (Y (.tuple #[]) j) (cond ((((i:Nat):Int)) == 1) (c6 b i 0 1 fun b=>
 fZ j b fun b=>
 a0 .u64 b fun b=>
 q7 prog a #[.int .u64 b] j fun b d=>
 eU b fun b=>
 cond (!b) (Y (.tuple #[]) d) (b1 a bX c bY h l m e f g o s u d)) (q7 prog a #[.int .u64 0] j fun b d=>
 eU b fun b=>
 cond (!b) (Y (.tuple #[]) d) (b1 a bX c bY h l m e f g o s u d))))))
def cF.g(Y:aF)(b1:Value→S→Nat→Nat→S→Nat→Nat→S→Nat→Nat→S→Nat→Nat→U→Prop)(X:Fr)(Z:U):Prop:=vV (X 0) fun a=>aR (X 6) fun bG b bI=>aR (X 7) fun bX c bY=>aR (X 8) fun b6 d b7=>aR (X 9) fun e f h=>cF.t Y b1 a bG b bI bX c bY b6 d b7 e f h Z
theorem cF.ok(Y:aF)(b1:Value→S→Nat→Nat→S→Nat→Nat→S→Nat→Nat→S→Nat→Nat→U→Prop)(X:Fr)(Z:U)(g:cF.g Y b1 X Z):fS prog E (a6 aO [true,false,false,true]) (aV.then (dG.g b1) (aV.inBlock 0 (bC E [] Y))) X Z:=by
 obtain⟨a,b,g⟩:=xX g
 obtain⟨bG,c,bI,d,g⟩:=b2 g
 obtain⟨bX,e,bY,f,g⟩:=b2 g
 obtain⟨b6,h,b7,i,g⟩:=b2 g
 obtain⟨j,k,l,m,g⟩:=b2 g
 exact xW [(0,a),(6,.slice bG c bI),(7,.slice bX e bY),(8,.slice b6 h b7),(9,.slice j k l)] ⟨b,d,f,i,m,trivial⟩ (by kernel_rfl) g
def bM.t(Y:aF)(b1:Value→S→Nat→Nat→S→Nat→Nat→S→Nat→Nat→S→Nat→Nat→U→Prop)(a:Value)(bG:S)(b:Nat)(bI:Nat)(bX:S)(c:Nat)(bY:Nat)(b6:S)(d:Nat)(b7:Nat)(e:S)(f:Nat)(g:Nat)(Z:U):Prop:=
 cond (decide ((((c:Nat):Int)) > 0)) (cond (decide ((((f:Nat):Int)) > 0)) (cF.t Y b1 a bG b bI bX c bY b6 d b7 e f g Z) (Y (.tuple #[]) Z)) (Y (.tuple #[]) Z)
def bM.g(Y:aF)(b1:Value→S→Nat→Nat→S→Nat→Nat→S→Nat→Nat→S→Nat→Nat→U→Prop)(X:Fr)(Z:U):Prop:=vV (X 0) fun a=>aR (X 6) fun bG b bI=>aR (X 7) fun bX c bY=>aR (X 8) fun b6 d b7=>aR (X 9) fun e f h=>bM.t Y b1 a bG b bI bX c bY b6 d b7 e f h Z
theorem bM.ok(Y:aF)(b1:Value→S→Nat→Nat→S→Nat→Nat→S→Nat→Nat→S→Nat→Nat→U→Prop)(X:Fr)(Z:U)(g:bM.g Y b1 X Z):fS prog E (a6 aO [true,false,false]) (aV.then (dG.g b1) (aV.inBlock 0 (bC E [] Y))) X Z:=by
 obtain⟨a,b,g⟩:=xX g
 obtain⟨bG,c,bI,d,g⟩:=b2 g
 obtain⟨bX,e,bY,f,g⟩:=b2 g
 obtain⟨b6,h,b7,i,g⟩:=b2 g
 obtain⟨j,k,l,m,g⟩:=b2 g
 exact HA 1 (r:=(a6 aO [true,false,false,true])) (by kernel_rfl) (cF.ok Y b1) (xW [(0,a),(6,.slice bG c bI),(7,.slice bX e bY),(8,.slice b6 h b7),(9,.slice j k l)] ⟨b,d,f,i,m,trivial⟩ (by kernel_rfl) g)
def dG.t(Y:aF):Nat→Value→S→Nat→Nat→S→Nat→Nat→S→Nat→Nat→S→Nat→Nat→U→Prop
 | 0=>fun _ _ _ _ _ _ _ _ _ _ _ _ _ _=>False
 | n+1=>fun a bG b bI bX c bY b6 d b7 e f g Z=>bM.t Y (dG.t Y n) a bG b bI bX c bY b6 d b7 e f g Z
theorem dG.ok(Y:aF)(X:Fr)(Z:U)(g:dG.g (fun a bG b bI bX c bY b6 d b7 e f h Z=>∃ n,dG.t Y n a bG b bI bX c bY b6 d b7 e f h Z) X Z):fS prog E (a6 aO [true,false]) (aV.inBlock 0 (bC E [] Y)) X Z:=by
 obtain⟨a,i,g⟩:=xX g
 obtain⟨bG,b,bI,j,g⟩:=b2 g
 obtain⟨bX,c,bY,k,g⟩:=b2 g
 obtain⟨b6,d,b7,l,g⟩:=b2 g
 obtain⟨e,f,h,m,g⟩:=b2 g
 obtain⟨n,g⟩:=g
 refine MX (fun n=>dG.g (dG.t Y n)) (K:=(a6 aO [true,false,false])) (by kernel_rfl) (fun X Z g=>?_) (fun n=>bM.ok Y (dG.t Y n)) n X Z (HB i (bL j (bL k (bL l (bL m (g))))))
 obtain⟨a,i,g⟩:=xX g
 obtain⟨bG,b,bI,j,g⟩:=b2 g
 obtain⟨bX,c,bY,k,g⟩:=b2 g
 obtain⟨b6,d,b7,l,g⟩:=b2 g
 obtain⟨e,f,h,m,g⟩:=b2 g
 exact g
theorem hV.ok(Y:aF)(X:Fr)(Z:U)(g:dG.g (fun a bG b bI bX c bY b6 d b7 e f h Z=>∃ n,dG.t Y n a bG b bI bX c bY b6 d b7 e f h Z) X Z):fS prog E (a6 aO [true]) (bC E [] Y) X Z:=
 MW (by kernel_rfl) (dG.ok Y X Z g)
def aP.t(Y:aF)(a:Value)(cQ:Addr)(e7:Addr)(b:Addr)(eH:Addr)(Z:U):Prop:=
 fZ Z cQ fun c=>
 aR c fun c d e=>
 fZ Z e7 fun f=>
 aR f fun f g h=>
 fZ Z b fun b=>
 aR b fun b i j=>
 fZ Z eH fun k=>
 aR k fun k l m=>
 (∃ n,dG.t Y n a c d e f g h b i j k l m Z)
def aP.g(Y:aF)(X:Fr)(Z:U):Prop:=vV (X 0) fun a=>gW (X 1) fun cQ=>gW (X 2) fun e7=>gW (X 3) fun b=>gW (X 4) fun eH=>aP.t Y a cQ e7 b eH Z
theorem aP.ok(Y:aF)(X:Fr)(Z:U)(g:aP.g Y X Z):fS prog E aO (bC E [] Y) X Z:=by
 obtain⟨a,b,g⟩:=xX g
 obtain⟨cQ,c,g⟩:=pQ g
 obtain⟨e7,d,g⟩:=pQ g
 obtain⟨e,f,g⟩:=pQ g
 obtain⟨eH,h,g⟩:=pQ g
 exact HA 1 (r:=(a6 aO [true])) (by kernel_rfl) (hV.ok Y) (xW [(0,a),(1,.pointer (some cQ)),(2,.pointer (some e7)),(3,.pointer (some e)),(4,.pointer (some eH))] ⟨b,c,d,f,h,trivial⟩ (by kernel_rfl) g)
def t(a:Value)(cQ:Addr)(e7:Addr)(b:Addr)(eH:Addr)(Z:U)(Y:aF):Prop:=aP.t Y a cQ e7 b eH Z
theorem ok{a:Value}{cQ:Addr}{e7:Addr}{b:Addr}{eH:Addr}{Z:U}{Y:aF}(g:t a cQ e7 b eH Z Y):a4 id #[a,.pointer (some cQ),.pointer (some e7),.pointer (some b),.pointer (some eH)] Z Y:=
 Hz dT (c:=aO) (dH:=[]) Tryz.func104 (by kernel_rfl) (by kernel_rfl) (by kernel_rfl) (args:=[a,.pointer (some cQ),.pointer (some e7),.pointer (some b),.pointer (some eH)]) (by kernel_rfl) (aP.ok Y _ Z (HB rfl (uW rfl (uW rfl (uW rfl (uW rfl (g)))))))
end nA
namespace uF
noncomputable def aO:Code:=dY Tryz.f52
def a5.t(Y:aF)(c9:S)(eE:Nat)(cZ:Nat)(bE:S)(a:Nat)(bD:Nat)(bX:S)(b:Nat)(bY:Nat)(Z:U):Prop:=
 a4 vX.id #[.slice c9 eE cZ,.slice bX b bY,.slice bE a bD,.slice bX b bY] Z fun a b=>
 Y (a) b
def a5.g(Y:aF)(X:Fr)(Z:U):Prop:=aR (X 3) fun c9 eE cZ=>aR (X 5) fun bE a bD=>aR (X 7) fun bX b bY=>a5.t Y c9 eE cZ bE a bD bX b bY Z
theorem a5.ok(Y:aF)(X:Fr)(Z:U)(g:a5.g Y X Z):den prog E (a6 aO [true,true,true,true,true]) (bC E [.tmp 2] Y) X Z:=by
 obtain⟨c9,eE,cZ,a,g⟩:=b2 g
 obtain⟨bE,b,bD,c,g⟩:=b2 g
 obtain⟨bX,d,bY,e,g⟩:=b2 g
 exact bV [(3,.slice c9 eE cZ),(5,.slice bE b bD),(7,.slice bX d bY)] ⟨a,c,e,trivial⟩ (by kernel_rfl) g
def aP.t(Y:aF)(aY:Int)(Z:U):Prop:=
 a4 p2.id #[.int .i64 aY] Z fun a b=>
 cW a fun a=>
 cV a fun a c=>
 aR a fun a d e=>
 cV c fun c f=>
 a0 .i64 c fun c=>
 b9 f <| a4 kV.id #[.int .u64 1] b fun b f=>
 aR b fun b g h=>
 a4 jU.id #[.slice a d e,.slice b g h] f fun b f=>
 cW b fun b=>
 cV b fun b g=>
 aR b fun b h i=>
 cV g fun g j=>
 a0 .i64 g fun g=>
 b9 j <| a4 kV.id #[.int .u64 1] f fun f j=>
 aR f fun f k l=>
 bB (IntKind.i64.wrap (aY+1)) fun m=>
 a4 lB.id #[.slice f k l,.int .i64 m] j fun f j=>
 cW f fun f=>
 cV f fun f k=>
 aR f fun f l m=>
 cV k fun k n=>
 a0 .i64 k fun k=>
 b9 n <| cond (c != 0) (Y (.func (.func 83) #[] #[]) j) (cond (g != 0) (Y (.func (.func 83) #[] #[]) j) (cond (k != 0) (Y (.func (.func 83) #[] #[]) j) (a5.t Y a d e b h i f l m j)))
def aP.g(Y:aF)(X:Fr)(Z:U):Prop:=a0 .i64 (X 0) fun aY=>aP.t Y aY Z
theorem aP.ok(Y:aF)(X:Fr)(Z:U)(g:aP.g Y X Z):den prog E aO (bC E [.tmp 2] Y) X Z:=by
 obtain⟨aY,a,g⟩:=bT g
 exact c5 5 (r:=(a6 aO [true,true,true,true,true])) (by kernel_rfl) (a5.ok Y) (bV [(0,.int .i64 aY)] ⟨a,trivial⟩ (by kernel_rfl) g)
def t(aY:Int)(Z:U)(Y:aF):Prop:=aP.t Y aY Z
theorem ok{aY:Int}{Z:U}{Y:aF}(g:t aY Z Y):a4 id #[.int .i64 aY] Z Y:=
 eD dT (c:=aO) (dH:=[.tmp 2]) Tryz.func52 (by kernel_rfl) (by kernel_rfl) (by kernel_rfl) (args:=[.int .i64 aY]) (by kernel_rfl) (aP.ok Y _ Z (b0 rfl (g)))
end uF
namespace vX
noncomputable def aO:Code:=dY Tryz.f84
def aP.t(Y:aF)(M:S)(a:Nat)(aA:Nat)(aM:S)(aL:Nat)(aK:Nat)(bO:S)(b3:Nat)(bN:Nat)(c9:S)(eE:Nat)(cZ:Nat)(Z:U):Prop:=
 dX Z 30 [.slice M a aA] fun cQ a=>
 dX a 30 [.slice aM aL aK] fun a b=>
 dX b 30 [.slice bO b3 bN] fun b c=>
 dX c 30 [.slice c9 eE cZ] fun c d=>
 Y ((.func (.func 104) #[] #[.pointer (some cQ),.pointer (some a),.pointer (some b),.pointer (some c)])) d
def aP.g(Y:aF)(X:Fr)(Z:U):Prop:=aR (X 0) fun M a aA=>aR (X 1) fun aM aL aK=>aR (X 2) fun bO b3 bN=>aR (X 3) fun c9 eE cZ=>aP.t Y M a aA aM aL aK bO b3 bN c9 eE cZ Z
theorem aP.ok(Y:aF)(X:Fr)(Z:U)(g:aP.g Y X Z):fS prog E aO (bC E [.tmp 8] Y) X Z:=by
 obtain⟨M,a,aA,b,g⟩:=b2 g
 obtain⟨aM,aL,aK,c,g⟩:=b2 g
 obtain⟨bO,b3,bN,d,g⟩:=b2 g
 obtain⟨c9,eE,cZ,e,g⟩:=b2 g
 exact xW [(0,.slice M a aA),(1,.slice aM aL aK),(2,.slice bO b3 bN),(3,.slice c9 eE cZ)] ⟨b,c,d,e,trivial⟩ (by kernel_rfl) g
def t(M:S)(a:Nat)(aA:Nat)(aM:S)(aL:Nat)(aK:Nat)(bO:S)(b3:Nat)(bN:Nat)(c9:S)(eE:Nat)(cZ:Nat)(Z:U)(Y:aF):Prop:=aP.t Y M a aA aM aL aK bO b3 bN c9 eE cZ Z
theorem ok{M:S}{a:Nat}{aA:Nat}{aM:S}{aL:Nat}{aK:Nat}{bO:S}{b3:Nat}{bN:Nat}{c9:S}{eE:Nat}{cZ:Nat}{Z:U}{Y:aF}(g:t M a aA aM aL aK bO b3 bN c9 eE cZ Z Y):a4 id #[.slice M a aA,.slice aM aL aK,.slice bO b3 bN,.slice c9 eE cZ] Z Y:=
 Hz dT (c:=aO) (dH:=[.tmp 8]) Tryz.func84 (by kernel_rfl) (by kernel_rfl) (by kernel_rfl) (args:=[.slice M a aA,.slice aM aL aK,.slice bO b3 bN,.slice c9 eE cZ]) (by kernel_rfl) (aP.ok Y _ Z (bL rfl (bL rfl (bL rfl (bL rfl (g))))))
end vX
namespace nA
theorem enters(args:Array Value)(aE:World):(callFunc id args).run prog aE=.ok (.enter id args) aE:=Go.Proofs.enters_of Tryz.func104 (by kernel_rfl) (c:=aO) (by kernel_rfl) args aE
end nA
namespace h0
noncomputable def F:Func:=Tryz.f28
theorem at_:prog.funcs[id]?=some F:=Tryz.func28
noncomputable def aO:Code:=dY F
theorem body:F.body=some aO:=by kernel_rfl
theorem results:F.results.toList=[.cell 2 30]:=by kernel_rfl
theorem ntmps:F.ntmps=28:=by kernel_rfl
noncomputable def Bz:Code:=(a6 aO [false])
noncomputable def pM:Code:=(a6 aO [true,false])
noncomputable def oR:Code:=(a6 aO [true,true,false,false,false,false,false])
noncomputable def uG:Code:=(a6 aO [true,true,false,false,false,false,true,false,false])
noncomputable def HD:Code:=(a6 aO [true,true,false,false,false,false,true,false,true,false])
noncomputable def Rest:Code:=(a6 aO [true,true,false,false,false,false,true,true])
noncomputable def vY:Code:=(a6 aO [true,true,false,false,true])
noncomputable def HE:Code:=MY HD
noncomputable def BA:Code:=MZ HD
theorem code:aO=.seq Bz (.seq pM (.block 0 (.loop (.seq (.block 1 (.seq oR (.seq (.seq uG (.block 2 (.rangeFunc (.tmp 14) #[15] HE BA))) Rest))) vY)))):=by kernel_rfl
noncomputable def e4:Code:=.seq Bz (.seq pM (.seq oR uG))
def vZ.t(T:Addr→Addr→Addr→Value→U→Prop)(aY:Int)(Z:U):Prop:=
 dX Z 3 [.int .i64 aY] fun cQ a=>
 dX a 30 zR.a9 fun a b=>
 fZ b cQ fun c=>
 a0 .i64 c fun c=>
 bB (IntKind.i64.wrap (4*c)) fun c=>
 bB (IntKind.i64.wrap (c+64)) fun c=>
 fZ b cQ fun d=>
 a0 .i64 d fun d=>
 iS b 35 j6 0 d fun b e=>
 dX e 30 zR.a9 fun e f=>
 cM f e (.slice (some b) ((0:Int).toNat) d.toNat) fun b=>
 a4 uF.id #[.int .i64 c] b fun b c=>
 T cQ a e b c
def vZ.g(T:Addr→Addr→Addr→Value→U→Prop)(X:Fr)(Z:U):Prop:=a0 .i64 (X 0) fun aY=>vZ.t T aY Z
theorem vZ.ok(T:Addr→Addr→Addr→Value→U→Prop)(X:Fr)(Z:U)(g:vZ.g T X Z):fS prog E e4 (vW T) X Z:=by
 obtain⟨aY,a,g⟩:=bT g
 exact xW [(0,.int .i64 aY)] ⟨a,trivial⟩ (by kernel_rfl) g
def v3.t(a:U→Prop)(b:U→Prop)(cQ:Addr)(e7:Addr)(eH:Addr)(c:Int)(Z:U):Prop:=
 fZ Z eH fun d=>
 aR d fun d e f=>
 dX Z 35 [.int .u64 c] fun c g=>
 g3 g 35 j6 d e f (.slice (some c) 1 1) fun c d e f=>
 cM f eH (.slice c d e) fun c=>
 fZ c eH fun d=>
 aR d fun d d e=>
 fZ c cQ fun e=>
 a0 .i64 e fun e=>
 cond ((((d:Nat):Int)) == e) (fZ c eH fun d=>
 aR d fun d e f=>
 cM c e7 (.slice d e f) fun d=>
 b d) (a c)
def v3.g(a:U→Prop)(b:U→Prop)(X:Fr)(Z:U):Prop:=gW (X 1) fun cQ=>gW (X 2) fun e7=>gW (X 4) fun eH=>a0 .u64 (X 5) fun c=>v3.t a b cQ e7 eH c Z
theorem v3.ok(a:U→Prop)(b:U→Prop)(X:Fr)(Z:U)(g:v3.g a b X Z):fS prog E BA (M0 a b) X Z:=by
 obtain⟨cQ,c,g⟩:=pQ g
 obtain⟨e7,d,g⟩:=pQ g
 obtain⟨eH,e,g⟩:=pQ g
 obtain⟨f,h,g⟩:=bT g
 exact xW [(1,.pointer (some cQ)),(2,.pointer (some e7)),(4,.pointer (some eH)),(5,.int .u64 f)] ⟨c,d,e,h,trivial⟩ (by kernel_rfl) g
theorem M5:l5 E 28 Bz=true∧l5 E 28 pM=true∧l5 E 28 oR=true∧l5 E 28 uG=true:=⟨by kernel_rfl,by kernel_rfl,by kernel_rfl,by kernel_rfl⟩
theorem M6:l5 E 28 BA=true:=by kernel_rfl
theorem M7:l4 BA=true:=by kernel_rfl
theorem M8:∃ O t p,HE=.region O #[{ dst:=some 5,op:=.assign (.tmp 15),type:=t,pos:=p,after:=#[],guard:=none }] false:=⟨5,35,"nearpi.go:60",by kernel_rfl⟩
theorem M9{X:Fr}{Z:U}{aI:Addr}{aH:List Value→Prop}(N:X 2=.pointer (some aI))(g:fZ Z aI fun v=>aR v fun a l c=>aH [.slice a l c]):qJ E X Z [.cell 2 30] aH:=by
 have b:qJ E (k0 X 2 (.pointer (some aI))) Z [.cell 2 30] aH=(fZ Z aI fun v=>aR v fun a l c=>aH [.slice a l c]):=by kernel_rfl
 rw [x6 N] at b;rw [b];exact g
end h0
structure nB(bA:Nat)(Z aB:U):Prop where
 le:Z.size≤aB.size
 at_:∀ (K:Nat) (aQ:Obj),Z[K]?=some aQ→bA≤K→aQ.isCells=true→aB[K]?=some aQ
theorem nB.trans{bA:Nat}{a K c:U}(L:nB bA a K)(aT:nB bA K c):nB bA a c:=⟨Nat.le_trans L.le aT.le,fun O aQ N Z R=>aT.at_ O aQ (L.at_ O aQ N Z R) Z R⟩
theorem jS.cO{bA aO:Nat}{Z aB:U}(L:jS aO Z aB):nB bA Z aB:=⟨L.le,fun K aQ N _ R=>L.at_ K aQ N (.inr R)⟩
theorem Na{Z:U}{aI:Addr}{v:Value}(N:hB Z aI=some v):∃ aQ:Obj,Z[aI.block]?=some aQ∧aQ.isCells=true:=by
 unfold hB at N
 split at N
 ·rename_i c el b a;exact⟨_,a,rfl⟩
 ·cases N
theorem cJ.cO{bA:Nat}{Z aB:U}{a:S}{c:Nat}{aC:List Nat}(r:cJ Z a c aC)(a3:∀ p,a=some p→bA≤p.block)(R:nB bA Z aB):cJ aB a c aC:=
 ⟨r.len,r.cap,r.words,fun O a8=>by
  obtain⟨p,N,g⟩:=r.at_ O a8
  refine⟨p,N,?_⟩
  obtain⟨aQ,b,d⟩:=Na g
  rw [qM (Z:=Z) (by rw [b];exact R.at_ _ _ b (by rw [oY];exact a3 p N) d)];exact g⟩
theorem cX.base{a2 Z:U}{a:S}{c:Nat}{aC:List Nat}(g:cX dL a2 Z a c aC):∀ p,a=some p→a2.size≤p.block:=by
 intro p N
 rcases g.here with ⟨_,b,_⟩ | ⟨e,rest,d,b,_,_⟩
 ·rw [b] at N;cases N
 ·rw [d] at N;cases N;exact b
structure j0(bA:Nat)(Z:U)(a:S)(l c n:Nat):Prop where
 rd:cJ Z a c (aN n)
 len:l=(aN n).length
 base:∀ p,a=some p→bA≤p.block
 g1:fK n
theorem j0.aU{bA:Nat}{Z aB:U}{a:S}{l c n:Nat}(r:j0 bA Z a l c n)(R:bK Z aB):j0 bA aB a l c n:=⟨r.rd.aU R,r.len,r.base,r.g1⟩
theorem j0.cO{bA:Nat}{Z aB:U}{a:S}{l c n:Nat}(r:j0 bA Z a l c n)(R:nB bA Z aB):j0 bA aB a l c n:=⟨cJ.cO r.rd r.base R,r.len,r.base,r.g1⟩
theorem zS{n:Nat}:0 < (aN n).length↔0 < n:=by
 constructor
 ·intro Z
  rcases Nat.eq_zero_or_pos n with N | N
  ·subst N;rw [e0] at Z;simp at Z
  ·exact N
 ·intro Z;rw [k2 (by omega)];simp
theorem HF{n:Nat}:(aN n).length≤1↔n < 18446744073709551616:=by
 rw [gZ]
theorem Nb{L aT:Nat}(Z:fU L aT=0):L=aT:=by
 unfold fU at Z
 split at Z
 ·exact absurd Z (by decide)
 ·split at Z
  ·assumption
  ·exact absurd Z (by decide)
abbrev r9:={ L:Nat // L < 18446744073709551616 }
def DC(L:r9):Array Value:=#[.int .u64 ((L.1:Nat):Int)]
def lR(l:List r9):List Nat:=l.map (·.1)
theorem DD(l:List r9)(L:r9):lR (l ++ [L])=lR l ++ [L.1]:=by simp [lR]
def HG(a bA aO D:Nat)(l:List r9):Prop:=∀ aI,¬ kB (lR l ++ [aI]) a bA aO D
def zT(a bA aO D:Nat)(l:List r9):Prop:=kB (lR l) a bA aO D
theorem Nc{l bP c:Nat}{d I:List r9→U→Prop}{l6 kZ l7 l8:Nat}(B:∀ aG Z aB,d aG Z→bK Z aB→d aG aB)
  (QC:∀ pre L a1,d pre a1→pre.length < bP→uE prog l (DC L) a1 fun v aB=>(v=.bool true∧d (pre ++ [L]) aB∧nB c a1 aB)∨(v=.bool false∧I (pre ++ [L]) aB))
  {Y:aF} (J:∀ Z,((∃ aC,(zT l6 kZ l7 l8 aC∧HG l6 kZ l7 l8 aC)∧d aC Z)∨∃ pre,zT l6 kZ l7 l8 pre∧I pre Z)→Y (.tuple #[]) Z) :
  ∀ (n:Nat) {a bA aO D:Nat} {bG bX b6 k:S} {u bI m bY w b7 o q:Nat} {pre:List r9} {Z:U},bA < n→pre.length+bA≤bP→c≤Z.size→d pre Z→
   j0 c Z bG u bI a→j0 c Z bX m bY bA→j0 c Z b6 w b7 aO→j0 c Z k o q D→(∀ T,kB (lR pre ++ T) l6 kZ l7 l8↔kB T a bA aO D)→
   nA.dG.t Y n (.func (.yield l) #[] #[]) bG u bI bX m bY b6 w b7 k o q Z:=by
 intro n
 induction n with
 | zero=>intro a bA aO D bG bX b6 k u bI m bY w b7 o q pre Z c0;omega
 | succ n bZ=>
  intro a bA aO D bG bX b6 k u bI m bY w b7 o q pre Z c0 QU C e x h y i bH
  have QD:zT l6 kZ l7 l8 pre:=by have:=(bH []).mpr trivial;rwa [List.append_nil] at this
  have stop:∀ aB,d pre aB→(∀ aI,¬ kB [aI] a bA aO D)→Y (.tuple #[]) aB:=fun aB e QE=>J aB (.inl ⟨pre,⟨QD,fun aI b=>QE aI ((bH [aI]).mp b)⟩,e⟩)
  unfold nA.dG.t nA.bM.t
  refine cE (fun E=>?_) fun E=>stop Z e fun aI b=>E (by have:=b.1.1;have:=zS.mpr this;rw [h.len];omega)
  refine cE (fun F=>?_) fun F=>stop Z e fun aI b=>F (by have:=b.1.2.1;have:=zS.mpr this;rw [i.len];omega)
  have P:0 < bA:=zS.mp (by rw [h.len] at E;omega)
  have QF:0 < D:=zS.mp (by rw [i.len] at F;omega)
  unfold nA.cF.t
  refine y0 x.rd x.len h.rd h.len (by omega) x.g1 h.g1 fun QV QW QG QH a1 cC Q V=>?_
  refine y0 (y.rd.aU cC) y.len (i.rd.aU cC) i.len (by omega) y.g1 i.g1 fun QX QY QI QJ z A gs gt=>?_
  refine j8 (fun N=>absurd rfl N) fun _=>?_
  refine j8 (fun N=>absurd rfl N) fun _=>?_
  have j:=cC.trans A
  refine rP (Q.aU A).eS rfl gs.eS rfl ?_
  refine j8 (fun N=>stop z (B _ _ _ e j) fun aI b=>?_) fun N=>?_
  ·obtain⟨⟨_,_,r,Qx,_⟩,_⟩:=b
   rw [r,Qx] at N;simp [fU] at N
  have QK:a / bA=aO / D:=Nb N
  refine cE (fun QL=>stop z (B _ _ _ e j) fun aI b=>?_) fun QL=>?_
  ·obtain⟨⟨_,_,r,Qx,QM⟩,_⟩:=b
   have:=HF.mpr (r ▸ QM);omega
  have Qy:a / bA < 18446744073709551616:=HF.mp (by omega)
  have QN:=B _ _ _ e j
  have QO:pre.length < bP:=by omega
  have round:∀ (L:r9),L.1=a / bA→q7 prog (.func (.yield l) #[] #[]) (DC L) z fun QP Qz=>eU QP fun QQ=>cond (!QQ) (Y (.tuple #[]) Qz) (nA.dG.t Y n (.func (.yield l) #[] #[]) bX m bY QG (aN (a % bA)).length QH k o q QI (aN (aO % D)).length QJ Qz):=by
   intro L QA
   have QB:∀ T,kB (lR (pre ++ [L]) ++ T) l6 kZ l7 l8↔kB T bA (a % bA) D (aO % D):=by
    intro T
    rw [DD,List.append_assoc,bH]
    exact⟨fun G=>G.2,fun G=>⟨⟨P,QF,QA.symm,by rw [← QK];exact QA.symm,L.2⟩,G⟩⟩
   refine(uE.mono (fun v aB g=>?_) (QC pre L z QN QO)).M1
   rcases g with ⟨rfl,QR,s⟩ | ⟨rfl,QS⟩
   ·refine dB rfl ?_
    have QZ:a % bA < bA:=Nat.mod_lt _ P
    have QT:c≤a1.size:=Nat.le_trans C cC.le
    exact bZ (by omega) (by rw [List.length_append,List.length_singleton];omega) (Nat.le_trans C (Nat.le_trans j.le s.le)) QR ((h.aU j).cO s)
     (j0.cO ⟨(V.aU A).eS,rfl,fun p N=>Nat.le_trans C (cX.base V p N),kK (Nat.mod_le _ _) x.g1⟩ s) ((i.aU j).cO s)
     (j0.cO ⟨gt.eS,rfl,fun p N=>Nat.le_trans QT (cX.base gt p N),kK (Nat.mod_le _ _) y.g1⟩ s) QB
   ·refine dB rfl ?_
    refine J aB (.inr ⟨_,?_,QS⟩)
    have:=(QB []).mpr trivial
    rwa [List.append_nil] at this
  refine gL (fun H=>?_) fun H=>?_
  ·refine gJ (Q.aU A).eS (aD:=0) rfl rfl (by omega) ?_
   have r:(aN (a / bA)).getD 0 0=a / bA:=by
    rw [k2 (by intro f;rw [f,e0] at H;simp at H)]
    show a / bA % 18446744073709551616=a / bA
    exact Nat.mod_eq_of_lt Qy
   rw [r]
   exact round ⟨a / bA,Qy⟩ rfl
  ·have f:a / bA=0:=by
    rcases Nat.eq_zero_or_pos (a / bA) with f | f
    ·exact f
    ·have:=zS.mpr f;omega
   exact round ⟨0,by omega⟩ f.symm
structure DE(bA:Nat)(Z:U)(v:Value)(l6 kZ l7 l8:Nat):Prop where
 out:∃ fD eV g4 hK aM aL aK bO b3 bN c9 eE cZ eI fY eN,v=.func (.func nA.id) #[] #[.pointer (some ⟨fD,0,none⟩),.pointer (some ⟨eV,0,none⟩),.pointer (some ⟨g4,0,none⟩),.pointer (some ⟨hK,0,none⟩)]∧
  eM Z fD [.slice aM aL aK]∧eM Z eV [.slice bO b3 bN]∧eM Z g4 [.slice c9 eE cZ]∧eM Z hK [.slice eI fY eN]∧j0 bA Z aM aL aK l6∧j0 bA Z bO b3 bN kZ∧j0 bA Z c9 eE cZ l7∧j0 bA Z eI fY eN l8
theorem Nd{bA l6 kZ l7 l8:Nat}{a2:U}(c0:bA≤a2.size){fD eV g4 hK:Nat}{aM bO c9 eI:S}{aL aK b3 bN eE cZ fY eN:Nat}
  (a:eM a2 fD [.slice aM aL aK]) (b:eM a2 eV [.slice bO b3 bN]) (c:eM a2 g4 [.slice c9 eE cZ]) (d:eM a2 hK [.slice eI fY eN])
  (e:j0 bA a2 aM aL aK l6) (f:j0 bA a2 bO b3 bN kZ) (g:j0 bA a2 c9 eE cZ l7) (h:j0 bA a2 eI fY eN l8) :
  HC prog nA.id #[.pointer (some ⟨fD,0,none⟩),.pointer (some ⟨eV,0,none⟩),.pointer (some ⟨g4,0,none⟩),.pointer (some ⟨hK,0,none⟩)] DC (nB bA) (fun aC=>zT l6 kZ l7 l8 aC∧HG l6 kZ l7 l8 aC) (zT l6 kZ l7 l8) kZ a2:=by
 intro l n o Z R i p j k
 have N:(#[.func (.yield l) #[] #[]] ++ #[.pointer (some ⟨fD,0,none⟩),.pointer (some ⟨eV,0,none⟩),.pointer (some ⟨g4,0,none⟩),.pointer (some ⟨hK,0,none⟩)]:Array Value)=
   #[.func (.yield l) #[] #[],.pointer (some ⟨fD,0,none⟩),.pointer (some ⟨eV,0,none⟩),.pointer (some ⟨g4,0,none⟩),.pointer (some ⟨hK,0,none⟩)]:=by simp
 rw [N]
 refine nA.ok ?_
 unfold nA.t nA.aP.t
 refine pR (a.aU R) rfl (bL rfl ?_)
 refine pR (b.aU R) rfl (bL rfl ?_)
 refine pR (c.aU R) rfl (bL rfl ?_)
 refine pR (d.aU R) rfl (bL rfl ?_)
 exact⟨kZ+1,Nc (pre:=[]) i j (fun Z m=>m) (kZ+1) (by omega) (by simp) (Nat.le_trans c0 R.le) k (e.aU R) (f.aU R) (g.aU R) (h.aU R) (fun T=>by simp [lR])⟩
theorem Nf{bA l6 kZ l7 l8:Nat}{Z:U}{aM bO c9 eI:S}{aL aK b3 bN eE cZ fY eN:Nat}
  (e:j0 bA Z aM aL aK l6) (f:j0 bA Z bO b3 bN kZ) (g:j0 bA Z c9 eE cZ l7) (h:j0 bA Z eI fY eN l8) :
  a4 vX.id #[.slice aM aL aK,.slice bO b3 bN,.slice c9 eE cZ,.slice eI fY eN] Z fun v aB=>bK Z aB∧DE bA aB v l6 kZ l7 l8:=by
 refine vX.ok ?_
 unfold vX.t vX.aP.t
 refine fJ fun a1 i cC=>?_
 refine fJ fun m j d=>?_
 refine fJ fun n k c=>?_
 refine fJ fun o l b=>?_
 have a:=cC.trans (d.trans (c.trans b))
 exact⟨a,⟨_,_,_,_,_,_,_,_,_,_,_,_,_,_,_,_,rfl,i.aU (d.trans (c.trans b)),j.aU (c.trans b),k.aU b,l,e.aU a,f.aU a,g.aU a,h.aU a⟩⟩
theorem HH{p:Nat}(a:p < 4200):fK (dN p+1)∧fK (2 ^ (p+1)):=by
 have Z:dN p+1 < 2 ^ 4403:=Nat.lt_of_le_of_lt (Nat.add_le_add_right (show dN p≤hW from Nat.div_le_self _ _) 1) (Nat.le_of_ble_eq_true (by kernel_rfl))
 exact⟨jV Z (by omega),jV (R:=p+2) (Nat.pow_lt_pow_right (by decide) (by omega)) (by omega)⟩
theorem Ng{p:Nat}(Z:U)(a1:1≤p)(h:p < 4200):a4 uF.id #[.int .i64 (p:Int)] Z fun v aB=>bK Z aB∧DE Z.size aB v (dN p) (2 ^ (p+1)) (dN p+1) (2 ^ (p+1)):=by
 obtain⟨e,s2⟩:=HH h
 refine uF.ok ?_
 unfold uF.t uF.aP.t
 refine cD (GS Z a1 h) fun v o ⟨cC,t1⟩=>?_
 refine t1.iM fun aM aK f q=>?_
 refine o6 (L:=1) (by decide) fun bO bN r a j=>?_
 refine vE (aT:=1) (f.aU a).eS rfl j.eS rfl e fun c9 cZ s d i=>?_
 refine o6 (L:=1) (by decide) fun eI eN u b k=>?_
 refine⟨?_⟩
 have l:IntKind.i64.wrap ((p:Int)+1)=((p+1:Nat):Int):=by rw [wrap_i64] <;> omega
 rw [l]
 refine yZ (n:=p+1) rfl k.eS rfl (by omega) (pZ (by decide)) (by rw [Nat.one_mul];exact s2) fun bE bD w g c=>?_
 rw [Nat.one_mul] at c ⊢
 refine j8 (fun N=>absurd rfl N) fun _=>?_
 refine j8 (fun N=>absurd rfl N) fun _=>?_
 refine j8 (fun N=>absurd rfl N) fun _=>?_
 unfold uF.a5.t
 have eR:∀ {L:U},bK Z L→Z.size≤L.size:=fun R=>R.le
 refine cD (Nf (bA:=Z.size) (l6:=dN p) (kZ:=2 ^ (p+1)) (l7:=dN p+1) (l8:=2 ^ (p+1))
  ⟨(f.aU (a.trans (d.trans (b.trans g)))).eS,rfl,cX.base f,kK (by omega) e⟩ ⟨c.eS,rfl,fun aI N=>Nat.le_trans (cC.trans (a.trans (d.trans b))).le (cX.base c aI N),s2⟩
  ⟨(i.aU (b.trans g)).eS,rfl,fun aI N=>Nat.le_trans (cC.trans a).le (cX.base i aI N),e⟩ ⟨c.eS,rfl,fun aI N=>Nat.le_trans (cC.trans (a.trans (d.trans b))).le (cX.base c aI N),s2⟩) fun v x ⟨m,t6⟩=>?_
 exact⟨cC.trans (a.trans (d.trans (b.trans (g.trans m)))),t6⟩
theorem cG.BB{K:Nat}{Z aB:U}{b8:List Value}(aQ:eM Z K b8)(R:cG K Z aB):lQ Z aB:=fun a cY N hu=>by
 have b:a ≠ K:=by
  rintro rfl
  obtain⟨el,g⟩:=aQ.at_
  rw [g] at N;cases N;cases hu
 rw [R.pre a (Array.getElem?_eq_some_iff.1 N).1 b];exact N
theorem lQ.trans{a K c:U}(L:lQ a K)(aT:lQ K c):lQ a c:=fun O aQ N Z=>aT O aQ (L O aQ N Z) Z
theorem bK.BB{Z aB:U}(R:bK Z aB):lQ Z aB:=fun K aQ N _=>(R.pre K (Array.getElem?_eq_some_iff.1 N).1).trans N
theorem bK.cO{bA:Nat}{Z aB:U}(R:bK Z aB):nB bA Z aB:=⟨R.le,fun K aQ N _ _=>(R.pre K (Array.getElem?_eq_some_iff.1 N).1).trans N⟩
theorem cG.cO{K bA:Nat}{Z aB:U}(R:cG K Z aB)(a3:K < bA):nB bA Z aB:=⟨R.le,fun O aQ N a8 _=>(R.pre O (Array.getElem?_eq_some_iff.1 N).1 (by omega)).trans N⟩
theorem Nh{K:Nat}{Z aB:U}(R:nI (some ⟨K,0,none⟩) Z aB):∀ O,O < Z.size→O ≠ K→aB[O]?=Z[O]?:=fun O a8 a=>R.pre O a8 fun p N=>by cases N;exact fun N=>a N.symm
theorem BC{bA K:Nat}{Z aB:U}{b8:List Value}(aQ:eM Z K b8)(R:jS bA Z aB):eM aB K b8:=by
 obtain⟨N,g⟩:=aQ.at_;exact⟨N,R.at_ _ _ g (.inr rfl)⟩
theorem Ni{dF:Type}{E:kS dF}{bA K:Nat}{Z aB:U}{b8:List dF}(aQ:dZ E Z K b8)(R:jS bA Z aB):dZ E aB K b8:=by
 obtain⟨N,g⟩:=aQ.at_;exact⟨aQ.ok,N,R.at_ _ _ g (.inr rfl)⟩
theorem HI{bA c:Nat}{a2 Z aB:U}{a:S}{aC:List Nat}(g:cX dL a2 Z a c aC)(R:jS bA Z aB):cX dL a2 aB a c aC:=
 ⟨g.len,g.cap,g.here.imp id fun ⟨K,rest,b,d,aQ,e⟩=>⟨K,rest,b,d,Ni aQ R,e⟩⟩
theorem DF{aI c hJ:Nat}{a2 Z aB:U}{aC:List Nat}(g:cX dL a2 Z (some ⟨hJ,0,none⟩) c aC)(b:hJ ≠ aI)(R:cG aI Z aB):cX dL a2 aB (some ⟨hJ,0,none⟩) c aC:=by
 refine⟨g.len,g.cap,g.here.imp (fun ⟨_,N,_⟩=>by cases N) fun ⟨K,rest,a,d,aQ,e⟩=>⟨K,rest,a,d,?_,e⟩⟩
 cases a;exact aQ.cR b R
theorem HJ{bA:Nat}{a2 Z aB:U}(R:bK a2 Z)(c0:a2.size≤bA)(a:jS bA Z aB):bK a2 aB:=
 ⟨Nat.le_trans R.le a.le,fun K a3=>by
  have N:=R.pre K a3
  have b:K < Z.size:=Nat.lt_of_lt_of_le a3 R.le
  rw [Array.getElem?_eq_getElem b] at N
  rw [a.at_ K _ (Array.getElem?_eq_getElem b) (.inl (by omega))];exact N⟩
structure uH(a2:U)(n fD eV hJ hK:Nat)(pre:List Nat)(Z:U):Prop where
 aU:bK a2 Z
 num:eM Z fD [.int .i64 (n:Int)]
 res:eM Z eV [.slice none 0 0]
 var:eM Z hK [.slice (some ⟨hJ,0,none⟩) pre.length n]
 mX:cX dL a2 Z (some ⟨hJ,0,none⟩) n pre
 ord:a2.size≤fD∧fD < eV∧eV < hJ∧hJ < hK
 lt:pre.length < n
structure xY(a2:U)(n eV hJ:Nat)(pre:List Nat)(Z:U):Prop where
 aU:bK a2 Z
 res:eM Z eV [.slice (some ⟨hJ,0,none⟩) n n]
 mX:cX dL a2 Z (some ⟨hJ,0,none⟩) n pre
 ord:a2.size≤hJ
 len:pre.length=n
theorem uH.uD{bA:Nat}{a2 Z aB:U}{n fD eV hJ hK:Nat}{pre:List Nat}(aQ:uH a2 n fD eV hJ hK pre Z)(c0:a2.size≤bA)(a:jS bA Z aB):uH a2 n fD eV hJ hK pre aB:=
 ⟨HJ aQ.aU c0 a,BC aQ.num a,BC aQ.res a,BC aQ.var a,HI aQ.mX a,aQ.ord,aQ.lt⟩
theorem xY.uD{bA:Nat}{a2 Z aB:U}{n eV hJ:Nat}{pre:List Nat}(aQ:xY a2 n eV hJ pre Z)(c0:a2.size≤bA)(a:jS bA Z aB):xY a2 n eV hJ pre aB:=
 ⟨HJ aQ.aU c0 a,BC aQ.res a,HI aQ.mX a,aQ.ord,aQ.len⟩
theorem Nj{a2:U}{n fD eV hJ hK bA:Nat}{pre:List Nat}{L:Nat}(C:L < 18446744073709551616)(QB:n≤1000){Z:U}(aQ:uH a2 n fD eV hJ hK pre Z)(c0:hK < bA){r s:U→Prop}
  (D:∀ aB,lQ Z aB→nB bA Z aB→uH a2 n fD eV hJ hK (pre ++ [L]) aB→r aB) (E:∀ aB,lQ Z aB→xY a2 n eV hJ (pre ++ [L]) aB→s aB) :
  h0.v3.t r s ⟨fD,0,none⟩ ⟨eV,0,none⟩ ⟨hK,0,none⟩ (L:Int) Z:=by
 obtain⟨eL,QC,QD,QE⟩:=aQ.ord
 have dC:=aQ.lt
 unfold h0.v3.t
 refine pR aQ.var rfl (bL rfl ?_)
 refine rJ dL [L] rfl (by intro aT u;simp only [List.mem_singleton] at u;subst u;exact C) fun a1 F cC=>?_
 have f:cX dL a2 a1 (some ⟨hJ,0,none⟩) n pre:=aQ.mX.aU cC
 have G:=F.n7 (c:=1) (by show _≤35184372088828;simp) (by simp)
 refine E9 f (Nat.le_trans aQ.aU.le cC.le) G rfl rfl (by rfl) 0 rfl (by decide) 8 rfl (by decide) (by show _≤35184372088828;simp;omega) (fun h=>by simp at h;omega) fun QF dI d i j h=>?_
 obtain⟨H,I⟩:=h (by simp;omega)
 rw [I,H] at i ⊢
 have k:=Nh j
 have J:pre.length+[L].length=(pre ++ [L]).length:=by simp
 rw [J]
 have QG:hK < a1.size:=(aQ.var.aU cC).lt
 have QH:eV < a1.size:=(aQ.res.aU cC).lt
 have QI:fD < a1.size:=(aQ.num.aU cC).lt
 have l:∀ {K:Nat} {b8:List Value},eM Z K b8→K ≠ hJ→eM d K b8:=fun aI m=>by
  obtain⟨N,g⟩:=(aI.aU cC).at_;exact⟨N,by rw [k _ (aI.aU cC).lt m];exact g⟩
 have v:=l aQ.var (by omega)
 have o:=l aQ.res (by omega)
 have w:=l aQ.num (by omega)
 have P:lQ a1 d:=fun K cY b hu=>by
  have m:K ≠ hJ:=by
   rintro rfl
   rcases f.here with ⟨_,N,_⟩ | ⟨QJ,rest,Q,_,T,_⟩
   ·cases N
   ·cases Q;obtain⟨el,V⟩:=T.at_;rw [V] at b;cases b;cases hu
  rw [k K (Array.getElem?_eq_some_iff.1 b).1 m];exact b
 have Qx:nB bA a1 d:=⟨j.le,fun K cY b a3 _=>by rw [k K (Array.getElem?_eq_some_iff.1 b).1 (by omega)];exact b⟩
 have Qy:bK a2 d:=j.aU (aQ.aU.trans cC) f.yQ
 refine Cy v (by simp) fun e Qz a=>?_
 have p:eM e hK [.slice (some ⟨hJ,0,none⟩) (pre ++ [L]).length n]:=Qz
 refine pR p rfl (bL rfl ?_)
 refine pR (w.cR (by omega) a) rfl (b0 rfl ?_)
 have x:bK a2 e:=cG.aU Qy a (by omega)
 have y:lQ Z e:=lQ.trans (bK.BB cC) (lQ.trans P (cG.BB v a))
 refine gL (fun z=>?_) fun z=>?_
 ·have A:(pre ++ [L]).length=n:=by omega
  refine pR p rfl (bL rfl ?_)
  refine Cy (o.cR (by omega) a) (by simp) fun QA B q=>?_
  refine E QA (lQ.trans y (cG.BB (o.cR (by omega) a) q)) ⟨cG.aU x q (by omega),?_,?_,by omega,A⟩
  ·rw [A] at B;exact B
  ·exact DF (DF i (by omega) a) (by omega) q
 ·refine D e y ((bK.cO cC).trans (Qx.trans (cG.cO a c0))) ⟨x,w.cR (by omega) a,o.cR (by omega) a,p,DF i (by omega) a,aQ.ord,?_⟩
  simp at z ⊢;omega
structure uI(n:Nat)(a2:U)(cQ e7 eH:Addr)(v:Value)(Z:U):Prop where
 out:∃ fD eV hJ hK bA,cQ=⟨fD,0,none⟩∧e7=⟨eV,0,none⟩∧eH=⟨hK,0,none⟩∧uH a2 n fD eV hJ hK [] Z∧hK < bA∧bA≤Z.size∧DE bA Z v (dN (4*n+64)) (2 ^ (4*n+64+1)) (dN (4*n+64)+1) (2 ^ (4*n+64+1))
theorem Nk{n:Nat}(Z:U)(a1:1≤n)(y:n≤1000):h0.vZ.t (uI n Z) (n:Int) Z:=by
 unfold h0.vZ.t
 refine fJ fun h d cC=>?_
 refine fJ fun e k b=>?_
 refine pR (d.aU b) rfl (b0 rfl ?_)
 refine⟨?_⟩
 have m:IntKind.i64.wrap (4*(n:Int))=((4*n:Nat):Int):=by rw [wrap_i64] <;> omega
 rw [m]
 refine⟨?_⟩
 have o:IntKind.i64.wrap (((4*n:Nat):Int)+64)=((4*n+64:Nat):Int):=by rw [wrap_i64] <;> omega
 rw [o]
 refine pR (d.aU b) rfl (b0 rfl ?_)
 refine qS dL 0 0 n rfl (by decide) 8 rfl (by decide) rfl rfl (by omega) (by omega) fun i l f=>?_
 refine fJ fun z q r=>?_
 refine Cy q (by exact Nat.zero_lt_one) fun c j s=>?_
 have g:bK i c:=cG.aU r s (Nat.le_refl _)
 have A:h.size≤e.size:=b.le
 have s2:e.size≤i.size:=f.le
 have t1:=d.lt
 have t2:=k.lt
 have t3:=l.lt
 have t5:=j.lt
 have eL:Z.size≤h.size:=cC.le
 have eR:bK Z c:=cC.trans (b.trans (f.trans g))
 refine cD (Ng (p:=4*n+64) c (by omega) (by omega)) fun v B ⟨a,u⟩=>?_
 have w:cX dL Z c (some ⟨e.size,0,none⟩) n []:=dZ.iF (rest:=List.replicate n 0) (l.aU g) (by omega) (by simp) (by simp) (by simp)
 have x:(n:Int).toNat=n:=by omega
 rw [x] at j
 exact⟨Z.size,h.size,e.size,i.size,c.size,rfl,rfl,rfl,⟨eR.trans a,(d.aU (b.trans (f.trans (g.trans a)))),k.aU (f.trans (g.trans a)),j.aU a,w.aU a,by omega,by show 0 < n;omega⟩,t5,a.le,u⟩
theorem Nl(a:Act)(b:a.defers=[])(v:Value):({ tmps:=((#[15]:Array Nat).zip #[v]).foldl (fun t (p,v)=>t.setIfInBounds p v) a.tmps,defers:=[] }:Act)=a.put (some 15) v:=by
 obtain⟨t,aZ⟩:=a
 simp only at b;subst b
 simp [Act.put]
theorem HK{n:Nat}(Z:U)(a1:1≤n)(h:n≤1000):a4 h0.id #[.int .i64 (n:Int)] Z fun v aB=>bK Z aB∧w0 Z aB v (e6.take n):=by
 intro aE G
 subst G
 refine(callsIn_wide (n:=0)).1 (callsIn_of_wp_marks (F:=Fence.wide) (n:=0) h0.at_ h0.body trivial ?_ rfl)
 have H:=Cc [.int .i64 (n:Int)] 28 (by simp)
 have I:h0.F.ntmps - (#[Value.int .i64 (n:Int)]:Array Value).size=28 - [Value.int .i64 (n:Int)].length:=by rw [h0.ntmps];rfl
 rw [I,h0.code]
 obtain⟨aA,aK,cZ,eN⟩:=h0.M5
 have J:fS prog E h0.Bz (aV.then (fS prog E (.seq h0.pM (.seq h0.oR h0.uG)) (vW (uI n aE.heap))) (vW (uI n aE.heap))) (wQ [.int .i64 (n:Int)]) aE.heap:=
  h0.vZ.ok (uI n aE.heap) _ _ (b0 rfl (Nk aE.heap a1 h))
 refine wpIn_seq (xV dT (.inl rfl) aA (.inl rfl) H J fun N Q aM T V Qx cC=>?_)
 cases N with
 | exit O=>exact cC.elim
 | ret=>exact cC.elim
 | normal=>
 have Qy:fS prog E h0.pM (aV.then (fS prog E (.seq h0.oR h0.uG) (vW (uI n aE.heap))) (vW (uI n aE.heap))) Q T.heap:=cC
 refine wpIn_seq (xV dT (.inl rfl) aK (.inl rfl) V Qy fun N Qz bO QA QB s2 i=>?_)
 cases N with
 | exit O=>exact i.elim
 | ret=>exact i.elim
 | normal=>
 refine wpIn_block (wpIn_loop_once (wpIn_seq (wpIn_block ?_)))
 have QC:fS prog E h0.oR (aV.then (fS prog E h0.uG (vW (uI n aE.heap))) (vW (uI n aE.heap))) Qz QA.heap:=i
 refine wpIn_seq (xV dT (.inl rfl) cZ (.inl rfl) QB QC fun N QU c9 QV QD iU j=>?_)
 cases N with
 | exit O=>exact j.elim
 | ret=>exact j.elim
 | normal=>
 refine wpIn_seq (wpIn_seq (xV dT (.inl rfl) eN (.inl rfl) QD j fun N k eI m d yR b=>?_))
 cases N with
 | exit O=>exact b.elim
 | ret=>exact b.elim
 | normal=>
 have o:e2 aE m:=Qx.trans (s2.trans (iU.trans yR))
 obtain⟨cQ,QE,b⟩:=pQ b
 obtain⟨e7,w,b⟩:=pQ b
 obtain⟨eH,QF,b⟩:=pQ b
 obtain⟨v,QG,b⟩:=xX b
 obtain⟨fD,eV,hJ,hK,bA,rfl,rfl,rfl,x,QH,c0,QI⟩:=b.out
 obtain⟨d1,d2,d3,d4,aS,aL,eK,QW,b3,QX,QY,eE,QZ,Q0,fY,Q1,QJ,l1,lE,kM,QK,t1,t2,t3,t4⟩:=QI.out
 have q:aE.heap.size≤m.heap.size:=x.aU.le
 have s:=Mj a1 h
 have e:(e6.take n).length=n:=by rw [List.length_take,q3];omega
 have y:eI.defers=[]:=d.defers
 refine wpIn_block (M4 (P:=prog) (by rw [d.c3];show k 14=_;rw [QG,QJ]) nA.enters (Nd c0 l1 lE kM QK t1 t2 t3 t4) (fun L aT=>nB.trans L aT) (fun _ _=>jS.cO) (fun L=>rfl)
  (fun pre Z=>uH aE.heap n fD eV hJ hK (lR pre) Z) (fun pre Z=>xY aE.heap n eV hJ (lR pre) Z) (fun aG _ _ O a=>O.uD q a) (fun aG _ _ O a=>O.uD q a) x
  (fun L=>(eI.put (some 15) (.int .u64 ((L.1:Nat):Int))).put (some 5) (.int .u64 ((L.1:Nat):Int))) ?_ ?_ ?_ ?_)
 ·intro l L bR aH QL
  obtain⟨O,t,p,N⟩:=h0.M8
  rw [N]
  have QM:=Nl eI y (.int .u64 ((L.1:Nat):Int))
  show(Code.region O _ false).wpIn _ _ _ _ ({ tmps:=((#[15]:Array Nat).zip #[.int .u64 ((L.1:Nat):Int)]).foldl (fun t (p,v)=>t.setIfInBounds p v) eI.tmps,defers:=[] }:Act) bR
  rw [QM]
  have QN:gM 28 (lT k (some 15) (.int .u64 ((L.1:Nat):Int))) (eI.put (some 15) (.int .u64 ((L.1:Nat):Int))):=d.put (aQ:={ dst:=some 15,op:=.assign (.tmp 0),type:=0,pos:="",after:=#[],guard:=none }) rfl _
  have QO:(eI.put (some 15) (.int .u64 ((L.1:Nat):Int))).eval (.tmp 15)=.int .u64 ((L.1:Nat):Int):=by rw [QN.c3];rfl
  refine wpIn_region_list ?_
  refine⟨fun _ _=>trivial,?_⟩
  rw [By rfl]
  have QP:(execOp (eI.put (some 15) (.int .u64 ((L.1:Nat):Int))).eval { dst:=some 5,op:=.assign (.tmp 15),type:=t,pos:=p,after:=#[],guard:=none }).run prog bR=.ok (.value (.int .u64 ((L.1:Nat):Int))) bR:=by
   simp [execOp,QO]
  rw [QP]
  exact QL
 ·intro l pre L bR a8 Q2
  have QQ:gM 28 (k0 (k0 k 15 (.int .u64 ((L.1:Nat):Int))) 5 (.int .u64 ((L.1:Nat):Int))) ((eI.put (some 15) (.int .u64 ((L.1:Nat):Int))).put (some 5) (.int .u64 ((L.1:Nat):Int))):=
   (d.put (aQ:={ dst:=some 15,op:=.assign (.tmp 0),type:=0,pos:="",after:=#[],guard:=none }) rfl _).put (aQ:={ dst:=some 5,op:=.assign (.tmp 0),type:=0,pos:="",after:=#[],guard:=none }) rfl _
  refine xV dT (.inr ⟨l,rfl⟩) h0.M6 (.inr h0.M7) QQ (h0.v3.ok
   (fun aB=>lQ bR.heap aB∧nB bA bR.heap aB∧uH aE.heap n fD eV hJ hK (lR (pre ++ [L])) aB) (fun aB=>lQ bR.heap aB∧xY aE.heap n eV hJ (lR (pre ++ [L])) aB) _ _
   (uW QE (uW w (uW QF (b0 rfl (Nj L.2 h a8 QH (fun aB a K c=>⟨a,K,by rw [DD];exact c⟩) fun aB a c=>⟨a,by rw [DD];exact c⟩)))))) fun N Q3 Q4 cK r aG R=>?_
  cases N with
  | normal=>exact⟨aG,R.1,R.2.1,R.2.2⟩
  | ret=>exact⟨aG,R.1,R.2⟩
  | exit O=>exact R.elim
 ·intro D aC bR z bH f a8 aW
  exfalso
  have dC:=a8.lt
  have g:=kB.pre f.1 s (by rw [e];omega)
  refine f.2 ((e6.take n).getD (lR aC).length 0) ?_
  have QR:=s.take ((lR aC).length+1)
  have QS:(e6.take n).take ((lR aC).length+1)=lR aC ++ [(e6.take n).getD (lR aC).length 0]:=by
   rw [List.take_add_one,← g]
   congr 1
   have A:(lR aC).length < (e6.take n).length:=by rw [e];exact dC
   rw [List.getElem?_eq_getElem A,List.getD,List.getElem?_eq_getElem A];rfl
  rw [← QS];exact QR
 ·intro D pre bR z bH f a8 aW
  have g:=kB.pre f s (by rw [e,a8.len];exact Nat.le_refl _)
  rw [a8.len,List.take_take,Nat.min_self] at g
  refine wpIn_ret ?_
  show LeavesInM Fence.wide 0 prog h0.F eI.tmps _ ({ target:=.collected D,args:=#[] } :: eI.defers) .returning bR
  rw [y]
  refine⟨by simp,.inl ⟨_,_,rfl,run_takeDeferred aW,?_⟩⟩
  have QT:jS m.heap.size bR.heap (bR.putObj D (.deferred none)).heap:=jS.put _ aW z rfl
  have u:=a8.uD q QT
  obtain⟨B,f1,f2⟩:=DB (P:=prog) dT h0.results (aE:=bR.putObj D (.deferred none)) d (Y:=fun v aB=>bK aE.heap aB∧w0 aE.heap aB v (e6.take n))
   (h0.M9 w (pR u.res rfl (bL rfl ⟨u.aU,by
    have C:=u.mX
    rw [g] at C
    exact⟨_,_,by rw [e];rfl,C⟩⟩)))
  exact⟨B,f1,B,rfl,⟨(o.trans bH).os,(o.trans bH).tape,(o.trans bH).output⟩,f2⟩
theorem nX{n:Nat}(Z:n≤1000):(e6.take n).length=n:=by rw [List.length_take,q3];omega
theorem HL{n:Nat}(Z:U)(a1:1≤n)(b:n≤1000):a4 lS.id #[.int .i64 (n:Int)] Z fun v aB=>bK Z aB∧fB Z aB v (e6.take n,0):=by
 refine lS.ok ?_
 unfold lS.t lS.aP.t
 refine cE (fun a3=>absurd a3 (by omega)) fun _=>?_
 refine cE (fun a3=>absurd a3 (by omega)) fun _=>?_
 unfold lS.a5.t
 refine cD (HK Z a1 b) fun v aB ⟨R,aG⟩=>?_
 exact aG.iM fun a c r=>⟨R,fB.back (p:=(e6.take n,0)) r (show In .i64 0 by decide)⟩
def eP(O:Nat):rW:=jW (e6.take O)
theorem HM:eP 0=Be:=by unfold eP;rw [List.take_zero];rfl
theorem DG{O:Nat}(Z:O < 1000):eP (O+1)=(eP O).next (e6.getD O 0):=by
 have a:O < e6.length:=by rw [q3];exact Z
 unfold eP
 rw [← Bf]
 congr 1
 rw [List.take_add_one]
 congr 1
 rw [List.getElem?_eq_getElem a,List.getD,List.getElem?_eq_getElem a];rfl
theorem Nm{n:Nat}(a1:1≤n)(a:n≤1000):Bg (eP n).P (eP n).g2 (eP n).Y (eP n).hC (dN (4*n+64)) (2 ^ (4*n+64+1)):=by
 have:=(zG e6 [] 68 Bh n a1 (by rw [q3];exact a)).2.1
 rw [show 68+4*(n - 1)=4*n+64 by omega] at this
 exact this
theorem Nn{n:Nat}(a1:1≤n)(a:n≤1000):((eP n).P≤dN (4*n+64)∧(eP n).g2≤dN (4*n+64))∧((eP n).Y≤2 ^ (4*n+64+1)∧(eP n).hC≤2 ^ (4*n+64+1)):=by
 obtain⟨L,aT,b,c,a2,d⟩:=Nm a1 a
 have aM:=Nat.le_mul_of_pos_right (eP n).P (show 0 < L by omega)
 have bO:=Nat.le_mul_of_pos_right (eP n).g2 a2
 have c9:=Nat.le_mul_of_pos_right (eP n).Y (show 0 < L by omega)
 have eI:=Nat.le_mul_of_pos_right (eP n).hC a2
 omega
theorem xZ{n:Nat}(b:n≤1000):fK (eP n).P∧fK (eP n).g2∧fK (eP n).Y∧fK (eP n).hC:=by
 rcases Nat.eq_zero_or_pos n with N | a1
 ·subst N;rw [HM];exact⟨pZ (by decide),pZ (by decide),pZ (by decide),pZ (by decide)⟩
 ·obtain⟨⟨aM,bO⟩,c9,eI⟩:=Nn a1 b
  obtain⟨a,s2⟩:=HH (show 4*n+64 < 4200 by omega)
  exact⟨kK (by omega) a,kK (by omega) a,kK c9 s2,kK eI s2⟩
theorem BD{O:Nat}(Z:O < 1000):1≤e6.getD O 0∧e6.getD O 0 < 18446744073709551616:=by
 have a:O < e6.length:=by rw [q3];exact Z
 refine Mk (n:=1000) (by omega) (by omega) _ ?_
 rw [List.take_of_length_le (by rw [q3];exact Nat.le_refl _),List.getD,List.getElem?_eq_getElem a]
 exact List.getElem_mem a
theorem HN{a K:S}{l c m aZ L aT aE:Nat}{Z:U}{aH:S→Nat→Nat→Int→U→Prop}(r:cJ Z a c (aN L))(d:l=(aN L).length)(aG:cJ Z K aZ (aN aT))(e:m=(aN aT).length)(f:aE < 18446744073709551616)(h:fK L)(g1:fK (aE*L+aT))
  (g:∀ a c aB,bK Z aB→cX dL Z aB a c (aN (aE*L+aT))→aH a (aN (aE*L+aT)).length c 0 aB) :
  a4 uJ.id #[.slice a l c,.int .u64 (aE:Int),.slice K m aZ] Z fun v aB=>cW v fun aT=>cV aT fun i eK=>aR i fun a l c=>cV eK fun j k=>a0 .i64 j fun L=>b9 k (aH a l c L aB):=by
 refine uJ.ok ?_
 unfold uJ.t uJ.aP.t
 have N:L*aE+aT=aE*L+aT:=by rw [Nat.mul_comm]
 refine vG r d f h (kK (by omega) g1) fun aM aK a1 cC n=>?_
 refine j8 (fun N=>absurd rfl N) fun _=>?_
 refine vE n.eS rfl (aG.aU cC) e (by rw [N];exact g1) fun bO bN o p b=>?_
 rw [N] at b ⊢
 exact gY rfl (cS (bL rfl (cS (b0 rfl (eG (g bO bN o (cC.trans p) (b.from cC.le)))))))
theorem No{n:Nat}(h:n≤1000){a2:U}{Y:aF}(w:∀ v aB,bK a2 aB→lN a2 aB v (aN (eP n).P,aN (eP n).Y,0)→Y v aB):
  ∀ (m O:Nat) {bE bG bX b6 fM:S} {bD bI bY b7 fR oK:Nat} {Z:U},1≤O→O+m=n→bK a2 Z→a2.size≤oK→oK≤Z.size→
   gC a2.size oK Z (bE,(aN (eP O).P).length,bD) (aN (eP O).P)→gC oK Z.size Z (bG,(aN (eP O).Y).length,bI) (aN (eP O).Y)→cJ Z bX bY (aN (eP O).g2)→cJ Z b6 b7 (aN (eP O).hC)→cJ Z fM fR (e6.take n)→
   jA.dS.t Y (m+1) bE (aN (eP O).P).length bD bG (aN (eP O).Y).length bI bX (aN (eP O).g2).length bY b6 (aN (eP O).hC).length b7 fM n fR (n:Int) (O:Int) Z:=by
 intro m
 induction m with
 | zero=>
  intro O bE bG bX b6 fM bD bI bY b7 fR oK Z a1 a8 a i j b c k l g
  unfold jA.dS.t jA.dD.t
  refine cE (fun a3=>by omega) fun _=>?_
  unfold jA.bM.t
  have N:O=n:=by omega
  subst N
  exact w _ _ a (lN.mk oK i j (.inl ⟨b,c⟩) (by decide))
 | succ m bZ=>
  intro O bE bG bX b6 fM bD bI bY b7 fR oK Z a1 a8 a i j b c k l g
  unfold jA.dS.t jA.dD.t
  refine cE (fun a3=>?_) fun a3=>by omega
  have x:O < (e6.take n).length:=by rw [nX h];omega
  have y:(e6.take n).getD O 0=e6.getD O 0:=by simp [List.getD,show O < n by omega]
  refine gJ g (aD:=O) rfl (nX h).symm x ?_
  rw [y]
  have o:=(BD (show O < 1000 by omega)).2
  obtain⟨z,s2,iU,yR⟩:=xZ (n:=O) (by omega)
  obtain⟨t1,t2,t3,t4⟩:=xZ (n:=O+1) (by omega)
  have d:=DG (show O < 1000 by omega)
  have p:(eP (O+1)).P=e6.getD O 0*(eP O).P+(eP O).g2:=by rw [d];rfl
  have q:(eP (O+1)).Y=e6.getD O 0*(eP O).Y+(eP O).hC:=by rw [d];rfl
  have r:(eP (O+1)).g2=(eP O).P:=by rw [d];rfl
  have s:(eP (O+1)).hC=(eP O).Y:=by rw [d];rfl
  refine gL (fun F=>by omega) fun _=>?_
  refine HN b.rd rfl k rfl o z (by rw [← p];exact t1) fun aS eK A cC eL=>?_
  refine HN (c.rd.aU cC) rfl (l.aU cC) rfl o iU (by rw [← q];exact t3) fun B C D e u=>?_
  refine j8 (fun N=>absurd rfl N) fun _=>?_
  refine j8 (fun N=>absurd rfl N) fun _=>?_
  refine⟨?_⟩
  have E:IntKind.i64.wrap ((O:Int)+1)=((O+1:Nat):Int):=by rw [wrap_i64] <;> omega
  rw [E]
  have f:=cC.trans e
  rw [← p] at eL ⊢
  rw [← q] at u ⊢
  have:=bZ (O+1) (bE:=aS) (bD:=eK) (bG:=B) (bI:=C) (bX:=bE) (bY:=bD) (b6:=bG) (b7:=bI) (fM:=fM) (fR:=fR) (oK:=A.size) (Z:=D) (by omega) (by omega) (a.trans f) (Nat.le_trans a.le cC.le) e.le
   (gC.o2 (eL.aU e) rfl a.le (Nat.le_refl _) |> fun aQ=>(gC.o2 eL rfl a.le (Nat.le_refl _)).aU e) (gC.o2 u rfl (Nat.le_refl _) (Nat.le_refl _)) (by rw [r];exact b.rd.aU f) (by rw [s];exact c.rd.aU f) (g.aU f)
  rw [r,s] at this
  exact this
theorem HO{R:Nat}(Z:U)(u:R < 1000):a4 jA.id #[.int .i64 (R:Int)] Z fun v aB=>bK Z aB∧lN Z aB v (aN (eP (R+1)).P,aN (eP (R+1)).Y,0):=by
 refine jA.ok ?_
 unfold jA.t jA.aP.t
 refine cE (fun a3=>absurd a3 (by omega)) fun _=>?_
 refine cE (fun a3=>absurd a3 (by omega)) fun _=>?_
 unfold jA.a5.t jA.cF.t
 refine⟨?_⟩
 have d:IntKind.i64.wrap ((R:Int)+1)=((R+1:Nat):Int):=by rw [wrap_i64] <;> omega
 rw [d]
 refine cD (HK (n:=R+1) Z (by omega) (by omega)) fun v a1 ⟨cC,e⟩=>?_
 refine e.iM fun fM fR c=>?_
 rw [nX (show R+1≤1000 by omega)]
 refine⟨R+1+1,?_⟩
 unfold jA.dS.t jA.dD.t
 refine cE (fun a3=>?_) fun a3=>by omega
 have f:0 < (e6.take (R+1)).length:=by rw [nX (by omega)];omega
 have g:(e6.take (R+1)).getD 0 0=e6.getD 0 0:=by simp [List.getD]
 refine gJ c.eS (aD:=0) rfl (nX (by omega)).symm f ?_
 rw [g]
 have h:=(BD (show 0 < 1000 by omega)).2
 refine gL (fun _=>?_) fun i=>absurd rfl i
 refine o6 h fun aS eK j aL eL=>?_
 refine o6 (L:=1) (by decide) fun k l w b3 m=>?_
 refine o6 (L:=1) (by decide) fun o p q eE r=>?_
 refine⟨?_⟩
 have s:IntKind.i64.wrap ((0:Int)+1)=((1:Nat):Int):=by rw [wrap_i64] <;> omega
 rw [s]
 have b:eP 1=⟨e6.getD 0 0,1,1,0⟩:=by rw [DG (by omega),HM];simp [rW.next,Be]
 have eR:=cC.trans (aL.trans (b3.trans eE))
 have:=No (n:=R+1) (by omega) (a2:=Z) (Y:=fun v aB=>bK Z aB∧lN Z aB v (aN (eP (R+1)).P,aN (eP (R+1)).Y,0)) (fun v aB a K=>⟨a,K⟩) R 1 (bE:=aS) (bD:=eK) (bG:=k) (bI:=l) (bX:=o) (bY:=p) (b6:=none) (b7:=0) (fM:=fM) (fR:=fR) (oK:=j.size) (Z:=q)
  (Nat.le_refl _) (by omega) eR (cC.trans aL).le (b3.trans eE).le (by rw [b];exact(gC.o2 eL rfl cC.le (Nat.le_refl _)).aU (b3.trans eE)) (by rw [b];exact(gC.o2 m rfl (Nat.le_refl _) eE.le).aU eE)
  (by rw [b];exact r.eS) (by rw [b,e0];exact cJ.nil _ _ _) (c.eS.aU (aL.trans (b3.trans eE)))
 rw [b] at this
 simp only [e0,List.length_nil] at this
 exact this
theorem Np{L:Int}(Z:U)(a:L < 0∨L≥1000):a4 jA.id #[.int .i64 L] Z fun v aB=>aB=Z∧v=.tuple #[.slice none 0 0,.slice none 0 0,.int .i64 1]:=by
 refine jA.ok ?_
 unfold jA.t jA.aP.t
 refine cE (fun a3=>⟨rfl,rfl⟩) fun a3=>?_
 exact cE (fun a3=>⟨rfl,rfl⟩) fun b=>by omega
theorem Nq:r1 80 (e1 64) (2 ^ 1) (2 ^ (1+1) - 1)=some (3,true):=by kernel_rfl
theorem HP:iP (e1 64) 3 true=2:=by kernel_rfl
theorem Nr:zO 3000 (3*2 ^ (64+1337)) 2=true:=by kernel_rfl
theorem Ns:q6 1400 (3*2 ^ (64+1337)) 2=3:=by kernel_rfl
theorem zU{n:Nat}(a2:n ≠ 0)(Z:n < 18446744073709551616):aN n=[n]:=by
 rw [k2 a2,Nat.mod_eq_of_lt Z,show n / 18446744073709551616=0 by omega,e0]
theorem DH:e6.take 5=[1,1,1,3,31]:=by kernel_rfl
theorem BE:eP 4=⟨11,3,7,2⟩:=by
 show jW (e6.take 4)=_
 rw [show e6.take 4=[1,1,1,3] by kernel_rfl];rfl
theorem kO{a K:S}{c aZ l m:Nat}{aC:List Nat}{Z:U}{aH:Bool→Prop}(r:cJ Z a c aC)(aG:cJ Z K aZ aC)(b:l=aC.length)(d:m=aC.length)(g:aH true):h9 h8.id #[.slice a l c,.slice K m aZ] Z fun v=>eU v aH:=by
 refine JQ r aG b d ?_
 rw [decide_eq_true rfl];exact g
theorem Nt(Z:U):a4 kY.id #[.int .i64 2,.int .i64 0] Z fun v aB=>bK Z aB∧∃ a c,v=.tuple #[.agg #[.int .u64 3,.slice a 1 c,.int .i64 3],.int .i64 0]∧cX dL Z aB a c [2]:=by
 have f:=Hj (aE:=1400) (by omega) Nr
 have b:=Hn (K:=1) (N:=64) Z (by omega) (by omega) (m:=3) (up:=true) Nq (by rw [HP];exact f)
 rw [HP] at b
 refine cD b fun v j b=>?_
 obtain⟨g,eI,eN,h,d⟩:=b
 have e:v=.tuple #[.agg #[.int .u64 ((3:Nat):Int),.slice eI (aN 2).length eN,.int .i64 3],.int .i64 0]:=
  h.trans (congrArg (fun bS=>Value.tuple #[.agg #[.int .u64 ((3:Nat):Int),.slice eI (aN 2).length eN,.int .i64 bS],.int .i64 0]) Ns)
 have i:aN 2=[2]:=zU (by decide) (by decide)
 rw [i] at e d
 exact⟨g,eI,eN,e,d⟩
theorem Nu(Z:U):a4 q9.id #[] Z fun v aB=>bK Z aB∧v=.bool true:=by
 refine q9.ok ?_
 unfold q9.t q9.aP.t
 refine cD (HL (n:=5) Z (by omega) (by omega)) fun v a1 ⟨cC,k⟩=>?_
 refine k.iM fun aM aK l J=>?_
 refine cD (HO (R:=3) a1 (by omega)) fun v m ⟨h,s2⟩=>?_
 obtain⟨⟨_,_,_,o,⟨bO,bN,p,q⟩,⟨c9,cZ,r,s⟩,u,_⟩,_⟩:=s2
 subst o;subst p;subst r;subst u
 refine gY rfl (cS (bL rfl (cS (bL rfl (cS (b0 rfl (eG ?_)))))))
 refine cD (Nt m) fun v i ⟨c,eI,eN,w,x⟩=>?_
 subst w
 refine gY rfl (cS (fH rfl (cS (b0 rfl (cS (bL rfl (cS (b0 rfl (eG (cS (b0 rfl (eG ?_))))))))))))
 refine fJ fun Q y z=>?_
 refine j5 y (by exact(by decide:0 < 3)) fun T A B=>?_
 refine j5 A (by exact(by decide:1 < 3)) fun V C D=>?_
 refine j5 C (by exact(by decide:2 < 3)) fun a E b=>?_
 have eR:bK i a:=cG.aU (cG.aU (cG.aU z B (Nat.le_refl _)) D (Nat.le_refl _)) b (Nat.le_refl _)
 refine j8 (fun N=>absurd rfl N) fun _=>?_
 refine j8 (fun N=>absurd rfl N) fun _=>?_
 refine j8 (fun N=>absurd rfl N) fun _=>?_
 unfold q9.a5.t
 have e:eM a i.size [.int .u64 3,.slice eI 1 eN,.int .i64 3]:=E
 have pM:cJ a aM aK [1,1,1,3,31]:=by have:=l.eS.aU (h.trans (c.trans eR));rwa [DH] at this
 have vY:cJ a bO bN [11]:=by
  have t:cJ a bO bN (aN (eP 4).P):=q.eS.aU (c.trans eR)
  rwa [BE,zU (by decide) (by decide)] at t
 have oR:cJ a c9 cZ [7]:=by
  have t:cJ a c9 cZ (aN (eP 4).Y):=s.eS.aU (c.trans eR)
  rwa [BE,zU (by decide) (by decide)] at t
 have uG:cJ a eI eN [2]:=x.eS.aU eR
 have aL:(e6.take 5,(0:Int)).1.length=[1,1,1,3,31].length:=by rw [DH]
 have b3:((aN (eP (3+1)).P,aN (eP (3+1)).Y,(0:Int)).1).length=[11].length:=by
  show(aN (eP 4).P).length=_
  rw [BE,zU (by decide) (by decide)]
 have eE:((aN (eP (3+1)).P,aN (eP (3+1)).Y,(0:Int)).2.1).length=[7].length:=by
  show(aN (eP 4).Y).length=_
  rw [BE,zU (by decide) (by decide)]
 refine xC [1,1,1,3,31] (by rfl) (by simp) (by simp) fun Qx F d=>?_
 refine kO (pM.aU d) (F.rd (by simp)) aL rfl ?_
 refine hO (fun N=>by cases N) fun _=>?_
 refine xC [11] (by rfl) (by simp) (by simp) fun Qy G f=>?_
 refine kO (vY.aU (d.trans f)) (G.rd (by simp)) b3 rfl ?_
 refine hO (fun N=>by cases N) fun _=>?_
 refine xC [7] (by rfl) (by simp) (by simp) fun fV H j=>?_
 refine kO (oR.aU (d.trans (f.trans j))) (H.rd (by simp)) eE rfl ?_
 refine hO (fun N=>by cases N) fun _=>?_
 unfold q9.bM.t
 have b:bK a fV:=d.trans (f.trans j)
 refine nJ (e.aU b) rfl (b0 rfl ?_)
 refine gL (fun _=>?_) fun N=>absurd rfl N
 refine nJ (e.aU b) rfl (bL rfl ?_)
 refine xC [2] (by rfl) (by simp) (by simp) fun Qz I g=>?_
 refine kO (uG.aU (b.trans g)) (I.rd (by simp)) rfl rfl ?_
 refine nJ (e.aU (b.trans g)) rfl (b0 rfl ?_)
 exact⟨cC.trans (h.trans (c.trans (eR.trans (b.trans g)))),rfl⟩
theorem Nv{Z:U}{aH:Bool→U→Prop}(g:∀ aB,bK Z aB→aH true aB):a4 q9.id #[] Z fun v aB=>eU v fun K=>aH K aB:=by
 refine cD (Nu Z) fun v aB ⟨R,N⟩=>?_
 subst N;exact dB rfl (g aB R)
theorem Nw{O:Int}{Z:U}(a8:O < 0∨O≥1000){aH:S→Nat→Nat→S→Nat→Nat→Int→U→Prop}(g:aH none 0 0 none 0 0 1 Z):
  a4 jA.id #[.int .i64 O] Z fun v aB=>cW v fun aT=>cV aT fun b eK=>aR b fun a l c=>cV eK fun d e=>aR d fun K m aZ=>cV e fun f h=>a0 .i64 f fun L=>b9 h (aH a l c K m aZ L aB):=by
 refine cD (Np Z a8) fun v aB ⟨i,j⟩=>?_
 subst i;subst j
 exact gY rfl (cS (bL rfl (cS (bL rfl (cS (b0 rfl (eG g)))))))
def iA:Nat→Nat→Nat→List Nat
 | 0,_,_=>[]
 | n+1,a7,bQ=>if bQ=0 then [] else a7 / bQ :: iA n bQ (a7 % bQ)
theorem DI:∀ (Q:List Nat) (L aT n:Nat),(∀ aI ∈ Q,1≤aI)→0 < aT→aT < L→iA (Q.length+n) (gV Q (L,aT)).1 (gV Q (L,aT)).2=Q ++ iA n L aT
 | [],L,aT,n,_,a2,a1=>by simp [gV]
 | aI :: Q,L,aT,n,b,a2,a1=>by
  obtain⟨aM,bO,c9,eI⟩:=Dk (aI:=aI) (fun r a=>b r (List.mem_cons_of_mem _ a)) a2 a1
  rw [List.length_cons,show Q.length+1+n=(Q.length+n)+1 by omega,iA,if_neg (by omega),bO,c9,eI,DI Q L aT n (fun r a=>b r (List.mem_cons_of_mem _ a)) a2 a1]
  rfl
structure nY(Z:U)(m:S)(a:S)(c:Nat)(aC:List Nat):Prop where
 r:cL cA Z a c aC
 aQ:aC=[]∨∀ p,a=some p→gA p.block m
theorem nY.aU{Z aB:U}{m a:S}{c:Nat}{aC:List Nat}(r:nY Z m a c aC)(R:bK Z aB):nY aB m a c aC:=⟨r.r.aU R,r.aQ⟩
theorem nY.step{Z aB:U}{m dU a:S}{c:Nat}{aC:List Nat}(r:nY Z m a c aC)(R:nI m Z aB)(e:dU=m∨∃ K,dU=some ⟨K,0,none⟩∧Z.size≤K):nY aB dU a c aC:=by
 rcases r.aQ with N | aQ
 ·subst N;exact⟨cL.nil _ _ _,Or.inl rfl⟩
 ·cases aC with
  | nil=>exact⟨cL.nil _ _ _,Or.inl rfl⟩
  | cons L aC=>
   refine⟨⟨r.r.len,r.r.cap,r.r.ok,fun O aT a8=>?_⟩,Or.inr fun p b=>?_⟩
   ·obtain⟨p,N,g⟩:=r.r.at_ O aT a8
    refine⟨p,N,?_⟩
    have a3:=uX g
    rw [qM (R.pre _ a3 (by rw [oY];exact aQ p N))];exact g
   ·rcases e with N | ⟨K,N,a3⟩
    ·rw [N];exact aQ p b
    ·obtain⟨h,f,g⟩:=r.r.at_ 0 L (by simp)
     have dC:=uX g
     rw [oY] at dC
     rw [f] at b;cases b
     intro aI d;rw [N] at d;cases d
     show K ≠ _;omega
theorem nY.fresh{Z aB:U}{m a:S}{c:Nat}{aC:List Nat}(g:cX cA Z aB a c aC)(e:∀ p,m=some p→p.block < Z.size):nY aB m a c aC:=by
 refine⟨g.rd,Or.inr fun p b aI f=>?_⟩
 rcases g.here with ⟨_,d,_⟩ | ⟨K,rest,h,d,_,_⟩
 ·rw [d] at b;cases b
 ·rw [h] at b;cases b
  have:=e aI f
  show aI.block ≠ K;omega
theorem cX.w2{dF:Type}{E:kS dF}{a2 Z:U}{a:S}{c:Nat}{aC:List dF}(g:cX E a2 Z a c aC):∀ p,a=some p→p.block < Z.size:=by
 intro p b
 rcases g.here with ⟨_,d,_⟩ | ⟨K,rest,e,d,aQ,_⟩
 ·rw [d] at b;cases b
 ·rw [e] at b;cases b;exact aQ.lt
theorem Nx{a2 Z:U}{N:TypeId}{O:dW}{a:S}{l c m:Nat}{aG:fA}{gK:List fA}(g:cX lX a2 Z a c gK)(f:bK a2 Z)(i:l=gK.length)(j:O.leaves.length=1)(k:O.a9=[.slice none 0 0])(a3:O.bytes=24)(q:gK.length≤100000){aH:S→Nat→Nat→U→Prop}
  (post:∀ b dI a1 aB,cX lX a2 aB b dI (gK ++ [aG])→bK a2 aB→bK Z a1→nI a a1 aB→(b=a∨∃ K,b=some ⟨K,0,none⟩∧a1.size≤K)→aH b (gK.length+1) dI aB):dX Z N [.slice aG.1 aG.2.1 aG.2.2] fun aI e=>g3 e N O a l c (.slice (some aI) 1 m) aH:=by
 refine rJ lX [aG] rfl (fun _ _=>trivial) fun e n d=>?_
 have r:=n.n7 (c:=1) (by simp [lX]) (Nat.le_refl _)
 refine Cu (g.aU d) (Nat.le_trans f.le d.le) r i rfl j (none,0,0) k trivial 24 a3 (by decide) (by simp only [List.length_singleton];show _≤11728124029610;omega) (fun _=>by simp only [List.length_singleton];omega) fun b dI aB o h s p=>?_
 exact post b dI e aB o (h.aU (f.trans d) (g.aU d).yQ) d h p
structure mR(Z:U)(m:S)(gK:List fA)(eW:List Nat):Prop where
 len:gK.length=eW.length
 at_:∀ aD aG,gK[aD]?=some aG→aG.2.1=(D.aN (eW.getD aD 0)).length∧nY Z m aG.1 aG.2.2 (D.aN (eW.getD aD 0))
theorem mR.aU{Z aB:U}{m:S}{gK:List fA}{eW:List Nat}(aZ:mR Z m gK eW)(R:bK Z aB):mR aB m gK eW:=⟨aZ.len,fun aD aG N=>⟨(aZ.at_ aD aG N).1,(aZ.at_ aD aG N).2.aU R⟩⟩
theorem mR.step{Z aB:U}{m dU:S}{gK:List fA}{eW:List Nat}(aZ:mR Z m gK eW)(R:nI m Z aB)(a:dU=m∨∃ K,dU=some ⟨K,0,none⟩∧Z.size≤K):mR aB dU gK eW:=
 ⟨aZ.len,fun aD aG N=>⟨(aZ.at_ aD aG N).1,(aZ.at_ aD aG N).2.step R a⟩⟩
theorem mR.snoc{Z:U}{m:S}{gK:List fA}{eW:List Nat}(aZ:mR Z m gK eW){a:S}{c aI:Nat}(r:nY Z m a c (D.aN aI)):mR Z m (gK ++ [(a,(D.aN aI).length,c)]) (eW ++ [aI]):=by
 refine⟨by simp [aZ.len],fun aD aG N=>?_⟩
 rw [List.getElem?_append] at N
 split at N
 ·rename_i b
  have:=aZ.at_ aD aG N
  rw [show(eW ++ [aI]).getD aD 0=eW.getD aD 0 by simp [List.getD,List.getElem?_append,aZ.len ▸ b]]
  exact this
 ·rename_i b
  have d:aD=gK.length:=by
   have:=(List.getElem?_eq_some_iff.mp N).1
   simp at this;omega
  subst d
  simp at N;subst N
  rw [show(eW ++ [aI]).getD gK.length 0=aI by rw [aZ.len];simp [List.getD]]
  exact⟨rfl,r⟩
theorem DJ{Z:U}{m:S}{a:S}{c l:Nat}{gK:List fA}{eW:List Nat}(aZ:mR Z m gK eW)(r:cL lX Z a c gK){O:Int}{aD:Nat}(a8:O=(aD:Int))(d:l=gK.length)(e:aD < eW.length){aH:S→Nat→Nat→Prop}
  (g:∀ a c,cL cA Z a c (D.aN (eW.getD aD 0))→aH a (D.aN (eW.getD aD 0)).length c):c6 a l O 1 fun aI=>fZ Z aI fun v=>aR v aH:=by
 have b:aD < gK.length:=by rw [aZ.len];exact e
 refine nG r a8 d (L:=gK[aD]) (List.getElem?_eq_getElem b) ?_
 obtain⟨f,h⟩:=aZ.at_ aD gK[aD] (List.getElem?_eq_getElem b)
 rw [f];exact g _ _ h.r
def DK(Z:U)(eW:List Nat)(v:Value)(aB:U):Prop:=bK Z aB∧∃ a c gK,v=.slice a gK.length c∧cX lX Z aB a c gK∧mR aB a gK eW
theorem Ny{a2:U}{b:Nat}(y:b≤2000)(c:List Nat):
  ∀ (n:Nat) {M aM bX:S} {aA aK bY a7 bQ:Nat} {Z:U} {gK:List fA} {eW:List Nat},eW.length+n=b→c=eW ++ iA n a7 bQ→fX a7→fX bQ→bK a2 Z→nY Z bX M aA (D.aN a7)→nY Z bX aM aK (D.aN bQ)→cX lX a2 Z bX bY gK→mR Z bX gK eW→
   l9.cP.t (DK a2 c) (n+1) M (D.aN a7).length aA aM (D.aN bQ).length aK (b:Int) bX gK.length bY Z:=by
 intro n
 induction n with
 | zero=>
  intro M aM bX aA aK bY a7 bQ Z gK eW q a k o d p l g aZ
  have s:c=eW:=by rw [a,iA,List.append_nil]
  have fin:l9.a5.t (DK a2 c) bX gK.length bY Z:=by
   unfold l9.a5.t
   subst s;exact⟨d,bX,bY,gK,rfl,g,aZ⟩
  unfold l9.cP.t l9.cF.t
  refine cE (fun _=>?_) fun _=>fin
  refine cE (fun a3=>?_) fun _=>fin
  have:=aZ.len;omega
 | succ n bZ=>
  intro M aM bX aA aK bY a7 bQ Z gK eW q a k o d p l g aZ
  unfold l9.cP.t l9.cF.t
  have z:=aZ.len
  refine cE (fun a3=>?_) fun a3=>?_
  ·have e:bQ ≠ 0:=fun N=>by have:=pE.mpr N;omega
   rw [iA,if_neg e] at a
   refine cE (fun _=>?_) fun a3=>absurd (show((gK.length:Nat):Int) < (b:Int) by omega) a3
   unfold l9.cH.t
   refine vH p.r rfl l.r rfl k e fun bO bN c9 cZ A f u v=>?_
   have f2:=nY.fresh u (m:=bX) (cX.w2 g)
   have f3:=nY.fresh v (m:=bX) (cX.w2 g)
   refine Nx (aG:=(bO,(D.aN (a7 / bQ)).length,bN)) (g.aU f) (d.trans f) rfl rfl rfl rfl (by omega) fun eI eN B C w x h i j=>?_
   have bH:gK.length+1=(gK ++ [(bO,(D.aN (a7 / bQ)).length,bN)]).length:=by simp
   rw [bH]
   refine bZ (eW:=eW ++ [a7 / bQ]) (by simp;omega) (by rw [a,List.append_assoc];rfl) o (s6 (Nat.mod_le _ _) k) x (((l.aU f).aU h).step i j) ((f3.aU h).step i j) w ?_
   exact mR.snoc (((aZ.aU f).aU h).step i j) ((f2.aU h).step i j)
  ·have e:bQ=0:=pE.mp (by omega)
   unfold l9.a5.t
   rw [iA,if_pos e,List.append_nil] at a
   subst a;exact⟨d,bX,bY,gK,rfl,g,aZ⟩
theorem HQ{Z:U}{a K:S}{c aZ l m a7 bQ b:Nat}{O:Int}(r:cL cA Z a c (D.aN a7))(aG:cL cA Z K aZ (D.aN bQ))(d:l=(D.aN a7).length)(e:m=(D.aN bQ).length)(a8:O=(b:Int))(f:b≤2000)(h:fX a7)(i:fX bQ){aH:S→Nat→Nat→U→Prop}
  (g:∀ a c gK aB,bK Z aB→cL lX aB a c gK→mR aB a gK (iA b a7 bQ)→aH a gK.length c aB) :
  a4 l9.id #[.slice a l c,.slice K m aZ,.int .i64 O] Z fun v aB=>aR v fun a l c=>aH a l c aB:=by
 subst d;subst e;subst a8
 refine cD (c8:=DK Z (iA b a7 bQ)) ?_ fun v aB ⟨R,a,c,gK,N,j,aZ⟩=>by subst N;exact bL rfl (g a c gK aB R j.rd aZ)
 refine l9.ok ?_
 unfold l9.t l9.aP.t
 have k:∀ {aC:List Nat} {p:Addr},aC=aC→gA p.block none:=fun _ aI N=>by cases N
 refine⟨b+1,?_⟩
 exact Ny f (iA b a7 bQ) b (eW:=[]) (gK:=[]) (by simp) (by simp) h i (bK.refl _) ⟨r,Or.inr fun p _ aI N=>by cases N⟩ ⟨aG,Or.inr fun p _ aI N=>by cases N⟩ (cX.nil _ _) ⟨rfl,fun aD aG N=>by simp at N⟩
theorem Nz{R:Nat}(a1:1≤R)(e:R≤1000):(∃ T,T ≠ []∧iA (R+2) (dN (4*R+64)) (2 ^ (4*R+64+1))=e6.take R ++ T)∧(∃ T,T ≠ []∧iA (R+2) (dN (4*R+64)+1) (2 ^ (4*R+64+1))=e6.take R ++ T):=by
 obtain⟨a,⟨L,aT,fD,eV,g4,hK⟩,⟨cY,v,aK,bN,cZ,eN⟩⟩:=zG e6 [] 68 Bh R a1 (by rw [q3];exact e)
 rw [show 68+4*(R - 1)=4*R+64 by omega] at fD eV aK bN
 have b:∀ aI ∈ e6.take R,1≤aI:=fun aI b=>(a aI b).1
 have c:=DI (e6.take R) L aT 2 b g4 hK
 have d:=DI (e6.take R) cY v 2 b cZ eN
 rw [Dl _ _ rfl,nX e] at c d
 simp only [List.nil_append] at fD eV aK bN
 simp only at c d
 rw [fD,eV] at c
 rw [aK,bN] at d
 refine⟨⟨iA 2 L aT,?_,c⟩,⟨iA 2 cY v,?_,d⟩⟩
 ·rw [iA,if_neg (by omega)];simp
 ·rw [iA,if_neg (by omega)];simp
def p9(b8:List Value):Prop:=∀ v ∈ b8,∀ n:Int,v ≠ .int .u32 n
theorem sA(p:Bool)(a:S)(l c:Nat):p9 [.bool p,.slice a l c]:=by
 intro v b5 n
 simp only [List.mem_cons,List.not_mem_nil,or_false] at b5
 rcases b5 with N | N <;> (rw [N];exact fun Z=>by cases Z)
theorem NA{Z:U}{aI:Nat}{b8:List Value}{a:S}{c:Nat}{aC:List Nat}(aQ:eM Z aI b8)(d:p9 b8)(r:cL cA Z a c aC):aC=[]∨gA aI a:=by
 cases aC with
 | nil=>exact Or.inl rfl
 | cons L aC=>
  obtain⟨p,N,g⟩:=r.at_ 0 L (by simp)
  refine Or.inr fun h b e=>?_
  rw [N] at b;cases b
  obtain⟨t,at_⟩:=aQ.at_
  unfold hB at g
  rw [oY,e,at_] at g
  simp only at g
  split at g
  ·cases g
  ·have f:=Array.mem_of_getElem? g
   exact d (cA.enc L) (by simpa using f) (L:Int) rfl
theorem gT.cR{Z aB:U}{aI:Nat}{b8:List Value}{p:Bool}{a:S}{l c:Nat}{O:Int}(bS:gT Z p a l c O)(aQ:eM Z aI b8)(b:p9 b8)(R:cG aI Z aB):gT aB p a l c O:=by
 refine⟨bS.p,bS.l,?_⟩
 rcases NA aQ b bS.r with N | N
 ·rw [N];exact cL.nil _ _ _
 ·exact bS.r.cR N R
theorem x0{Z:U}{aI:Nat}{b8:List Value}(aQ:eM Z aI b8)(b:b8.length=2){p:Bool}{a:S}{l c:Nat}{aH:U→Prop}(g:∀ aB,cG aI Z aB→eM aB aI [.bool p,.slice a l c]→aH aB):
  cM Z ((⟨aI,0,none⟩:Addr).add 0) (.bool p) fun a1=>cM a1 ((⟨aI,0,none⟩:Addr).add 1) (.slice a l c) aH:=by
 match b8,b with
 | [j,k],_=>
  refine j5 aQ (by exact(by decide:0 < 2)) fun m d e=>?_
  refine j5 d (by exact(by decide:1 < 2)) fun f h i=>?_
  exact g f (e.trans i) h
def zV(Z:U)(O:Int)(v:Value)(aB:U):Prop:=bK Z aB∧∃ p a l c,v=.agg #[.bool p,.slice a l c]∧gT aB p a l c O
theorem zV.elim{Z aB:U}{v:Value}{O:Int}{aH:Bool→S→Nat→Nat→U→Prop}(aG:zV Z O v aB)(g:∀ p a l c,bK Z aB→gT aB p a l c O→aH p a l c aB):qY v aB aH:=by
 obtain⟨R,p,a,l,c,N,bS⟩:=aG
 subst N
 exact fH rfl (cS (dB rfl (cS (bL rfl (eG (g _ _ _ _ R bS))))))
theorem HR{a2 Z:U}{aI:Nat}{b8:List Value}{O:Int}(aQ:eM Z aI b8)(e:b8.length=2)(f:p9 b8)(g:bK a2 Z)(h:a2.size≤aI){p:Bool}{a:S}{l c:Nat}(bS:gT Z p a l c O):
  cM Z ((⟨aI,0,none⟩:Addr).add 0) (.bool p) fun a1=>cM a1 ((⟨aI,0,none⟩:Addr).add 1) (.slice a l c) fun b=>fZ b ((⟨aI,0,none⟩:Addr).add 0) fun i=>eU i fun K=>fZ b ((⟨aI,0,none⟩:Addr).add 1) fun j=>aR j fun a l c=>zV a2 O (.agg #[.bool K,.slice a l c]) b:=by
 refine x0 aQ e fun b d k=>?_
 exact nS k ⟨cG.aU g d h,p,a,l,c,rfl,bS.cR aQ f d⟩
section
variable {a K:S} {c aZ l m L n:Nat} {Z:U} {O aD aT:Int} {p aI:Bool} {aH:Bool→S→Nat→Nat→U→Prop}
theorem zW(b:aT=(n:Int))(e:n≤100000)(r:gT Z p a l c (L:Int))(d:fX L)(g:∀ p a l c aB,bK Z aB→gT aB p a l c ((L*2 ^ n:Nat):Int)→aH p a l c aB):
  a4 lZ.id #[.agg #[.bool p,.slice a l c],.int .i64 aT] Z fun v aB=>qY v aB aH:=by
 subst b
 refine cD (lZ.bH (p:=p) (L:=(n:Int)) r.r r.l (by rw [sP];omega) d (by omega) (Or.inl (by omega))) fun v aB ⟨R,aG⟩=>?_
 rw [r.c7] at aG
 rw [show(L:Int)*2 ^ ((n:Int).toNat)=((L*2 ^ n:Nat):Int) by rw [Int.toNat_natCast,Int.natCast_mul,Int.natCast_pow];rfl] at aG
 exact xL aG fun p a l c bS _=>g p a l c aB R bS
theorem NB(r:gT Z p a l c O)(aG:gT Z aI K m aZ aD)(b:fX O.natAbs)(d:fX aD.natAbs)(g:∀ p a l c aB,bK Z aB→gT aB p a l c (O*aD)→aH p a l c aB):
  a4 p0.id #[.agg #[.bool p,.slice a l c],.agg #[.bool aI,.slice K m aZ]] Z fun v aB=>qY v aB aH:=by
 refine cD (p0.bH (p:=p) (aI:=aI) r.r r.l aG.r aG.l b d) fun v aB ⟨R,t⟩=>?_
 rw [r.c7,aG.c7] at t
 exact xL t fun p a l c bS _=>g p a l c aB R bS
theorem NC(b:aT=(n:Int))(e:n≤100000)(r:gT Z p a l c O)(d:(D.aN O.natAbs).length≤150000)(g:∀ p a l c aB,bK Z aB→gT aB p a l c (h2 O ((2 ^ n:Nat):Int))→aH p a l c aB):
  a4 m3.id #[.agg #[.bool p,.slice a l c],.int .i64 aT] Z fun v aB=>qY v aB aH:=by
 subst b
 refine cD (m3.bH (p:=p) (L:=(n:Int)) r.r r.l (by rw [sP];omega) d) fun v aB ⟨R,aG⟩=>?_
 rw [r.c7,show(2:Int) ^ ((n:Int).toNat)=((2 ^ n:Nat):Int) by rw [Int.toNat_natCast,Int.natCast_pow];rfl] at aG
 exact xL aG fun p a l c bS _=>g p a l c aB R bS
theorem DL(r:gT Z p a l c (L:Int))(aG:gT Z aI K m aZ (n:Int))(d:n ≠ 0)(b:(D.aN L).length≤150000)(DM:(D.aN n).length≤150000)(g:∀ p a l c aB,bK Z aB→gT aB p a l c ((iB L n:Nat):Int)→aH p a l c aB):
  a4 mJ.id #[.agg #[.bool p,.slice a l c],.agg #[.bool aI,.slice K m aZ]] Z fun v aB=>qY v aB aH:=by
 refine cD (mJ.bH (p:=p) (aI:=aI) r.r r.l aG.r aG.l b DM) fun v aB ⟨R,t⟩=>?_
 rw [r.c7,aG.c7] at t
 have N:xJ (L:Int) (n:Int)=dV ((iB L n:Nat):Int):=by
  unfold xJ mG
  rw [if_neg (by omega),decide_eq_false (by omega),decide_eq_false (by omega),Int.natAbs_natCast,Int.natAbs_natCast];rfl
 rw [N] at t
 exact xL t fun p a l c bS _=>g p a l c aB R bS
theorem ND(r:gT Z p a l c (L:Int))(g:∀ p a l c aB,bK Z aB→gT aB p a l c (L:Int)→aH p a l c aB):
  a4 v5.id #[.agg #[.bool p,.slice a l c]] Z fun v aB=>qY v aB aH:=by
 refine cD (c8:=zV Z (L:Int)) ?_ fun v aB aG=>aG.elim fun p a l c R bS=>g p a l c aB R bS
 refine v5.ok ?_
 unfold v5.t v5.aP.t
 refine fJ fun a1 e cC=>?_
 refine fJ fun i f b=>?_
 refine nJ (e.aU b) rfl (bL rfl ?_)
 refine Ba (L:=L) ((r.r.aU cC).aU b) r.l fun kM c9 eE cZ j d h=>?_
 exact HR (a2:=Z) (f.aU d) rfl (sA _ _ _ _) (cC.trans (b.trans d)) cC.le h
theorem HS(e:aT=(n:Int))(f:n≤100000)(r:gT Z p a l c (L:Int))(h:fX L)(g:∀ p a l c aB,bK Z aB→gT aB p a l c ((L*2 ^ n:Nat):Int)→aH p a l c aB):
  a4 uK.id #[.agg #[.bool p,.slice a l c],.int .i64 aT] Z fun v aB=>qY v aB aH:=by
 refine cD (c8:=zV Z ((L*2 ^ n:Nat):Int)) ?_ fun v aB aG=>aG.elim fun p a l c R bS=>g p a l c aB R bS
 refine uK.ok ?_
 unfold uK.t uK.aP.t
 refine fJ fun a1 i cC=>?_
 refine fJ fun m j b=>?_
 refine cE (fun _=>?_) fun a3=>absurd (show aT≥0 by omega) a3
 refine nS (i.aU b) ?_
 refine zW e f ((r.aU cC).aU b) h fun kM c9 eE cZ o d k=>?_
 exact HR (a2:=Z) (j.aU d) rfl (sA _ _ _ _) (cC.trans (b.trans d)) cC.le k
end
def x1(m N aI:Nat)(R aT:Int):Prop:=
 (eJ m+N - 64=0∧m*2 ^ (N+(aI+(eJ m+N - 64+4)) - 64)*2 ^ 2≤2 ^ (aI+(eJ m+N - 64+4))*3∧R=0∧aT=((m*2 ^ (N+aI - 64):Nat):Int))∨
 (R=((iB (m*2 ^ (N+(aI+(eJ m+N - 64+4)) - 64)*2 ^ 1) (dN (aI+(eJ m+N - 64+4))):Nat):Int)∧
  aT=h2 (((m*2 ^ (N+(aI+(eJ m+N - 64+4)) - 64)*2 ^ 1:Nat):Int) - R*((dN (aI+(eJ m+N - 64+4)):Nat):Int)) ((2 ^ (eJ m+N - 64+4+1):Nat):Int))
def zX(Z:U)(m N aI:Nat)(v:Value)(aB:U):Prop:=
 bK Z aB∧∃ R aT p a l c b d e dI,x1 m N aI R aT∧v=.tuple #[.agg #[.bool p,.slice a l c],.agg #[.bool b,.slice d e dI]]∧gT aB p a l c R∧gT aB b d e dI aT
theorem HT{Y:aF}{a2 Z:U}{m N aI:Nat}{R aT:Int}{b d:Nat}{g h:List Value}(t:∀ v aB,zX a2 m N aI v aB→Y v aB)(u:bK a2 Z)(i:eM Z b g)(w:eM Z d h)(x:g.length=2)(y:h.length=2)(q:p9 g)(r:p9 h)(s:b ≠ d)(z:a2.size≤b)(A:a2.size≤d)
  {p j:Bool} {a k:S} {l c n dI:Nat} (bS:gT Z p a l c R) (kE:gT Z j k n dI aT) (B:x1 m N aI R aT) :
  cM Z ((⟨b,0,none⟩:Addr).add 0) (.bool p) fun C=>cM C ((⟨b,0,none⟩:Addr).add 1) (.slice a l c) fun D=>cM D ((⟨d,0,none⟩:Addr).add 0) (.bool j) fun E=>cM E ((⟨d,0,none⟩:Addr).add 1) (.slice k n dI) fun e=>
  fZ e ((⟨b,0,none⟩:Addr).add 0) fun F=>eU F fun G=>fZ e ((⟨b,0,none⟩:Addr).add 1) fun H=>aR H fun I J P=>fZ e ((⟨d,0,none⟩:Addr).add 0) fun Q=>eU Q fun T=>fZ e ((⟨d,0,none⟩:Addr).add 1) fun V=>aR V fun Qx Qy Qz=>
   Y (.tuple #[.agg #[.bool G,.slice I J P],.agg #[.bool T,.slice Qx Qy Qz]]) e:=by
 refine x0 i x fun a1 cC QA=>?_
 have o:=w.cR (fun N=>s N.symm) cC
 refine x0 o y fun QC f QB=>?_
 refine nS (QA.cR s f) (nS QB ?_)
 exact t _ _ ⟨cG.aU (cG.aU u cC z) f A,R,aT,p,a,l,c,j,k,n,dI,B,rfl,(bS.cR i q cC).cR o r f,(kE.cR i q cC).cR o r f⟩
theorem NF{Y:aF}{a2 Z:U}{m N aI a7 P R t:Nat}{b c i j k:Nat}{e f:List Value}(V:∀ v aB,zX a2 m N aI v aB→Y v aB)(Qx:bK a2 Z)(Qy:eM Z b e)(Qz:eM Z c f)(QA:e.length=2)(QB:f.length=2)(QC:p9 e)(QD:p9 f)(QE:b ≠ c)(QF:a2.size≤b)(QG:a2.size≤c)
  {l o p:Bool} {q r s:S} {u w x y z A:Nat} (B:eM Z i [.bool l,.slice q u w]) (QH:gT Z l q u w (a7:Int)) (C:eM Z j [.bool o,.slice r x y]) (QI:gT Z o r x y (P:Int)) (d:eM Z k [.bool p,.slice s z A]) (E:gT Z p s z A (R:Int))
  (g:fK (a7*2 ^ 1)) (F:fK P) (G:fK R) (QO:t≤5000) (H:x1 m N aI (R:Int) (h2 (((a7*2 ^ 1:Nat):Int) - (R:Int)*(P:Int)) ((2 ^ (t+1):Nat):Int))) :
  oS.bM.t Y ⟨b,0,none⟩ ⟨c,0,none⟩ (t:Int) ⟨i,0,none⟩ ⟨j,0,none⟩ ⟨k,0,none⟩ Z:=by
 have QJ:(D.aN (R*P)).length≤16384+16384:=by
  have a1:=(u3 R).mpr G
  have I:=(u3 P).mpr F
  have:=y9 R P;omega
 unfold oS.bM.t
 refine⟨d.lt,nS d ⟨B.lt,nS B ?_⟩⟩
 refine zW (n:=1) rfl (by decide) QH (lO (kK (Nat.le_mul_of_pos_right a7 (by decide)) g)) fun l1 aM aL aK a1 cC QK=>?_
 refine⟨gI cC (Nat.le_refl _),d.lt,nS (d.aU cC) ⟨C.lt,nS (C.aU cC) ?_⟩⟩
 refine NB (E.aU cC) (QI.aU cC) (lO G) (lO F) fun lE bO b3 bN I a J=>?_
 refine⟨gI a cC.le,?_⟩
 rw [← Int.natCast_mul] at J H
 refine LY (QK.aU a) J (lO g) (Nat.le_trans QJ (by decide)) fun kM c9 eE cZ Q h QL=>?_
 refine⟨gI h (cC.trans a).le,?_⟩
 refine cT ((t+1:Nat):Int) (by omega) (by omega) (by omega) ?_
 have nC:(D.aN (((a7*2 ^ 1:Nat):Int) - ((R*P:Nat):Int)).natAbs).length≤150000:=by
  have a1:=(u3 (a7*2 ^ 1)).mpr g
  have I:=zA (a7*2 ^ 1) (R*P)
  have Q:(((a7*2 ^ 1:Nat):Int) - ((R*P:Nat):Int)).natAbs≤a7*2 ^ 1+R*P:=by omega
  have QM:=pA Q
  omega
 refine NC (n:=t+1) rfl (by omega) QL nC fun QP eI fY eN QM T QN=>?_
 refine⟨gI T (cC.trans (a.trans h)).le,?_⟩
 have eR:=cC.trans (a.trans (h.trans T))
 exact HT V (Qx.trans eR) (Qy.aU eR) (Qz.aU eR) QA QB QC QD QE QF QG (E.aU eR) QN H
theorem NG{Y:aF}{a2 Z:U}{m N aI a7 t aE:Nat}{f g o:Nat}{q r:List Value}(QD:∀ v aB,zX a2 m N aI v aB→Y v aB)(QE:bK a2 Z)(s:eM Z f q)(QF:eM Z g r)(u:q.length=2)(QG:r.length=2)(QH:p9 q)(QI:p9 r)(QJ:f ≠ g)(QK:a2.size≤f)(QL:a2.size≤g)
  {I:Bool} {J:S} {P Q:Nat} (QM:eM Z o [.bool I,.slice J P Q]) (QN:gT Z I J P Q (a7:Int)) (QO:aE < 4200) (T:fK (a7*2 ^ 1+1)) (QP:t≤5000)
  (QQ:x1 m N aI ((iB (a7*2 ^ 1) (dN aE):Nat):Int) (h2 (((a7*2 ^ 1:Nat):Int) - ((iB (a7*2 ^ 1) (dN aE):Nat):Int)*((dN aE:Nat):Int)) ((2 ^ (t+1):Nat):Int))) :
  oS.a5.t Y ⟨f,0,none⟩ ⟨g,0,none⟩ (t:Int) (aE:Int) ⟨o,0,none⟩ Z:=by
 have w:fK (a7*2 ^ 1):=kK (Nat.le_succ _) T
 have V:fK (dN aE):=tB (aE:=aE) (by omega) (Nat.le_add_right _ _)
 have x:dN aE ≠ 0:=by
  have:=v7 (show aE≤4400 by omega)
  have:0 < 2 ^ aE:=Nat.pow_pos (by decide)
  omega
 have QR:fK (iB (a7*2 ^ 1) (dN aE)):=by
  refine kK (m:=a7*2 ^ 1+1) ?_ T
  have a1:iB (a7*2 ^ 1) (dN aE)≤a7*2 ^ 1 / dN aE+1:=by unfold iB;split <;> omega
  have y:=Nat.div_le_self (a7*2 ^ 1) (dN aE)
  omega
 have z:(D.aN (a7*2 ^ 1)).length≤150000:=Nat.le_trans ((u3 _).mpr w) (by decide)
 have A:(D.aN (dN aE)).length≤150000:=Nat.le_trans ((u3 _).mpr V) (by decide)
 have Qx:fX a7:=lO (kK (Nat.le_mul_of_pos_right a7 (by decide)) w)
 unfold oS.a5.t
 refine Bd rfl QO fun aM aK a1 cC QS=>?_
 refine Ba QS.rd rfl fun lE bO b3 bN y QT QU=>?_
 refine GJ rfl fun QV B Qy Rc C=>?_
 have h:=cC.trans (QT.trans Qy)
 have QW:=s.aU h
 have QX:=QF.aU h
 have E:=QM.aU h
 have F:=QN.aU h
 have k:=QU.aU Qy
 have QY:=QE.trans h
 have fin:∀ {i fV:U} {aI:Nat} {b8:List Value} {p:Bool} {a:S} {l c:Nat},bK B i→B.size≤aI→eM i aI b8→b8.length=2→p9 b8→gT i p a l c ((iB (a7*2 ^ 1) (dN aE):Nat):Int)→
   cM i ((⟨aI,0,none⟩:Addr).add 0) (.bool p) fun a1=>cM a1 ((⟨aI,0,none⟩:Addr).add 1) (.slice a l c) fun y=>oS.bM.t Y ⟨f,0,none⟩ ⟨g,0,none⟩ (t:Int) ⟨o,0,none⟩ ⟨QV,0,none⟩ ⟨aI,0,none⟩ y:=by
  intro i fV aI b8 p a l c QZ Q0 Qz Q1 Q2 Q3
  refine x0 Qz Q1 fun Q4 QA Q5=>?_
  have eR:bK B Q4:=cG.aU QZ QA Q0
  exact NF QD (QY.trans eR) (QW.aU eR) (QX.aU eR) u QG QH QI QJ QK QL (E.aU eR) (F.aU eR) (C.aU eR) (k.aU eR) Q5 (Q3.cR Qz Q2 QA) w V QR QP QQ
 refine⟨E.lt,nS E ⟨C.lt,nS C ⟨?_,?_⟩⟩⟩
 ·refine zW (n:=1) rfl (by decide) F Qx fun Rd eI fY eN Q6 b QB=>?_
  refine⟨gI b (Nat.le_refl _),?_,?_⟩
  ·refine DL QB (k.aU b) x z A fun Q7 bE Q8 bD QC d G=>?_
   refine⟨gI d b.le,?_⟩
   refine fJ fun j s e=>⟨gI e (b.trans d).le,?_⟩
   exact fin (fV:=j) (b.trans (d.trans e)) (b.trans d).le s rfl (sA _ _ _ _) (G.aU e)
  ·refine fJ fun QC Q9 d=>⟨gI d b.le,?_⟩
   refine DL (QB.aU d) ((k.aU b).aU d) x z A fun Ra bG u bI j e H=>?_
   refine⟨gI e (b.trans d).le,?_⟩
   exact fin (fV:=j) (b.trans (d.trans e)) b.le (Q9.aU e) rfl (sA _ _ _ _) H
 ·refine fJ fun Q6 Rb b=>⟨gI b (Nat.le_refl _),?_⟩
  refine zW (n:=1) rfl (by decide) (F.aU b) Qx fun Q7 bE Q8 bD QC d G=>?_
  refine⟨gI d b.le,?_⟩
  refine DL G ((k.aU b).aU d) x z A fun Ra bG u bI j e H=>?_
  refine⟨gI e (b.trans d).le,?_⟩
  exact fin (fV:=j) (b.trans (d.trans e)) (Nat.le_refl _) ((Rb.aU d).aU e) rfl (sA _ _ _ _) H
theorem NH{Z:U}{m N aI:Nat}{aS y:Int}{p:Bool}{a:S}{l c:Nat}(bS:gT Z p a l c (m:Int))(j:m < 18446744073709551616)(QL:N < 1036)(QM:65≤aI)(QN:aI≤400)(c0:eJ m≤64)(a1:aS=(N:Int) - 64)(e:y=(aI:Int)):
  a4 oS.id #[.agg #[.bool p,.slice a l c],.int .i64 aS,.int .i64 y] Z (zX Z m N aI):=by
 subst a1;subst e
 obtain⟨T,k⟩:∃ T,T=eJ m+N - 64:=⟨_,rfl⟩
 have QO:T≤1036:=by omega
 refine oS.ok ?_
 unfold oS.t oS.aP.t
 refine fJ fun P Q f=>?_
 refine fJ fun a3 o h=>?_
 refine fJ fun QP z q=>?_
 have s:=(Q.aU h).aU q
 have A:=o.aU q
 have u:=f.trans (h.trans q)
 have i:=bS.aU u
 refine nJ s rfl (bL rfl ?_)
 refine Gf (L:=m) i.r i.l ?_
 refine cT ((eJ m:Int)+((N:Int) - 64)) rfl (by omega) (by omega) ?_
 refine cT ((T+4:Nat):Int) (by split <;> omega) (by omega) (by omega) ?_
 refine cT ((aI+(T+4):Nat):Int) (by omega) (by omega) (by omega) ?_
 refine nS s ?_
 have V:N+(aI+(T+4)) - 64≤100000:=by omega
 refine cT ((N+(aI+(T+4)) - 64:Nat):Int) (by omega) (by omega) (by omega) ?_
 refine HS rfl V i (m0 j) fun l1 aM aL aK a1 cC B=>?_
 refine GJ rfl fun e7 e g QQ C=>?_
 have w:fK (m*2 ^ (N+(aI+(T+4)) - 64)*2 ^ 1+1):=by
  have Qx:m < 2 ^ 64:=by rw [show(2:Nat) ^ 64=18446744073709551616 by decide];exact j
  have QR:m*2 ^ (N+(aI+(T+4)) - 64) < 2 ^ (64+(N+(aI+(T+4)) - 64)):=by
   rw [Nat.pow_add];exact Nat.mul_lt_mul_of_pos_right Qx (Nat.pow_pos (by decide))
  refine jV (R:=64+(N+(aI+(T+4)) - 64)+1) ?_ (by omega)
  rw [Nat.pow_succ];omega
 have fin:∀ {b:U},bK e b→oS.a5.t (zX Z m N aI) ⟨P.size,0,none⟩ ⟨a3.size,0,none⟩ ((T+4:Nat):Int) ((aI+(T+4):Nat):Int) ⟨e7,0,none⟩ b:=by
  intro b d
  have eR:=(cC.trans g).trans d
  refine NG (m:=m) (N:=N) (aI:=aI) (fun v aB aG=>aG) ((u.trans (cC.trans g)).trans d) (A.aU eR) (z.aU eR) rfl rfl (sA _ _ _ _) (sA _ _ _ _) ?_ f.le (f.trans h).le (C.aU d) ((B.aU g).aU d) (by omega) w (by omega) (Or.inr ⟨?_,?_⟩)
  ·have:=o.lt;omega
  ·rw [k]
  ·rw [k]
 refine gL (fun QS=>?_) fun _=>fin (bK.refl _)
 have QT:T=0:=by omega
 refine nS C ?_
 refine ND (B.aU g) fun kM c9 eE cZ b d Qy=>?_
 refine zW (n:=2) rfl (by decide) Qy (lO (kK (by omega) w)) fun QU eI fY eN E Qz QA=>?_
 refine vQ rfl (by omega) fun bE bD QV F QB=>?_
 have QC:fX (2 ^ (aI+(T+4))):=xE (R:=aI+(T+4)+1) (Nat.pow_lt_pow_right (by decide) (by omega)) (by omega)
 refine A6 QB.rd rfl (aE:=3) rfl (by decide) QC fun bG bI QW G QD=>?_
 refine Ba QD.rd rfl fun QX bX QY bY QZ H QE=>?_
 have d1:(D.aN (m*2 ^ (N+(aI+(T+4)) - 64)*2 ^ 2)).length≤700000:=by
  have a1:=(u3 _).mpr w
  have e:=y9 (m*2 ^ (N+(aI+(T+4)) - 64)) (2 ^ 2)
  have b:(D.aN (2 ^ 2)).length≤1:=y1 (R:=3) (by decide) (by decide)
  have E:=pA (show m*2 ^ (N+(aI+(T+4)) - 64)≤m*2 ^ (N+(aI+(T+4)) - 64)*2 ^ 1+1 by omega)
  omega
 have d2:(D.aN (2 ^ (aI+(T+4))*3)).length≤700000:=by
  have e:=y9 (2 ^ (aI+(T+4))) 3
  have b:(D.aN 3).length≤1:=y1 (R:=3) (by decide) (by decide)
  have E:(D.aN (2 ^ (aI+(T+4)))).length≤60000:=y1 (R:=aI+(T+4)+1) (Nat.pow_lt_pow_right (by decide) (by omega)) (by omega)
  omega
 refine L0 (QA.aU (F.trans (G.trans H))) QE d1 d2 fun Q0 QF=>?_
 have I:=d.trans (Qz.trans (F.trans (G.trans (H.trans QF))))
 refine cE (fun J=>?_) fun _=>fin I
 have QG:m*2 ^ (N+(aI+(T+4)) - 64)*2 ^ 2≤2 ^ (aI+(T+4))*3:=by
  refine Nat.le_of_not_lt fun dC=>?_
  unfold hZ at J
  rw [if_neg (by omega),if_neg (by omega)] at J
  omega
 have eR:=(cC.trans g).trans I
 refine nS (s.aU eR) ?_
 have QH:N+aI - 64≤100000:=by omega
 refine cT ((N+aI - 64:Nat):Int) (by omega) (by omega) (by omega) ?_
 refine HS rfl QH (i.aU eR) (m0 j) fun Q1 Q2 Q3 Q4 QI x QJ=>?_
 have QK:gT QI false none 0 0 (0:Int):=⟨rfl,by rw [show(0:Int).natAbs=0 from rfl,D.e0];rfl,by rw [show(0:Int).natAbs=0 from rfl,D.e0];exact cL.nil _ _ _⟩
 refine HT (m:=m) (N:=N) (aI:=aI) (fun v aB aG=>aG) ((u.trans eR).trans x) ((A.aU eR).aU x) ((z.aU eR).aU x) rfl rfl (sA _ _ _ _) (sA _ _ _ _) ?_ f.le (f.trans h).le QK QJ (Or.inl ⟨by omega,?_,rfl,rfl⟩)
 ·have:=o.lt;omega
 ·rw [← k];exact QG
def x2(m N aI aZ aH:Nat):Prop:=
 ∃ R aT:Int,x1 m N aI R aT∧((R ≠ 0∧aZ=aT.natAbs∧aH=R.natAbs)∨(R=0∧aZ=dN (aI+1) / 2 ^ 2 - aT.natAbs∧aH=1))
theorem NI{Z:U}{m N aI:Nat}{aY aS k:Int}{aH:S→Nat→Nat→S→Nat→Nat→U→Prop}(a2:aY=(m:Int))(o:m < 18446744073709551616)(H:N < 1036)(I:65≤aI)(J:aI≤400)(c0:eJ m≤64)(a1:aS=(N:Int) - 64)(q:k=(aI:Int))
  (g:∀ aZ R a c b dI aB,x2 m N aI aZ R→bK Z aB→cL cA aB a c (D.aN aZ)→cL cA aB b dI (D.aN R)→aH a (D.aN aZ).length c b (D.aN R).length dI aB) :
  a4 v8.id #[.int .u64 aY,.int .i64 aS,.int .i64 k] Z fun v aB=>cW v fun aT=>cV aT fun P eK=>aR P fun a l c=>cV eK fun Q T=>aR Q fun K m aZ=>b9 T (aH a l c K m aZ aB):=by
 refine cD (c8:=fun v aB=>bK Z aB∧∃ aZ R a c b dI,x2 m N aI aZ R∧v=.tuple #[.slice a (D.aN aZ).length c,.slice b (D.aN R).length dI]∧cL cA aB a c (D.aN aZ)∧cL cA aB b dI (D.aN R)) ?_
  fun v aB ⟨eR,aZ,R,a,c,b,dI,aW,N,r,V⟩=>by subst N;exact gY rfl (cS (bL rfl (cS (bL rfl (eG (g aZ R a c b dI aB aW eR r V))))))
 subst a2;subst a1;subst q
 refine v8.ok ?_
 unfold v8.t v8.aP.t
 refine lC rfl o fun aM aK a1 cC Qx=>?_
 refine Ba Qx.rd rfl fun lE bO b3 bN q Qy Qz=>?_
 refine cD (NH Qz o H I J c0 rfl rfl) fun v s ⟨QA,R,aT,p,a,l,c,QO,b,QP,dI,u,c3,bS,kE⟩=>?_
 subst c3
 refine gY rfl (cS (fH rfl (cS (dB rfl (cS (bL rfl (eG (cS (fH rfl (cS (dB rfl (cS (bL rfl (eG (eG ?_)))))))))))))))
 refine fJ fun QB w x=>?_
 refine fJ fun QQ QC y=>?_
 refine x0 (w.aU y) rfl fun QR z QD=>?_
 have A:QB.size ≠ s.size:=by have:=w.lt;omega
 refine x0 (QC.cR A z) rfl fun QE B C=>?_
 have E:=QD.cR (fun N=>A N.symm) B
 have f:bK s QE:=cG.aU (cG.aU (x.trans y) z (Nat.le_refl _)) B x.le
 have h:=bS.aU f
 have e:=kE.aU f
 have F:=cC.trans (Qy.trans (QA.trans f))
 refine nS E ?_
 refine LZ h fun QS d=>?_
 by_cases i:R=0
 ·have QF:hZ R 0=0:=by unfold hZ;rw [if_neg (by omega),if_pos i]
  rw [QF]
  refine j8 (fun N=>absurd rfl N) fun _=>?_
  refine cT ((aI+1:Nat):Int) (by omega) (by omega) (by omega) ?_
  refine Bd rfl (by omega) fun QT QU QV QG QH=>?_
  refine A4 (n:=2) rfl QH.rd rfl (by decide) fun QW QX fV QI QJ=>?_
  have j:=d.trans (QG.trans QI)
  refine nJ (C.aU j) rfl (bL rfl ?_)
  refine o7 QJ.rd rfl (e.aU j).r e.l fun QY QZ Q0 QK QL=>?_
  refine lC (L:=1) rfl (by decide) fun Q1 Q2 Q3 G QM=>?_
  exact⟨F.trans (j.trans (QK.trans G)),_,1,_,_,_,_,⟨R,aT,u,Or.inr ⟨i,rfl,rfl⟩⟩,rfl,QL.rd.aU G,QM.rd⟩
 ·have QN:hZ R 0 ≠ 0:=by unfold hZ;split <;> (try split) <;> omega
  refine j8 (fun _=>?_) fun N=>absurd QN (by simpa using N)
  refine nJ (C.aU d) rfl (bL rfl ?_)
  refine nJ (E.aU d) rfl (bL rfl ?_)
  refine⟨F.trans d,aT.natAbs,R.natAbs,_,_,_,_,⟨R,aT,u,Or.inl ⟨i,rfl,rfl⟩⟩,?_,(e.aU d).r,(h.aU d).r⟩
  rw [h.l,e.l]
theorem HU{P dO jP a7 aZ:Nat}(a:0 < dO)(c:a7=jP*dO)(d:a7≤P)(aW:aZ=P / dO - jP):aZ*dO < fC a7 (1*P)+dO∧fC a7 (1*P) < aZ*dO+dO:=by
 have a1:=Nat.div_add_mod P dO
 have e:=Nat.mod_lt P a
 have b:jP≤P / dO:=(Nat.le_div_iff_mul_le a).mpr (by omega)
 have f:aZ*dO+jP*dO=dO*(P / dO):=by
  rw [← Nat.add_mul,aW,Nat.sub_add_cancel b,Nat.mul_comm]
 unfold fC
 rw [Nat.one_mul]
 split <;> omega
theorem NJ{P dO a7 n:Nat}(f:0 < dO):(h2 ((a7:Int) - (n:Int)*(P:Int)) (dO:Int)).natAbs*dO < fC a7 (n*P)+dO∧fC a7 (n*P) < (h2 ((a7:Int) - (n:Int)*(P:Int)) (dO:Int)).natAbs*dO+dO:=by
 obtain⟨a1,c⟩:=Lo (a:=(a7:Int) - (n:Int)*(P:Int)) (show(0:Int) < (dO:Int) by omega)
 rw [Int.add_mul,Int.one_mul] at c
 rw [← Int.natCast_mul] at a1 c ⊢
 generalize n*P=e at *
 generalize h2 ((a7:Int) - (e:Int)) (dO:Int)=aT at *
 have aW:((aT.natAbs*dO:Nat):Int)=aT*(dO:Int)∨((aT.natAbs*dO:Nat):Int)=-(aT*(dO:Int))∧aT < 0:=by
  rcases Int.lt_or_le aT 0 with b | b
  ·right;refine⟨?_,b⟩
   rw [Int.natCast_mul,Int.ofNat_natAbs_of_nonpos (by omega),Int.neg_mul]
  ·left;rw [Int.natCast_mul,Int.natAbs_of_nonneg b]
 have bH:0≤aT→0≤aT*(dO:Int):=fun b=>Int.mul_nonneg b (by omega)
 have d:aT < 0→aT*(dO:Int)≤-(dO:Int):=fun b=>by
  have:=Int.mul_le_mul_of_nonneg_right (show aT≤-1 by omega) (show(0:Int)≤(dO:Int) by omega)
  omega
 generalize aT.natAbs*dO=D at *
 generalize aT*(dO:Int)=bQ at *
 unfold fC
 rcases aW with aW | ⟨aW,b⟩
 ·by_cases b:0≤aT
  ·have:=bH b;split <;> omega
  ·have:=d (by omega);omega
 ·have:=d b;split <;> omega
theorem NK{a7 P:Nat}(Z:2*a7≤P)(b:0 < P):iB a7 P=0:=by
 have a1:a7 % P=a7:=Nat.mod_eq_of_lt (by omega)
 have a:a7 / P=0:=Nat.div_eq_of_lt (by omega)
 unfold iB
 rw [a1,a,if_neg (by omega)]
theorem NL{a7 P:Nat}(Z:iB a7 P=0)(a:0 < P):a7≤P:=by
 unfold iB at Z
 split at Z
 ·exact absurd Z (Nat.succ_ne_zero _)
 ·have a1:=Nat.div_add_mod a7 P
  have b:=Nat.mod_lt a7 a
  rw [Z,Nat.mul_zero] at a1
  omega
def jG(m N aE:Nat):Nat:=m*2 ^ (N+aE - 64)*2 ^ 1
theorem DN{m N aI aZ aH T aE:Nat}(i:T=eJ m+N - 64)(j:aE=aI+(T+4))(aW:x2 m N aI aZ aH)(o:65≤aI)(p:aE < 4200):
  aH=max 1 (iB (jG m N aE) (dN aE))∧aZ*2 ^ (T+5) < fC (jG m N aE) (aH*dN aE)+2 ^ (T+5)∧fC (jG m N aE) (aH*dN aE) < aZ*2 ^ (T+5)+2 ^ (T+5):=by
 have c:0 < 2 ^ (T+5):=Nat.pow_pos (by decide)
 have q:=v7 (show aE≤4400 by omega)
 have r:0 < 2 ^ aE:=Nat.pow_pos (by decide)
 have g:0 < dN aE:=by omega
 have d:jG m N aE=m*2 ^ (N+aI - 64)*2 ^ (T+5):=by
  unfold jG
  rw [Nat.mul_assoc,← Nat.pow_add,Nat.mul_assoc,← Nat.pow_add];congr 2;omega
 have k:dN (aI+1) / 2 ^ 2=dN aE / 2 ^ (T+5):=by
  have a:=Bc (aI - 1) 2 (by omega)
  have h:=Bc (aI - 1) (T+5) (by omega)
  rw [show aI - 1+2=aI+1 by omega] at a
  rw [show aI - 1+(T+5)=aE by omega] at h
  rw [a,h]
 obtain⟨R,aT,e,aW⟩:=aW
 unfold x1 at e
 rw [← i,← j,show T+4+1=T+5 by omega] at e
 rw [k] at aW
 have l:m*2 ^ (N+aE - 64)*2 ^ 1=jG m N aE:=rfl
 have s:jG m N aE=m*2 ^ (N+aE - 64)*2:=by unfold jG;rfl
 rcases e with ⟨_,t,rfl,rfl⟩ | ⟨rfl,rfl⟩
 ·rcases aW with ⟨f,_⟩ | ⟨_,aW,rfl⟩
  ·exact absurd rfl f
  ·have n:2*jG m N aE≤dN aE:=by omega
   rw [NK n g]
   refine⟨rfl,HU c d (by omega) ?_⟩
   rw [aW,Int.natAbs_natCast]
 ·rw [l] at aW
  rcases aW with ⟨f,aW,b⟩ | ⟨f,aW,b⟩
  ·rw [Int.natAbs_natCast] at b
   subst b;subst aW
   refine⟨by omega,NJ c⟩
  ·subst b
   have a2:iB (jG m N aE) (dN aE)=0:=by omega
   rw [a2] at aW ⊢
   refine⟨rfl,HU c d (NL a2 g) ?_⟩
   rw [aW]
   congr 1
   have a:h2 (((jG m N aE:Nat):Int) - ((0:Nat):Int)*((dN aE:Nat):Int)) ((2 ^ (T+5):Nat):Int)=((m*2 ^ (N+aI - 64):Nat):Int):=by
    rw [show(((0:Nat):Int))*((dN aE:Nat):Int)=0 by simp,Int.sub_zero]
    unfold h2
    rw [if_neg (by omega),d,Int.natCast_mul,Int.mul_ediv_cancel _ (by omega)]
   rw [a,Int.natAbs_natCast]
theorem NM:sB*hW≤2 ^ 8801∧2 ^ 8801 < (sB+1)*(hW+1):=⟨Nat.le_of_ble_eq_true (by kernel_rfl),Nat.le_of_ble_eq_true (by kernel_rfl)⟩
theorem NN{b d p aI aG:Nat}(a1:b*d≤2 ^ aG)(g:2 ^ aG < (b+1)*(d+1))(bH:p+aI≤aG)(h:b / 2 ^ p+1≤d / 2 ^ aI):xS (b / 2 ^ p) (d / 2 ^ aI) (2 ^ (aG - (p+aI))):=by
 have e:0 < 2 ^ p:=Nat.pow_pos (by decide)
 have f:0 < 2 ^ aI:=Nat.pow_pos (by decide)
 have N:2 ^ aG=2 ^ (aG - (p+aI))*(2 ^ p*2 ^ aI):=by rw [← Nat.pow_add,← Nat.pow_add];congr 1;omega
 refine⟨?_,?_,h⟩
 ·refine Nat.le_of_mul_le_mul_right (c:=2 ^ p*2 ^ aI) ?_ (Nat.mul_pos e f)
  rw [← N]
  refine Nat.le_trans ?_ a1
  rw [Nat.mul_mul_mul_comm]
  exact Nat.mul_le_mul (Nat.div_mul_le_self _ _) (Nat.div_mul_le_self _ _)
 ·refine Nat.lt_of_mul_lt_mul_right (a:=2 ^ p*2 ^ aI) ?_
  rw [← N]
  refine Nat.lt_of_lt_of_le g ?_
  rw [Nat.mul_mul_mul_comm]
  refine Nat.mul_le_mul ?_ ?_
  ·have:=Nat.div_add_mod b (2 ^ p);have:=Nat.mod_lt b e
   rw [Nat.add_mul,Nat.one_mul,Nat.mul_comm];omega
  ·have:=Nat.div_add_mod d (2 ^ aI);have:=Nat.mod_lt d f
   rw [Nat.add_mul,Nat.one_mul,Nat.mul_comm];omega
theorem uL{bW n:Nat}(Z:sC bW n=true){N:Nat}(a1:bW≤N)(d:N < bW+n):x3 N=true:=by
 have b:=zD Z (N - bW) (by omega)
 have a:x3 (Nat.add bW (N - bW))=true:=b
 have c:Nat.add bW (N - bW)=N:=by show bW+(N - bW)=N;omega
 rw [c] at a;exact a
theorem NO{N:Nat}(a:N < 1036):x3 N=true:=by
 by_cases a2:N < 130
 ·exact uL NP (by omega) (by omega)
 by_cases a1:N < 260
 ·exact uL NQ (by omega) (by omega)
 by_cases b:N < 390
 ·exact uL NR (by omega) (by omega)
 by_cases c:N < 520
 ·exact uL NS (by omega) (by omega)
 by_cases d:N < 650
 ·exact uL NT (by omega) (by omega)
 by_cases e:N < 780
 ·exact uL NU (by omega) (by omega)
 by_cases f:N < 910
 ·exact uL NV (by omega) (by omega)
 exact uL NW (by omega) (by omega)
theorem x4{a K:Bool}:cond a K false=true→a=true∧K=true:=by cases a <;> cases K <;> decide
theorem NX{N:Nat}(Z:x3 N=true):(∀ K,K < 53→DO (e1 N) N K=true)∧r2 (e1 N) (2 ^ 150)∧BF (e1 N) N=true:=by
 unfold x3 at Z
 rw [l2,l2] at Z
 obtain⟨a1,a⟩:=x4 Z
 obtain⟨b,c⟩:=x4 a
 obtain⟨d,e⟩:=x4 c
 exact⟨fun K a3=>zD a1 K a3,MA b d,e⟩
theorem NY(L l:Nat):L - l+(l - L)=fC L l:=by unfold fC;split <;> omega
noncomputable def zY(c aG t l L:Nat):Bool:=
 hQ (Nat.add (Nat.sub L l) (Nat.sub l L)) fun G=>hQ (Nat.sub G (Nat.pow 2 c)) fun cY=>hQ (Nat.add G (Nat.pow 2 c)) fun v=>
 cond (Nat.ble (Nat.succ (Nat.xor cY v)) (Nat.land cY v)) (cond (Nat.ble (Nat.pow 2 aG) G) (Nat.ble (Nat.succ v) (Nat.pow 2 t)) false) false
noncomputable def DP(n c aG t a N K:Nat):Bool:=
 match r1 80 a (Nat.pow 2 K) (Nat.sub (Nat.pow 2 (Nat.succ K)) 1) with
 | none=>false
 | some (m,up)=>hQ (iP a m up) fun R=>hQ (Nat.mul m (Nat.pow 2 (Nat.add N 1337))) fun L=>cond (zO n L R) (zY c aG t (Nat.mul R (Nat.div hW (Nat.pow 2 n))) L) false
theorem NZ(a N K:Nat):DO a N K=DP 3000 1086 1200 1402 a N K:=by kernel_rfl
theorem N0{c aG t l L:Nat}(Z:zY c aG t l L=true):
  eJ (fC L l - 2 ^ c)=eJ (fC L l+2 ^ c)∧fC L l - 2 ^ c ≠ 0∧2 ^ aG≤fC L l∧fC L l+2 ^ c < 2 ^ t:=by
 unfold zY at Z
 rw [l2,l2,l2,tL,tL,tL] at Z
 simp only [Nat.add_eq,Nat.sub_eq,NY] at Z
 obtain⟨a1,a⟩:=x4 Z
 obtain⟨b,d⟩:=x4 a
 obtain⟨L,aT,bS⟩:=Hh (Nat.le_of_ble_eq_true a1)
 exact⟨bS,L,Nat.le_of_ble_eq_true b,Nat.le_of_ble_eq_true d⟩
theorem N1{n c aG t a N K aE:Nat}(b:n=4400 - aE)(Z:DP n c aG t a N K=true):∃ m up,r1 80 a (2 ^ K) (2 ^ (K+1) - 1)=some (m,up)∧Told aE (m*2 ^ (N+1337)) (iP a m up)∧zY c aG t (iP a m up*dN aE) (m*2 ^ (N+1337))=true:=by
 unfold DP at Z
 rw [tL,tL] at Z
 simp only [Nat.sub_eq,Nat.succ_eq_add_one] at Z
 split at Z
 ·cases Z
 ·rename_i m up d
  rw [l2,l2,tL,Hg b] at Z
  obtain⟨a1,e⟩:=x4 Z
  exact⟨m,up,d,Hj (n:=n) (aE:=aE) b a1,e⟩
theorem HV{L aT a:Nat}(b:0 < a):fC L aT*a=fC (L*a) (aT*a):=by
 unfold fC
 by_cases Z:L < aT
 ·rw [if_pos Z,if_pos (Nat.mul_lt_mul_of_pos_right Z b),Nat.sub_mul]
 ·rw [if_neg Z,if_neg (by have:=Nat.mul_le_mul_right a (Nat.le_of_not_lt Z);omega),Nat.sub_mul]
theorem N2{a7 b d a R P g2 c r e:Nat}(f:0 < b)(g:0 < a)(h:a7*b=d*a)(i:c=P*b+r)(j:r < b)(k:c=g2*a+e)(l:e < a):
  fC a7 (R*P)*b≤fC d (R*g2)*a+R*(b+a)∧fC d (R*g2)*a≤fC a7 (R*P)*b+R*(b+a):=by
 rw [HV f,HV g,h,Nat.mul_add]
 have m:R*c=R*P*b+R*r:=by rw [i,Nat.mul_add,Nat.mul_assoc]
 have n:R*c=R*g2*a+R*e:=by rw [k,Nat.mul_add,Nat.mul_assoc]
 have fD:R*r≤R*b:=Nat.mul_le_mul_left R (Nat.le_of_lt j)
 have eV:R*e≤R*a:=Nat.mul_le_mul_left R (Nat.le_of_lt l)
 generalize R*P*b=cY at *
 generalize R*g2*a=v at *
 generalize R*c=aE at *
 generalize d*a=L at *
 unfold fC
 split <;> split <;> omega
theorem N3{g G aZ R b a dO V cI:Nat}(a1:g*b≤G*a+R*(b+a))(l:G*a≤g*b+R*(b+a))(e:aZ*dO < g+dO)(f:g < aZ*dO+dO)(c:dO*b=V)(d:0 < b)(m:R*(b+a)+V≤cI*a)(h:cI≤G):
  (G - cI)*a < aZ*V∧aZ*V < (G+cI)*a:=by
 have i:aZ*V=aZ*dO*b:=by rw [← c,Nat.mul_assoc]
 have aM:aZ*dO*b < g*b+V:=by rw [← c,← Nat.add_mul];exact Nat.mul_lt_mul_of_pos_right e d
 have bO:g*b < aZ*dO*b+V:=by rw [← c,← Nat.add_mul];exact Nat.mul_lt_mul_of_pos_right f d
 have j:(G - cI)*a=G*a - cI*a:=Nat.sub_mul _ _ _
 have k:(G+cI)*a=G*a+cI*a:=Nat.add_mul _ _ _
 have n:cI*a≤G*a:=Nat.mul_le_mul_right a h
 rw [i,j,k]
 generalize aZ*dO*b=D at *
 generalize g*b=L at *
 generalize G*a=aT at *
 generalize cI*a=bS at *
 generalize R*(b+a)=aE at *
 omega
theorem BG{K m:Nat}(a1:2 ^ K≤m)(b:m≤2 ^ (K+1) - 1):eJ m=K+1:=by
 have p:0 < 2 ^ (K+1):=Nat.pow_pos (by decide)
 refine Nat.le_antisymm (iL.mpr (by omega)) ?_
 refine Nat.lt_of_not_le fun a=>?_
 have:=iL.mp a;omega
theorem N4{n:Nat}(Z:n ≠ 0):∃ bA,eJ n=bA+1∧2 ^ bA≤n∧n < 2 ^ (bA+1):=by
 have a2:=rI Z
 refine⟨eJ n - 1,by omega,?_,?_⟩
 ·refine Nat.le_of_not_lt fun a=>?_
  have:=iL.mpr a
  omega
 ·rw [show eJ n - 1+1=eJ n by omega]
  exact iL.mp (Nat.le_refl _)
theorem HW{a K:Nat}(Z:a≤K):eJ a≤eJ K:=iL.mpr (Nat.lt_of_le_of_lt Z (iL.mp (Nat.le_refl _)))
theorem N5{cI m aG n t:Nat}(Z:2 ^ aG=cI)(a:n+1+aG=t):cI*(m*2 ^ n*2 ^ 1)=m*2 ^ t:=by
 rw [← Z,← a,Nat.pow_add,Nat.pow_add,Nat.mul_comm,Nat.mul_assoc,Nat.mul_assoc,Nat.mul_assoc]
theorem N6{K N m T aE:Nat}(b:T=K+1+N - 64)(c:m≤2 ^ (K+1) - 1)(d:64≤N+aE):jG m N aE < 2 ^ (T+(aE+1)):=by
 have p:0 < 2 ^ (K+1):=Nat.pow_pos (by decide)
 have a1:m*2 ^ (N+aE - 64) < 2 ^ (K+1)*2 ^ (N+aE - 64):=Nat.mul_lt_mul_of_pos_right (by omega) (Nat.pow_pos (by decide))
 have a:jG m N aE < 2 ^ (K+1)*2 ^ (N+aE - 64)*2 ^ 1:=Nat.mul_lt_mul_of_pos_right a1 (by decide)
 rw [← Nat.pow_add,← Nat.pow_add] at a
 exact Nat.lt_of_lt_of_le a (Nat.pow_le_pow_right (by decide) (by omega))
theorem HX{K N m T aE:Nat}(a:T=K+1+N - 64)(b:m≤2 ^ (K+1) - 1)(c:64≤N+aE)(d:aE≤4400):max 1 (iB (jG m N aE) (dN aE))≤2 ^ T:=by
 have a1:=N6 a b c
 have f:=v7 d
 have p:0 < 2 ^ aE:=Nat.pow_pos (by decide)
 have t0:0 < 2 ^ T:=Nat.pow_pos (by decide)
 have e:jG m N aE < 2 ^ T*dN aE:=by
  refine Nat.lt_of_lt_of_le a1 ?_
  rw [Nat.pow_add]
  refine Nat.mul_le_mul_left _ ?_
  rw [Nat.pow_succ];omega
 have g:jG m N aE / dN aE < 2 ^ T:=(Nat.div_lt_iff_lt_mul (by omega)).mpr e
 have h:=Hq (jG m N aE) (dN aE)
 omega
structure rA(K N m R:Nat)(up:Bool):Prop where
 pick:r1 80 (e1 N) (2 ^ K) (2 ^ (K+1) - 1)=some (m,up)
 eR:R=iP (e1 N) m up
 told:Told 1400 (m*2 ^ (N+1337)) R
 N7:∃ c aG t,c=1086∧aG=1200∧t=1402∧zY c aG t (R*dN 1400) (m*2 ^ (N+1337))=true
 iC:∃ aZ,tN (e1 N) (2 ^ K) (2 ^ (K+1) - 1) m R aZ
 sep:r2 (e1 N) (2 ^ 150)
 inv:BF (e1 N) N=true
theorem bin{K N:Nat}(a3:K < 53)(d:N < 1036):∃ m R up,rA K N m R up:=by
 obtain⟨a1,a,e⟩:=NX (NO d)
 have b:=a1 K a3
 rw [NZ] at b
 obtain⟨m,up,c,f,g⟩:=N1 (aE:=1400) rfl b
 obtain⟨fD,eV,g4⟩:=tM a3
 obtain⟨aZ,iC,_,_⟩:=MB c (by omega) fD (by omega) (Nat.pow_pos (by decide)) a
 exact⟨m,_,up,c,rfl,f,⟨_,_,_,rfl,rfl,rfl,g⟩,⟨aZ,iC⟩,a,e⟩
theorem DQ{N:Nat}(a:N < 1036):e1 N < 2 ^ (N+256):=by rw [Dr a];exact Hk (by omega)
theorem N8{N aE n:Nat}(a:N < 1036)(b:N+256≤aE)(d:aE < 4200)(e:n=N+aE+257):xS (e1 N) (dN aE) (2 ^ n):=by
 have c:e1 N=sB / 2 ^ (4144 - N):=rfl
 obtain⟨aG,bH⟩:∃ aG,aG=8801:=⟨_,rfl⟩
 have ip:=NM
 rw [← bH] at ip
 have Z:=NN (p:=4144 - N) (aI:=4400 - aE) ip.1 ip.2 (by omega)
 rw [show aG - (4144 - N+(4400 - aE))=n by omega,← c] at Z
 refine Z ?_
 show e1 N+1≤dN aE
 have a1:=DQ a
 have f:=v7 (show aE≤4400 by omega)
 have g:2 ^ (N+256)≤2 ^ aE:=Nat.pow_le_pow_right (by decide) b
 omega
theorem DR(m a K:Nat):m*2 ^ a*2 ^ K=m*2 ^ (a+K):=by rw [Nat.pow_add,Nat.mul_assoc]
theorem N9(m a K:Nat):m*2 ^ a*2 ^ 1*2 ^ K=m*2 ^ (a+1+K):=by rw [DR,DR,Nat.add_assoc]
theorem HY(P n:Nat):P=P / n*n+P % n:=by rw [Nat.mul_comm];exact(Nat.div_add_mod P n).symm
theorem Oa{aE v:Nat}:∃ a r b,a=dN aE*2 ^ (4400 - aE)+r∧r < 2 ^ (4400 - aE)∧a=dN v*2 ^ (4400 - v)+b∧b < 2 ^ (4400 - v):=
 ⟨hW,_,_,HY _ _,Nat.mod_lt _ (Nat.pow_pos (by decide)),HY _ _,Nat.mod_lt _ (Nat.pow_pos (by decide))⟩
theorem DS{K N m R aI T aE:Nat}{up:Bool}(bA:rA K N m R up)(a3:K < 53)(e:N < 1036)(l:320≤aI)(o:aI≤400)(p:T=K+1+N - 64)(q:aE=aI+(T+4)):
  max 1 (iB (jG m N aE) (dN aE))=R∧∀ dU,2 ^ K≤dU→dU≤2 ^ (K+1) - 1→dU ≠ m→fC (jG m N aE) (R*dN aE)+2 ^ (T+6)≤fC (jG dU N aE) (max 1 (iB (jG dU N aE) (dN aE))*dN aE):=by
 obtain⟨fD,eV,g4⟩:=tM a3
 obtain⟨aZ,iC⟩:=bA.iC
 have c:=N8 (n:=N+aE+257) e (show N+256≤aE by omega) (by omega) rfl
 have a:∀ m,b4*jG m N aE=m*2 ^ (N+aE+257):=fun m=>N5 vS (by omega)
 have d:36028797018963969≤2 ^ 150:=Nat.le_trans (show 36028797018963969≤2 ^ 56 by decide) (Nat.pow_le_pow_right (by decide) (by decide))
 have r:=v7 (show aE≤4400 by omega)
 have f:b4*2 ^ (T+6)+36028797018963968*dN aE≤2 ^ 150*dN aE:=by
  have g:(2:Nat) ^ 150=2 ^ 149+2 ^ 149:=by rw [← Nat.two_mul,← Nat.pow_succ']
  have h:36028797018963968≤2 ^ 149:=Nat.le_trans (show 36028797018963968≤2 ^ 56 by decide) (Nat.pow_le_pow_right (by decide) (by decide))
  have aM:b4*2 ^ (T+6)≤2 ^ 149*dN aE:=by
   obtain⟨aD,s⟩:∃ aD,aD=321:=⟨_,rfl⟩
   have a1:b4≤2 ^ aD:=Nat.le_of_lt (Dn (by omega))
   have b:b4*2 ^ (T+6)≤2 ^ aD*2 ^ (T+6):=Nat.mul_le_mul_right _ a1
   have i:2 ^ aD*2 ^ (T+6)≤2 ^ (149+aE):=by rw [← Nat.pow_add];exact Nat.pow_le_pow_right (by decide) (by omega)
   have j:2 ^ (149+aE)≤2 ^ 149*dN aE:=by rw [Nat.pow_add];exact Nat.mul_le_mul_left _ (by omega)
   exact Nat.le_trans b (Nat.le_trans i j)
  have bO:36028797018963968*dN aE≤2 ^ 149*dN aE:=Nat.mul_le_mul_right _ h
  rw [g,Nat.add_mul];exact Nat.add_le_add aM bO
 have sep:=bA.sep
 generalize 2 ^ 150=c8 at *
 refine⟨ME iC fD (by omega) d sep c (a m),fun dU a1 b k=>?_⟩
 exact MC iC fD (by omega) (Nat.le_trans (by decide) d) sep c f (a m) (a dU) a1 b (by omega) k
theorem Ob{K N m R aI aZ aH:Nat}{up:Bool}(bA:rA K N m R up)(a3:K < 53)(i:N < 1036)(j:320≤aI)(k:aI≤400)(l:2 ^ K≤m)(n:m≤2 ^ (K+1) - 1)(aW:x2 m N aI aZ aH):
  aH=R∧∀ dU b c,2 ^ K≤dU→dU≤2 ^ (K+1) - 1→dU ≠ m→x2 dU N aI b c→aZ < b:=by
 obtain⟨T,d⟩:∃ T,T=K+1+N - 64:=⟨_,rfl⟩
 obtain⟨aE,e⟩:∃ aE,aE=aI+(T+4):=⟨_,rfl⟩
 obtain⟨aL,b3⟩:=DS bA a3 i j k d e
 obtain⟨f,o,p⟩:=DN (T:=T) (aE:=aE) (by rw [BG l n];exact d) e aW (by omega) (by omega)
 rw [aL] at f
 refine⟨f,fun dU b c a1 h q r=>?_⟩
 obtain⟨f1,f2,f3⟩:=DN (T:=T) (aE:=aE) (by rw [BG a1 h];exact d) e r (by omega) (by omega)
 have eE:=b3 dU a1 h q
 rw [← f1] at eE
 rw [f] at o p
 have s:2 ^ (T+6)=2*2 ^ (T+5):=by rw [← Nat.pow_succ']
 rw [s] at eE
 have t:0 < 2 ^ (T+5):=Nat.pow_pos (by decide)
 generalize 2 ^ (T+5)=dO at *
 generalize fC (jG m N aE) (R*dN aE)=g at *
 generalize fC (jG dU N aE) (c*dN aE)=u at *
 refine Nat.lt_of_mul_lt_mul_right (a:=dO) ?_
 omega
theorem Oc{K N m R aI aZ aH:Nat}{up:Bool}(bA:rA K N m R up)(a3:K < 53)(x:N < 1036)(y:320≤aI)(z:aI≤400)(A:2 ^ K≤m)(i:m≤2 ^ (K+1) - 1)(aW:x2 m N aI aZ aH):
  ∃ g eF j:Nat,1200≤g∧g≤1401∧eF=g+aI - 1401∧j=g+aI - 1400∧q6 1400 (m*2 ^ (N+1337)) R=1401 - (g:Int)∧2 ^ eF < aZ∧aZ < 2 ^ j:=by
 obtain⟨T,d⟩:∃ T,T=K+1+N - 64:=⟨_,rfl⟩
 obtain⟨aE,k⟩:∃ aE,aE=aI+(T+4):=⟨_,rfl⟩
 obtain⟨aL,_⟩:=DS bA a3 x y z d k
 obtain⟨l,e,f⟩:=DN (T:=T) (aE:=aE) (by rw [BG A i];exact d) k aW (by omega) (by omega)
 have o:=HX (T:=T) d i (show 64≤N+aE by omega) (by omega)
 rw [aL] at l o
 rw [l] at e f
 obtain⟨c,aG,t,Qy,bH,Qz,B⟩:=bA.N7
 obtain⟨n,QA⟩:∃ n,n=3000:=⟨_,rfl⟩
 obtain⟨p,C,D,E⟩:=N0 B
 unfold q6
 have q:0 < 2 ^ (4400 - aE):=Nat.pow_pos (by decide)
 have F:0 < 2 ^ n:=Nat.pow_pos (by decide)
 obtain⟨QB,r,QC,f1,f2,f3,f4⟩:=Oa (aE:=aE) (v:=1400)
 rw [show 4400 - 1400=n by omega] at f3 f4
 have H:jG m N aE*2 ^ (4400 - aE)=m*2 ^ (N+1337)*2 ^ n:=by
  unfold jG
  rw [N9,DR,show N+aE - 64+1+(4400 - aE)=N+1337+n by omega]
 have rel:=N2 (R:=R) q F H f1 f2 f3 f4
 have s:R*(2 ^ (4400 - aE)+2 ^ n)+2 ^ (4401 - aI)≤2 ^ c*2 ^ n:=by
  have a1:R*(2 ^ (4400 - aE)+2 ^ n)≤2 ^ T*(2 ^ (4400 - aE)+2 ^ n):=Nat.mul_le_mul_right _ o
  have a2:2 ^ T*(2 ^ (4400 - aE)+2 ^ n)=2 ^ (T+(4400 - aE))+2 ^ (T+n):=by rw [Nat.mul_add,← Nat.pow_add,← Nat.pow_add]
  rw [a2] at a1
  have h:2 ^ (T+(4400 - aE))≤2 ^ (c+n - 2):=Nat.pow_le_pow_right (by decide) (by omega)
  have u:2 ^ (T+n)≤2 ^ (c+n - 2):=Nat.pow_le_pow_right (by decide) (by omega)
  have QD:2 ^ (4401 - aI)≤2 ^ (c+n - 2):=Nat.pow_le_pow_right (by decide) (by omega)
  have I:2 ^ c*2 ^ n=2 ^ (c+n - 2)*2 ^ 2:=by rw [← Nat.pow_add,← Nat.pow_add,show c+n - 2+2=c+n by omega]
  rw [I]
  generalize 2 ^ (c+n - 2)=QE at *
  generalize 2 ^ (T+(4400 - aE))=QF at *
  generalize 2 ^ (T+n)=QG at *
  generalize 2 ^ (4401 - aI)=QH at *
  generalize R*(2 ^ (4400 - aE)+2 ^ n)=QI at *
  omega
 have J:2 ^ c≤2 ^ aG:=Nat.pow_le_pow_right (by decide) (by omega)
 have w:=N3 (V:=2 ^ (4401 - aI)) (cI:=2 ^ c) rel.1 rel.2 e f (by rw [← Nat.pow_add,show T+5+(4400 - aE)=4401 - aI by omega]) q s (Nat.le_trans J D)
 clear rel s e f
 generalize fC (m*2 ^ (N+1337)) (R*dN 1400)=G at *
 obtain⟨g,b,eL,QJ⟩:=N4 C
 rw [p] at b
 have P:eJ G=g+1:=by
  refine Nat.le_antisymm ?_ ?_
  ·rw [← b];exact HW (Nat.le_add_right _ _)
  ·rw [← b,← p];exact HW (Nat.sub_le _ _)
 have Q:G+2 ^ c < 2 ^ (g+1):=by
  have:=iL.mp (Nat.le_of_eq b);exact this
 have fD:1200≤g:=by
  refine Nat.le_of_not_lt fun Qx=>?_
  have a1:G < 2 ^ (g+1):=by omega
  have h:2 ^ (g+1)≤2 ^ aG:=Nat.pow_le_pow_right (by decide) (by omega)
  omega
 have eV:g≤1401:=by
  refine Nat.le_of_not_lt fun Qx=>?_
  have h:2 ^ t≤2 ^ g:=Nat.pow_le_pow_right (by decide) (by omega)
  have u:=Nat.sub_le G (2 ^ c)
  exact absurd (Nat.lt_of_lt_of_le (Nat.lt_of_le_of_lt (Nat.le_add_right _ _) E) (Nat.le_trans h (Nat.le_trans eL u))) (Nat.lt_irrefl _)
 refine⟨g,_,_,fD,eV,rfl,rfl,by rw [P];omega,?_,?_⟩
 ·refine Nat.lt_of_mul_lt_mul_right (a:=2 ^ (4401 - aI)) (Nat.lt_of_le_of_lt ?_ w.1)
  rw [← Nat.pow_add,show g+aI - 1401+(4401 - aI)=g+n by omega,Nat.pow_add]
  exact Nat.mul_le_mul_right _ eL
 ·refine Nat.lt_of_mul_lt_mul_right (a:=2 ^ (4401 - aI)) (Nat.lt_of_lt_of_le w.2 ?_)
  rw [← Nat.pow_add,show g+aI - 1400+(4401 - aI)=g+1+n by omega,Nat.pow_add]
  exact Nat.mul_le_mul_right _ (Nat.le_of_lt Q)
theorem Od{a:S}{c l L:Nat}{Z:U}{aH:S→Nat→Nat→U→Prop}(r:cL cA Z a c (D.aN L))(b:l=(D.aN L).length)
  (g:∀ a c aB,bK Z aB→cX cA Z aB a c (D.aN L)→aH a (D.aN L).length c aB) :
  a4 g6.id #[.slice a l c] Z fun v aB=>aR v fun a l c=>aH a l c aB:=by
 refine cD (oF r b) fun v aB ⟨R,aG⟩=>?_
 rw [D.e9] at aG
 exact aG.elim fun a c r=>g a c aB R r
def DT(Z:U)(last m a K:Nat)(v:Value)(aB:U):Prop:=
 bK Z aB∧∃ bS L b c jE jF,nK last m a K bS L∧v=.tuple #[.slice b (D.aN bS).length c,.slice jE (D.aN L).length jF]∧cL cA aB b c (D.aN bS)∧cL cA aB jE jF (D.aN L)
theorem DU{Y:aF}{a2 Z:U}{last m a K:Nat}{c9:S}{cZ:Nat}(d:∀ v aB,DT a2 last m a K v aB→Y v aB)(e:bK a2 Z)(f:cL cA Z c9 cZ (D.aN K))(g:nK last m a K K 0):
  a4 g6.id #[.slice c9 (D.aN K).length cZ] Z fun h b=>aR h fun i j k=>a4 gN.id #[.int .u64 0] b fun l n=>aR l fun o p q=>Y (.tuple #[.slice i j k,.slice o p q]) n:=by
 refine Od f rfl fun aM aK a1 cC r=>?_
 refine lC (L:=0) rfl (by decide) fun bO bN b c s=>?_
 exact d _ _ ⟨e.trans (cC.trans c),K,0,aM,aK,bO,bN,g,rfl,r.rd.aU c,s.rd⟩
theorem qA{n last:Nat}(d:last < 18446744073709551616)(Z:n≤b4*last+b4*2):fX n:=by
 obtain⟨aD,e⟩:∃ aD,aD=321:=⟨_,rfl⟩
 have b:b4 < 2 ^ aD:=Dn (by omega)
 have c:last+2 < 2 ^ 65:=by rw [show(2:Nat) ^ 65=36893488147419103232 by decide];omega
 have a:b4*(last+2) < 2 ^ (aD+65):=by rw [Nat.pow_add];exact Nat.mul_lt_mul'' b c
 rw [Nat.mul_add] at a
 exact xE (R:=aD+65) (Nat.lt_of_le_of_lt Z a) (by omega)
theorem Oe:∀ (n:Nat) {last m a K:Nat} {Z:U} {M aM bO c9:S} {aA aK bN cZ:Nat},2*m+(if m < 2*a then 1 else 0)≤n→last < 18446744073709551616→m≤b4→a < m→K < m→
  cL cA Z M aA (D.aN last)→cL cA Z aM aK (D.aN m)→cL cA Z bO bN (D.aN a)→cL cA Z c9 cZ (D.aN K)→
  a4 nD.id #[.slice M (D.aN last).length aA,.slice aM (D.aN m).length aK,.slice bO (D.aN a).length bN,.slice c9 (D.aN K).length cZ] Z (DT Z last m a K):=by
 intro n
 induction n with
 | zero=>intro last m a K Z M aM bO c9 aA aK bN cZ E c QC x a3;omega
 | succ n bZ=>
  intro last m a K Z M aM bO c9 aA aK bN cZ E c QC x a3 y f g k
  have uM:fX m:=qA c (by omega)
  have F:fX a:=qA c (by omega)
  have G:fX K:=qA c (by omega)
  have QD:fX last:=m0 c
  have Rv:a*last≤b4*last:=Nat.mul_le_mul_right last (by omega)
  have QE:fX (a*last):=qA c (by omega)
  have QQ:fX (a*last+K):=qA c (by omega)
  have QR:fX (K+a*last):=qA c (by omega)
  refine nD.ok ?_
  unfold nD.t nD.aP.t
  refine gL (fun N=>?_) fun N=>?_
  ·have i:a=0:=pE.mp (by omega)
   exact DU (fun v aB aG=>aG) (bK.refl _) k (by rw [i];exact JF a3)
  have i:0 < a:=by
   rcases Nat.eq_zero_or_pos a with b | b
   ·exact absurd (show(((D.aN a).length:Nat):Int)=0 by rw [pE.mpr b];rfl) N
   ·exact b
  refine Ge (n:=1) rfl g rfl (by decide) F fun eI eN Rw e QS=>?_
  refine y2 QS.rd rfl (f.aU e) rfl ?_
  refine cE (fun l=>?_) fun o=>?_
  ·have l:m < 2*a:=by
    refine Nat.lt_of_not_le fun H=>?_
    have:¬ fU (a*2 ^ 1) m > 0:=by unfold fU;split <;> (try split) <;> omega
    exact this l
   rw [if_pos l] at E
   refine xF (g.aU e) rfl (y.aU e) rfl F QD fun bE bD QT p I=>?_
   refine oJ ((k.aU e).aU p) rfl I.rd rfl G QE fun bG bI QU J P=>?_
   have q:=e.trans (p.trans J)
   refine vH P.rd rfl (f.aU q) rfl QR (by omega) fun bX bY b6 b7 QV Q T QF=>?_
   have d:=q.trans Q
   refine o7 (f.aU d) rfl (g.aU d) rfl fun QW QX QY j QG=>?_
   have z:=d.trans j
   refine cD (bZ (last:=last) (m:=m) (a:=m - a) (K:=(K+a*last) % m) (by rw [if_neg (by omega)];omega) c QC (by omega) (Nat.mod_lt _ (by omega)) (y.aU z) (f.aU z) QG.rd (QF.rd.aU j)) fun v QH ⟨r,bS,L,QZ,Q0,jE,jF,s,c3,A,rx⟩=>?_
   subst c3
   refine gY rfl (cS (bL rfl (cS (bL rfl (eG ?_)))))
   refine o7 ((y.aU z).aU r) rfl rx rfl fun Q1 Q2 fV h V=>?_
   exact⟨z.trans (r.trans h),bS,last - L,_,_,_,_,JG x s,rfl,A.aU h,V.rd⟩
  ·have o:¬ m < 2*a:=by
    intro H
    refine o ?_
    show fU (a*2 ^ 1) m > 0
    unfold fU;rw [if_neg (by omega),if_neg (by omega)];decide
   rw [if_neg o] at E
   refine xF (g.aU e) rfl (y.aU e) rfl F QD fun bE bD QT p I=>?_
   refine oJ I.rd rfl ((k.aU e).aU p) rfl QE G fun bG bI QU J P=>?_
   have q:=e.trans (p.trans J)
   refine vH P.rd rfl (f.aU q) rfl QQ (by omega) fun bX bY b6 b7 QV Q T QF=>?_
   have d:=q.trans Q
   have Q3:=JM (last:=last) x a3
   obtain⟨bR,u⟩:∃ bR,bR=(a*last+K) / m:=⟨_,rfl⟩
   rw [← u] at T Q3 ⊢
   refine gL (fun N=>?_) fun N=>?_
   ·have B:bR=0:=pE.mp (by omega)
    exact DU (fun v aB aG=>aG) d (k.aU d) (JH a3 (by rw [← u];exact B))
   have B:bR ≠ 0:=fun b=>N (show(((D.aN bR).length:Nat):Int)=0 by rw [pE.mpr b];rfl)
   refine vH (f.aU d) rfl (g.aU d) rfl uM (by omega) fun QW QX Q1 Q2 QY j QG V=>?_
   refine o7 ((g.aU d).aU j) rfl V.rd rfl fun Q4 Q5 QH r Q6=>?_
   have Q7:=d.trans (j.trans r)
   have bH:=JJ (m:=m) i
   have fin:∀ {zZ:S} {z0:Nat} {fV:U},bK QH fV→cL cA fV zZ z0 (D.aN (k3 m a))→
     nD.a5.t (DT Z last m a K) aM (D.aN m).length aK bO (D.aN a).length bN c9 (D.aN K).length cZ bX (D.aN bR).length bY zZ (D.aN (k3 m a)).length z0 fV:=by
    intro zZ z0 fV h dH
    have aH:=Q7.trans h
    have pM:=f.aU aH
    have vY:=g.aU aH
    have oR:=k.aU aH
    have Q8:=T.rd.aU ((j.trans r).trans h)
    unfold nD.a5.t
    refine oJ oR rfl dH rfl G (qA c (by omega)) fun fD Rx Ry aL eL=>?_
    refine vH eL.rd rfl (vY.aU aL) rfl (qA c (by omega)) (by omega) fun eV Rz g4 RA RB b3 RC Q9=>?_
    refine lC (L:=1) rfl (by decide) fun hK RD RE eE Ra=>?_
    have QI:=aL.trans (b3.trans eE)
    refine o7 (Q8.aU QI) rfl Ra.rd rfl fun RF RG RH fY Rb=>?_
    have Qx:=QI.trans fY
    refine cD (bZ (last:=bR - 1) (m:=a) (a:=k3 m a) (K:=(K+k3 m a) % a) (by split <;> omega) (by omega) (by omega) bH (Nat.mod_lt _ i) Rb.rd (vY.aU Qx) (dH.aU Qx) (Q9.rd.aU (eE.trans fY))) fun v RI ⟨Rc,bS,aD,QZ,Q0,jE,jF,s,c3,A,Rd⟩=>?_
    subst c3
    refine gY rfl (cS (bL rfl (cS (bL rfl (eG ?_)))))
    have C:=Qx.trans Rc
    refine y2 (oR.aU C) rfl A rfl ?_
    refine cE (fun o=>?_) fun l=>?_
    ·have Re:K≤bS:=by
      refine Nat.le_of_not_lt fun H=>?_
      have:¬ fU K bS≤0:=by unfold fU;rw [if_neg (by omega),if_neg (by omega)];decide
      exact this o
     exact DU (fun v aB aG=>aG) (aH.trans C) (oR.aU C) (JK i a3 u B s Re)
    ·have Rf:bS < K:=by
      refine Nat.lt_of_not_le fun H=>l ?_
      show fU K bS≤0
      unfold fU;split
      ·decide
      ·rw [if_pos (by omega)];decide
     have RJ:=s.le
     have w:=JL i x a3 u B s Rf
     have RK:(aD+1)*m≤b4*last+b4:=by
      have a1:(aD+1)*m≤bR*m:=Nat.mul_le_mul_right m (by omega)
      have Rg:=Nat.div_mul_le_self (a*last+K) m
      rw [← u] at Rg
      omega
     have Rh:fX aD:=m0 (by omega)
     have Ri:fX (aD+1):=m0 (by omega)
     have Rj:fX ((aD+1)*m - K):=qA c (by omega)
     refine lC (L:=1) rfl (by decide) fun RL RM RN Qy Rk=>?_
     refine oJ (Rd.aU Qy) rfl Rk.rd rfl Rh (m0 (by decide)) fun RO RP RQ QJ Rl=>?_
     have Qz:=C.trans (Qy.trans QJ)
     refine xF Rl.rd rfl (pM.aU Qz) rfl Ri uM fun RR RS RT QA u8=>?_
     refine o7 u8.rd rfl ((oR.aU Qz).aU QA) rfl fun RU RV RW QK Rm=>?_
     have QL:=Qz.trans (QA.trans QK)
     refine vH Rm.rd rfl (vY.aU QL) rfl Rj (by omega) fun RX RY RZ R0 R1 QM QN R2=>?_
     have eR:=aH.trans (QL.trans QM)
     have Rn:sQ ((aD+1)*m - K) a≤last:=w.le
     have QO:=A.aU ((Qy.trans QJ).trans (QA.trans (QK.trans QM)))
     refine cE (fun R3=>?_) fun R4=>?_
     ·have Ro:((aD+1)*m - K) % a ≠ 0:=fun b=>by have:=pE.mpr b;omega
      have iA:sQ ((aD+1)*m - K) a=((aD+1)*m - K) / a+1:=if_neg Ro
      rw [iA] at w Rn
      refine lC (L:=1) rfl (by decide) fun R5 R6 R7 QB Rp=>?_
      refine oJ (QN.rd.aU QB) rfl Rp.rd rfl (m0 (by omega)) (m0 (by decide)) fun R8 R9 Sa QP Rq=>?_
      unfold nD.bM.t
      exact⟨eR.trans (QB.trans QP),bS,_,_,_,_,_,w,rfl,QO.aU (QB.trans QP),Rq.rd⟩
     ·have Rr:((aD+1)*m - K) % a=0:=pE.mp (by omega)
      have iA:sQ ((aD+1)*m - K) a=((aD+1)*m - K) / a:=if_pos Rr
      rw [iA] at w
      unfold nD.bM.t
      exact⟨eR,bS,_,_,_,_,_,w,rfl,QO,QN.rd⟩
   refine gL (fun N=>?_) fun N=>?_
   ·have b:m % a=0:=pE.mp (by omega)
    have es:k3 m a=0:=if_pos b
    refine lC (L:=0) rfl (by decide) fun Rs Rt fV h Ru=>?_
    have:=fin h (zZ:=Rs) (z0:=Rt) (by rw [es];exact Ru.rd)
    rw [es] at this;exact this
   ·have b:m % a ≠ 0:=fun b=>N (show(((D.aN (m % a)).length:Nat):Int)=0 by rw [pE.mpr b];rfl)
    have es:k3 m a=a - m % a:=if_neg b
    have:=fin (bK.refl _) (zZ:=Q4) (z0:=Q5) (by rw [es];exact Q6.rd)
    rw [es] at this;exact this
theorem DV{aG:Nat}(bH:aG=320):2 ^ aG=b4:=by rw [bH];exact vS
theorem Of{a c8:Nat}(sep:r2 a c8):c8≤a:=by
 have:=(sep 1 0 (by decide) (by decide)).2 (by omega)
 rw [Nat.zero_mul,Nat.zero_add,Nat.one_mul] at this;exact this
theorem Og{N:Nat}(b:N < 1036):2 ^ (N+255)≤e1 N:=by
 have a:e1 N=sB / 2 ^ (4144 - N):=rfl
 rw [a,Nat.le_div_iff_mul_le (Nat.pow_pos (by decide)),← Nat.pow_add,show N+255+(4144 - N)=4399 by omega]
 exact Nat.le_of_ble_eq_true (by kernel_rfl)
theorem Oh{K N m R:Nat}{up:Bool}(bA:rA K N m R up)(b:N < 1036)(Z:K+1+N≤64):m=2 ^ (K+1) - 1:=by
 obtain⟨aZ,iC⟩:=bA.iC
 have aL:=iC.pH
 have b3:=iC.oQ
 have h:0 < 2 ^ 150:=Nat.pow_pos (by decide)
 have i:=Of bA.sep
 have M:0 < e1 N:=by omega
 have l1:0 < 2 ^ (K+1):=Nat.pow_pos (by decide)
 have dC:∀ n,n≤2 ^ (K+1) - 1→n*e1 N < b4:=by
  intro n j
  have a1:n*e1 N < 2 ^ (K+1)*2 ^ (N+256):=Nat.mul_lt_mul'' (by omega) (DQ b)
  rw [← Nat.pow_add] at a1
  obtain⟨aD,c⟩:∃ aD,aD=320:=⟨_,rfl⟩
  have a:2 ^ (K+1+(N+256))≤2 ^ aD:=Nat.pow_le_pow_right (by decide) (by omega)
  rw [DV c] at a
  exact Nat.lt_of_lt_of_le a1 a
 have k:=dC m b3
 have d:=dC (2 ^ (K+1) - 1) (Nat.le_refl _)
 have e:=(iC.le (2 ^ (K+1) - 1) 1 (by omega) (Nat.le_refl _) (Nat.le_refl _)).1 (by rw [Nat.one_mul];exact d)
 rw [Nat.one_mul] at e
 have cC:b4≤R*b4:=Nat.le_mul_of_pos_left b4 iC.cC
 rcases iC.eq with f | f
 ·have g:(2 ^ (K+1) - 1)*e1 N≤m*e1 N:=by omega
  have l:=Nat.le_of_mul_le_mul_right g M
  omega
 ·omega
theorem HZ{L:Nat}(Z:L < b4):(b4 - L) % b4=hP L:=by
 rw [Bm]
 split
 ·rename_i a2;rw [a2,Nat.sub_zero,Nat.mod_self]
 ·exact Nat.mod_eq_of_lt (by omega)
theorem Oi(a bW aT:Nat):(a % b4*aT+a % b4*bW % b4) % b4=((bW+aT)*a) % b4:=by
 rw [Nat.add_comm,Nat.mul_comm (a % b4) aT];exact Dw a bW aT
theorem H0(a bW aT:Nat):((hP (a % b4)*aT+hP (a % b4*bW % b4)) % b4+(bW+aT)*a) % b4=0:=by
 rw [Nat.add_comm (hP (a % b4)*aT),Nat.mul_comm (hP (a % b4)) aT];exact Dv a bW aT
theorem Oj{K N m R cY v L aT:Nat}{up:Bool}(bA:rA K N m R up)(a3:K < 53)(n:N < 1036)(Z:64≤K+N)
  (c:nK (2 ^ K - 1) b4 (e1 N % b4) (e1 N % b4*2 ^ K % b4) v L) (d:nK (2 ^ K - 1) b4 (hP (e1 N % b4)) (hP (e1 N % b4*2 ^ K % b4)) cY aT):2 ^ K+(if cY < v then aT else L)=m:=by
 obtain⟨aZ,iC⟩:=bA.iC
 have aL:=iC.pH
 have b3:=iC.oQ
 have e:=iO
 have o:0 < 2 ^ 150:=Nat.pow_pos (by decide)
 obtain⟨fD,eV,g4⟩:=tM a3
 have sep:=bA.sep
 have z:b4≤2*(2 ^ K*e1 N):=by
  have a1:2 ^ K*2 ^ (N+255)≤2 ^ K*e1 N:=Nat.mul_le_mul_left _ (Og n)
  rw [← Nat.pow_add] at a1
  obtain⟨aD,p⟩:∃ aD,aD=320:=⟨_,rfl⟩
  have g:2 ^ aD≤2 ^ (K+(N+255)+1):=Nat.pow_le_pow_right (by decide) (by omega)
  rw [DV p,Nat.pow_succ] at g
  omega
 have tO:∀ dU c1,2 ^ K≤dU→dU≤2 ^ (K+1) - 1→1≤c1→dU ≠ m→(dU*e1 N < c1*b4→aZ+2 ^ 150+dU*e1 N≤c1*b4)∧(c1*b4≤dU*e1 N→c1*b4+(aZ+2 ^ 150)≤dU*e1 N):=
  fun dU c1 a1 g b q=>iC.tO fD (by omega) o sep a1 g b q
 have g1:=sep m R (by omega) (by omega)
 generalize 2 ^ 150=c8 at *
 have h:=c.eq
 have i:=d.eq
 obtain⟨O,rfl⟩:∃ O,m=2 ^ K+O:=⟨m - 2 ^ K,by omega⟩
 have r:=c.least O (by omega)
 have A:=d.least O (by omega)
 have B:=c.le
 have C:=d.le
 rw [Oi] at h r
 have k:=H0 (e1 N) (2 ^ K) aT
 have s:=H0 (e1 N) (2 ^ K) O
 rw [← i] at k
 have D:cY < b4:=by rw [i];exact Nat.mod_lt _ e
 have t:(hP (e1 N % b4)*O+hP (e1 N % b4*2 ^ K % b4)) % b4 < b4:=Nat.mod_lt _ e
 generalize (hP (e1 N % b4)*O+hP (e1 N % b4*2 ^ K % b4)) % b4=dO at *
 clear i c d
 have E:(cY≤aZ∨v≤aZ):=by
  rcases iC.eq with u | u
  ·left
   have a1:(2 ^ K+O)*e1 N < R*b4:=by
    refine Nat.lt_of_not_le fun w=>?_
    have:=g1.2 w;omega
   have:=Bq t s a1
   omega
  ·right
   have:=Dx e (show R*b4≤(2 ^ K+O)*e1 N by omega)
   omega
 by_cases l:cY < v
 ·rw [if_pos l]
  refine Classical.byContradiction fun j=>?_
  have f:=fun c1 b=>tO (2 ^ K+aT) c1 (by omega) (by omega) b j
  have a1:=Nat.div_add_mod (cY+(2 ^ K+aT)*e1 N) b4
  rw [k,Nat.add_zero] at a1
  generalize x:(cY+(2 ^ K+aT)*e1 N) / b4=c1 at *
  have y:2 ^ K*e1 N≤(2 ^ K+aT)*e1 N:=Nat.mul_le_mul_right _ (by omega)
  have cC:1≤c1:=by
   rcases Nat.eq_zero_or_pos c1 with a | a
   ·rw [a,Nat.mul_zero] at a1;omega
   ·exact a
  have f1:=f c1 cC
  rw [Nat.mul_comm b4 c1] at a1
  generalize (2 ^ K+aT)*e1 N=F at *
  generalize c1*b4=Q at *
  rcases Nat.eq_zero_or_pos cY with a | a
  ·have:=f1.2 (by omega);omega
  ·have:=f1.1 (by omega);omega
 ·rw [if_neg l]
  refine Classical.byContradiction fun j=>?_
  have f:=fun c1 b=>tO (2 ^ K+L) c1 (by omega) (by omega) b j
  have a1:=Nat.div_add_mod ((2 ^ K+L)*e1 N) b4
  rw [← h] at a1
  generalize x:(2 ^ K+L)*e1 N / b4=c1 at *
  have y:2 ^ K*e1 N≤(2 ^ K+L)*e1 N:=Nat.mul_le_mul_right _ (by omega)
  rcases Nat.eq_zero_or_pos c1 with a | a
  ·rw [a,Nat.mul_zero,Nat.zero_add] at a1
   have f1:=(f 1 (Nat.le_refl _)).1
   rw [Nat.one_mul] at f1
   have G:v < b4:=by rw [h];exact Nat.mod_lt _ e
   have:=f1 (by omega)
   omega
  ·have f1:=(f c1 a).2
   rw [Nat.mul_comm b4 c1] at a1
   have:=f1 (by omega)
   omega
theorem inv_eq{N:Nat}(Z:BF (e1 N) N=true){eF aE aG:Nat}(a1:eF=2*(N+320)+1)(a:aE=N+320)(bH:aG=64):2 ^ eF / dN aE / 2 ^ aG=e1 N:=by
 subst a1;subst a;subst bH
 exact Nat.eq_of_beq_eq_true Z
theorem nW{Z:U}{aI:Nat}{b8:List Value}(aQ:eM Z aI b8)(e:b8.length=3){a b c:Value}{aH:U→Prop}(g:∀ aB,eM aB aI [a,b,c]→cG aI Z aB→aH aB):
  cM Z ((⟨aI,0,none⟩:Addr).add 0) a fun a1=>cM a1 ((⟨aI,0,none⟩:Addr).add 1) b fun d=>cM d ((⟨aI,0,none⟩:Addr).add 2) c aH:=by
 match b8,e with
 | [M,aM,bO],_=>
  refine j5 aQ (by exact(by decide:0 < 3)) fun a1 f cC=>?_
  refine j5 f (by exact(by decide:1 < 3)) fun d h i=>?_
  refine j5 h (by exact(by decide:2 < 3)) fun j k l=>?_
  exact g j k ((cC.trans i).trans l)
theorem H2{d:U}{e f h:Int}{a:S}{l c:Nat}{i:TypeId}{dR:List Value}(j:dR.length=3){v:Value}(c3:v=.tuple #[.agg #[.int .u64 e,.slice a l c,.int .i64 f],.int .i64 h]){aH:Addr→Int→U→Prop}
  (g:∀ aI aB,bK d aB→d.size≤aI→eM aB aI [.int .u64 e,.slice a l c,.int .i64 f]→aH ⟨aI,0,none⟩ h aB) :
  cW v fun k=>cV k fun m n=>eQ m fun o=>cV o fun p q=>a0 .u64 p fun r=>cV q fun s t=>aR s fun u w x=>cV t fun y z=>a0 .i64 y fun A=>b9 z <| cV n fun B C=>a0 .i64 B fun D=>b9 C <|
   dX d i dR fun b E=>cM E (b.add 0) (.int .u64 r) fun F=>cM F (b.add 1) (.slice u w x) fun G=>cM G (b.add 2) (.int .i64 A) fun H=>aH b D H:=by
 subst c3
 refine gY rfl (cS (fH rfl (cS (b0 rfl (cS (bL rfl (cS (b0 rfl (eG (cS (b0 rfl (eG ?_))))))))))))
 refine fJ fun V I J=>?_
 refine nW I j fun P Q T=>?_
 exact g _ P (cG.aU J T (Nat.le_refl _)) (Nat.le_refl _) Q
theorem Ok{Z:U}{aY aS:Int}(g:aY < 1∨aY > 53∨aS < -64∨aS > 971):a4 kY.id #[.int .i64 aY,.int .i64 aS] Z fun v aB=>bK Z aB∧v=.tuple #[.agg #[.int .u64 0,.slice none 0 0,.int .i64 0],.int .i64 1]:=by
 refine kY.ok ?_
 unfold kY.t kY.aP.t
 refine fJ fun f c d=>?_
 refine cE (fun _=>?_) fun a1=>?_
 ·refine nW c rfl fun e a b=>?_
  exact qT a rfl (mE a rfl (qT a rfl ⟨cG.aU d b (Nat.le_refl _),rfl⟩))
 refine cE (fun _=>?_) fun f=>?_
 ·refine nW c rfl fun e a b=>?_
  exact qT a rfl (mE a rfl (qT a rfl ⟨cG.aU d b (Nat.le_refl _),rfl⟩))
 refine cE (fun _=>?_) fun e=>?_
 ·refine nW c rfl fun e a b=>?_
  exact qT a rfl (mE a rfl (qT a rfl ⟨cG.aU d b (Nat.le_refl _),rfl⟩))
 refine cE (fun _=>?_) fun h=>by omega
 ·refine nW c rfl fun e a b=>?_
  exact qT a rfl (mE a rfl (qT a rfl ⟨cG.aU d b (Nat.le_refl _),rfl⟩))
theorem Ol{K m:Nat}(a3:K < 53)(a1:2 ^ K≤m)(a:m≤2 ^ (K+1) - 1):eJ m≤64∧m < 18446744073709551616:=by
 obtain⟨fD,eV,g4⟩:=tM a3
 rw [BG a1 a];omega
theorem H3{a:S}{c l L:Nat}{Z:U}{aH:Int→Bool→U→Prop}(r:cL cA Z a c (D.aN L))(b:l=(D.aN L).length)(d:L < 18446744073709551616)(g:∀ aB,bK Z aB→aH (L:Int) true aB):
  a4 rM.id #[.slice a l c] Z fun v aB=>cW v fun aT=>cV aT fun e eK=>a0 .u64 e fun bS=>cV eK fun f h=>eU f fun K=>b9 h (aH bS K aB):=by
 refine cD (Kd r b) fun v aB ⟨R,t⟩=>?_
 have N:CL L=((L:Int),true):=if_pos d
 rw [N] at t
 obtain⟨_,_,i,⟨j,_⟩,k⟩:=t
 subst i;subst j;subst k
 exact gY rfl (cS (b0 rfl (cS (dB rfl (eG (g aB R))))))
theorem Om{O:Nat}(Z:O < 1000):e6.take O ++ [e6.getD O 0]=e6.take (O+1):=by
 have a:O < e6.length:=by rw [q3];exact Z
 rw [List.take_add_one,List.getElem?_eq_getElem a,List.getD,List.getElem?_eq_getElem a];rfl
theorem H4{R O:Nat}{T:List Nat}(a:R≤1000)(Z:O < R):(e6.take R ++ T).getD O 0=e6.getD O 0:=by
 have a1:O < (e6.take R).length:=by rw [nX a];exact Z
 rw [List.getD,List.getElem?_append_left a1,List.getElem?_take,if_pos Z];rfl
theorem On{Y:aF}{b1:Int→Int→U→Prop}{c0:U}{R:Nat}{j:Int}(h:R≤1000){bE bG:S}{bD bI:Nat}{d e:List fA}{v9 wA:List Nat}(k:cL lX c0 bE bD d)(s:cL lX c0 bG bI e)(d5:mR c0 bE d (e6.take R ++ v9))(d6:mR c0 bG e (e6.take R ++ wA))(u:v9 ≠ [])(v:wA ≠ [])
  (w:∀ a c aB,bK c0 aB→cX dL c0 aB a c (e6.take R)→Y (.slice a R c) aB) :
  ∀ (n O:Nat) {bX:S} {bY:Nat} {Z:U},O+n=R→bK c0 Z→cX dL c0 Z bX bY (e6.take O)→
   lF.gF.t Y b1 (n+1) (R:Int) j bE d.length bD bG e.length bI bX O bY (O:Int) Z:=by
 have B:R+1≤d.length:=by
  rw [d5.len,List.length_append,nX h]
  have:=List.length_pos_iff.mpr u;omega
 have C:R+1≤e.length:=by
  rw [d6.len,List.length_append,nX h]
  have:=List.length_pos_iff.mpr v;omega
 intro n
 induction n with
 | zero=>
  intro O bX bY Z a8 b g
  have N:O=R:=by omega
  subst N
  have fin:lF.cH.t Y b1 (O:Int) j bX O bY Z:=by
   unfold lF.cH.t
   exact gL (fun _=>w bX bY Z b g) fun N=>absurd rfl N
  unfold lF.gF.t lF.eZ.t
  refine cT ((O+1:Nat):Int) (by omega) (by omega) (by omega) ?_
  refine cE (fun _=>?_) fun _=>fin
  refine cT ((O+1:Nat):Int) (by omega) (by omega) (by omega) ?_
  refine cE (fun _=>?_) fun _=>fin
  exact cE (fun a3=>by omega) fun _=>fin
 | succ n bZ=>
  intro O bX bY Z a8 b g
  have l:O < R:=by omega
  have m:=H4 (T:=v9) h l
  have x:=H4 (T:=wA) h l
  have o:O < (e6.take R ++ v9).length:=by have:=d5.len;omega
  have y:O < (e6.take R ++ wA).length:=by have:=d6.len;omega
  have p:=BD (show O < 1000 by omega)
  unfold lF.gF.t lF.eZ.t
  refine cT ((O+1:Nat):Int) (by omega) (by omega) (by omega) ?_
  refine cE (fun _=>?_) fun a3=>absurd (show((O+1:Nat):Int) < (d.length:Int) by omega) a3
  refine cT ((O+1:Nat):Int) (by omega) (by omega) (by omega) ?_
  refine cE (fun _=>?_) fun a3=>absurd (show((O+1:Nat):Int) < (e.length:Int) by omega) a3
  refine cE (fun _=>?_) fun a3=>by omega
  refine DJ (d5.aU b) (k.aU b) rfl rfl o fun aM aK f=>?_
  refine DJ (d6.aU b) (s.aU b) rfl rfl y fun bO bN q=>?_
  rw [m] at f ⊢
  rw [x] at q ⊢
  refine y2 f rfl q rfl ?_
  refine gL (fun _=>?_) fun z=>absurd (by simp [fU]) z
  unfold lF.gS.t
  refine DJ (d5.aU b) (k.aU b) rfl rfl o fun aM aK f=>?_
  rw [m] at f ⊢
  refine H3 f rfl p.2 fun a1 cC=>?_
  have i:(e6.take O).length=O:=nX (by omega)
  refine CE (g.aU cC) (b.trans cC) i.symm rfl p.2 (by rw [i];omega) (by rw [i];omega) fun c9 cZ D r A _=>?_
  rw [Om (by omega)] at r
  rw [i]
  refine cT ((O+1:Nat):Int) (by omega) (by omega) (by omega) ?_
  exact bZ (O+1) (by omega) A r
theorem H5{R:Nat}{O:Int}{Z:U}(a8:O=(R:Int))(a1:1≤R)(e:R≤1000){aH:S→Nat→Nat→U→Prop}(g:∀ a c aB,bK Z aB→cX dL Z aB a c (e6.take R)→aH a R c aB):
  a4 lF.id #[.int .i64 O] Z fun v aB=>aR v fun a l c=>aH a l c aB:=by
 subst a8
 refine cD (c8:=fun v aB=>bK Z aB∧∃ a c,v=.slice a R c∧cX dL Z aB a c (e6.take R)) ?_ fun v aB ⟨cC,a,c,N,r⟩=>by subst N;exact bL rfl (g a c aB cC r)
 refine lF.ok ?_
 unfold lF.t lF.aP.t
 refine cT ((4*R:Nat):Int) (by omega) (by omega) (by omega) ?_
 refine cT ((4*R+64:Nat):Int) (by omega) (by omega) (by omega) ?_
 refine⟨1,?_⟩
 unfold lF.dG.t lF.cF.t
 have q:4*R+64 < 4200:=by omega
 have f:4*R+64+1≤35184372088832:=by omega
 have s:4*R+64+1+1≤32000000:=by omega
 have h:R+2≤2000:=by omega
 obtain⟨⟨v9,u,w⟩,⟨wA,x,y⟩⟩:=Nz a1 e
 have i:fX (dN (4*R+64)):=lO (tB (aE:=4*R+64) (by omega) (Nat.le_add_right _ _))
 have z:fX (dN (4*R+64)+1):=lO (tB (aE:=4*R+64) (by omega) (by omega))
 have j:fX (2 ^ (4*R+64+1)):=xE (R:=4*R+64+1+1) (Nat.pow_lt_pow_right (by decide) (by omega)) s
 refine Bd rfl q fun aM aK a1 cC k=>?_
 refine cT ((4*R+64+1:Nat):Int) (by omega) (by omega) (by omega) ?_
 refine vQ rfl f fun bO bN e b A=>?_
 refine cT ((R+2:Nat):Int) (by omega) (by omega) (by omega) ?_
 refine HQ (k.rd.aU b) A.rd rfl rfl rfl h i j fun c9 cZ J P m B d3=>?_
 refine lC (L:=1) rfl (by decide) fun eI eN Q n C=>?_
 refine oJ (k.rd.aU (b.trans (m.trans n))) rfl C.rd rfl i (m0 (by decide)) fun bE bD T D E=>?_
 refine cT ((4*R+64+1:Nat):Int) (by omega) (by omega) (by omega) ?_
 refine vQ rfl f fun bG bI V o F=>?_
 refine cT ((R+2:Nat):Int) (by omega) (by omega) (by omega) ?_
 refine HQ (E.rd.aU o) F.rd rfl rfl rfl h z j fun bX bY Qx Qy G H d7=>?_
 rw [w] at d3
 rw [y] at d7
 have d:=n.trans (D.trans (o.trans G))
 unfold lF.dD.t
 refine⟨R+1,On (by omega) (B.aU d) H (d3.aU d) d7 u x (fun a c aB eR I=>?_) R 0 (by omega) (bK.refl _) (by rw [List.take_zero];exact cX.nil _ _)⟩
 have p:=cC.trans (b.trans (m.trans d))
 exact⟨p.trans eR,a,c,rfl,I.from p.le⟩
theorem Oo{n:Nat}{O:Int}{Z:U}(a8:O=(n:Int))(a1:1≤n)(b:n≤1000){aH:S→Nat→Nat→Int→U→Prop}(g:∀ a c aB,bK Z aB→cX dL Z aB a c (e6.take n)→aH a n c 0 aB):
  a4 nZ.id #[.int .i64 O] Z fun v aB=>cW v fun aT=>cV aT fun d eK=>aR d fun a l c=>cV eK fun e f=>a0 .i64 e fun L=>b9 f (aH a l c L aB):=by
 subst a8
 refine cD (c8:=fun v aB=>bK Z aB∧∃ a c,v=.tuple #[.slice a n c,.int .i64 0]∧cX dL Z aB a c (e6.take n)) ?_ fun v aB ⟨cC,a,c,N,r⟩=>by
  subst N;exact gY rfl (cS (bL rfl (cS (b0 rfl (eG (g a c aB cC r))))))
 refine nZ.ok ?_
 unfold nZ.t nZ.aP.t
 refine cE (fun a3=>absurd a3 (by omega)) fun _=>?_
 refine cE (fun a3=>absurd a3 (by omega)) fun _=>?_
 unfold nZ.a5.t
 exact H5 rfl a1 b fun a c aB R r=>⟨R,a,c,rfl,r⟩
theorem Oq{O:Int}{Z:U}(a8:O < 1∨O > 1000){aH:S→Nat→Nat→Int→U→Prop}(g:aH none 0 0 1 Z):
  a4 nZ.id #[.int .i64 O] Z fun v aB=>cW v fun aT=>cV aT fun b eK=>aR b fun a l c=>cV eK fun d e=>a0 .i64 d fun L=>b9 e (aH a l c L aB):=by
 refine cD (c8:=fun v aB=>aB=Z∧v=.tuple #[.slice none 0 0,.int .i64 1]) ?_ fun v aB ⟨f,h⟩=>by
  subst f;subst h;exact gY rfl (cS (bL rfl (cS (b0 rfl (eG g)))))
 refine nZ.ok ?_
 unfold nZ.t nZ.aP.t
 refine cE (fun a3=>⟨rfl,rfl⟩) fun a3=>?_
 exact cE (fun a3=>⟨rfl,rfl⟩) fun i=>by omega
theorem Ot{Y:aF}{a2:U}{n:Nat}(l:n≤1000){fM:S}{fR:Nat}(z:cJ a2 fM fR (e6.take n))(A:∀ a c K aZ aB,bK a2 aB→cX dL a2 aB a c (aN (eP n).P)→cX dL a2 aB K aZ (aN (eP n).Y)→Y (.tuple #[.slice a (aN (eP n).P).length c,.slice K (aN (eP n).Y).length aZ,.int .i64 0]) aB):
  ∀ (m O:Nat) {bE bG bX b6:S} {bD bI bY b7:Nat} {Z:U},O+m=n→bK a2 Z→
   cL cA Z bE bD (D.aN (eP O).P)→cL cA Z bG bI (D.aN (eP O).Y)→cL cA Z bX bY (D.aN (eP O).g2)→cL cA Z b6 b7 (D.aN (eP O).hC)→
   kP.dS.t Y (m+1) bE (D.aN (eP O).P).length bD bG (D.aN (eP O).Y).length bI bX (D.aN (eP O).g2).length bY b6 (D.aN (eP O).hC).length b7 fM n fR (n:Int) (O:Int) Z:=by
 intro m
 induction m with
 | zero=>
  intro O bE bG bX b6 bD bI bY b7 Z a8 b e f o p
  unfold kP.dS.t kP.dD.t
  refine cE (fun a3=>by omega) fun _=>?_
  unfold kP.bM.t
  have N:O=n:=by omega
  subst N
  refine CV e rfl fun aM aK a1 cC B=>?_
  refine CV (f.aU cC) rfl fun bO bN C d E=>?_
  exact A _ _ _ _ _ (b.trans (cC.trans d)) ((B.aU d).from b.le) (E.from (b.trans cC).le)
 | succ m bZ=>
  intro O bE bG bX b6 bD bI bY b7 Z a8 b e f o p
  unfold kP.dS.t kP.dD.t
  refine cE (fun a3=>?_) fun a3=>by omega
  have F:O < (e6.take n).length:=by rw [nX l];omega
  have G:(e6.take n).getD O 0=e6.getD O 0:=by simp [List.getD,show O < n by omega]
  refine gJ (z.aU b) (aD:=O) rfl (nX l).symm F ?_
  rw [G]
  have g:=(BD (show O < 1000 by omega)).2
  obtain⟨H,s2,iU,yR⟩:=xZ (n:=O) (by omega)
  obtain⟨t1,t2,t3,t4⟩:=xZ (n:=O+1) (by omega)
  have h:=DG (show O < 1000 by omega)
  have q:(eP (O+1)).P=e6.getD O 0*(eP O).P+(eP O).g2:=by rw [h];rfl
  have r:(eP (O+1)).Y=e6.getD O 0*(eP O).Y+(eP O).hC:=by rw [h];rfl
  have s:(eP (O+1)).g2=(eP O).P:=by rw [h];rfl
  have u:(eP (O+1)).hC=(eP O).Y:=by rw [h];rfl
  have I:fX (e6.getD O 0*(eP O).P):=s6 (by rw [q];exact Nat.le_add_right _ _) (lO t1)
  have J:fX (e6.getD O 0*(eP O).Y):=s6 (by rw [r];exact Nat.le_add_right _ _) (lO t3)
  refine lC rfl g fun aM aK a1 cC eL=>?_
  refine xF eL.rd rfl (e.aU cC) rfl (m0 g) (lO H) fun bO bN C d Q=>?_
  refine oJ Q.rd rfl ((o.aU cC).aU d) rfl I (lO s2) fun c9 cZ Qz T v=>?_
  refine lC rfl g fun eI eN QA w V=>?_
  have i:=cC.trans (d.trans (T.trans w))
  refine xF V.rd rfl (f.aU i) rfl (m0 g) (lO iU) fun QB QC QD j Qx=>?_
  refine oJ Qx.rd rfl ((p.aU i).aU j) rfl J (lO yR) fun QE QF QG x y=>?_
  have Qy:=w.trans (j.trans x)
  have k:=i.trans (j.trans x)
  rw [← q] at v ⊢
  rw [← r] at y ⊢
  refine cT ((O+1:Nat):Int) (by omega) (by omega) (by omega) ?_
  have:=bZ (O+1) (by omega) (b.trans k) (v.rd.aU Qy) y.rd (by rw [s];exact e.aU k) (by rw [u];exact f.aU k)
  rw [s,u] at this
  exact this
theorem Ou{R:Nat}{O:Int}{Z:U}(a8:O=(R:Int))(z:R < 1000){aH:S→Nat→Nat→S→Nat→Nat→Int→U→Prop}
  (g:∀ a c K aZ aB,bK Z aB→cJ aB a c (aN (eP (R+1)).P)→cJ aB K aZ (aN (eP (R+1)).Y)→aH a (aN (eP (R+1)).P).length c K (aN (eP (R+1)).Y).length aZ 0 aB) :
  a4 kP.id #[.int .i64 O] Z fun v aB=>cW v fun aT=>cV aT fun h eK=>aR h fun a l c=>cV eK fun i j=>aR i fun K m aZ=>cV j fun k o=>a0 .i64 k fun L=>b9 o (aH a l c K m aZ L aB):=by
 subst a8
 refine cD (c8:=fun v aB=>bK Z aB∧∃ a c K aZ,v=.tuple #[.slice a (aN (eP (R+1)).P).length c,.slice K (aN (eP (R+1)).Y).length aZ,.int .i64 0]∧cJ aB a c (aN (eP (R+1)).P)∧cJ aB K aZ (aN (eP (R+1)).Y)) ?_ fun v aB ⟨cC,a,c,K,aZ,N,r,aG⟩=>by
  subst N;exact gY rfl (cS (bL rfl (cS (bL rfl (cS (b0 rfl (eG (g a c K aZ aB cC r aG))))))))
 refine kP.ok ?_
 unfold kP.t kP.aP.t
 refine cE (fun a3=>absurd a3 (by omega)) fun _=>?_
 refine cE (fun a3=>absurd a3 (by omega)) fun _=>?_
 unfold kP.a5.t
 refine lC (L:=1) rfl (by decide) fun bE bD A p q=>?_
 refine lC (L:=0) rfl (by decide) fun bG bI B f s=>?_
 refine lC (L:=0) rfl (by decide) fun bX bY C e u=>?_
 refine lC (L:=1) rfl (by decide) fun b6 b7 D d w=>?_
 unfold kP.cF.t
 refine cT ((R+1:Nat):Int) (by omega) (by omega) (by omega) ?_
 refine H5 (R:=R+1) rfl (by omega) (by omega) fun E F x b y=>?_
 refine⟨R+1+1,?_⟩
 have eR:=p.trans (f.trans (e.trans (d.trans b)))
 refine Ot (a2:=x) (n:=R+1) (by omega) y.eS (fun a c K aZ aB cC r aG=>?_) (R+1) 0 (by omega) (bK.refl _) (q.rd.aU (f.trans (e.trans (d.trans b)))) (s.rd.aU (e.trans (d.trans b))) (u.rd.aU (d.trans b)) (w.rd.aU b)
 exact⟨eR.trans cC,a,c,K,aZ,rfl,r.eS,aG.eS⟩
theorem Ov{O:Int}{Z:U}(a8:O < 0∨O≥1000){aH:S→Nat→Nat→S→Nat→Nat→Int→U→Prop}(g:aH none 0 0 none 0 0 1 Z):
  a4 kP.id #[.int .i64 O] Z fun v aB=>cW v fun aT=>cV aT fun b eK=>aR b fun a l c=>cV eK fun d e=>aR d fun K m aZ=>cV e fun f h=>a0 .i64 f fun L=>b9 h (aH a l c K m aZ L aB):=by
 refine cD (c8:=fun v aB=>aB=Z∧v=.tuple #[.slice none 0 0,.slice none 0 0,.int .i64 1]) ?_ fun v aB ⟨i,j⟩=>by
  subst i;subst j;exact gY rfl (cS (bL rfl (cS (bL rfl (cS (b0 rfl (eG g)))))))
 refine kP.ok ?_
 unfold kP.t kP.aP.t
 refine cE (fun a3=>⟨rfl,rfl⟩) fun a3=>?_
 exact cE (fun a3=>⟨rfl,rfl⟩) fun k=>by omega
theorem Ow{O:Int}{Z:U}(a8:O < 1∨O > 1000){aH:S→Nat→Nat→Int→U→Prop}(g:∀ aB,bK Z aB→aH none 0 0 1 aB):
  a4 lS.id #[.int .i64 O] Z fun v aB=>cW v fun aT=>cV aT fun b eK=>aR b fun a l c=>cV eK fun d e=>a0 .i64 d fun L=>b9 e (aH a l c L aB):=by
 refine cD (c8:=fun v aB=>aB=Z∧v=.tuple #[.slice none 0 0,.int .i64 1]) ?_ fun v aB ⟨f,h⟩=>by
  subst f;subst h;exact gY rfl (cS (bL rfl (cS (b0 rfl (eG (g _ (bK.refl _)))))))
 refine lS.ok ?_
 unfold lS.t lS.aP.t
 refine cE (fun a3=>⟨rfl,rfl⟩) fun a3=>?_
 exact cE (fun a3=>⟨rfl,rfl⟩) fun i=>by omega
theorem H6{Z:U}{M aM bO c9:S}{aA aK bN cZ last m a K:Nat}(e:cL cA Z M aA (D.aN last))(f:cL cA Z aM aK (D.aN m))(h:cL cA Z bO bN (D.aN a))(i:cL cA Z c9 cZ (D.aN K))
  (j:last < 18446744073709551616) (k:m≤b4) (n:a < m) (a3:K < m) {aH:S→Nat→Nat→S→Nat→Nat→U→Prop}
  (g:∀ bS L b d jE jF aB,bK Z aB→nK last m a K bS L→cL cA aB b d (D.aN bS)→cL cA aB jE jF (D.aN L)→aH b (D.aN bS).length d jE (D.aN L).length jF aB) :
  a4 nD.id #[.slice M (D.aN last).length aA,.slice aM (D.aN m).length aK,.slice bO (D.aN a).length bN,.slice c9 (D.aN K).length cZ] Z fun v aB=>cW v fun aT=>cV aT fun o eK=>aR o fun a l c=>cV eK fun p q=>aR p fun K m aZ=>b9 q (aH a l c K m aZ aB):=by
 refine cD (Oe _ (Nat.le_refl _) j k n a3 e f h i) fun v aB ⟨R,bS,L,b,d,jE,jF,r,c3,s,rx⟩=>?_
 subst c3
 exact gY rfl (cS (bL rfl (cS (bL rfl (eG (g bS L b d jE jF aB R r s rx))))))
theorem Ox{K N m R:Nat}{up:Bool}{a2 Z:U}(bA:rA K N m R up)(a3:K < 53)(x:N < 1036)(QE:64≤K+N)(QF:bK a2 Z):
  qB.a5.t (fun v aB=>bK a2 aB∧v=.int .u64 (m:Int)) ((K+1:Nat):Int) ((N:Int) - 64) ((N+320:Nat):Int) Z:=by
 obtain⟨fD,eV,g4⟩:=tM a3
 obtain⟨d0,iC⟩:=bA.iC
 have b3:=iC.oQ
 have y:=iO
 have QG:=bA.inv
 have QH:=fun {cY v L aT:Nat}=>Oj (cY:=cY) (v:=v) (L:=L) (aT:=aT) bA a3 x QE
 clear iC bA
 unfold qB.a5.t
 refine cT ((2*(N+320):Nat):Int) (by omega) (by omega) (by omega) ?_
 obtain⟨eF,QI⟩:∃ eF,eF=2*(N+320)+1:=⟨_,rfl⟩
 obtain⟨aE,QJ⟩:∃ aE,aE=N+320:=⟨_,rfl⟩
 obtain⟨aG,bH⟩:∃ aG,aG=64:=⟨_,rfl⟩
 obtain⟨t,QK⟩:∃ t,t=320:=⟨_,rfl⟩
 have QL:=inv_eq QG QI QJ bH
 have b:=DV QK
 refine cT ((eF:Nat):Int) (by omega) (by omega) (by omega) ?_
 refine vQ (n:=eF) rfl (by omega) fun aM aK a1 cC QM=>?_
 refine Bd (aI:=aE) (by omega) (by omega) fun bO bN Re z QN=>?_
 have QO:dN aE ≠ 0:=by
  have:=v7 (show aE≤4400 by omega)
  have:0 < 2 ^ aE:=Nat.pow_pos (by decide)
  omega
 have d1:fX (2 ^ eF):=xE (R:=eF+1) (Nat.pow_lt_pow_right (by decide) (by omega)) (by omega)
 refine vH (QM.rd.aU z) rfl QN.rd rfl d1 QO fun c9 cZ eI eN Rf QP QQ Rg=>?_
 refine vQ (n:=t) (by omega) (by omega) fun bE bD Rh A B=>?_
 rw [b] at B ⊢
 refine cT (384:Int) (by omega) (by decide) (by decide) ?_
 refine cT ((aG:Nat):Int) (by omega) (by omega) (by omega) ?_
 refine A4 (n:=aG) rfl (QQ.rd.aU A) rfl (by omega) fun bG bI Ri QR C=>?_
 rw [QL] at C ⊢
 have QS:=DQ x
 have E:fX (e1 N):=xE QS (by omega)
 refine A5 (n:=t) (by omega) C.rd rfl (by omega) E fun bX bY Rj QT g=>?_
 rw [b] at g ⊢
 have d:e1 N % b4 < b4:=Nat.mod_lt _ y
 have Rk:e1 N=e1 N:=rfl
 refine cT (K:Int) (by omega) (by omega) (by omega) ?_
 refine vQ (n:=K) rfl (by omega) fun b6 b7 Rl QU h=>?_
 refine lC (L:=1) rfl (by decide) fun Rm Rn Ro i QV=>?_
 refine o7 (h.rd.aU i) rfl QV.rd rfl fun Rp Rq Rr F QW=>?_
 have j:=QU.trans (i.trans F)
 have G:=i.trans F
 have QX:fX (e1 N % b4):=s6 (Nat.mod_le _ _) E
 have H:fX (2 ^ K):=m0 (by omega)
 refine xF (g.rd.aU j) rfl (h.rd.aU G) rfl QX H fun Rs Rt fV I QY=>?_
 have QZ:fX (e1 N % b4*2 ^ K):=qA (last:=2 ^ K) (by omega) (by
  have:=Nat.mul_le_mul_right (2 ^ K) (Nat.le_of_lt d);omega)
 refine A5 (n:=t) (by omega) QY.rd rfl (by omega) QZ fun Ru Rv Rw J k=>?_
 rw [b] at k ⊢
 have c0:e1 N % b4*2 ^ K % b4 < b4:=Nat.mod_lt _ y
 have P:=QR.trans (QT.trans (j.trans (I.trans J)))
 have l:=I.trans J
 have e:=B.rd.aU P
 have Q:=g.rd.aU (j.trans l)
 have T:=QW.rd.aU l
 refine H6 T e Q k.rd (by omega) (Nat.le_refl _) d c0 fun v L Rx Ry jE jF Rz o Q0 Q1 rx=>?_
 refine o7 (e.aU o) rfl (Q.aU o) rfl fun RA RB RC V Q2=>?_
 have uM:fX b4:=qA (last:=1) (by decide) (by omega)
 refine A5 (n:=t) (by omega) Q2.rd rfl (by omega) (s6 (Nat.sub_le _ _) uM) fun RD RE RF Qx Qy=>?_
 rw [b,HZ d] at Qy ⊢
 have p:=o.trans (V.trans Qx)
 refine o7 (e.aU p) rfl (k.rd.aU p) rfl fun RG RH RI q Q3=>?_
 refine A5 (n:=t) (by omega) Q3.rd rfl (by omega) (s6 (Nat.sub_le _ _) uM) fun RJ RK RL r Qz=>?_
 rw [b,HZ c0] at Qz ⊢
 have s:=p.trans (q.trans r)
 refine H6 (T.aU s) (e.aU s) (Qy.rd.aU (q.trans r)) Qz.rd (by omega) (Nat.le_refl _) (rY d) (rY c0) fun cY aT RM hU RN RO u QA Q4 Q5 Q6=>?_
 have QB:=s.trans QA
 have QC:=(V.trans Qx).trans ((q.trans r).trans QA)
 have f:=QH Q0 Q4
 have Q7:bK a2 u:=QF.trans (cC.trans (z.trans (QP.trans (A.trans (P.trans QB)))))
 have Q8:=h.rd.aU (G.trans (l.trans QB))
 have fin:∀ {bS:Nat} {a c},cL cA u a c (D.aN bS)→2 ^ K+bS=m→qB.bM.t (fun v aB=>bK a2 aB∧v=.int .u64 (m:Int)) b6 (D.aN (2 ^ K)).length b7 a (D.aN bS).length c u:=by
  intro bS a c Q9 Ra
  unfold qB.bM.t
  refine oJ Q8 rfl Q9 rfl H (m0 (by omega)) fun RP RQ RR Rb QD=>?_
  rw [Ra] at QD ⊢
  refine H3 QD.rd rfl (by omega) fun RS Rc=>?_
  exact⟨Q7.trans (Rb.trans Rc),rfl⟩
 refine y2 Q5 rfl (Q1.aU QC) rfl ?_
 refine cE (fun dC=>?_) fun w=>?_
 ·have dC:=tE.mp dC
  rw [if_pos dC] at f
  exact fin Q6 f
 ·have w:¬ cY < v:=fun Rd=>w (tE.mpr Rd)
  rw [if_neg w] at f
  exact fin (rx.aU QC) f
theorem Oy{K N m R:Nat}{up:Bool}{Z:U}{aY aS:Int}(bA:rA K N m R up)(a3:K < 53)(a:N < 1036)(a2:aY=((K+1:Nat):Int))(a1:aS=(N:Int) - 64){aH:Int→U→Prop}(g:∀ aB,bK Z aB→aH (m:Int) aB):
  a4 qB.id #[.int .i64 aY,.int .i64 aS] Z fun v aB=>a0 .u64 v fun L=>aH L aB:=by
 subst a2;subst a1
 refine cD (c8:=fun v aB=>bK Z aB∧v=.int .u64 (m:Int)) ?_ fun v aB ⟨R,c3⟩=>by subst c3;exact b0 rfl (g aB R)
 obtain⟨fD,eV,g4⟩:=tM a3
 refine qB.ok ?_
 unfold qB.t qB.aP.t
 refine cT (((K+1:Nat):Int)+((N:Int) - 64)) rfl (by omega) (by omega) ?_
 refine cE (fun b=>?_) fun c=>?_
 ·refine⟨by omega,bB.mk ?_⟩
  rw [Dq (K+1) (by omega)]
  have d:=Oh bA a (by omega)
  refine dM m (by omega) (by omega) ?_
  exact⟨bK.refl _,rfl⟩
 ·refine cT ((N+256:Nat):Int) (by omega) (by omega) (by omega) ?_
  refine cT ((N+320:Nat):Int) (by omega) (by omega) (by omega) ?_
  refine cE (fun a3=>by omega) fun _=>?_
  exact Ox bA a3 a (by omega) (bK.refl _)
theorem Oz{K N m R:Nat}{up:Bool}{Z:U}{aY aS:Int}(bA:rA K N m R up)(a3:K < 53)(b:N < 1036)(a2:aY=((K+1:Nat):Int))(a1:aS=(N:Int) - 64){aH:Int→S→Nat→Nat→Int→Int→U→Prop}
  (g:∀ a c aB,bK Z aB→cX dL Z aB a c (aN R)→aH (m:Int) a (aN R).length c (q6 1400 (m*2 ^ (N+1337)) R) 0 aB) :
  a4 n0.id #[.int .i64 aY,.int .i64 aS] Z fun v aB=>cW v fun o=>cV o fun p q=>a0 .u64 p fun s=>cV q fun u w=>aR u fun x y z=>cV w fun A B=>a0 .i64 A fun C=>cV B fun D E=>a0 .i64 D fun F=>b9 E (aH s x y z C F aB):=by
 subst a2;subst a1
 refine cD (c8:=fun v aB=>bK Z aB∧∃ a c,v=.tuple #[.int .u64 (m:Int),.slice a (aN R).length c,.int .i64 (q6 1400 (m*2 ^ (N+1337)) R),.int .i64 0]∧cX dL Z aB a c (aN R)) ?_ fun v aB ⟨eR,a,c,c3,r⟩=>by
  subst c3;exact gY rfl (cS (b0 rfl (cS (bL rfl (cS (b0 rfl (cS (b0 rfl (eG (g a c aB eR r))))))))))
 obtain⟨fD,eV,g4⟩:=tM a3
 obtain⟨d0,iC⟩:=bA.iC
 have d:=iC.pH
 have e:=iC.oQ
 refine n0.ok ?_
 unfold n0.t n0.aP.t
 refine cE (fun n=>by omega) fun _=>?_
 refine cE (fun n=>by omega) fun _=>?_
 refine cE (fun n=>by omega) fun _=>?_
 refine cE (fun n=>by omega) fun _=>?_
 unfold n0.a5.t
 refine Oy bA a3 b rfl rfl fun T f=>?_
 obtain⟨aS,G⟩:=Ol a3 d e
 refine NI (aI:=320) rfl G b (by decide) (by decide) aS rfl rfl fun aZ aH c9 cZ eI eN V aW h H I=>?_
 obtain⟨J,_⟩:=Ob bA a3 b (aI:=320) (by decide) (by decide) d e aW
 obtain⟨g,eF,i,Qx,Qy,Qz,QA,j,QB,P⟩:=Oc bA a3 b (aI:=320) (by decide) (by decide) d e aW
 rw [j]
 clear j
 refine CV I rfl fun bE bD QC k l=>?_
 rw [J] at l ⊢
 have Q:eJ aZ=i:=by
  refine Nat.le_antisymm (iL.mpr P) ?_
  refine Nat.le_of_not_lt fun QD=>?_
  have a1:=iL.mp (show eJ aZ≤eF by omega)
  omega
 refine Gf (H.aU k) rfl ?_
 rw [Q]
 refine cT ((320:Int) - (i:Int)) rfl (by omega) (by omega) ?_
 refine cT ((1401:Int) - (g:Int)) (by omega) (by omega) (by omega) ?_
 exact⟨f.trans (h.trans k),bE,bD,rfl,l.from (f.trans h).le⟩
theorem OA{Z:U}{aY aS:Int}(r:aY < 1∨aY > 53∨aS < -64∨aS > 971){aH:Int→S→Nat→Nat→Int→Int→U→Prop}(g:aH 0 none 0 0 0 1 Z):
  a4 n0.id #[.int .i64 aY,.int .i64 aS] Z fun v aB=>cW v fun a=>cV a fun b c=>a0 .u64 b fun d=>cV c fun e f=>aR e fun h i j=>cV f fun k l=>a0 .i64 k fun m=>cV l fun n o=>a0 .i64 n fun p=>b9 o (aH d h i j m p aB):=by
 refine cD (c8:=fun v aB=>aB=Z∧v=.tuple #[.int .u64 0,.slice none 0 0,.int .i64 0,.int .i64 1]) ?_ fun v aB ⟨q,c3⟩=>by
  subst q;subst c3;exact gY rfl (cS (b0 rfl (cS (bL rfl (cS (b0 rfl (cS (b0 rfl (eG g)))))))))
 refine n0.ok ?_
 unfold n0.t n0.aP.t
 refine cE (fun _=>⟨rfl,rfl⟩) fun eF=>?_
 refine cE (fun _=>⟨rfl,rfl⟩) fun s=>?_
 refine cE (fun _=>⟨rfl,rfl⟩) fun u=>?_
 exact cE (fun _=>⟨rfl,rfl⟩) fun w=>by omega
def lG(c0 Z:U)(m:Nat)(bH:List fA):Prop:=Sep c0 Z bH∧∀ aG ∈ bH,∀ p,aG.1=some p→p.block < m
theorem lG.wide{c0 Z:U}{m dU:Nat}{bH:List fA}(c8:lG c0 Z m bH)(R:m≤dU):lG c0 Z dU bH:=⟨c8.1,fun aG a p N=>Nat.lt_of_lt_of_le (c8.2 aG a p N) R⟩
theorem lG.aU{c0 Z aB:U}{m:Nat}{bH:List fA}(c8:lG c0 Z m bH)(R:bK Z aB):lG c0 aB m bH:=
 ⟨⟨fun aG a=>let ⟨a1,b,c⟩:=c8.1.one aG a;⟨a1,b,c.imp id fun ⟨K,a9,a,b,aQ,c⟩=>⟨K,a9,a,b,aQ.aU R,c⟩⟩,c8.1.two⟩,c8.2⟩
theorem lG.app{c0 Z:U}{bW a8:Nat}{bH c:List fA}{kT:List (List Nat)}(c8:lG c0 Z bW bH)(f:h7 bW a8 Z c kT)(j:c0.size≤bW)(k:bW≤a8)(g1:∀ L ∈ kT,L.length≤17592186044336):lG c0 Z a8 (bH ++ c):=by
 refine⟨⟨fun aG d=>?_,fun O aD aG t p aI a h f1 f2 N=>?_⟩,fun aG d p N=>?_⟩
 ·rcases List.mem_append.mp d with a1 | a1
  ·exact c8.1.one aG a1
  ·obtain⟨O,b⟩:=List.getElem?_of_mem a1
   have l:=(List.getElem?_eq_some_iff.mp b).1
   have i:kT[O]?=some (kT[O]'(by rw [← f.len];exact l)):=List.getElem?_eq_getElem _
   obtain⟨a,h,o,m⟩:=f.at_ O aG _ b i
   have:=g1 _ (List.mem_of_getElem? i)
   refine⟨by omega,by omega,?_⟩
   rcases m with ⟨_,e,g⟩ | ⟨K,rest,e,g,_,aQ,n⟩
   ·exact Or.inl ⟨e,g⟩
   ·exact Or.inr ⟨K,_,e,Nat.le_trans j g,aQ,n⟩
 ·have oW:∀ (O:Nat) (aG:fA) (p:Addr),(bH ++ c)[O]?=some aG→aG.1=some p→(O < bH.length∧bH[O]?=some aG∧p.block < bW)∨(bH.length≤O∧c[O - bH.length]?=some aG∧bW≤p.block):=by
   intro O aG p a f1
   rcases Nat.lt_or_ge O bH.length with b | b
   ·rw [List.getElem?_append_left b] at a
    exact Or.inl ⟨b,a,c8.2 aG (List.mem_of_getElem? a) p f1⟩
   ·rw [List.getElem?_append_right b] at a
    exact Or.inr ⟨b,a,(f.block aG (List.mem_of_getElem? a) p f1).1⟩
  rcases oW O aG p a f1 with ⟨aM,bO,c9⟩ | ⟨aM,bO,c9⟩ <;> rcases oW aD t aI h f2 with ⟨fD,eV,g4⟩ | ⟨fD,eV,g4⟩
  ·exact c8.1.two O aD aG t p aI bO eV f1 f2 N
  ·omega
  ·omega
  ·have:=f.two _ _ aG t p aI bO eV f1 f2 N
   omega
 ·rcases List.mem_append.mp d with a1 | a1
  ·exact Nat.lt_of_lt_of_le (c8.2 aG a1 p N) k
  ·exact(f.block aG a1 p N).2
theorem lG.push{c0 Z aB:U}{bH a:List fA}{kT:List (List Nat)}(c8:lG c0 Z Z.size bH)(R:bK Z aB)(b:bK c0 Z)(f:h7 Z.size aB.size aB a kT)(g1:∀ L ∈ kT,L.length≤17592186044336):lG c0 aB aB.size (bH ++ a):=
 (c8.aU R).app f b.le R.le g1
theorem lG.move{c0 Z aB:U}{bH:List fA}(c8:lG c0 Z Z.size bH)(R:bK Z aB):lG c0 aB aB.size bH:=(c8.aU R).wide R.le
theorem lG.nil(c0 Z:U):lG c0 Z Z.size []:=⟨⟨fun aG bH=>by simp at bH,fun O aD aG t p aI a=>by simp at a⟩,fun aG bH=>by simp at bH⟩
theorem Sep.perm{c0 Z:U}{bH d:List fA}(c8:Sep c0 Z bH)(p:bH.Perm d):Sep c0 Z d:=by
 have f:bH.Pairwise fun aG t=>∀ p aI:Addr,aG.1=some p→t.1=some aI→p.block ≠ aI.block:=by
  refine List.pairwise_iff_getElem.mpr fun O aD a8 c i p aI a b N=>?_
  have:=c8.two O aD _ _ p aI (List.getElem?_eq_getElem a8) (List.getElem?_eq_getElem c) a b N
  omega
 have g:d.Pairwise fun aG t=>∀ p aI:Addr,aG.1=some p→t.1=some aI→p.block ≠ aI.block:=
  (p.pairwise_iff fun {L aT} h p aI a b N=>h aI p b a N.symm).mp f
 refine⟨fun aG bH=>c8.one aG (p.mem_iff.mpr bH),fun O aD aG t p aI a b f1 f2 N=>?_⟩
 obtain⟨a8,a⟩:=List.getElem?_eq_some_iff.mp a
 obtain⟨c,b⟩:=List.getElem?_eq_some_iff.mp b
 have e:=List.pairwise_iff_getElem.mp g
 rcases Nat.lt_trichotomy O aD with a1 | a1 | a1
 ·exact absurd N (e O aD a8 c a1 p aI (by rw [a];exact f1) (by rw [b];exact f2))
 ·exact a1
 ·exact absurd N.symm (e aD O c a8 a1 aI p (by rw [b];exact f2) (by rw [a];exact f1))
theorem Sep.OB{c0 Z aB:U}{bH:List fA}(c8:Sep c0 Z bH)(R:bK Z aB):Sep c0 aB bH:=
 ⟨fun aG a=>let ⟨a1,b,c⟩:=c8.one aG a;⟨a1,b,c.imp id fun ⟨K,a9,a,b,aQ,c⟩=>⟨K,a9,a,b,aQ.aU R,c⟩⟩,c8.two⟩
theorem k5{dF:Type}(L:dF)(l r:List dF):(l ++ L :: r).Perm (L :: (l ++ r)):=List.perm_middle
theorem H7{dF:Type}(l1 cQ lE e7 kM a b eH:dF)(r:List dF):(l1 :: cQ :: lE :: e7 :: kM :: a :: b :: eH :: r).Perm (l1 :: lE :: kM :: b :: cQ :: e7 :: a :: eH :: r):=
 .cons _ ((k5 lE [cQ] _).trans (.cons _ ((k5 kM [cQ,e7] _).trans (.cons _ (k5 b [cQ,e7,a] _)))))
noncomputable def lH(L:Int):List Nat:=if 1≤L∧L≤1000 then e6.take L.toNat else []
noncomputable def mA(L:Int):List Nat:=if 0≤L∧L < 1000 then aN (eP (L.toNat+1)).P else []
noncomputable def mB(L:Int):List Nat:=if 0≤L∧L < 1000 then aN (eP (L.toNat+1)).Y else []
theorem z1(L:Int):(lH L).length≤17592186044336:=by
 unfold lH;split
 ·rw [nX (by omega)];omega
 ·exact Nat.zero_le _
theorem BH(L:Int):(mA L).length≤17592186044336:=by
 unfold mA;split
 ·exact Nat.le_trans (xZ (n:=L.toNat+1) (by omega)).1 (by decide)
 ·exact Nat.zero_le _
theorem BI(L:Int):(mB L).length≤17592186044336:=by
 unfold mB;split
 ·exact Nat.le_trans (xZ (n:=L.toNat+1) (by omega)).2.2.1 (by decide)
 ·exact Nat.zero_le _
theorem H8(bW a8:Nat)(Z:U):h7 bW a8 Z [(none,0,0)] [[]]:=h7.one (gC.nil bW a8 Z)
theorem z2{L:Int}{Z:U}{aH:S→Nat→Nat→Int→U→Prop}(g:∀ a c N aB,bK Z aB→h7 Z.size aB.size aB [(a,(lH L).length,c)] [lH L]→aH a (lH L).length c N aB):
  a4 lS.id #[.int .i64 L] Z fun v aB=>cW v fun aT=>cV aT fun d eK=>aR d fun a l c=>cV eK fun e f=>a0 .i64 e fun L=>b9 f (aH a l c L aB):=by
 by_cases b:1≤L∧L≤1000
 ·obtain⟨n,rfl⟩:∃ n:Nat,L=(n:Int):=⟨L.toNat,by omega⟩
  have N:lH (n:Int)=e6.take n:=by unfold lH;rw [if_pos b,Int.toNat_natCast]
  rw [N] at g
  refine cD (HL Z (by omega) (by omega)) fun v aB ⟨R,aG⟩=>?_
  exact aG.iM fun a c r O=>g a c _ aB R (h7.one (gC.o2 r rfl (Nat.le_refl _) (Nat.le_refl _)))
 ·have N:lH L=[]:=if_neg b
  rw [N] at g
  exact Ow (by omega) fun aB R=>g none 0 1 aB R (H8 _ _ _)
theorem BJ{L:Int}{Z:U}{aH:S→Nat→Nat→S→Nat→Nat→Int→U→Prop}(g:∀ a c K aZ N aB,bK Z aB→h7 Z.size aB.size aB [(a,(mA L).length,c),(K,(mB L).length,aZ)] [mA L,mB L]→aH a (mA L).length c K (mB L).length aZ N aB):
  a4 jA.id #[.int .i64 L] Z fun v aB=>cW v fun aT=>cV aT fun h eK=>aR h fun a l c=>cV eK fun i j=>aR i fun K m aZ=>cV j fun k o=>a0 .i64 k fun L=>b9 o (aH a l c K m aZ L aB):=by
 by_cases b:0≤L∧L < 1000
 ·obtain⟨n,rfl⟩:∃ n:Nat,L=(n:Int):=⟨L.toNat,by omega⟩
  have d:mA (n:Int)=aN (eP (n+1)).P:=by unfold mA;rw [if_pos b,Int.toNat_natCast]
  have e:mB (n:Int)=aN (eP (n+1)).Y:=by unfold mB;rw [if_pos b,Int.toNat_natCast]
  rw [d,e] at g
  refine cD (HO Z (by omega)) fun v aB ⟨R,aG⟩=>?_
  exact aG.elim fun a c K aZ f _ _=>g a c K aZ _ aB R f
 ·have d:mA L=[]:=if_neg b
  have e:mB L=[]:=if_neg b
  rw [d,e] at g
  refine Nw (by omega) ?_
  exact g none 0 none 0 1 Z (bK.refl _) (h7.pair (R:=Z.size) (Nat.le_refl _) (Nat.le_refl _) (Or.inl ⟨gC.nil _ _ _,gC.nil _ _ _⟩))
def BK(L bS:Int)(aC:List Nat):Prop:=((L < 1∨L > 53∨bS < -64∨bS > 971)∧aC=[])∨∃ (K N m R:Nat) (up:Bool),L=((K+1:Nat):Int)∧bS=(N:Int) - 64∧K < 53∧N < 1036∧rA K N m R up∧aC=aN R
theorem H9(L bS:Int):∃ aC,BK L bS aC:=by
 by_cases a:L < 1∨L > 53∨bS < -64∨bS > 971
 ·exact⟨[],Or.inl ⟨a,rfl⟩⟩
 ·obtain⟨K,rfl⟩:∃ K:Nat,L=((K+1:Nat):Int):=⟨(L - 1).toNat,by omega⟩
  obtain⟨N,rfl⟩:∃ N:Nat,bS=(N:Int) - 64:=⟨(bS+64).toNat,by omega⟩
  obtain⟨m,R,up,bA⟩:=bin (K:=K) (N:=N) (by omega) (by omega)
  exact⟨_,Or.inr ⟨K,N,m,R,up,rfl,rfl,by omega,by omega,bA,rfl⟩⟩
theorem BL{L bS:Int}{aC:List Nat}(Z:BK L bS aC):aC.length≤17592186044336:=by
 rcases Z with ⟨_,rfl⟩ | ⟨K,N,m,R,up,_,_,a3,c,bA,rfl⟩
 ·exact Nat.zero_le _
 ·obtain⟨T,a⟩:∃ T,T=K+1+N - 64:=⟨_,rfl⟩
  obtain⟨aE,d⟩:∃ aE,aE=320+(T+4):=⟨_,rfl⟩
  obtain⟨d0,iC⟩:=bA.iC
  have a1:=(DS bA a3 c (Nat.le_refl 320) (by decide) a d).1
  have b:=HX (T:=T) a iC.oQ (show 64≤N+aE by omega) (by omega)
  rw [a1] at b
  have e:fK R:=jV (R:=T+1) (Nat.lt_of_le_of_lt b (Nat.pow_lt_pow_right (by decide) (by omega))) (by omega)
  exact Nat.le_trans e (by decide)
theorem BM{aY aS:Int}{aC:List Nat}{Z:U}{h:TypeId}{dR:List Value}(i:BK aY aS aC)(f:dR.length=3){aH:Addr→Int→U→Prop}
  (g:∀ aI a c aE cK N aB,bK Z aB→h7 Z.size aB.size aB [(a,aC.length,c)] [aC]→eM aB aI [.int .u64 aE,.slice a aC.length c,.int .i64 cK]→aH ⟨aI,0,none⟩ N aB) :
  a4 kY.id #[.int .i64 aY,.int .i64 aS] Z fun v j=>cW v fun k=>cV k fun l n=>eQ l fun o=>cV o fun p q=>a0 .u64 p fun r=>cV q fun s t=>aR s fun u w x=>cV t fun y z=>a0 .i64 y fun A=>b9 z <| cV n fun B C=>a0 .i64 B fun D=>b9 C <|
   dX j h dR fun b E=>cM E (b.add 0) (.int .u64 r) fun F=>cM F (b.add 1) (.slice u w x) fun G=>cM G (b.add 2) (.int .i64 A) fun H=>aH b D H:=by
 rcases i with ⟨I,rfl⟩ | ⟨K,N,m,R,up,rfl,rfl,a3,J,bA,rfl⟩
 ·refine cD (Ok I) fun v P ⟨e,Q⟩=>?_
  exact H2 f Q fun aI aB c1 _ aQ=>g aI _ _ _ _ _ aB (e.trans c1) (H8 _ _ _) aQ
 ·have d:=Hn (K:=K) (N:=N) Z a3 J bA.pick (by rw [← bA.eR];exact bA.told)
  rw [← bA.eR] at d
  refine cD d fun v P d=>?_
  obtain⟨e,eI,eN,T,V⟩:=d
  exact H2 f T fun aI aB c1 Qx aQ=>g aI eI eN _ _ _ aB (e.trans c1) (((h7.one (gC.o2 V rfl (Nat.le_refl _) (Nat.le_refl _))).aU c1).wide (Nat.le_refl _) c1.le) aQ
theorem Ia{L:Int}{Z:U}{aH:S→Nat→Nat→Int→U→Prop}(g:∀ a c N aB,bK Z aB→cJ aB a c (lH L)→aH a (lH L).length c N aB):
  a4 nZ.id #[.int .i64 L] Z fun v aB=>cW v fun aT=>cV aT fun d eK=>aR d fun a l c=>cV eK fun e f=>a0 .i64 e fun L=>b9 f (aH a l c L aB):=by
 by_cases b:1≤L∧L≤1000
 ·obtain⟨n,rfl⟩:∃ n:Nat,L=(n:Int):=⟨L.toNat,by omega⟩
  have N:lH (n:Int)=e6.take n:=by unfold lH;rw [if_pos b,Int.toNat_natCast]
  rw [N,nX (show n≤1000 by omega)] at g
  exact Oo rfl (by omega) (by omega) fun a c aB R r=>g a c 0 aB R r.eS
 ·have N:lH L=[]:=if_neg b
  rw [N] at g
  exact Oq (by omega) (g none 0 1 Z (bK.refl _) (cJ.nil _ _ _))
theorem Ib{L:Int}{Z:U}{aH:S→Nat→Nat→S→Nat→Nat→Int→U→Prop}(g:∀ a c K aZ N aB,bK Z aB→cJ aB a c (mA L)→cJ aB K aZ (mB L)→aH a (mA L).length c K (mB L).length aZ N aB):
  a4 kP.id #[.int .i64 L] Z fun v aB=>cW v fun aT=>cV aT fun f eK=>aR f fun a l c=>cV eK fun h i=>aR h fun K m aZ=>cV i fun j k=>a0 .i64 j fun L=>b9 k (aH a l c K m aZ L aB):=by
 by_cases b:0≤L∧L < 1000
 ·obtain⟨n,rfl⟩:∃ n:Nat,L=(n:Int):=⟨L.toNat,by omega⟩
  have d:mA (n:Int)=aN (eP (n+1)).P:=by unfold mA;rw [if_pos b,Int.toNat_natCast]
  have e:mB (n:Int)=aN (eP (n+1)).Y:=by unfold mB;rw [if_pos b,Int.toNat_natCast]
  rw [d,e] at g
  exact Ou rfl (by omega) fun a c K aZ aB R r aG=>g a c K aZ 0 aB R r aG
 ·have d:mA L=[]:=if_neg b
  have e:mB L=[]:=if_neg b
  rw [d,e] at g
  exact Ov (by omega) (g none 0 none 0 1 Z (bK.refl _) (cJ.nil _ _ _) (cJ.nil _ _ _))
theorem Ic{aY aS:Int}{aC:List Nat}{Z:U}(b:BK aY aS aC){aH:Int→S→Nat→Nat→Int→Int→U→Prop}(g:∀ aE a c cK N aB,bK Z aB→cJ aB a c aC→aH aE a aC.length c cK N aB):
  a4 n0.id #[.int .i64 aY,.int .i64 aS] Z fun v aB=>cW v fun d=>cV d fun e f=>a0 .u64 e fun h=>cV f fun i j=>aR i fun k l n=>cV j fun o p=>a0 .i64 o fun q=>cV p fun s t=>a0 .i64 s fun u=>b9 t (aH h k l n q u aB):=by
 rcases b with ⟨w,rfl⟩ | ⟨K,N,m,R,up,rfl,rfl,a3,x,bA,rfl⟩
 ·exact OA w (g 0 none 0 0 1 Z (bK.refl _) (cJ.nil _ _ _))
 ·exact Oz bA a3 x rfl rfl fun a c aB eR r=>g _ a c _ _ aB eR r.eS
theorem sD{aC:List Nat}(Z:aC.length≤17592186044336):∀ L ∈ [aC],L.length≤17592186044336:=fun L a=>by
 rw [List.mem_singleton] at a;rw [a];exact Z
theorem BN{aC aX:List Nat}(Z:aC.length≤17592186044336)(aB:aX.length≤17592186044336):∀ L ∈ [aC,aX],L.length≤17592186044336:=fun L a=>by
 simp only [List.mem_cons,List.not_mem_nil,or_false] at a
 rcases a with N | N <;> rw [N] <;> assumption
theorem sE{bW a8:Nat}{Z:U}{aG:fA}{aC:List Nat}(f:h7 bW a8 Z [aG] [aC]):cJ Z aG.1 aG.2.2 aC:=(f.at_ 0 aG aC rfl rfl).rd
theorem Ie:lH 5=[1,1,1,3,31]:=by unfold lH;rw [if_pos (by decide)];exact DH
theorem OC{aY aS b F:Int}{c0 Z:U}{d:S}{e:Nat}{aC:List Nat}(G:bK c0 Z)(H:lG c0 Z Z.size [(d,aC.length,e)]):
  rB.a5.t (fun v aB=>bK c0 aB∧v=.bool true) aY aS b F d aC.length e Z:=by
 obtain⟨eF,a⟩:=H9 b F
 obtain⟨Q5,f⟩:=H9 b aS
 unfold rB.a5.t
 refine z2 fun aM aK RB a1 cC f1=>?_
 have I:=H.push cC G f1 (sD (z1 _))
 have J:=G.trans cC
 refine z2 fun bO bN RC RD g f2=>?_
 have V:=I.push g J f2 (sD (z1 _))
 have Qx:=J.trans g
 refine z2 fun c9 cZ RE RF h f3=>?_
 have Qy:=V.push h Qx f3 (sD (z1 _))
 have Qz:=Qx.trans h
 refine z2 fun eI eN RG RH i f4=>?_
 have QA:=Qy.push i Qz f4 (sD (z1 _))
 have QB:=Qz.trans i
 refine BJ fun bE bD Q6 d5 RI RJ j f5=>?_
 have QC:=QA.push j QB f5 (BN (BH _) (BI _))
 have QD:=QB.trans j
 refine BJ fun bG bI Q7 d6 RK RL k f6=>?_
 have QE:=QC.push k QD f6 (BN (BH _) (BI _))
 have QF:=QD.trans k
 refine BJ fun bX bY Q8 d7 RM RN l f7=>?_
 have QG:=QE.push l QF f7 (BN (BH _) (BI _))
 have QH:=QF.trans l
 refine BJ fun b6 b7 Q9 d8 RO RP m f8=>?_
 have QI:=QG.push m QH f8 (BN (BH _) (BI _))
 have QJ:=QH.trans m
 refine BM a rfl fun RQ Ra Rb RR RS RT fV n f10 Rc=>?_
 have QK:=QI.push n QJ f10 (sD (BL a))
 have QL:=QJ.trans n
 refine BM a rfl fun RU Rd Re RV RW RX RY o f11 Rf=>?_
 have QM:=QK.push o QL f11 (sD (BL a))
 have QN:=QL.trans o
 refine BM f rfl fun RZ Rg Rh R0 R1 R2 R3 q f12 Ri=>?_
 have QO:=QM.push q QN f12 (sD (BL f))
 have QP:=QN.trans q
 refine BM a rfl fun R4 Rj Rk R5 R6 R7 R8 r f13 Rl=>?_
 have QQ:=QO.push r QP f13 (sD (BL a))
 have Rm:=QP.trans r
 refine Ia fun at_ R9 Sa Sb aL rt=>?_
 refine Ia fun Sc hU iA Sd b3 Rn=>?_
 refine Ib fun ap Se Sf Sg QR Sh eE Ro Rp=>?_
 refine Ib fun mL mM Si Sj Sk Sl fY Rq dH=>?_
 refine Ic a fun Sm Sn So Sp Sq Sr Rr Rs=>?_
 refine Ic f fun wd m5 m6 Ss St Rt QS rd=>?_
 have s:=Rr.trans QS
 have u:=fY.trans s
 have QT:=eE.trans u
 have QU:=b3.trans QT
 have w:=aL.trans QU
 have x:=w
 have y:=r.trans x
 have z:=q.trans y
 have A:=o.trans z
 have B:=n.trans A
 have C:=m.trans B
 have D:=l.trans C
 have E:=k.trans D
 have QV:=j.trans E
 have QW:=i.trans QV
 have QX:=h.trans QW
 have Ru:=g.trans QX
 have T:=rt.aU QU
 have dO:=Rn.aU QT
 have P:=Ro.aU u
 have Q:=Rp.aU u
 have Rv:=Rq.aU s
 have Rw:=dH.aU s
 have aO:=Rs.aU QS
 have QY:=QQ.move w
 have oG:=Rm.trans w
 refine kO ((sE f1).aU Ru) T rfl rfl ?_
 refine hO (fun N=>by cases N) fun _=>?_
 refine kO ((sE f2).aU QX) T rfl rfl ?_
 refine hO (fun N=>by cases N) fun _=>?_
 refine kO ((sE f3).aU QW) dO rfl rfl ?_
 refine hO (fun N=>by cases N) fun _=>?_
 refine kO ((sE f4).aU QV) T rfl rfl ?_
 refine hO (fun N=>by cases N) fun _=>?_
 refine kO (f5.fst.aU E) P rfl rfl ?_
 refine hO (fun N=>by cases N) fun _=>?_
 refine kO (f6.fst.aU D) P rfl rfl ?_
 refine hO (fun N=>by cases N) fun _=>?_
 refine kO (f7.fst.aU C) Rv rfl rfl ?_
 refine hO (fun N=>by cases N) fun _=>?_
 refine kO (f8.fst.aU B) P rfl rfl ?_
 refine hO (fun N=>by cases N) fun _=>?_
 unfold rB.bM.t
 refine kO (f5.snd.aU E) Q rfl rfl ?_
 refine hO (fun N=>by cases N) fun _=>?_
 refine kO (f6.snd.aU D) Q rfl rfl ?_
 refine hO (fun N=>by cases N) fun _=>?_
 refine kO (f7.snd.aU C) Rw rfl rfl ?_
 refine hO (fun N=>by cases N) fun _=>?_
 refine kO (f8.snd.aU B) Q rfl rfl ?_
 refine hO (fun N=>by cases N) fun _=>?_
 have QZ:=Rc.aU A
 have Q0:=Rf.aU z
 have Q1:=Ri.aU y
 have Q2:=Rl.aU x
 refine mE QZ rfl ?_
 refine kO ((sE f10).aU A) aO rfl rfl ?_
 refine hO (fun N=>by cases N) fun _=>?_
 refine mE Q0 rfl ?_
 refine kO ((sE f11).aU z) aO rfl rfl ?_
 refine hO (fun N=>by cases N) fun _=>?_
 refine mE Q1 rfl ?_
 refine kO ((sE f12).aU y) rd rfl rfl ?_
 refine hO (fun N=>by cases N) fun _=>?_
 refine mE Q2 rfl ?_
 refine kO ((sE f13).aU x) aO rfl rfl ?_
 refine hO (fun N=>by cases N) fun _=>?_
 unfold rB.cF.t
 refine mE QZ rfl ?_
 refine mE Q0 rfl ?_
 refine mE Q1 rfl ?_
 refine mE Q2 rfl ?_
 have Rx:=(QY.1).perm (.cons _ (.cons _ (.cons _ (.cons _ (.cons _ (H7 _ _ _ _ _ _ _ _ _))))))
 have a3:=QY.2
 clear H I V Qy QA QC QE QG QI QK QM QO QQ
 refine rJ lX [(d,aC.length,e),(aM,(lH aY).length,aK),(bO,(lH aY).length,bN),(c9,(lH aS).length,cZ),(eI,(lH aY).length,eN),(bE,(mA aY).length,bD),(bG,(mA aY).length,bI),(bX,(mA aS).length,bY),(b6,(mA aY).length,b7),(Q6,(mB aY).length,d5),(Q7,(mB aY).length,d6),(Q8,(mB aS).length,d7),(Q9,(mB aY).length,d8),(Ra,eF.length,Rb),(Rd,eF.length,Re),(Rg,Q5.length,Rh),(Rj,eF.length,Rk)] rfl (fun _ _=>trivial) fun Su Q3 Q4=>?_
 have Ry:=Q3.n7 (c:=17) (by show 17≤11728124029610;decide) (Nat.le_refl 17)
 refine cD (MR (c0:=c0) (oG.trans Q4) Ry rfl (by show 17≤10000;decide) (Rx.OB Q4) fun p QR=>?_) fun v Sv ⟨c3,Rz⟩=>?_
 ·cases QR
  refine⟨Q3.lt,fun aG bH aI eq=>?_⟩
  have RA:aG ∈ _:=(List.Perm.mem_iff (.cons _ (.cons _ (.cons _ (.cons _ (.cons _ (H7 _ _ _ _ _ _ _ _ _))))))).mpr bH
  have:=a3 aG RA aI eq
  show aI.block ≠ Rt.size
  omega
 ·subst c3
  exact dB rfl ⟨Rz,rfl⟩
theorem OD{aY aS a b:Int}{Z:U}(g:-9223372036854775808≤aY∧aY < 9223372036854775808)(h:-9223372036854775808≤aS∧aS < 9223372036854775808)(i:-9223372036854775808≤a∧a < 9223372036854775808)(j:-9223372036854775808≤b∧b < 9223372036854775808):
  a4 rB.id #[.int .i64 aY,.int .i64 aS,.int .i64 a,.int .i64 b] Z fun v aB=>bK Z aB∧v=.bool true:=by
 refine rB.ok ?_
 unfold rB.t rB.aP.t
 refine z2 fun aM aK k a1 cC f1=>?_
 have e:=(lG.nil Z Z).push cC (bK.refl _) f1 (sD (z1 _))
 refine Nv fun l c=>?_
 refine hO (fun N=>by cases N) fun _=>?_
 refine xC [1,1,1,3,31] (by rfl) (by simp) (by simp) fun m f d=>?_
 have pM:=(sE f1).aU (c.trans d)
 rw [Ie] at pM
 refine kO pM (f.rd (by simp)) (by rw [Ie]) rfl ?_
 refine hO (fun N=>by cases N) fun _=>?_
 exact OC (cC.trans (c.trans d)) (e.move (c.trans d))
end Go.Proofs.YtjijdlkpmngolaaGreat.G
