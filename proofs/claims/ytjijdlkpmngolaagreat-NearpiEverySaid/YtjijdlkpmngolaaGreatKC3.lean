import Derived.LoopNIn
import Derived.TacticsIn
import Derived.RangeFuncKeeps
import Derived.RangeFuncCalls
import Derived.Shelf.Abstract
import Derived.RangeFuncFrom
import Derived.Test.YtjijdlkpmngolaaGreatKA
import Derived.Test.YtjijdlkpmngolaaGreatKM
import Derived.Test.YtjijdlkpmngolaaGreatKQ0
import Derived.Test.YtjijdlkpmngolaaGreatKQ1
import Derived.Test.YtjijdlkpmngolaaGreatKQ2
import Derived.Test.YtjijdlkpmngolaaGreatKQ3
import Derived.Test.YtjijdlkpmngolaaGreatKQ4
import Derived.Test.YtjijdlkpmngolaaGreatKQ5
import Derived.Test.YtjijdlkpmngolaaGreatKQ6
import Derived.Test.YtjijdlkpmngolaaGreatKQ7
import Derived.Test.YtjijdlkpmngolaaGreatKE
import Derived.Test.YtjijdlkpmngolaaGreatKB
import Derived.Test.YtjijdlkpmngolaaGreatKC0
import Derived.Test.YtjijdlkpmngolaaGreatKC1
import Derived.Test.YtjijdlkpmngolaaGreatKC2
namespace Go.Gv
set_option linter.unusedVariables false
set_option linter.unusedSimpArgs false
variable {P:Program} {E:Env}
def n1(F:Fence):Prop:=F=Fence.wide∨∃ l,F=Fence.wide.inRound l
theorem n1.fn{F:Fence}(Z:n1 F)(f:FuncId):F.fn f:=by
 rcases Z with rfl | ⟨l,rfl⟩ <;> exact trivial
theorem n1.depth{F:Fence}(Z:n1 F)(m:Nat):F.depth.isSome=true→1≤m:=by
 rcases Z with rfl | ⟨l,rfl⟩ <;> intro O <;> cases O
theorem n1.calls{F:Fence}(Z:n1 F){m:Nat}{f:FuncId}{args:Array Value}{aA:World}{Y:Ending→World→Prop}(c:Calls P f args aA Y):CallsIn F m P f args aA Y:=by
 rcases Z with rfl | ⟨l,rfl⟩
 ·exact callsIn_wide.2 c
 ·exact CallsIn.inRound l (callsIn_wide.2 c)
def o2(P:Program)(v:Value)(args:Array Value)(Z:U)(aF:Value→U→Prop):Prop:=
 ∃ l,v=.func (.yield l) #[] #[]∧∀ aA:World,aA.heap=Z→YieldAt Fence.wide 0 P l args aA fun O cA=>∃ v,O=.returned v∧eJ aA cA∧aF v cA.heap
theorem o2.mono{v:Value}{args:Array Value}{Z:U}{aF a:Value→U→Prop}(b:∀ v Z,aF v Z→a v Z)(c:o2 P v args Z aF):o2 P v args Z a:=by
 obtain⟨l,O,c⟩:=c
 refine⟨l,O,fun aA d=>?_⟩
 obtain⟨fn,tmps,assign,body,r,S⟩:=c aA d
 exact⟨fn,tmps,assign,body,r,S.mono fun O cA ⟨v,aY,e,f⟩=>⟨v,aY,e,b _ _ f⟩⟩
def zE(aN:Oper):Bool:=match aN.op with
 | .call c=>(match c.callee with
  | .value (.tmp _)=>true
  | _=>false)
 | .makeFunc (.func _) _ _=>true
 | _=>false
def o3(aN:Oper):Bool:=match aN.op with
 | .defer _=>true
 | _=>false
def wP(P:Program)(E:Env)(aN:Oper)(X:Fr)(Z:U)(aF:Value→U→Prop):Prop:=
 match aN.op with
 | .call c=>(match c.callee with
  | .value (.tmp t)=>o2 P (X t) (c.args.toList.map (cS X)).toArray Z fun v aB=>p5 E aN.type v fun a=>aF a aB
  | _=>mG P E false 0 aN X Z aF)
 | .makeFunc (.func f) first captured=>aF (.func (.func f) (first.toList.map (cS X)).toArray (captured.toList.map (cS X)).toArray) Z
 | _=>mG P E false 0 aN X Z aF
def pU(P:Program)(E:Env):List Oper→Fr→U→(Fr→U→Prop)→Prop
 | [],X,Z,aF=>aF X Z
 | aN :: rest,X,Z,aF=>match aN.guard with
  | none=>wP P E aN X Z fun v aB=>pU P E rest (kG X aN.dst v) aB aF
  | some _=>False
def e7(P:Program)(E:Env):Code→(a2→Fr→U→Prop)→Fr→U→Prop
 | .skip,Q,X,Z=>Q .normal X Z
 | .region id ops draw,Q,X,Z=>bif ops.toList.any zE then pU P E ops.toList X Z (Q .normal) else den P E (.region id ops draw) Q X Z
 | .seq a K,Q,X,Z=>e7 P E a (a2.then (e7 P E K Q) Q) X Z
 | .cond c a K,Q,X,Z=>match cS X c with
  | .bool t=>cond t (e7 P E a Q (u1 X c true) Z) (e7 P E K Q (u1 X c false) Z)
  | _=>False
 | .block id c,Q,X,Z=>e7 P E c (a2.inBlock id Q) X Z
 | .loop c,Q,X,Z=>∃ n,iter (fun b=>e7 P E c (a2.then b Q)) n X Z
 | .exit id,Q,X,Z=>Q (.exit id) X Z
 | .ret,Q,X,Z=>Q .ret X Z
 | .rangeFunc ..,_,_,_=>False
 | .scope _,_,_,_=>False
 | .label _,Q,X,Z=>Q .normal X Z
 | .goto _,_,_,_=>False
 | .refuse _,_,_,_=>False
theorem Ko{aN:Oper}{X:Fr}{Z:U}{aF c:Value→U→Prop}(b:∀ v Z,aF v Z→c v Z)(a:wP P E aN X Z aF):wP P E aN X Z c:=by
 unfold wP at *
 split at a
 ·split at a
  ·exact o2.mono (fun v aB g=>Ac (fun d=>b d aB) g) a
  ·exact xX b a
 ·exact b _ _ a
 ·exact xX b a
theorem Fl:∀ {l:List Oper} {X:Fr} {Z:U} {aF b:Fr→U→Prop},(∀ X Z,aF X Z→b X Z)→pU P E l X Z aF→pU P E l X Z b
 | [],_,_,_,_,c,a=>c _ _ a
 | aN :: rest,X,Z,aF,b,c,a=>by
  unfold pU at *
  split at a
  ·exact Ko (fun v aB g=>Fl c g) a
  ·cases a
theorem zF:∀ {c:Code} {Q d:a2→Fr→U→Prop} {X:Fr} {Z:U},(∀ O X Z,Q O X Z→d O X Z)→e7 P E c Q X Z→e7 P E c d X Z:=by
 intro c
 induction c with
 | skip=>intro Q d X Z b a;exact b _ _ _ a
 | label l=>intro Q d X Z b a;exact b _ _ _ a
 | ret=>intro Q d X Z b a;exact b _ _ _ a
 | exit id=>intro Q d X Z b a;exact b _ _ _ a
 | region id ops draw=>
  intro Q d X Z b a
  unfold e7 at *
  cases j:ops.toList.any zE with
  | true=>rw [j] at a;simp only [cond_true] at a ⊢;exact Fl (b _) a
  | false=>rw [j] at a;simp only [cond_false] at a ⊢;exact vH b a
 | seq N aQ e f=>
  intro Q d X Z b a
  refine e (fun O k aB g=>?_) a
  cases O with
  | normal=>exact f b g
  | exit id=>exact b _ _ _ g
  | ret=>exact b _ _ _ g
 | cond c N aQ e f=>
  intro Q d X Z b a
  simp only [e7] at *
  split at a
  ·rename_i t O
   cases t with
   | true=>exact e b a
   | false=>exact f b a
  ·cases a
 | block id c bO=>
  intro Q d X Z b a
  refine bO (fun O k aB g=>?_) a
  cases O with
  | normal=>exact b _ _ _ g
  | ret=>exact b _ _ _ g
  | exit o=>
   simp only [a2.inBlock] at *
   cases m:Nat.beq o id with
   | true=>rw [m] at g;exact b _ _ _ g
   | false=>rw [m] at g;exact b _ _ _ g
 | loop c bO=>
  intro Q d X Z b a
  obtain⟨n,a⟩:=a
  refine⟨n,?_⟩
  have key:∀ n X Z,iter (fun h=>e7 P E c (a2.then h Q)) n X Z→iter (fun h=>e7 P E c (a2.then h d)) n X Z:=by
   intro n
   induction n with
   | zero=>intro X Z g;exact g
   | succ n p=>
    intro X Z g
    refine bO (fun O k aB i=>?_) g
    cases O with
    | normal=>exact p _ _ i
    | exit id=>exact b _ _ _ i
    | ret=>exact b _ _ _ i
  exact key n X Z a
 | _=>intro Q d X Z b a;exact a
def kP:Code→Bool
 | .region _ ops draw=>!draw
 | .seq a K=>kP a && kP K
 | .cond _ a K=>kP a && kP K
 | .block _ c=>kP c
 | .loop c=>kP c
 | .scope c=>kP c
 | _=>true
def kQ(E:Env)(n:Nat):Code→Bool
 | .region _ ops draw=>rR E n ops draw && ops.toList.all (fun aN=>!o3 aN) && (!ops.toList.any zE || !draw)
 | .seq a K=>kQ E n a && kQ E n K
 | .cond _ a K=>kQ E n a && kQ E n K
 | .block _ c=>kQ E n c
 | .loop c=>kQ E n c
 | .scope c=>kQ E n c
 | _=>true
theorem zG{F:Fence}{a:Operand→Value}{aN:Oper}(Z:o3 aN=false):aN.semAt F.round a=execOp a aN:=
 Oper.semAt_eq _ _ _ fun c O=>by unfold o3 at Z;rw [O] at Z;cases Z
theorem Fm{F:Fence}(b:n1 F){m:Nat}{md:Bool}{cQ:Nat}{ops:Array Oper}{aN:Oper}{a:Act}{aA:World}{h:Value→U→Prop}(bI:eZ P E md cQ ops aN a aA.heap h)(n:o3 aN=false)
  {aF:Act→World→Prop} {Q:Exit→Act→World→Prop} (d:∀ v cA,eJ aA cA→h v cA.heap→aF (a.put aN.dst v) cA) :
  if Region.wanted aN (yielded ops a.tmps) then aN.wpIn F m P a aA aF Q else(∀ f,aN.about P aA a.eval=some f→F.fn f)∧aF (a.put aN.dst undef) aA:=by
 unfold eZ at bI
 by_cases k:Region.wanted aN (yielded ops a.tmps)=true
 ·rw [if_pos k] at bI ⊢
  refine⟨fun f _=>b.fn f,?_⟩
  rw [zG n]
  have runs:∀ v,mX P aN a aA v→h v aA.heap→aN.uponIn F m P a aF Q ((execOp a.eval aN).run P aA):=by
   intro v o S
   rw [show(execOp a.eval aN).run P aA=_ from o]
   exact d v aA (eJ.refl aA) S
  have l:∀ i,lQ P aN a aA i→(∀ v Z,i v Z→h v Z)→aN.uponIn F m P a aF Q ((execOp a.eval aN).run P aA):=by
   rintro i (⟨v,cA,r,aI,S⟩ | ⟨cA,r,aI,S⟩ | ⟨f,args,r,c⟩) j
   ·rw [r];exact d v cA aI (j _ _ S)
   ·rw [r];exact d undef cA aI (j _ _ S)
   ·rw [r,Oper.uponIn_enter]
    refine⟨b.depth m,b.calls (c.mono ?_)⟩
    rintro O cA ⟨v,rfl,aI,S⟩
    exact d v cA aI (j _ _ S)
  cases e:fV E aN.op with
  | pure=>simp only [e] at bI;obtain⟨v,aY,g⟩:=bI;exact runs v (aY aA) g
  | load=>
   simp only [e] at bI
   obtain⟨v,aY,g⟩:=bI
   refine runs v (aY aA ?_) g
   cases md
   ·exact rfl
   ·exact eN.refl _ _
  | quiet=>
   simp only [e] at bI
   obtain⟨v,aY,g⟩:=bI
   obtain⟨f,args,r,c⟩:=aY aA rfl
   rw [r,Oper.uponIn_enter]
   refine⟨b.depth m,b.calls (c.mono ?_)⟩
   rintro O cA ⟨rfl,aI,S⟩
   exact d v cA aI (by rw [S];exact g)
  | call=>simp only [e] at bI;exact l _ (bI aA rfl) fun v Z S=>S.2
  | act=>simp only [e] at bI;exact l _ (bI aA rfl) fun v Z S=>S
 ·rw [if_neg k] at bI ⊢
  exact⟨fun f _=>b.fn f,d undef aA (eJ.refl aA) bI⟩
theorem Kp{F:Fence}(d:n1 F){m:Nat}{aN:Oper}{c:Call}{t:Nat}(e:aN.op=.call c)(h:c.callee=.value (.tmp t)){X:Fr}{a:Act}(j:a.eval=cS X){aA:World}{aF:Value→U→Prop}
  (b:o2 P (X t) (c.args.toList.map (cS X)).toArray aA.heap aF) {i:Act→World→Prop} {Q:Exit→Act→World→Prop} (k:∀ v cA,eJ aA cA→aF v cA.heap→i (a.put aN.dst v) cA):aN.wpIn F m P a aA i Q:=by
 obtain⟨l,n,b⟩:=b
 obtain⟨fn,tmps,assign,body,r,S⟩:=b aA rfl
 have o:o3 aN=false:=by unfold o3;rw [e]
 refine⟨fun f _=>d.fn f,?_⟩
 rw [zG o,j]
 obtain⟨dst,op,type,pos,after,guard⟩:=aN
 obtain⟨callee,⟨args⟩,oF⟩:=c
 simp only at e h
 subst e;subst h
 have hex:(execOp (cS X) ⟨dst,.call ⟨.value (.tmp t),⟨args⟩,oF⟩,type,pos,after,guard⟩).run P aA=.ok (.round l fn tmps assign body) aA:=by
  have p:(Instr.yield l (List.map (cS X) args).toArray).run P aA=.ok (.round l fn tmps assign body) aA:=r
  simp [execOp,resolve,Deferred.ofValue,cS,invoke,n,p]
 rw [hex,Oper.uponIn_round]
 refine⟨d.depth m,?_⟩
 have q:RoundIn F (m - 1) P l fn tmps assign body aA fun O cA=>∃ v,O=.returned v∧eJ aA cA∧aF v cA.heap:=by
  rcases d with rfl | ⟨s,rfl⟩
  ·exact⟨S.1,fun c c9 _=>S.2 c c9 fun aT b=>by cases b⟩
  ·exact⟨S.1,fun c c9 _=>S.2 c c9 fun aT b=>by cases b⟩
 refine q.mono ?_
 rintro O cA ⟨v,rfl,aI,g⟩
 exact k v cA aI g
theorem Fo(k:hG P E){F:Fence}(g:n1 F){m n:Nat}{ops:Array Oper}{aF:Fr→U→Prop}{Q:Exit→Act→World→Prop}{iQ:World}(o:∀ p q cA,fR n p q→eJ iQ cA→aF p cA.heap→Q .normal q cA):
  ∀ {l:List Oper} {X:Fr} {a:Act} {aA:World},l.all (oD n)=true→l.all (fun aN=>!o3 aN)=true→fR n X a→eJ iQ aA→pU P E l X aA.heap aF→wpListIn F m P ops Q l a aA
 | [],X,a,aA,_,_,d,aI,b=>o X a aA d aI b
 | aN :: rest,X,a,aA,r,e,d,aI,b=>by
  simp only [List.all_cons,Bool.and_eq_true] at r e
  obtain⟨s,u⟩:=r
  obtain⟨w,x⟩:=e
  have e:o3 aN=false:=by simpa using w
  unfold pU at b
  split at b
  ·rename_i y
   have i:Region.wanted aN (yielded ops a.tmps)=true:=by simp [Region.wanted,y]
   have next:∀ v cA,eJ aA cA→pU P E rest (kG X aN.dst v) cA.heap aF→wpListIn F m P ops Q rest (a.put aN.dst v) cA:=
    fun v cA j S=>Fo k g o u x (d.put s v) (aI.trans j) S
   unfold wpListIn
   rw [if_pos i]
   have plain:mG P E false 0 aN X aA.heap (fun v aB=>pU P E rest (kG X aN.dst v) aB aF)→aN.wpIn F m P a aA (wpListIn F m P ops Q rest) Q:=by
    intro b
    have aY:=Fm (P:=P) (E:=E) (m:=m) (ops:=ops) (Q:=Q) (aF:=wpListIn F m P ops Q rest) g (z8 (ops:=ops) k d.cS b i) e next
    rw [if_pos i] at aY;exact aY
   unfold wP at b
   split at b
   ·rename_i c h
    split at b
    ·rename_i t z
     exact Kp g h z d.cS b fun v cA j S=>by
      obtain A:=z0 S
      exact next v cA j A
    ·exact plain b
   ·rename_i f first captured h
    refine⟨fun f _=>g.fn f,?_⟩
    rw [zG e,d.cS]
    have hex:(execOp (cS X) aN).run P aA=.ok (.value (.func (.func f) (first.toList.map (cS X)).toArray (captured.toList.map (cS X)).toArray)) aA:=by
     obtain⟨dst,op,type,pos,after,guard⟩:=aN
     obtain⟨first⟩:=first
     obtain⟨captured⟩:=captured
     simp only at h
     subst h
     simp [execOp,Instr.makeFunc]
    rw [hex]
    exact next _ aA (eJ.refl aA) b
   ·exact plain b
  ·cases b
theorem Kq(i:hG P E){F:Fence}(j:n1 F){m id n:Nat}{ops:Array Oper}(f:rR E n ops false=true)(k:ops.toList.all (fun aN=>!o3 aN)=true){X:Fr}{a:Act}{aA:World}(o:fR n X a){Q:a2→Fr→U→Prop}
  (p:den P E (.region id ops false) Q X aA.heap) {g:Exit→Act→World→Prop} (q:∀ b e cA,fR n b e→eJ aA cA→Q .normal b cA.heap→g .normal e cA) :
  (Code.region id ops false).wpIn F m P g a aA:=by
 obtain⟨l⟩:=ops
 simp only [rR,Bool.and_eq_true] at f
 obtain⟨s,f⟩:=f
 have t:l.all (oD n)=true:=s
 have u:iX P E (o8 E false l) aA.heap.size l l X aA.heap (Q .normal):=p
 have w:=xT i (S:=0) (fun aC=>by simp) t o u
 refine wpIn_region ?_
 have key:∀ (d:List Nat) (a:Act) (c:World),eJ aA c→iF P E (o8 E false l) aA.heap.size l.toArray (fun e aB=>∃ b,fR n b e∧Q .normal b aB) d a c.heap→wpOpsIn F m P l.toArray g d a c:=by
  intro d
  induction d with
  | nil=>intro a c aI ⟨b,r,S⟩;exact q b a c r aI S
  | cons R d bO=>
   intro a c aI S
   unfold wpOpsIn
   simp only [iF] at S
   cases h:l.toArray[R]? with
   | none=>simp only [h] at S ⊢;exact bO a c aI S
   | some aN=>
    simp only [h] at S ⊢
    have x:o3 aN=false:=by
     have aY:=List.all_eq_true.1 k aN (List.mem_of_getElem? (by simpa using h))
     simpa using aY
    exact Fm j S x fun v cA y cV=>bO _ cA (aI.trans y) cV
 rw [List.range_eq_range']
 exact key _ a aA (eJ.refl aA) (by simpa using w)
theorem uR(q:hG P E){F:Fence}(z:n1 F){m n:Nat}:∀ {c:Code} {Q:a2→Fr→U→Prop} {X:Fr} {a:Act} {aA:World} {j:Exit→Act→World→Prop},kQ E n c=true→(F=Fence.wide∨kP c=true)→fR n X a→e7 P E c Q X aA.heap→
  (∀ O f g cA,fR n f g→eJ aA cA→Q O f cA.heap→j O.up g cA)→c.wpIn F m P j a aA:=by
 intro c
 induction c with
 | skip=>intro Q X a aA j h i e b d;exact wpIn_skip (d .normal X a aA e (eJ.refl aA) b)
 | label l=>intro Q X a aA j h i e b d;exact wpIn_label (d .normal X a aA e (eJ.refl aA) b)
 | ret=>intro Q X a aA j h i e b d;exact wpIn_ret (d .ret X a aA e (eJ.refl aA) b)
 | exit id=>intro Q X a aA j h i e b d;exact wpIn_exit (d (.exit id) X a aA e (eJ.refl aA) b)
 | region id ops draw=>
  intro Q X a aA j h i e b d
  unfold kQ at h
  rw [Bool.and_eq_true,Bool.and_eq_true] at h
  obtain⟨⟨p,A⟩,B⟩:=h
  unfold e7 at b
  cases C:ops.toList.any zE with
  | true=>
   rw [C] at b B
   have G:draw=false:=by simpa using B
   subst G
   simp only [cond_true] at b
   have o:ops.toList.all (oD n)=true:=by
    simp only [rR,Bool.and_eq_true] at p;exact p.1
   exact wpIn_region_list (Fo q z (iQ:=aA) (fun f g cA r aI S=>d .normal f g cA r aI S) o A e (eJ.refl aA) b)
  | false=>
   rw [C] at b
   simp only [cond_false] at b
   cases draw with
   | false=>exact Kq q z p A e b fun f g cA r aI S=>d .normal f g cA r aI S
   | true=>
    rcases i with rfl | i
    ·exact wpIn_wide.2 (CG q p e b fun f g cA r aI S=>d .normal f g cA r aI S)
    ·cases i
 | seq N aQ s u=>
  intro Q X a aA j h i e b d
  simp only [kQ,Bool.and_eq_true] at h
  have v:F=Fence.wide∨kP N=true:=i.imp id fun Z=>by simp only [kP,Bool.and_eq_true] at Z;exact Z.1
  have w:F=Fence.wide∨kP aQ=true:=i.imp id fun Z=>by simp only [kP,Bool.and_eq_true] at Z;exact Z.2
  refine wpIn_seq (s h.1 v e b fun O f g cA r aI S=>?_)
  cases O with
  | normal=>exact u h.2 w r S fun H I bL k J s2 T=>d H I bL k J (aI.trans s2) T
  | exit id=>exact d (.exit id) f g cA r aI S
  | ret=>exact d .ret f g cA r aI S
 | cond c N aQ s u=>
  intro Q X a aA j h i e b d
  simp only [kQ,Bool.and_eq_true] at h
  have v:F=Fence.wide∨kP N=true:=i.imp id fun Z=>by simp only [kP,Bool.and_eq_true] at Z;exact Z.1
  have w:F=Fence.wide∨kP aQ=true:=i.imp id fun Z=>by simp only [kP,Bool.and_eq_true] at Z;exact Z.2
  simp only [e7] at b
  split at b
  ·rename_i t x
   have V:a.eval c=.bool t:=by rw [e.cS];exact x
   refine wpIn_cond V ?_
   cases t with
   | true=>simp only [cond_true,xC x] at b;exact s h.1 v e b d
   | false=>simp only [cond_false,xC x] at b;exact u h.2 w e b d
  ·cases b
 | block id c bO=>
  intro Q X a aA j h i e b d
  refine wpIn_block (bO h i e b fun O f g cA r aI S=>?_)
  cases O with
  | normal=>exact d .normal f g cA r aI S
  | ret=>exact d .ret f g cA r aI S
  | exit D=>
   simp only [a2.inBlock] at S
   simp only [a2.up,Exit.inBlock]
   cases o:Nat.beq D id with
   | true=>
    simp only [o,cond_true] at S
    rw [if_pos (Nat.eq_of_beq_eq_true o)]
    exact d .normal f g cA r aI S
   | false=>
    simp only [o,cond_false] at S
    rw [if_neg (fun O=>by subst O;simp at o)]
    exact d (.exit D) f g cA r aI S
 | loop c bO=>
  intro Q X a aA j h i e b d
  obtain⟨S,b⟩:=b
  refine wpIn_loop_rounds S ?_
  have key:∀ S X a k,fR n X a→eJ aA k→iter (fun Nv=>e7 P E c (a2.then Nv Q)) S X k.heap→Code.roundsIn F m P c j S a k:=by
   intro S
   induction S with
   | zero=>intro X a k _ _ Z;exact Z.elim
   | succ S Nw=>
    intro X a k e aI Z
    rw [roundsIn_succ]
    refine bO h i e Z fun O f g cA r y S=>?_
    cases O with
    | normal=>exact Nw f g cA r (aI.trans y) S
    | exit id=>exact d (.exit id) f g cA r (aI.trans y) S
    | ret=>exact d .ret f g cA r (aI.trans y) S
  exact key S X a aA e (eJ.refl aA) b
 | _=>intro Q X a aA j h i e b d;exact b.elim
theorem Bv(b:hG P E){fn:Func}{dE:List ResultVar}(c:fn.results.toList=dE){n:Nat}{X:Fr}{a:Act}{aA:World}(r:fR n X a){Y:Value→U→Prop}
  (S:oC E X aA.heap dE fun bV=>Y (tE bV) aA.heap):∃ v,(results fn a.tmps).run P aA=.ok v aA∧Y v aA.heap:=by
 obtain⟨bV,aY,d⟩:=xV b r S
 refine⟨_,?_,aY⟩
 have e:results fn a.tmps=(fn.results.mapM (vF a.tmps) >>= fun bV=>pure (if Z:bV.size=1 then bV[0] else .tuple bV)):=rfl
 rw [e,Sem.run_bind,Array.mapM_eq_mapM_toList,Sem.run_map,c,d]
 simp only [Result.andThen,Sem.run_pure]
 congr 1
 match bV with
 | []=>rfl
 | [t]=>rfl
 | t :: f :: jO=>simp [tE]
theorem Fp(a:hG P E){f:FuncId}{fn:Func}{c:Code}{dE:List ResultVar}(g:P.funcs[f]?=some fn)(h:fn.body=some c)(i:kQ E fn.ntmps c=true)(e:fn.results.toList=dE)
  {args:List Value} (b:Nat.ble args.length fn.ntmps=true) {Z:U} {Y:Value→U→Prop}
  (j:e7 P E c (a7 E dE Y) (tD args) Z):mB P f args.toArray Z Y:=by
 have b:=Nat.le_of_ble_eq_true b
 intro aA k
 subst k
 refine calls_of_wp g h ?_
 have l:=Ab args fn.ntmps b
 have m:fn.ntmps - args.toArray.size=fn.ntmps - args.length:=by simp
 rw [m]
 refine(wpIn_wide (n:=0)).1 (uR a (.inl rfl) i (.inl rfl) l j fun O o p cA r aI S=>?_)
 cases O with
 | normal=>obtain⟨v,aY,d⟩:=Bv a e r S;exact⟨r.defers,v,aY,v,rfl,aI,d⟩
 | ret=>obtain⟨v,aY,d⟩:=Bv a e r S;exact⟨r.defers,v,aY,v,rfl,aI,d⟩
 | exit id=>exact S.elim
theorem uS{c:Code}{Q:a2→Fr→U→Prop}{X:Fr}{Z:U}(l:List (Nat × Value))(a:xY X l){t:Prop}(b:e7 P E c Q (vI X l) Z=t)(g:t):e7 P E c Q X Z:=by
 rw [← b,Ag a] at g;exact g
theorem Kr{d:Fr→U→Prop}{Q:a2→Fr→U→Prop}:∀ {n:Nat} {c:Code} (_:∀ X Z,d X Z→e7 P E (rest n c) Q X Z) {X:Fr} {Z:U},e7 P E (first n c) (a2.then d Q) X Z→e7 P E c Q X Z:=by
 have key:∀ (c:Code),(∀ X Z,d X Z→e7 P E .skip Q X Z)→∀ {X:Fr} {Z:U},e7 P E c (a2.then d Q) X Z→e7 P E c Q X Z:=by
  intro c b X Z g
  refine zF (fun O X Z g=>?_) g
  cases O with
  | normal=>exact b _ _ g
  | exit R=>exact g
  | ret=>exact g
 have one:∀ (a K:Code),(∀ X Z,d X Z→e7 P E K Q X Z)→∀ {X:Fr} {Z:U},e7 P E a (a2.then d Q) X Z→e7 P E (.seq a K) Q X Z:=by
  intro a K b X Z g
  show e7 P E a (a2.then (e7 P E K Q) Q) X Z
  refine zF (fun O X Z g=>?_) g
  cases O with
  | normal=>exact b _ _ g
  | exit R=>exact g
  | ret=>exact g
 intro n
 induction n with
 | zero=>
  intro c b X Z g
  have f:first 0 c=c:=by cases c <;> rfl
  have h:rest 0 c=.skip:=by cases c <;> rfl
  rw [f] at g;rw [h] at b;exact key c b g
 | succ n bO=>
  intro c b X Z g
  cases c with
  | seq a K=>
   cases n with
   | zero=>exact one a K b g
   | succ m=>
    have e:e7 P E a (a2.then (e7 P E (first (m+1) K) (a2.then d Q)) (a2.then d Q)) X Z:=g
    rw [CS] at e <;> skip
    all_goals show e7 P E a (a2.then (e7 P E K Q) Q) X Z
    all_goals refine zF (fun O X Z g=>?_) e
    all_goals cases O with
     | normal=>exact bO b g
     | exit R=>exact g
     | ret=>exact g
  | _=>exact key _ (by cases n <;> exact b) (by cases n <;> exact g)
theorem Fq(n:Nat){c r:Code}{a:Fr→U→Prop}{Q:a2→Fr→U→Prop}(b:rest n c=r)(d:∀ X Z,a X Z→e7 P E r Q X Z){X:Fr}{Z:U}(g:e7 P E (first n c) (a2.then a Q) X Z):e7 P E c Q X Z:=by
 subst b;exact Kr d g
theorem Ks{c a:Code}{R:Nat}{Q:a2→Fr→U→Prop}(b:c=.block R a){X:Fr}{Z:U}(g:e7 P E a (a2.inBlock R Q) X Z):e7 P E c Q X Z:=by
 subst b;exact g
theorem Kt{c K:Code}{Q:a2→Fr→U→Prop}(T:Nat→Fr→U→Prop)(a:c=.loop K)(aV:∀ X Z,T 0 X Z→False)(bI:∀ n X Z,T (n+1) X Z→e7 P E K (a2.then (T n) Q) X Z)(n:Nat)(X:Fr)(Z:U)(g:T n X Z):e7 P E c Q X Z:=by
 subst a
 refine⟨n,?_⟩
 induction n generalizing X Z with
 | zero=>exact(aV X Z g).elim
 | succ n bO=>
  show e7 P E K (a2.then (iter (fun b=>e7 P E K (a2.then b Q)) n) Q) X Z
  refine zF (fun O X Z g=>?_) (bI n X Z g)
  cases O with
  | normal=>exact bO _ _ g
  | exit R=>exact g
  | ret=>exact g
def sN(v:Value)(aF:Value→Prop):Prop:=aF v
theorem uT{v:Value}{aF:Value→Prop}(Z:sN v aF):∃ N,v=N∧aF N:=⟨v,rfl,Z⟩
theorem Fs{v N:Value}{aF:Value→Prop}(O:v=N)(g:aF N):sN v aF:=by subst O;exact g
def Ku:Code→Code
 | .rangeFunc _ _ a _=>a
 | c=>c
def Kv:Code→Code
 | .rangeFunc _ _ _ K=>K
 | c=>c
def sO(T:Addr→Addr→Addr→Value→U→Prop):a2→Fr→U→Prop
 | .normal,X,Z=>fU (X 1) fun b1=>fU (X 2) fun eY=>fU (X 4) fun dX=>sN (X 14) fun v=>T b1 eY dX v Z
 | _,_,_=>False
def Kw(a b:U→Prop):a2→Fr→U→Prop
 | .normal,_,Z=>a Z
 | .ret,_,Z=>b Z
 | _,_,_=>False
set_option linter.unusedSimpArgs false
variable {P:Program} {E:Env}
structure iO(bA:Nat)(Z aB:U):Prop where
 le:Z.size≤aB.size
 at_:∀ (K:Nat) (aN:Obj),Z[K]?=some aN→(K < bA∨aN.isCells=true)→aB[K]?=some aN
theorem bC.q8{bA:Nat}{Z aB:U}(S:bC Z aB):iO bA Z aB:=⟨S.le,fun K aN O _=>(S.pre K (Array.getElem?_eq_some_iff.1 O).1).trans O⟩
theorem iO.put{bA l:Nat}{Z:U}{aN:Obj}(fH:Obj)(b:Z[l]?=some aN)(e:bA≤l)(c:aN.isCells=false):iO bA Z (Z.setIfInBounds l fH):=by
 refine⟨by simp,fun K cU O a=>?_⟩
 have d:l ≠ K:=by
  rintro rfl
  rcases a with a | a
  ·omega
  ·rw [b] at O;cases O;rw [c] at a;cases a
 rw [Array.getElem?_setIfInBounds_ne d];exact O
theorem bC.push(Z:U)(aN:Obj):bC Z (Z.push aN):=⟨by simp,fun K a=>by rw [Array.getElem?_push,if_neg (by omega)]⟩
def kE(Z aB:U):Prop:=∀ (K:Nat) (aN:Obj),Z[K]?=some aN→aN.isCells=false→aB[K]?=some aN
def q9(P:Program)(l:Nat)(args:Array Value)(Z:U)(aF:Value→U→Prop):Prop:=
 ∀ aA:World,aA.heap=Z→YieldAt Fence.wide 0 P l args aA fun O cA=>∃ v,O=.returned v∧eJ aA cA∧aF v cA.heap
theorem q9.Kx{l:Nat}{args:Array Value}{Z:U}{aF:Value→U→Prop}(aQ:q9 P l args Z aF):o2 P (.func (.yield l) #[] #[]) args Z aF:=⟨l,rfl,aQ⟩
theorem q9.mono{l:Nat}{args:Array Value}{Z:U}{aF a:Value→U→Prop}(b:∀ v Z,aF v Z→a v Z)(c:q9 P l args Z aF):q9 P l args Z a:=by
 intro aA d
 obtain⟨fn,tmps,assign,body,r,S⟩:=c aA d
 exact⟨fn,tmps,assign,body,r,S.mono fun O cA ⟨v,aY,e,f⟩=>⟨v,aY,e,b _ _ f⟩⟩
def Ft{c7:Type}(P:Program)(a:Nat)(b:Array Value)(c:c7→Array Value)(d:U→U→Prop)(dW e:List c7→Prop)(f:Nat)(aV:U):Prop:=
 ∀ (l:Nat) (g h:List c7→U→Prop) (Z:U),bC aV Z→(∀ aI Z aB,g aI Z→bC Z aB→g aI aB)→(∀ aI Z aB,h aI Z→bC Z aB→h aI aB)→
  (∀ pre N aY,g pre aY→pre.length < f→q9 P l (c N) aY fun v aB=>(v=.bool true∧g (pre ++ [N]) aB∧d aY aB)∨(v=.bool false∧h (pre ++ [N]) aB))→
  g [] Z→mB P a (#[.func (.yield l) #[] #[]] ++ b) Z fun _ aB=>(∃ L,dW L∧g L aB)∨(∃ pre,e pre∧h pre aB)
def Ky{c7:Type}(a:U→U→Prop)(b c:List c7→U→Prop)(L:List c7)(bK:World):Exit→Act→World→Prop
 | .normal,_,d=>eJ bK d∧kE bK.heap d.heap∧a bK.heap d.heap∧b L d.heap
 | .ret,_,d=>eJ bK d∧kE bK.heap d.heap∧c L d.heap
 | _,_,_=>False
theorem Kz{c7:Type}{n:Nat}{g:Operand}{x:Array Tmp}{assign body:Code}{Q:Exit→Act→World→Prop}{a:Act}{aA:World}
  {j:Nat} {y:Array Value} (Nz:a.eval g=.func (.func j) #[] y) (NA:∀ args aA,(callFunc j args).run P aA=.ok (.enter j args) aA)
  {z:c7→Array Value} {k:U→U→Prop} {dW H:List c7→Prop} {I:Nat} (NB:Ft P j y z k dW H I aA.heap)
  (J:∀ {m bA aO:U},k m bA→k bA aO→k m aO) (T:∀ Z aB,iO aA.heap.size Z aB→k Z aB) (NC:∀ N,(z N).size=x.size)
  (h s:List c7→U→Prop) (u:∀ aI Z aB,h aI Z→iO aA.heap.size Z aB→h aI aB) (B:∀ aI Z aB,s aI Z→iO aA.heap.size Z aB→s aI aB) (aV:h [] aA.heap) (V:c7→Act)
  (ND:∀ (l:Nat) (N:c7) (bK:World) (aF:Act→World→Prop),aF (V N) bK→
   assign.wpIn (Fence.wide.inRound l) 0 P (Exit.then aF (fun _ _ _=>False)) { tmps:=(x.zip (z N)).foldl (fun t (p,v)=>t.setIfInBounds p v) a.tmps,defers:=[] } bK)
  (NF:∀ (l:Nat) (pre:List c7) (N:c7) (bK:World),h pre bK.heap→pre.length < I→body.wpIn (Fence.wide.inRound l) 0 P (Ky k h s (pre ++ [N]) bK) (V N) bK)
  (NG:∀ (D:Nat) (L:List c7) (bK:World),aA.heap.size≤D→eJ aA bK→dW L→h L bK.heap→bK.heap[D]?=some (.deferred (some []))→Q .normal { a with defers:={ target:=.collected D,args:=#[] } :: a.defers } bK)
  (NH:∀ (D:Nat) (pre:List c7) (bK:World),aA.heap.size≤D→eJ aA bK→H pre→s pre bK.heap→bK.heap[D]?=some (.deferred (some []))→Code.ret.wpIn Fence.wide n P Q { a with defers:={ target:=.collected D,args:=#[] } :: a.defers } bK) :
  (Code.rangeFunc g x assign body).wpIn Fence.wide n P Q a aA:=by
 refine wpIn_rangeFunc ?_
 intro fn NI
 rw [show Fence.wide.round=none from rfl]
 obtain⟨rec,e⟩:∃ rec:LoopState→Option Code→Loop,rec=fun NJ NK=>{ state:=NJ,pending:=NK,fn,tmps:=a.tmps,params:=x,assign,body,defers:=aA.heap.size }:=⟨_,rfl⟩
 obtain⟨d,w⟩:∃ d,(aA.alloc (.deferred (some []))).alloc (.loop (rec .ready none))=d:=⟨_,rfl⟩
 have NL:d.heap[aA.heap.size+1]?=some (.loop (rec .ready none)):=by
  rw [← w];have:=World.alloc_heap_new (aA.alloc (.deferred (some []))) (.loop (rec .ready none));rwa [World.size_alloc] at this
 have NM:d.heap[aA.heap.size]?=some (.deferred (some [])):=by
  rw [← w];show((aA.heap.push _).push _)[aA.heap.size]?=_;simp [Array.getElem?_push]
 have Nv:bC aA.heap d.heap:=by rw [← w];exact(bC.push _ _).trans (bC.push _ _)
 have Nw:eJ aA d:=by rw [← w];exact⟨rfl,rfl,rfl⟩
 have NN:h [] d.heap:=u _ _ _ aV Nv.q8
 refine⟨aA.heap.size+1,[{ target:=.collected aA.heap.size,args:=#[] }],d,{ target:=.fn (.func j) y,args:=#[.func (.yield (aA.heap.size+1)) #[] #[]] },d,j,
  #[.func (.yield (aA.heap.size+1)) #[] #[]] ++ y,d,?_,?_,fun _ _=>trivial,?_,fun O=>(by cases O),?_⟩
 ·rw [← w,e];exact run_enterLoop_outer _ _ _ _ _
 ·simp only [resolve,Nz]
  simp [NO]
 ·simp [invoke,NO,NA]
 ·have NP:=NB (aA.heap.size+1)
   (fun pre Z=>h pre Z∧Z[aA.heap.size+1]?=some (.loop (rec .ready none))∧Z[aA.heap.size]?=some (.deferred (some [])))
   (fun pre Z=>s pre Z∧Z[aA.heap.size+1]?=some (.loop (rec .done (some .ret)))∧Z[aA.heap.size]?=some (.deferred (some [])))
   d.heap Nv
   (fun aI m bA bI c=>⟨u aI m bA bI.1 c.q8,(c.pre _ (Array.getElem?_eq_some_iff.1 bI.2.1).1).trans bI.2.1,(c.pre _ (Array.getElem?_eq_some_iff.1 bI.2.2).1).trans bI.2.2⟩)
   (fun aI m bA bI c=>⟨B aI m bA bI.1 c.q8,(c.pre _ (Array.getElem?_eq_some_iff.1 bI.2.1).1).trans bI.2.1,(c.pre _ (Array.getElem?_eq_some_iff.1 bI.2.2).1).trans bI.2.2⟩)
   ?_ ⟨NN,NL,NM⟩
  ·refine CallsIn.mono (callsIn_wide.2 (NP d rfl)) ?_
   rintro O o ⟨v,rfl,s2,(⟨L,NQ,a5,f,c⟩ | ⟨pre,NR,a5,f,c⟩)⟩
   ·refine⟨none,o.putObj (aA.heap.size+1) (.loop { rec .ready none with state:=.exhausted }),by have:=run_endLoop (P:=P) f (by rw [e];simp);rw [e] at this ⊢;exact this,?_⟩
    have hY:eJ o (o.putObj (aA.heap.size+1) (.loop { rec .ready none with state:=.exhausted })):=⟨rfl,rfl,rfl⟩
    exact NG _ L _ (Nat.le_refl _) (Nw.trans (s2.trans hY)) NQ (u _ _ _ a5 (iO.put _ f (by omega) rfl)) ((World.putObj_heap_other (by omega)).trans c)
   ·refine⟨some .ret,o.putObj (aA.heap.size+1) (.loop { rec .done (some .ret) with state:=.exhausted }),by have:=run_endLoop (P:=P) f (by rw [e];simp);rw [e] at this ⊢;exact this,?_⟩
    have hY:eJ o (o.putObj (aA.heap.size+1) (.loop { rec .done (some .ret) with state:=.exhausted })):=⟨rfl,rfl,rfl⟩
    exact NH _ pre _ (Nat.le_refl _) (Nw.trans (s2.trans hY)) NR (B _ _ _ a5 (iO.put _ f (by omega) rfl)) ((World.putObj_heap_other (by omega)).trans c)
  ·rintro pre N aY ⟨a5,f,c⟩ NS bK rfl
   have NT:aA.heap.size+1 < bK.heap.size:=(Array.getElem?_eq_some_iff.1 f).1
   have Nx:=run_yield (P:=P) (args:=z N) f (by rw [e];exact NC N)
   rw [e] at Nx
   refine⟨fn,_,assign,body,Nx,roundIn_of_wpIn NI (ND _ N bK _ ⟨_,run_beginRound f (by rw [e]),?_⟩)⟩
   have NU:(bK.putObj (aA.heap.size+1) (.loop { rec .ready none with state:=.busy })).heap[aA.heap.size+1]?=some (.loop { rec .ready none with state:=.busy }):=World.putObj_heap_same NT
   have NV:(bK.putObj (aA.heap.size+1) (.loop { rec .ready none with state:=.busy })).heap[aA.heap.size]?=some (.deferred (some [])):=(World.putObj_heap_other (by omega)).trans c
   have Ny:iO aA.heap.size bK.heap (bK.putObj (aA.heap.size+1) (.loop { rec .ready none with state:=.busy })).heap:=iO.put _ f (by omega) rfl
   refine wpIn_mono (NF _ pre N _ (u _ _ _ a5 Ny) NS) ?_
   have fin:∀ (jump:Option Code) (b:World),kE (bK.putObj (aA.heap.size+1) (.loop { rec .ready none with state:=.busy })).heap b.heap→
     (Instr.endRound (aA.heap.size+1) jump).run P b=.ok (.bool jump.isNone) (b.putObj (aA.heap.size+1) (.loop (rec (if jump.isNone then .ready else .done) jump)))∧
     b.heap[aA.heap.size+1]?=some (.loop { rec .ready none with state:=.busy })∧
     (b.putObj (aA.heap.size+1) (.loop (rec (if jump.isNone then .ready else .done) jump))).heap[aA.heap.size+1]?=some (.loop (rec (if jump.isNone then .ready else .done) jump))∧
     (b.putObj (aA.heap.size+1) (.loop (rec (if jump.isNone then .ready else .done) jump))).heap[aA.heap.size]?=some (.deferred (some [])):=fun jump b q=>by
    have i:=q _ _ NU rfl
    have:=run_endRound (P:=P) jump i
    rw [e] at this ⊢
    exact⟨this,by rw [e] at i;exact i,World.putObj_heap_same (Array.getElem?_eq_some_iff.1 i).1,(World.putObj_heap_other (by omega)).trans (q _ _ NV rfl)⟩
   rintro O dR b r
   cases O with
   | normal=>
    obtain⟨hY,q,NW,C⟩:=r
    obtain⟨E,i,F,G⟩:=fin none b q
    have A:iO aA.heap.size b.heap (b.putObj (aA.heap.size+1) (.loop (rec .ready none))).heap:=iO.put _ i (by omega) rfl
    exact⟨_,_,E,_,rfl,⟨hY.os,hY.tape,hY.output⟩,.inl ⟨rfl,⟨u _ _ _ C A,F,G⟩,J (J (T _ _ Ny) NW) (T _ _ A)⟩⟩
   | ret=>
    obtain⟨hY,q,C⟩:=r
    obtain⟨E,i,F,G⟩:=fin (some .ret) b q
    have A:iO aA.heap.size b.heap (b.putObj (aA.heap.size+1) (.loop (rec .done (some .ret)))).heap:=iO.put _ i (by omega) rfl
    exact⟨_,_,E,_,rfl,⟨hY.os,hY.tape,hY.output⟩,.inr ⟨rfl,B _ _ _ C A,F,G⟩⟩
   | exit id=>exact r.elim
   | goto t=>exact r.elim
   | panic NX=>exact r.elim
   | outgrown=>exact r.elim
end Go.Gv
namespace Go.Proofs.YtjijdlkpmngolaaGreat.G
open Go.Gv
set_option maxRecDepth 100000
set_option linter.unusedVariables false
set_option maxRecDepth 100000
namespace lM
noncomputable def aO:Code:=dO Tryz.f104
def dF.g(a:Value→M→Nat→Nat→M→Nat→Nat→M→Nat→Nat→M→Nat→Nat→U→Prop)(X:Fr)(Z:U):Prop:=sN (X 0) fun b=>aU (X 6) fun a9 c bB=>aU (X 7) fun cM d cO=>aU (X 8) fun bS e bU=>aU (X 9) fun f h i=>a b a9 c bB cM d cO bS e bU f h i Z
def cF.t(Y:aD)(cE:Value→M→Nat→Nat→M→Nat→Nat→M→Nat→Nat→M→Nat→Nat→U→Prop)(a:Value)(a9:M)(b:Nat)(bB:Nat)(cM:M)(c:Nat)(cO:Nat)(bS:M)(d:Nat)(bU:Nat)(e:M)(f:Nat)(g:Nat)(Z:U):Prop:=
 a0 l0.id #[.slice a9 b bB,.slice cM c cO] Z fun b fX=>
 c1 b fun b=>
 cW b fun b h=>
 aU b fun b i j=>
 cW h fun h k=>
 aU h fun h l m=>
 cW k fun k n=>
 aW .i64 k fun k=>
 b6 n <| a0 l0.id #[.slice bS d bU,.slice e f g] fX fun d n=>
 c1 d fun d=>
 cW d fun d o=>
 aU d fun d p q=>
 cW o fun o r=>
 aU o fun o s u=>
 cW r fun r v=>
 aW .i64 r fun r=>
 b6 v <| cond (k != 0) (Y (.tuple #[]) n) (cond (r != 0) (Y (.tuple #[]) n) (a0 iL.id #[.slice b i j,.slice d p q] n fun d j=>
 aW .i64 d fun d=>
 cond (d != 0) (Y (.tuple #[]) j) (cond (decide ((((i:Nat):Int)) > 1)) (Y (.tuple #[]) j) (cond ((((i:Nat):Int)) == 1) (c2 b i 0 1 fun b=>
 fB j b fun b=>
 aW .u64 b fun b=>
 o2 prog a #[.int .u64 b] j fun b d=>
 eS b fun b=>
 cond (!b) (Y (.tuple #[]) d) (cE a cM c cO h l m e f g o s u d)) (o2 prog a #[.int .u64 0] j fun b d=>
 eS b fun b=>
 cond (!b) (Y (.tuple #[]) d) (cE a cM c cO h l m e f g o s u d))))))
def cF.g(Y:aD)(cE:Value→M→Nat→Nat→M→Nat→Nat→M→Nat→Nat→M→Nat→Nat→U→Prop)(X:Fr)(Z:U):Prop:=sN (X 0) fun a=>aU (X 6) fun a9 b bB=>aU (X 7) fun cM c cO=>aU (X 8) fun bS d bU=>aU (X 9) fun e f h=>cF.t Y cE a a9 b bB cM c cO bS d bU e f h Z
theorem cF.ok(Y:aD)(cE:Value→M→Nat→Nat→M→Nat→Nat→M→Nat→Nat→M→Nat→Nat→U→Prop)(X:Fr)(Z:U)(g:cF.g Y cE X Z):e7 prog E (a4 aO [true,false,false,true]) (a2.then (dF.g cE) (a2.inBlock 0 (a7 E [] Y))) X Z:=by
 obtain⟨a,b,g⟩:=uT g
 obtain⟨a9,c,bB,d,g⟩:=b0 g
 obtain⟨cM,e,cO,f,g⟩:=b0 g
 obtain⟨bS,h,bU,i,g⟩:=b0 g
 obtain⟨j,k,l,m,g⟩:=b0 g
 exact uS [(0,a),(6,.slice a9 c bB),(7,.slice cM e cO),(8,.slice bS h bU),(9,.slice j k l)] ⟨b,d,f,i,m,trivial⟩ (by kernel_rfl) g
def bF.t(Y:aD)(cE:Value→M→Nat→Nat→M→Nat→Nat→M→Nat→Nat→M→Nat→Nat→U→Prop)(a:Value)(a9:M)(b:Nat)(bB:Nat)(cM:M)(c:Nat)(cO:Nat)(bS:M)(d:Nat)(bU:Nat)(e:M)(f:Nat)(g:Nat)(Z:U):Prop:=
 cond (decide ((((c:Nat):Int)) > 0)) (cond (decide ((((f:Nat):Int)) > 0)) (cF.t Y cE a a9 b bB cM c cO bS d bU e f g Z) (Y (.tuple #[]) Z)) (Y (.tuple #[]) Z)
def bF.g(Y:aD)(cE:Value→M→Nat→Nat→M→Nat→Nat→M→Nat→Nat→M→Nat→Nat→U→Prop)(X:Fr)(Z:U):Prop:=sN (X 0) fun a=>aU (X 6) fun a9 b bB=>aU (X 7) fun cM c cO=>aU (X 8) fun bS d bU=>aU (X 9) fun e f h=>bF.t Y cE a a9 b bB cM c cO bS d bU e f h Z
theorem bF.ok(Y:aD)(cE:Value→M→Nat→Nat→M→Nat→Nat→M→Nat→Nat→M→Nat→Nat→U→Prop)(X:Fr)(Z:U)(g:bF.g Y cE X Z):e7 prog E (a4 aO [true,false,false]) (a2.then (dF.g cE) (a2.inBlock 0 (a7 E [] Y))) X Z:=by
 obtain⟨a,b,g⟩:=uT g
 obtain⟨a9,c,bB,d,g⟩:=b0 g
 obtain⟨cM,e,cO,f,g⟩:=b0 g
 obtain⟨bS,h,bU,i,g⟩:=b0 g
 obtain⟨j,k,l,m,g⟩:=b0 g
 exact Fq 1 (r:=(a4 aO [true,false,false,true])) (by kernel_rfl) (cF.ok Y cE) (uS [(0,a),(6,.slice a9 c bB),(7,.slice cM e cO),(8,.slice bS h bU),(9,.slice j k l)] ⟨b,d,f,i,m,trivial⟩ (by kernel_rfl) g)
def dF.t(Y:aD):Nat→Value→M→Nat→Nat→M→Nat→Nat→M→Nat→Nat→M→Nat→Nat→U→Prop
 | 0=>fun _ _ _ _ _ _ _ _ _ _ _ _ _ _=>False
 | n+1=>fun a a9 b bB cM c cO bS d bU e f g Z=>bF.t Y (dF.t Y n) a a9 b bB cM c cO bS d bU e f g Z
theorem dF.ok(Y:aD)(X:Fr)(Z:U)(g:dF.g (fun a a9 b bB cM c cO bS d bU e f h Z=>∃ n,dF.t Y n a a9 b bB cM c cO bS d bU e f h Z) X Z):e7 prog E (a4 aO [true,false]) (a2.inBlock 0 (a7 E [] Y)) X Z:=by
 obtain⟨a,i,g⟩:=uT g
 obtain⟨a9,b,bB,j,g⟩:=b0 g
 obtain⟨cM,c,cO,k,g⟩:=b0 g
 obtain⟨bS,d,bU,l,g⟩:=b0 g
 obtain⟨e,f,h,m,g⟩:=b0 g
 obtain⟨n,g⟩:=g
 refine Kt (fun n=>dF.g (dF.t Y n)) (K:=(a4 aO [true,false,false])) (by kernel_rfl) (fun X Z g=>?_) (fun n=>bF.ok Y (dF.t Y n)) n X Z (Fs i (bD j (bD k (bD l (bD m (g))))))
 obtain⟨a,i,g⟩:=uT g
 obtain⟨a9,b,bB,j,g⟩:=b0 g
 obtain⟨cM,c,cO,k,g⟩:=b0 g
 obtain⟨bS,d,bU,l,g⟩:=b0 g
 obtain⟨e,f,h,m,g⟩:=b0 g
 exact g
theorem hD.ok(Y:aD)(X:Fr)(Z:U)(g:dF.g (fun a a9 b bB cM c cO bS d bU e f h Z=>∃ n,dF.t Y n a a9 b bB cM c cO bS d bU e f h Z) X Z):e7 prog E (a4 aO [true]) (a7 E [] Y) X Z:=
 Ks (by kernel_rfl) (dF.ok Y X Z g)
def aM.t(Y:aD)(a:Value)(b1:Addr)(eY:Addr)(b:Addr)(dX:Addr)(Z:U):Prop:=
 fB Z b1 fun c=>
 aU c fun c d e=>
 fB Z eY fun f=>
 aU f fun f g h=>
 fB Z b fun b=>
 aU b fun b i j=>
 fB Z dX fun k=>
 aU k fun k l m=>
 (∃ n,dF.t Y n a c d e f g h b i j k l m Z)
def aM.g(Y:aD)(X:Fr)(Z:U):Prop:=sN (X 0) fun a=>fU (X 1) fun b1=>fU (X 2) fun eY=>fU (X 3) fun b=>fU (X 4) fun dX=>aM.t Y a b1 eY b dX Z
theorem aM.ok(Y:aD)(X:Fr)(Z:U)(g:aM.g Y X Z):e7 prog E aO (a7 E [] Y) X Z:=by
 obtain⟨a,b,g⟩:=uT g
 obtain⟨b1,c,g⟩:=mH g
 obtain⟨eY,d,g⟩:=mH g
 obtain⟨e,f,g⟩:=mH g
 obtain⟨dX,h,g⟩:=mH g
 exact Fq 1 (r:=(a4 aO [true])) (by kernel_rfl) (hD.ok Y) (uS [(0,a),(1,.pointer (some b1)),(2,.pointer (some eY)),(3,.pointer (some e)),(4,.pointer (some dX))] ⟨b,c,d,f,h,trivial⟩ (by kernel_rfl) g)
def t(a:Value)(b1:Addr)(eY:Addr)(b:Addr)(dX:Addr)(Z:U)(Y:aD):Prop:=aM.t Y a b1 eY b dX Z
theorem ok{a:Value}{b1:Addr}{eY:Addr}{b:Addr}{dX:Addr}{Z:U}{Y:aD}(g:t a b1 eY b dX Z Y):a0 id #[a,.pointer (some b1),.pointer (some eY),.pointer (some b),.pointer (some dX)] Z Y:=
 Fp dH (c:=aO) (dE:=[]) Tryz.func104 (by kernel_rfl) (by kernel_rfl) (by kernel_rfl) (args:=[a,.pointer (some b1),.pointer (some eY),.pointer (some b),.pointer (some dX)]) (by kernel_rfl) (aM.ok Y _ Z (Fs rfl (p9 rfl (p9 rfl (p9 rfl (p9 rfl (g)))))))
end lM
namespace rA
noncomputable def aO:Code:=dO Tryz.f52
def aZ.t(Y:aD)(dR:M)(eL:Nat)(dA:Nat)(bY:M)(a:Nat)(bW:Nat)(cM:M)(b:Nat)(cO:Nat)(Z:U):Prop:=
 a0 sP.id #[.slice dR eL dA,.slice cM b cO,.slice bY a bW,.slice cM b cO] Z fun a b=>
 Y (a) b
def aZ.g(Y:aD)(X:Fr)(Z:U):Prop:=aU (X 3) fun dR eL dA=>aU (X 5) fun bY a bW=>aU (X 7) fun cM b cO=>aZ.t Y dR eL dA bY a bW cM b cO Z
theorem aZ.ok(Y:aD)(X:Fr)(Z:U)(g:aZ.g Y X Z):den prog E (a4 aO [true,true,true,true,true]) (a7 E [.tmp 2] Y) X Z:=by
 obtain⟨dR,eL,dA,a,g⟩:=b0 g
 obtain⟨bY,b,bW,c,g⟩:=b0 g
 obtain⟨cM,d,cO,e,g⟩:=b0 g
 exact bT [(3,.slice dR eL dA),(5,.slice bY b bW),(7,.slice cM d cO)] ⟨a,c,e,trivial⟩ (by kernel_rfl) g
def aM.t(Y:aD)(aX:Int)(Z:U):Prop:=
 a0 nV.id #[.int .i64 aX] Z fun a b=>
 c1 a fun a=>
 cW a fun a c=>
 aU a fun a d e=>
 cW c fun c f=>
 aW .i64 c fun c=>
 b6 f <| a0 jT.id #[.int .u64 1] b fun b f=>
 aU b fun b g h=>
 a0 iS.id #[.slice a d e,.slice b g h] f fun b f=>
 c1 b fun b=>
 cW b fun b g=>
 aU b fun b h i=>
 cW g fun g j=>
 aW .i64 g fun g=>
 b6 j <| a0 jT.id #[.int .u64 1] f fun f j=>
 aU f fun f k l=>
 a6 (IntKind.i64.wrap (aX+1)) fun m=>
 a0 j5.id #[.slice f k l,.int .i64 m] j fun f j=>
 c1 f fun f=>
 cW f fun f k=>
 aU f fun f l m=>
 cW k fun k n=>
 aW .i64 k fun k=>
 b6 n <| cond (c != 0) (Y (.func (.func 83) #[] #[]) j) (cond (g != 0) (Y (.func (.func 83) #[] #[]) j) (cond (k != 0) (Y (.func (.func 83) #[] #[]) j) (aZ.t Y a d e b h i f l m j)))
def aM.g(Y:aD)(X:Fr)(Z:U):Prop:=aW .i64 (X 0) fun aX=>aM.t Y aX Z
theorem aM.ok(Y:aD)(X:Fr)(Z:U)(g:aM.g Y X Z):den prog E aO (a7 E [.tmp 2] Y) X Z:=by
 obtain⟨aX,a,g⟩:=bN g
 exact c4 5 (r:=(a4 aO [true,true,true,true,true])) (by kernel_rfl) (aZ.ok Y) (bT [(0,.int .i64 aX)] ⟨a,trivial⟩ (by kernel_rfl) g)
def t(aX:Int)(Z:U)(Y:aD):Prop:=aM.t Y aX Z
theorem ok{aX:Int}{Z:U}{Y:aD}(g:t aX Z Y):a0 id #[.int .i64 aX] Z Y:=
 dQ dH (c:=aO) (dE:=[.tmp 2]) Tryz.func52 (by kernel_rfl) (by kernel_rfl) (by kernel_rfl) (args:=[.int .i64 aX]) (by kernel_rfl) (aM.ok Y _ Z (bR rfl (g)))
end rA
namespace sP
noncomputable def aO:Code:=dO Tryz.f84
def aM.t(Y:aD)(a:M)(b:Nat)(c:Nat)(aJ:M)(aH:Nat)(aG:Nat)(bL:M)(bX:Nat)(bG:Nat)(dR:M)(eL:Nat)(dA:Nat)(Z:U):Prop:=
 dN Z 30 [.slice a b c] fun b1 a=>
 dN a 30 [.slice aJ aH aG] fun a b=>
 dN b 30 [.slice bL bX bG] fun b c=>
 dN c 30 [.slice dR eL dA] fun c d=>
 Y ((.func (.func 104) #[] #[.pointer (some b1),.pointer (some a),.pointer (some b),.pointer (some c)])) d
def aM.g(Y:aD)(X:Fr)(Z:U):Prop:=aU (X 0) fun a b c=>aU (X 1) fun aJ aH aG=>aU (X 2) fun bL bX bG=>aU (X 3) fun dR eL dA=>aM.t Y a b c aJ aH aG bL bX bG dR eL dA Z
theorem aM.ok(Y:aD)(X:Fr)(Z:U)(g:aM.g Y X Z):e7 prog E aO (a7 E [.tmp 8] Y) X Z:=by
 obtain⟨a,b,c,d,g⟩:=b0 g
 obtain⟨aJ,aH,aG,e,g⟩:=b0 g
 obtain⟨bL,bX,bG,f,g⟩:=b0 g
 obtain⟨dR,eL,dA,h,g⟩:=b0 g
 exact uS [(0,.slice a b c),(1,.slice aJ aH aG),(2,.slice bL bX bG),(3,.slice dR eL dA)] ⟨d,e,f,h,trivial⟩ (by kernel_rfl) g
def t(a:M)(b:Nat)(c:Nat)(aJ:M)(aH:Nat)(aG:Nat)(bL:M)(bX:Nat)(bG:Nat)(dR:M)(eL:Nat)(dA:Nat)(Z:U)(Y:aD):Prop:=aM.t Y a b c aJ aH aG bL bX bG dR eL dA Z
theorem ok{a:M}{b:Nat}{d:Nat}{aJ:M}{aH:Nat}{aG:Nat}{bL:M}{bX:Nat}{bG:Nat}{dR:M}{eL:Nat}{dA:Nat}{Z:U}{Y:aD}(g:t a b d aJ aH aG bL bX bG dR eL dA Z Y):a0 id #[.slice a b d,.slice aJ aH aG,.slice bL bX bG,.slice dR eL dA] Z Y:=
 Fp dH (c:=aO) (dE:=[.tmp 8]) Tryz.func84 (by kernel_rfl) (by kernel_rfl) (by kernel_rfl) (args:=[.slice a b d,.slice aJ aH aG,.slice bL bX bG,.slice dR eL dA]) (by kernel_rfl) (aM.ok Y _ Z (bD rfl (bD rfl (bD rfl (bD rfl (g))))))
end sP
namespace lM
theorem enters(args:Array Value)(aA:World):(callFunc id args).run prog aA=.ok (.enter id args) aA:=Go.Proofs.enters_of Tryz.func104 (by kernel_rfl) (c:=aO) (by kernel_rfl) args aA
end lM
namespace g6
noncomputable def F:Func:=Tryz.f28
theorem at_:prog.funcs[id]?=some F:=Tryz.func28
noncomputable def aO:Code:=dO F
theorem body:F.body=some aO:=by kernel_rfl
theorem results:F.results.toList=[.cell 2 30]:=by kernel_rfl
theorem ntmps:F.ntmps=28:=by kernel_rfl
noncomputable def zH:Code:=(a4 aO [false])
noncomputable def sQ:Code:=(a4 aO [true,false])
noncomputable def rB:Code:=(a4 aO [true,true,false,false,false,false,false])
noncomputable def rC:Code:=(a4 aO [true,true,false,false,false,false,true,false,false])
noncomputable def Fu:Code:=(a4 aO [true,true,false,false,false,false,true,false,true,false])
noncomputable def Rest:Code:=(a4 aO [true,true,false,false,false,false,true,true])
noncomputable def Bw:Code:=(a4 aO [true,true,false,false,true])
noncomputable def Fv:Code:=Ku Fu
noncomputable def zI:Code:=Kv Fu
theorem code:aO=.seq zH (.seq sQ (.block 0 (.loop (.seq (.block 1 (.seq rB (.seq (.seq rC (.block 2 (.rangeFunc (.tmp 14) #[15] Fv zI))) Rest))) Bw)))):=by kernel_rfl
noncomputable def eN:Code:=.seq zH (.seq sQ (.seq rB rC))
def sR.t(T:Addr→Addr→Addr→Value→U→Prop)(aX:Int)(Z:U):Prop:=
 dN Z 3 [.int .i64 aX] fun b1 a=>
 dN a 30 Bx.a3 fun a b=>
 fB b b1 fun c=>
 aW .i64 c fun c=>
 a6 (IntKind.i64.wrap (4*c)) fun c=>
 a6 (IntKind.i64.wrap (c+64)) fun c=>
 fB b b1 fun d=>
 aW .i64 d fun d=>
 h5 b 35 j3 0 d fun b e=>
 dN e 30 Bx.a3 fun e f=>
 b3 f e (.slice (some b) ((0:Int).toNat) d.toNat) fun b=>
 a0 rA.id #[.int .i64 c] b fun b c=>
 T b1 a e b c
def sR.g(T:Addr→Addr→Addr→Value→U→Prop)(X:Fr)(Z:U):Prop:=aW .i64 (X 0) fun aX=>sR.t T aX Z
theorem sR.ok(T:Addr→Addr→Addr→Value→U→Prop)(X:Fr)(Z:U)(g:sR.g T X Z):e7 prog E eN (sO T) X Z:=by
 obtain⟨aX,a,g⟩:=bN g
 exact uS [(0,.int .i64 aX)] ⟨a,trivial⟩ (by kernel_rfl) g
def sS.t(a:U→Prop)(b:U→Prop)(b1:Addr)(eY:Addr)(dX:Addr)(c:Int)(Z:U):Prop:=
 fB Z dX fun d=>
 aU d fun d e f=>
 dN Z 35 [.int .u64 c] fun c g=>
 hF g 35 j3 d e f (.slice (some c) 1 1) fun c d e f=>
 b3 f dX (.slice c d e) fun c=>
 fB c dX fun d=>
 aU d fun d d e=>
 fB c b1 fun e=>
 aW .i64 e fun e=>
 cond ((((d:Nat):Int)) == e) (fB c dX fun d=>
 aU d fun d e f=>
 b3 c eY (.slice d e f) fun d=>
 b d) (a c)
def sS.g(a:U→Prop)(b:U→Prop)(X:Fr)(Z:U):Prop:=fU (X 1) fun b1=>fU (X 2) fun eY=>fU (X 4) fun dX=>aW .u64 (X 5) fun c=>sS.t a b b1 eY dX c Z
theorem sS.ok(a:U→Prop)(b:U→Prop)(X:Fr)(Z:U)(g:sS.g a b X Z):e7 prog E zI (Kw a b) X Z:=by
 obtain⟨b1,c,g⟩:=mH g
 obtain⟨eY,d,g⟩:=mH g
 obtain⟨dX,e,g⟩:=mH g
 obtain⟨f,h,g⟩:=bN g
 exact uS [(1,.pointer (some b1)),(2,.pointer (some eY)),(4,.pointer (some dX)),(5,.int .u64 f)] ⟨c,d,e,h,trivial⟩ (by kernel_rfl) g
theorem KA:kQ E 28 zH=true∧kQ E 28 sQ=true∧kQ E 28 rB=true∧kQ E 28 rC=true:=⟨by kernel_rfl,by kernel_rfl,by kernel_rfl,by kernel_rfl⟩
theorem KB:kQ E 28 zI=true:=by kernel_rfl
theorem KC:kP zI=true:=by kernel_rfl
theorem KD:∃ R t p,Fv=.region R #[{ dst:=some 5,op:=.assign (.tmp 15),type:=t,pos:=p,after:=#[],guard:=none }] false:=⟨5,35,"nearpi.go:60",by kernel_rfl⟩
theorem KE{X:Fr}{Z:U}{aE:Addr}{aF:List Value→Prop}(O:X 2=.pointer (some aE))(g:fB Z aE fun v=>aU v fun a l c=>aF [.slice a l c]):oC E X Z [.cell 2 30] aF:=by
 have b:oC E (jY X 2 (.pointer (some aE))) Z [.cell 2 30] aF=(fB Z aE fun v=>aU v fun a l c=>aF [.slice a l c]):=by kernel_rfl
 rw [u2 O] at b;rw [b];exact g
end g6
structure lN(bA:Nat)(Z aB:U):Prop where
 le:Z.size≤aB.size
 at_:∀ (K:Nat) (aN:Obj),Z[K]?=some aN→bA≤K→aN.isCells=true→aB[K]?=some aN
theorem lN.trans{bA:Nat}{a K c:U}(N:lN bA a K)(aQ:lN bA K c):lN bA a c:=⟨Nat.le_trans N.le aQ.le,fun R aN O Z S=>aQ.at_ R aN (N.at_ R aN O Z S) Z S⟩
theorem iO.cI{bA aO:Nat}{Z aB:U}(N:iO aO Z aB):lN bA Z aB:=⟨N.le,fun K aN O _ S=>N.at_ K aN O (.inr S)⟩
theorem KF{Z:U}{aE:Addr}{v:Value}(O:gL Z aE=some v):∃ aN:Obj,Z[aE.block]?=some aN∧aN.isCells=true:=by
 unfold gL at O
 split at O
 ·rename_i c el b a;exact⟨_,a,rfl⟩
 ·cases O
theorem cD.cI{bA:Nat}{Z aB:U}{a:M}{c:Nat}{L:List Nat}(r:cD Z a c L)(d:∀ p,a=some p→bA≤p.block)(S:lN bA Z aB):cD aB a c L:=
 ⟨r.len,r.cap,r.words,fun R a5=>by
  obtain⟨p,O,g⟩:=r.at_ R a5
  refine⟨p,O,?_⟩
  obtain⟨aN,b,e⟩:=KF g
  rw [rS (Z:=Z) (by rw [b];exact S.at_ _ _ b (by rw [p8];exact d p O) e)];exact g⟩
theorem cZ.base{aV Z:U}{a:M}{c:Nat}{L:List Nat}(g:cZ dT aV Z a c L):∀ p,a=some p→aV.size≤p.block:=by
 intro p O
 rcases g.here with ⟨_,b,_⟩ | ⟨e,rest,d,b,_,_⟩
 ·rw [b] at O;cases O
 ·rw [d] at O;cases O;exact b
structure iU(bA:Nat)(Z:U)(a:M)(l c n:Nat):Prop where
 rd:cD Z a c (aL n)
 len:l=(aL n).length
 base:∀ p,a=some p→bA≤p.block
 gW:e5 n
theorem iU.aS{bA:Nat}{Z aB:U}{a:M}{l c n:Nat}(r:iU bA Z a l c n)(S:bC Z aB):iU bA aB a l c n:=⟨r.rd.aS S,r.len,r.base,r.gW⟩
theorem iU.cI{bA:Nat}{Z aB:U}{a:M}{l c n:Nat}(r:iU bA Z a l c n)(S:lN bA Z aB):iU bA aB a l c n:=⟨cD.cI r.rd r.base S,r.len,r.base,r.gW⟩
theorem wQ{n:Nat}:0 < (aL n).length↔0 < n:=by
 constructor
 ·intro Z
  rcases Nat.eq_zero_or_pos n with O | O
  ·subst O;rw [eK] at Z;simp at Z
  ·exact O
 ·intro Z;rw [j8 (by omega)];simp
theorem Fw{n:Nat}:(aL n).length≤1↔n < 18446744073709551616:=by
 rw [gE]
theorem KG{N aQ:Nat}(Z:fD N aQ=0):N=aQ:=by
 unfold fD at Z
 split at Z
 ·exact absurd Z (by decide)
 ·split at Z
  ·assumption
  ·exact absurd Z (by decide)
abbrev pV:={ N:Nat // N < 18446744073709551616 }
def By(N:pV):Array Value:=#[.int .u64 ((N.1:Nat):Int)]
def kF(l:List pV):List Nat:=l.map (·.1)
theorem Bz(l:List pV)(N:pV):kF (l ++ [N])=kF l ++ [N.1]:=by simp [kF]
def Fx(a bA aO D:Nat)(l:List pV):Prop:=∀ aE,¬ jE (kF l ++ [aE]) a bA aO D
def wR(a bA aO D:Nat)(l:List pV):Prop:=jE (kF l) a bA aO D
theorem KH{l B c:Nat}{d J:List pV→U→Prop}{kR jX kS kT:Nat}(C:∀ aI Z aB,d aI Z→bC Z aB→d aI aB)
  (NB:∀ pre N aY,d pre aY→pre.length < B→q9 prog l (By N) aY fun v aB=>(v=.bool true∧d (pre ++ [N]) aB∧lN c aY aB)∨(v=.bool false∧J (pre ++ [N]) aB))
  {Y:aD} (P:∀ Z,((∃ L,(wR kR jX kS kT L∧Fx kR jX kS kT L)∧d L Z)∨∃ pre,wR kR jX kS kT pre∧J pre Z)→Y (.tuple #[]) Z) :
  ∀ (n:Nat) {a bA aO D:Nat} {a9 cM bS k:M} {u bB m cO w bU o q:Nat} {pre:List pV} {Z:U},bA < n→pre.length+bA≤B→c≤Z.size→d pre Z→
   iU c Z a9 u bB a→iU c Z cM m cO bA→iU c Z bS w bU aO→iU c Z k o q D→(∀ T,jE (kF pre ++ T) kR jX kS kT↔jE T a bA aO D)→
   lM.dF.t Y n (.func (.yield l) #[] #[]) a9 u bB cM m cO bS w bU k o q Z:=by
 intro n
 induction n with
 | zero=>intro a bA aO D a9 cM bS k u bB m cO w bU o q pre Z NC;omega
 | succ n bO=>
  intro a bA aO D a9 cM bS k u bB m cO w bU o q pre Z NC NV E e x h y i bI
  have ND:wR kR jX kS kT pre:=by have:=(bI []).mpr trivial;rwa [List.append_nil] at this
  have stop:∀ aB,d pre aB→(∀ aE,¬ jE [aE] a bA aO D)→Y (.tuple #[]) aB:=fun aB e NF=>P aB (.inl ⟨pre,⟨ND,fun aE b=>NF aE ((bI [aE]).mp b)⟩,e⟩)
  unfold lM.dF.t lM.bF.t
  refine cC (fun F=>?_) fun F=>stop Z e fun aE b=>F (by have:=b.1.1;have:=wQ.mpr this;rw [h.len];omega)
  refine cC (fun G=>?_) fun G=>stop Z e fun aE b=>G (by have:=b.1.2.1;have:=wQ.mpr this;rw [i.len];omega)
  have Q:0 < bA:=wQ.mp (by rw [h.len] at F;omega)
  have NG:0 < D:=wQ.mp (by rw [i.len] at G;omega)
  unfold lM.cF.t
  refine vX x.rd x.len h.rd h.len (by omega) x.gW h.gW fun NW NX NH NI aY b4 V Nv=>?_
  refine vX (y.rd.aS b4) y.len (i.rd.aS b4) i.len (by omega) y.gW i.gW fun NY NZ NJ NK z A gs gt=>?_
  refine jB (fun O=>absurd rfl O) fun _=>?_
  refine jB (fun O=>absurd rfl O) fun _=>?_
  have j:=b4.trans A
  refine pH (V.aS A).eH rfl gs.eH rfl ?_
  refine jB (fun O=>stop z (C _ _ _ e j) fun aE b=>?_) fun O=>?_
  ·obtain⟨⟨_,_,r,Nw,_⟩,_⟩:=b
   rw [r,Nw] at O;simp [fD] at O
  have NL:a / bA=aO / D:=KG O
  refine cC (fun NM=>stop z (C _ _ _ e j) fun aE b=>?_) fun NM=>?_
  ·obtain⟨⟨_,_,r,Nw,NN⟩,_⟩:=b
   have:=Fw.mpr (r ▸ NN);omega
  have Nx:a / bA < 18446744073709551616:=Fw.mp (by omega)
  have NO:=C _ _ _ e j
  have NP:pre.length < B:=by omega
  have round:∀ (N:pV),N.1=a / bA→o2 prog (.func (.yield l) #[] #[]) (By N) z fun NQ Ny=>eS NQ fun NR=>cond (!NR) (Y (.tuple #[]) Ny) (lM.dF.t Y n (.func (.yield l) #[] #[]) cM m cO NH (aL (a % bA)).length NI k o q NJ (aL (aO % D)).length NK Ny):=by
   intro N Nz
   have NA:∀ T,jE (kF (pre ++ [N]) ++ T) kR jX kS kT↔jE T bA (a % bA) D (aO % D):=by
    intro T
    rw [Bz,List.append_assoc,bI]
    exact⟨fun H=>H.2,fun H=>⟨⟨Q,NG,Nz.symm,by rw [← NL];exact Nz.symm,N.2⟩,H⟩⟩
   refine(q9.mono (fun v aB g=>?_) (NB pre N z NO NP)).Kx
   rcases g with ⟨rfl,NS,s⟩ | ⟨rfl,NT⟩
   ·refine cY rfl ?_
    have N0:a % bA < bA:=Nat.mod_lt _ Q
    have NU:c≤aY.size:=Nat.le_trans E b4.le
    exact bO (by omega) (by rw [List.length_append,List.length_singleton];omega) (Nat.le_trans E (Nat.le_trans j.le s.le)) NS ((h.aS j).cI s)
     (iU.cI ⟨(Nv.aS A).eH,rfl,fun p O=>Nat.le_trans E (cZ.base Nv p O),jK (Nat.mod_le _ _) x.gW⟩ s) ((i.aS j).cI s)
     (iU.cI ⟨gt.eH,rfl,fun p O=>Nat.le_trans NU (cZ.base gt p O),jK (Nat.mod_le _ _) y.gW⟩ s) NA
   ·refine cY rfl ?_
    refine P aB (.inr ⟨_,?_,NT⟩)
    have:=(NA []).mpr trivial
    rwa [List.append_nil] at this
  refine fN (fun I=>?_) fun I=>?_
  ·refine fP (V.aS A).eH (aC:=0) rfl rfl (by omega) ?_
   have r:(aL (a / bA)).getD 0 0=a / bA:=by
    rw [j8 (by intro f;rw [f,eK] at I;simp at I)]
    show a / bA % 18446744073709551616=a / bA
    exact Nat.mod_eq_of_lt Nx
   rw [r]
   exact round ⟨a / bA,Nx⟩ rfl
  ·have f:a / bA=0:=by
    rcases Nat.eq_zero_or_pos (a / bA) with f | f
    ·exact f
    ·have:=wQ.mpr f;omega
   exact round ⟨0,by omega⟩ f.symm
structure BA(bA:Nat)(Z:U)(v:Value)(kR jX kS kT:Nat):Prop where
 out:∃ fG eM gU g5 aJ aH aG bL bX bG dR eL dA dZ fQ eE,v=.func (.func lM.id) #[] #[.pointer (some ⟨fG,0,none⟩),.pointer (some ⟨eM,0,none⟩),.pointer (some ⟨gU,0,none⟩),.pointer (some ⟨g5,0,none⟩)]∧
  dU Z fG [.slice aJ aH aG]∧dU Z eM [.slice bL bX bG]∧dU Z gU [.slice dR eL dA]∧dU Z g5 [.slice dZ fQ eE]∧iU bA Z aJ aH aG kR∧iU bA Z bL bX bG jX∧iU bA Z dR eL dA kS∧iU bA Z dZ fQ eE kT
theorem KI{bA kR jX kS kT:Nat}{aV:U}(a:bA≤aV.size){fG eM gU g5:Nat}{aJ bL dR dZ:M}{aH aG bX bG eL dA fQ eE:Nat}
  (b:dU aV fG [.slice aJ aH aG]) (c:dU aV eM [.slice bL bX bG]) (d:dU aV gU [.slice dR eL dA]) (e:dU aV g5 [.slice dZ fQ eE])
  (f:iU bA aV aJ aH aG kR) (g:iU bA aV bL bX bG jX) (h:iU bA aV dR eL dA kS) (i:iU bA aV dZ fQ eE kT) :
  Ft prog lM.id #[.pointer (some ⟨fG,0,none⟩),.pointer (some ⟨eM,0,none⟩),.pointer (some ⟨gU,0,none⟩),.pointer (some ⟨g5,0,none⟩)] By (lN bA) (fun L=>wR kR jX kS kT L∧Fx kR jX kS kT L) (wR kR jX kS kT) jX aV:=by
 intro l o p Z S j q k m
 have O:(#[.func (.yield l) #[] #[]] ++ #[.pointer (some ⟨fG,0,none⟩),.pointer (some ⟨eM,0,none⟩),.pointer (some ⟨gU,0,none⟩),.pointer (some ⟨g5,0,none⟩)]:Array Value)=
   #[.func (.yield l) #[] #[],.pointer (some ⟨fG,0,none⟩),.pointer (some ⟨eM,0,none⟩),.pointer (some ⟨gU,0,none⟩),.pointer (some ⟨g5,0,none⟩)]:=by simp
 rw [O]
 refine lM.ok ?_
 unfold lM.t lM.aM.t
 refine nJ (b.aS S) rfl (bD rfl ?_)
 refine nJ (c.aS S) rfl (bD rfl ?_)
 refine nJ (d.aS S) rfl (bD rfl ?_)
 refine nJ (e.aS S) rfl (bD rfl ?_)
 exact⟨jX+1,KH (pre:=[]) j k (fun Z n=>n) (jX+1) (by omega) (by simp) (Nat.le_trans a S.le) m (f.aS S) (g.aS S) (h.aS S) (i.aS S) (fun T=>by simp [kF])⟩
theorem KJ{bA kR jX kS kT:Nat}{Z:U}{aJ bL dR dZ:M}{aH aG bX bG eL dA fQ eE:Nat}
  (e:iU bA Z aJ aH aG kR) (f:iU bA Z bL bX bG jX) (g:iU bA Z dR eL dA kS) (h:iU bA Z dZ fQ eE kT) :
  a0 sP.id #[.slice aJ aH aG,.slice bL bX bG,.slice dR eL dA,.slice dZ fQ eE] Z fun v aB=>bC Z aB∧BA bA aB v kR jX kS kT:=by
 refine sP.ok ?_
 unfold sP.t sP.aM.t
 refine eX fun aY i b4=>?_
 refine eX fun m j d=>?_
 refine eX fun n k c=>?_
 refine eX fun o l b=>?_
 have a:=b4.trans (d.trans (c.trans b))
 exact⟨a,⟨_,_,_,_,_,_,_,_,_,_,_,_,_,_,_,_,rfl,i.aS (d.trans (c.trans b)),j.aS (c.trans b),k.aS b,l,e.aS a,f.aS a,g.aS a,h.aS a⟩⟩
theorem Fy{p:Nat}(a:p < 4200):e5 (dB p+1)∧e5 (2 ^ (p+1)):=by
 have Z:dB p+1 < 2 ^ 4403:=Nat.lt_of_le_of_lt (Nat.add_le_add_right (show dB p≤g1 from Nat.div_le_self _ _) 1) (Nat.le_of_ble_eq_true (by kernel_rfl))
 exact⟨iY Z (by omega),iY (S:=p+2) (Nat.pow_lt_pow_right (by decide) (by omega)) (by omega)⟩
theorem KK{p:Nat}(Z:U)(aY:1≤p)(h:p < 4200):a0 rA.id #[.int .i64 (p:Int)] Z fun v aB=>bC Z aB∧BA Z.size aB v (dB p) (2 ^ (p+1)) (dB p+1) (2 ^ (p+1)):=by
 obtain⟨e,s2⟩:=Fy h
 refine rA.ok ?_
 unfold rA.t rA.aM.t
 refine b5 (ED Z aY h) fun v o ⟨b4,t1⟩=>?_
 refine t1.hZ fun aJ aG f q=>?_
 refine m6 (N:=1) (by decide) fun bL bG r a j=>?_
 refine r9 (aQ:=1) (f.aS a).eH rfl j.eH rfl e fun dR dA s d i=>?_
 refine m6 (N:=1) (by decide) fun dZ eE u b k=>?_
 refine⟨?_⟩
 have l:IntKind.i64.wrap ((p:Int)+1)=((p+1:Nat):Int):=by rw [wrap_i64] <;> omega
 rw [l]
 refine vW (n:=p+1) rfl k.eH rfl (by omega) (nS (by decide)) (by rw [Nat.one_mul];exact s2) fun bY bW w g c=>?_
 rw [Nat.one_mul] at c ⊢
 refine jB (fun O=>absurd rfl O) fun _=>?_
 refine jB (fun O=>absurd rfl O) fun _=>?_
 refine jB (fun O=>absurd rfl O) fun _=>?_
 unfold rA.aZ.t
 have eI:∀ {N:U},bC Z N→Z.size≤N.size:=fun S=>S.le
 refine b5 (KJ (bA:=Z.size) (kR:=dB p) (jX:=2 ^ (p+1)) (kS:=dB p+1) (kT:=2 ^ (p+1))
  ⟨(f.aS (a.trans (d.trans (b.trans g)))).eH,rfl,cZ.base f,jK (by omega) e⟩ ⟨c.eH,rfl,fun aE O=>Nat.le_trans (b4.trans (a.trans (d.trans b))).le (cZ.base c aE O),s2⟩
  ⟨(i.aS (b.trans g)).eH,rfl,fun aE O=>Nat.le_trans (b4.trans a).le (cZ.base i aE O),e⟩ ⟨c.eH,rfl,fun aE O=>Nat.le_trans (b4.trans (a.trans (d.trans b))).le (cZ.base c aE O),s2⟩) fun v x ⟨m,t6⟩=>?_
 exact⟨b4.trans (a.trans (d.trans (b.trans (g.trans m)))),t6⟩
theorem b2.zJ{K:Nat}{Z aB:U}{bV:List Value}(aN:dU Z K bV)(S:b2 K Z aB):kE Z aB:=fun a cU O hu=>by
 have b:a ≠ K:=by
  rintro rfl
  obtain⟨el,g⟩:=aN.at_
  rw [g] at O;cases O;cases hu
 rw [S.pre a (Array.getElem?_eq_some_iff.1 O).1 b];exact O
theorem kE.trans{a K c:U}(N:kE a K)(aQ:kE K c):kE a c:=fun R aN O Z=>aQ R aN (N R aN O Z) Z
theorem bC.zJ{Z aB:U}(S:bC Z aB):kE Z aB:=fun K aN O _=>(S.pre K (Array.getElem?_eq_some_iff.1 O).1).trans O
theorem bC.cI{bA:Nat}{Z aB:U}(S:bC Z aB):lN bA Z aB:=⟨S.le,fun K aN O _ _=>(S.pre K (Array.getElem?_eq_some_iff.1 O).1).trans O⟩
theorem b2.cI{K bA:Nat}{Z aB:U}(S:b2 K Z aB)(a:K < bA):lN bA Z aB:=⟨S.le,fun R aN O a5 _=>(S.pre R (Array.getElem?_eq_some_iff.1 O).1 (by omega)).trans O⟩
theorem KL{K:Nat}{Z aB:U}(S:pB (some ⟨K,0,none⟩) Z aB):∀ R,R < Z.size→R ≠ K→aB[R]?=Z[R]?:=fun R a5 a=>S.pre R a5 fun p O=>by cases O;exact fun O=>a O.symm
theorem zK{bA K:Nat}{Z aB:U}{bV:List Value}(aN:dU Z K bV)(S:iO bA Z aB):dU aB K bV:=by
 obtain⟨O,g⟩:=aN.at_;exact⟨O,S.at_ _ _ g (.inr rfl)⟩
theorem KM{c7:Type}{E:j9 c7}{bA K:Nat}{Z aB:U}{bV:List c7}(aN:dS E Z K bV)(S:iO bA Z aB):dS E aB K bV:=by
 obtain⟨O,g⟩:=aN.at_;exact⟨aN.ok,O,S.at_ _ _ g (.inr rfl)⟩
theorem Fz{bA c:Nat}{aV Z aB:U}{a:M}{L:List Nat}(g:cZ dT aV Z a c L)(S:iO bA Z aB):cZ dT aV aB a c L:=
 ⟨g.len,g.cap,g.here.imp id fun ⟨K,rest,b,d,aN,e⟩=>⟨K,rest,b,d,KM aN S,e⟩⟩
theorem BB{aE c gS:Nat}{aV Z aB:U}{L:List Nat}(g:cZ dT aV Z (some ⟨gS,0,none⟩) c L)(b:gS ≠ aE)(S:b2 aE Z aB):cZ dT aV aB (some ⟨gS,0,none⟩) c L:=by
 refine⟨g.len,g.cap,g.here.imp (fun ⟨_,O,_⟩=>by cases O) fun ⟨K,rest,a,d,aN,e⟩=>⟨K,rest,a,d,?_,e⟩⟩
 cases a;exact aN.cG b S
theorem FA{bA:Nat}{aV Z aB:U}(S:bC aV Z)(d:aV.size≤bA)(a:iO bA Z aB):bC aV aB:=
 ⟨Nat.le_trans S.le a.le,fun K b=>by
  have O:=S.pre K b
  have c:K < Z.size:=Nat.lt_of_lt_of_le b S.le
  rw [Array.getElem?_eq_getElem c] at O
  rw [a.at_ K _ (Array.getElem?_eq_getElem c) (.inl (by omega))];exact O⟩
structure rD(aV:U)(n fG eM gS g5:Nat)(pre:List Nat)(Z:U):Prop where
 aS:bC aV Z
 num:dU Z fG [.int .i64 (n:Int)]
 res:dU Z eM [.slice none 0 0]
 var:dU Z g5 [.slice (some ⟨gS,0,none⟩) pre.length n]
 lB:cZ dT aV Z (some ⟨gS,0,none⟩) n pre
 ord:aV.size≤fG∧fG < eM∧eM < gS∧gS < g5
 lt:pre.length < n
structure uU(aV:U)(n eM gS:Nat)(pre:List Nat)(Z:U):Prop where
 aS:bC aV Z
 res:dU Z eM [.slice (some ⟨gS,0,none⟩) n n]
 lB:cZ dT aV Z (some ⟨gS,0,none⟩) n pre
 ord:aV.size≤gS
 len:pre.length=n
theorem rD.q8{bA:Nat}{aV Z aB:U}{n fG eM gS g5:Nat}{pre:List Nat}(aN:rD aV n fG eM gS g5 pre Z)(b:aV.size≤bA)(a:iO bA Z aB):rD aV n fG eM gS g5 pre aB:=
 ⟨FA aN.aS b a,zK aN.num a,zK aN.res a,zK aN.var a,Fz aN.lB a,aN.ord,aN.lt⟩
theorem uU.q8{bA:Nat}{aV Z aB:U}{n eM gS:Nat}{pre:List Nat}(aN:uU aV n eM gS pre Z)(b:aV.size≤bA)(a:iO bA Z aB):uU aV n eM gS pre aB:=
 ⟨FA aN.aS b a,zK aN.res a,Fz aN.lB a,aN.ord,aN.len⟩
theorem KN{aV:U}{n fG eM gS g5 bA:Nat}{pre:List Nat}{N:Nat}(C:N < 18446744073709551616)(NA:n≤1000){Z:U}(aN:rD aV n fG eM gS g5 pre Z)(D:g5 < bA){r s:U→Prop}
  (E:∀ aB,kE Z aB→lN bA Z aB→rD aV n fG eM gS g5 (pre ++ [N]) aB→r aB) (F:∀ aB,kE Z aB→uU aV n eM gS (pre ++ [N]) aB→s aB) :
  g6.sS.t r s ⟨fG,0,none⟩ ⟨eM,0,none⟩ ⟨g5,0,none⟩ (N:Int) Z:=by
 obtain⟨eB,NB,NC,ND⟩:=aN.ord
 have NF:=aN.lt
 unfold g6.sS.t
 refine nJ aN.var rfl (bD rfl ?_)
 refine vN dT [N] rfl (by intro aQ u;simp only [List.mem_singleton] at u;subst u;exact C) fun aY G b4=>?_
 have f:cZ dT aV aY (some ⟨gS,0,none⟩) n pre:=aN.lB.aS b4
 have H:=G.qC (c:=1) (by show _≤35184372088828;simp) (by simp)
 refine C4 f (Nat.le_trans aN.aS.le b4.le) H rfl rfl (by rfl) 0 rfl (by decide) 8 rfl (by decide) (by show _≤35184372088828;simp;omega) (fun h=>by simp at h;omega) fun NG c8 d i j h=>?_
 obtain⟨I,J⟩:=h (by simp;omega)
 rw [J,I] at i ⊢
 have k:=KL j
 have P:pre.length+[N].length=(pre ++ [N]).length:=by simp
 rw [P]
 have NH:g5 < aY.size:=(aN.var.aS b4).lt
 have NI:eM < aY.size:=(aN.res.aS b4).lt
 have NJ:fG < aY.size:=(aN.num.aS b4).lt
 have l:∀ {K:Nat} {bV:List Value},dU Z K bV→K ≠ gS→dU d K bV:=fun aE m=>by
  obtain⟨O,g⟩:=(aE.aS b4).at_;exact⟨O,by rw [k _ (aE.aS b4).lt m];exact g⟩
 have v:=l aN.var (by omega)
 have o:=l aN.res (by omega)
 have w:=l aN.num (by omega)
 have Q:kE aY d:=fun K cU b hu=>by
  have m:K ≠ gS:=by
   rintro rfl
   rcases f.here with ⟨_,O,_⟩ | ⟨NK,rest,T,_,V,_⟩
   ·cases O
   ·cases T;obtain⟨el,Nv⟩:=V.at_;rw [Nv] at b;cases b;cases hu
  rw [k K (Array.getElem?_eq_some_iff.1 b).1 m];exact b
 have Nw:lN bA aY d:=⟨j.le,fun K cU b NL _=>by rw [k K (Array.getElem?_eq_some_iff.1 b).1 (by omega)];exact b⟩
 have Nx:bC aV d:=j.aS (aN.aS.trans b4) f.As
 refine AA v (by simp) fun e Ny a=>?_
 have p:dU e g5 [.slice (some ⟨gS,0,none⟩) (pre ++ [N]).length n]:=Ny
 refine nJ p rfl (bD rfl ?_)
 refine nJ (w.cG (by omega) a) rfl (bR rfl ?_)
 have x:bC aV e:=b2.aS Nx a (by omega)
 have y:kE Z e:=kE.trans (bC.zJ b4) (kE.trans Q (b2.zJ v a))
 refine fN (fun z=>?_) fun z=>?_
 ·have A:(pre ++ [N]).length=n:=by omega
  refine nJ p rfl (bD rfl ?_)
  refine AA (o.cG (by omega) a) (by simp) fun Nz B q=>?_
  refine F Nz (kE.trans y (b2.zJ (o.cG (by omega) a) q)) ⟨b2.aS x q (by omega),?_,?_,by omega,A⟩
  ·rw [A] at B;exact B
  ·exact BB (BB i (by omega) a) (by omega) q
 ·refine E e y ((bC.cI b4).trans (Nw.trans (b2.cI a D))) ⟨x,w.cG (by omega) a,o.cG (by omega) a,p,BB i (by omega) a,aN.ord,?_⟩
  simp at z ⊢;omega
structure rE(n:Nat)(aV:U)(b1 eY dX:Addr)(v:Value)(Z:U):Prop where
 out:∃ fG eM gS g5 bA,b1=⟨fG,0,none⟩∧eY=⟨eM,0,none⟩∧dX=⟨g5,0,none⟩∧rD aV n fG eM gS g5 [] Z∧g5 < bA∧bA≤Z.size∧BA bA Z v (dB (4*n+64)) (2 ^ (4*n+64+1)) (dB (4*n+64)+1) (2 ^ (4*n+64+1))
theorem KO{n:Nat}(Z:U)(aY:1≤n)(y:n≤1000):g6.sR.t (rE n Z) (n:Int) Z:=by
 unfold g6.sR.t
 refine eX fun h d b4=>?_
 refine eX fun e k b=>?_
 refine nJ (d.aS b) rfl (bR rfl ?_)
 refine⟨?_⟩
 have m:IntKind.i64.wrap (4*(n:Int))=((4*n:Nat):Int):=by rw [wrap_i64] <;> omega
 rw [m]
 refine⟨?_⟩
 have o:IntKind.i64.wrap (((4*n:Nat):Int)+64)=((4*n+64:Nat):Int):=by rw [wrap_i64] <;> omega
 rw [o]
 refine nJ (d.aS b) rfl (bR rfl ?_)
 refine oL dT 0 0 n rfl (by decide) 8 rfl (by decide) rfl rfl (by omega) (by omega) fun i l f=>?_
 refine eX fun z q r=>?_
 refine AA q (by exact Nat.zero_lt_one) fun c j s=>?_
 have g:bC i c:=b2.aS r s (Nat.le_refl _)
 have A:h.size≤e.size:=b.le
 have s2:e.size≤i.size:=f.le
 have t1:=d.lt
 have t2:=k.lt
 have t3:=l.lt
 have t5:=j.lt
 have eB:Z.size≤h.size:=b4.le
 have eI:bC Z c:=b4.trans (b.trans (f.trans g))
 refine b5 (KK (p:=4*n+64) c (by omega) (by omega)) fun v B ⟨a,u⟩=>?_
 have w:cZ dT Z c (some ⟨e.size,0,none⟩) n []:=dS.j0 (rest:=List.replicate n 0) (l.aS g) (by omega) (by simp) (by simp) (by simp)
 have x:(n:Int).toNat=n:=by omega
 rw [x] at j
 exact⟨Z.size,h.size,e.size,i.size,c.size,rfl,rfl,rfl,⟨eI.trans a,(d.aS (b.trans (f.trans (g.trans a)))),k.aS (f.trans (g.trans a)),j.aS a,w.aS a,by omega,by show 0 < n;omega⟩,t5,a.le,u⟩
theorem KP(a:Act)(b:a.defers=[])(v:Value):({ tmps:=((#[15]:Array Nat).zip #[v]).foldl (fun t (p,v)=>t.setIfInBounds p v) a.tmps,defers:=[] }:Act)=a.put (some 15) v:=by
 obtain⟨t,aT⟩:=a
 simp only at b;subst b
 simp [Act.put]
theorem FB{n:Nat}(Z:U)(aY:1≤n)(h:n≤1000):a0 g6.id #[.int .i64 (n:Int)] Z fun v aB=>bC Z aB∧tN Z aB v (gK.take n):=by
 intro aA H
 subst H
 refine(callsIn_wide (n:=0)).1 (callsIn_of_wp_marks (F:=Fence.wide) (n:=0) g6.at_ g6.body trivial ?_ rfl)
 have I:=Ab [.int .i64 (n:Int)] 28 (by simp)
 have J:g6.F.ntmps - (#[Value.int .i64 (n:Int)]:Array Value).size=28 - [Value.int .i64 (n:Int)].length:=by rw [g6.ntmps];rfl
 rw [J,g6.code]
 obtain⟨Q,aG,dA,eE⟩:=g6.KA
 have T:e7 prog E g6.zH (a2.then (e7 prog E (.seq g6.sQ (.seq g6.rB g6.rC)) (sO (rE n aA.heap))) (sO (rE n aA.heap))) (tD [.int .i64 (n:Int)]) aA.heap:=
  g6.sR.ok (rE n aA.heap) _ _ (bR rfl (KO aA.heap aY h))
 refine wpIn_seq (uR dH (.inl rfl) Q (.inl rfl) I T fun O V aJ Nv Nw Nx b4=>?_)
 cases O with
 | exit R=>exact b4.elim
 | ret=>exact b4.elim
 | normal=>
 have Ny:e7 prog E g6.sQ (a2.then (e7 prog E (.seq g6.rB g6.rC) (sO (rE n aA.heap))) (sO (rE n aA.heap))) V Nv.heap:=b4
 refine wpIn_seq (uR dH (.inl rfl) aG (.inl rfl) Nw Ny fun O Nz bL NA NB s2 i=>?_)
 cases O with
 | exit R=>exact i.elim
 | ret=>exact i.elim
 | normal=>
 refine wpIn_block (wpIn_loop_once (wpIn_seq (wpIn_block ?_)))
 have NC:e7 prog E g6.rB (a2.then (e7 prog E g6.rC (sO (rE n aA.heap))) (sO (rE n aA.heap))) Nz NA.heap:=i
 refine wpIn_seq (uR dH (.inl rfl) dA (.inl rfl) NB NC fun O NX dR NY ND hY j=>?_)
 cases O with
 | exit R=>exact j.elim
 | ret=>exact j.elim
 | normal=>
 refine wpIn_seq (wpIn_seq (uR dH (.inl rfl) eE (.inl rfl) ND j fun O k dZ m d Au b=>?_))
 cases O with
 | exit R=>exact b.elim
 | ret=>exact b.elim
 | normal=>
 have o:eJ aA m:=Nx.trans (s2.trans (hY.trans Au))
 obtain⟨b1,NF,b⟩:=mH b
 obtain⟨eY,x,b⟩:=mH b
 obtain⟨dX,NG,b⟩:=mH b
 obtain⟨v,NH,b⟩:=uT b
 obtain⟨fG,eM,gS,g5,bA,rfl,rfl,rfl,y,NI,NJ,NK⟩:=b.out
 obtain⟨d1,d2,d3,d4,aK,aH,eO,NZ,bX,N0,N1,eL,N2,N3,fQ,N4,NL,l5,lH,k5,NM,t1,t2,t3,t4⟩:=NK.out
 have q:aA.heap.size≤m.heap.size:=y.aS.le
 have s:=J2 aY h
 have e:(gK.take n).length=n:=by rw [List.length_take,qX];omega
 have z:dZ.defers=[]:=d.defers
 refine wpIn_block (Kz (P:=prog) (by rw [d.cS];show k 14=_;rw [NH,NL]) lM.enters (KI NJ l5 lH k5 NM t1 t2 t3 t4) (fun N aQ=>lN.trans N aQ) (fun _ _=>iO.cI) (fun N=>rfl)
  (fun pre Z=>rD aA.heap n fG eM gS g5 (kF pre) Z) (fun pre Z=>uU aA.heap n eM gS (kF pre) Z) (fun aI _ _ R a=>R.q8 q a) (fun aI _ _ R a=>R.q8 q a) y
  (fun N=>(dZ.put (some 15) (.int .u64 ((N.1:Nat):Int))).put (some 5) (.int .u64 ((N.1:Nat):Int))) ?_ ?_ ?_ ?_)
 ·intro l N bK aF NN
  obtain⟨R,t,p,O⟩:=g6.KD
  rw [O]
  have NO:=KP dZ z (.int .u64 ((N.1:Nat):Int))
  show(Code.region R _ false).wpIn _ _ _ _ ({ tmps:=((#[15]:Array Nat).zip #[.int .u64 ((N.1:Nat):Int)]).foldl (fun t (p,v)=>t.setIfInBounds p v) dZ.tmps,defers:=[] }:Act) bK
  rw [NO]
  have NP:fR 28 (kG k (some 15) (.int .u64 ((N.1:Nat):Int))) (dZ.put (some 15) (.int .u64 ((N.1:Nat):Int))):=d.put (aN:={ dst:=some 15,op:=.assign (.tmp 0),type:=0,pos:="",after:=#[],guard:=none }) rfl _
  have NQ:(dZ.put (some 15) (.int .u64 ((N.1:Nat):Int))).eval (.tmp 15)=.int .u64 ((N.1:Nat):Int):=by rw [NP.cS];rfl
  refine wpIn_region_list ?_
  refine⟨fun _ _=>trivial,?_⟩
  rw [zG rfl]
  have NR:(execOp (dZ.put (some 15) (.int .u64 ((N.1:Nat):Int))).eval { dst:=some 5,op:=.assign (.tmp 15),type:=t,pos:=p,after:=#[],guard:=none }).run prog bK=.ok (.value (.int .u64 ((N.1:Nat):Int))) bK:=by
   simp [execOp,NQ]
  rw [NR]
  exact NN
 ·intro l pre N bK a5 N5
  have NS:fR 28 (jY (jY k 15 (.int .u64 ((N.1:Nat):Int))) 5 (.int .u64 ((N.1:Nat):Int))) ((dZ.put (some 15) (.int .u64 ((N.1:Nat):Int))).put (some 5) (.int .u64 ((N.1:Nat):Int))):=
   (d.put (aN:={ dst:=some 15,op:=.assign (.tmp 0),type:=0,pos:="",after:=#[],guard:=none }) rfl _).put (aN:={ dst:=some 5,op:=.assign (.tmp 0),type:=0,pos:="",after:=#[],guard:=none }) rfl _
  refine uR dH (.inr ⟨l,rfl⟩) g6.KB (.inr g6.KC) NS (g6.sS.ok
   (fun aB=>kE bK.heap aB∧lN bA bK.heap aB∧rD aA.heap n fG eM gS g5 (kF (pre ++ [N])) aB) (fun aB=>kE bK.heap aB∧uU aA.heap n eM gS (kF (pre ++ [N])) aB) _ _
   (p9 NF (p9 x (p9 NG (bR rfl (KN N.2 h a5 NI (fun aB a K c=>⟨a,K,by rw [Bz];exact c⟩) fun aB a c=>⟨a,by rw [Bz];exact c⟩)))))) fun O N6 N7 cA r aI S=>?_
  cases O with
  | normal=>exact⟨aI,S.1,S.2.1,S.2.2⟩
  | ret=>exact⟨aI,S.1,S.2⟩
  | exit R=>exact S.elim
 ·intro D L bK A bI f a5 u
  exfalso
  have NT:=a5.lt
  have g:=jE.pre f.1 s (by rw [e];omega)
  refine f.2 ((gK.take n).getD (kF L).length 0) ?_
  have NU:=s.take ((kF L).length+1)
  have NV:(gK.take n).take ((kF L).length+1)=kF L ++ [(gK.take n).getD (kF L).length 0]:=by
   rw [List.take_add_one,← g]
   congr 1
   have B:(kF L).length < (gK.take n).length:=by rw [e];exact NT
   rw [List.getElem?_eq_getElem B,List.getD,List.getElem?_eq_getElem B];rfl
  rw [← NV];exact NU
 ·intro D pre bK A bI f a5 u
  have g:=jE.pre f s (by rw [e,a5.len];exact Nat.le_refl _)
  rw [a5.len,List.take_take,Nat.min_self] at g
  refine wpIn_ret ?_
  show LeavesInM Fence.wide 0 prog g6.F dZ.tmps _ ({ target:=.collected D,args:=#[] } :: dZ.defers) .returning bK
  rw [z]
  refine⟨by simp,.inl ⟨_,_,rfl,run_takeDeferred u,?_⟩⟩
  have NW:iO m.heap.size bK.heap (bK.putObj D (.deferred none)).heap:=iO.put _ u A rfl
  have w:=a5.q8 q NW
  obtain⟨C,f1,f2⟩:=Bv (P:=prog) dH g6.results (aA:=bK.putObj D (.deferred none)) d (Y:=fun v aB=>bC aA.heap aB∧tN aA.heap aB v (gK.take n))
   (g6.KE x (nJ w.res rfl (bD rfl ⟨w.aS,by
    have G:=w.lB
    rw [g] at G
    exact⟨_,_,by rw [e];rfl,G⟩⟩)))
  exact⟨C,f1,C,rfl,⟨(o.trans bI).os,(o.trans bI).tape,(o.trans bI).output⟩,f2⟩
theorem wS{n:Nat}(Z:n≤1000):(gK.take n).length=n:=by rw [List.length_take,qX];omega
theorem KQ{n:Nat}(Z:U)(aY:1≤n)(d:n≤1000):a0 rF.id #[.int .i64 (n:Int)] Z fun v aB=>bC Z aB∧eT Z aB v (gK.take n,0):=by
 refine rF.ok ?_
 unfold rF.t rF.aM.t
 refine cC (fun b=>absurd b (by omega)) fun _=>?_
 refine cC (fun b=>absurd b (by omega)) fun _=>?_
 unfold rF.aZ.t
 refine b5 (FB Z aY d) fun v aB ⟨S,aI⟩=>?_
 exact aI.hZ fun a c r=>⟨S,eT.back (p:=(gK.take n,0)) r (show In .i64 0 by decide)⟩
def e8(R:Nat):pO:=iT (gK.take R)
theorem FC:e8 0=y1:=by unfold e8;rw [List.take_zero];rfl
theorem FD{R:Nat}(Z:R < 1000):e8 (R+1)=(e8 R).next (gK.getD R 0):=by
 have a:R < gK.length:=by rw [qX];exact Z
 unfold e8
 rw [← y2]
 congr 1
 rw [List.take_add_one]
 congr 1
 rw [List.getElem?_eq_getElem a,List.getD,List.getElem?_eq_getElem a];rfl
theorem KR{n:Nat}(aY:1≤n)(a:n≤1000):y3 (e8 n).P (e8 n).gN (e8 n).Y (e8 n).gY (dB (4*n+64)) (2 ^ (4*n+64+1)):=by
 have:=(y4 gK [] 68 Bl n aY (by rw [qX];exact a)).2.1
 rw [show 68+4*(n - 1)=4*n+64 by omega] at this
 exact this
theorem KS{n:Nat}(aY:1≤n)(a:n≤1000):((e8 n).P≤dB (4*n+64)∧(e8 n).gN≤dB (4*n+64))∧((e8 n).Y≤2 ^ (4*n+64+1)∧(e8 n).gY≤2 ^ (4*n+64+1)):=by
 obtain⟨N,aQ,b,c,aV,d⟩:=KR aY a
 have aJ:=Nat.le_mul_of_pos_right (e8 n).P (show 0 < N by omega)
 have bL:=Nat.le_mul_of_pos_right (e8 n).gN aV
 have dR:=Nat.le_mul_of_pos_right (e8 n).Y (show 0 < N by omega)
 have dZ:=Nat.le_mul_of_pos_right (e8 n).gY aV
 omega
theorem FE{n:Nat}(b:n≤1000):e5 (e8 n).P∧e5 (e8 n).gN∧e5 (e8 n).Y∧e5 (e8 n).gY:=by
 rcases Nat.eq_zero_or_pos n with O | aY
 ·subst O;rw [FC];exact⟨nS (by decide),nS (by decide),nS (by decide),nS (by decide)⟩
 ·obtain⟨⟨aJ,bL⟩,dR,dZ⟩:=KS aY b
  obtain⟨a,s2⟩:=Fy (show 4*n+64 < 4200 by omega)
  exact⟨jK (by omega) a,jK (by omega) a,jK dR s2,jK dZ s2⟩
theorem FF{R:Nat}(Z:R < 1000):1≤gK.getD R 0∧gK.getD R 0 < 18446744073709551616:=by
 have a:R < gK.length:=by rw [qX];exact Z
 refine J3 (n:=1000) (by omega) (by omega) _ ?_
 rw [List.take_of_length_le (by rw [qX];exact Nat.le_refl _),List.getD,List.getElem?_eq_getElem a]
 exact List.getElem_mem a
theorem FG{a K:M}{l c m aT N aQ aA:Nat}{Z:U}{aF:M→Nat→Nat→Int→U→Prop}(r:cD Z a c (aL N))(d:l=(aL N).length)(aI:cD Z K aT (aL aQ))(e:m=(aL aQ).length)(f:aA < 18446744073709551616)(h:e5 N)(gW:e5 (aA*N+aQ))
  (g:∀ a c aB,bC Z aB→cZ dT Z aB a c (aL (aA*N+aQ))→aF a (aL (aA*N+aQ)).length c 0 aB) :
  a0 rG.id #[.slice a l c,.int .u64 (aA:Int),.slice K m aT] Z fun v aB=>c1 v fun aQ=>cW aQ fun i eO=>aU i fun a l c=>cW eO fun j k=>aW .i64 j fun N=>b6 k (aF a l c N aB):=by
 refine rG.ok ?_
 unfold rG.t rG.aM.t
 have O:N*aA+aQ=aA*N+aQ:=by rw [Nat.mul_comm]
 refine sB r d f h (jK (by omega) gW) fun aJ aG aY b4 n=>?_
 refine jB (fun O=>absurd rfl O) fun _=>?_
 refine r9 n.eH rfl (aI.aS b4) e (by rw [O];exact gW) fun bL bG o p b=>?_
 rw [O] at b ⊢
 exact g7 rfl (cK (bD rfl (cK (bR rfl (dY (g bL bG o (b4.trans p) (b.from b4.le)))))))
theorem KT{n:Nat}(h:n≤1000){aV:U}{Y:aD}(x:∀ v aB,bC aV aB→k0 aV aB v (aL (e8 n).P,aL (e8 n).Y,0)→Y v aB):
  ∀ (m R:Nat) {bY a9 cM bS h3:M} {bW bB cO bU iC mO:Nat} {Z:U},1≤R→R+m=n→bC aV Z→aV.size≤mO→mO≤Z.size→
   fT aV.size mO Z (bY,(aL (e8 R).P).length,bW) (aL (e8 R).P)→fT mO Z.size Z (a9,(aL (e8 R).Y).length,bB) (aL (e8 R).Y)→cD Z cM cO (aL (e8 R).gN)→cD Z bS bU (aL (e8 R).gY)→cD Z h3 iC (gK.take n)→
   kU.eC.t Y (m+1) bY (aL (e8 R).P).length bW a9 (aL (e8 R).Y).length bB cM (aL (e8 R).gN).length cO bS (aL (e8 R).gY).length bU h3 n iC (n:Int) (R:Int) Z:=by
 intro m
 induction m with
 | zero=>
  intro R bY a9 cM bS h3 bW bB cO bU iC mO Z aY a5 a i j b c k l g
  unfold kU.eC.t kU.dD.t
  refine cC (fun o=>by omega) fun _=>?_
  unfold kU.bF.t
  have O:R=n:=by omega
  subst O
  exact x _ _ a (k0.mk mO i j (.inl ⟨b,c⟩) (by decide))
 | succ m bO=>
  intro R bY a9 cM bS h3 bW bB cO bU iC mO Z aY a5 a i j b c k l g
  unfold kU.eC.t kU.dD.t
  refine cC (fun o=>?_) fun o=>by omega
  have y:R < (gK.take n).length:=by rw [wS h];omega
  have z:(gK.take n).getD R 0=gK.getD R 0:=by simp [List.getD,show R < n by omega]
  refine fP g (aC:=R) rfl (wS h).symm y ?_
  rw [z]
  have p:=(FF (show R < 1000 by omega)).2
  obtain⟨A,s2,hY,Au⟩:=FE (n:=R) (by omega)
  obtain⟨t1,t2,t3,t4⟩:=FE (n:=R+1) (by omega)
  have d:=FD (show R < 1000 by omega)
  have q:(e8 (R+1)).P=gK.getD R 0*(e8 R).P+(e8 R).gN:=by rw [d];rfl
  have r:(e8 (R+1)).Y=gK.getD R 0*(e8 R).Y+(e8 R).gY:=by rw [d];rfl
  have s:(e8 (R+1)).gN=(e8 R).P:=by rw [d];rfl
  have u:(e8 (R+1)).gY=(e8 R).Y:=by rw [d];rfl
  refine fN (fun G=>by omega) fun _=>?_
  refine FG b.rd rfl k rfl p A (by rw [← q];exact t1) fun aK eO B b4 eB=>?_
  refine FG (c.rd.aS b4) rfl (l.aS b4) rfl p hY (by rw [← r];exact t3) fun C D E e w=>?_
  refine jB (fun O=>absurd rfl O) fun _=>?_
  refine jB (fun O=>absurd rfl O) fun _=>?_
  refine⟨?_⟩
  have F:IntKind.i64.wrap ((R:Int)+1)=((R+1:Nat):Int):=by rw [wrap_i64] <;> omega
  rw [F]
  have f:=b4.trans e
  rw [← q] at eB ⊢
  rw [← r] at w ⊢
  have:=bO (R+1) (bY:=aK) (bW:=eO) (a9:=C) (bB:=D) (cM:=bY) (cO:=bW) (bS:=a9) (bU:=bB) (h3:=h3) (iC:=iC) (mO:=B.size) (Z:=E) (by omega) (by omega) (a.trans f) (Nat.le_trans a.le b4.le) e.le
   (fT.oM (eB.aS e) rfl a.le (Nat.le_refl _) |> fun aN=>(fT.oM eB rfl a.le (Nat.le_refl _)).aS e) (fT.oM w rfl (Nat.le_refl _) (Nat.le_refl _)) (by rw [s];exact b.rd.aS f) (by rw [u];exact c.rd.aS f) (g.aS f)
  rw [s,u] at this
  exact this
theorem KU{S:Nat}(Z:U)(w:S < 1000):a0 kU.id #[.int .i64 (S:Int)] Z fun v aB=>bC Z aB∧k0 Z aB v (aL (e8 (S+1)).P,aL (e8 (S+1)).Y,0):=by
 refine kU.ok ?_
 unfold kU.t kU.aM.t
 refine cC (fun b=>absurd b (by omega)) fun _=>?_
 refine cC (fun b=>absurd b (by omega)) fun _=>?_
 unfold kU.aZ.t kU.cF.t
 refine⟨?_⟩
 have e:IntKind.i64.wrap ((S:Int)+1)=((S+1:Nat):Int):=by rw [wrap_i64] <;> omega
 rw [e]
 refine b5 (FB (n:=S+1) Z (by omega) (by omega)) fun v aY ⟨b4,f⟩=>?_
 refine f.hZ fun h3 iC d=>?_
 rw [wS (show S+1≤1000 by omega)]
 refine⟨S+1+1,?_⟩
 unfold kU.eC.t kU.dD.t
 refine cC (fun b=>?_) fun b=>by omega
 have g:0 < (gK.take (S+1)).length:=by rw [wS (by omega)];omega
 have h:(gK.take (S+1)).getD 0 0=gK.getD 0 0:=by simp [List.getD]
 refine fP d.eH (aC:=0) rfl (wS (by omega)).symm g ?_
 rw [h]
 have i:=(FF (show 0 < 1000 by omega)).2
 refine fN (fun _=>?_) fun j=>absurd rfl j
 refine m6 i fun aK eO k aH eB=>?_
 refine m6 (N:=1) (by decide) fun l m x bX o=>?_
 refine m6 (N:=1) (by decide) fun p q r eL s=>?_
 refine⟨?_⟩
 have u:IntKind.i64.wrap ((0:Int)+1)=((1:Nat):Int):=by rw [wrap_i64] <;> omega
 rw [u]
 have c:e8 1=⟨gK.getD 0 0,1,1,0⟩:=by rw [FD (by omega),FC];simp [pO.next,y1]
 have eI:=b4.trans (aH.trans (bX.trans eL))
 have:=KT (n:=S+1) (by omega) (aV:=Z) (Y:=fun v aB=>bC Z aB∧k0 Z aB v (aL (e8 (S+1)).P,aL (e8 (S+1)).Y,0)) (fun v aB a K=>⟨a,K⟩) S 1 (bY:=aK) (bW:=eO) (a9:=l) (bB:=m) (cM:=p) (cO:=q) (bS:=none) (bU:=0) (h3:=h3) (iC:=iC) (mO:=k.size) (Z:=r)
  (Nat.le_refl _) (by omega) eI (b4.trans aH).le (bX.trans eL).le (by rw [c];exact(fT.oM eB rfl b4.le (Nat.le_refl _)).aS (bX.trans eL)) (by rw [c];exact(fT.oM o rfl (Nat.le_refl _) eL.le).aS eL)
  (by rw [c];exact s.eH) (by rw [c,eK];exact cD.nil _ _ _) (d.eH.aS (aH.trans (bX.trans eL)))
 rw [c] at this
 simp only [eK,List.length_nil] at this
 exact this
theorem KV:pT 80 (gO 64) (2 ^ 1) (2 ^ (1+1) - 1)=some (3,true):=by kernel_rfl
theorem FH:hU (gO 64) 3 true=2:=by kernel_rfl
theorem KW:wO 3000 (3*2 ^ (64+1337)) 2=true:=by kernel_rfl
theorem KX:o1 1400 (3*2 ^ (64+1337)) 2=3:=by kernel_rfl
theorem wT{n:Nat}(aV:n ≠ 0)(Z:n < 18446744073709551616):aL n=[n]:=by
 rw [j8 aV,Nat.mod_eq_of_lt Z,show n / 18446744073709551616=0 by omega,eK]
theorem FI:gK.take 5=[1,1,1,3,31]:=by kernel_rfl
theorem zL:e8 4=⟨11,3,7,2⟩:=by
 show iT (gK.take 4)=_
 rw [show gK.take 4=[1,1,1,3] by kernel_rfl];rfl
theorem wU{a K:M}{c aT l m:Nat}{L:List Nat}{Z:U}{aF:Bool→Prop}(r:cD Z a c L)(aI:cD Z K aT L)(b:l=L.length)(d:m=L.length)(g:aF true):qE lU.id #[.slice a l c,.slice K m aT] Z fun v=>eS v aF:=by
 refine Hq r aI b d ?_
 rw [decide_eq_true rfl];exact g
theorem KY(Z:U):a0 jW.id #[.int .i64 2,.int .i64 0] Z fun v aB=>bC Z aB∧∃ a c,v=.tuple #[.agg #[.int .u64 3,.slice a 1 c,.int .i64 3],.int .i64 0]∧cZ dT Z aB a c [2]:=by
 have f:=E9 (aA:=1400) (by omega) KW
 have b:=Fe (K:=1) (O:=64) Z (by omega) (by omega) (m:=3) (up:=true) KV (by rw [FH];exact f)
 rw [FH] at b
 refine b5 b fun v j b=>?_
 obtain⟨g,dZ,eE,h,d⟩:=b
 have e:v=.tuple #[.agg #[.int .u64 ((3:Nat):Int),.slice dZ (aL 2).length eE,.int .i64 3],.int .i64 0]:=
  h.trans (congrArg (fun bM=>Value.tuple #[.agg #[.int .u64 ((3:Nat):Int),.slice dZ (aL 2).length eE,.int .i64 bM],.int .i64 0]) KX)
 have i:aL 2=[2]:=wT (by decide) (by decide)
 rw [i] at e d
 exact⟨g,dZ,eE,e,d⟩
theorem KZ(Z:U):a0 nG.id #[] Z fun v aB=>bC Z aB∧v=.bool true:=by
 refine nG.ok ?_
 unfold nG.t nG.aM.t
 refine b5 (KQ (n:=5) Z (by omega) (by omega)) fun v aY ⟨b4,k⟩=>?_
 refine k.hZ fun aJ aG l J=>?_
 refine b5 (KU (S:=3) aY (by omega)) fun v m ⟨h,s2⟩=>?_
 obtain⟨⟨_,_,_,o,⟨bL,bG,p,q⟩,⟨dR,dA,r,s⟩,u,_⟩,_⟩:=s2
 subst o;subst p;subst r;subst u
 refine g7 rfl (cK (bD rfl (cK (bD rfl (cK (bR rfl (dY ?_)))))))
 refine b5 (KY m) fun v i ⟨c,dZ,eE,w,x⟩=>?_
 subst w
 refine g7 rfl (cK (eW rfl (cK (bR rfl (cK (bD rfl (cK (bR rfl (dY (cK (bR rfl (dY ?_))))))))))))
 refine eX fun Q y z=>?_
 refine jR y (by exact(by decide:0 < 3)) fun T A B=>?_
 refine jR A (by exact(by decide:1 < 3)) fun V C D=>?_
 refine jR C (by exact(by decide:2 < 3)) fun a E b=>?_
 have eI:bC i a:=b2.aS (b2.aS (b2.aS z B (Nat.le_refl _)) D (Nat.le_refl _)) b (Nat.le_refl _)
 refine jB (fun O=>absurd rfl O) fun _=>?_
 refine jB (fun O=>absurd rfl O) fun _=>?_
 refine jB (fun O=>absurd rfl O) fun _=>?_
 unfold nG.aZ.t
 have e:dU a i.size [.int .u64 3,.slice dZ 1 eE,.int .i64 3]:=E
 have sQ:cD a aJ aG [1,1,1,3,31]:=by have:=l.eH.aS (h.trans (c.trans eI));rwa [FI] at this
 have Bw:cD a bL bG [11]:=by
  have t:cD a bL bG (aL (e8 4).P):=q.eH.aS (c.trans eI)
  rwa [zL,wT (by decide) (by decide)] at t
 have rB:cD a dR dA [7]:=by
  have t:cD a dR dA (aL (e8 4).Y):=s.eH.aS (c.trans eI)
  rwa [zL,wT (by decide) (by decide)] at t
 have rC:cD a dZ eE [2]:=x.eH.aS eI
 have aH:(gK.take 5,(0:Int)).1.length=[1,1,1,3,31].length:=by rw [FI]
 have bX:((aL (e8 (3+1)).P,aL (e8 (3+1)).Y,(0:Int)).1).length=[11].length:=by
  show(aL (e8 4).P).length=_
  rw [zL,wT (by decide) (by decide)]
 have eL:((aL (e8 (3+1)).P,aL (e8 (3+1)).Y,(0:Int)).2.1).length=[7].length:=by
  show(aL (e8 4).Y).length=_
  rw [zL,wT (by decide) (by decide)]
 refine vU [1,1,1,3,31] (by rfl) (by simp) (by simp) fun Nv F d=>?_
 refine wU (sQ.aS d) (F.rd (by simp)) aH rfl ?_
 refine jP (fun O=>by cases O) fun _=>?_
 refine vU [11] (by rfl) (by simp) (by simp) fun Nw G f=>?_
 refine wU (Bw.aS (d.trans f)) (G.rd (by simp)) bX rfl ?_
 refine jP (fun O=>by cases O) fun _=>?_
 refine vU [7] (by rfl) (by simp) (by simp) fun fX H j=>?_
 refine wU (rB.aS (d.trans (f.trans j))) (H.rd (by simp)) eL rfl ?_
 refine jP (fun O=>by cases O) fun _=>?_
 unfold nG.bF.t
 have b:bC a fX:=d.trans (f.trans j)
 refine lT (e.aS b) rfl (bR rfl ?_)
 refine fN (fun _=>?_) fun O=>absurd rfl O
 refine lT (e.aS b) rfl (bD rfl ?_)
 refine vU [2] (by rfl) (by simp) (by simp) fun Nx I g=>?_
 refine wU (rC.aS (b.trans g)) (I.rd (by simp)) rfl rfl ?_
 refine lT (e.aS (b.trans g)) rfl (bR rfl ?_)
 exact⟨b4.trans (h.trans (c.trans (eI.trans (b.trans g)))),rfl⟩
theorem BC{Z:U}{aF:Bool→U→Prop}(g:∀ aB,bC Z aB→aF true aB):a0 nG.id #[] Z fun v aB=>eS v fun K=>aF K aB:=by
 refine b5 (KZ Z) fun v aB ⟨S,O⟩=>?_
 subst O;exact cY rfl (g aB S)
def pE:Nat→Nat→Nat→List Nat
 | 0,_,_=>[]
 | n+1,a1,bH=>if bH=0 then [] else a1 / bH :: pE n bH (a1 % bH)
structure K0(Z:U)(m:M)(a:M)(c:Nat)(L:List Nat):Prop where
 r:cL b7 Z a c L
 aN:L=[]∨∀ p,a=some p→fO p.block m
structure Nq(Z:U)(m:M)(FJ:List oK)(fE:List Nat):Prop where
 len:FJ.length=fE.length
 at_:∀ aC aI,FJ[aC]?=some aI→aI.2.1=(D.aL (fE.getD aC 0)).length∧K0 Z m aI.1 aI.2.2 (D.aL (fE.getD aC 0))
def n2(bV:List Value):Prop:=∀ v ∈ bV,∀ n:Int,v ≠ .int .u32 n
theorem pW(p:Bool)(a:M)(l c:Nat):n2 [.bool p,.slice a l c]:=by
 intro v bP n
 simp only [List.mem_cons,List.not_mem_nil,or_false] at bP
 rcases bP with O | O <;> (rw [O];exact fun Z=>by cases Z)
theorem K1{Z:U}{aE:Nat}{bV:List Value}{a:M}{c:Nat}{L:List Nat}(aN:dU Z aE bV)(d:n2 bV)(r:cL b7 Z a c L):L=[]∨fO aE a:=by
 cases L with
 | nil=>exact Or.inl rfl
 | cons N L=>
  obtain⟨p,O,g⟩:=r.at_ 0 N (by simp)
  refine Or.inr fun h b e=>?_
  rw [O] at b;cases b
  obtain⟨t,at_⟩:=aN.at_
  unfold gL at g
  rw [p8,e,at_] at g
  simp only at g
  split at g
  ·cases g
  ·have f:=Array.mem_of_getElem? g
   exact d (b7.enc N) (by simpa using f) (N:Int) rfl
theorem fY.cG{Z aB:U}{aE:Nat}{bV:List Value}{p:Bool}{a:M}{l c:Nat}{R:Int}(bM:fY Z p a l c R)(aN:dU Z aE bV)(b:n2 bV)(S:b2 aE Z aB):fY aB p a l c R:=by
 refine⟨bM.p,bM.l,?_⟩
 rcases K1 aN b bM.r with O | O
 ·rw [O];exact cL.nil _ _ _
 ·exact bM.r.cG O S
theorem uV{Z:U}{aE:Nat}{bV:List Value}(aN:dU Z aE bV)(b:bV.length=2){p:Bool}{a:M}{l c:Nat}{aF:U→Prop}(g:∀ aB,b2 aE Z aB→dU aB aE [.bool p,.slice a l c]→aF aB):
  b3 Z ((⟨aE,0,none⟩:Addr).add 0) (.bool p) fun aY=>b3 aY ((⟨aE,0,none⟩:Addr).add 1) (.slice a l c) aF:=by
 match bV,b with
 | [j,k],_=>
  refine jR aN (by exact(by decide:0 < 2)) fun m d e=>?_
  refine jR d (by exact(by decide:1 < 2)) fun f h i=>?_
  exact g f (e.trans i) h
def wV(Z:U)(R:Int)(v:Value)(aB:U):Prop:=bC Z aB∧∃ p a l c,v=.agg #[.bool p,.slice a l c]∧fY aB p a l c R
theorem wV.elim{Z aB:U}{v:Value}{R:Int}{aF:Bool→M→Nat→Nat→U→Prop}(aI:wV Z R v aB)(g:∀ p a l c,bC Z aB→fY aB p a l c R→aF p a l c aB):oT v aB aF:=by
 obtain⟨S,p,a,l,c,O,bM⟩:=aI
 subst O
 exact eW rfl (cK (cY rfl (cK (bD rfl (dY (g _ _ _ _ S bM))))))
theorem FK{aV Z:U}{aE:Nat}{bV:List Value}{R:Int}(aN:dU Z aE bV)(e:bV.length=2)(f:n2 bV)(g:bC aV Z)(h:aV.size≤aE){p:Bool}{a:M}{l c:Nat}(bM:fY Z p a l c R):
  b3 Z ((⟨aE,0,none⟩:Addr).add 0) (.bool p) fun aY=>b3 aY ((⟨aE,0,none⟩:Addr).add 1) (.slice a l c) fun b=>fB b ((⟨aE,0,none⟩:Addr).add 0) fun i=>eS i fun K=>fB b ((⟨aE,0,none⟩:Addr).add 1) fun j=>aU j fun a l c=>wV aV R (.agg #[.bool K,.slice a l c]) b:=by
 refine uV aN e fun b d k=>?_
 exact l3 k ⟨b2.aS g d h,p,a,l,c,rfl,bM.cG aN f d⟩
section
variable {a K:M} {c aT l m N n:Nat} {Z:U} {R aC aQ:Int} {p aE:Bool} {aF:Bool→M→Nat→Nat→U→Prop}
theorem wW(b:aQ=(n:Int))(e:n≤100000)(r:fY Z p a l c (N:Int))(d:iZ N)(g:∀ p a l c aB,bC Z aB→fY aB p a l c ((N*2 ^ n:Nat):Int)→aF p a l c aB):
  a0 kM.id #[.agg #[.bool p,.slice a l c],.int .i64 aQ] Z fun v aB=>oT v aB aF:=by
 subst b
 refine b5 (kM.bI (p:=p) (N:=(n:Int)) r.r r.l (by rw [qD];omega) d (by omega) (Or.inl (by omega))) fun v aB ⟨S,aI⟩=>?_
 rw [r.cT] at aI
 rw [show(N:Int)*2 ^ ((n:Int).toNat)=((N*2 ^ n:Nat):Int) by rw [Int.toNat_natCast,Int.natCast_mul,Int.natCast_pow];rfl] at aI
 exact uG aI fun p a l c bM _=>g p a l c aB S bM
theorem K2(r:fY Z p a l c R)(aI:fY Z aE K m aT aC)(b:iZ R.natAbs)(d:iZ aC.natAbs)(g:∀ p a l c aB,bC Z aB→fY aB p a l c (R*aC)→aF p a l c aB):
  a0 nT.id #[.agg #[.bool p,.slice a l c],.agg #[.bool aE,.slice K m aT]] Z fun v aB=>oT v aB aF:=by
 refine b5 (nT.bI (p:=p) (aE:=aE) r.r r.l aI.r aI.l b d) fun v aB ⟨S,t⟩=>?_
 rw [r.cT,aI.cT] at t
 exact uG t fun p a l c bM _=>g p a l c aB S bM
theorem K3(b:aQ=(n:Int))(e:n≤100000)(r:fY Z p a l c R)(d:(D.aL R.natAbs).length≤150000)(g:∀ p a l c aB,bC Z aB→fY aB p a l c (hB R ((2 ^ n:Nat):Int))→aF p a l c aB):
  a0 lF.id #[.agg #[.bool p,.slice a l c],.int .i64 aQ] Z fun v aB=>oT v aB aF:=by
 subst b
 refine b5 (lF.bI (p:=p) (N:=(n:Int)) r.r r.l (by rw [qD];omega) d) fun v aB ⟨S,aI⟩=>?_
 rw [r.cT,show(2:Int) ^ ((n:Int).toNat)=((2 ^ n:Nat):Int) by rw [Int.toNat_natCast,Int.natCast_pow];rfl] at aI
 exact uG aI fun p a l c bM _=>g p a l c aB S bM
theorem BD(r:fY Z p a l c (N:Int))(aI:fY Z aE K m aT (n:Int))(d:n ≠ 0)(b:(D.aL N).length≤150000)(BE:(D.aL n).length≤150000)(g:∀ p a l c aB,bC Z aB→fY aB p a l c ((hC N n:Nat):Int)→aF p a l c aB):
  a0 k4.id #[.agg #[.bool p,.slice a l c],.agg #[.bool aE,.slice K m aT]] Z fun v aB=>oT v aB aF:=by
 refine b5 (k4.bI (p:=p) (aE:=aE) r.r r.l aI.r aI.l b BE) fun v aB ⟨S,t⟩=>?_
 rw [r.cT,aI.cT] at t
 have O:uE (N:Int) (n:Int)=dG ((hC N n:Nat):Int):=by
  unfold uE k1
  rw [if_neg (by omega),decide_eq_false (by omega),decide_eq_false (by omega),Int.natAbs_natCast,Int.natAbs_natCast];rfl
 rw [O] at t
 exact uG t fun p a l c bM _=>g p a l c aB S bM
theorem K4(r:fY Z p a l c (N:Int))(g:∀ p a l c aB,bC Z aB→fY aB p a l c (N:Int)→aF p a l c aB):
  a0 sT.id #[.agg #[.bool p,.slice a l c]] Z fun v aB=>oT v aB aF:=by
 refine b5 (dW:=wV Z (N:Int)) ?_ fun v aB aI=>aI.elim fun p a l c S bM=>g p a l c aB S bM
 refine sT.ok ?_
 unfold sT.t sT.aM.t
 refine eX fun aY e b4=>?_
 refine eX fun i f b=>?_
 refine lT (e.aS b) rfl (bD rfl ?_)
 refine yY (N:=N) ((r.r.aS b4).aS b) r.l fun k5 dR eL dA j d h=>?_
 exact FK (aV:=Z) (f.aS d) rfl (pW _ _ _ _) (b4.trans (b.trans d)) b4.le h
theorem FL(e:aQ=(n:Int))(f:n≤100000)(r:fY Z p a l c (N:Int))(h:iZ N)(g:∀ p a l c aB,bC Z aB→fY aB p a l c ((N*2 ^ n:Nat):Int)→aF p a l c aB):
  a0 rH.id #[.agg #[.bool p,.slice a l c],.int .i64 aQ] Z fun v aB=>oT v aB aF:=by
 refine b5 (dW:=wV Z ((N*2 ^ n:Nat):Int)) ?_ fun v aB aI=>aI.elim fun p a l c S bM=>g p a l c aB S bM
 refine rH.ok ?_
 unfold rH.t rH.aM.t
 refine eX fun aY i b4=>?_
 refine eX fun o j b=>?_
 refine cC (fun _=>?_) fun k=>absurd (show aQ≥0 by omega) k
 refine l3 (i.aS b) ?_
 refine wW e f ((r.aS b4).aS b) h fun k5 dR eL dA q d m=>?_
 exact FK (aV:=Z) (j.aS d) rfl (pW _ _ _ _) (b4.trans (b.trans d)) b4.le m
end
def uW(m O aE:Nat)(S aQ:Int):Prop:=
 (dV m+O - 64=0∧m*2 ^ (O+(aE+(dV m+O - 64+4)) - 64)*2 ^ 2≤2 ^ (aE+(dV m+O - 64+4))*3∧S=0∧aQ=((m*2 ^ (O+aE - 64):Nat):Int))∨
 (S=((hC (m*2 ^ (O+(aE+(dV m+O - 64+4)) - 64)*2 ^ 1) (dB (aE+(dV m+O - 64+4))):Nat):Int)∧
  aQ=hB (((m*2 ^ (O+(aE+(dV m+O - 64+4)) - 64)*2 ^ 1:Nat):Int) - S*((dB (aE+(dV m+O - 64+4)):Nat):Int)) ((2 ^ (dV m+O - 64+4+1):Nat):Int))
def wX(Z:U)(m O aE:Nat)(v:Value)(aB:U):Prop:=
 bC Z aB∧∃ S aQ p a l c b d e c8,uW m O aE S aQ∧v=.tuple #[.agg #[.bool p,.slice a l c],.agg #[.bool b,.slice d e c8]]∧fY aB p a l c S∧fY aB b d e c8 aQ
theorem FM{Y:aD}{aV Z:U}{m O aE:Nat}{S aQ:Int}{b d:Nat}{g h:List Value}(t:∀ v aB,wX aV m O aE v aB→Y v aB)(u:bC aV Z)(i:dU Z b g)(w:dU Z d h)(x:g.length=2)(y:h.length=2)(q:n2 g)(r:n2 h)(s:b ≠ d)(z:aV.size≤b)(A:aV.size≤d)
  {p j:Bool} {a k:M} {l c n c8:Nat} (bM:fY Z p a l c S) (jF:fY Z j k n c8 aQ) (B:uW m O aE S aQ) :
  b3 Z ((⟨b,0,none⟩:Addr).add 0) (.bool p) fun C=>b3 C ((⟨b,0,none⟩:Addr).add 1) (.slice a l c) fun D=>b3 D ((⟨d,0,none⟩:Addr).add 0) (.bool j) fun E=>b3 E ((⟨d,0,none⟩:Addr).add 1) (.slice k n c8) fun e=>
  fB e ((⟨b,0,none⟩:Addr).add 0) fun F=>eS F fun G=>fB e ((⟨b,0,none⟩:Addr).add 1) fun H=>aU H fun I J P=>fB e ((⟨d,0,none⟩:Addr).add 0) fun Q=>eS Q fun T=>fB e ((⟨d,0,none⟩:Addr).add 1) fun V=>aU V fun Nv Nw Nx=>
   Y (.tuple #[.agg #[.bool G,.slice I J P],.agg #[.bool T,.slice Nv Nw Nx]]) e:=by
 refine uV i x fun aY b4 Ny=>?_
 have o:=w.cG (fun O=>s O.symm) b4
 refine uV o y fun NA f Nz=>?_
 refine l3 (Ny.cG s f) (l3 Nz ?_)
 exact t _ _ ⟨b2.aS (b2.aS u b4 z) f A,S,aQ,p,a,l,c,j,k,n,c8,B,rfl,(bM.cG i q b4).cG o r f,(jF.cG i q b4).cG o r f⟩
theorem K5{Y:aD}{aV Z:U}{m O aE a1 P S t:Nat}{b c i j k:Nat}{e f:List Value}(V:∀ v aB,wX aV m O aE v aB→Y v aB)(Nv:bC aV Z)(Nw:dU Z b e)(Nx:dU Z c f)(Ny:e.length=2)(Nz:f.length=2)(NA:n2 e)(NB:n2 f)(NC:b ≠ c)(ND:aV.size≤b)(NF:aV.size≤c)
  {l o p:Bool} {q r s:M} {u w x y z A:Nat} (B:dU Z i [.bool l,.slice q u w]) (NG:fY Z l q u w (a1:Int)) (C:dU Z j [.bool o,.slice r x y]) (NH:fY Z o r x y (P:Int)) (d:dU Z k [.bool p,.slice s z A]) (E:fY Z p s z A (S:Int))
  (g:e5 (a1*2 ^ 1)) (F:e5 P) (G:e5 S) (NN:t≤5000) (H:uW m O aE (S:Int) (hB (((a1*2 ^ 1:Nat):Int) - (S:Int)*(P:Int)) ((2 ^ (t+1):Nat):Int))) :
  mT.bF.t Y ⟨b,0,none⟩ ⟨c,0,none⟩ (t:Int) ⟨i,0,none⟩ ⟨j,0,none⟩ ⟨k,0,none⟩ Z:=by
 have NI:(D.aL (S*P)).length≤16384+16384:=by
  have aY:=(rZ S).mpr G
  have I:=(rZ P).mpr F
  have:=wA S P;omega
 unfold mT.bF.t
 refine⟨d.lt,l3 d ⟨B.lt,l3 B ?_⟩⟩
 refine wW (n:=1) rfl (by decide) NG (oQ (jK (Nat.le_mul_of_pos_right a1 (by decide)) g)) fun l5 aJ aH aG aY b4 NJ=>?_
 refine⟨fL b4 (Nat.le_refl _),d.lt,l3 (d.aS b4) ⟨C.lt,l3 (C.aS b4) ?_⟩⟩
 refine K2 (E.aS b4) (NH.aS b4) (oQ G) (oQ F) fun lH bL bX bG I a J=>?_
 refine⟨fL a b4.le,?_⟩
 rw [← Int.natCast_mul] at J H
 refine JH (NJ.aS a) J (oQ g) (Nat.le_trans NI (by decide)) fun k5 dR eL dA Q h NK=>?_
 refine⟨fL h (b4.trans a).le,?_⟩
 refine cN ((t+1:Nat):Int) (by omega) (by omega) (by omega) ?_
 have lO:(D.aL (((a1*2 ^ 1:Nat):Int) - ((S*P:Nat):Int)).natAbs).length≤150000:=by
  have aY:=(rZ (a1*2 ^ 1)).mpr g
  have I:=wB (a1*2 ^ 1) (S*P)
  have Q:(((a1*2 ^ 1:Nat):Int) - ((S*P:Nat):Int)).natAbs≤a1*2 ^ 1+S*P:=by omega
  have NL:=m9 Q
  omega
 refine K3 (n:=t+1) rfl (by omega) NK lO fun NO dZ fQ eE NL T NM=>?_
 refine⟨fL T (b4.trans (a.trans h)).le,?_⟩
 have eI:=b4.trans (a.trans (h.trans T))
 exact FM V (Nv.trans eI) (Nw.aS eI) (Nx.aS eI) Ny Nz NA NB NC ND NF (E.aS eI) NM H
theorem K6{Y:aD}{aV Z:U}{m O aE a1 t aA:Nat}{f g o:Nat}{q r:List Value}(NB:∀ v aB,wX aV m O aE v aB→Y v aB)(NC:bC aV Z)(s:dU Z f q)(ND:dU Z g r)(u:q.length=2)(NF:r.length=2)(NG:n2 q)(NH:n2 r)(NI:f ≠ g)(NJ:aV.size≤f)(NK:aV.size≤g)
  {I:Bool} {J:M} {P Q:Nat} (NL:dU Z o [.bool I,.slice J P Q]) (NM:fY Z I J P Q (a1:Int)) (NN:aA < 4200) (T:e5 (a1*2 ^ 1+1)) (NO:t≤5000)
  (NP:uW m O aE ((hC (a1*2 ^ 1) (dB aA):Nat):Int) (hB (((a1*2 ^ 1:Nat):Int) - ((hC (a1*2 ^ 1) (dB aA):Nat):Int)*((dB aA:Nat):Int)) ((2 ^ (t+1):Nat):Int))) :
  mT.aZ.t Y ⟨f,0,none⟩ ⟨g,0,none⟩ (t:Int) (aA:Int) ⟨o,0,none⟩ Z:=by
 have w:e5 (a1*2 ^ 1):=jK (Nat.le_succ _) T
 have V:e5 (dB aA):=uH (aA:=aA) (by omega) (Nat.le_add_right _ _)
 have x:dB aA ≠ 0:=by
  have:=uX (show aA≤4400 by omega)
  have:0 < 2 ^ aA:=Nat.pow_pos (by decide)
  omega
 have NQ:e5 (hC (a1*2 ^ 1) (dB aA)):=by
  refine jK (m:=a1*2 ^ 1+1) ?_ T
  have aY:hC (a1*2 ^ 1) (dB aA)≤a1*2 ^ 1 / dB aA+1:=by unfold hC;split <;> omega
  have y:=Nat.div_le_self (a1*2 ^ 1) (dB aA)
  omega
 have z:(D.aL (a1*2 ^ 1)).length≤150000:=Nat.le_trans ((rZ _).mpr w) (by decide)
 have A:(D.aL (dB aA)).length≤150000:=Nat.le_trans ((rZ _).mpr V) (by decide)
 have Nv:iZ a1:=oQ (jK (Nat.le_mul_of_pos_right a1 (by decide)) w)
 unfold mT.aZ.t
 refine EH rfl NN fun aJ aG aY b4 NR=>?_
 refine yY NR.rd rfl fun lH bL bX bG y NS NT=>?_
 refine Eu rfl fun NU B Nw Ob C=>?_
 have h:=b4.trans (NS.trans Nw)
 have NV:=s.aS h
 have NW:=ND.aS h
 have E:=NL.aS h
 have F:=NM.aS h
 have k:=NT.aS Nw
 have NX:=NC.trans h
 have fin:∀ {i fX:U} {aE:Nat} {bV:List Value} {p:Bool} {a:M} {l c:Nat},bC B i→B.size≤aE→dU i aE bV→bV.length=2→n2 bV→fY i p a l c ((hC (a1*2 ^ 1) (dB aA):Nat):Int)→
   b3 i ((⟨aE,0,none⟩:Addr).add 0) (.bool p) fun aY=>b3 aY ((⟨aE,0,none⟩:Addr).add 1) (.slice a l c) fun y=>mT.bF.t Y ⟨f,0,none⟩ ⟨g,0,none⟩ (t:Int) ⟨o,0,none⟩ ⟨NU,0,none⟩ ⟨aE,0,none⟩ y:=by
  intro i fX aE bV p a l c NY NZ Nx N0 N1 N2
  refine uV Nx N0 fun N3 Ny N4=>?_
  have eI:bC B N3:=b2.aS NY Ny NZ
  exact K5 NB (NX.trans eI) (NV.aS eI) (NW.aS eI) u NF NG NH NI NJ NK (E.aS eI) (F.aS eI) (C.aS eI) (k.aS eI) N4 (N2.cG Nx N1 Ny) w V NQ NO NP
 refine⟨E.lt,l3 E ⟨C.lt,l3 C ⟨?_,?_⟩⟩⟩
 ·refine wW (n:=1) rfl (by decide) F Nv fun Oc dZ fQ eE N5 b Nz=>?_
  refine⟨fL b (Nat.le_refl _),?_,?_⟩
  ·refine BD Nz (k.aS b) x z A fun N6 bY N7 bW NA d G=>?_
   refine⟨fL d b.le,?_⟩
   refine eX fun j s e=>⟨fL e (b.trans d).le,?_⟩
   exact fin (fX:=j) (b.trans (d.trans e)) (b.trans d).le s rfl (pW _ _ _ _) (G.aS e)
  ·refine eX fun NA N8 d=>⟨fL d b.le,?_⟩
   refine BD (Nz.aS d) ((k.aS b).aS d) x z A fun N9 a9 u bB j e H=>?_
   refine⟨fL e (b.trans d).le,?_⟩
   exact fin (fX:=j) (b.trans (d.trans e)) b.le (N8.aS e) rfl (pW _ _ _ _) H
 ·refine eX fun N5 Oa b=>⟨fL b (Nat.le_refl _),?_⟩
  refine wW (n:=1) rfl (by decide) (F.aS b) Nv fun N6 bY N7 bW NA d G=>?_
  refine⟨fL d b.le,?_⟩
  refine BD G ((k.aS b).aS d) x z A fun N9 a9 u bB j e H=>?_
  refine⟨fL e (b.trans d).le,?_⟩
  exact fin (fX:=j) (b.trans (d.trans e)) (Nat.le_refl _) ((Oa.aS d).aS e) rfl (pW _ _ _ _) H
theorem K7{Z:U}{m O aE:Nat}{aK y:Int}{p:Bool}{a:M}{l c:Nat}(bM:fY Z p a l c (m:Int))(j:m < 18446744073709551616)(NL:O < 1036)(NM:65≤aE)(NN:aE≤400)(NO:dV m≤64)(aY:aK=(O:Int) - 64)(e:y=(aE:Int)):
  a0 mT.id #[.agg #[.bool p,.slice a l c],.int .i64 aK,.int .i64 y] Z (wX Z m O aE):=by
 subst aY;subst e
 obtain⟨T,k⟩:∃ T,T=dV m+O - 64:=⟨_,rfl⟩
 have NP:T≤1036:=by omega
 refine mT.ok ?_
 unfold mT.t mT.aM.t
 refine eX fun P Q f=>?_
 refine eX fun V o h=>?_
 refine eX fun NQ z q=>?_
 have s:=(Q.aS h).aS q
 have A:=o.aS q
 have u:=f.trans (h.trans q)
 have i:=bM.aS u
 refine lT s rfl (bD rfl ?_)
 refine IK (N:=m) i.r i.l ?_
 refine cN ((dV m:Int)+((O:Int) - 64)) rfl (by omega) (by omega) ?_
 refine cN ((T+4:Nat):Int) (by split <;> omega) (by omega) (by omega) ?_
 refine cN ((aE+(T+4):Nat):Int) (by omega) (by omega) (by omega) ?_
 refine l3 s ?_
 have Nv:O+(aE+(T+4)) - 64≤100000:=by omega
 refine cN ((O+(aE+(T+4)) - 64:Nat):Int) (by omega) (by omega) (by omega) ?_
 refine FL rfl Nv i (yR j) fun l5 aJ aH aG aY b4 B=>?_
 refine Eu rfl fun eY e g NR C=>?_
 have w:e5 (m*2 ^ (O+(aE+(T+4)) - 64)*2 ^ 1+1):=by
  have Nw:m < 2 ^ 64:=by rw [show(2:Nat) ^ 64=18446744073709551616 by decide];exact j
  have NS:m*2 ^ (O+(aE+(T+4)) - 64) < 2 ^ (64+(O+(aE+(T+4)) - 64)):=by
   rw [Nat.pow_add];exact Nat.mul_lt_mul_of_pos_right Nw (Nat.pow_pos (by decide))
  refine iY (S:=64+(O+(aE+(T+4)) - 64)+1) ?_ (by omega)
  rw [Nat.pow_succ];omega
 have fin:∀ {b:U},bC e b→mT.aZ.t (wX Z m O aE) ⟨P.size,0,none⟩ ⟨V.size,0,none⟩ ((T+4:Nat):Int) ((aE+(T+4):Nat):Int) ⟨eY,0,none⟩ b:=by
  intro b d
  have eI:=(b4.trans g).trans d
  refine K6 (m:=m) (O:=O) (aE:=aE) (fun v aB aI=>aI) ((u.trans (b4.trans g)).trans d) (A.aS eI) (z.aS eI) rfl rfl (pW _ _ _ _) (pW _ _ _ _) ?_ f.le (f.trans h).le (C.aS d) ((B.aS g).aS d) (by omega) w (by omega) (Or.inr ⟨?_,?_⟩)
  ·have:=o.lt;omega
  ·rw [k]
  ·rw [k]
 refine fN (fun NT=>?_) fun _=>fin (bC.refl _)
 have NU:T=0:=by omega
 refine l3 C ?_
 refine K4 (B.aS g) fun k5 dR eL dA b d Nx=>?_
 refine wW (n:=2) rfl (by decide) Nx (oQ (jK (by omega) w)) fun NV dZ fQ eE E Ny Nz=>?_
 refine wG rfl (by omega) fun bY bW NW F NA=>?_
 have NB:iZ (2 ^ (aE+(T+4))):=D1 (S:=aE+(T+4)+1) (Nat.pow_lt_pow_right (by decide) (by omega)) (by omega)
 refine yU NA.rd rfl (aA:=3) rfl (by decide) NB fun a9 bB NX G NC=>?_
 refine yY NC.rd rfl fun NY cM NZ cO N0 H ND=>?_
 have d1:(D.aL (m*2 ^ (O+(aE+(T+4)) - 64)*2 ^ 2)).length≤700000:=by
  have aY:=(rZ _).mpr w
  have e:=wA (m*2 ^ (O+(aE+(T+4)) - 64)) (2 ^ 2)
  have b:(D.aL (2 ^ 2)).length≤1:=vY (S:=3) (by decide) (by decide)
  have E:=m9 (show m*2 ^ (O+(aE+(T+4)) - 64)≤m*2 ^ (O+(aE+(T+4)) - 64)*2 ^ 1+1 by omega)
  omega
 have d2:(D.aL (2 ^ (aE+(T+4))*3)).length≤700000:=by
  have e:=wA (2 ^ (aE+(T+4))) 3
  have b:(D.aL 3).length≤1:=vY (S:=3) (by decide) (by decide)
  have E:(D.aL (2 ^ (aE+(T+4)))).length≤60000:=vY (S:=aE+(T+4)+1) (Nat.pow_lt_pow_right (by decide) (by omega)) (by omega)
  omega
 refine JJ (Nz.aS (F.trans (G.trans H))) ND d1 d2 fun N1 NF=>?_
 have I:=d.trans (Ny.trans (F.trans (G.trans (H.trans NF))))
 refine cC (fun J=>?_) fun _=>fin I
 have NG:m*2 ^ (O+(aE+(T+4)) - 64)*2 ^ 2≤2 ^ (aE+(T+4))*3:=by
  refine Nat.le_of_not_lt fun N2=>?_
  unfold g4 at J
  rw [if_neg (by omega),if_neg (by omega)] at J
  omega
 have eI:=(b4.trans g).trans I
 refine l3 (s.aS eI) ?_
 have NH:O+aE - 64≤100000:=by omega
 refine cN ((O+aE - 64:Nat):Int) (by omega) (by omega) (by omega) ?_
 refine FL rfl NH (i.aS eI) (yR j) fun N3 N4 N5 N6 NI x NJ=>?_
 have NK:fY NI false none 0 0 (0:Int):=⟨rfl,by rw [show(0:Int).natAbs=0 from rfl,D.eK];rfl,by rw [show(0:Int).natAbs=0 from rfl,D.eK];exact cL.nil _ _ _⟩
 refine FM (m:=m) (O:=O) (aE:=aE) (fun v aB aI=>aI) ((u.trans eI).trans x) ((A.aS eI).aS x) ((z.aS eI).aS x) rfl rfl (pW _ _ _ _) (pW _ _ _ _) ?_ f.le (f.trans h).le NK NJ (Or.inl ⟨by omega,?_,rfl,rfl⟩)
 ·have:=o.lt;omega
 ·rw [← k];exact NG
def pX(m O aE aT aF:Nat):Prop:=
 ∃ S aQ:Int,uW m O aE S aQ∧((S ≠ 0∧aT=aQ.natAbs∧aF=S.natAbs)∨(S=0∧aT=dB (aE+1) / 2 ^ 2 - aQ.natAbs∧aF=1))
theorem wY{Z:U}{m O aE:Nat}{aX aK k:Int}{aF:M→Nat→Nat→M→Nat→Nat→U→Prop}(aV:aX=(m:Int))(o:m < 18446744073709551616)(H:O < 1036)(I:65≤aE)(J:aE≤400)(P:dV m≤64)(aY:aK=(O:Int) - 64)(q:k=(aE:Int))
  (g:∀ aT S a c b c8 aB,pX m O aE aT S→bC Z aB→cL b7 aB a c (D.aL aT)→cL b7 aB b c8 (D.aL S)→aF a (D.aL aT).length c b (D.aL S).length c8 aB) :
  a0 n3.id #[.int .u64 aX,.int .i64 aK,.int .i64 k] Z fun v aB=>c1 v fun aQ=>cW aQ fun Q eO=>aU Q fun a l c=>cW eO fun T V=>aU T fun K m aT=>b6 V (aF a l c K m aT aB):=by
 refine b5 (dW:=fun v aB=>bC Z aB∧∃ aT S a c b c8,pX m O aE aT S∧v=.tuple #[.slice a (D.aL aT).length c,.slice b (D.aL S).length c8]∧cL b7 aB a c (D.aL aT)∧cL b7 aB b c8 (D.aL S)) ?_
  fun v aB ⟨eI,aT,S,a,c,b,c8,Nv,O,r,Nw⟩=>by subst O;exact g7 rfl (cK (bD rfl (cK (bD rfl (dY (g aT S a c b c8 aB Nv eI r Nw))))))
 subst aV;subst aY;subst q
 refine n3.ok ?_
 unfold n3.t n3.aM.t
 refine tZ rfl o fun aJ aG aY b4 Nx=>?_
 refine yY Nx.rd rfl fun lH bL bX bG q Ny Nz=>?_
 refine b5 (K7 Nz o H I J P rfl rfl) fun v s ⟨NA,S,aQ,p,a,l,c,NP,b,NQ,c8,u,cS,bM,jF⟩=>?_
 subst cS
 refine g7 rfl (cK (eW rfl (cK (cY rfl (cK (bD rfl (dY (cK (eW rfl (cK (cY rfl (cK (bD rfl (dY (dY ?_)))))))))))))))
 refine eX fun NB w x=>?_
 refine eX fun NR NC y=>?_
 refine uV (w.aS y) rfl fun NS z ND=>?_
 have A:NB.size ≠ s.size:=by have:=w.lt;omega
 refine uV (NC.cG A z) rfl fun NF B C=>?_
 have E:=ND.cG (fun O=>A O.symm) B
 have f:bC s NF:=b2.aS (b2.aS (x.trans y) z (Nat.le_refl _)) B x.le
 have h:=bM.aS f
 have e:=jF.aS f
 have F:=b4.trans (Ny.trans (NA.trans f))
 refine l3 E ?_
 refine JI h fun NT d=>?_
 by_cases i:S=0
 ·have NG:g4 S 0=0:=by unfold g4;rw [if_neg (by omega),if_pos i]
  rw [NG]
  refine jB (fun O=>absurd rfl O) fun _=>?_
  refine cN ((aE+1:Nat):Int) (by omega) (by omega) (by omega) ?_
  refine EH rfl (by omega) fun NU NV NW NH NI=>?_
  refine AW (n:=2) rfl NI.rd rfl (by decide) fun NX NY fX NJ NK=>?_
  have j:=d.trans (NH.trans NJ)
  refine lT (C.aS j) rfl (bD rfl ?_)
  refine yT NK.rd rfl (e.aS j).r e.l fun NZ N0 N1 NL NM=>?_
  refine tZ (N:=1) rfl (by decide) fun N2 N3 N4 G NN=>?_
  exact⟨F.trans (j.trans (NL.trans G)),_,1,_,_,_,_,⟨S,aQ,u,Or.inr ⟨i,rfl,rfl⟩⟩,rfl,NM.rd.aS G,NN.rd⟩
 ·have NO:g4 S 0 ≠ 0:=by unfold g4;split <;> (try split) <;> omega
  refine jB (fun _=>?_) fun O=>absurd NO (by simpa using O)
  refine lT (C.aS d) rfl (bD rfl ?_)
  refine lT (E.aS d) rfl (bD rfl ?_)
  refine⟨F.trans d,aQ.natAbs,S.natAbs,_,_,_,_,⟨S,aQ,u,Or.inl ⟨i,rfl,rfl⟩⟩,?_,(e.aS d).r,(h.aS d).r⟩
  rw [h.l,e.l]
theorem FN{P dC iM a1 aT:Nat}(a:0 < dC)(d:a1=iM*dC)(e:a1≤P)(b:aT=P / dC - iM):aT*dC < eU a1 (1*P)+dC∧eU a1 (1*P) < aT*dC+dC:=by
 have aY:=Nat.div_add_mod P dC
 have f:=Nat.mod_lt P a
 have c:iM≤P / dC:=(Nat.le_div_iff_mul_le a).mpr (by omega)
 have g:aT*dC+iM*dC=dC*(P / dC):=by
  rw [← Nat.add_mul,b,Nat.sub_add_cancel c,Nat.mul_comm]
 unfold eU
 rw [Nat.one_mul]
 split <;> omega
theorem K8{P dC a1 n:Nat}(g:0 < dC):(hB ((a1:Int) - (n:Int)*(P:Int)) (dC:Int)).natAbs*dC < eU a1 (n*P)+dC∧eU a1 (n*P) < (hB ((a1:Int) - (n:Int)*(P:Int)) (dC:Int)).natAbs*dC+dC:=by
 obtain⟨aY,d⟩:=I9 (a:=(a1:Int) - (n:Int)*(P:Int)) (show(0:Int) < (dC:Int) by omega)
 rw [Int.add_mul,Int.one_mul] at d
 rw [← Int.natCast_mul] at aY d ⊢
 generalize n*P=f at *
 generalize hB ((a1:Int) - (f:Int)) (dC:Int)=aQ at *
 have c:((aQ.natAbs*dC:Nat):Int)=aQ*(dC:Int)∨((aQ.natAbs*dC:Nat):Int)=-(aQ*(dC:Int))∧aQ < 0:=by
  rcases Int.lt_or_le aQ 0 with b | b
  ·right;refine⟨?_,b⟩
   rw [Int.natCast_mul,Int.ofNat_natAbs_of_nonpos (by omega),Int.neg_mul]
  ·left;rw [Int.natCast_mul,Int.natAbs_of_nonneg b]
 have bI:0≤aQ→0≤aQ*(dC:Int):=fun b=>Int.mul_nonneg b (by omega)
 have e:aQ < 0→aQ*(dC:Int)≤-(dC:Int):=fun b=>by
  have:=Int.mul_le_mul_of_nonneg_right (show aQ≤-1 by omega) (show(0:Int)≤(dC:Int) by omega)
  omega
 generalize aQ.natAbs*dC=D at *
 generalize aQ*(dC:Int)=bH at *
 unfold eU
 rcases c with c | ⟨c,b⟩
 ·by_cases b:0≤aQ
  ·have:=bI b;split <;> omega
  ·have:=e (by omega);omega
 ·have:=e b;split <;> omega
theorem K9{a1 P:Nat}(Z:2*a1≤P)(b:0 < P):hC a1 P=0:=by
 have aY:a1 % P=a1:=Nat.mod_eq_of_lt (by omega)
 have a:a1 / P=0:=Nat.div_eq_of_lt (by omega)
 unfold hC
 rw [aY,a,if_neg (by omega)]
theorem La{a1 P:Nat}(Z:hC a1 P=0)(a:0 < P):a1≤P:=by
 unfold hC at Z
 split at Z
 ·exact absurd Z (Nat.succ_ne_zero _)
 ·have aY:=Nat.div_add_mod a1 P
  have b:=Nat.mod_lt a1 a
  rw [Z,Nat.mul_zero] at aY
  omega
def iD(m O aA:Nat):Nat:=m*2 ^ (O+aA - 64)*2 ^ 1
theorem BF{m O aE aT aF T aA:Nat}(j:T=dV m+O - 64)(k:aA=aE+(T+4))(a:pX m O aE aT aF)(p:65≤aE)(q:aA < 4200):
  aF=max 1 (hC (iD m O aA) (dB aA))∧aT*2 ^ (T+5) < eU (iD m O aA) (aF*dB aA)+2 ^ (T+5)∧eU (iD m O aA) (aF*dB aA) < aT*2 ^ (T+5)+2 ^ (T+5):=by
 have d:0 < 2 ^ (T+5):=Nat.pow_pos (by decide)
 have r:=uX (show aA≤4400 by omega)
 have s:0 < 2 ^ aA:=Nat.pow_pos (by decide)
 have h:0 < dB aA:=by omega
 have e:iD m O aA=m*2 ^ (O+aE - 64)*2 ^ (T+5):=by
  unfold iD
  rw [Nat.mul_assoc,← Nat.pow_add,Nat.mul_assoc,← Nat.pow_add];congr 2;omega
 have l:dB (aE+1) / 2 ^ 2=dB aA / 2 ^ (T+5):=by
  have b:=y0 (aE - 1) 2 (by omega)
  have i:=y0 (aE - 1) (T+5) (by omega)
  rw [show aE - 1+2=aE+1 by omega] at b
  rw [show aE - 1+(T+5)=aA by omega] at i
  rw [b,i]
 obtain⟨S,aQ,f,a⟩:=a
 unfold uW at f
 rw [← j,← k,show T+4+1=T+5 by omega] at f
 rw [l] at a
 have n:m*2 ^ (O+aA - 64)*2 ^ 1=iD m O aA:=rfl
 have t:iD m O aA=m*2 ^ (O+aA - 64)*2:=by unfold iD;rfl
 rcases f with ⟨_,u,rfl,rfl⟩ | ⟨rfl,rfl⟩
 ·rcases a with ⟨g,_⟩ | ⟨_,a,rfl⟩
  ·exact absurd rfl g
  ·have o:2*iD m O aA≤dB aA:=by omega
   rw [K9 o h]
   refine⟨rfl,FN d e (by omega) ?_⟩
   rw [a,Int.natAbs_natCast]
 ·rw [n] at a
  rcases a with ⟨g,a,c⟩ | ⟨g,a,c⟩
  ·rw [Int.natAbs_natCast] at c
   subst c;subst a
   refine⟨by omega,K8 d⟩
  ·subst c
   have aV:hC (iD m O aA) (dB aA)=0:=by omega
   rw [aV] at a ⊢
   refine⟨rfl,FN d e (La aV h) ?_⟩
   rw [a]
   congr 1
   have b:hB (((iD m O aA:Nat):Int) - ((0:Nat):Int)*((dB aA:Nat):Int)) ((2 ^ (T+5):Nat):Int)=((m*2 ^ (O+aE - 64):Nat):Int):=by
    rw [show(((0:Nat):Int))*((dB aA:Nat):Int)=0 by simp,Int.sub_zero]
    unfold hB
    rw [if_neg (by omega),e,Int.natCast_mul,Int.mul_ediv_cancel _ (by omega)]
   rw [b,Int.natAbs_natCast]
theorem Lb:rI*g1≤2 ^ 8801∧2 ^ 8801 < (rI+1)*(g1+1):=⟨Nat.le_of_ble_eq_true (by kernel_rfl),Nat.le_of_ble_eq_true (by kernel_rfl)⟩
theorem Lc{b d p aE aI:Nat}(aY:b*d≤2 ^ aI)(g:2 ^ aI < (b+1)*(d+1))(bI:p+aE≤aI)(h:b / 2 ^ p+1≤d / 2 ^ aE):uQ (b / 2 ^ p) (d / 2 ^ aE) (2 ^ (aI - (p+aE))):=by
 have e:0 < 2 ^ p:=Nat.pow_pos (by decide)
 have f:0 < 2 ^ aE:=Nat.pow_pos (by decide)
 have O:2 ^ aI=2 ^ (aI - (p+aE))*(2 ^ p*2 ^ aE):=by rw [← Nat.pow_add,← Nat.pow_add];congr 1;omega
 refine⟨?_,?_,h⟩
 ·refine Nat.le_of_mul_le_mul_right (c:=2 ^ p*2 ^ aE) ?_ (Nat.mul_pos e f)
  rw [← O]
  refine Nat.le_trans ?_ aY
  rw [Nat.mul_mul_mul_comm]
  exact Nat.mul_le_mul (Nat.div_mul_le_self _ _) (Nat.div_mul_le_self _ _)
 ·refine Nat.lt_of_mul_lt_mul_right (a:=2 ^ p*2 ^ aE) ?_
  rw [← O]
  refine Nat.lt_of_lt_of_le g ?_
  rw [Nat.mul_mul_mul_comm]
  refine Nat.mul_le_mul ?_ ?_
  ·have:=Nat.div_add_mod b (2 ^ p);have:=Nat.mod_lt b e
   rw [Nat.add_mul,Nat.one_mul,Nat.mul_comm];omega
  ·have:=Nat.div_add_mod d (2 ^ aE);have:=Nat.mod_lt d f
   rw [Nat.add_mul,Nat.one_mul,Nat.mul_comm];omega
theorem rJ{bQ n:Nat}(Z:pY bQ n=true){O:Nat}(aY:bQ≤O)(d:O < bQ+n):uY O=true:=by
 have b:=wE Z (O - bQ) (by omega)
 have a:uY (Nat.add bQ (O - bQ))=true:=b
 have c:Nat.add bQ (O - bQ)=O:=by show bQ+(O - bQ)=O;omega
 rw [c] at a;exact a
theorem Ld{O:Nat}(a:O < 1036):uY O=true:=by
 by_cases aV:O < 130
 ·exact rJ Le (by omega) (by omega)
 by_cases aY:O < 260
 ·exact rJ Lf (by omega) (by omega)
 by_cases b:O < 390
 ·exact rJ Lg (by omega) (by omega)
 by_cases c:O < 520
 ·exact rJ Lh (by omega) (by omega)
 by_cases d:O < 650
 ·exact rJ Li (by omega) (by omega)
 by_cases e:O < 780
 ·exact rJ Lj (by omega) (by omega)
 by_cases f:O < 910
 ·exact rJ Lk (by omega) (by omega)
 exact rJ Ll (by omega) (by omega)
theorem uZ{a K:Bool}:cond a K false=true→a=true∧K=true:=by cases a <;> cases K <;> decide
theorem Lm{O:Nat}(Z:uY O=true):(∀ K,K < 53→BG (gO O) O K=true)∧Sep (gO O) (2 ^ 150)∧BH (gO O) O=true:=by
 unfold uY at Z
 rw [kO,kO] at Z
 obtain⟨aY,a⟩:=uZ Z
 obtain⟨b,c⟩:=uZ a
 obtain⟨d,e⟩:=uZ c
 exact⟨fun K f=>wE aY K f,Kj b d,e⟩
theorem Ln(N l:Nat):N - l+(l - N)=eU N l:=by unfold eU;split <;> omega
noncomputable def wZ(c aI t l N:Nat):Bool:=
 gX (Nat.add (Nat.sub N l) (Nat.sub l N)) fun G=>gX (Nat.sub G (Nat.pow 2 c)) fun cU=>gX (Nat.add G (Nat.pow 2 c)) fun v=>
 cond (Nat.ble (Nat.succ (Nat.xor cU v)) (Nat.land cU v)) (cond (Nat.ble (Nat.pow 2 aI) G) (Nat.ble (Nat.succ v) (Nat.pow 2 t)) false) false
noncomputable def BI(n c aI t a O K:Nat):Bool:=
 match pT 80 a (Nat.pow 2 K) (Nat.sub (Nat.pow 2 (Nat.succ K)) 1) with
 | none=>false
 | some (m,up)=>gX (hU a m up) fun S=>gX (Nat.mul m (Nat.pow 2 (Nat.add O 1337))) fun N=>cond (wO n N S) (wZ c aI t (Nat.mul S (Nat.div g1 (Nat.pow 2 n))) N) false
theorem Lo(a O K:Nat):BG a O K=BI 3000 1086 1200 1402 a O K:=by kernel_rfl
theorem Lp{c aI t l N:Nat}(Z:wZ c aI t l N=true):
  dV (eU N l - 2 ^ c)=dV (eU N l+2 ^ c)∧eU N l - 2 ^ c ≠ 0∧2 ^ aI≤eU N l∧eU N l+2 ^ c < 2 ^ t:=by
 unfold wZ at Z
 rw [kO,kO,kO,q5,q5,q5] at Z
 simp only [Nat.add_eq,Nat.sub_eq,Ln] at Z
 obtain⟨aY,a⟩:=uZ Z
 obtain⟨b,d⟩:=uZ a
 obtain⟨N,aQ,bM⟩:=E7 (Nat.le_of_ble_eq_true aY)
 exact⟨bM,N,Nat.le_of_ble_eq_true b,Nat.le_of_ble_eq_true d⟩
theorem Lq{n c aI t a O K aA:Nat}(b:n=4400 - aA)(Z:BI n c aI t a O K=true):∃ m up,pT 80 a (2 ^ K) (2 ^ (K+1) - 1)=some (m,up)∧Told aA (m*2 ^ (O+1337)) (hU a m up)∧wZ c aI t (hU a m up*dB aA) (m*2 ^ (O+1337))=true:=by
 unfold BI at Z
 rw [q5,q5] at Z
 simp only [Nat.sub_eq,Nat.succ_eq_add_one] at Z
 split at Z
 ·cases Z
 ·rename_i m up d
  rw [kO,kO,q5,E6 b] at Z
  obtain⟨aY,e⟩:=uZ Z
  exact⟨m,up,d,E9 (n:=n) (aA:=aA) b aY,e⟩
theorem FO{N aQ a:Nat}(b:0 < a):eU N aQ*a=eU (N*a) (aQ*a):=by
 unfold eU
 by_cases Z:N < aQ
 ·rw [if_pos Z,if_pos (Nat.mul_lt_mul_of_pos_right Z b),Nat.sub_mul]
 ·rw [if_neg Z,if_neg (by have:=Nat.mul_le_mul_right a (Nat.le_of_not_lt Z);omega),Nat.sub_mul]
theorem Lr{a1 b d a S P gN c r e:Nat}(f:0 < b)(g:0 < a)(h:a1*b=d*a)(i:c=P*b+r)(j:r < b)(k:c=gN*a+e)(l:e < a):
  eU a1 (S*P)*b≤eU d (S*gN)*a+S*(b+a)∧eU d (S*gN)*a≤eU a1 (S*P)*b+S*(b+a):=by
 rw [FO f,FO g,h,Nat.mul_add]
 have m:S*c=S*P*b+S*r:=by rw [i,Nat.mul_add,Nat.mul_assoc]
 have n:S*c=S*gN*a+S*e:=by rw [k,Nat.mul_add,Nat.mul_assoc]
 have fG:S*r≤S*b:=Nat.mul_le_mul_left S (Nat.le_of_lt j)
 have eM:S*e≤S*a:=Nat.mul_le_mul_left S (Nat.le_of_lt l)
 generalize S*P*b=cU at *
 generalize S*gN*a=v at *
 generalize S*c=aA at *
 generalize d*a=N at *
 unfold eU
 split <;> split <;> omega
theorem Ls{g G aT S b a dC V cH:Nat}(aY:g*b≤G*a+S*(b+a))(l:G*a≤g*b+S*(b+a))(e:aT*dC < g+dC)(f:g < aT*dC+dC)(c:dC*b=V)(d:0 < b)(m:S*(b+a)+V≤cH*a)(h:cH≤G):
  (G - cH)*a < aT*V∧aT*V < (G+cH)*a:=by
 have i:aT*V=aT*dC*b:=by rw [← c,Nat.mul_assoc]
 have aJ:aT*dC*b < g*b+V:=by rw [← c,← Nat.add_mul];exact Nat.mul_lt_mul_of_pos_right e d
 have bL:g*b < aT*dC*b+V:=by rw [← c,← Nat.add_mul];exact Nat.mul_lt_mul_of_pos_right f d
 have j:(G - cH)*a=G*a - cH*a:=Nat.sub_mul _ _ _
 have k:(G+cH)*a=G*a+cH*a:=Nat.add_mul _ _ _
 have n:cH*a≤G*a:=Nat.mul_le_mul_right a h
 rw [i,j,k]
 generalize aT*dC*b=D at *
 generalize g*b=N at *
 generalize G*a=aQ at *
 generalize cH*a=bM at *
 generalize S*(b+a)=aA at *
 omega
theorem zM{K m:Nat}(aY:2 ^ K≤m)(b:m≤2 ^ (K+1) - 1):dV m=K+1:=by
 have p:0 < 2 ^ (K+1):=Nat.pow_pos (by decide)
 refine Nat.le_antisymm (h7.mpr (by omega)) ?_
 refine Nat.lt_of_not_le fun a=>?_
 have:=h7.mp a;omega
theorem Lt{n:Nat}(Z:n ≠ 0):∃ bA,dV n=bA+1∧2 ^ bA≤n∧n < 2 ^ (bA+1):=by
 have aV:=pA Z
 refine⟨dV n - 1,by omega,?_,?_⟩
 ·refine Nat.le_of_not_lt fun a=>?_
  have:=h7.mpr a
  omega
 ·rw [show dV n - 1+1=dV n by omega]
  exact h7.mp (Nat.le_refl _)
theorem FP{a K:Nat}(Z:a≤K):dV a≤dV K:=h7.mpr (Nat.lt_of_le_of_lt Z (h7.mp (Nat.le_refl _)))
theorem Lu{cH m aI n t:Nat}(Z:2 ^ aI=cH)(a:n+1+aI=t):cH*(m*2 ^ n*2 ^ 1)=m*2 ^ t:=by
 rw [← Z,← a,Nat.pow_add,Nat.pow_add,Nat.mul_comm,Nat.mul_assoc,Nat.mul_assoc,Nat.mul_assoc]
theorem Lv{K O m T aA:Nat}(b:T=K+1+O - 64)(c:m≤2 ^ (K+1) - 1)(d:64≤O+aA):iD m O aA < 2 ^ (T+(aA+1)):=by
 have p:0 < 2 ^ (K+1):=Nat.pow_pos (by decide)
 have aY:m*2 ^ (O+aA - 64) < 2 ^ (K+1)*2 ^ (O+aA - 64):=Nat.mul_lt_mul_of_pos_right (by omega) (Nat.pow_pos (by decide))
 have a:iD m O aA < 2 ^ (K+1)*2 ^ (O+aA - 64)*2 ^ 1:=Nat.mul_lt_mul_of_pos_right aY (by decide)
 rw [← Nat.pow_add,← Nat.pow_add] at a
 exact Nat.lt_of_lt_of_le a (Nat.pow_le_pow_right (by decide) (by omega))
theorem Lw{K O m T aA:Nat}(a:T=K+1+O - 64)(b:m≤2 ^ (K+1) - 1)(c:64≤O+aA)(d:aA≤4400):max 1 (hC (iD m O aA) (dB aA))≤2 ^ T:=by
 have aY:=Lv a b c
 have f:=uX d
 have p:0 < 2 ^ aA:=Nat.pow_pos (by decide)
 have t0:0 < 2 ^ T:=Nat.pow_pos (by decide)
 have e:iD m O aA < 2 ^ T*dB aA:=by
  refine Nat.lt_of_lt_of_le aY ?_
  rw [Nat.pow_add]
  refine Nat.mul_le_mul_left _ ?_
  rw [Nat.pow_succ];omega
 have g:iD m O aA / dB aA < 2 ^ T:=(Nat.div_lt_iff_lt_mul (by omega)).mpr e
 have h:=Fk (iD m O aA) (dB aA)
 omega
structure sU(K O m S:Nat)(up:Bool):Prop where
 pick:pT 80 (gO O) (2 ^ K) (2 ^ (K+1) - 1)=some (m,up)
 eI:S=hU (gO O) m up
 told:Told 1400 (m*2 ^ (O+1337)) S
 Lx:∃ c aI t,c=1086∧aI=1200∧t=1402∧wZ c aI t (S*dB 1400) (m*2 ^ (O+1337))=true
 hV:∃ aT,q7 (gO O) (2 ^ K) (2 ^ (K+1) - 1) m S aT
 sep:Sep (gO O) (2 ^ 150)
 inv:BH (gO O) O=true
theorem bin{K O:Nat}(a:K < 53)(e:O < 1036):∃ m S up,sU K O m S up:=by
 obtain⟨aY,b,f⟩:=Lm (Ld e)
 have c:=aY K a
 rw [Lo] at c
 obtain⟨m,up,d,g,h⟩:=Lq (aA:=1400) rfl c
 obtain⟨fG,eM,gU⟩:=q6 a
 obtain⟨aT,hV,_,_⟩:=Kk d (by omega) fG (by omega) (Nat.pow_pos (by decide)) b
 exact⟨m,_,up,d,rfl,g,⟨_,_,_,rfl,rfl,rfl,h⟩,⟨aT,hV⟩,b,f⟩
theorem Ly{O:Nat}(a:O < 1036):gO O < 2 ^ (O+256):=by rw [Bp a];exact Fa (by omega)
theorem Lz{O aA n:Nat}(a:O < 1036)(b:O+256≤aA)(d:aA < 4200)(e:n=O+aA+257):uQ (gO O) (dB aA) (2 ^ n):=by
 have c:gO O=rI / 2 ^ (4144 - O):=rfl
 obtain⟨aI,bI⟩:∃ aI,aI=8801:=⟨_,rfl⟩
 have ip:=Lb
 rw [← bI] at ip
 have Z:=Lc (p:=4144 - O) (aE:=4400 - aA) ip.1 ip.2 (by omega)
 rw [show aI - (4144 - O+(4400 - aA))=n by omega,← c] at Z
 refine Z ?_
 show gO O+1≤dB aA
 have aY:=Ly a
 have f:=uX (show aA≤4400 by omega)
 have g:2 ^ (O+256)≤2 ^ aA:=Nat.pow_le_pow_right (by decide) b
 omega
theorem BJ(m a K:Nat):m*2 ^ a*2 ^ K=m*2 ^ (a+K):=by rw [Nat.pow_add,Nat.mul_assoc]
theorem LA(m a K:Nat):m*2 ^ a*2 ^ 1*2 ^ K=m*2 ^ (a+1+K):=by rw [BJ,BJ,Nat.add_assoc]
theorem FQ(P n:Nat):P=P / n*n+P % n:=by rw [Nat.mul_comm];exact(Nat.div_add_mod P n).symm
theorem LB{aA v:Nat}:∃ a r b,a=dB aA*2 ^ (4400 - aA)+r∧r < 2 ^ (4400 - aA)∧a=dB v*2 ^ (4400 - v)+b∧b < 2 ^ (4400 - v):=
 ⟨g1,_,_,FQ _ _,Nat.mod_lt _ (Nat.pow_pos (by decide)),FQ _ _,Nat.mod_lt _ (Nat.pow_pos (by decide))⟩
theorem FR{K O m S aE T aA:Nat}{up:Bool}(bA:sU K O m S up)(e:K < 53)(f:O < 1036)(o:320≤aE)(p:aE≤400)(q:T=K+1+O - 64)(r:aA=aE+(T+4)):
  max 1 (hC (iD m O aA) (dB aA))=S∧∀ eD,2 ^ K≤eD→eD≤2 ^ (K+1) - 1→eD ≠ m→eU (iD m O aA) (S*dB aA)+2 ^ (T+6)≤eU (iD eD O aA) (max 1 (hC (iD eD O aA) (dB aA))*dB aA):=by
 obtain⟨fG,eM,gU⟩:=q6 e
 obtain⟨aT,hV⟩:=bA.hV
 have c:=Lz (n:=O+aA+257) f (show O+256≤aA by omega) (by omega) rfl
 have a:∀ m,b8*iD m O aA=m*2 ^ (O+aA+257):=fun m=>Lu uK (by omega)
 have d:36028797018963969≤2 ^ 150:=Nat.le_trans (show 36028797018963969≤2 ^ 56 by decide) (Nat.pow_le_pow_right (by decide) (by decide))
 have s:=uX (show aA≤4400 by omega)
 have g:b8*2 ^ (T+6)+36028797018963968*dB aA≤2 ^ 150*dB aA:=by
  have h:(2:Nat) ^ 150=2 ^ 149+2 ^ 149:=by rw [← Nat.two_mul,← Nat.pow_succ']
  have i:36028797018963968≤2 ^ 149:=Nat.le_trans (show 36028797018963968≤2 ^ 56 by decide) (Nat.pow_le_pow_right (by decide) (by decide))
  have aJ:b8*2 ^ (T+6)≤2 ^ 149*dB aA:=by
   obtain⟨aC,t⟩:∃ aC,aC=321:=⟨_,rfl⟩
   have aY:b8≤2 ^ aC:=Nat.le_of_lt (EY (by omega))
   have b:b8*2 ^ (T+6)≤2 ^ aC*2 ^ (T+6):=Nat.mul_le_mul_right _ aY
   have j:2 ^ aC*2 ^ (T+6)≤2 ^ (149+aA):=by rw [← Nat.pow_add];exact Nat.pow_le_pow_right (by decide) (by omega)
   have k:2 ^ (149+aA)≤2 ^ 149*dB aA:=by rw [Nat.pow_add];exact Nat.mul_le_mul_left _ (by omega)
   exact Nat.le_trans b (Nat.le_trans j k)
  have bL:36028797018963968*dB aA≤2 ^ 149*dB aA:=Nat.mul_le_mul_right _ i
  rw [h,Nat.add_mul];exact Nat.add_le_add aJ bL
 have sep:=bA.sep
 generalize 2 ^ 150=dW at *
 refine⟨Kn hV fG (by omega) d sep c (a m),fun eD aY b l=>?_⟩
 exact Kl hV fG (by omega) (Nat.le_trans (by decide) d) sep c g (a m) (a eD) aY b (by omega) l
theorem w0{K O m S aE aT aF:Nat}{up:Bool}(bA:sU K O m S up)(i:K < 53)(j:O < 1036)(k:320≤aE)(l:aE≤400)(n:2 ^ K≤m)(o:m≤2 ^ (K+1) - 1)(p:pX m O aE aT aF):
  aF=S∧∀ eD b c,2 ^ K≤eD→eD≤2 ^ (K+1) - 1→eD ≠ m→pX eD O aE b c→aT < b:=by
 obtain⟨T,d⟩:∃ T,T=K+1+O - 64:=⟨_,rfl⟩
 obtain⟨aA,e⟩:∃ aA,aA=aE+(T+4):=⟨_,rfl⟩
 obtain⟨aH,bX⟩:=FR bA i j k l d e
 obtain⟨f,q,r⟩:=BF (T:=T) (aA:=aA) (by rw [zM n o];exact d) e p (by omega) (by omega)
 rw [aH] at f
 refine⟨f,fun eD b c aY h s t=>?_⟩
 obtain⟨f1,f2,f3⟩:=BF (T:=T) (aA:=aA) (by rw [zM aY h];exact d) e t (by omega) (by omega)
 have eL:=bX eD aY h s
 rw [← f1] at eL
 rw [f] at q r
 have u:2 ^ (T+6)=2*2 ^ (T+5):=by rw [← Nat.pow_succ']
 rw [u] at eL
 have v:0 < 2 ^ (T+5):=Nat.pow_pos (by decide)
 generalize 2 ^ (T+5)=dC at *
 generalize eU (iD m O aA) (S*dB aA)=g at *
 generalize eU (iD eD O aA) (c*dB aA)=w at *
 refine Nat.lt_of_mul_lt_mul_right (a:=dC) ?_
 omega
theorem BK{K O m S aE aT aF:Nat}{up:Bool}(bA:sU K O m S up)(x:K < 53)(y:O < 1036)(z:320≤aE)(A:aE≤400)(B:2 ^ K≤m)(i:m≤2 ^ (K+1) - 1)(C:pX m O aE aT aF):
  ∃ g eF j:Nat,1200≤g∧g≤1401∧eF=g+aE - 1401∧j=g+aE - 1400∧o1 1400 (m*2 ^ (O+1337)) S=1401 - (g:Int)∧2 ^ eF < aT∧aT < 2 ^ j:=by
 obtain⟨T,d⟩:∃ T,T=K+1+O - 64:=⟨_,rfl⟩
 obtain⟨aA,k⟩:∃ aA,aA=aE+(T+4):=⟨_,rfl⟩
 obtain⟨aH,_⟩:=FR bA x y z A d k
 obtain⟨l,e,f⟩:=BF (T:=T) (aA:=aA) (by rw [zM B i];exact d) k C (by omega) (by omega)
 have o:=Lw (T:=T) d i (show 64≤O+aA by omega) (by omega)
 rw [aH] at l o
 rw [l] at e f
 obtain⟨c,aI,t,Ny,bI,Nz,D⟩:=bA.Lx
 obtain⟨n,NA⟩:∃ n,n=3000:=⟨_,rfl⟩
 obtain⟨p,E,F,H⟩:=Lp D
 unfold o1
 have q:0 < 2 ^ (4400 - aA):=Nat.pow_pos (by decide)
 have I:0 < 2 ^ n:=Nat.pow_pos (by decide)
 obtain⟨NB,r,NC,f1,f2,f3,f4⟩:=LB (aA:=aA) (v:=1400)
 rw [show 4400 - 1400=n by omega] at f3 f4
 have J:iD m O aA*2 ^ (4400 - aA)=m*2 ^ (O+1337)*2 ^ n:=by
  unfold iD
  rw [LA,BJ,show O+aA - 64+1+(4400 - aA)=O+1337+n by omega]
 have rel:=Lr (S:=S) q I J f1 f2 f3 f4
 have s:S*(2 ^ (4400 - aA)+2 ^ n)+2 ^ (4401 - aE)≤2 ^ c*2 ^ n:=by
  have aY:S*(2 ^ (4400 - aA)+2 ^ n)≤2 ^ T*(2 ^ (4400 - aA)+2 ^ n):=Nat.mul_le_mul_right _ o
  have aV:2 ^ T*(2 ^ (4400 - aA)+2 ^ n)=2 ^ (T+(4400 - aA))+2 ^ (T+n):=by rw [Nat.mul_add,← Nat.pow_add,← Nat.pow_add]
  rw [aV] at aY
  have h:2 ^ (T+(4400 - aA))≤2 ^ (c+n - 2):=Nat.pow_le_pow_right (by decide) (by omega)
  have u:2 ^ (T+n)≤2 ^ (c+n - 2):=Nat.pow_le_pow_right (by decide) (by omega)
  have ND:2 ^ (4401 - aE)≤2 ^ (c+n - 2):=Nat.pow_le_pow_right (by decide) (by omega)
  have P:2 ^ c*2 ^ n=2 ^ (c+n - 2)*2 ^ 2:=by rw [← Nat.pow_add,← Nat.pow_add,show c+n - 2+2=c+n by omega]
  rw [P]
  generalize 2 ^ (c+n - 2)=NF at *
  generalize 2 ^ (T+(4400 - aA))=NG at *
  generalize 2 ^ (T+n)=NH at *
  generalize 2 ^ (4401 - aE)=NI at *
  generalize S*(2 ^ (4400 - aA)+2 ^ n)=NJ at *
  omega
 have Q:2 ^ c≤2 ^ aI:=Nat.pow_le_pow_right (by decide) (by omega)
 have w:=Ls (V:=2 ^ (4401 - aE)) (cH:=2 ^ c) rel.1 rel.2 e f (by rw [← Nat.pow_add,show T+5+(4400 - aA)=4401 - aE by omega]) q s (Nat.le_trans Q F)
 clear rel s e f
 generalize eU (m*2 ^ (O+1337)) (S*dB 1400)=G at *
 obtain⟨g,b,eB,NK⟩:=Lt E
 rw [p] at b
 have Nv:dV G=g+1:=by
  refine Nat.le_antisymm ?_ ?_
  ·rw [← b];exact FP (Nat.le_add_right _ _)
  ·rw [← b,← p];exact FP (Nat.sub_le _ _)
 have Nw:G+2 ^ c < 2 ^ (g+1):=by
  have:=h7.mp (Nat.le_of_eq b);exact this
 have fG:1200≤g:=by
  refine Nat.le_of_not_lt fun Nx=>?_
  have aY:G < 2 ^ (g+1):=by omega
  have h:2 ^ (g+1)≤2 ^ aI:=Nat.pow_le_pow_right (by decide) (by omega)
  omega
 have eM:g≤1401:=by
  refine Nat.le_of_not_lt fun Nx=>?_
  have h:2 ^ t≤2 ^ g:=Nat.pow_le_pow_right (by decide) (by omega)
  have u:=Nat.sub_le G (2 ^ c)
  exact absurd (Nat.lt_of_lt_of_le (Nat.lt_of_le_of_lt (Nat.le_add_right _ _) H) (Nat.le_trans h (Nat.le_trans eB u))) (Nat.lt_irrefl _)
 refine⟨g,_,_,fG,eM,rfl,rfl,by rw [Nv];omega,?_,?_⟩
 ·refine Nat.lt_of_mul_lt_mul_right (a:=2 ^ (4401 - aE)) (Nat.lt_of_le_of_lt ?_ w.1)
  rw [← Nat.pow_add,show g+aE - 1401+(4401 - aE)=g+n by omega,Nat.pow_add]
  exact Nat.mul_le_mul_right _ eB
 ·refine Nat.lt_of_mul_lt_mul_right (a:=2 ^ (4401 - aE)) (Nat.lt_of_lt_of_le w.2 ?_)
  rw [← Nat.pow_add,show g+aE - 1400+(4401 - aE)=g+1+n by omega,Nat.pow_add]
  exact Nat.mul_le_mul_right _ (Nat.le_of_lt Nw)
theorem w1{Z:U}{aE:Nat}{bV:List Value}(aN:dU Z aE bV)(e:bV.length=3){a b c:Value}{aF:U→Prop}(g:∀ aB,dU aB aE [a,b,c]→b2 aE Z aB→aF aB):
  b3 Z ((⟨aE,0,none⟩:Addr).add 0) a fun aY=>b3 aY ((⟨aE,0,none⟩:Addr).add 1) b fun d=>b3 d ((⟨aE,0,none⟩:Addr).add 2) c aF:=by
 match bV,e with
 | [m,aJ,bL],_=>
  refine jR aN (by exact(by decide:0 < 3)) fun aY f b4=>?_
  refine jR f (by exact(by decide:1 < 3)) fun d h i=>?_
  refine jR h (by exact(by decide:2 < 3)) fun j k l=>?_
  exact g j k ((b4.trans i).trans l)
theorem FT{d:U}{e f h:Int}{a:M}{l c:Nat}{i:TypeId}{c9:List Value}(j:c9.length=3){v:Value}(cS:v=.tuple #[.agg #[.int .u64 e,.slice a l c,.int .i64 f],.int .i64 h]){aF:Addr→Int→U→Prop}
  (g:∀ aE aB,bC d aB→d.size≤aE→dU aB aE [.int .u64 e,.slice a l c,.int .i64 f]→aF ⟨aE,0,none⟩ h aB) :
  c1 v fun k=>cW k fun m n=>eA m fun o=>cW o fun p q=>aW .u64 p fun r=>cW q fun s t=>aU s fun u w x=>cW t fun y z=>aW .i64 y fun A=>b6 z <| cW n fun B C=>aW .i64 B fun D=>b6 C <|
   dN d i c9 fun b E=>b3 E (b.add 0) (.int .u64 r) fun F=>b3 F (b.add 1) (.slice u w x) fun G=>b3 G (b.add 2) (.int .i64 A) fun H=>aF b D H:=by
 subst cS
 refine g7 rfl (cK (eW rfl (cK (bR rfl (cK (bD rfl (cK (bR rfl (dY (cK (bR rfl (dY ?_))))))))))))
 refine eX fun V I J=>?_
 refine w1 I j fun P Q T=>?_
 exact g _ P (b2.aS J T (Nat.le_refl _)) (Nat.le_refl _) Q
theorem BL{K O m S:Nat}{up:Bool}{Z:U}{aX aK:Int}{f:TypeId}{c9:List Value}(bA:sU K O m S up)(h:K < 53)(i:O < 1036)(aV:aX=((K+1:Nat):Int))(aY:aK=(O:Int) - 64)(j:c9.length=3){aF:Addr→Int→U→Prop}
  (g:∀ aE a c aB,bC Z aB→Z.size≤aE→dU aB aE [.int .u64 (m:Int),.slice a (aL S).length c,.int .i64 (o1 1400 (m*2 ^ (O+1337)) S)]→cD aB a c (aL S)→aF ⟨aE,0,none⟩ 0 aB) :
  a0 jW.id #[.int .i64 aX,.int .i64 aK] Z fun v k=>c1 v fun l=>cW l fun n o=>eA n fun p=>cW p fun q r=>aW .u64 q fun s=>cW r fun t u=>aU t fun w x y=>cW u fun z A=>aW .i64 z fun B=>b6 A <| cW o fun C D=>aW .i64 C fun E=>b6 D <|
   dN k f c9 fun b F=>b3 F (b.add 0) (.int .u64 s) fun G=>b3 G (b.add 1) (.slice w x y) fun H=>b3 H (b.add 2) (.int .i64 B) fun I=>aF b E I:=by
 subst aV;subst aY
 have d:=Fe (K:=K) (O:=O) Z h i bA.pick (by rw [← bA.eI];exact bA.told)
 rw [← bA.eI] at d
 refine b5 d fun v T d=>?_
 obtain⟨e,dZ,eE,J,P⟩:=d
 exact FT j J fun aE aB cV Q aN=>g aE dZ eE aB (e.trans cV) (Nat.le_trans e.le Q) aN (P.eH.aS cV)
theorem LC{Z:U}{aX aK:Int}(g:aX < 1∨aX > 53∨aK < -64∨aK > 971):a0 jW.id #[.int .i64 aX,.int .i64 aK] Z fun v aB=>bC Z aB∧v=.tuple #[.agg #[.int .u64 0,.slice none 0 0,.int .i64 0],.int .i64 1]:=by
 refine jW.ok ?_
 unfold jW.t jW.aM.t
 refine eX fun f c d=>?_
 refine cC (fun _=>?_) fun aY=>?_
 ·refine w1 c rfl fun e a b=>?_
  exact fS a rfl (oN a rfl (fS a rfl ⟨b2.aS d b (Nat.le_refl _),rfl⟩))
 refine cC (fun _=>?_) fun f=>?_
 ·refine w1 c rfl fun e a b=>?_
  exact fS a rfl (oN a rfl (fS a rfl ⟨b2.aS d b (Nat.le_refl _),rfl⟩))
 refine cC (fun _=>?_) fun e=>?_
 ·refine w1 c rfl fun e a b=>?_
  exact fS a rfl (oN a rfl (fS a rfl ⟨b2.aS d b (Nat.le_refl _),rfl⟩))
 refine cC (fun _=>?_) fun h=>by omega
 ·refine w1 c rfl fun e a b=>?_
  exact fS a rfl (oN a rfl (fS a rfl ⟨b2.aS d b (Nat.le_refl _),rfl⟩))
theorem LD{Z:U}{aX aK:Int}{b:TypeId}{c9:List Value}(c:aX < 1∨aX > 53∨aK < -64∨aK > 971)(d:c9.length=3){aF:Addr→Int→U→Prop}
  (g:∀ aE aB,bC Z aB→dU aB aE [.int .u64 0,.slice none 0 0,.int .i64 0]→aF ⟨aE,0,none⟩ 1 aB) :
  a0 jW.id #[.int .i64 aX,.int .i64 aK] Z fun v e=>c1 v fun f=>cW f fun h i=>eA h fun j=>cW j fun k l=>aW .u64 k fun m=>cW l fun n o=>aU n fun p q r=>cW o fun s t=>aW .i64 s fun u=>b6 t <| cW i fun w x=>aW .i64 w fun y=>b6 x <|
   dN e b c9 fun a z=>b3 z (a.add 0) (.int .u64 m) fun A=>b3 A (a.add 1) (.slice p q r) fun B=>b3 B (a.add 2) (.int .i64 u) fun C=>aF a y C:=by
 refine b5 (LC c) fun v F ⟨D,E⟩=>?_
 exact FT d E fun aE aB cV _ aN=>g aE aB (D.trans cV) aN
theorem LF{Y:aD}{aE:Nat}{Z:U}(aN:dU Z aE [.int .u64 0,.slice none 0 0,.int .i64 0])(g:Y (.bool true) Z):
  cond ((1:Int) == 1) (fB Z ((⟨aE,0,none⟩:Addr).add 0) fun a=>aW .u64 a fun b=>cond (b == 0) (fB Z ((⟨aE,0,none⟩:Addr).add 1) fun c=>aU c fun h d i=>cond ((((d:Nat):Int)) == 0) (fB Z ((⟨aE,0,none⟩:Addr).add 2) fun e=>aW .i64 e fun f=>Y (.bool (f == 0)) Z) (Y (.bool false) Z)) (Y (.bool false) Z)) (Y (.bool false) Z):=by
 refine fN (fun _=>?_) fun O=>absurd rfl O
 refine fS aN rfl ?_
 refine fN (fun _=>?_) fun O=>absurd rfl O
 refine oN aN rfl ?_
 refine fN (fun _=>?_) fun O=>absurd rfl O
 refine fS aN rfl ?_
 exact g
theorem w2{K m:Nat}(a:K < 53)(aY:2 ^ K≤m)(b:m≤2 ^ (K+1) - 1):dV m≤64∧m < 18446744073709551616:=by
 obtain⟨fG,eM,gU⟩:=q6 a
 rw [zM aY b];omega
theorem LG{Y:aD}{Z:U}{K O m S aT aF bM:Nat}{up:Bool}{aE:Nat}{k l:Value}{d:M}{e:Nat}(bA:sU K O m S up)(b:K < 53)(f:O < 1036)(n:2 ^ K≤m)(o:m≤2 ^ (K+1) - 1)(p:pX m O 400 aT aF)(x:bM < 18446744073709551616)(aN:dU Z aE [.int .u64 (m:Int),k,l])(q:cL b7 Z d e (D.aL aT))
  (g:∀ aB,bC Z aB→Y (.bool true) aB):n4.b9.t Y ((O:Int) - 64) (bM:Int) ⟨aE,0,none⟩ ((2 ^ K:Nat):Int) d (D.aL aT).length e Z:=by
 obtain⟨fG,eM,gU⟩:=q6 b
 have y:=Nat.mod_lt bM (show 0 < 2 ^ K by omega)
 unfold n4.b9.t
 refine⟨by omega,a6.mk ?_⟩
 rw [← Int.ofNat_tmod]
 refine c3 (2 ^ K+bM % 2 ^ K) (by omega) (by omega) ?_
 have h:2 ^ K≤2 ^ K+bM % 2 ^ K:=Nat.le_add_right _ _
 have i:2 ^ K+bM % 2 ^ K≤2 ^ (K+1) - 1:=by omega
 generalize 2 ^ K+bM % 2 ^ K=eD at *
 obtain⟨aK,r⟩:=w2 b h i
 refine wY (aE:=400) rfl r f (by decide) (by decide) aK rfl rfl fun j cV a c z c8 aY s b4 u A=>?_
 refine fS (aN.aS b4) rfl ?_
 refine fN (fun _=>g aY b4) fun v=>?_
 refine uA u rfl (q.aS b4) rfl ?_
 have B:=(w0 bA b f (by decide) (by decide) n o p).2 eD j cV h i (fun O=>v (by rw [O])) s
 have w:decide (fD j aT > 0)=true:=by
  refine decide_eq_true ?_
  unfold fD;split <;> (try split) <;> omega
 rw [w];exact g aY b4
theorem LH{N aQ bM:Int}{Z:U}(G:-9223372036854775808≤N∧N < 9223372036854775808)(H:-9223372036854775808≤aQ∧aQ < 9223372036854775808)(I:0≤bM∧bM < 18446744073709551616):
  a0 n4.id #[.int .i64 N,.int .i64 aQ,.int .u64 bM] Z fun v aB=>bC Z aB∧v=.bool true:=by
 refine n4.ok ?_
 unfold n4.t n4.aM.t
 refine BC fun aY b4=>?_
 refine jP (fun O=>by cases O) fun _=>?_
 by_cases x:N < 1∨N > 53∨aQ < -64∨aQ > 971
 ·refine LD x rfl fun aE y p b=>?_
  have fin:=LF (Y:=fun v aB=>bC Z aB∧v=.bool true) b ⟨b4.trans p,rfl⟩
  refine cC (fun _=>fin) fun eF=>?_
  refine cC (fun _=>fin) fun q=>?_
  refine cC (fun _=>fin) fun J=>?_
  exact cC (fun _=>fin) fun P=>by omega
 ·obtain⟨K,rfl⟩:∃ K:Nat,N=((K+1:Nat):Int):=⟨(N - 1).toNat,by omega⟩
  obtain⟨O,rfl⟩:∃ O:Nat,aQ=(O:Int) - 64:=⟨(aQ+64).toNat,by omega⟩
  obtain⟨bM,rfl⟩:∃ n:Nat,bM=(n:Int):=⟨bM.toNat,by omega⟩
  have e:K < 53:=by omega
  have h:O < 1036:=by omega
  obtain⟨m,S,up,bA⟩:=bin e h
  obtain⟨d0,hV⟩:=bA.hV
  have k:=hV.nE
  have l:=hV.n0
  obtain⟨fG,eM,gU⟩:=q6 e
  refine BL bA e h rfl rfl rfl fun aE a c y p Q b z=>?_
  refine cC (fun n=>by omega) fun _=>?_
  refine cC (fun n=>by omega) fun _=>?_
  refine cC (fun n=>by omega) fun _=>?_
  refine cC (fun n=>by omega) fun _=>?_
  unfold n4.aZ.t
  refine cN (K:Int) (by omega) (by omega) (by omega) ?_
  refine⟨by omega,a6.mk ?_⟩
  rw [uN K (by omega)]
  refine jB (fun O=>absurd rfl O) fun _=>?_
  refine fS b rfl ?_
  refine cC (fun n=>by omega) fun _=>?_
  refine fS b rfl ?_
  refine c3 (2*2 ^ K) (by omega) (by omega) ?_
  refine cC (fun n=>by omega) fun _=>?_
  unfold n4.bF.t
  refine fS b rfl ?_
  obtain⟨aK,A⟩:=w2 e k l
  refine wY (aE:=400) rfl A h (by decide) (by decide) aK rfl rfl fun aT aF dR dA dZ eE T r f s B=>?_
  obtain⟨C,_⟩:=w0 bA e h (aE:=400) (by decide) (by decide) k l r
  obtain⟨g,eF,q,V,Nv,Nw,Nx,u,Ny,Nz⟩:=BK bA e h (aE:=400) (by decide) (by decide) k l r
  refine II B rfl fun bY bW NA d w=>?_
  rw [C] at w ⊢
  refine⟨fL d (Nat.le_refl _),(b.aS f).x6 1,oN ((b.aS f).aS d) rfl ?_⟩
  refine wU w.eH ((z.aS f).aS d) rfl rfl ?_
  refine jP (fun O=>by cases O) fun _=>?_
  have i:=(b.aS f).aS d
  rw [u] at i b
  clear u
  refine⟨(b.aS f).x6 2,fS i rfl ?_⟩
  refine cC (fun n=>by omega) fun _=>?_
  refine⟨(b.aS f).x6 2,fS i rfl ?_⟩
  refine cC (fun n=>by omega) fun _=>?_
  unfold n4.cF.t
  refine fS i rfl ?_
  refine cN ((eF:Nat):Int) (by omega) (by omega) (by omega) ?_
  refine wG rfl (by omega) fun a9 bB NB j D=>?_
  refine uA ((s.aS d).aS j) rfl D.rd rfl ?_
  have aG:fD aT (2 ^ eF)=1:=by unfold fD;rw [if_neg (by omega),if_neg (by omega)]
  rw [aG]
  refine cC (fun n=>absurd n (by decide)) fun _=>?_
  refine fS (i.aS j) rfl ?_
  refine cN ((q:Nat):Int) (by omega) (by omega) (by omega) ?_
  refine wG rfl (by omega) fun cM cO NC o E=>?_
  refine uA (((s.aS d).aS j).aS o) rfl E.rd rfl ?_
  have bG:fD aT (2 ^ q)=-1:=by unfold fD;rw [if_pos (by omega)]
  rw [bG]
  refine cC (fun n=>absurd n (by decide)) fun _=>?_
  refine LG bA e h k l r (by omega) ((i.aS j).aS o) (((s.aS d).aS j).aS o) fun ND F=>?_
  exact⟨b4.trans (p.trans (f.trans (d.trans (j.trans (o.trans F))))),rfl⟩
theorem LI(m O aE:Nat):∃ aT aF,pX m O aE aT aF:=by
 by_cases Z:hC (m*2 ^ (O+(aE+(dV m+O - 64+4)) - 64)*2 ^ 1) (dB (aE+(dV m+O - 64+4)))=0
 ·exact⟨_,1,_,_,Or.inr ⟨rfl,rfl⟩,Or.inr ⟨by rw [Z];rfl,rfl,rfl⟩⟩
 ·exact⟨_,_,_,_,Or.inr ⟨rfl,rfl⟩,Or.inl ⟨fun aV=>Z (Int.ofNat.inj aV),rfl,rfl⟩⟩
theorem LJ{N aQ:Nat}(Z:aQ < N):fD N aQ=1:=by unfold fD;rw [if_neg (by omega),if_neg (by omega)]
theorem LK{K O m S:Nat}{up:Bool}{aV f:U}{aE:Nat}{x y:Value}(bA:sU K O m S up)(G:K < 7)(g:O < 1036)(p:2 ^ K≤m)(q:m≤2 ^ (K+1) - 1)(aN:dU f aE [.int .u64 (m:Int),x,y])(z:bC aV f):
  ∀ (n R hV aT:Nat) {bS:M} {bU:Nat} {Z:U},R+n=2 ^ (K+1)→bC f Z→2 ^ K≤hV→hV < R→(m < R→hV=m)→(∃ aF,pX hV O 400 aT aF)→cL b7 Z bS bU (D.aL aT)→
   mA.eC.t (fun v aB=>bC aV aB∧v=.bool true) (n+1) ((K+1:Nat):Int) ((O:Int) - 64) ⟨aE,0,none⟩ 0 (hV:Int) bS (D.aL aT).length bU (R:Int) Z:=by
 obtain⟨fG,eM,gU⟩:=q6 (show K < 53 by omega)
 intro n
 induction n with
 | zero=>
  intro R hV aT bS bU Z a5 d h A e b i
  unfold mA.eC.t mA.dD.t
  refine⟨by omega,a6.mk ?_⟩
  rw [uN (K+1) (by omega)]
  refine cC (fun n=>by omega) fun _=>?_
  unfold mA.bF.t
  refine fN (fun _=>?_) fun O=>absurd rfl O
  refine fS (aN.aS d) rfl ?_
  rw [e (by omega)]
  exact⟨z.trans d,by rw [beq_self_eq_true]⟩
 | succ n bO=>
  intro R hV aT bS bU Z a5 d h A e b i
  unfold mA.eC.t mA.dD.t
  refine⟨by omega,a6.mk ?_⟩
  rw [uN (K+1) (by omega)]
  refine cC (fun _=>?_) fun n=>by omega
  obtain⟨aF,b⟩:=b
  have j:2 ^ K≤R:=by omega
  have r:R≤2 ^ (K+1) - 1:=by omega
  obtain⟨aK,B⟩:=w2 (show K < 53 by omega) j r
  refine wY (aE:=400) rfl B g (by decide) (by decide) aK rfl rfl fun k cV a c H c8 aY l b4 s I=>?_
  refine uA s rfl (i.aS b4) rfl ?_
  refine cC (fun u=>?_) fun w=>?_
  ·have u:=qY.mp u
   refine c3 (R+1) (by omega) (by omega) ?_
   refine bO (R+1) R k (by omega) (d.trans b4) j (by omega) (fun C=>?_) ⟨_,l⟩ s
   refine Nat.le_antisymm ?_ (by omega)
   refine Nat.le_of_not_lt fun o=>?_
   have E:=e o
   subst E
   have:=(w0 bA (by omega) g (by decide) (by decide) p q b).2 R k cV j r (by omega) l
   omega
  ·have w:¬ k < aT:=fun F=>w (qY.mpr F)
   refine c3 (R+1) (by omega) (by omega) ?_
   refine bO (R+1) hV aT (by omega) (d.trans b4) h (by omega) (fun C=>?_) ⟨_,b⟩ (i.aS b4)
   by_cases o:m < R
   ·exact e o
   ·have O:R=m:=by omega
    subst O
    have:=(w0 bA (by omega) g (by decide) (by decide) p q l).2 hV aT aF h (by omega) (by omega) b
    omega
theorem LL{N aQ:Int}{Z:U}(n:-9223372036854775808≤N∧N < 9223372036854775808)(o:-9223372036854775808≤aQ∧aQ < 9223372036854775808):
  a0 mA.id #[.int .i64 N,.int .i64 aQ] Z fun v aB=>bC Z aB∧v=.bool true:=by
 refine mA.ok ?_
 unfold mA.t mA.aM.t
 refine BC fun aY b4=>?_
 refine jP (fun O=>by cases O) fun _=>?_
 refine cC (fun _=>⟨b4,rfl⟩) fun eF=>?_
 refine cC (fun _=>⟨b4,rfl⟩) fun p=>?_
 refine cC (fun _=>⟨b4,rfl⟩) fun q=>?_
 refine cC (fun _=>⟨b4,rfl⟩) fun r=>?_
 obtain⟨K,rfl⟩:∃ K:Nat,N=((K+1:Nat):Int):=⟨(N - 1).toNat,by omega⟩
 obtain⟨O,rfl⟩:∃ O:Nat,aQ=(O:Int) - 64:=⟨(aQ+64).toNat,by omega⟩
 have d:K < 7:=by omega
 have b:O < 1036:=by omega
 obtain⟨m,S,up,bA⟩:=bin (show K < 53 by omega) b
 obtain⟨d0,hV⟩:=bA.hV
 have e:=hV.nE
 have f:=hV.n0
 obtain⟨fG,eM,gU⟩:=q6 (show K < 53 by omega)
 unfold mA.aZ.t
 refine BL bA (by omega) b rfl rfl rfl fun aE a c s g u h w=>?_
 refine cN (K:Int) (by omega) (by omega) (by omega) ?_
 refine⟨by omega,a6.mk ?_⟩
 rw [uN K (by omega)]
 obtain⟨aK,i⟩:=w2 (show K < 53 by omega) (Nat.le_refl (2 ^ K)) (show 2 ^ K≤2 ^ (K+1) - 1 by omega)
 refine wY (aE:=400) rfl i b (by decide) (by decide) aK rfl rfl fun aT aF dR dA dZ eE x j k l y=>?_
 unfold mA.cF.t
 refine c3 (2 ^ K+1) (by omega) (by omega) ?_
 refine⟨2 ^ (K+1) - (2 ^ K+1)+1,LK bA d b e f h (b4.trans g) _ (2 ^ K+1) (2 ^ K) aT (by omega) k (Nat.le_refl _) (by omega) (fun z=>by omega) ⟨aF,j⟩ l⟩
theorem FU{Z:U}{aE:Nat}{bV:List Value}(aN:dU Z aE bV)(l:bV.length=6){a b c d e f:Value}{aF:U→Prop}(g:∀ aB,dU aB aE [a,b,c,d,e,f]→b2 aE Z aB→aF aB):
  b3 Z ((⟨aE,0,none⟩:Addr).add 0) a fun aY=>b3 aY ((⟨aE,0,none⟩:Addr).add 1) b fun h=>b3 h ((⟨aE,0,none⟩:Addr).add 2) c fun i=>b3 i ((⟨aE,0,none⟩:Addr).add 3) d fun j=>b3 j ((⟨aE,0,none⟩:Addr).add 4) e fun k=>b3 k ((⟨aE,0,none⟩:Addr).add 5) f aF:=by
 match bV,l with
 | [y,aJ,bL,dR,dZ,bY],_=>
  refine jR aN (by exact(by decide:0 < 6)) fun aY m b4=>?_
  refine jR m (by exact(by decide:1 < 6)) fun h n o=>?_
  refine jR n (by exact(by decide:2 < 6)) fun i p q=>?_
  refine jR p (by exact(by decide:3 < 6)) fun j r s=>?_
  refine jR r (by exact(by decide:4 < 6)) fun k t u=>?_
  refine jR t (by exact(by decide:5 < 6)) fun v w x=>?_
  exact g v w (((((b4.trans o).trans q).trans s).trans u).trans x)
theorem LM(Z:U):a0 sV.id #[.int .i64 64] Z fun v aB=>bC Z aB∧v=.tuple #[.agg #[.int .u64 9223372036854775808,.int .i64 53,.int .i64 (-1074),.int .i64 971,.int .u64 9218868437227405312,.int .u64 9221120237041090561],.bool true]:=by
 refine sV.ok ?_
 unfold sV.t sV.aM.t
 refine eX fun aY b b4=>?_
 refine fN (fun O=>absurd O (by decide)) fun _=>?_
 refine fN (fun _=>?_) fun O=>absurd rfl O
 refine FU b rfl fun d a c=>?_
 exact fS a rfl (fS a rfl (fS a rfl (fS a rfl (fS a rfl (fS a rfl ⟨b2.aS b4 c (Nat.le_refl _),rfl⟩)))))
theorem LN{n:Nat}(Z:U){aK b c d e:Int}:a0 sW.id #[.agg #[.int .u64 9223372036854775808,.int .i64 aK,.int .i64 b,.int .i64 c,.int .u64 d,.int .u64 e],.int .u64 (n:Int)] Z fun v aB=>bC Z aB∧∃ p,v=.tuple #[.bool p,.int .u64 ((n % 9223372036854775808:Nat):Int)]:=by
 refine sW.ok ?_
 unfold sW.t sW.aM.t
 refine eX fun aY a b4=>?_
 refine fS a rfl ?_
 refine fS a rfl ?_
 refine⟨by decide,a6.mk ?_⟩
 refine⟨b4,decide ((n:Int)≥9223372036854775808),?_⟩
 have O:Int.tmod (n:Int) 9223372036854775808=((n % 9223372036854775808:Nat):Int):=(Int.ofNat_tmod n 9223372036854775808).symm
 rw [O]
theorem LO:hW .u64 1 52=4503599627370496:=by decide
theorem LP{n:Nat}(Z:U)(aY:4503599627370496≤n)(h:n < 9218868437227405312){aX b c d:Int}:a0 sX.id #[.agg #[.int .u64 aX,.int .i64 53,.int .i64 (-1074),.int .i64 b,.int .u64 c,.int .u64 d],.int .u64 (n:Int)] Z fun v aB=>bC Z aB∧v=.tuple #[.int .u64 ((4503599627370496+n % 4503599627370496:Nat):Int),.int .i64 (((n / 4503599627370496:Nat):Int) - 1075)]:=by
 refine sX.ok ?_
 unfold sX.t sX.aM.t
 refine eX fun i a e=>?_
 refine fS a rfl ?_
 refine cN 52 (by decide) (by decide) (by decide) ?_
 refine⟨by decide,a6.mk ?_⟩
 rw [LO]
 refine⟨by decide,?_⟩
 have f:Int.tdiv (n:Int) 4503599627370496=((n / 4503599627370496:Nat):Int):=by rw [Int.ofNat_tdiv];rfl
 have g:Int.tmod (n:Int) 4503599627370496=((n % 4503599627370496:Nat):Int):=by rw [Int.ofNat_tmod];rfl
 refine c3 (n / 4503599627370496) f (by omega) ?_
 refine⟨by decide,a6.mk ?_⟩
 rw [g]
 refine fN (fun O=>by omega) fun _=>?_
 refine c3 (4503599627370496+n % 4503599627370496) (by omega) (by omega) ?_
 refine fS a rfl ?_
 refine cN ((n / 4503599627370496:Nat):Int) rfl (by omega) (by omega) ?_
 refine cN (((n / 4503599627370496:Nat):Int) - 1074) (by omega) (by omega) (by omega) ?_
 refine cN (((n / 4503599627370496:Nat):Int) - 1075) (by omega) (by omega) (by omega) ?_
 exact⟨e,rfl⟩
theorem LQ{Y:aD}{b:U}{aI aE:Nat}{N:Int}(B:N=(aI:Int))(bI:aI < 9223372036854775808)(d:dU b aE [.int .u64 9223372036854775808,.int .i64 53,.int .i64 (-1074),.int .i64 971,.int .u64 9218868437227405312,.int .u64 9221120237041090561])(h:∀ aB,bC b aB→Y (.bool true) aB):
  fB b ((⟨aE,0,none⟩:Addr).add 4) fun C=>aW .u64 C fun D=>cond (decide (N≥D)) (Y (.bool true) b) (cond (decide (N < 4503599627370496)) (Y (.bool true) b) (pZ.aZ.t Y ⟨aE,0,none⟩ N b)):=by
 refine fS d rfl ?_
 refine cC (fun _=>h _ (bC.refl _)) fun E=>?_
 refine cC (fun _=>h _ (bC.refl _)) fun s2=>?_
 subst B
 unfold pZ.aZ.t
 refine fS d rfl (fS d rfl (fS d rfl (fS d rfl (fS d rfl (fS d rfl ?_)))))
 refine b5 (LP (n:=aI) b (by omega) (by omega)) fun v Nz ⟨o,cS⟩=>?_
 subst cS
 refine g7 rfl (cK (bR rfl (cK (bR rfl (dY ?_)))))
 refine cC (fun _=>h _ o) fun hY=>?_
 obtain⟨O,p⟩:∃ O:Nat,((aI / 4503599627370496:Nat):Int) - 1075=(O:Int) - 64:=⟨(((aI / 4503599627370496:Nat):Int) - 1011).toNat,by omega⟩
 have f:O < 1036:=by omega
 rw [p]
 have eF:2 ^ 52≤4503599627370496+aI % 4503599627370496:=by rw [show(2:Nat) ^ 52=4503599627370496 by decide];omega
 have q:4503599627370496+aI % 4503599627370496≤2 ^ (52+1) - 1:=by rw [show(2:Nat) ^ (52+1)=9007199254740992 by decide];omega
 generalize 4503599627370496+aI % 4503599627370496=n at *
 clear p E s2 hY bI
 obtain⟨m,S,up,bA⟩:=bin (K:=52) (by decide) f
 obtain⟨d0,hV⟩:=bA.hV
 have k:=hV.nE
 have l:=hV.n0
 obtain⟨aT,aF,r⟩:=LI m O 400
 obtain⟨_,lt⟩:=w0 bA (by decide) f (aE:=400) (by decide) (by decide) k l r
 obtain⟨g,s,NA,NB,NC,F,ND,i,G,NF⟩:=BK bA (by decide) f (aE:=400) (by decide) (by decide) k l r
 refine BL bA (by decide) f rfl rfl rfl fun aE a c NG H NH j NI=>?_
 rw [i] at j
 have I:∀ e:Nat,o1 1400 (m*2 ^ (O+1337)) S=1401 - (e:Int)→e=g:=fun e u=>by
  have:(1401:Int) - (g:Int)=1401 - (e:Int):=i.symm.trans u
  clear u i;omega
 clear i
 refine jB (fun O=>absurd rfl O) fun _=>?_
 refine fS j rfl ?_
 refine cC (fun n=>by omega) fun _=>?_
 refine fS j rfl ?_
 refine cC (fun n=>by omega) fun _=>?_
 unfold pZ.bF.t
 obtain⟨aK,J⟩:=w2 (K:=52) (by decide) eF q
 refine wY (aE:=400) rfl J f (by decide) (by decide) aK rfl rfl fun w P dR dA dZ eE NJ x y Q NK=>?_
 refine fS (j.aS y) rfl ?_
 refine cN ((s:Nat):Int) (by omega) (by omega) (by omega) ?_
 refine wG rfl (by omega) fun a9 bB NL z T=>?_
 refine uA (Q.aS z) rfl T.rd rfl ?_
 have V:2 ^ s < w:=by
  by_cases A:n=m
  ·subst A
   obtain⟨e,NM,NN,NO,NP,Nv,NQ,Nw,Nx,NR⟩:=BK bA (by decide) f (aE:=400) (by decide) (by decide) k l x
   have Ny:e=g:=I e Nw
   rw [F,← Ny,← Nv];exact Nx
  ·exact Nat.lt_trans G (lt n w P eF q A x)
 rw [LJ V]
 exact h _ (o.trans (H.trans (y.trans z)))
theorem LR{bM:Int}{Z:U}(k:0≤bM∧bM < 18446744073709551616):a0 pZ.id #[.int .u64 bM] Z fun v aB=>bC Z aB∧v=.bool true:=by
 refine pZ.ok ?_
 unfold pZ.t pZ.aM.t
 obtain⟨bM,rfl⟩:∃ n:Nat,bM=(n:Int):=⟨bM.toNat,by omega⟩
 refine BC fun aY b4=>?_
 refine jP (fun O=>by cases O) fun _=>?_
 refine b5 (LM aY) fun v d ⟨e,cS⟩=>?_
 subst cS
 refine g7 rfl (cK (eW rfl (cK (bR rfl (cK (bR rfl (cK (bR rfl (cK (bR rfl (cK (bR rfl (cK (bR rfl (dY (cK (cY rfl (dY ?_))))))))))))))))))
 refine eX fun l f g=>?_
 refine FU f rfl fun b a h=>?_
 have i:bC d b:=b2.aS g h (Nat.le_refl _)
 refine fS a rfl (fS a rfl (fS a rfl (fS a rfl (fS a rfl (fS a rfl ?_)))))
 refine b5 (LN (n:=bM) b) fun v m ⟨c,p,cS⟩=>?_
 subst cS
 refine g7 rfl (cK (cY rfl (cK (bR rfl (dY ?_)))))
 exact LQ (Y:=fun v aB=>bC Z aB∧v=.bool true) rfl (Nat.mod_lt _ (by decide)) (a.aS c) fun o j=>⟨b4.trans (e.trans (i.trans (c.trans j))),rfl⟩
end Go.Proofs.YtjijdlkpmngolaaGreat.G
