import Derived.LoopNIn
import Derived.TacticsIn
import Derived.RangeFuncKeeps
import Derived.RangeFuncCalls
import Derived.Shelf.Abstract
import Derived.RangeFuncFrom
import Derived.Test.YtjijdlkpmngolaaGreatKA
import Derived.Test.YtjijdlkpmngolaaGreatKM
import Derived.Test.YtjijdlkpmngolaaGreatKQ0
import Derived.Test.YtjijdlkpmngolaaGreatKQ1
import Derived.Test.YtjijdlkpmngolaaGreatKQ2
import Derived.Test.YtjijdlkpmngolaaGreatKQ3
import Derived.Test.YtjijdlkpmngolaaGreatKQ4
import Derived.Test.YtjijdlkpmngolaaGreatKQ5
import Derived.Test.YtjijdlkpmngolaaGreatKQ6
import Derived.Test.YtjijdlkpmngolaaGreatKQ7
import Derived.Test.YtjijdlkpmngolaaGreatKE
import Derived.Test.YtjijdlkpmngolaaGreatKB
import Derived.Test.YtjijdlkpmngolaaGreatKC0
import Derived.Test.YtjijdlkpmngolaaGreatKC1
import Derived.Test.YtjijdlkpmngolaaGreatKC2
set_option linter.unusedVariables false
namespace Go.Gv
set_option linter.unusedVariables false
set_option linter.unusedSimpArgs false
variable {P:Program} {E:Env}
def o2(F:Fence):Prop:=F=Fence.wide∨∃ l,F=Fence.wide.inRound l
theorem o2.fn{F:Fence}(Z:o2 F)(f:FuncId):F.fn f:=by
 rcases Z with rfl | ⟨l,rfl⟩ <;> exact trivial
theorem o2.depth{F:Fence}(Z:o2 F)(m:Nat):F.depth.isSome=true→1≤m:=by
 rcases Z with rfl | ⟨l,rfl⟩ <;> intro R <;> cases R
theorem o2.calls{F:Fence}(Z:o2 F){m:Nat}{f:FuncId}{args:Array Value}{aB:World}{Y:Ending→World→Prop}(c:Calls P f args aB Y):CallsIn F m P f args aB Y:=by
 rcases Z with rfl | ⟨l,rfl⟩
 ·exact callsIn_wide.2 c
 ·exact CallsIn.inRound l (callsIn_wide.2 c)
def p6(P:Program)(v:Value)(args:Array Value)(Z:U)(aF:Value→U→Prop):Prop:=
 ∃ l,v=.func (.yield l) #[] #[]∧∀ aB:World,aB.heap=Z→YieldAt Fence.wide 0 P l args aB fun R cI=>∃ v,R=.returned v∧eR aB cI∧aF v cI.heap
theorem p6.mono{v:Value}{args:Array Value}{Z:U}{aF a:Value→U→Prop}(b:∀ v Z,aF v Z→a v Z)(c:p6 P v args Z aF):p6 P v args Z a:=by
 obtain⟨l,R,c⟩:=c
 refine⟨l,R,fun aB d=>?_⟩
 obtain⟨fn,tmps,assign,body,r,S⟩:=c aB d
 exact⟨fn,tmps,assign,body,r,S.mono fun R cI ⟨v,aZ,e,f⟩=>⟨v,aZ,e,b _ _ f⟩⟩
def AA(aN:Oper):Bool:=match aN.op with
 | .call c=>(match c.callee with
  | .value (.tmp _)=>true
  | _=>false)
 | .makeFunc (.func _) _ _=>true
 | _=>false
def p7(aN:Oper):Bool:=match aN.op with
 | .defer _=>true
 | _=>false
def x5(P:Program)(E:Env)(aN:Oper)(X:Fr)(Z:U)(aF:Value→U→Prop):Prop:=
 match aN.op with
 | .call c=>(match c.callee with
  | .value (.tmp t)=>p6 P (X t) (c.args.toList.map (cW X)).toArray Z fun v K=>rC E aN.type v fun a=>aF a K
  | _=>m4 P E false 0 aN X Z aF)
 | .makeFunc (.func f) first captured=>aF (.func (.func f) (first.toList.map (cW X)).toArray (captured.toList.map (cW X)).toArray) Z
 | _=>m4 P E false 0 aN X Z aF
def q1(P:Program)(E:Env):List Oper→Fr→U→(Fr→U→Prop)→Prop
 | [],X,Z,aF=>aF X Z
 | aN :: rest,X,Z,aF=>match aN.guard with
  | none=>x5 P E aN X Z fun v K=>q1 P E rest (kZ X aN.dst v) K aF
  | some _=>False
def fJ(P:Program)(E:Env):Code→(a1→Fr→U→Prop)→Fr→U→Prop
 | .skip,Q,X,Z=>Q .normal X Z
 | .region id ops draw,Q,X,Z=>bif ops.toList.any AA then q1 P E ops.toList X Z (Q .normal) else den P E (.region id ops draw) Q X Z
 | .seq a L,Q,X,Z=>fJ P E a (a1.then (fJ P E L Q) Q) X Z
 | .cond c a L,Q,X,Z=>match cW X c with
  | .bool t=>cond t (fJ P E a Q (wN X c true) Z) (fJ P E L Q (wN X c false) Z)
  | _=>False
 | .block id c,Q,X,Z=>fJ P E c (a1.inBlock id Q) X Z
 | .loop c,Q,X,Z=>∃ n,iter (fun b=>fJ P E c (a1.then b Q)) n X Z
 | .exit id,Q,X,Z=>Q (.exit id) X Z
 | .ret,Q,X,Z=>Q .ret X Z
 | .rangeFunc ..,_,_,_=>False
 | .scope _,_,_,_=>False
 | .label _,Q,X,Z=>Q .normal X Z
 | .goto _,_,_,_=>False
 | .refuse _,_,_,_=>False
theorem LR{aN:Oper}{X:Fr}{Z:U}{aF c:Value→U→Prop}(b:∀ v Z,aF v Z→c v Z)(a:x5 P E aN X Z aF):x5 P E aN X Z c:=by
 unfold x5 at *
 split at a
 ·split at a
  ·exact p6.mono (fun v K g=>Bf (fun d=>b d K) g) a
  ·exact zE b a
 ·exact b _ _ a
 ·exact zE b a
theorem GB:∀ {l:List Oper} {X:Fr} {Z:U} {aF b:Fr→U→Prop},(∀ X Z,aF X Z→b X Z)→q1 P E l X Z aF→q1 P E l X Z b
 | [],_,_,_,_,c,a=>c _ _ a
 | aN :: rest,X,Z,aF,b,c,a=>by
  unfold q1 at *
  split at a
  ·exact LR (fun v K g=>GB c g) a
  ·cases a
theorem AB:∀ {c:Code} {Q d:a1→Fr→U→Prop} {X:Fr} {Z:U},(∀ R X Z,Q R X Z→d R X Z)→fJ P E c Q X Z→fJ P E c d X Z:=by
 intro c
 induction c with
 | skip=>intro Q d X Z b a;exact b _ _ _ a
 | label l=>intro Q d X Z b a;exact b _ _ _ a
 | ret=>intro Q d X Z b a;exact b _ _ _ a
 | exit id=>intro Q d X Z b a;exact b _ _ _ a
 | region id ops draw=>
  intro Q d X Z b a
  unfold fJ at *
  cases j:ops.toList.any AA with
  | true=>rw [j] at a;simp only [cond_true] at a ⊢;exact GB (b _) a
  | false=>rw [j] at a;simp only [cond_false] at a ⊢;exact w2 b a
 | seq N aP e f=>
  intro Q d X Z b a
  refine e (fun R k K g=>?_) a
  cases R with
  | normal=>exact f b g
  | exit id=>exact b _ _ _ g
  | ret=>exact b _ _ _ g
 | cond c N aP e f=>
  intro Q d X Z b a
  simp only [fJ] at *
  split at a
  ·rename_i t R
   cases t with
   | true=>exact e b a
   | false=>exact f b a
  ·cases a
 | block id c bU=>
  intro Q d X Z b a
  refine bU (fun R k K g=>?_) a
  cases R with
  | normal=>exact b _ _ _ g
  | ret=>exact b _ _ _ g
  | exit o=>
   simp only [a1.inBlock] at *
   cases m:Nat.beq o id with
   | true=>rw [m] at g;exact b _ _ _ g
   | false=>rw [m] at g;exact b _ _ _ g
 | loop c bU=>
  intro Q d X Z b a
  obtain⟨n,a⟩:=a
  refine⟨n,?_⟩
  have key:∀ n X Z,iter (fun h=>fJ P E c (a1.then h Q)) n X Z→iter (fun h=>fJ P E c (a1.then h d)) n X Z:=by
   intro n
   induction n with
   | zero=>intro X Z g;exact g
   | succ n p=>
    intro X Z g
    refine bU (fun R k K i=>?_) g
    cases R with
    | normal=>exact p _ _ i
    | exit id=>exact b _ _ _ i
    | ret=>exact b _ _ _ i
  exact key n X Z a
 | _=>intro Q d X Z b a;exact a
def k7:Code→Bool
 | .region _ ops draw=>!draw
 | .seq a L=>k7 a && k7 L
 | .cond _ a L=>k7 a && k7 L
 | .block _ c=>k7 c
 | .loop c=>k7 c
 | .scope c=>k7 c
 | _=>true
def k8(E:Env)(n:Nat):Code→Bool
 | .region _ ops draw=>sV E n ops draw && ops.toList.all (fun aN=>!p7 aN) && (!ops.toList.any AA || !draw)
 | .seq a L=>k8 E n a && k8 E n L
 | .cond _ a L=>k8 E n a && k8 E n L
 | .block _ c=>k8 E n c
 | .loop c=>k8 E n c
 | .scope c=>k8 E n c
 | _=>true
theorem AD{F:Fence}{a:Operand→Value}{aN:Oper}(Z:p7 aN=false):aN.semAt F.round a=execOp a aN:=
 Oper.semAt_eq _ _ _ fun c R=>by unfold p7 at Z;rw [R] at Z;cases Z
theorem GC{F:Fence}(b:o2 F){m:Nat}{md:Bool}{c0:Nat}{ops:Array Oper}{aN:Oper}{a:Act}{aB:World}{h:Value→U→Prop}(bM:e9 P E md c0 ops aN a aB.heap h)(n:p7 aN=false)
  {aF:Act→World→Prop} {Q:Exit→Act→World→Prop} (d:∀ v cI,eR aB cI→h v cI.heap→aF (a.put aN.dst v) cI) :
  if Region.wanted aN (yielded ops a.tmps) then aN.wpIn F m P a aB aF Q else(∀ f,aN.about P aB a.eval=some f→F.fn f)∧aF (a.put aN.dst undef) aB:=by
 unfold e9 at bM
 by_cases k:Region.wanted aN (yielded ops a.tmps)=true
 ·rw [if_pos k] at bM ⊢
  refine⟨fun f _=>b.fn f,?_⟩
  rw [AD n]
  have runs:∀ v,nU P aN a aB v→h v aB.heap→aN.uponIn F m P a aF Q ((execOp a.eval aN).run P aB):=by
   intro v o S
   rw [show(execOp a.eval aN).run P aB=_ from o]
   exact d v aB (eR.refl aB) S
  have l:∀ i,mC P aN a aB i→(∀ v Z,i v Z→h v Z)→aN.uponIn F m P a aF Q ((execOp a.eval aN).run P aB):=by
   rintro i (⟨v,cI,r,aH,S⟩ | ⟨cI,r,aH,S⟩ | ⟨f,args,r,c⟩) j
   ·rw [r];exact d v cI aH (j _ _ S)
   ·rw [r];exact d undef cI aH (j _ _ S)
   ·rw [r,Oper.uponIn_enter]
    refine⟨b.depth m,b.calls (c.mono ?_)⟩
    rintro R cI ⟨v,rfl,aH,S⟩
    exact d v cI aH (j _ _ S)
  cases e:gI E aN.op with
  | pure=>simp only [e] at bM;obtain⟨v,aZ,g⟩:=bM;exact runs v (aZ aB) g
  | load=>
   simp only [e] at bM
   obtain⟨v,aZ,g⟩:=bM
   refine runs v (aZ aB ?_) g
   cases md
   ·exact rfl
   ·exact eT.refl _ _
  | quiet=>
   simp only [e] at bM
   obtain⟨v,aZ,g⟩:=bM
   obtain⟨f,args,r,c⟩:=aZ aB rfl
   rw [r,Oper.uponIn_enter]
   refine⟨b.depth m,b.calls (c.mono ?_)⟩
   rintro R cI ⟨rfl,aH,S⟩
   exact d v cI aH (by rw [S];exact g)
  | call=>simp only [e] at bM;exact l _ (bM aB rfl) fun v Z S=>S.2
  | act=>simp only [e] at bM;exact l _ (bM aB rfl) fun v Z S=>S
 ·rw [if_neg k] at bM ⊢
  exact⟨fun f _=>b.fn f,d undef aB (eR.refl aB) bM⟩
theorem LS{F:Fence}(d:o2 F){m:Nat}{aN:Oper}{c:Call}{t:Nat}(e:aN.op=.call c)(h:c.callee=.value (.tmp t)){X:Fr}{a:Act}(j:a.eval=cW X){aB:World}{aF:Value→U→Prop}
  (b:p6 P (X t) (c.args.toList.map (cW X)).toArray aB.heap aF) {i:Act→World→Prop} {Q:Exit→Act→World→Prop} (k:∀ v cI,eR aB cI→aF v cI.heap→i (a.put aN.dst v) cI):aN.wpIn F m P a aB i Q:=by
 obtain⟨l,n,b⟩:=b
 obtain⟨fn,tmps,assign,body,r,S⟩:=b aB rfl
 have o:p7 aN=false:=by unfold p7;rw [e]
 refine⟨fun f _=>d.fn f,?_⟩
 rw [AD o,j]
 obtain⟨dst,op,type,pos,after,guard⟩:=aN
 obtain⟨callee,⟨args⟩,pK⟩:=c
 simp only at e h
 subst e;subst h
 have hex:(execOp (cW X) ⟨dst,.call ⟨.value (.tmp t),⟨args⟩,pK⟩,type,pos,after,guard⟩).run P aB=.ok (.round l fn tmps assign body) aB:=by
  have p:(Instr.yield l (List.map (cW X) args).toArray).run P aB=.ok (.round l fn tmps assign body) aB:=r
  simp [execOp,resolve,Deferred.ofValue,cW,invoke,n,p]
 rw [hex,Oper.uponIn_round]
 refine⟨d.depth m,?_⟩
 have q:RoundIn F (m - 1) P l fn tmps assign body aB fun R cI=>∃ v,R=.returned v∧eR aB cI∧aF v cI.heap:=by
  rcases d with rfl | ⟨s,rfl⟩
  ·exact⟨S.1,fun c c2 _=>S.2 c c2 fun aV b=>by cases b⟩
  ·exact⟨S.1,fun c c2 _=>S.2 c c2 fun aV b=>by cases b⟩
 refine q.mono ?_
 rintro R cI ⟨v,rfl,aH,g⟩
 exact k v cI aH g
theorem GD(k:hT P E){F:Fence}(g:o2 F){m n:Nat}{ops:Array Oper}{aF:Fr→U→Prop}{Q:Exit→Act→World→Prop}{iE:World}(o:∀ p q cI,gB n p q→eR iE cI→aF p cI.heap→Q .normal q cI):
  ∀ {l:List Oper} {X:Fr} {a:Act} {aB:World},l.all (pH n)=true→l.all (fun aN=>!p7 aN)=true→gB n X a→eR iE aB→q1 P E l X aB.heap aF→wpListIn F m P ops Q l a aB
 | [],X,a,aB,_,_,d,aH,b=>o X a aB d aH b
 | aN :: rest,X,a,aB,r,e,d,aH,b=>by
  simp only [List.all_cons,Bool.and_eq_true] at r e
  obtain⟨s,u⟩:=r
  obtain⟨w,x⟩:=e
  have e:p7 aN=false:=by simpa using w
  unfold q1 at b
  split at b
  ·rename_i y
   have i:Region.wanted aN (yielded ops a.tmps)=true:=by simp [Region.wanted,y]
   have next:∀ v cI,eR aB cI→q1 P E rest (kZ X aN.dst v) cI.heap aF→wpListIn F m P ops Q rest (a.put aN.dst v) cI:=
    fun v cI j S=>GD k g o u x (d.put s v) (aH.trans j) S
   unfold wpListIn
   rw [if_pos i]
   have plain:m4 P E false 0 aN X aB.heap (fun v K=>q1 P E rest (kZ X aN.dst v) K aF)→aN.wpIn F m P a aB (wpListIn F m P ops Q rest) Q:=by
    intro b
    have aZ:=GC (P:=P) (E:=E) (m:=m) (ops:=ops) (Q:=Q) (aF:=wpListIn F m P ops Q rest) g (Bb (ops:=ops) k d.cW b i) e next
    rw [if_pos i] at aZ;exact aZ
   unfold x5 at b
   split at b
   ·rename_i c h
    split at b
    ·rename_i t z
     exact LS g h z d.cW b fun v cI j S=>by
      obtain A:=A3 S
      exact next v cI j A
    ·exact plain b
   ·rename_i f first captured h
    refine⟨fun f _=>g.fn f,?_⟩
    rw [AD e,d.cW]
    have hex:(execOp (cW X) aN).run P aB=.ok (.value (.func (.func f) (first.toList.map (cW X)).toArray (captured.toList.map (cW X)).toArray)) aB:=by
     obtain⟨dst,op,type,pos,after,guard⟩:=aN
     obtain⟨first⟩:=first
     obtain⟨captured⟩:=captured
     simp only at h
     subst h
     simp [execOp,Instr.makeFunc]
    rw [hex]
    exact next _ aB (eR.refl aB) b
   ·exact plain b
  ·cases b
theorem LU(i:hT P E){F:Fence}(j:o2 F){m id n:Nat}{ops:Array Oper}(f:sV E n ops false=true)(k:ops.toList.all (fun aN=>!p7 aN)=true){X:Fr}{a:Act}{aB:World}(o:gB n X a){Q:a1→Fr→U→Prop}
  (p:den P E (.region id ops false) Q X aB.heap) {g:Exit→Act→World→Prop} (q:∀ b e cI,gB n b e→eR aB cI→Q .normal b cI.heap→g .normal e cI) :
  (Code.region id ops false).wpIn F m P g a aB:=by
 obtain⟨l⟩:=ops
 simp only [sV,Bool.and_eq_true] at f
 obtain⟨s,f⟩:=f
 have t:l.all (pH n)=true:=s
 have u:jG P E (qD E false l) aB.heap.size l l X aB.heap (Q .normal):=p
 have w:=zA i (S:=0) (fun aC=>by simp) t o u
 refine wpIn_region ?_
 have key:∀ (d:List Nat) (a:Act) (c:World),eR aB c→iQ P E (qD E false l) aB.heap.size l.toArray (fun e K=>∃ b,gB n b e∧Q .normal b K) d a c.heap→wpOpsIn F m P l.toArray g d a c:=by
  intro d
  induction d with
  | nil=>intro a c aH ⟨b,r,S⟩;exact q b a c r aH S
  | cons O d bU=>
   intro a c aH S
   unfold wpOpsIn
   simp only [iQ] at S
   cases h:l.toArray[O]? with
   | none=>simp only [h] at S ⊢;exact bU a c aH S
   | some aN=>
    simp only [h] at S ⊢
    have x:p7 aN=false:=by
     have aZ:=List.all_eq_true.1 k aN (List.mem_of_getElem? (by simpa using h))
     simpa using aZ
    exact GC j S x fun v cI y cS=>bU _ cI (aH.trans y) cS
 rw [List.range_eq_range']
 exact key _ a aB (eR.refl aB) (by simpa using w)
theorem wA(q:hT P E){F:Fence}(z:o2 F){m n:Nat}:∀ {c:Code} {Q:a1→Fr→U→Prop} {X:Fr} {a:Act} {aB:World} {j:Exit→Act→World→Prop},k8 E n c=true→(F=Fence.wide∨k7 c=true)→gB n X a→fJ P E c Q X aB.heap→
  (∀ R f g cI,gB n f g→eR aB cI→Q R f cI.heap→j R.up g cI)→c.wpIn F m P j a aB:=by
 intro c
 induction c with
 | skip=>intro Q X a aB j h i e b d;exact wpIn_skip (d .normal X a aB e (eR.refl aB) b)
 | label l=>intro Q X a aB j h i e b d;exact wpIn_label (d .normal X a aB e (eR.refl aB) b)
 | ret=>intro Q X a aB j h i e b d;exact wpIn_ret (d .ret X a aB e (eR.refl aB) b)
 | exit id=>intro Q X a aB j h i e b d;exact wpIn_exit (d (.exit id) X a aB e (eR.refl aB) b)
 | region id ops draw=>
  intro Q X a aB j h i e b d
  unfold k8 at h
  rw [Bool.and_eq_true,Bool.and_eq_true] at h
  obtain⟨⟨p,A⟩,B⟩:=h
  unfold fJ at b
  cases C:ops.toList.any AA with
  | true=>
   rw [C] at b B
   have G:draw=false:=by simpa using B
   subst G
   simp only [cond_true] at b
   have o:ops.toList.all (pH n)=true:=by
    simp only [sV,Bool.and_eq_true] at p;exact p.1
   exact wpIn_region_list (GD q z (iE:=aB) (fun f g cI r aH S=>d .normal f g cI r aH S) o A e (eR.refl aB) b)
  | false=>
   rw [C] at b
   simp only [cond_false] at b
   cases draw with
   | false=>exact LU q z p A e b fun f g cI r aH S=>d .normal f g cI r aH S
   | true=>
    rcases i with rfl | i
    ·exact wpIn_wide.2 (DQ q p e b fun f g cI r aH S=>d .normal f g cI r aH S)
    ·cases i
 | seq N aP s u=>
  intro Q X a aB j h i e b d
  simp only [k8,Bool.and_eq_true] at h
  have v:F=Fence.wide∨k7 N=true:=i.imp id fun Z=>by simp only [k7,Bool.and_eq_true] at Z;exact Z.1
  have w:F=Fence.wide∨k7 aP=true:=i.imp id fun Z=>by simp only [k7,Bool.and_eq_true] at Z;exact Z.2
  refine wpIn_seq (s h.1 v e b fun R f g cI r aH S=>?_)
  cases R with
  | normal=>exact u h.2 w r S fun H I bJ k J s2 T=>d H I bJ k J (aH.trans s2) T
  | exit id=>exact d (.exit id) f g cI r aH S
  | ret=>exact d .ret f g cI r aH S
 | cond c N aP s u=>
  intro Q X a aB j h i e b d
  simp only [k8,Bool.and_eq_true] at h
  have v:F=Fence.wide∨k7 N=true:=i.imp id fun Z=>by simp only [k7,Bool.and_eq_true] at Z;exact Z.1
  have w:F=Fence.wide∨k7 aP=true:=i.imp id fun Z=>by simp only [k7,Bool.and_eq_true] at Z;exact Z.2
  simp only [fJ] at b
  split at b
  ·rename_i t x
   have V:a.eval c=.bool t:=by rw [e.cW];exact x
   refine wpIn_cond V ?_
   cases t with
   | true=>simp only [cond_true,yT x] at b;exact s h.1 v e b d
   | false=>simp only [cond_false,yT x] at b;exact u h.2 w e b d
  ·cases b
 | block id c bU=>
  intro Q X a aB j h i e b d
  refine wpIn_block (bU h i e b fun R f g cI r aH S=>?_)
  cases R with
  | normal=>exact d .normal f g cI r aH S
  | ret=>exact d .ret f g cI r aH S
  | exit D=>
   simp only [a1.inBlock] at S
   simp only [a1.up,Exit.inBlock]
   cases o:Nat.beq D id with
   | true=>
    simp only [o,cond_true] at S
    rw [if_pos (Nat.eq_of_beq_eq_true o)]
    exact d .normal f g cI r aH S
   | false=>
    simp only [o,cond_false] at S
    rw [if_neg (fun R=>by subst R;simp at o)]
    exact d (.exit D) f g cI r aH S
 | loop c bU=>
  intro Q X a aB j h i e b d
  obtain⟨S,b⟩:=b
  refine wpIn_loop_rounds S ?_
  have key:∀ S X a k,gB n X a→eR aB k→iter (fun Pt=>fJ P E c (a1.then Pt Q)) S X k.heap→Code.roundsIn F m P c j S a k:=by
   intro S
   induction S with
   | zero=>intro X a k _ _ Z;exact Z.elim
   | succ S Pu=>
    intro X a k e aH Z
    rw [roundsIn_succ]
    refine bU h i e Z fun R f g cI r y S=>?_
    cases R with
    | normal=>exact Pu f g cI r (aH.trans y) S
    | exit id=>exact d (.exit id) f g cI r (aH.trans y) S
    | ret=>exact d .ret f g cI r (aH.trans y) S
  exact key S X a aB e (eR.refl aB) b
 | _=>intro Q X a aB j h i e b d;exact b.elim
theorem CB(b:hT P E){fn:Func}{dC:List ResultVar}(c:fn.results.toList=dC){n:Nat}{X:Fr}{a:Act}{aB:World}(r:gB n X a){Y:Value→U→Prop}
  (S:pG E X aB.heap dC fun bV=>Y (u1 bV) aB.heap):∃ v,(results fn a.tmps).run P aB=.ok v aB∧Y v aB.heap:=by
 obtain⟨bV,aZ,d⟩:=zC b r S
 refine⟨_,?_,aZ⟩
 have e:results fn a.tmps=(fn.results.mapM (w0 a.tmps) >>= fun bV=>pure (if Z:bV.size=1 then bV[0] else .tuple bV)):=rfl
 rw [e,Sem.run_bind,Array.mapM_eq_mapM_toList,Sem.run_map,c,d]
 simp only [Result.andThen,Sem.run_pure]
 congr 1
 match bV with
 | []=>rfl
 | [t]=>rfl
 | t :: f :: jD=>simp [u1]
theorem GF(a:hT P E){f:FuncId}{fn:Func}{c:Code}{dC:List ResultVar}(g:P.funcs[f]?=some fn)(h:fn.body=some c)(i:k8 E fn.ntmps c=true)(e:fn.results.toList=dC)
  {args:List Value} (b:Nat.ble args.length fn.ntmps=true) {Z:U} {Y:Value→U→Prop}
  (j:fJ P E c (a8 E dC Y) (u0 args) Z):mZ P f args.toArray Z Y:=by
 have b:=Nat.le_of_ble_eq_true b
 intro aB k
 subst k
 refine calls_of_wp g h ?_
 have l:=Be args fn.ntmps b
 have m:fn.ntmps - args.toArray.size=fn.ntmps - args.length:=by simp
 rw [m]
 refine(wpIn_wide (n:=0)).1 (wA a (.inl rfl) i (.inl rfl) l j fun R o p cI r aH S=>?_)
 cases R with
 | normal=>obtain⟨v,aZ,d⟩:=CB a e r S;exact⟨r.defers,v,aZ,v,rfl,aH,d⟩
 | ret=>obtain⟨v,aZ,d⟩:=CB a e r S;exact⟨r.defers,v,aZ,v,rfl,aH,d⟩
 | exit id=>exact S.elim
theorem wB{c:Code}{Q:a1→Fr→U→Prop}{X:Fr}{Z:U}(l:List (Nat × Value))(a:zF X l){t:Prop}(b:fJ P E c Q (w3 X l) Z=t)(g:t):fJ P E c Q X Z:=by
 rw [← b,Bj a] at g;exact g
theorem LV{d:Fr→U→Prop}{Q:a1→Fr→U→Prop}:∀ {n:Nat} {c:Code} (_:∀ X Z,d X Z→fJ P E (rest n c) Q X Z) {X:Fr} {Z:U},fJ P E (first n c) (a1.then d Q) X Z→fJ P E c Q X Z:=by
 have key:∀ (c:Code),(∀ X Z,d X Z→fJ P E .skip Q X Z)→∀ {X:Fr} {Z:U},fJ P E c (a1.then d Q) X Z→fJ P E c Q X Z:=by
  intro c b X Z g
  refine AB (fun R X Z g=>?_) g
  cases R with
  | normal=>exact b _ _ g
  | exit O=>exact g
  | ret=>exact g
 have one:∀ (a L:Code),(∀ X Z,d X Z→fJ P E L Q X Z)→∀ {X:Fr} {Z:U},fJ P E a (a1.then d Q) X Z→fJ P E (.seq a L) Q X Z:=by
  intro a L b X Z g
  show fJ P E a (a1.then (fJ P E L Q) Q) X Z
  refine AB (fun R X Z g=>?_) g
  cases R with
  | normal=>exact b _ _ g
  | exit O=>exact g
  | ret=>exact g
 intro n
 induction n with
 | zero=>
  intro c b X Z g
  have f:first 0 c=c:=by cases c <;> rfl
  have h:rest 0 c=.skip:=by cases c <;> rfl
  rw [f] at g;rw [h] at b;exact key c b g
 | succ n bU=>
  intro c b X Z g
  cases c with
  | seq a L=>
   cases n with
   | zero=>exact one a L b g
   | succ m=>
    have e:fJ P E a (a1.then (fJ P E (first (m+1) L) (a1.then d Q)) (a1.then d Q)) X Z:=g
    rw [D2] at e <;> skip
    all_goals show fJ P E a (a1.then (fJ P E L Q) Q) X Z
    all_goals refine AB (fun R X Z g=>?_) e
    all_goals cases R with
     | normal=>exact bU b g
     | exit O=>exact g
     | ret=>exact g
  | _=>exact key _ (by cases n <;> exact b) (by cases n <;> exact g)
theorem GG(n:Nat){c r:Code}{a:Fr→U→Prop}{Q:a1→Fr→U→Prop}(b:rest n c=r)(d:∀ X Z,a X Z→fJ P E r Q X Z){X:Fr}{Z:U}(g:fJ P E (first n c) (a1.then a Q) X Z):fJ P E c Q X Z:=by
 subst b;exact LV d g
theorem LW{c a:Code}{O:Nat}{Q:a1→Fr→U→Prop}(b:c=.block O a){X:Fr}{Z:U}(g:fJ P E a (a1.inBlock O Q) X Z):fJ P E c Q X Z:=by
 subst b;exact g
theorem LX{c L:Code}{Q:a1→Fr→U→Prop}(T:Nat→Fr→U→Prop)(a:c=.loop L)(aX:∀ X Z,T 0 X Z→False)(bM:∀ n X Z,T (n+1) X Z→fJ P E L (a1.then (T n) Q) X Z)(n:Nat)(X:Fr)(Z:U)(g:T n X Z):fJ P E c Q X Z:=by
 subst a
 refine⟨n,?_⟩
 induction n generalizing X Z with
 | zero=>exact(aX X Z g).elim
 | succ n bU=>
  show fJ P E L (a1.then (iter (fun b=>fJ P E L (a1.then b Q)) n) Q) X Z
  refine AB (fun R X Z g=>?_) (bM n X Z g)
  cases R with
  | normal=>exact bU _ _ g
  | exit O=>exact g
  | ret=>exact g
def tZ(v:Value)(aF:Value→Prop):Prop:=aF v
theorem wC{v:Value}{aF:Value→Prop}(Z:tZ v aF):∃ N,v=N∧aF N:=⟨v,rfl,Z⟩
theorem GH{v N:Value}{aF:Value→Prop}(R:v=N)(g:aF N):tZ v aF:=by subst R;exact g
def LY:Code→Code
 | .rangeFunc _ _ a _=>a
 | c=>c
def LZ:Code→Code
 | .rangeFunc _ _ _ L=>L
 | c=>c
def uA(T:Addr→Addr→Addr→Value→U→Prop):a1→Fr→U→Prop
 | .normal,X,Z=>gH (X 1) fun b8=>gH (X 2) fun e8=>gH (X 4) fun eD=>tZ (X 14) fun v=>T b8 e8 eD v Z
 | _,_,_=>False
def L0(a b:U→Prop):a1→Fr→U→Prop
 | .normal,_,Z=>a Z
 | .ret,_,Z=>b Z
 | _,_,_=>False
set_option linter.unusedSimpArgs false
variable {P:Program} {E:Env}
structure iX(bC:Nat)(Z K:U):Prop where
 le:Z.size≤K.size
 at_:∀ (L:Nat) (aN:Obj),Z[L]?=some aN→(L < bC∨aN.isCells=true)→K[L]?=some aN
theorem bA.sE{bC:Nat}{Z K:U}(S:bA Z K):iX bC Z K:=⟨S.le,fun L aN R _=>(S.pre L (Array.getElem?_eq_some_iff.1 R).1).trans R⟩
theorem iX.put{bC l:Nat}{Z:U}{aN:Obj}(fO:Obj)(b:Z[l]?=some aN)(e:bC≤l)(c:aN.isCells=false):iX bC Z (Z.setIfInBounds l fO):=by
 refine⟨by simp,fun L cU R a=>?_⟩
 have d:l ≠ L:=by
  rintro rfl
  rcases a with a | a
  ·omega
  ·rw [b] at R;cases R;rw [c] at a;cases a
 rw [Array.getElem?_setIfInBounds_ne d];exact R
theorem bA.push(Z:U)(aN:Obj):bA Z (Z.push aN):=⟨by simp,fun L a=>by rw [Array.getElem?_push,if_neg (by omega)]⟩
def kX(Z K:U):Prop:=∀ (L:Nat) (aN:Obj),Z[L]?=some aN→aN.isCells=false→K[L]?=some aN
def sF(P:Program)(l:Nat)(args:Array Value)(Z:U)(aF:Value→U→Prop):Prop:=
 ∀ aB:World,aB.heap=Z→YieldAt Fence.wide 0 P l args aB fun R cI=>∃ v,R=.returned v∧eR aB cI∧aF v cI.heap
theorem sF.L1{l:Nat}{args:Array Value}{Z:U}{aF:Value→U→Prop}(aP:sF P l args Z aF):p6 P (.func (.yield l) #[] #[]) args Z aF:=⟨l,rfl,aP⟩
theorem sF.mono{l:Nat}{args:Array Value}{Z:U}{aF a:Value→U→Prop}(b:∀ v Z,aF v Z→a v Z)(c:sF P l args Z aF):sF P l args Z a:=by
 intro aB d
 obtain⟨fn,tmps,assign,body,r,S⟩:=c aB d
 exact⟨fn,tmps,assign,body,r,S.mono fun R cI ⟨v,aZ,e,f⟩=>⟨v,aZ,e,b _ _ f⟩⟩
def GI{cX:Type}(P:Program)(a:Nat)(b:Array Value)(c:cX→Array Value)(d:U→U→Prop)(c6 e:List cX→Prop)(f:Nat)(aX:U):Prop:=
 ∀ (l:Nat) (g h:List cX→U→Prop) (Z:U),bA aX Z→(∀ aH Z K,g aH Z→bA Z K→g aH K)→(∀ aH Z K,h aH Z→bA Z K→h aH K)→
  (∀ pre N aZ,g pre aZ→pre.length < f→sF P l (c N) aZ fun v K=>(v=.bool true∧g (pre ++ [N]) K∧d aZ K)∨(v=.bool false∧h (pre ++ [N]) K))→
  g [] Z→mZ P a (#[.func (.yield l) #[] #[]] ++ b) Z fun _ K=>(∃ aA,c6 aA∧g aA K)∨(∃ pre,e pre∧h pre K)
def L2{cX:Type}(a:U→U→Prop)(b c:List cX→U→Prop)(aA:List cX)(bH:World):Exit→Act→World→Prop
 | .normal,_,d=>eR bH d∧kX bH.heap d.heap∧a bH.heap d.heap∧b aA d.heap
 | .ret,_,d=>eR bH d∧kX bH.heap d.heap∧c aA d.heap
 | _,_,_=>False
theorem L3{cX:Type}{n:Nat}{g:Operand}{x:Array Tmp}{assign body:Code}{Q:Exit→Act→World→Prop}{a:Act}{aB:World}
  {j:Nat} {y:Array Value} (Px:a.eval g=.func (.func j) #[] y) (Py:∀ args aB,(callFunc j args).run P aB=.ok (.enter j args) aB)
  {z:cX→Array Value} {k:U→U→Prop} {c6 H:List cX→Prop} {I:Nat} (Pz:GI P j y z k c6 H I aB.heap)
  (J:∀ {m bC aO:U},k m bC→k bC aO→k m aO) (T:∀ Z K,iX aB.heap.size Z K→k Z K) (PA:∀ N,(z N).size=x.size)
  (h s:List cX→U→Prop) (u:∀ aH Z K,h aH Z→iX aB.heap.size Z K→h aH K) (B:∀ aH Z K,s aH Z→iX aB.heap.size Z K→s aH K) (aX:h [] aB.heap) (V:cX→Act)
  (PB:∀ (l:Nat) (N:cX) (bH:World) (aF:Act→World→Prop),aF (V N) bH→
   assign.wpIn (Fence.wide.inRound l) 0 P (Exit.then aF (fun _ _ _=>False)) { tmps:=(x.zip (z N)).foldl (fun t (p,v)=>t.setIfInBounds p v) a.tmps,defers:=[] } bH)
  (PC:∀ (l:Nat) (pre:List cX) (N:cX) (bH:World),h pre bH.heap→pre.length < I→body.wpIn (Fence.wide.inRound l) 0 P (L2 k h s (pre ++ [N]) bH) (V N) bH)
  (PD:∀ (D:Nat) (aA:List cX) (bH:World),aB.heap.size≤D→eR aB bH→c6 aA→h aA bH.heap→bH.heap[D]?=some (.deferred (some []))→Q .normal { a with defers:={ target:=.collected D,args:=#[] } :: a.defers } bH)
  (PE:∀ (D:Nat) (pre:List cX) (bH:World),aB.heap.size≤D→eR aB bH→H pre→s pre bH.heap→bH.heap[D]?=some (.deferred (some []))→Code.ret.wpIn Fence.wide n P Q { a with defers:={ target:=.collected D,args:=#[] } :: a.defers } bH) :
  (Code.rangeFunc g x assign body).wpIn Fence.wide n P Q a aB:=by
 refine wpIn_rangeFunc ?_
 intro fn PF
 rw [show Fence.wide.round=none from rfl]
 obtain⟨rec,e⟩:∃ rec:LoopState→Option Code→Loop,rec=fun PG PH=>{ state:=PG,pending:=PH,fn,tmps:=a.tmps,params:=x,assign,body,defers:=aB.heap.size }:=⟨_,rfl⟩
 obtain⟨d,w⟩:∃ d,(aB.alloc (.deferred (some []))).alloc (.loop (rec .ready none))=d:=⟨_,rfl⟩
 have PI:d.heap[aB.heap.size+1]?=some (.loop (rec .ready none)):=by
  rw [← w];have:=World.alloc_heap_new (aB.alloc (.deferred (some []))) (.loop (rec .ready none));rwa [World.size_alloc] at this
 have PJ:d.heap[aB.heap.size]?=some (.deferred (some [])):=by
  rw [← w];show((aB.heap.push _).push _)[aB.heap.size]?=_;simp [Array.getElem?_push]
 have Pt:bA aB.heap d.heap:=by rw [← w];exact(bA.push _ _).trans (bA.push _ _)
 have Pu:eR aB d:=by rw [← w];exact⟨rfl,rfl,rfl⟩
 have PK:h [] d.heap:=u _ _ _ aX Pt.sE
 refine⟨aB.heap.size+1,[{ target:=.collected aB.heap.size,args:=#[] }],d,{ target:=.fn (.func j) y,args:=#[.func (.yield (aB.heap.size+1)) #[] #[]] },d,j,
  #[.func (.yield (aB.heap.size+1)) #[] #[]] ++ y,d,?_,?_,fun _ _=>trivial,?_,fun R=>(by cases R),?_⟩
 ·rw [← w,e];exact run_enterLoop_outer _ _ _ _ _
 ·simp only [resolve,Px]
  simp [go_sem]
 ·simp [invoke,go_sem,Py]
 ·have PL:=Pz (aB.heap.size+1)
   (fun pre Z=>h pre Z∧Z[aB.heap.size+1]?=some (.loop (rec .ready none))∧Z[aB.heap.size]?=some (.deferred (some [])))
   (fun pre Z=>s pre Z∧Z[aB.heap.size+1]?=some (.loop (rec .done (some .ret)))∧Z[aB.heap.size]?=some (.deferred (some [])))
   d.heap Pt
   (fun aH m bC bM c=>⟨u aH m bC bM.1 c.sE,(c.pre _ (Array.getElem?_eq_some_iff.1 bM.2.1).1).trans bM.2.1,(c.pre _ (Array.getElem?_eq_some_iff.1 bM.2.2).1).trans bM.2.2⟩)
   (fun aH m bC bM c=>⟨B aH m bC bM.1 c.sE,(c.pre _ (Array.getElem?_eq_some_iff.1 bM.2.1).1).trans bM.2.1,(c.pre _ (Array.getElem?_eq_some_iff.1 bM.2.2).1).trans bM.2.2⟩)
   ?_ ⟨PK,PI,PJ⟩
  ·refine CallsIn.mono (callsIn_wide.2 (PL d rfl)) ?_
   rintro R o ⟨v,rfl,s2,(⟨aA,PM,a4,f,c⟩ | ⟨pre,PN,a4,f,c⟩)⟩
   ·refine⟨none,o.putObj (aB.heap.size+1) (.loop { rec .ready none with state:=.exhausted }),by have:=run_endLoop (P:=P) f (by rw [e];simp);rw [e] at this ⊢;exact this,?_⟩
    have hN:eR o (o.putObj (aB.heap.size+1) (.loop { rec .ready none with state:=.exhausted })):=⟨rfl,rfl,rfl⟩
    exact PD _ aA _ (Nat.le_refl _) (Pu.trans (s2.trans hN)) PM (u _ _ _ a4 (iX.put _ f (by omega) rfl)) ((World.putObj_heap_other (by omega)).trans c)
   ·refine⟨some .ret,o.putObj (aB.heap.size+1) (.loop { rec .done (some .ret) with state:=.exhausted }),by have:=run_endLoop (P:=P) f (by rw [e];simp);rw [e] at this ⊢;exact this,?_⟩
    have hN:eR o (o.putObj (aB.heap.size+1) (.loop { rec .done (some .ret) with state:=.exhausted })):=⟨rfl,rfl,rfl⟩
    exact PE _ pre _ (Nat.le_refl _) (Pu.trans (s2.trans hN)) PN (B _ _ _ a4 (iX.put _ f (by omega) rfl)) ((World.putObj_heap_other (by omega)).trans c)
  ·rintro pre N aZ ⟨a4,f,c⟩ PO bH rfl
   have PQ:aB.heap.size+1 < bH.heap.size:=(Array.getElem?_eq_some_iff.1 f).1
   have Pv:=run_yield (P:=P) (args:=z N) f (by rw [e];exact PA N)
   rw [e] at Pv
   refine⟨fn,_,assign,body,Pv,roundIn_of_wpIn PF (PB _ N bH _ ⟨_,run_beginRound f (by rw [e]),?_⟩)⟩
   have PR:(bH.putObj (aB.heap.size+1) (.loop { rec .ready none with state:=.busy })).heap[aB.heap.size+1]?=some (.loop { rec .ready none with state:=.busy }):=World.putObj_heap_same PQ
   have PS:(bH.putObj (aB.heap.size+1) (.loop { rec .ready none with state:=.busy })).heap[aB.heap.size]?=some (.deferred (some [])):=(World.putObj_heap_other (by omega)).trans c
   have Pw:iX aB.heap.size bH.heap (bH.putObj (aB.heap.size+1) (.loop { rec .ready none with state:=.busy })).heap:=iX.put _ f (by omega) rfl
   refine wpIn_mono (PC _ pre N _ (u _ _ _ a4 Pw) PO) ?_
   have fin:∀ (jump:Option Code) (b:World),kX (bH.putObj (aB.heap.size+1) (.loop { rec .ready none with state:=.busy })).heap b.heap→
     (Instr.endRound (aB.heap.size+1) jump).run P b=.ok (.bool jump.isNone) (b.putObj (aB.heap.size+1) (.loop (rec (if jump.isNone then .ready else .done) jump)))∧
     b.heap[aB.heap.size+1]?=some (.loop { rec .ready none with state:=.busy })∧
     (b.putObj (aB.heap.size+1) (.loop (rec (if jump.isNone then .ready else .done) jump))).heap[aB.heap.size+1]?=some (.loop (rec (if jump.isNone then .ready else .done) jump))∧
     (b.putObj (aB.heap.size+1) (.loop (rec (if jump.isNone then .ready else .done) jump))).heap[aB.heap.size]?=some (.deferred (some [])):=fun jump b q=>by
    have i:=q _ _ PR rfl
    have:=run_endRound (P:=P) jump i
    rw [e] at this ⊢
    exact⟨this,by rw [e] at i;exact i,World.putObj_heap_same (Array.getElem?_eq_some_iff.1 i).1,(World.putObj_heap_other (by omega)).trans (q _ _ PS rfl)⟩
   rintro R c3 b r
   cases R with
   | normal=>
    obtain⟨hN,q,PT,C⟩:=r
    obtain⟨E,i,F,G⟩:=fin none b q
    have A:iX aB.heap.size b.heap (b.putObj (aB.heap.size+1) (.loop (rec .ready none))).heap:=iX.put _ i (by omega) rfl
    exact⟨_,_,E,_,rfl,⟨hN.os,hN.tape,hN.output⟩,.inl ⟨rfl,⟨u _ _ _ C A,F,G⟩,J (J (T _ _ Pw) PT) (T _ _ A)⟩⟩
   | ret=>
    obtain⟨hN,q,C⟩:=r
    obtain⟨E,i,F,G⟩:=fin (some .ret) b q
    have A:iX aB.heap.size b.heap (b.putObj (aB.heap.size+1) (.loop (rec .done (some .ret)))).heap:=iX.put _ i (by omega) rfl
    exact⟨_,_,E,_,rfl,⟨hN.os,hN.tape,hN.output⟩,.inr ⟨rfl,B _ _ _ C A,F,G⟩⟩
   | exit id=>exact r.elim
   | goto t=>exact r.elim
   | panic PU=>exact r.elim
   | outgrown=>exact r.elim
end Go.Gv
namespace Go.Proofs.YtjijdlkpmngolaaGreat.G
open Go.Gv
set_option maxRecDepth 100000
set_option linter.unusedVariables false
set_option maxRecDepth 100000
namespace l6
noncomputable def aO:Code:=dK Tryz.f104
def dA.g(a:Value→M→Nat→Nat→M→Nat→Nat→M→Nat→Nat→M→Nat→Nat→U→Prop)(X:Fr)(Z:U):Prop:=tZ (X 0) fun b=>aQ (X 6) fun a7 c a9=>aQ (X 7) fun b0 d b2=>aQ (X 8) fun bR e bT=>aQ (X 9) fun f h i=>a b a7 c a9 b0 d b2 bR e bT f h i Z
def cE.t(Y:aD)(bX:Value→M→Nat→Nat→M→Nat→Nat→M→Nat→Nat→M→Nat→Nat→U→Prop)(a:Value)(a7:M)(b:Nat)(a9:Nat)(b0:M)(c:Nat)(b2:Nat)(bR:M)(d:Nat)(bT:Nat)(e:M)(f:Nat)(g:Nat)(Z:U):Prop:=
 aY mM.id #[.slice a7 b a9,.slice b0 c b2] Z fun b fM=>
 cT b fun b=>
 cQ b fun b h=>
 aQ b fun b i j=>
 cQ h fun h k=>
 aQ h fun h l m=>
 cQ k fun k n=>
 aW .i64 k fun k=>
 b5 n <| aY mM.id #[.slice bR d bT,.slice e f g] fM fun d n=>
 cT d fun d=>
 cQ d fun d o=>
 aQ d fun d p q=>
 cQ o fun o r=>
 aQ o fun o s u=>
 cQ r fun r v=>
 aW .i64 r fun r=>
 b5 v <| cond (k != 0) (Y (.tuple #[]) n) (cond (r != 0) (Y (.tuple #[]) n) (aY iU.id #[.slice b i j,.slice d p q] n fun d j=>
 aW .i64 d fun d=>
 cond (d != 0) (Y (.tuple #[]) j) (cond (decide ((((i:Nat):Int)) > 1)) (Y (.tuple #[]) j) (cond ((((i:Nat):Int)) == 1) (c7 b i 0 1 fun b=>
 fG j b fun b=>
 aW .u64 b fun b=>
 p6 prog a #[.int .u64 b] j fun b d=>
 eS b fun b=>
 cond (!b) (Y (.tuple #[]) d) (bX a b0 c b2 h l m e f g o s u d)) (p6 prog a #[.int .u64 0] j fun b d=>
 eS b fun b=>
 cond (!b) (Y (.tuple #[]) d) (bX a b0 c b2 h l m e f g o s u d))))))
def cE.g(Y:aD)(bX:Value→M→Nat→Nat→M→Nat→Nat→M→Nat→Nat→M→Nat→Nat→U→Prop)(X:Fr)(Z:U):Prop:=tZ (X 0) fun a=>aQ (X 6) fun a7 b a9=>aQ (X 7) fun b0 c b2=>aQ (X 8) fun bR d bT=>aQ (X 9) fun e f h=>cE.t Y bX a a7 b a9 b0 c b2 bR d bT e f h Z
theorem cE.ok(Y:aD)(bX:Value→M→Nat→Nat→M→Nat→Nat→M→Nat→Nat→M→Nat→Nat→U→Prop)(X:Fr)(Z:U)(g:cE.g Y bX X Z):fJ prog E (a3 aO [true,false,false,true]) (a1.then (dA.g bX) (a1.inBlock 0 (a8 E [] Y))) X Z:=by
 obtain⟨a,b,g⟩:=wC g
 obtain⟨a7,c,a9,d,g⟩:=b4 g
 obtain⟨b0,e,b2,f,g⟩:=b4 g
 obtain⟨bR,h,bT,i,g⟩:=b4 g
 obtain⟨j,k,l,m,g⟩:=b4 g
 exact wB [(0,a),(6,.slice a7 c a9),(7,.slice b0 e b2),(8,.slice bR h bT),(9,.slice j k l)] ⟨b,d,f,i,m,trivial⟩ (by kernel_rfl) g
def bF.t(Y:aD)(bX:Value→M→Nat→Nat→M→Nat→Nat→M→Nat→Nat→M→Nat→Nat→U→Prop)(a:Value)(a7:M)(b:Nat)(a9:Nat)(b0:M)(c:Nat)(b2:Nat)(bR:M)(d:Nat)(bT:Nat)(e:M)(f:Nat)(g:Nat)(Z:U):Prop:=
 cond (decide ((((c:Nat):Int)) > 0)) (cond (decide ((((f:Nat):Int)) > 0)) (cE.t Y bX a a7 b a9 b0 c b2 bR d bT e f g Z) (Y (.tuple #[]) Z)) (Y (.tuple #[]) Z)
def bF.g(Y:aD)(bX:Value→M→Nat→Nat→M→Nat→Nat→M→Nat→Nat→M→Nat→Nat→U→Prop)(X:Fr)(Z:U):Prop:=tZ (X 0) fun a=>aQ (X 6) fun a7 b a9=>aQ (X 7) fun b0 c b2=>aQ (X 8) fun bR d bT=>aQ (X 9) fun e f h=>bF.t Y bX a a7 b a9 b0 c b2 bR d bT e f h Z
theorem bF.ok(Y:aD)(bX:Value→M→Nat→Nat→M→Nat→Nat→M→Nat→Nat→M→Nat→Nat→U→Prop)(X:Fr)(Z:U)(g:bF.g Y bX X Z):fJ prog E (a3 aO [true,false,false]) (a1.then (dA.g bX) (a1.inBlock 0 (a8 E [] Y))) X Z:=by
 obtain⟨a,b,g⟩:=wC g
 obtain⟨a7,c,a9,d,g⟩:=b4 g
 obtain⟨b0,e,b2,f,g⟩:=b4 g
 obtain⟨bR,h,bT,i,g⟩:=b4 g
 obtain⟨j,k,l,m,g⟩:=b4 g
 exact GG 1 (r:=(a3 aO [true,false,false,true])) (by kernel_rfl) (cE.ok Y bX) (wB [(0,a),(6,.slice a7 c a9),(7,.slice b0 e b2),(8,.slice bR h bT),(9,.slice j k l)] ⟨b,d,f,i,m,trivial⟩ (by kernel_rfl) g)
def dA.t(Y:aD):Nat→Value→M→Nat→Nat→M→Nat→Nat→M→Nat→Nat→M→Nat→Nat→U→Prop
 | 0=>fun _ _ _ _ _ _ _ _ _ _ _ _ _ _=>False
 | n+1=>fun a a7 b a9 b0 c b2 bR d bT e f g Z=>bF.t Y (dA.t Y n) a a7 b a9 b0 c b2 bR d bT e f g Z
theorem dA.ok(Y:aD)(X:Fr)(Z:U)(g:dA.g (fun a a7 b a9 b0 c b2 bR d bT e f h Z=>∃ n,dA.t Y n a a7 b a9 b0 c b2 bR d bT e f h Z) X Z):fJ prog E (a3 aO [true,false]) (a1.inBlock 0 (a8 E [] Y)) X Z:=by
 obtain⟨a,i,g⟩:=wC g
 obtain⟨a7,b,a9,j,g⟩:=b4 g
 obtain⟨b0,c,b2,k,g⟩:=b4 g
 obtain⟨bR,d,bT,l,g⟩:=b4 g
 obtain⟨e,f,h,m,g⟩:=b4 g
 obtain⟨n,g⟩:=g
 refine LX (fun n=>dA.g (dA.t Y n)) (L:=(a3 aO [true,false,false])) (by kernel_rfl) (fun X Z g=>?_) (fun n=>bF.ok Y (dA.t Y n)) n X Z (GH i (bE j (bE k (bE l (bE m (g))))))
 obtain⟨a,i,g⟩:=wC g
 obtain⟨a7,b,a9,j,g⟩:=b4 g
 obtain⟨b0,c,b2,k,g⟩:=b4 g
 obtain⟨bR,d,bT,l,g⟩:=b4 g
 obtain⟨e,f,h,m,g⟩:=b4 g
 exact g
theorem hR.ok(Y:aD)(X:Fr)(Z:U)(g:dA.g (fun a a7 b a9 b0 c b2 bR d bT e f h Z=>∃ n,dA.t Y n a a7 b a9 b0 c b2 bR d bT e f h Z) X Z):fJ prog E (a3 aO [true]) (a8 E [] Y) X Z:=
 LW (by kernel_rfl) (dA.ok Y X Z g)
def aL.t(Y:aD)(a:Value)(b8:Addr)(e8:Addr)(b:Addr)(eD:Addr)(Z:U):Prop:=
 fG Z b8 fun c=>
 aQ c fun c d e=>
 fG Z e8 fun f=>
 aQ f fun f g h=>
 fG Z b fun b=>
 aQ b fun b i j=>
 fG Z eD fun k=>
 aQ k fun k l m=>
 (∃ n,dA.t Y n a c d e f g h b i j k l m Z)
def aL.g(Y:aD)(X:Fr)(Z:U):Prop:=tZ (X 0) fun a=>gH (X 1) fun b8=>gH (X 2) fun e8=>gH (X 3) fun b=>gH (X 4) fun eD=>aL.t Y a b8 e8 b eD Z
theorem aL.ok(Y:aD)(X:Fr)(Z:U)(g:aL.g Y X Z):fJ prog E aO (a8 E [] Y) X Z:=by
 obtain⟨a,b,g⟩:=wC g
 obtain⟨b8,c,g⟩:=m5 g
 obtain⟨e8,d,g⟩:=m5 g
 obtain⟨e,f,g⟩:=m5 g
 obtain⟨eD,h,g⟩:=m5 g
 exact GG 1 (r:=(a3 aO [true])) (by kernel_rfl) (hR.ok Y) (wB [(0,a),(1,.pointer (some b8)),(2,.pointer (some e8)),(3,.pointer (some e)),(4,.pointer (some eD))] ⟨b,c,d,f,h,trivial⟩ (by kernel_rfl) g)
def t(a:Value)(b8:Addr)(e8:Addr)(b:Addr)(eD:Addr)(Z:U)(Y:aD):Prop:=aL.t Y a b8 e8 b eD Z
theorem ok{a:Value}{b8:Addr}{e8:Addr}{b:Addr}{eD:Addr}{Z:U}{Y:aD}(g:t a b8 e8 b eD Z Y):aY id #[a,.pointer (some b8),.pointer (some e8),.pointer (some b),.pointer (some eD)] Z Y:=
 GF dI (c:=aO) (dC:=[]) Tryz.func104 (by kernel_rfl) (by kernel_rfl) (by kernel_rfl) (args:=[a,.pointer (some b8),.pointer (some e8),.pointer (some b),.pointer (some eD)]) (by kernel_rfl) (aL.ok Y _ Z (GH rfl (rG rfl (rG rfl (rG rfl (rG rfl (g)))))))
end l6
namespace sG
noncomputable def aO:Code:=dK Tryz.f52
def a0.t(Y:aD)(c3:M)(dV:Nat)(cR:Nat)(bP:M)(a:Nat)(bO:Nat)(b0:M)(b:Nat)(b2:Nat)(Z:U):Prop:=
 aY uB.id #[.slice c3 dV cR,.slice b0 b b2,.slice bP a bO,.slice b0 b b2] Z fun a b=>
 Y (a) b
def a0.g(Y:aD)(X:Fr)(Z:U):Prop:=aQ (X 3) fun c3 dV cR=>aQ (X 5) fun bP a bO=>aQ (X 7) fun b0 b b2=>a0.t Y c3 dV cR bP a bO b0 b b2 Z
theorem a0.ok(Y:aD)(X:Fr)(Z:U)(g:a0.g Y X Z):den prog E (a3 aO [true,true,true,true,true]) (a8 E [.tmp 2] Y) X Z:=by
 obtain⟨c3,dV,cR,a,g⟩:=b4 g
 obtain⟨bP,b,bO,c,g⟩:=b4 g
 obtain⟨b0,d,b2,e,g⟩:=b4 g
 exact bS [(3,.slice c3 dV cR),(5,.slice bP b bO),(7,.slice b0 d b2)] ⟨a,c,e,trivial⟩ (by kernel_rfl) g
def aL.t(Y:aD)(aS:Int)(Z:U):Prop:=
 aY oY.id #[.int .i64 aS] Z fun a b=>
 cT a fun a=>
 cQ a fun a c=>
 aQ a fun a d e=>
 cQ c fun c f=>
 aW .i64 c fun c=>
 b5 f <| aY j8.id #[.int .u64 1] b fun b f=>
 aQ b fun b g h=>
 aY iZ.id #[.slice a d e,.slice b g h] f fun b f=>
 cT b fun b=>
 cQ b fun b g=>
 aQ b fun b h i=>
 cQ g fun g j=>
 aW .i64 g fun g=>
 b5 j <| aY j8.id #[.int .u64 1] f fun f j=>
 aQ f fun f k l=>
 a5 (IntKind.i64.wrap (aS+1)) fun m=>
 aY kN.id #[.slice f k l,.int .i64 m] j fun f j=>
 cT f fun f=>
 cQ f fun f k=>
 aQ f fun f l m=>
 cQ k fun k n=>
 aW .i64 k fun k=>
 b5 n <| cond (c != 0) (Y (.func (.func 83) #[] #[]) j) (cond (g != 0) (Y (.func (.func 83) #[] #[]) j) (cond (k != 0) (Y (.func (.func 83) #[] #[]) j) (a0.t Y a d e b h i f l m j)))
def aL.g(Y:aD)(X:Fr)(Z:U):Prop:=aW .i64 (X 0) fun aS=>aL.t Y aS Z
theorem aL.ok(Y:aD)(X:Fr)(Z:U)(g:aL.g Y X Z):den prog E aO (a8 E [.tmp 2] Y) X Z:=by
 obtain⟨aS,a,g⟩:=bN g
 exact c4 5 (r:=(a3 aO [true,true,true,true,true])) (by kernel_rfl) (a0.ok Y) (bS [(0,.int .i64 aS)] ⟨a,trivial⟩ (by kernel_rfl) g)
def t(aS:Int)(Z:U)(Y:aD):Prop:=aL.t Y aS Z
theorem ok{aS:Int}{Z:U}{Y:aD}(g:t aS Z Y):aY id #[.int .i64 aS] Z Y:=
 dL dI (c:=aO) (dC:=[.tmp 2]) Tryz.func52 (by kernel_rfl) (by kernel_rfl) (by kernel_rfl) (args:=[.int .i64 aS]) (by kernel_rfl) (aL.ok Y _ Z (bQ rfl (g)))
end sG
namespace uB
noncomputable def aO:Code:=dK Tryz.f84
def aL.t(Y:aD)(a:M)(b:Nat)(c:Nat)(aJ:M)(aI:Nat)(aG:Nat)(bJ:M)(bZ:Nat)(bG:Nat)(c3:M)(dV:Nat)(cR:Nat)(Z:U):Prop:=
 dN Z 30 [.slice a b c] fun b8 a=>
 dN a 30 [.slice aJ aI aG] fun a b=>
 dN b 30 [.slice bJ bZ bG] fun b c=>
 dN c 30 [.slice c3 dV cR] fun c d=>
 Y ((.func (.func 104) #[] #[.pointer (some b8),.pointer (some a),.pointer (some b),.pointer (some c)])) d
def aL.g(Y:aD)(X:Fr)(Z:U):Prop:=aQ (X 0) fun a b c=>aQ (X 1) fun aJ aI aG=>aQ (X 2) fun bJ bZ bG=>aQ (X 3) fun c3 dV cR=>aL.t Y a b c aJ aI aG bJ bZ bG c3 dV cR Z
theorem aL.ok(Y:aD)(X:Fr)(Z:U)(g:aL.g Y X Z):fJ prog E aO (a8 E [.tmp 8] Y) X Z:=by
 obtain⟨a,b,c,d,g⟩:=b4 g
 obtain⟨aJ,aI,aG,e,g⟩:=b4 g
 obtain⟨bJ,bZ,bG,f,g⟩:=b4 g
 obtain⟨c3,dV,cR,h,g⟩:=b4 g
 exact wB [(0,.slice a b c),(1,.slice aJ aI aG),(2,.slice bJ bZ bG),(3,.slice c3 dV cR)] ⟨d,e,f,h,trivial⟩ (by kernel_rfl) g
def t(a:M)(b:Nat)(c:Nat)(aJ:M)(aI:Nat)(aG:Nat)(bJ:M)(bZ:Nat)(bG:Nat)(c3:M)(dV:Nat)(cR:Nat)(Z:U)(Y:aD):Prop:=aL.t Y a b c aJ aI aG bJ bZ bG c3 dV cR Z
theorem ok{a:M}{b:Nat}{d:Nat}{aJ:M}{aI:Nat}{aG:Nat}{bJ:M}{bZ:Nat}{bG:Nat}{c3:M}{dV:Nat}{cR:Nat}{Z:U}{Y:aD}(g:t a b d aJ aI aG bJ bZ bG c3 dV cR Z Y):aY id #[.slice a b d,.slice aJ aI aG,.slice bJ bZ bG,.slice c3 dV cR] Z Y:=
 GF dI (c:=aO) (dC:=[.tmp 8]) Tryz.func84 (by kernel_rfl) (by kernel_rfl) (by kernel_rfl) (args:=[.slice a b d,.slice aJ aI aG,.slice bJ bZ bG,.slice c3 dV cR]) (by kernel_rfl) (aL.ok Y _ Z (bE rfl (bE rfl (bE rfl (bE rfl (g))))))
end uB
namespace l6
theorem enters(args:Array Value)(aB:World):(callFunc id args).run prog aB=.ok (.enter id args) aB:=Go.Proofs.enters_of Tryz.func104 (by kernel_rfl) (c:=aO) (by kernel_rfl) args aB
end l6
namespace hM
noncomputable def F:Func:=Tryz.f28
theorem at_:prog.funcs[id]?=some F:=Tryz.func28
noncomputable def aO:Code:=dK F
theorem body:F.body=some aO:=by kernel_rfl
theorem results:F.results.toList=[.cell 2 30]:=by kernel_rfl
theorem ntmps:F.ntmps=28:=by kernel_rfl
noncomputable def AE:Code:=(a3 aO [false])
noncomputable def q2:Code:=(a3 aO [true,false])
noncomputable def nO:Code:=(a3 aO [true,true,false,false,false,false,false])
noncomputable def sH:Code:=(a3 aO [true,true,false,false,false,false,true,false,false])
noncomputable def GJ:Code:=(a3 aO [true,true,false,false,false,false,true,false,true,false])
noncomputable def Rest:Code:=(a3 aO [true,true,false,false,false,false,true,true])
noncomputable def uC:Code:=(a3 aO [true,true,false,false,true])
noncomputable def GK:Code:=LY GJ
noncomputable def AF:Code:=LZ GJ
theorem code:aO=.seq AE (.seq q2 (.block 0 (.loop (.seq (.block 1 (.seq nO (.seq (.seq sH (.block 2 (.rangeFunc (.tmp 14) #[15] GK AF))) Rest))) uC)))):=by kernel_rfl
noncomputable def eT:Code:=.seq AE (.seq q2 (.seq nO sH))
def uD.t(T:Addr→Addr→Addr→Value→U→Prop)(aS:Int)(Z:U):Prop:=
 dN Z 3 [.int .i64 aS] fun b8 a=>
 dN a 30 CC.a6 fun a b=>
 fG b b8 fun c=>
 aW .i64 c fun c=>
 a5 (IntKind.i64.wrap (4*c)) fun c=>
 a5 (IntKind.i64.wrap (c+64)) fun c=>
 fG b b8 fun d=>
 aW .i64 d fun d=>
 iI b 35 j6 0 d fun b e=>
 dN e 30 CC.a6 fun e f=>
 cC f e (.slice (some b) ((0:Int).toNat) d.toNat) fun b=>
 aY sG.id #[.int .i64 c] b fun b c=>
 T b8 a e b c
def uD.g(T:Addr→Addr→Addr→Value→U→Prop)(X:Fr)(Z:U):Prop:=aW .i64 (X 0) fun aS=>uD.t T aS Z
theorem uD.ok(T:Addr→Addr→Addr→Value→U→Prop)(X:Fr)(Z:U)(g:uD.g T X Z):fJ prog E eT (uA T) X Z:=by
 obtain⟨aS,a,g⟩:=bN g
 exact wB [(0,.int .i64 aS)] ⟨a,trivial⟩ (by kernel_rfl) g
def uE.t(a:U→Prop)(b:U→Prop)(b8:Addr)(e8:Addr)(eD:Addr)(c:Int)(Z:U):Prop:=
 fG Z eD fun d=>
 aQ d fun d e f=>
 dN Z 35 [.int .u64 c] fun c g=>
 hF g 35 j6 d e f (.slice (some c) 1 1) fun c d e f=>
 cC f eD (.slice c d e) fun c=>
 fG c eD fun d=>
 aQ d fun d d e=>
 fG c b8 fun e=>
 aW .i64 e fun e=>
 cond ((((d:Nat):Int)) == e) (fG c eD fun d=>
 aQ d fun d e f=>
 cC c e8 (.slice d e f) fun d=>
 b d) (a c)
def uE.g(a:U→Prop)(b:U→Prop)(X:Fr)(Z:U):Prop:=gH (X 1) fun b8=>gH (X 2) fun e8=>gH (X 4) fun eD=>aW .u64 (X 5) fun c=>uE.t a b b8 e8 eD c Z
theorem uE.ok(a:U→Prop)(b:U→Prop)(X:Fr)(Z:U)(g:uE.g a b X Z):fJ prog E AF (L0 a b) X Z:=by
 obtain⟨b8,c,g⟩:=m5 g
 obtain⟨e8,d,g⟩:=m5 g
 obtain⟨eD,e,g⟩:=m5 g
 obtain⟨f,h,g⟩:=bN g
 exact wB [(1,.pointer (some b8)),(2,.pointer (some e8)),(4,.pointer (some eD)),(5,.int .u64 f)] ⟨c,d,e,h,trivial⟩ (by kernel_rfl) g
theorem L4:k8 E 28 AE=true∧k8 E 28 q2=true∧k8 E 28 nO=true∧k8 E 28 sH=true:=⟨by kernel_rfl,by kernel_rfl,by kernel_rfl,by kernel_rfl⟩
theorem L5:k8 E 28 AF=true:=by kernel_rfl
theorem L6:k7 AF=true:=by kernel_rfl
theorem L7:∃ O t p,GK=.region O #[{ dst:=some 5,op:=.assign (.tmp 15),type:=t,pos:=p,after:=#[],guard:=none }] false:=⟨5,35,"nearpi.go:60",by kernel_rfl⟩
theorem L8{X:Fr}{Z:U}{aE:Addr}{aF:List Value→Prop}(R:X 2=.pointer (some aE))(g:fG Z aE fun v=>aQ v fun a l c=>aF [.slice a l c]):pG E X Z [.cell 2 30] aF:=by
 have b:pG E (kC X 2 (.pointer (some aE))) Z [.cell 2 30] aF=(fG Z aE fun v=>aQ v fun a l c=>aF [.slice a l c]):=by kernel_rfl
 rw [wO R] at b;rw [b];exact g
end hM
structure l7(bC:Nat)(Z K:U):Prop where
 le:Z.size≤K.size
 at_:∀ (L:Nat) (aN:Obj),Z[L]?=some aN→bC≤L→aN.isCells=true→K[L]?=some aN
theorem l7.trans{bC:Nat}{a L c:U}(N:l7 bC a L)(aP:l7 bC L c):l7 bC a c:=⟨Nat.le_trans N.le aP.le,fun O aN R Z S=>aP.at_ O aN (N.at_ O aN R Z S) Z S⟩
theorem iX.cM{bC aO:Nat}{Z K:U}(N:iX aO Z K):l7 bC Z K:=⟨N.le,fun L aN R _ S=>N.at_ L aN R (.inr S)⟩
theorem L9{Z:U}{aE:Addr}{v:Value}(R:gP Z aE=some v):∃ aN:Obj,Z[aE.block]?=some aN∧aN.isCells=true:=by
 unfold gP at R
 split at R
 ·rename_i c el b a;exact⟨_,a,rfl⟩
 ·cases R
theorem cG.cM{bC:Nat}{Z K:U}{a:M}{c:Nat}{aA:List Nat}(r:cG Z a c aA)(d:∀ p,a=some p→bC≤p.block)(S:l7 bC Z K):cG K a c aA:=
 ⟨r.len,r.cap,r.words,fun O a4=>by
  obtain⟨p,R,g⟩:=r.at_ O a4
  refine⟨p,R,?_⟩
  obtain⟨aN,b,e⟩:=L9 g
  rw [rF (Z:=Z) (by rw [b];exact S.at_ _ _ b (by rw [pJ];exact d p R) e)];exact g⟩
theorem cV.base{aX Z:U}{a:M}{c:Nat}{aA:List Nat}(g:cV dP aX Z a c aA):∀ p,a=some p→aX.size≤p.block:=by
 intro p R
 rcases g.here with ⟨_,b,_⟩ | ⟨e,rest,d,b,_,_⟩
 ·rw [b] at R;cases R
 ·rw [d] at R;cases R;exact b
structure jB(bC:Nat)(Z:U)(a:M)(l c n:Nat):Prop where
 rd:cG Z a c (aK n)
 len:l=(aK n).length
 base:∀ p,a=some p→bC≤p.block
 g5:fE n
theorem jB.aR{bC:Nat}{Z K:U}{a:M}{l c n:Nat}(r:jB bC Z a l c n)(S:bA Z K):jB bC K a l c n:=⟨r.rd.aR S,r.len,r.base,r.g5⟩
theorem jB.cM{bC:Nat}{Z K:U}{a:M}{l c n:Nat}(r:jB bC Z a l c n)(S:l7 bC Z K):jB bC K a l c n:=⟨cG.cM r.rd r.base S,r.len,r.base,r.g5⟩
theorem x6{n:Nat}:0 < (aK n).length↔0 < n:=by
 constructor
 ·intro Z
  rcases Nat.eq_zero_or_pos n with R | R
  ·subst R;rw [eP] at Z;simp at Z
  ·exact R
 ·intro Z;rw [kE (by omega)];simp
theorem GL{n:Nat}:(aK n).length≤1↔n < 18446744073709551616:=by
 rw [gR]
theorem Ma{N aP:Nat}(Z:fA N aP=0):N=aP:=by
 unfold fA at Z
 split at Z
 ·exact absurd Z (by decide)
 ·split at Z
  ·assumption
  ·exact absurd Z (by decide)
abbrev q3:={ N:Nat // N < 18446744073709551616 }
def CD(N:q3):Array Value:=#[.int .u64 ((N.1:Nat):Int)]
def kY(l:List q3):List Nat:=l.map (·.1)
theorem CE(l:List q3)(N:q3):kY (l ++ [N])=kY l ++ [N.1]:=by simp [kY]
def GM(a bC aO D:Nat)(l:List q3):Prop:=∀ aE,¬ jO (kY l ++ [aE]) a bC aO D
def x7(a bC aO D:Nat)(l:List q3):Prop:=jO (kY l) a bC aO D
theorem Mb{l B c:Nat}{d J:List q3→U→Prop}{k9 kB lA lB:Nat}(C:∀ aH Z K,d aH Z→bA Z K→d aH K)
  (Pz:∀ pre N aZ,d pre aZ→pre.length < B→sF prog l (CD N) aZ fun v K=>(v=.bool true∧d (pre ++ [N]) K∧l7 c aZ K)∨(v=.bool false∧J (pre ++ [N]) K))
  {Y:aD} (P:∀ Z,((∃ aA,(x7 k9 kB lA lB aA∧GM k9 kB lA lB aA)∧d aA Z)∨∃ pre,x7 k9 kB lA lB pre∧J pre Z)→Y (.tuple #[]) Z) :
  ∀ (n:Nat) {a bC aO D:Nat} {a7 b0 bR k:M} {u a9 m b2 w bT o q:Nat} {pre:List q3} {Z:U},bC < n→pre.length+bC≤B→c≤Z.size→d pre Z→
   jB c Z a7 u a9 a→jB c Z b0 m b2 bC→jB c Z bR w bT aO→jB c Z k o q D→(∀ T,jO (kY pre ++ T) k9 kB lA lB↔jO T a bC aO D)→
   l6.dA.t Y n (.func (.yield l) #[] #[]) a7 u a9 b0 m b2 bR w bT k o q Z:=by
 intro n
 induction n with
 | zero=>intro a bC aO D a7 b0 bR k u a9 m b2 w bT o q pre Z PA;omega
 | succ n bU=>
  intro a bC aO D a7 b0 bR k u a9 m b2 w bT o q pre Z PA PT E e x h y i bM
  have PB:x7 k9 kB lA lB pre:=by have:=(bM []).mpr trivial;rwa [List.append_nil] at this
  have stop:∀ K,d pre K→(∀ aE,¬ jO [aE] a bC aO D)→Y (.tuple #[]) K:=fun K e PC=>P K (.inl ⟨pre,⟨PB,fun aE b=>PC aE ((bM [aE]).mp b)⟩,e⟩)
  unfold l6.dA.t l6.bF.t
  refine b9 (fun F=>?_) fun F=>stop Z e fun aE b=>F (by have:=b.1.1;have:=x6.mpr this;rw [h.len];omega)
  refine b9 (fun G=>?_) fun G=>stop Z e fun aE b=>G (by have:=b.1.2.1;have:=x6.mpr this;rw [i.len];omega)
  have Q:0 < bC:=x6.mp (by rw [h.len] at F;omega)
  have PD:0 < D:=x6.mp (by rw [i.len] at G;omega)
  unfold l6.cE.t
  refine xJ x.rd x.len h.rd h.len (by omega) x.g5 h.g5 fun PU PV PE PF aZ b3 V Pt=>?_
  refine xJ (y.rd.aR b3) y.len (i.rd.aR b3) i.len (by omega) y.g5 i.g5 fun PW PX PG PH z A gs gt=>?_
  refine jK (fun R=>absurd rfl R) fun _=>?_
  refine jK (fun R=>absurd rfl R) fun _=>?_
  have j:=b3.trans A
  refine qO (V.aR A).eJ rfl gs.eJ rfl ?_
  refine jK (fun R=>stop z (C _ _ _ e j) fun aE b=>?_) fun R=>?_
  ·obtain⟨⟨_,_,r,Pu,_⟩,_⟩:=b
   rw [r,Pu] at R;simp [fA] at R
  have PI:a / bC=aO / D:=Ma R
  refine b9 (fun PJ=>stop z (C _ _ _ e j) fun aE b=>?_) fun PJ=>?_
  ·obtain⟨⟨_,_,r,Pu,PK⟩,_⟩:=b
   have:=GL.mpr (r ▸ PK);omega
  have Pv:a / bC < 18446744073709551616:=GL.mp (by omega)
  have PL:=C _ _ _ e j
  have PM:pre.length < B:=by omega
  have round:∀ (N:q3),N.1=a / bC→p6 prog (.func (.yield l) #[] #[]) (CD N) z fun PN Pw=>eS PN fun PO=>cond (!PO) (Y (.tuple #[]) Pw) (l6.dA.t Y n (.func (.yield l) #[] #[]) b0 m b2 PE (aK (a % bC)).length PF k o q PG (aK (aO % D)).length PH Pw):=by
   intro N Px
   have Py:∀ T,jO (kY (pre ++ [N]) ++ T) k9 kB lA lB↔jO T bC (a % bC) D (aO % D):=by
    intro T
    rw [CE,List.append_assoc,bM]
    exact⟨fun H=>H.2,fun H=>⟨⟨Q,PD,Px.symm,by rw [← PI];exact Px.symm,N.2⟩,H⟩⟩
   refine(sF.mono (fun v K g=>?_) (Pz pre N z PL PM)).L1
   rcases g with ⟨rfl,PQ,s⟩ | ⟨rfl,PR⟩
   ·refine c5 rfl ?_
    have PY:a % bC < bC:=Nat.mod_lt _ Q
    have PS:c≤aZ.size:=Nat.le_trans E b3.le
    exact bU (by omega) (by rw [List.length_append,List.length_singleton];omega) (Nat.le_trans E (Nat.le_trans j.le s.le)) PQ ((h.aR j).cM s)
     (jB.cM ⟨(Pt.aR A).eJ,rfl,fun p R=>Nat.le_trans E (cV.base Pt p R),jV (Nat.mod_le _ _) x.g5⟩ s) ((i.aR j).cM s)
     (jB.cM ⟨gt.eJ,rfl,fun p R=>Nat.le_trans PS (cV.base gt p R),jV (Nat.mod_le _ _) y.g5⟩ s) Py
   ·refine c5 rfl ?_
    refine P K (.inr ⟨_,?_,PR⟩)
    have:=(Py []).mpr trivial
    rwa [List.append_nil] at this
  refine eY (fun I=>?_) fun I=>?_
  ·refine fX (V.aR A).eJ (aC:=0) rfl rfl (by omega) ?_
   have r:(aK (a / bC)).getD 0 0=a / bC:=by
    rw [kE (by intro f;rw [f,eP] at I;simp at I)]
    show a / bC % 18446744073709551616=a / bC
    exact Nat.mod_eq_of_lt Pv
   rw [r]
   exact round ⟨a / bC,Pv⟩ rfl
  ·have f:a / bC=0:=by
    rcases Nat.eq_zero_or_pos (a / bC) with f | f
    ·exact f
    ·have:=x6.mpr f;omega
   exact round ⟨0,by omega⟩ f.symm
structure CF(bC:Nat)(Z:U)(v:Value)(k9 kB lA lB:Nat):Prop where
 out:∃ e6 eM gN hA aJ aI aG bJ bZ bG c3 dV cR eA fT eF,v=.func (.func l6.id) #[] #[.pointer (some ⟨e6,0,none⟩),.pointer (some ⟨eM,0,none⟩),.pointer (some ⟨gN,0,none⟩),.pointer (some ⟨hA,0,none⟩)]∧
  eC Z e6 [.slice aJ aI aG]∧eC Z eM [.slice bJ bZ bG]∧eC Z gN [.slice c3 dV cR]∧eC Z hA [.slice eA fT eF]∧jB bC Z aJ aI aG k9∧jB bC Z bJ bZ bG kB∧jB bC Z c3 dV cR lA∧jB bC Z eA fT eF lB
theorem Mc{bC k9 kB lA lB:Nat}{aX:U}(a:bC≤aX.size){e6 eM gN hA:Nat}{aJ bJ c3 eA:M}{aI aG bZ bG dV cR fT eF:Nat}
  (b:eC aX e6 [.slice aJ aI aG]) (c:eC aX eM [.slice bJ bZ bG]) (d:eC aX gN [.slice c3 dV cR]) (e:eC aX hA [.slice eA fT eF])
  (f:jB bC aX aJ aI aG k9) (g:jB bC aX bJ bZ bG kB) (h:jB bC aX c3 dV cR lA) (i:jB bC aX eA fT eF lB) :
  GI prog l6.id #[.pointer (some ⟨e6,0,none⟩),.pointer (some ⟨eM,0,none⟩),.pointer (some ⟨gN,0,none⟩),.pointer (some ⟨hA,0,none⟩)] CD (l7 bC) (fun aA=>x7 k9 kB lA lB aA∧GM k9 kB lA lB aA) (x7 k9 kB lA lB) kB aX:=by
 intro l o p Z S j q k m
 have R:(#[.func (.yield l) #[] #[]] ++ #[.pointer (some ⟨e6,0,none⟩),.pointer (some ⟨eM,0,none⟩),.pointer (some ⟨gN,0,none⟩),.pointer (some ⟨hA,0,none⟩)]:Array Value)=
   #[.func (.yield l) #[] #[],.pointer (some ⟨e6,0,none⟩),.pointer (some ⟨eM,0,none⟩),.pointer (some ⟨gN,0,none⟩),.pointer (some ⟨hA,0,none⟩)]:=by simp
 rw [R]
 refine l6.ok ?_
 unfold l6.t l6.aL.t
 refine oM (b.aR S) rfl (bE rfl ?_)
 refine oM (c.aR S) rfl (bE rfl ?_)
 refine oM (d.aR S) rfl (bE rfl ?_)
 refine oM (e.aR S) rfl (bE rfl ?_)
 exact⟨kB+1,Mb (pre:=[]) j k (fun Z n=>n) (kB+1) (by omega) (by simp) (Nat.le_trans a S.le) m (f.aR S) (g.aR S) (h.aR S) (i.aR S) (fun T=>by simp [kY])⟩
theorem Md{bC k9 kB lA lB:Nat}{Z:U}{aJ bJ c3 eA:M}{aI aG bZ bG dV cR fT eF:Nat}
  (e:jB bC Z aJ aI aG k9) (f:jB bC Z bJ bZ bG kB) (g:jB bC Z c3 dV cR lA) (h:jB bC Z eA fT eF lB) :
  aY uB.id #[.slice aJ aI aG,.slice bJ bZ bG,.slice c3 dV cR,.slice eA fT eF] Z fun v K=>bA Z K∧CF bC K v k9 kB lA lB:=by
 refine uB.ok ?_
 unfold uB.t uB.aL.t
 refine eZ fun aZ i b3=>?_
 refine eZ fun m j d=>?_
 refine eZ fun n k c=>?_
 refine eZ fun o l b=>?_
 have a:=b3.trans (d.trans (c.trans b))
 exact⟨a,⟨_,_,_,_,_,_,_,_,_,_,_,_,_,_,_,_,rfl,i.aR (d.trans (c.trans b)),j.aR (c.trans b),k.aR b,l,e.aR a,f.aR a,g.aR a,h.aR a⟩⟩
theorem GN{p:Nat}(a:p < 4200):fE (dG p+1)∧fE (2 ^ (p+1)):=by
 have Z:dG p+1 < 2 ^ 4403:=Nat.lt_of_le_of_lt (Nat.add_le_add_right (show dG p≤hI from Nat.div_le_self _ _) 1) (Nat.le_of_ble_eq_true (by kernel_rfl))
 exact⟨jJ Z (by omega),jJ (S:=p+2) (Nat.pow_lt_pow_right (by decide) (by omega)) (by omega)⟩
theorem Me{p:Nat}(Z:U)(aZ:1≤p)(h:p < 4200):aY sG.id #[.int .i64 (p:Int)] Z fun v K=>bA Z K∧CF Z.size K v (dG p) (2 ^ (p+1)) (dG p+1) (2 ^ (p+1)):=by
 obtain⟨e,s2⟩:=GN h
 refine sG.ok ?_
 unfold sG.t sG.aL.t
 refine cA (F1 Z aZ h) fun v o ⟨b3,t1⟩=>?_
 refine t1.h9 fun aJ aG f q=>?_
 refine n2 (N:=1) (by decide) fun bJ bG r a j=>?_
 refine tJ (aP:=1) (f.aR a).eJ rfl j.eJ rfl e fun c3 cR s d i=>?_
 refine n2 (N:=1) (by decide) fun eA eF u b k=>?_
 refine⟨?_⟩
 have l:IntKind.i64.wrap ((p:Int)+1)=((p+1:Nat):Int):=by rw [wrap_i64] <;> omega
 rw [l]
 refine xI (n:=p+1) rfl k.eJ rfl (by omega) (oV (by decide)) (by rw [Nat.one_mul];exact s2) fun bP bO w g c=>?_
 rw [Nat.one_mul] at c ⊢
 refine jK (fun R=>absurd rfl R) fun _=>?_
 refine jK (fun R=>absurd rfl R) fun _=>?_
 refine jK (fun R=>absurd rfl R) fun _=>?_
 unfold sG.a0.t
 have eK:∀ {N:U},bA Z N→Z.size≤N.size:=fun S=>S.le
 refine cA (Md (bC:=Z.size) (k9:=dG p) (kB:=2 ^ (p+1)) (lA:=dG p+1) (lB:=2 ^ (p+1))
  ⟨(f.aR (a.trans (d.trans (b.trans g)))).eJ,rfl,cV.base f,jV (by omega) e⟩ ⟨c.eJ,rfl,fun aE R=>Nat.le_trans (b3.trans (a.trans (d.trans b))).le (cV.base c aE R),s2⟩
  ⟨(i.aR (b.trans g)).eJ,rfl,fun aE R=>Nat.le_trans (b3.trans a).le (cV.base i aE R),e⟩ ⟨c.eJ,rfl,fun aE R=>Nat.le_trans (b3.trans (a.trans (d.trans b))).le (cV.base c aE R),s2⟩) fun v x ⟨m,t6⟩=>?_
 exact⟨b3.trans (a.trans (d.trans (b.trans (g.trans m)))),t6⟩
theorem cD.AG{L:Nat}{Z K:U}{bV:List Value}(aN:eC Z L bV)(S:cD L Z K):kX Z K:=fun a cU R hu=>by
 have b:a ≠ L:=by
  rintro rfl
  obtain⟨el,g⟩:=aN.at_
  rw [g] at R;cases R;cases hu
 rw [S.pre a (Array.getElem?_eq_some_iff.1 R).1 b];exact R
theorem kX.trans{a L c:U}(N:kX a L)(aP:kX L c):kX a c:=fun O aN R Z=>aP O aN (N O aN R Z) Z
theorem bA.AG{Z K:U}(S:bA Z K):kX Z K:=fun L aN R _=>(S.pre L (Array.getElem?_eq_some_iff.1 R).1).trans R
theorem bA.cM{bC:Nat}{Z K:U}(S:bA Z K):l7 bC Z K:=⟨S.le,fun L aN R _ _=>(S.pre L (Array.getElem?_eq_some_iff.1 R).1).trans R⟩
theorem cD.cM{L bC:Nat}{Z K:U}(S:cD L Z K)(a:L < bC):l7 bC Z K:=⟨S.le,fun O aN R a4 _=>(S.pre O (Array.getElem?_eq_some_iff.1 R).1 (by omega)).trans R⟩
theorem Mf{L:Nat}{Z K:U}(S:nW (some ⟨L,0,none⟩) Z K):∀ O,O < Z.size→O ≠ L→K[O]?=Z[O]?:=fun O a4 a=>S.pre O a4 fun p R=>by cases R;exact fun R=>a R.symm
theorem AH{bC L:Nat}{Z K:U}{bV:List Value}(aN:eC Z L bV)(S:iX bC Z K):eC K L bV:=by
 obtain⟨R,g⟩:=aN.at_;exact⟨R,S.at_ _ _ g (.inr rfl)⟩
theorem Mg{cX:Type}{E:j3 cX}{bC L:Nat}{Z K:U}{bV:List cX}(aN:dZ E Z L bV)(S:iX bC Z K):dZ E K L bV:=by
 obtain⟨R,g⟩:=aN.at_;exact⟨aN.ok,R,S.at_ _ _ g (.inr rfl)⟩
theorem GO{bC c:Nat}{aX Z K:U}{a:M}{aA:List Nat}(g:cV dP aX Z a c aA)(S:iX bC Z K):cV dP aX K a c aA:=
 ⟨g.len,g.cap,g.here.imp id fun ⟨L,rest,b,d,aN,e⟩=>⟨L,rest,b,d,Mg aN S,e⟩⟩
theorem CG{aE c g9:Nat}{aX Z K:U}{aA:List Nat}(g:cV dP aX Z (some ⟨g9,0,none⟩) c aA)(b:g9 ≠ aE)(S:cD aE Z K):cV dP aX K (some ⟨g9,0,none⟩) c aA:=by
 refine⟨g.len,g.cap,g.here.imp (fun ⟨_,R,_⟩=>by cases R) fun ⟨L,rest,a,d,aN,e⟩=>⟨L,rest,a,d,?_,e⟩⟩
 cases a;exact aN.cL b S
theorem GP{bC:Nat}{aX Z K:U}(S:bA aX Z)(d:aX.size≤bC)(a:iX bC Z K):bA aX K:=
 ⟨Nat.le_trans S.le a.le,fun L b=>by
  have R:=S.pre L b
  have c:L < Z.size:=Nat.lt_of_lt_of_le b S.le
  rw [Array.getElem?_eq_getElem c] at R
  rw [a.at_ L _ (Array.getElem?_eq_getElem c) (.inl (by omega))];exact R⟩
structure sI(aX:U)(n e6 eM g9 hA:Nat)(pre:List Nat)(Z:U):Prop where
 aR:bA aX Z
 num:eC Z e6 [.int .i64 (n:Int)]
 res:eC Z eM [.slice none 0 0]
 var:eC Z hA [.slice (some ⟨g9,0,none⟩) pre.length n]
 lU:cV dP aX Z (some ⟨g9,0,none⟩) n pre
 ord:aX.size≤e6∧e6 < eM∧eM < g9∧g9 < hA
 lt:pre.length < n
structure wD(aX:U)(n eM g9:Nat)(pre:List Nat)(Z:U):Prop where
 aR:bA aX Z
 res:eC Z eM [.slice (some ⟨g9,0,none⟩) n n]
 lU:cV dP aX Z (some ⟨g9,0,none⟩) n pre
 ord:aX.size≤g9
 len:pre.length=n
theorem sI.sE{bC:Nat}{aX Z K:U}{n e6 eM g9 hA:Nat}{pre:List Nat}(aN:sI aX n e6 eM g9 hA pre Z)(b:aX.size≤bC)(a:iX bC Z K):sI aX n e6 eM g9 hA pre K:=
 ⟨GP aN.aR b a,AH aN.num a,AH aN.res a,AH aN.var a,GO aN.lU a,aN.ord,aN.lt⟩
theorem wD.sE{bC:Nat}{aX Z K:U}{n eM g9:Nat}{pre:List Nat}(aN:wD aX n eM g9 pre Z)(b:aX.size≤bC)(a:iX bC Z K):wD aX n eM g9 pre K:=
 ⟨GP aN.aR b a,AH aN.res a,GO aN.lU a,aN.ord,aN.len⟩
theorem Mh{aX:U}{n e6 eM g9 hA bC:Nat}{pre:List Nat}{N:Nat}(C:N < 18446744073709551616)(Py:n≤1000){Z:U}(aN:sI aX n e6 eM g9 hA pre Z)(D:hA < bC){r s:U→Prop}
  (E:∀ K,kX Z K→l7 bC Z K→sI aX n e6 eM g9 hA (pre ++ [N]) K→r K) (F:∀ K,kX Z K→wD aX n eM g9 (pre ++ [N]) K→s K) :
  hM.uE.t r s ⟨e6,0,none⟩ ⟨eM,0,none⟩ ⟨hA,0,none⟩ (N:Int) Z:=by
 obtain⟨eE,Pz,PA,PB⟩:=aN.ord
 have PC:=aN.lt
 unfold hM.uE.t
 refine oM aN.var rfl (bE rfl ?_)
 refine vC dP [N] rfl (by intro aP u;simp only [List.mem_singleton] at u;subst u;exact C) fun aZ G b3=>?_
 have f:cV dP aX aZ (some ⟨g9,0,none⟩) n pre:=aN.lU.aR b3
 have H:=G.qH (c:=1) (by show _≤35184372088828;simp) (by simp)
 refine Ei f (Nat.le_trans aN.aR.le b3.le) H rfl rfl (by rfl) 0 rfl (by decide) 8 rfl (by decide) (by show _≤35184372088828;simp;omega) (fun h=>by simp at h;omega) fun PD dF d i j h=>?_
 obtain⟨I,J⟩:=h (by simp;omega)
 rw [J,I] at i ⊢
 have k:=Mf j
 have P:pre.length+[N].length=(pre ++ [N]).length:=by simp
 rw [P]
 have PE:hA < aZ.size:=(aN.var.aR b3).lt
 have PF:eM < aZ.size:=(aN.res.aR b3).lt
 have PG:e6 < aZ.size:=(aN.num.aR b3).lt
 have l:∀ {L:Nat} {bV:List Value},eC Z L bV→L ≠ g9→eC d L bV:=fun aE m=>by
  obtain⟨R,g⟩:=(aE.aR b3).at_;exact⟨R,by rw [k _ (aE.aR b3).lt m];exact g⟩
 have v:=l aN.var (by omega)
 have o:=l aN.res (by omega)
 have w:=l aN.num (by omega)
 have Q:kX aZ d:=fun L cU b hu=>by
  have m:L ≠ g9:=by
   rintro rfl
   rcases f.here with ⟨_,R,_⟩ | ⟨PH,rest,T,_,V,_⟩
   ·cases R
   ·cases T;obtain⟨el,Pt⟩:=V.at_;rw [Pt] at b;cases b;cases hu
  rw [k L (Array.getElem?_eq_some_iff.1 b).1 m];exact b
 have Pu:l7 bC aZ d:=⟨j.le,fun L cU b PI _=>by rw [k L (Array.getElem?_eq_some_iff.1 b).1 (by omega)];exact b⟩
 have Pv:bA aX d:=j.aR (aN.aR.trans b3) f.zO
 refine BD v (by simp) fun e Pw a=>?_
 have p:eC e hA [.slice (some ⟨g9,0,none⟩) (pre ++ [N]).length n]:=Pw
 refine oM p rfl (bE rfl ?_)
 refine oM (w.cL (by omega) a) rfl (bQ rfl ?_)
 have x:bA aX e:=cD.aR Pv a (by omega)
 have y:kX Z e:=kX.trans (bA.AG b3) (kX.trans Q (cD.AG v a))
 refine eY (fun z=>?_) fun z=>?_
 ·have A:(pre ++ [N]).length=n:=by omega
  refine oM p rfl (bE rfl ?_)
  refine BD (o.cL (by omega) a) (by simp) fun Px B q=>?_
  refine F Px (kX.trans y (cD.AG (o.cL (by omega) a) q)) ⟨cD.aR x q (by omega),?_,?_,by omega,A⟩
  ·rw [A] at B;exact B
  ·exact CG (CG i (by omega) a) (by omega) q
 ·refine E e y ((bA.cM b3).trans (Pu.trans (cD.cM a D))) ⟨x,w.cL (by omega) a,o.cL (by omega) a,p,CG i (by omega) a,aN.ord,?_⟩
  simp at z ⊢;omega
structure sJ(n:Nat)(aX:U)(b8 e8 eD:Addr)(v:Value)(Z:U):Prop where
 out:∃ e6 eM g9 hA bC,b8=⟨e6,0,none⟩∧e8=⟨eM,0,none⟩∧eD=⟨hA,0,none⟩∧sI aX n e6 eM g9 hA [] Z∧hA < bC∧bC≤Z.size∧CF bC Z v (dG (4*n+64)) (2 ^ (4*n+64+1)) (dG (4*n+64)+1) (2 ^ (4*n+64+1))
theorem Mi{n:Nat}(Z:U)(aZ:1≤n)(y:n≤1000):hM.uD.t (sJ n Z) (n:Int) Z:=by
 unfold hM.uD.t
 refine eZ fun h d b3=>?_
 refine eZ fun e k b=>?_
 refine oM (d.aR b) rfl (bQ rfl ?_)
 refine⟨?_⟩
 have m:IntKind.i64.wrap (4*(n:Int))=((4*n:Nat):Int):=by rw [wrap_i64] <;> omega
 rw [m]
 refine⟨?_⟩
 have o:IntKind.i64.wrap (((4*n:Nat):Int)+64)=((4*n+64:Nat):Int):=by rw [wrap_i64] <;> omega
 rw [o]
 refine oM (d.aR b) rfl (bQ rfl ?_)
 refine pP dP 0 0 n rfl (by decide) 8 rfl (by decide) rfl rfl (by omega) (by omega) fun i l f=>?_
 refine eZ fun z q r=>?_
 refine BD q (by exact Nat.zero_lt_one) fun c j s=>?_
 have g:bA i c:=cD.aR r s (Nat.le_refl _)
 have A:h.size≤e.size:=b.le
 have s2:e.size≤i.size:=f.le
 have t1:=d.lt
 have t2:=k.lt
 have t3:=l.lt
 have t5:=j.lt
 have eE:Z.size≤h.size:=b3.le
 have eK:bA Z c:=b3.trans (b.trans (f.trans g))
 refine cA (Me (p:=4*n+64) c (by omega) (by omega)) fun v B ⟨a,u⟩=>?_
 have w:cV dP Z c (some ⟨e.size,0,none⟩) n []:=dZ.kF (rest:=List.replicate n 0) (l.aR g) (by omega) (by simp) (by simp) (by simp)
 have x:(n:Int).toNat=n:=by omega
 rw [x] at j
 exact⟨Z.size,h.size,e.size,i.size,c.size,rfl,rfl,rfl,⟨eK.trans a,(d.aR (b.trans (f.trans (g.trans a)))),k.aR (f.trans (g.trans a)),j.aR a,w.aR a,by omega,by show 0 < n;omega⟩,t5,a.le,u⟩
theorem Mj(a:Act)(b:a.defers=[])(v:Value):({ tmps:=((#[15]:Array Nat).zip #[v]).foldl (fun t (p,v)=>t.setIfInBounds p v) a.tmps,defers:=[] }:Act)=a.put (some 15) v:=by
 obtain⟨t,aV⟩:=a
 simp only at b;subst b
 simp [Act.put]
theorem GQ{n:Nat}(Z:U)(aZ:1≤n)(h:n≤1000):aY hM.id #[.int .i64 (n:Int)] Z fun v K=>bA Z K∧vD Z K v (eX.take n):=by
 intro aB H
 subst H
 refine(callsIn_wide (n:=0)).1 (callsIn_of_wp_marks (F:=Fence.wide) (n:=0) hM.at_ hM.body trivial ?_ rfl)
 have I:=Be [.int .i64 (n:Int)] 28 (by simp)
 have J:hM.F.ntmps - (#[Value.int .i64 (n:Int)]:Array Value).size=28 - [Value.int .i64 (n:Int)].length:=by rw [hM.ntmps];rfl
 rw [J,hM.code]
 obtain⟨Q,aG,cR,eF⟩:=hM.L4
 have T:fJ prog E hM.AE (a1.then (fJ prog E (.seq hM.q2 (.seq hM.nO hM.sH)) (uA (sJ n aB.heap))) (uA (sJ n aB.heap))) (u0 [.int .i64 (n:Int)]) aB.heap:=
  hM.uD.ok (sJ n aB.heap) _ _ (bQ rfl (Mi aB.heap aZ h))
 refine wpIn_seq (wA dI (.inl rfl) Q (.inl rfl) I T fun R V aJ Pt Pu Pv b3=>?_)
 cases R with
 | exit O=>exact b3.elim
 | ret=>exact b3.elim
 | normal=>
 have Pw:fJ prog E hM.q2 (a1.then (fJ prog E (.seq hM.nO hM.sH) (uA (sJ n aB.heap))) (uA (sJ n aB.heap))) V Pt.heap:=b3
 refine wpIn_seq (wA dI (.inl rfl) aG (.inl rfl) Pu Pw fun R Px bJ Py Pz s2 i=>?_)
 cases R with
 | exit O=>exact i.elim
 | ret=>exact i.elim
 | normal=>
 refine wpIn_block (wpIn_loop_once (wpIn_seq (wpIn_block ?_)))
 have PA:fJ prog E hM.nO (a1.then (fJ prog E hM.sH (uA (sJ n aB.heap))) (uA (sJ n aB.heap))) Px Py.heap:=i
 refine wpIn_seq (wA dI (.inl rfl) cR (.inl rfl) Pz PA fun R PV c3 PW PB hN j=>?_)
 cases R with
 | exit O=>exact j.elim
 | ret=>exact j.elim
 | normal=>
 refine wpIn_seq (wpIn_seq (wA dI (.inl rfl) eF (.inl rfl) PB j fun R k eA m d w8 b=>?_))
 cases R with
 | exit O=>exact b.elim
 | ret=>exact b.elim
 | normal=>
 have o:eR aB m:=Pv.trans (s2.trans (hN.trans w8))
 obtain⟨b8,PC,b⟩:=m5 b
 obtain⟨e8,x,b⟩:=m5 b
 obtain⟨eD,PD,b⟩:=m5 b
 obtain⟨v,PE,b⟩:=wC b
 obtain⟨e6,eM,g9,hA,bC,rfl,rfl,rfl,y,PF,PG,PH⟩:=b.out
 obtain⟨d1,d2,d3,d4,aM,aI,eH,PX,bZ,PY,PZ,dV,P0,P1,fT,P2,PI,lM,l1,lN,PJ,t1,t2,t3,t4⟩:=PH.out
 have q:aB.heap.size≤m.heap.size:=y.aR.le
 have s:=Lu aZ h
 have e:(eX.take n).length=n:=by rw [List.length_take,p2];omega
 have z:eA.defers=[]:=d.defers
 refine wpIn_block (L3 (P:=prog) (by rw [d.cW];show k 14=_;rw [PE,PI]) l6.enters (Mc PG lM l1 lN PJ t1 t2 t3 t4) (fun N aP=>l7.trans N aP) (fun _ _=>iX.cM) (fun N=>rfl)
  (fun pre Z=>sI aB.heap n e6 eM g9 hA (kY pre) Z) (fun pre Z=>wD aB.heap n eM g9 (kY pre) Z) (fun aH _ _ O a=>O.sE q a) (fun aH _ _ O a=>O.sE q a) y
  (fun N=>(eA.put (some 15) (.int .u64 ((N.1:Nat):Int))).put (some 5) (.int .u64 ((N.1:Nat):Int))) ?_ ?_ ?_ ?_)
 ·intro l N bH aF PK
  obtain⟨O,t,p,R⟩:=hM.L7
  rw [R]
  have PL:=Mj eA z (.int .u64 ((N.1:Nat):Int))
  show(Code.region O _ false).wpIn _ _ _ _ ({ tmps:=((#[15]:Array Nat).zip #[.int .u64 ((N.1:Nat):Int)]).foldl (fun t (p,v)=>t.setIfInBounds p v) eA.tmps,defers:=[] }:Act) bH
  rw [PL]
  have PM:gB 28 (kZ k (some 15) (.int .u64 ((N.1:Nat):Int))) (eA.put (some 15) (.int .u64 ((N.1:Nat):Int))):=d.put (aN:={ dst:=some 15,op:=.assign (.tmp 0),type:=0,pos:="",after:=#[],guard:=none }) rfl _
  have PN:(eA.put (some 15) (.int .u64 ((N.1:Nat):Int))).eval (.tmp 15)=.int .u64 ((N.1:Nat):Int):=by rw [PM.cW];rfl
  refine wpIn_region_list ?_
  refine⟨fun _ _=>trivial,?_⟩
  rw [AD rfl]
  have PO:(execOp (eA.put (some 15) (.int .u64 ((N.1:Nat):Int))).eval { dst:=some 5,op:=.assign (.tmp 15),type:=t,pos:=p,after:=#[],guard:=none }).run prog bH=.ok (.value (.int .u64 ((N.1:Nat):Int))) bH:=by
   simp [execOp,PN]
  rw [PO]
  exact PK
 ·intro l pre N bH a4 P3
  have PQ:gB 28 (kC (kC k 15 (.int .u64 ((N.1:Nat):Int))) 5 (.int .u64 ((N.1:Nat):Int))) ((eA.put (some 15) (.int .u64 ((N.1:Nat):Int))).put (some 5) (.int .u64 ((N.1:Nat):Int))):=
   (d.put (aN:={ dst:=some 15,op:=.assign (.tmp 0),type:=0,pos:="",after:=#[],guard:=none }) rfl _).put (aN:={ dst:=some 5,op:=.assign (.tmp 0),type:=0,pos:="",after:=#[],guard:=none }) rfl _
  refine wA dI (.inr ⟨l,rfl⟩) hM.L5 (.inr hM.L6) PQ (hM.uE.ok
   (fun K=>kX bH.heap K∧l7 bC bH.heap K∧sI aB.heap n e6 eM g9 hA (kY (pre ++ [N])) K) (fun K=>kX bH.heap K∧wD aB.heap n eM g9 (kY (pre ++ [N])) K) _ _
   (rG PC (rG x (rG PD (bQ rfl (Mh N.2 h a4 PF (fun K a L c=>⟨a,L,by rw [CE];exact c⟩) fun K a c=>⟨a,by rw [CE];exact c⟩)))))) fun R P4 P5 cI r aH S=>?_
  cases R with
  | normal=>exact⟨aH,S.1,S.2.1,S.2.2⟩
  | ret=>exact⟨aH,S.1,S.2⟩
  | exit O=>exact S.elim
 ·intro D aA bH A bM f a4 u
  exfalso
  have PR:=a4.lt
  have g:=jO.pre f.1 s (by rw [e];omega)
  refine f.2 ((eX.take n).getD (kY aA).length 0) ?_
  have PS:=s.take ((kY aA).length+1)
  have PT:(eX.take n).take ((kY aA).length+1)=kY aA ++ [(eX.take n).getD (kY aA).length 0]:=by
   rw [List.take_add_one,← g]
   congr 1
   have B:(kY aA).length < (eX.take n).length:=by rw [e];exact PR
   rw [List.getElem?_eq_getElem B,List.getD,List.getElem?_eq_getElem B];rfl
  rw [← PT];exact PS
 ·intro D pre bH A bM f a4 u
  have g:=jO.pre f s (by rw [e,a4.len];exact Nat.le_refl _)
  rw [a4.len,List.take_take,Nat.min_self] at g
  refine wpIn_ret ?_
  show LeavesInM Fence.wide 0 prog hM.F eA.tmps _ ({ target:=.collected D,args:=#[] } :: eA.defers) .returning bH
  rw [z]
  refine⟨by simp,.inl ⟨_,_,rfl,run_takeDeferred u,?_⟩⟩
  have PU:iX m.heap.size bH.heap (bH.putObj D (.deferred none)).heap:=iX.put _ u A rfl
  have w:=a4.sE q PU
  obtain⟨C,f1,f2⟩:=CB (P:=prog) dI hM.results (aB:=bH.putObj D (.deferred none)) d (Y:=fun v K=>bA aB.heap K∧vD aB.heap K v (eX.take n))
   (hM.L8 x (oM w.res rfl (bE rfl ⟨w.aR,by
    have G:=w.lU
    rw [g] at G
    exact⟨_,_,by rw [e];rfl,G⟩⟩)))
  exact⟨C,f1,C,rfl,⟨(o.trans bM).os,(o.trans bM).tape,(o.trans bM).output⟩,f2⟩
theorem l8{n:Nat}(Z:n≤1000):(eX.take n).length=n:=by rw [List.length_take,p2];omega
theorem GR{n:Nat}(Z:U)(aZ:1≤n)(d:n≤1000):aY mV.id #[.int .i64 (n:Int)] Z fun v K=>bA Z K∧e2 Z K v (eX.take n,0):=by
 refine mV.ok ?_
 unfold mV.t mV.aL.t
 refine b9 (fun b=>absurd b (by omega)) fun _=>?_
 refine b9 (fun b=>absurd b (by omega)) fun _=>?_
 unfold mV.a0.t
 refine cA (GQ Z aZ d) fun v K ⟨S,aH⟩=>?_
 exact aH.h9 fun a c r=>⟨S,e2.back (p:=(eX.take n,0)) r (show In .i64 0 by decide)⟩
def eI(O:Nat):qV:=jA (eX.take O)
theorem GS:eI 0=Am:=by unfold eI;rw [List.take_zero];rfl
theorem CH{O:Nat}(Z:O < 1000):eI (O+1)=(eI O).next (eX.getD O 0):=by
 have a:O < eX.length:=by rw [p2];exact Z
 unfold eI
 rw [← An]
 congr 1
 rw [List.take_add_one]
 congr 1
 rw [List.getElem?_eq_getElem a,List.getD,List.getElem?_eq_getElem a];rfl
theorem Mk{n:Nat}(aZ:1≤n)(a:n≤1000):Ao (eI n).P (eI n).gT (eI n).Y (eI n).gZ (dG (4*n+64)) (2 ^ (4*n+64+1)):=by
 have:=(xX eX [] 68 Ap n aZ (by rw [p2];exact a)).2.1
 rw [show 68+4*(n - 1)=4*n+64 by omega] at this
 exact this
theorem Ml{n:Nat}(aZ:1≤n)(a:n≤1000):((eI n).P≤dG (4*n+64)∧(eI n).gT≤dG (4*n+64))∧((eI n).Y≤2 ^ (4*n+64+1)∧(eI n).gZ≤2 ^ (4*n+64+1)):=by
 obtain⟨N,aP,b,c,aX,d⟩:=Mk aZ a
 have aJ:=Nat.le_mul_of_pos_right (eI n).P (show 0 < N by omega)
 have bJ:=Nat.le_mul_of_pos_right (eI n).gT aX
 have c3:=Nat.le_mul_of_pos_right (eI n).Y (show 0 < N by omega)
 have eA:=Nat.le_mul_of_pos_right (eI n).gZ aX
 omega
theorem AI{n:Nat}(b:n≤1000):fE (eI n).P∧fE (eI n).gT∧fE (eI n).Y∧fE (eI n).gZ:=by
 rcases Nat.eq_zero_or_pos n with R | aZ
 ·subst R;rw [GS];exact⟨oV (by decide),oV (by decide),oV (by decide),oV (by decide)⟩
 ·obtain⟨⟨aJ,bJ⟩,c3,eA⟩:=Ml aZ b
  obtain⟨a,s2⟩:=GN (show 4*n+64 < 4200 by omega)
  exact⟨jV (by omega) a,jV (by omega) a,jV c3 s2,jV eA s2⟩
theorem AJ{O:Nat}(Z:O < 1000):1≤eX.getD O 0∧eX.getD O 0 < 18446744073709551616:=by
 have a:O < eX.length:=by rw [p2];exact Z
 refine Lv (n:=1000) (by omega) (by omega) _ ?_
 rw [List.take_of_length_le (by rw [p2];exact Nat.le_refl _),List.getD,List.getElem?_eq_getElem a]
 exact List.getElem_mem a
theorem GU{a L:M}{l c m aV N aP aB:Nat}{Z:U}{aF:M→Nat→Nat→Int→U→Prop}(r:cG Z a c (aK N))(d:l=(aK N).length)(aH:cG Z L aV (aK aP))(e:m=(aK aP).length)(f:aB < 18446744073709551616)(h:fE N)(g5:fE (aB*N+aP))
  (g:∀ a c K,bA Z K→cV dP Z K a c (aK (aB*N+aP))→aF a (aK (aB*N+aP)).length c 0 K) :
  aY sK.id #[.slice a l c,.int .u64 (aB:Int),.slice L m aV] Z fun v K=>cT v fun aP=>cQ aP fun i eH=>aQ i fun a l c=>cQ eH fun j k=>aW .i64 j fun N=>b5 k (aF a l c N K):=by
 refine sK.ok ?_
 unfold sK.t sK.aL.t
 have R:N*aB+aP=aB*N+aP:=by rw [Nat.mul_comm]
 refine tL r d f h (jV (by omega) g5) fun aJ aG aZ b3 n=>?_
 refine jK (fun R=>absurd rfl R) fun _=>?_
 refine tJ n.eJ rfl (aH.aR b3) e (by rw [R];exact g5) fun bJ bG o p b=>?_
 rw [R] at b ⊢
 exact gE rfl (cF (bE rfl (cF (bQ rfl (dR (g bJ bG o (b3.trans p) (b.from b3.le)))))))
theorem Mm{n:Nat}(h:n≤1000){aX:U}{Y:aD}(x:∀ v K,bA aX K→lG aX K v (aK (eI n).P,aK (eI n).Y,0)→Y v K):
  ∀ (m O:Nat) {bP a7 b0 bR gC:M} {bO a9 b2 bT gG nH:Nat} {Z:U},1≤O→O+m=n→bA aX Z→aX.size≤nH→nH≤Z.size→
   gD aX.size nH Z (bP,(aK (eI O).P).length,bO) (aK (eI O).P)→gD nH Z.size Z (a7,(aK (eI O).Y).length,a9) (aK (eI O).Y)→cG Z b0 b2 (aK (eI O).gT)→cG Z bR bT (aK (eI O).gZ)→cG Z gC gG (eX.take n)→
   jC.dW.t Y (m+1) bP (aK (eI O).P).length bO a7 (aK (eI O).Y).length a9 b0 (aK (eI O).gT).length b2 bR (aK (eI O).gZ).length bT gC n gG (n:Int) (O:Int) Z:=by
 intro m
 induction m with
 | zero=>
  intro O bP a7 b0 bR gC bO a9 b2 bT gG nH Z aZ a4 a i j b c k l g
  unfold jC.dW.t jC.c8.t
  refine b9 (fun o=>by omega) fun _=>?_
  unfold jC.bF.t
  have R:O=n:=by omega
  subst R
  exact x _ _ a (lG.mk nH i j (.inl ⟨b,c⟩) (by decide))
 | succ m bU=>
  intro O bP a7 b0 bR gC bO a9 b2 bT gG nH Z aZ a4 a i j b c k l g
  unfold jC.dW.t jC.c8.t
  refine b9 (fun o=>?_) fun o=>by omega
  have y:O < (eX.take n).length:=by rw [l8 h];omega
  have z:(eX.take n).getD O 0=eX.getD O 0:=by simp [List.getD,show O < n by omega]
  refine fX g (aC:=O) rfl (l8 h).symm y ?_
  rw [z]
  have p:=(AJ (show O < 1000 by omega)).2
  obtain⟨A,s2,hN,w8⟩:=AI (n:=O) (by omega)
  obtain⟨t1,t2,t3,t4⟩:=AI (n:=O+1) (by omega)
  have d:=CH (show O < 1000 by omega)
  have q:(eI (O+1)).P=eX.getD O 0*(eI O).P+(eI O).gT:=by rw [d];rfl
  have r:(eI (O+1)).Y=eX.getD O 0*(eI O).Y+(eI O).gZ:=by rw [d];rfl
  have s:(eI (O+1)).gT=(eI O).P:=by rw [d];rfl
  have u:(eI (O+1)).gZ=(eI O).Y:=by rw [d];rfl
  refine eY (fun G=>by omega) fun _=>?_
  refine GU b.rd rfl k rfl p A (by rw [← q];exact t1) fun aM eH B b3 eE=>?_
  refine GU (c.rd.aR b3) rfl (l.aR b3) rfl p hN (by rw [← r];exact t3) fun C D E e w=>?_
  refine jK (fun R=>absurd rfl R) fun _=>?_
  refine jK (fun R=>absurd rfl R) fun _=>?_
  refine⟨?_⟩
  have F:IntKind.i64.wrap ((O:Int)+1)=((O+1:Nat):Int):=by rw [wrap_i64] <;> omega
  rw [F]
  have f:=b3.trans e
  rw [← q] at eE ⊢
  rw [← r] at w ⊢
  have:=bU (O+1) (bP:=aM) (bO:=eH) (a7:=C) (a9:=D) (b0:=bP) (b2:=bO) (bR:=a7) (bT:=a9) (gC:=gC) (gG:=gG) (nH:=B.size) (Z:=E) (by omega) (by omega) (a.trans f) (Nat.le_trans a.le b3.le) e.le
   (gD.pQ (eE.aR e) rfl a.le (Nat.le_refl _) |> fun aN=>(gD.pQ eE rfl a.le (Nat.le_refl _)).aR e) (gD.pQ w rfl (Nat.le_refl _) (Nat.le_refl _)) (by rw [s];exact b.rd.aR f) (by rw [u];exact c.rd.aR f) (g.aR f)
  rw [s,u] at this
  exact this
theorem GV{S:Nat}(Z:U)(w:S < 1000):aY jC.id #[.int .i64 (S:Int)] Z fun v K=>bA Z K∧lG Z K v (aK (eI (S+1)).P,aK (eI (S+1)).Y,0):=by
 refine jC.ok ?_
 unfold jC.t jC.aL.t
 refine b9 (fun b=>absurd b (by omega)) fun _=>?_
 refine b9 (fun b=>absurd b (by omega)) fun _=>?_
 unfold jC.a0.t jC.cE.t
 refine⟨?_⟩
 have e:IntKind.i64.wrap ((S:Int)+1)=((S+1:Nat):Int):=by rw [wrap_i64] <;> omega
 rw [e]
 refine cA (GQ (n:=S+1) Z (by omega) (by omega)) fun v aZ ⟨b3,f⟩=>?_
 refine f.h9 fun gC gG d=>?_
 rw [l8 (show S+1≤1000 by omega)]
 refine⟨S+1+1,?_⟩
 unfold jC.dW.t jC.c8.t
 refine b9 (fun b=>?_) fun b=>by omega
 have g:0 < (eX.take (S+1)).length:=by rw [l8 (by omega)];omega
 have h:(eX.take (S+1)).getD 0 0=eX.getD 0 0:=by simp [List.getD]
 refine fX d.eJ (aC:=0) rfl (l8 (by omega)).symm g ?_
 rw [h]
 have i:=(AJ (show 0 < 1000 by omega)).2
 refine eY (fun _=>?_) fun j=>absurd rfl j
 refine n2 i fun aM eH k aI eE=>?_
 refine n2 (N:=1) (by decide) fun l m x bZ o=>?_
 refine n2 (N:=1) (by decide) fun p q r dV s=>?_
 refine⟨?_⟩
 have u:IntKind.i64.wrap ((0:Int)+1)=((1:Nat):Int):=by rw [wrap_i64] <;> omega
 rw [u]
 have c:eI 1=⟨eX.getD 0 0,1,1,0⟩:=by rw [CH (by omega),GS];simp [qV.next,Am]
 have eK:=b3.trans (aI.trans (bZ.trans dV))
 have:=Mm (n:=S+1) (by omega) (aX:=Z) (Y:=fun v K=>bA Z K∧lG Z K v (aK (eI (S+1)).P,aK (eI (S+1)).Y,0)) (fun v K a L=>⟨a,L⟩) S 1 (bP:=aM) (bO:=eH) (a7:=l) (a9:=m) (b0:=p) (b2:=q) (bR:=none) (bT:=0) (gC:=gC) (gG:=gG) (nH:=k.size) (Z:=r)
  (Nat.le_refl _) (by omega) eK (b3.trans aI).le (bZ.trans dV).le (by rw [c];exact(gD.pQ eE rfl b3.le (Nat.le_refl _)).aR (bZ.trans dV)) (by rw [c];exact(gD.pQ o rfl (Nat.le_refl _) dV.le).aR dV)
  (by rw [c];exact s.eJ) (by rw [c,eP];exact cG.nil _ _ _) (d.eJ.aR (aI.trans (bZ.trans dV)))
 rw [c] at this
 simp only [eP,List.length_nil] at this
 exact this
theorem Mn{N:Int}(Z:U)(b:N < 0∨N≥1000):aY jC.id #[.int .i64 N] Z fun v K=>K=Z∧v=.tuple #[.slice none 0 0,.slice none 0 0,.int .i64 1]:=by
 refine jC.ok ?_
 unfold jC.t jC.aL.t
 refine b9 (fun a=>⟨rfl,rfl⟩) fun a=>?_
 exact b9 (fun a=>⟨rfl,rfl⟩) fun c=>by omega
theorem Mo:q0 80 (eQ 64) (2 ^ 1) (2 ^ (1+1) - 1)=some (3,true):=by kernel_rfl
theorem GW:iC (eQ 64) 3 true=2:=by kernel_rfl
theorem Mp:x4 3000 (3*2 ^ (64+1337)) 2=true:=by kernel_rfl
theorem Mq:nN 1400 (3*2 ^ (64+1337)) 2=3:=by kernel_rfl
theorem x8{n:Nat}(aX:n ≠ 0)(Z:n < 18446744073709551616):aK n=[n]:=by
 rw [kE aX,Nat.mod_eq_of_lt Z,show n / 18446744073709551616=0 by omega,eP]
theorem GX:eX.take 5=[1,1,1,3,31]:=by kernel_rfl
theorem AK:eI 4=⟨11,3,7,2⟩:=by
 show jA (eX.take 4)=_
 rw [show eX.take 4=[1,1,1,3] by kernel_rfl];rfl
theorem p8{a L:M}{c aV l m:Nat}{aA:List Nat}{Z:U}{aF:Bool→Prop}(r:cG Z a c aA)(aH:cG Z L aV aA)(b:l=aA.length)(d:m=aA.length)(g:aF true):nB kI.id #[.slice a l c,.slice L m aV] Z fun v=>eS v aF:=by
 refine I3 r aH b d ?_
 rw [decide_eq_true rfl];exact g
theorem Mr(Z:U):aY jY.id #[.int .i64 2,.int .i64 0] Z fun v K=>bA Z K∧∃ a c,v=.tuple #[.agg #[.int .u64 3,.slice a 1 c,.int .i64 3],.int .i64 0]∧cV dP Z K a c [2]:=by
 have f:=Gs (aB:=1400) (by omega) Mp
 have b:=Gx (L:=1) (R:=64) Z (by omega) (by omega) (m:=3) (up:=true) Mo (by rw [GW];exact f)
 rw [GW] at b
 refine cA b fun v j b=>?_
 obtain⟨g,eA,eF,h,d⟩:=b
 have e:v=.tuple #[.agg #[.int .u64 ((3:Nat):Int),.slice eA (aK 2).length eF,.int .i64 3],.int .i64 0]:=
  h.trans (congrArg (fun bI=>Value.tuple #[.agg #[.int .u64 ((3:Nat):Int),.slice eA (aK 2).length eF,.int .i64 bI],.int .i64 0]) Mq)
 have i:aK 2=[2]:=x8 (by decide) (by decide)
 rw [i] at e d
 exact⟨g,eA,eF,e,d⟩
theorem Ms(Z:U):aY mW.id #[] Z fun v K=>bA Z K∧v=.bool true:=by
 refine mW.ok ?_
 unfold mW.t mW.aL.t
 refine cA (GR (n:=5) Z (by omega) (by omega)) fun v aZ ⟨b3,k⟩=>?_
 refine k.h9 fun aJ aG l J=>?_
 refine cA (GV (S:=3) aZ (by omega)) fun v m ⟨h,s2⟩=>?_
 obtain⟨⟨_,_,_,o,⟨bJ,bG,p,q⟩,⟨c3,cR,r,s⟩,u,_⟩,_⟩:=s2
 subst o;subst p;subst r;subst u
 refine gE rfl (cF (bE rfl (cF (bE rfl (cF (bQ rfl (dR ?_)))))))
 refine cA (Mr m) fun v i ⟨c,eA,eF,w,x⟩=>?_
 subst w
 refine gE rfl (cF (e5 rfl (cF (bQ rfl (cF (bE rfl (cF (bQ rfl (dR (cF (bQ rfl (dR ?_))))))))))))
 refine eZ fun Q y z=>?_
 refine j4 y (by exact(by decide:0 < 3)) fun T A B=>?_
 refine j4 A (by exact(by decide:1 < 3)) fun V C D=>?_
 refine j4 C (by exact(by decide:2 < 3)) fun a E b=>?_
 have eK:bA i a:=cD.aR (cD.aR (cD.aR z B (Nat.le_refl _)) D (Nat.le_refl _)) b (Nat.le_refl _)
 refine jK (fun R=>absurd rfl R) fun _=>?_
 refine jK (fun R=>absurd rfl R) fun _=>?_
 refine jK (fun R=>absurd rfl R) fun _=>?_
 unfold mW.a0.t
 have e:eC a i.size [.int .u64 3,.slice eA 1 eF,.int .i64 3]:=E
 have q2:cG a aJ aG [1,1,1,3,31]:=by have:=l.eJ.aR (h.trans (c.trans eK));rwa [GX] at this
 have uC:cG a bJ bG [11]:=by
  have t:cG a bJ bG (aK (eI 4).P):=q.eJ.aR (c.trans eK)
  rwa [AK,x8 (by decide) (by decide)] at t
 have nO:cG a c3 cR [7]:=by
  have t:cG a c3 cR (aK (eI 4).Y):=s.eJ.aR (c.trans eK)
  rwa [AK,x8 (by decide) (by decide)] at t
 have sH:cG a eA eF [2]:=x.eJ.aR eK
 have aI:(eX.take 5,(0:Int)).1.length=[1,1,1,3,31].length:=by rw [GX]
 have bZ:((aK (eI (3+1)).P,aK (eI (3+1)).Y,(0:Int)).1).length=[11].length:=by
  show(aK (eI 4).P).length=_
  rw [AK,x8 (by decide) (by decide)]
 have dV:((aK (eI (3+1)).P,aK (eI (3+1)).Y,(0:Int)).2.1).length=[7].length:=by
  show(aK (eI 4).Y).length=_
  rw [AK,x8 (by decide) (by decide)]
 refine xG [1,1,1,3,31] (by rfl) (by simp) (by simp) fun Pt F d=>?_
 refine p8 (q2.aR d) (F.rd (by simp)) aI rfl ?_
 refine jL (fun R=>by cases R) fun _=>?_
 refine xG [11] (by rfl) (by simp) (by simp) fun Pu G f=>?_
 refine p8 (uC.aR (d.trans f)) (G.rd (by simp)) bZ rfl ?_
 refine jL (fun R=>by cases R) fun _=>?_
 refine xG [7] (by rfl) (by simp) (by simp) fun fM H j=>?_
 refine p8 (nO.aR (d.trans (f.trans j))) (H.rd (by simp)) dV rfl ?_
 refine jL (fun R=>by cases R) fun _=>?_
 unfold mW.bF.t
 have b:bA a fM:=d.trans (f.trans j)
 refine mF (e.aR b) rfl (bQ rfl ?_)
 refine eY (fun _=>?_) fun R=>absurd rfl R
 refine mF (e.aR b) rfl (bE rfl ?_)
 refine xG [2] (by rfl) (by simp) (by simp) fun Pv I g=>?_
 refine p8 (sH.aR (b.trans g)) (I.rd (by simp)) rfl rfl ?_
 refine mF (e.aR (b.trans g)) rfl (bQ rfl ?_)
 exact⟨b3.trans (h.trans (c.trans (eK.trans (b.trans g)))),rfl⟩
theorem x9{a bC:Prop}(g:a):cond true a bC:=g
theorem yA{Z:U}{aF:Bool→U→Prop}(g:∀ K,bA Z K→aF true K):aY mW.id #[] Z fun v K=>eS v fun L=>aF L K:=by
 refine cA (Ms Z) fun v K ⟨S,R⟩=>?_
 subst R;exact c5 rfl (g K S)
theorem Mt{n:Nat}{O:Int}{Z:U}(a4:O=(n:Int))(aZ:1≤n)(b:n≤1000){aF:M→Nat→Nat→Int→U→Prop}(g:∀ a c K,bA Z K→cV dP Z K a c (eX.take n)→aF a n c 0 K):
  aY mV.id #[.int .i64 O] Z fun v K=>cT v fun aP=>cQ aP fun d eH=>aQ d fun a l c=>cQ eH fun e f=>aW .i64 e fun N=>b5 f (aF a l c N K):=by
 subst a4
 refine cA (GR Z aZ b) fun v K ⟨S,aH⟩=>?_
 refine aH.h9 fun a c r O=>?_
 have:=g a c K S r
 rw [← l8 b] at this
 exact this
theorem Mu{S:Nat}{O:Int}{Z:U}(a4:O=(S:Int))(b:S < 1000){aF:M→Nat→Nat→M→Nat→Nat→Int→U→Prop}
  (g:∀ a c L aV K,bA Z K→cG K a c (aK (eI (S+1)).P)→cG K L aV (aK (eI (S+1)).Y)→aF a (aK (eI (S+1)).P).length c L (aK (eI (S+1)).Y).length aV 0 K) :
  aY jC.id #[.int .i64 O] Z fun v K=>cT v fun aP=>cQ aP fun d eH=>aQ d fun a l c=>cQ eH fun e f=>aQ e fun L m aV=>cQ f fun h i=>aW .i64 h fun N=>b5 i (aF a l c L m aV N K):=by
 subst a4
 refine cA (GV Z b) fun v K ⟨b3,aH⟩=>?_
 obtain⟨⟨_,_,_,j,⟨bJ,bG,k,n⟩,⟨c3,cR,o,p⟩,q,_⟩,_⟩:=aH
 subst j;subst k;subst o;subst q
 exact gE rfl (cF (bE rfl (cF (bE rfl (cF (bQ rfl (dR (g _ _ _ _ K b3 n.eJ p.eJ))))))))
theorem Mv{O:Int}{Z:U}(a4:O < 0∨O≥1000){aF:M→Nat→Nat→M→Nat→Nat→Int→U→Prop}(g:aF none 0 0 none 0 0 1 Z):
  aY jC.id #[.int .i64 O] Z fun v K=>cT v fun aP=>cQ aP fun b eH=>aQ b fun a l c=>cQ eH fun d e=>aQ d fun L m aV=>cQ e fun f h=>aW .i64 f fun N=>b5 h (aF a l c L m aV N K):=by
 refine cA (Mn Z a4) fun v K ⟨i,j⟩=>?_
 subst i;subst j
 exact gE rfl (cF (bE rfl (cF (bE rfl (cF (bQ rfl (dR g)))))))
def h2:Nat→Nat→Nat→List Nat
 | 0,_,_=>[]
 | n+1,a2,bK=>if bK=0 then [] else a2 / bK :: h2 n bK (a2 % bK)
theorem CI:∀ (Q:List Nat) (N aP n:Nat),(∀ aE ∈ Q,1≤aE)→0 < aP→aP < N→h2 (Q.length+n) (gM Q (N,aP)).1 (gM Q (N,aP)).2=Q ++ h2 n N aP
 | [],N,aP,n,_,aX,aZ=>by simp [gM]
 | aE :: Q,N,aP,n,b,aX,aZ=>by
  obtain⟨aJ,bJ,c3,eA⟩:=Co (aE:=aE) (fun r a=>b r (List.mem_cons_of_mem _ a)) aX aZ
  rw [List.length_cons,show Q.length+1+n=(Q.length+n)+1 by omega,h2,if_neg (by omega),bJ,c3,eA,CI Q N aP n (fun r a=>b r (List.mem_cons_of_mem _ a)) aX aZ]
  rfl
structure mX(Z:U)(m:M)(a:M)(c:Nat)(aA:List Nat):Prop where
 r:cH b6 Z a c aA
 aN:aA=[]∨∀ p,a=some p→fU p.block m
theorem mX.aR{Z K:U}{m a:M}{c:Nat}{aA:List Nat}(r:mX Z m a c aA)(S:bA Z K):mX K m a c aA:=⟨r.r.aR S,r.aN⟩
theorem mX.step{Z K:U}{m dX a:M}{c:Nat}{aA:List Nat}(r:mX Z m a c aA)(S:nW m Z K)(f:dX=m∨∃ L,dX=some ⟨L,0,none⟩∧Z.size≤L):mX K dX a c aA:=by
 rcases r.aN with R | aN
 ·subst R;exact⟨cH.nil _ _ _,Or.inl rfl⟩
 ·cases aA with
  | nil=>exact⟨cH.nil _ _ _,Or.inl rfl⟩
  | cons N aA=>
   refine⟨⟨r.r.len,r.r.cap,r.r.ok,fun O aP a4=>?_⟩,Or.inr fun p b=>?_⟩
   ·obtain⟨p,R,g⟩:=r.r.at_ O aP a4
    refine⟨p,R,?_⟩
    have d:=s4 g
    rw [rF (S.pre _ d (by rw [pJ];exact aN p R))];exact g
   ·rcases f with R | ⟨L,R,d⟩
    ·rw [R];exact aN p b
    ·obtain⟨j,h,g⟩:=r.r.at_ 0 N (by simp)
     have i:=s4 g
     rw [pJ] at i
     rw [h] at b;cases b
     intro aE e;rw [R] at e;cases e
     show L ≠ _;omega
theorem mX.fresh{Z K:U}{m a:M}{c:Nat}{aA:List Nat}(g:cV b6 Z K a c aA)(e:∀ p,m=some p→p.block < Z.size):mX K m a c aA:=by
 refine⟨g.rd,Or.inr fun p b aE f=>?_⟩
 rcases g.here with ⟨_,d,_⟩ | ⟨L,rest,h,d,_,_⟩
 ·rw [d] at b;cases b
 ·rw [h] at b;cases b
  have:=e aE f
  show aE.block ≠ L;omega
theorem cV.vF{cX:Type}{E:j3 cX}{aX Z:U}{a:M}{c:Nat}{aA:List cX}(g:cV E aX Z a c aA):∀ p,a=some p→p.block < Z.size:=by
 intro p b
 rcases g.here with ⟨_,d,_⟩ | ⟨L,rest,e,d,aN,_⟩
 ·rw [d] at b;cases b
 ·rw [e] at b;cases b;exact aN.lt
theorem Mw{aX Z:U}{R:TypeId}{O:dQ}{a:M}{l c m:Nat}{aH:jP}{fY:List jP}(g:cV oL aX Z a c fY)(f:bA aX Z)(i:l=fY.length)(j:O.leaves.length=1)(k:O.a6=[.slice none 0 0])(n:O.bytes=24)(s:fY.length≤100000){aF:M→Nat→Nat→U→Prop}
  (post:∀ b dF aZ K,cV oL aX K b dF (fY ++ [aH])→bA aX K→bA Z aZ→nW a aZ K→(b=a∨∃ L,b=some ⟨L,0,none⟩∧aZ.size≤L)→aF b (fY.length+1) dF K):dN Z R [.slice aH.1 aH.2.1 aH.2.2] fun aE e=>hF e R O a l c (.slice (some aE) 1 m) aF:=by
 refine vC oL [aH] rfl (fun _ _=>trivial) fun e o d=>?_
 have r:=o.qH (c:=1) (by simp [oL]) (Nat.le_refl _)
 refine Eh (g.aR d) (Nat.le_trans f.le d.le) r i rfl j (none,0,0) k trivial 24 n (by decide) (by simp only [List.length_singleton];show _≤11728124029610;omega) (fun _=>by simp only [List.length_singleton];omega) fun b dF K p h t q=>?_
 exact post b dF e K p (h.aR (f.trans d) (g.aR d).zO) d h q
structure lP(Z:U)(m:M)(fY:List jP)(eO:List Nat):Prop where
 len:fY.length=eO.length
 at_:∀ aC aH,fY[aC]?=some aH→aH.2.1=(D.aK (eO.getD aC 0)).length∧mX Z m aH.1 aH.2.2 (D.aK (eO.getD aC 0))
theorem lP.aR{Z K:U}{m:M}{fY:List jP}{eO:List Nat}(aV:lP Z m fY eO)(S:bA Z K):lP K m fY eO:=⟨aV.len,fun aC aH R=>⟨(aV.at_ aC aH R).1,(aV.at_ aC aH R).2.aR S⟩⟩
theorem lP.step{Z K:U}{m dX:M}{fY:List jP}{eO:List Nat}(aV:lP Z m fY eO)(S:nW m Z K)(a:dX=m∨∃ L,dX=some ⟨L,0,none⟩∧Z.size≤L):lP K dX fY eO:=
 ⟨aV.len,fun aC aH R=>⟨(aV.at_ aC aH R).1,(aV.at_ aC aH R).2.step S a⟩⟩
theorem lP.snoc{Z:U}{m:M}{fY:List jP}{eO:List Nat}(aV:lP Z m fY eO){a:M}{c aE:Nat}(r:mX Z m a c (D.aK aE)):lP Z m (fY ++ [(a,(D.aK aE).length,c)]) (eO ++ [aE]):=by
 refine⟨by simp [aV.len],fun aC aH R=>?_⟩
 rw [List.getElem?_append] at R
 split at R
 ·rename_i b
  have:=aV.at_ aC aH R
  rw [show(eO ++ [aE]).getD aC 0=eO.getD aC 0 by simp [List.getD,List.getElem?_append,aV.len ▸ b]]
  exact this
 ·rename_i b
  have d:aC=fY.length:=by
   have:=(List.getElem?_eq_some_iff.mp R).1
   simp at this;omega
  subst d
  simp at R;subst R
  rw [show(eO ++ [aE]).getD fY.length 0=aE by rw [aV.len];simp [List.getD]]
  exact⟨rfl,r⟩
theorem CJ{Z:U}{m:M}{a:M}{c l:Nat}{fY:List jP}{eO:List Nat}(aV:lP Z m fY eO)(r:cH oL Z a c fY){O:Int}{aC:Nat}(a4:O=(aC:Int))(d:l=fY.length)(e:aC < eO.length){aF:M→Nat→Nat→Prop}
  (g:∀ a c,cH b6 Z a c (D.aK (eO.getD aC 0))→aF a (D.aK (eO.getD aC 0)).length c):c7 a l O 1 fun aE=>fG Z aE fun v=>aQ v aF:=by
 have b:aC < fY.length:=by rw [aV.len];exact e
 refine IJ r a4 d (N:=fY[aC]) (List.getElem?_eq_getElem b) ?_
 obtain⟨f,h⟩:=aV.at_ aC fY[aC] (List.getElem?_eq_getElem b)
 rw [f];exact g _ _ h.r
def CK(Z:U)(eO:List Nat)(v:Value)(K:U):Prop:=bA Z K∧∃ a c fY,v=.slice a fY.length c∧cV oL Z K a c fY∧lP K a fY eO
theorem Mx{aX:U}{b:Nat}(B:b≤2000)(c:List Nat):
  ∀ (n:Nat) {d aJ b0:M} {e aG b2 a2 bK:Nat} {Z:U} {fY:List jP} {eO:List Nat},eO.length+n=b→c=eO ++ h2 n a2 bK→fP a2→fP bK→bA aX Z→mX Z b0 d e (D.aK a2)→mX Z b0 aJ aG (D.aK bK)→cV oL aX Z b0 b2 fY→lP Z b0 fY eO→
   lC.cK.t (CK aX c) (n+1) d (D.aK a2).length e aJ (D.aK bK).length aG (b:Int) b0 fY.length b2 Z:=by
 intro n
 induction n with
 | zero=>
  intro d aJ b0 e aG b2 a2 bK Z fY eO v a p s f u q g aV
  have w:c=eO:=by rw [a,h2,List.append_nil]
  have fin:lC.a0.t (CK aX c) b0 fY.length b2 Z:=by
   unfold lC.a0.t
   subst w;exact⟨f,b0,b2,fY,rfl,g,aV⟩
  unfold lC.cK.t lC.cE.t
  refine b9 (fun _=>?_) fun _=>fin
  refine b9 (fun h=>?_) fun _=>fin
  have:=aV.len;omega
 | succ n bU=>
  intro d aJ b0 e aG b2 a2 bK Z fY eO v a p s f u q g aV
  unfold lC.cK.t lC.cE.t
  have C:=aV.len
  refine b9 (fun h=>?_) fun h=>?_
  ·have i:bK ≠ 0:=fun R=>by have:=oA.mpr R;omega
   rw [h2,if_neg i] at a
   refine b9 (fun _=>?_) fun h=>absurd (show((fY.length:Nat):Int) < (b:Int) by omega) h
   unfold lC.b7.t
   refine tM u.r rfl q.r rfl p i fun bJ bG c3 cR E j x y=>?_
   have f2:=mX.fresh x (m:=b0) (cV.vF g)
   have f3:=mX.fresh y (m:=b0) (cV.vF g)
   refine Mw (aH:=(bJ,(D.aK (a2 / bK)).length,bG)) (g.aR j) (f.trans j) rfl rfl rfl rfl (by omega) fun eA eF F G z A k l o=>?_
   have bM:fY.length+1=(fY ++ [(bJ,(D.aK (a2 / bK)).length,bG)]).length:=by simp
   rw [bM]
   refine bU (eO:=eO ++ [a2 / bK]) (by simp;omega) (by rw [a,List.append_assoc];rfl) s (rX (Nat.mod_le _ _) p) A (((q.aR j).aR k).step l o) ((f3.aR k).step l o) z ?_
   exact lP.snoc (((aV.aR j).aR k).step l o) ((f2.aR k).step l o)
  ·have i:bK=0:=oA.mp (by omega)
   unfold lC.a0.t
   rw [h2,if_pos i,List.append_nil] at a
   subst a;exact⟨f,b0,b2,fY,rfl,g,aV⟩
theorem GY{Z:U}{a L:M}{c aV l m a2 bK b:Nat}{O:Int}(r:cH b6 Z a c (D.aK a2))(aH:cH b6 Z L aV (D.aK bK))(d:l=(D.aK a2).length)(e:m=(D.aK bK).length)(a4:O=(b:Int))(f:b≤2000)(h:fP a2)(i:fP bK){aF:M→Nat→Nat→U→Prop}
  (g:∀ a c fY K,bA Z K→cH oL K a c fY→lP K a fY (h2 b a2 bK)→aF a fY.length c K) :
  aY lC.id #[.slice a l c,.slice L m aV,.int .i64 O] Z fun v K=>aQ v fun a l c=>aF a l c K:=by
 subst d;subst e;subst a4
 refine cA (c6:=CK Z (h2 b a2 bK)) ?_ fun v K ⟨S,a,c,fY,R,j,aV⟩=>by subst R;exact bE rfl (g a c fY K S j.rd aV)
 refine lC.ok ?_
 unfold lC.t lC.aL.t
 have k:∀ {aA:List Nat} {p:Addr},aA=aA→fU p.block none:=fun _ aE R=>by cases R
 refine⟨b+1,?_⟩
 exact Mx f (h2 b a2 bK) b (eO:=[]) (fY:=[]) (by simp) (by simp) h i (bA.refl _) ⟨r,Or.inr fun p _ aE R=>by cases R⟩ ⟨aH,Or.inr fun p _ aE R=>by cases R⟩ (cV.nil _ _) ⟨rfl,fun aC aH R=>by simp at R⟩
theorem My{S:Nat}(aZ:1≤S)(e:S≤1000):(∃ T,T ≠ []∧h2 (S+2) (dG (4*S+64)) (2 ^ (4*S+64+1))=eX.take S ++ T)∧(∃ T,T ≠ []∧h2 (S+2) (dG (4*S+64)+1) (2 ^ (4*S+64+1))=eX.take S ++ T):=by
 obtain⟨a,⟨N,aP,e6,eM,gN,hA⟩,⟨cU,v,aG,bG,cR,eF⟩⟩:=xX eX [] 68 Ap S aZ (by rw [p2];exact e)
 rw [show 68+4*(S - 1)=4*S+64 by omega] at e6 eM aG bG
 have b:∀ aE ∈ eX.take S,1≤aE:=fun aE b=>(a aE b).1
 have c:=CI (eX.take S) N aP 2 b gN hA
 have d:=CI (eX.take S) cU v 2 b cR eF
 rw [Cp _ _ rfl,l8 e] at c d
 simp only [List.nil_append] at e6 eM aG bG
 simp only at c d
 rw [e6,eM] at c
 rw [aG,bG] at d
 refine⟨⟨h2 2 N aP,?_,c⟩,⟨h2 2 cU v,?_,d⟩⟩
 ·rw [h2,if_neg (by omega)];simp
 ·rw [h2,if_neg (by omega)];simp
def o3(bV:List Value):Prop:=∀ v ∈ bV,∀ n:Int,v ≠ .int .u32 n
theorem q4(p:Bool)(a:M)(l c:Nat):o3 [.bool p,.slice a l c]:=by
 intro v bW n
 simp only [List.mem_cons,List.not_mem_nil,or_false] at bW
 rcases bW with R | R <;> (rw [R];exact fun Z=>by cases Z)
theorem Mz{Z:U}{aE:Nat}{bV:List Value}{a:M}{c:Nat}{aA:List Nat}(aN:eC Z aE bV)(d:o3 bV)(r:cH b6 Z a c aA):aA=[]∨fU aE a:=by
 cases aA with
 | nil=>exact Or.inl rfl
 | cons N aA=>
  obtain⟨p,R,g⟩:=r.at_ 0 N (by simp)
  refine Or.inr fun h b e=>?_
  rw [R] at b;cases b
  obtain⟨t,at_⟩:=aN.at_
  unfold gP at g
  rw [pJ,e,at_] at g
  simp only at g
  split at g
  ·cases g
  ·have f:=Array.mem_of_getElem? g
   exact d (b6.enc N) (by simpa using f) (N:Int) rfl
theorem gL.cL{Z K:U}{aE:Nat}{bV:List Value}{p:Bool}{a:M}{l c:Nat}{O:Int}(bI:gL Z p a l c O)(aN:eC Z aE bV)(b:o3 bV)(S:cD aE Z K):gL K p a l c O:=by
 refine⟨bI.p,bI.l,?_⟩
 rcases Mz aN b bI.r with R | R
 ·rw [R];exact cH.nil _ _ _
 ·exact bI.r.cL R S
theorem wE{Z:U}{aE:Nat}{bV:List Value}(aN:eC Z aE bV)(b:bV.length=2){p:Bool}{a:M}{l c:Nat}{aF:U→Prop}(g:∀ K,cD aE Z K→eC K aE [.bool p,.slice a l c]→aF K):
  cC Z ((⟨aE,0,none⟩:Addr).add 0) (.bool p) fun aZ=>cC aZ ((⟨aE,0,none⟩:Addr).add 1) (.slice a l c) aF:=by
 match bV,b with
 | [j,k],_=>
  refine j4 aN (by exact(by decide:0 < 2)) fun m d e=>?_
  refine j4 d (by exact(by decide:1 < 2)) fun f h i=>?_
  exact g f (e.trans i) h
def yB(Z:U)(O:Int)(v:Value)(K:U):Prop:=bA Z K∧∃ p a l c,v=.agg #[.bool p,.slice a l c]∧gL K p a l c O
theorem yB.elim{Z K:U}{v:Value}{O:Int}{aF:Bool→M→Nat→Nat→U→Prop}(aH:yB Z O v K)(g:∀ p a l c,bA Z K→gL K p a l c O→aF p a l c K):pW v K aF:=by
 obtain⟨S,p,a,l,c,R,bI⟩:=aH
 subst R
 exact e5 rfl (cF (c5 rfl (cF (bE rfl (dR (g _ _ _ _ S bI))))))
theorem GZ{aX Z:U}{aE:Nat}{bV:List Value}{O:Int}(aN:eC Z aE bV)(e:bV.length=2)(f:o3 bV)(g:bA aX Z)(h:aX.size≤aE){p:Bool}{a:M}{l c:Nat}(bI:gL Z p a l c O):
  cC Z ((⟨aE,0,none⟩:Addr).add 0) (.bool p) fun aZ=>cC aZ ((⟨aE,0,none⟩:Addr).add 1) (.slice a l c) fun b=>fG b ((⟨aE,0,none⟩:Addr).add 0) fun i=>eS i fun L=>fG b ((⟨aE,0,none⟩:Addr).add 1) fun j=>aQ j fun a l c=>yB aX O (.agg #[.bool L,.slice a l c]) b:=by
 refine wE aN e fun b d k=>?_
 exact mP k ⟨cD.aR g d h,p,a,l,c,rfl,bI.cL aN f d⟩
section
variable {a L:M} {c aV l m N n:Nat} {Z:U} {O aC aP:Int} {p aE:Bool} {aF:Bool→M→Nat→Nat→U→Prop}
theorem yC(b:aP=(n:Int))(e:n≤100000)(r:gL Z p a l c (N:Int))(d:fP N)(g:∀ p a l c K,bA Z K→gL K p a l c ((N*2 ^ n:Nat):Int)→aF p a l c K):
  aY k4.id #[.agg #[.bool p,.slice a l c],.int .i64 aP] Z fun v K=>pW v K aF:=by
 subst b
 refine cA (k4.bM (p:=p) (N:=(n:Int)) r.r r.l (by rw [qI];omega) d (by omega) (Or.inl (by omega))) fun v K ⟨S,aH⟩=>?_
 rw [r.c1] at aH
 rw [show(N:Int)*2 ^ ((n:Int).toNat)=((N*2 ^ n:Nat):Int) by rw [Int.toNat_natCast,Int.natCast_mul,Int.natCast_pow];rfl] at aH
 exact vX aH fun p a l c bI _=>g p a l c K S bI
theorem MA(r:gL Z p a l c O)(aH:gL Z aE L m aV aC)(b:fP O.natAbs)(d:fP aC.natAbs)(g:∀ p a l c K,bA Z K→gL K p a l c (O*aC)→aF p a l c K):
  aY oW.id #[.agg #[.bool p,.slice a l c],.agg #[.bool aE,.slice L m aV]] Z fun v K=>pW v K aF:=by
 refine cA (oW.bM (p:=p) (aE:=aE) r.r r.l aH.r aH.l b d) fun v K ⟨S,t⟩=>?_
 rw [r.c1,aH.c1] at t
 exact vX t fun p a l c bI _=>g p a l c K S bI
theorem MB(b:aP=(n:Int))(e:n≤100000)(r:gL Z p a l c O)(d:(D.aK O.natAbs).length≤150000)(g:∀ p a l c K,bA Z K→gL K p a l c (hP O ((2 ^ n:Nat):Int))→aF p a l c K):
  aY lZ.id #[.agg #[.bool p,.slice a l c],.int .i64 aP] Z fun v K=>pW v K aF:=by
 subst b
 refine cA (lZ.bM (p:=p) (N:=(n:Int)) r.r r.l (by rw [qI];omega) d) fun v K ⟨S,aH⟩=>?_
 rw [r.c1,show(2:Int) ^ ((n:Int).toNat)=((2 ^ n:Nat):Int) by rw [Int.toNat_natCast,Int.natCast_pow];rfl] at aH
 exact vX aH fun p a l c bI _=>g p a l c K S bI
theorem CL(r:gL Z p a l c (N:Int))(aH:gL Z aE L m aV (n:Int))(d:n ≠ 0)(b:(D.aK N).length≤150000)(CM:(D.aK n).length≤150000)(g:∀ p a l c K,bA Z K→gL K p a l c ((hQ N n:Nat):Int)→aF p a l c K):
  aY lK.id #[.agg #[.bool p,.slice a l c],.agg #[.bool aE,.slice L m aV]] Z fun v K=>pW v K aF:=by
 refine cA (lK.bM (p:=p) (aE:=aE) r.r r.l aH.r aH.l b CM) fun v K ⟨S,t⟩=>?_
 rw [r.c1,aH.c1] at t
 have R:vV (N:Int) (n:Int)=dM ((hQ N n:Nat):Int):=by
  unfold vV lH
  rw [if_neg (by omega),decide_eq_false (by omega),decide_eq_false (by omega),Int.natAbs_natCast,Int.natAbs_natCast];rfl
 rw [R] at t
 exact vX t fun p a l c bI _=>g p a l c K S bI
theorem MC(r:gL Z p a l c (N:Int))(g:∀ p a l c K,bA Z K→gL K p a l c (N:Int)→aF p a l c K):
  aY uF.id #[.agg #[.bool p,.slice a l c]] Z fun v K=>pW v K aF:=by
 refine cA (c6:=yB Z (N:Int)) ?_ fun v K aH=>aH.elim fun p a l c S bI=>g p a l c K S bI
 refine uF.ok ?_
 unfold uF.t uF.aL.t
 refine eZ fun aZ e b3=>?_
 refine eZ fun i f b=>?_
 refine mF (e.aR b) rfl (bE rfl ?_)
 refine Ai (N:=N) ((r.r.aR b3).aR b) r.l fun lN c3 dV cR j d h=>?_
 exact GZ (aX:=Z) (f.aR d) rfl (q4 _ _ _ _) (b3.trans (b.trans d)) b3.le h
theorem G0(e:aP=(n:Int))(f:n≤100000)(r:gL Z p a l c (N:Int))(h:fP N)(g:∀ p a l c K,bA Z K→gL K p a l c ((N*2 ^ n:Nat):Int)→aF p a l c K):
  aY sL.id #[.agg #[.bool p,.slice a l c],.int .i64 aP] Z fun v K=>pW v K aF:=by
 refine cA (c6:=yB Z ((N*2 ^ n:Nat):Int)) ?_ fun v K aH=>aH.elim fun p a l c S bI=>g p a l c K S bI
 refine sL.ok ?_
 unfold sL.t sL.aL.t
 refine eZ fun aZ i b3=>?_
 refine eZ fun o j b=>?_
 refine b9 (fun _=>?_) fun k=>absurd (show aP≥0 by omega) k
 refine mP (i.aR b) ?_
 refine yC e f ((r.aR b3).aR b) h fun lN c3 dV cR q d m=>?_
 exact GZ (aX:=Z) (j.aR d) rfl (q4 _ _ _ _) (b3.trans (b.trans d)) b3.le m
end
def wF(m R aE:Nat)(S aP:Int):Prop:=
 (eB m+R - 64=0∧m*2 ^ (R+(aE+(eB m+R - 64+4)) - 64)*2 ^ 2≤2 ^ (aE+(eB m+R - 64+4))*3∧S=0∧aP=((m*2 ^ (R+aE - 64):Nat):Int))∨
 (S=((hQ (m*2 ^ (R+(aE+(eB m+R - 64+4)) - 64)*2 ^ 1) (dG (aE+(eB m+R - 64+4))):Nat):Int)∧
  aP=hP (((m*2 ^ (R+(aE+(eB m+R - 64+4)) - 64)*2 ^ 1:Nat):Int) - S*((dG (aE+(eB m+R - 64+4)):Nat):Int)) ((2 ^ (eB m+R - 64+4+1):Nat):Int))
def yD(Z:U)(m R aE:Nat)(v:Value)(K:U):Prop:=
 bA Z K∧∃ S aP p a l c b d e dF,wF m R aE S aP∧v=.tuple #[.agg #[.bool p,.slice a l c],.agg #[.bool b,.slice d e dF]]∧gL K p a l c S∧gL K b d e dF aP
theorem G1{Y:aD}{aX Z:U}{m R aE:Nat}{S aP:Int}{b d:Nat}{g h:List Value}(t:∀ v K,yD aX m R aE v K→Y v K)(u:bA aX Z)(i:eC Z b g)(w:eC Z d h)(x:g.length=2)(y:h.length=2)(q:o3 g)(r:o3 h)(s:b ≠ d)(z:aX.size≤b)(A:aX.size≤d)
  {p j:Bool} {a k:M} {l c n dF:Nat} (bI:gL Z p a l c S) (jI:gL Z j k n dF aP) (B:wF m R aE S aP) :
  cC Z ((⟨b,0,none⟩:Addr).add 0) (.bool p) fun C=>cC C ((⟨b,0,none⟩:Addr).add 1) (.slice a l c) fun D=>cC D ((⟨d,0,none⟩:Addr).add 0) (.bool j) fun E=>cC E ((⟨d,0,none⟩:Addr).add 1) (.slice k n dF) fun e=>
  fG e ((⟨b,0,none⟩:Addr).add 0) fun F=>eS F fun G=>fG e ((⟨b,0,none⟩:Addr).add 1) fun H=>aQ H fun I J P=>fG e ((⟨d,0,none⟩:Addr).add 0) fun Q=>eS Q fun T=>fG e ((⟨d,0,none⟩:Addr).add 1) fun V=>aQ V fun Pt Pu Pv=>
   Y (.tuple #[.agg #[.bool G,.slice I J P],.agg #[.bool T,.slice Pt Pu Pv]]) e:=by
 refine wE i x fun aZ b3 Pw=>?_
 have o:=w.cL (fun R=>s R.symm) b3
 refine wE o y fun Py f Px=>?_
 refine mP (Pw.cL s f) (mP Px ?_)
 exact t _ _ ⟨cD.aR (cD.aR u b3 z) f A,S,aP,p,a,l,c,j,k,n,dF,B,rfl,(bI.cL i q b3).cL o r f,(jI.cL i q b3).cL o r f⟩
theorem MD{Y:aD}{aX Z:U}{m R aE a2 P S t:Nat}{b c i j k:Nat}{e f:List Value}(V:∀ v K,yD aX m R aE v K→Y v K)(Pt:bA aX Z)(Pu:eC Z b e)(Pv:eC Z c f)(Pw:e.length=2)(Px:f.length=2)(Py:o3 e)(Pz:o3 f)(PA:b ≠ c)(PB:aX.size≤b)(PC:aX.size≤c)
  {l o p:Bool} {q r s:M} {u w x y z A:Nat} (B:eC Z i [.bool l,.slice q u w]) (PD:gL Z l q u w (a2:Int)) (C:eC Z j [.bool o,.slice r x y]) (PE:gL Z o r x y (P:Int)) (d:eC Z k [.bool p,.slice s z A]) (E:gL Z p s z A (S:Int))
  (g:fE (a2*2 ^ 1)) (F:fE P) (G:fE S) (PK:t≤5000) (H:wF m R aE (S:Int) (hP (((a2*2 ^ 1:Nat):Int) - (S:Int)*(P:Int)) ((2 ^ (t+1):Nat):Int))) :
  nP.bF.t Y ⟨b,0,none⟩ ⟨c,0,none⟩ (t:Int) ⟨i,0,none⟩ ⟨j,0,none⟩ ⟨k,0,none⟩ Z:=by
 have PF:(D.aK (S*P)).length≤16384+16384:=by
  have aZ:=(s9 S).mpr G
  have I:=(s9 P).mpr F
  have:=xQ S P;omega
 unfold nP.bF.t
 refine⟨d.lt,mP d ⟨B.lt,mP B ?_⟩⟩
 refine yC (n:=1) rfl (by decide) PD (kW (jV (Nat.le_mul_of_pos_right a2 (by decide)) g)) fun lM aJ aI aG aZ b3 PG=>?_
 refine⟨fV b3 (Nat.le_refl _),d.lt,mP (d.aR b3) ⟨C.lt,mP (C.aR b3) ?_⟩⟩
 refine MA (E.aR b3) (PE.aR b3) (kW G) (kW F) fun l1 bJ bZ bG I a J=>?_
 refine⟨fV a b3.le,?_⟩
 rw [← Int.natCast_mul] at J H
 refine K9 (PG.aR a) J (kW g) (Nat.le_trans PF (by decide)) fun lN c3 dV cR Q h PH=>?_
 refine⟨fV h (b3.trans a).le,?_⟩
 refine cO ((t+1:Nat):Int) (by omega) (by omega) (by omega) ?_
 have l9:(D.aK (((a2*2 ^ 1:Nat):Int) - ((S*P:Nat):Int)).natAbs).length≤150000:=by
  have aZ:=(s9 (a2*2 ^ 1)).mpr g
  have I:=xR (a2*2 ^ 1) (S*P)
  have Q:(((a2*2 ^ 1:Nat):Int) - ((S*P:Nat):Int)).natAbs≤a2*2 ^ 1+S*P:=by omega
  have PI:=n6 Q
  omega
 refine MB (n:=t+1) rfl (by omega) PH l9 fun PL eA fT eF PI T PJ=>?_
 refine⟨fV T (b3.trans (a.trans h)).le,?_⟩
 have eK:=b3.trans (a.trans (h.trans T))
 exact G1 V (Pt.trans eK) (Pu.aR eK) (Pv.aR eK) Pw Px Py Pz PA PB PC (E.aR eK) PJ H
theorem ME{Y:aD}{aX Z:U}{m R aE a2 t aB:Nat}{f g o:Nat}{q r:List Value}(Pz:∀ v K,yD aX m R aE v K→Y v K)(PA:bA aX Z)(s:eC Z f q)(PB:eC Z g r)(u:q.length=2)(PC:r.length=2)(PD:o3 q)(PE:o3 r)(PF:f ≠ g)(PG:aX.size≤f)(PH:aX.size≤g)
  {I:Bool} {J:M} {P Q:Nat} (PI:eC Z o [.bool I,.slice J P Q]) (PJ:gL Z I J P Q (a2:Int)) (PK:aB < 4200) (T:fE (a2*2 ^ 1+1)) (PL:t≤5000)
  (PM:wF m R aE ((hQ (a2*2 ^ 1) (dG aB):Nat):Int) (hP (((a2*2 ^ 1:Nat):Int) - ((hQ (a2*2 ^ 1) (dG aB):Nat):Int)*((dG aB:Nat):Int)) ((2 ^ (t+1):Nat):Int))) :
  nP.a0.t Y ⟨f,0,none⟩ ⟨g,0,none⟩ (t:Int) (aB:Int) ⟨o,0,none⟩ Z:=by
 have w:fE (a2*2 ^ 1):=jV (Nat.le_succ _) T
 have V:fE (dG aB):=r2 (aB:=aB) (by omega) (Nat.le_add_right _ _)
 have x:dG aB ≠ 0:=by
  have:=uG (show aB≤4400 by omega)
  have:0 < 2 ^ aB:=Nat.pow_pos (by decide)
  omega
 have PN:fE (hQ (a2*2 ^ 1) (dG aB)):=by
  refine jV (m:=a2*2 ^ 1+1) ?_ T
  have aZ:hQ (a2*2 ^ 1) (dG aB)≤a2*2 ^ 1 / dG aB+1:=by unfold hQ;split <;> omega
  have y:=Nat.div_le_self (a2*2 ^ 1) (dG aB)
  omega
 have z:(D.aK (a2*2 ^ 1)).length≤150000:=Nat.le_trans ((s9 _).mpr w) (by decide)
 have A:(D.aK (dG aB)).length≤150000:=Nat.le_trans ((s9 _).mpr V) (by decide)
 have Pt:fP a2:=kW (jV (Nat.le_mul_of_pos_right a2 (by decide)) w)
 unfold nP.a0.t
 refine Al rfl PK fun aJ aG aZ b3 PO=>?_
 refine Ai PO.rd rfl fun l1 bJ bZ bG y PQ PR=>?_
 refine FR rfl fun PS B Pu P9 C=>?_
 have h:=b3.trans (PQ.trans Pu)
 have PT:=s.aR h
 have PU:=PB.aR h
 have E:=PI.aR h
 have F:=PJ.aR h
 have k:=PR.aR Pu
 have PV:=PA.trans h
 have fin:∀ {i fM:U} {aE:Nat} {bV:List Value} {p:Bool} {a:M} {l c:Nat},bA B i→B.size≤aE→eC i aE bV→bV.length=2→o3 bV→gL i p a l c ((hQ (a2*2 ^ 1) (dG aB):Nat):Int)→
   cC i ((⟨aE,0,none⟩:Addr).add 0) (.bool p) fun aZ=>cC aZ ((⟨aE,0,none⟩:Addr).add 1) (.slice a l c) fun y=>nP.bF.t Y ⟨f,0,none⟩ ⟨g,0,none⟩ (t:Int) ⟨o,0,none⟩ ⟨PS,0,none⟩ ⟨aE,0,none⟩ y:=by
  intro i fM aE bV p a l c PW PX Pv PY PZ P0
  refine wE Pv PY fun P1 Pw P2=>?_
  have eK:bA B P1:=cD.aR PW Pw PX
  exact MD Pz (PV.trans eK) (PT.aR eK) (PU.aR eK) u PC PD PE PF PG PH (E.aR eK) (F.aR eK) (C.aR eK) (k.aR eK) P2 (P0.cL Pv PZ Pw) w V PN PL PM
 refine⟨E.lt,mP E ⟨C.lt,mP C ⟨?_,?_⟩⟩⟩
 ·refine yC (n:=1) rfl (by decide) F Pt fun Qa eA fT eF P3 b Px=>?_
  refine⟨fV b (Nat.le_refl _),?_,?_⟩
  ·refine CL Px (k.aR b) x z A fun P4 bP P5 bO Py d G=>?_
   refine⟨fV d b.le,?_⟩
   refine eZ fun j s e=>⟨fV e (b.trans d).le,?_⟩
   exact fin (fM:=j) (b.trans (d.trans e)) (b.trans d).le s rfl (q4 _ _ _ _) (G.aR e)
  ·refine eZ fun Py P6 d=>⟨fV d b.le,?_⟩
   refine CL (Px.aR d) ((k.aR b).aR d) x z A fun P7 a7 u a9 j e H=>?_
   refine⟨fV e (b.trans d).le,?_⟩
   exact fin (fM:=j) (b.trans (d.trans e)) b.le (P6.aR e) rfl (q4 _ _ _ _) H
 ·refine eZ fun P3 P8 b=>⟨fV b (Nat.le_refl _),?_⟩
  refine yC (n:=1) rfl (by decide) (F.aR b) Pt fun P4 bP P5 bO Py d G=>?_
  refine⟨fV d b.le,?_⟩
  refine CL G ((k.aR b).aR d) x z A fun P7 a7 u a9 j e H=>?_
  refine⟨fV e (b.trans d).le,?_⟩
  exact fin (fM:=j) (b.trans (d.trans e)) (Nat.le_refl _) ((P8.aR d).aR e) rfl (q4 _ _ _ _) H
theorem MF{Z:U}{m R aE:Nat}{aM y:Int}{p:Bool}{a:M}{l c:Nat}(bI:gL Z p a l c (m:Int))(j:m < 18446744073709551616)(PI:R < 1036)(PJ:65≤aE)(PK:aE≤400)(PL:eB m≤64)(aZ:aM=(R:Int) - 64)(e:y=(aE:Int)):
  aY nP.id #[.agg #[.bool p,.slice a l c],.int .i64 aM,.int .i64 y] Z (yD Z m R aE):=by
 subst aZ;subst e
 obtain⟨T,k⟩:∃ T,T=eB m+R - 64:=⟨_,rfl⟩
 have PM:T≤1036:=by omega
 refine nP.ok ?_
 unfold nP.t nP.aL.t
 refine eZ fun P Q f=>?_
 refine eZ fun V o h=>?_
 refine eZ fun PN z q=>?_
 have s:=(Q.aR h).aR q
 have A:=o.aR q
 have u:=f.trans (h.trans q)
 have i:=bI.aR u
 refine mF s rfl (bE rfl ?_)
 refine Fp (N:=m) i.r i.l ?_
 refine cO ((eB m:Int)+((R:Int) - 64)) rfl (by omega) (by omega) ?_
 refine cO ((T+4:Nat):Int) (by split <;> omega) (by omega) (by omega) ?_
 refine cO ((aE+(T+4):Nat):Int) (by omega) (by omega) (by omega) ?_
 refine mP s ?_
 have Pt:R+(aE+(T+4)) - 64≤100000:=by omega
 refine cO ((R+(aE+(T+4)) - 64:Nat):Int) (by omega) (by omega) (by omega) ?_
 refine G0 rfl Pt i (lW j) fun lM aJ aI aG aZ b3 B=>?_
 refine FR rfl fun e8 e g PO C=>?_
 have w:fE (m*2 ^ (R+(aE+(T+4)) - 64)*2 ^ 1+1):=by
  have Pu:m < 2 ^ 64:=by rw [show(2:Nat) ^ 64=18446744073709551616 by decide];exact j
  have PQ:m*2 ^ (R+(aE+(T+4)) - 64) < 2 ^ (64+(R+(aE+(T+4)) - 64)):=by
   rw [Nat.pow_add];exact Nat.mul_lt_mul_of_pos_right Pu (Nat.pow_pos (by decide))
  refine jJ (S:=64+(R+(aE+(T+4)) - 64)+1) ?_ (by omega)
  rw [Nat.pow_succ];omega
 have fin:∀ {b:U},bA e b→nP.a0.t (yD Z m R aE) ⟨P.size,0,none⟩ ⟨V.size,0,none⟩ ((T+4:Nat):Int) ((aE+(T+4):Nat):Int) ⟨e8,0,none⟩ b:=by
  intro b d
  have eK:=(b3.trans g).trans d
  refine ME (m:=m) (R:=R) (aE:=aE) (fun v K aH=>aH) ((u.trans (b3.trans g)).trans d) (A.aR eK) (z.aR eK) rfl rfl (q4 _ _ _ _) (q4 _ _ _ _) ?_ f.le (f.trans h).le (C.aR d) ((B.aR g).aR d) (by omega) w (by omega) (Or.inr ⟨?_,?_⟩)
  ·have:=o.lt;omega
  ·rw [k]
  ·rw [k]
 refine eY (fun PR=>?_) fun _=>fin (bA.refl _)
 have PS:T=0:=by omega
 refine mP C ?_
 refine MC (B.aR g) fun lN c3 dV cR b d Pv=>?_
 refine yC (n:=2) rfl (by decide) Pv (kW (jV (by omega) w)) fun PT eA fT eF E Pw Px=>?_
 refine p1 rfl (by omega) fun bP bO PU F Py=>?_
 have Pz:fP (2 ^ (aE+(T+4))):=vQ (S:=aE+(T+4)+1) (Nat.pow_lt_pow_right (by decide) (by omega)) (by omega)
 refine Ae Py.rd rfl (aB:=3) rfl (by decide) Pz fun a7 a9 PV G PA=>?_
 refine Ai PA.rd rfl fun PW b0 PX b2 PY H PB=>?_
 have d1:(D.aK (m*2 ^ (R+(aE+(T+4)) - 64)*2 ^ 2)).length≤700000:=by
  have aZ:=(s9 _).mpr w
  have e:=xQ (m*2 ^ (R+(aE+(T+4)) - 64)) (2 ^ 2)
  have b:(D.aK (2 ^ 2)).length≤1:=xK (S:=3) (by decide) (by decide)
  have E:=n6 (show m*2 ^ (R+(aE+(T+4)) - 64)≤m*2 ^ (R+(aE+(T+4)) - 64)*2 ^ 1+1 by omega)
  omega
 have d2:(D.aK (2 ^ (aE+(T+4))*3)).length≤700000:=by
  have e:=xQ (2 ^ (aE+(T+4))) 3
  have b:(D.aK 3).length≤1:=xK (S:=3) (by decide) (by decide)
  have E:(D.aK (2 ^ (aE+(T+4)))).length≤60000:=xK (S:=aE+(T+4)+1) (Nat.pow_lt_pow_right (by decide) (by omega)) (by omega)
  omega
 refine Lb (Px.aR (F.trans (G.trans H))) PB d1 d2 fun PZ PC=>?_
 have I:=d.trans (Pw.trans (F.trans (G.trans (H.trans PC))))
 refine b9 (fun J=>?_) fun _=>fin I
 have PD:m*2 ^ (R+(aE+(T+4)) - 64)*2 ^ 2≤2 ^ (aE+(T+4))*3:=by
  refine Nat.le_of_not_lt fun P0=>?_
  unfold hL at J
  rw [if_neg (by omega),if_neg (by omega)] at J
  omega
 have eK:=(b3.trans g).trans I
 refine mP (s.aR eK) ?_
 have PE:R+aE - 64≤100000:=by omega
 refine cO ((R+aE - 64:Nat):Int) (by omega) (by omega) (by omega) ?_
 refine G0 rfl PE (i.aR eK) (lW j) fun P1 P2 P3 P4 PF x PG=>?_
 have PH:gL PF false none 0 0 (0:Int):=⟨rfl,by rw [show(0:Int).natAbs=0 from rfl,D.eP];rfl,by rw [show(0:Int).natAbs=0 from rfl,D.eP];exact cH.nil _ _ _⟩
 refine G1 (m:=m) (R:=R) (aE:=aE) (fun v K aH=>aH) ((u.trans eK).trans x) ((A.aR eK).aR x) ((z.aR eK).aR x) rfl rfl (q4 _ _ _ _) (q4 _ _ _ _) ?_ f.le (f.trans h).le PH PG (Or.inl ⟨by omega,?_,rfl,rfl⟩)
 ·have:=o.lt;omega
 ·rw [← k];exact PD
def q5(m R aE aV aF:Nat):Prop:=
 ∃ S aP:Int,wF m R aE S aP∧((S ≠ 0∧aV=aP.natAbs∧aF=S.natAbs)∨(S=0∧aV=dG (aE+1) / 2 ^ 2 - aP.natAbs∧aF=1))
theorem wG{Z:U}{m R aE:Nat}{aS aM k:Int}{aF:M→Nat→Nat→M→Nat→Nat→U→Prop}(aX:aS=(m:Int))(o:m < 18446744073709551616)(H:R < 1036)(I:65≤aE)(J:aE≤400)(P:eB m≤64)(aZ:aM=(R:Int) - 64)(q:k=(aE:Int))
  (g:∀ aV S a c b dF K,q5 m R aE aV S→bA Z K→cH b6 K a c (D.aK aV)→cH b6 K b dF (D.aK S)→aF a (D.aK aV).length c b (D.aK S).length dF K) :
  aY oF.id #[.int .u64 aS,.int .i64 aM,.int .i64 k] Z fun v K=>cT v fun aP=>cQ aP fun Q eH=>aQ Q fun a l c=>cQ eH fun T V=>aQ T fun L m aV=>b5 V (aF a l c L m aV K):=by
 refine cA (c6:=fun v K=>bA Z K∧∃ aV S a c b dF,q5 m R aE aV S∧v=.tuple #[.slice a (D.aK aV).length c,.slice b (D.aK S).length dF]∧cH b6 K a c (D.aK aV)∧cH b6 K b dF (D.aK S)) ?_
  fun v K ⟨eK,aV,S,a,c,b,dF,Pt,R,r,Pu⟩=>by subst R;exact gE rfl (cF (bE rfl (cF (bE rfl (dR (g aV S a c b dF K Pt eK r Pu))))))
 subst aX;subst aZ;subst q
 refine oF.ok ?_
 unfold oF.t oF.aL.t
 refine kO rfl o fun aJ aG aZ b3 Pv=>?_
 refine Ai Pv.rd rfl fun l1 bJ bZ bG q Pw Px=>?_
 refine cA (MF Px o H I J P rfl rfl) fun v s ⟨Py,S,aP,p,a,l,c,PM,b,PN,dF,u,cW,bI,jI⟩=>?_
 subst cW
 refine gE rfl (cF (e5 rfl (cF (c5 rfl (cF (bE rfl (dR (cF (e5 rfl (cF (c5 rfl (cF (bE rfl (dR (dR ?_)))))))))))))))
 refine eZ fun Pz w x=>?_
 refine eZ fun PO PA y=>?_
 refine wE (w.aR y) rfl fun PQ z PB=>?_
 have A:Pz.size ≠ s.size:=by have:=w.lt;omega
 refine wE (PA.cL A z) rfl fun PC B C=>?_
 have E:=PB.cL (fun R=>A R.symm) B
 have f:bA s PC:=cD.aR (cD.aR (x.trans y) z (Nat.le_refl _)) B x.le
 have h:=bI.aR f
 have e:=jI.aR f
 have F:=b3.trans (Pw.trans (Py.trans f))
 refine mP E ?_
 refine La h fun PR d=>?_
 by_cases i:S=0
 ·have PD:hL S 0=0:=by unfold hL;rw [if_neg (by omega),if_pos i]
  rw [PD]
  refine jK (fun R=>absurd rfl R) fun _=>?_
  refine cO ((aE+1:Nat):Int) (by omega) (by omega) (by omega) ?_
  refine Al rfl (by omega) fun PS PT PU PE PF=>?_
  refine Ac (n:=2) rfl PF.rd rfl (by decide) fun PV PW fM PG PH=>?_
  have j:=d.trans (PE.trans PG)
  refine mF (C.aR j) rfl (bE rfl ?_)
  refine n3 PH.rd rfl (e.aR j).r e.l fun PX PY PZ PI PJ=>?_
  refine kO (N:=1) rfl (by decide) fun P0 P1 P2 G PK=>?_
  exact⟨F.trans (j.trans (PI.trans G)),_,1,_,_,_,_,⟨S,aP,u,Or.inr ⟨i,rfl,rfl⟩⟩,rfl,PJ.rd.aR G,PK.rd⟩
 ·have PL:hL S 0 ≠ 0:=by unfold hL;split <;> (try split) <;> omega
  refine jK (fun _=>?_) fun R=>absurd PL (by simpa using R)
  refine mF (C.aR d) rfl (bE rfl ?_)
  refine mF (E.aR d) rfl (bE rfl ?_)
  refine⟨F.trans d,aP.natAbs,S.natAbs,_,_,_,_,⟨S,aP,u,Or.inl ⟨i,rfl,rfl⟩⟩,?_,(e.aR d).r,(h.aR d).r⟩
  rw [h.l,e.l]
theorem G2{P dH iV a2 aV:Nat}(a:0 < dH)(d:a2=iV*dH)(e:a2≤P)(b:aV=P / dH - iV):aV*dH < e4 a2 (1*P)+dH∧e4 a2 (1*P) < aV*dH+dH:=by
 have aZ:=Nat.div_add_mod P dH
 have f:=Nat.mod_lt P a
 have c:iV≤P / dH:=(Nat.le_div_iff_mul_le a).mpr (by omega)
 have g:aV*dH+iV*dH=dH*(P / dH):=by
  rw [← Nat.add_mul,b,Nat.sub_add_cancel c,Nat.mul_comm]
 unfold e4
 rw [Nat.one_mul]
 split <;> omega
theorem MG{P dH a2 n:Nat}(g:0 < dH):(hP ((a2:Int) - (n:Int)*(P:Int)) (dH:Int)).natAbs*dH < e4 a2 (n*P)+dH∧e4 a2 (n*P) < (hP ((a2:Int) - (n:Int)*(P:Int)) (dH:Int)).natAbs*dH+dH:=by
 obtain⟨aZ,d⟩:=KB (a:=(a2:Int) - (n:Int)*(P:Int)) (show(0:Int) < (dH:Int) by omega)
 rw [Int.add_mul,Int.one_mul] at d
 rw [← Int.natCast_mul] at aZ d ⊢
 generalize n*P=f at *
 generalize hP ((a2:Int) - (f:Int)) (dH:Int)=aP at *
 have c:((aP.natAbs*dH:Nat):Int)=aP*(dH:Int)∨((aP.natAbs*dH:Nat):Int)=-(aP*(dH:Int))∧aP < 0:=by
  rcases Int.lt_or_le aP 0 with b | b
  ·right;refine⟨?_,b⟩
   rw [Int.natCast_mul,Int.ofNat_natAbs_of_nonpos (by omega),Int.neg_mul]
  ·left;rw [Int.natCast_mul,Int.natAbs_of_nonneg b]
 have bM:0≤aP→0≤aP*(dH:Int):=fun b=>Int.mul_nonneg b (by omega)
 have e:aP < 0→aP*(dH:Int)≤-(dH:Int):=fun b=>by
  have:=Int.mul_le_mul_of_nonneg_right (show aP≤-1 by omega) (show(0:Int)≤(dH:Int) by omega)
  omega
 generalize aP.natAbs*dH=D at *
 generalize aP*(dH:Int)=bK at *
 unfold e4
 rcases c with c | ⟨c,b⟩
 ·by_cases b:0≤aP
  ·have:=bM b;split <;> omega
  ·have:=e (by omega);omega
 ·have:=e b;split <;> omega
theorem MH{a2 P:Nat}(Z:2*a2≤P)(b:0 < P):hQ a2 P=0:=by
 have aZ:a2 % P=a2:=Nat.mod_eq_of_lt (by omega)
 have a:a2 / P=0:=Nat.div_eq_of_lt (by omega)
 unfold hQ
 rw [aZ,a,if_neg (by omega)]
theorem MI{a2 P:Nat}(Z:hQ a2 P=0)(a:0 < P):a2≤P:=by
 unfold hQ at Z
 split at Z
 ·exact absurd Z (Nat.succ_ne_zero _)
 ·have aZ:=Nat.div_add_mod a2 P
  have b:=Nat.mod_lt a2 a
  rw [Z,Nat.mul_zero] at aZ
  omega
def iO(m R aB:Nat):Nat:=m*2 ^ (R+aB - 64)*2 ^ 1
theorem CN{m R aE aV aF T aB:Nat}(j:T=eB m+R - 64)(k:aB=aE+(T+4))(a:q5 m R aE aV aF)(p:65≤aE)(q:aB < 4200):
  aF=max 1 (hQ (iO m R aB) (dG aB))∧aV*2 ^ (T+5) < e4 (iO m R aB) (aF*dG aB)+2 ^ (T+5)∧e4 (iO m R aB) (aF*dG aB) < aV*2 ^ (T+5)+2 ^ (T+5):=by
 have d:0 < 2 ^ (T+5):=Nat.pow_pos (by decide)
 have r:=uG (show aB≤4400 by omega)
 have s:0 < 2 ^ aB:=Nat.pow_pos (by decide)
 have h:0 < dG aB:=by omega
 have e:iO m R aB=m*2 ^ (R+aE - 64)*2 ^ (T+5):=by
  unfold iO
  rw [Nat.mul_assoc,← Nat.pow_add,Nat.mul_assoc,← Nat.pow_add];congr 2;omega
 have l:dG (aE+1) / 2 ^ 2=dG aB / 2 ^ (T+5):=by
  have b:=Ak (aE - 1) 2 (by omega)
  have i:=Ak (aE - 1) (T+5) (by omega)
  rw [show aE - 1+2=aE+1 by omega] at b
  rw [show aE - 1+(T+5)=aB by omega] at i
  rw [b,i]
 obtain⟨S,aP,f,a⟩:=a
 unfold wF at f
 rw [← j,← k,show T+4+1=T+5 by omega] at f
 rw [l] at a
 have n:m*2 ^ (R+aB - 64)*2 ^ 1=iO m R aB:=rfl
 have t:iO m R aB=m*2 ^ (R+aB - 64)*2:=by unfold iO;rfl
 rcases f with ⟨_,u,rfl,rfl⟩ | ⟨rfl,rfl⟩
 ·rcases a with ⟨g,_⟩ | ⟨_,a,rfl⟩
  ·exact absurd rfl g
  ·have o:2*iO m R aB≤dG aB:=by omega
   rw [MH o h]
   refine⟨rfl,G2 d e (by omega) ?_⟩
   rw [a,Int.natAbs_natCast]
 ·rw [n] at a
  rcases a with ⟨g,a,c⟩ | ⟨g,a,c⟩
  ·rw [Int.natAbs_natCast] at c
   subst c;subst a
   refine⟨by omega,MG d⟩
  ·subst c
   have aX:hQ (iO m R aB) (dG aB)=0:=by omega
   rw [aX] at a ⊢
   refine⟨rfl,G2 d e (MI aX h) ?_⟩
   rw [a]
   congr 1
   have b:hP (((iO m R aB:Nat):Int) - ((0:Nat):Int)*((dG aB:Nat):Int)) ((2 ^ (T+5):Nat):Int)=((m*2 ^ (R+aE - 64):Nat):Int):=by
    rw [show(((0:Nat):Int))*((dG aB:Nat):Int)=0 by simp,Int.sub_zero]
    unfold hP
    rw [if_neg (by omega),e,Int.natCast_mul,Int.mul_ediv_cancel _ (by omega)]
   rw [b,Int.natAbs_natCast]
theorem MJ:q6*hI≤2 ^ 8801∧2 ^ 8801 < (q6+1)*(hI+1):=⟨Nat.le_of_ble_eq_true (by kernel_rfl),Nat.le_of_ble_eq_true (by kernel_rfl)⟩
theorem MK{b d p aE aH:Nat}(aZ:b*d≤2 ^ aH)(g:2 ^ aH < (b+1)*(d+1))(bM:p+aE≤aH)(h:b / 2 ^ p+1≤d / 2 ^ aE):v9 (b / 2 ^ p) (d / 2 ^ aE) (2 ^ (aH - (p+aE))):=by
 have e:0 < 2 ^ p:=Nat.pow_pos (by decide)
 have f:0 < 2 ^ aE:=Nat.pow_pos (by decide)
 have R:2 ^ aH=2 ^ (aH - (p+aE))*(2 ^ p*2 ^ aE):=by rw [← Nat.pow_add,← Nat.pow_add];congr 1;omega
 refine⟨?_,?_,h⟩
 ·refine Nat.le_of_mul_le_mul_right (c:=2 ^ p*2 ^ aE) ?_ (Nat.mul_pos e f)
  rw [← R]
  refine Nat.le_trans ?_ aZ
  rw [Nat.mul_mul_mul_comm]
  exact Nat.mul_le_mul (Nat.div_mul_le_self _ _) (Nat.div_mul_le_self _ _)
 ·refine Nat.lt_of_mul_lt_mul_right (a:=2 ^ p*2 ^ aE) ?_
  rw [← R]
  refine Nat.lt_of_lt_of_le g ?_
  rw [Nat.mul_mul_mul_comm]
  refine Nat.mul_le_mul ?_ ?_
  ·have:=Nat.div_add_mod b (2 ^ p);have:=Nat.mod_lt b e
   rw [Nat.add_mul,Nat.one_mul,Nat.mul_comm];omega
  ·have:=Nat.div_add_mod d (2 ^ aE);have:=Nat.mod_lt d f
   rw [Nat.add_mul,Nat.one_mul,Nat.mul_comm];omega
theorem sM{bY n:Nat}(Z:q7 bY n=true){R:Nat}(aZ:bY≤R)(d:R < bY+n):wH R=true:=by
 have b:=xU Z (R - bY) (by omega)
 have a:wH (Nat.add bY (R - bY))=true:=b
 have c:Nat.add bY (R - bY)=R:=by show bY+(R - bY)=R;omega
 rw [c] at a;exact a
theorem ML{R:Nat}(a:R < 1036):wH R=true:=by
 by_cases aX:R < 130
 ·exact sM MM (by omega) (by omega)
 by_cases aZ:R < 260
 ·exact sM MN (by omega) (by omega)
 by_cases b:R < 390
 ·exact sM MO (by omega) (by omega)
 by_cases c:R < 520
 ·exact sM MP (by omega) (by omega)
 by_cases d:R < 650
 ·exact sM MQ (by omega) (by omega)
 by_cases e:R < 780
 ·exact sM MR (by omega) (by omega)
 by_cases f:R < 910
 ·exact sM MS (by omega) (by omega)
 exact sM MT (by omega) (by omega)
theorem wI{a L:Bool}:cond a L false=true→a=true∧L=true:=by cases a <;> cases L <;> decide
theorem MU{R:Nat}(Z:wH R=true):(∀ L,L < 53→CO (eQ R) R L=true)∧Sep (eQ R) (2 ^ 150)∧AL (eQ R) R=true:=by
 unfold wH at Z
 rw [k6,k6] at Z
 obtain⟨aZ,a⟩:=wI Z
 obtain⟨b,c⟩:=wI a
 obtain⟨d,e⟩:=wI c
 exact⟨fun L f=>xU aZ L f,LM b d,e⟩
theorem MV(N l:Nat):N - l+(l - N)=e4 N l:=by unfold e4;split <;> omega
noncomputable def yE(c aH t l N:Nat):Bool:=
 hE (Nat.add (Nat.sub N l) (Nat.sub l N)) fun G=>hE (Nat.sub G (Nat.pow 2 c)) fun cU=>hE (Nat.add G (Nat.pow 2 c)) fun v=>
 cond (Nat.ble (Nat.succ (Nat.xor cU v)) (Nat.land cU v)) (cond (Nat.ble (Nat.pow 2 aH) G) (Nat.ble (Nat.succ v) (Nat.pow 2 t)) false) false
noncomputable def CP(n c aH t a R L:Nat):Bool:=
 match q0 80 a (Nat.pow 2 L) (Nat.sub (Nat.pow 2 (Nat.succ L)) 1) with
 | none=>false
 | some (m,up)=>hE (iC a m up) fun S=>hE (Nat.mul m (Nat.pow 2 (Nat.add R 1337))) fun N=>cond (x4 n N S) (yE c aH t (Nat.mul S (Nat.div hI (Nat.pow 2 n))) N) false
theorem MW(a R L:Nat):CO a R L=CP 3000 1086 1200 1402 a R L:=by kernel_rfl
theorem MX{c aH t l N:Nat}(Z:yE c aH t l N=true):
  eB (e4 N l - 2 ^ c)=eB (e4 N l+2 ^ c)∧e4 N l - 2 ^ c ≠ 0∧2 ^ aH≤e4 N l∧e4 N l+2 ^ c < 2 ^ t:=by
 unfold yE at Z
 rw [k6,k6,k6,sB,sB,sB] at Z
 simp only [Nat.add_eq,Nat.sub_eq,MV] at Z
 obtain⟨aZ,a⟩:=wI Z
 obtain⟨b,d⟩:=wI a
 obtain⟨N,aP,bI⟩:=Gq (Nat.le_of_ble_eq_true aZ)
 exact⟨bI,N,Nat.le_of_ble_eq_true b,Nat.le_of_ble_eq_true d⟩
theorem MY{n c aH t a R L aB:Nat}(b:n=4400 - aB)(Z:CP n c aH t a R L=true):∃ m up,q0 80 a (2 ^ L) (2 ^ (L+1) - 1)=some (m,up)∧Told aB (m*2 ^ (R+1337)) (iC a m up)∧yE c aH t (iC a m up*dG aB) (m*2 ^ (R+1337))=true:=by
 unfold CP at Z
 rw [sB,sB] at Z
 simp only [Nat.sub_eq,Nat.succ_eq_add_one] at Z
 split at Z
 ·cases Z
 ·rename_i m up d
  rw [k6,k6,sB,Gp b] at Z
  obtain⟨aZ,e⟩:=wI Z
  exact⟨m,up,d,Gs (n:=n) (aB:=aB) b aZ,e⟩
theorem G3{N aP a:Nat}(b:0 < a):e4 N aP*a=e4 (N*a) (aP*a):=by
 unfold e4
 by_cases Z:N < aP
 ·rw [if_pos Z,if_pos (Nat.mul_lt_mul_of_pos_right Z b),Nat.sub_mul]
 ·rw [if_neg Z,if_neg (by have:=Nat.mul_le_mul_right a (Nat.le_of_not_lt Z);omega),Nat.sub_mul]
theorem MZ{a2 b d a S P gT c r e:Nat}(f:0 < b)(g:0 < a)(h:a2*b=d*a)(i:c=P*b+r)(j:r < b)(k:c=gT*a+e)(l:e < a):
  e4 a2 (S*P)*b≤e4 d (S*gT)*a+S*(b+a)∧e4 d (S*gT)*a≤e4 a2 (S*P)*b+S*(b+a):=by
 rw [G3 f,G3 g,h,Nat.mul_add]
 have m:S*c=S*P*b+S*r:=by rw [i,Nat.mul_add,Nat.mul_assoc]
 have n:S*c=S*gT*a+S*e:=by rw [k,Nat.mul_add,Nat.mul_assoc]
 have e6:S*r≤S*b:=Nat.mul_le_mul_left S (Nat.le_of_lt j)
 have eM:S*e≤S*a:=Nat.mul_le_mul_left S (Nat.le_of_lt l)
 generalize S*P*b=cU at *
 generalize S*gT*a=v at *
 generalize S*c=aB at *
 generalize d*a=N at *
 unfold e4
 split <;> split <;> omega
theorem M0{g G aV S b a dH V cN:Nat}(aZ:g*b≤G*a+S*(b+a))(l:G*a≤g*b+S*(b+a))(e:aV*dH < g+dH)(f:g < aV*dH+dH)(c:dH*b=V)(d:0 < b)(m:S*(b+a)+V≤cN*a)(h:cN≤G):
  (G - cN)*a < aV*V∧aV*V < (G+cN)*a:=by
 have i:aV*V=aV*dH*b:=by rw [← c,Nat.mul_assoc]
 have aJ:aV*dH*b < g*b+V:=by rw [← c,← Nat.add_mul];exact Nat.mul_lt_mul_of_pos_right e d
 have bJ:g*b < aV*dH*b+V:=by rw [← c,← Nat.add_mul];exact Nat.mul_lt_mul_of_pos_right f d
 have j:(G - cN)*a=G*a - cN*a:=Nat.sub_mul _ _ _
 have k:(G+cN)*a=G*a+cN*a:=Nat.add_mul _ _ _
 have n:cN*a≤G*a:=Nat.mul_le_mul_right a h
 rw [i,j,k]
 generalize aV*dH*b=D at *
 generalize g*b=N at *
 generalize G*a=aP at *
 generalize cN*a=bI at *
 generalize S*(b+a)=aB at *
 omega
theorem AM{L m:Nat}(aZ:2 ^ L≤m)(b:m≤2 ^ (L+1) - 1):eB m=L+1:=by
 have p:0 < 2 ^ (L+1):=Nat.pow_pos (by decide)
 refine Nat.le_antisymm (h8.mpr (by omega)) ?_
 refine Nat.lt_of_not_le fun a=>?_
 have:=h8.mp a;omega
theorem M1{n:Nat}(Z:n ≠ 0):∃ bC,eB n=bC+1∧2 ^ bC≤n∧n < 2 ^ (bC+1):=by
 have aX:=qG Z
 refine⟨eB n - 1,by omega,?_,?_⟩
 ·refine Nat.le_of_not_lt fun a=>?_
  have:=h8.mpr a
  omega
 ·rw [show eB n - 1+1=eB n by omega]
  exact h8.mp (Nat.le_refl _)
theorem G4{a L:Nat}(Z:a≤L):eB a≤eB L:=h8.mpr (Nat.lt_of_le_of_lt Z (h8.mp (Nat.le_refl _)))
theorem M3{cN m aH n t:Nat}(Z:2 ^ aH=cN)(a:n+1+aH=t):cN*(m*2 ^ n*2 ^ 1)=m*2 ^ t:=by
 rw [← Z,← a,Nat.pow_add,Nat.pow_add,Nat.mul_comm,Nat.mul_assoc,Nat.mul_assoc,Nat.mul_assoc]
theorem M4{L R m T aB:Nat}(b:T=L+1+R - 64)(c:m≤2 ^ (L+1) - 1)(d:64≤R+aB):iO m R aB < 2 ^ (T+(aB+1)):=by
 have p:0 < 2 ^ (L+1):=Nat.pow_pos (by decide)
 have aZ:m*2 ^ (R+aB - 64) < 2 ^ (L+1)*2 ^ (R+aB - 64):=Nat.mul_lt_mul_of_pos_right (by omega) (Nat.pow_pos (by decide))
 have a:iO m R aB < 2 ^ (L+1)*2 ^ (R+aB - 64)*2 ^ 1:=Nat.mul_lt_mul_of_pos_right aZ (by decide)
 rw [← Nat.pow_add,← Nat.pow_add] at a
 exact Nat.lt_of_lt_of_le a (Nat.pow_le_pow_right (by decide) (by omega))
theorem M5{L R m T aB:Nat}(a:T=L+1+R - 64)(b:m≤2 ^ (L+1) - 1)(c:64≤R+aB)(d:aB≤4400):max 1 (hQ (iO m R aB) (dG aB))≤2 ^ T:=by
 have aZ:=M4 a b c
 have f:=uG d
 have p:0 < 2 ^ aB:=Nat.pow_pos (by decide)
 have t0:0 < 2 ^ T:=Nat.pow_pos (by decide)
 have e:iO m R aB < 2 ^ T*dG aB:=by
  refine Nat.lt_of_lt_of_le aZ ?_
  rw [Nat.pow_add]
  refine Nat.mul_le_mul_left _ ?_
  rw [Nat.pow_succ];omega
 have g:iO m R aB / dG aB < 2 ^ T:=(Nat.div_lt_iff_lt_mul (by omega)).mpr e
 have h:=GA (iO m R aB) (dG aB)
 omega
structure oG(L R m S:Nat)(up:Bool):Prop where
 pick:q0 80 (eQ R) (2 ^ L) (2 ^ (L+1) - 1)=some (m,up)
 eK:S=iC (eQ R) m up
 told:Told 1400 (m*2 ^ (R+1337)) S
 M6:∃ c aH t,c=1086∧aH=1200∧t=1402∧yE c aH t (S*dG 1400) (m*2 ^ (R+1337))=true
 fZ:∃ aV,sC (eQ R) (2 ^ L) (2 ^ (L+1) - 1) m S aV
 sep:Sep (eQ R) (2 ^ 150)
 inv:AL (eQ R) R=true
theorem bin{L R:Nat}(a:L < 53)(e:R < 1036):∃ m S up,oG L R m S up:=by
 obtain⟨aZ,b,f⟩:=MU (ML e)
 have c:=aZ L a
 rw [MW] at c
 obtain⟨m,up,d,g,h⟩:=MY (aB:=1400) rfl c
 obtain⟨e6,eM,gN⟩:=oE a
 obtain⟨aV,fZ,_,_⟩:=LN d (by omega) e6 (by omega) (Nat.pow_pos (by decide)) b
 exact⟨m,_,up,d,rfl,g,⟨_,_,_,rfl,rfl,rfl,h⟩,⟨aV,fZ⟩,b,f⟩
theorem CQ{R:Nat}(a:R < 1036):eQ R < 2 ^ (R+256):=by rw [Ct a];exact Gt (by omega)
theorem M7{R aB n:Nat}(a:R < 1036)(b:R+256≤aB)(d:aB < 4200)(e:n=R+aB+257):v9 (eQ R) (dG aB) (2 ^ n):=by
 have c:eQ R=q6 / 2 ^ (4144 - R):=rfl
 obtain⟨aH,bM⟩:∃ aH,aH=8801:=⟨_,rfl⟩
 have ip:=MJ
 rw [← bM] at ip
 have Z:=MK (p:=4144 - R) (aE:=4400 - aB) ip.1 ip.2 (by omega)
 rw [show aH - (4144 - R+(4400 - aB))=n by omega,← c] at Z
 refine Z ?_
 show eQ R+1≤dG aB
 have aZ:=CQ a
 have f:=uG (show aB≤4400 by omega)
 have g:2 ^ (R+256)≤2 ^ aB:=Nat.pow_le_pow_right (by decide) b
 omega
theorem CR(m a L:Nat):m*2 ^ a*2 ^ L=m*2 ^ (a+L):=by rw [Nat.pow_add,Nat.mul_assoc]
theorem M8(m a L:Nat):m*2 ^ a*2 ^ 1*2 ^ L=m*2 ^ (a+1+L):=by rw [CR,CR,Nat.add_assoc]
theorem G5(P n:Nat):P=P / n*n+P % n:=by rw [Nat.mul_comm];exact(Nat.div_add_mod P n).symm
theorem M9{aB v:Nat}:∃ a r b,a=dG aB*2 ^ (4400 - aB)+r∧r < 2 ^ (4400 - aB)∧a=dG v*2 ^ (4400 - v)+b∧b < 2 ^ (4400 - v):=
 ⟨hI,_,_,G5 _ _,Nat.mod_lt _ (Nat.pow_pos (by decide)),G5 _ _,Nat.mod_lt _ (Nat.pow_pos (by decide))⟩
theorem G6{L R m S aE T aB:Nat}{up:Bool}(bC:oG L R m S up)(e:L < 53)(f:R < 1036)(o:320≤aE)(p:aE≤400)(q:T=L+1+R - 64)(r:aB=aE+(T+4)):
  max 1 (hQ (iO m R aB) (dG aB))=S∧∀ dX,2 ^ L≤dX→dX≤2 ^ (L+1) - 1→dX ≠ m→e4 (iO m R aB) (S*dG aB)+2 ^ (T+6)≤e4 (iO dX R aB) (max 1 (hQ (iO dX R aB) (dG aB))*dG aB):=by
 obtain⟨e6,eM,gN⟩:=oE e
 obtain⟨aV,fZ⟩:=bC.fZ
 have c:=M7 (n:=R+aB+257) f (show R+256≤aB by omega) (by omega) rfl
 have a:∀ m,b1*iO m R aB=m*2 ^ (R+aB+257):=fun m=>M3 tW (by omega)
 have d:36028797018963969≤2 ^ 150:=Nat.le_trans (show 36028797018963969≤2 ^ 56 by decide) (Nat.pow_le_pow_right (by decide) (by decide))
 have s:=uG (show aB≤4400 by omega)
 have g:b1*2 ^ (T+6)+36028797018963968*dG aB≤2 ^ 150*dG aB:=by
  have h:(2:Nat) ^ 150=2 ^ 149+2 ^ 149:=by rw [← Nat.two_mul,← Nat.pow_succ']
  have i:36028797018963968≤2 ^ 149:=Nat.le_trans (show 36028797018963968≤2 ^ 56 by decide) (Nat.pow_le_pow_right (by decide) (by decide))
  have aJ:b1*2 ^ (T+6)≤2 ^ 149*dG aB:=by
   obtain⟨aC,t⟩:∃ aC,aC=321:=⟨_,rfl⟩
   have aZ:b1≤2 ^ aC:=Nat.le_of_lt (Cr (by omega))
   have b:b1*2 ^ (T+6)≤2 ^ aC*2 ^ (T+6):=Nat.mul_le_mul_right _ aZ
   have j:2 ^ aC*2 ^ (T+6)≤2 ^ (149+aB):=by rw [← Nat.pow_add];exact Nat.pow_le_pow_right (by decide) (by omega)
   have k:2 ^ (149+aB)≤2 ^ 149*dG aB:=by rw [Nat.pow_add];exact Nat.mul_le_mul_left _ (by omega)
   exact Nat.le_trans b (Nat.le_trans j k)
  have bJ:36028797018963968*dG aB≤2 ^ 149*dG aB:=Nat.mul_le_mul_right _ i
  rw [h,Nat.add_mul];exact Nat.add_le_add aJ bJ
 have sep:=bC.sep
 generalize 2 ^ 150=c6 at *
 refine⟨LQ fZ e6 (by omega) d sep c (a m),fun dX aZ b l=>?_⟩
 exact LO fZ e6 (by omega) (Nat.le_trans (by decide) d) sep c g (a m) (a dX) aZ b (by omega) l
theorem wJ{L R m S aE aV aF:Nat}{up:Bool}(bC:oG L R m S up)(i:L < 53)(j:R < 1036)(k:320≤aE)(l:aE≤400)(n:2 ^ L≤m)(o:m≤2 ^ (L+1) - 1)(p:q5 m R aE aV aF):
  aF=S∧∀ dX b c,2 ^ L≤dX→dX≤2 ^ (L+1) - 1→dX ≠ m→q5 dX R aE b c→aV < b:=by
 obtain⟨T,d⟩:∃ T,T=L+1+R - 64:=⟨_,rfl⟩
 obtain⟨aB,e⟩:∃ aB,aB=aE+(T+4):=⟨_,rfl⟩
 obtain⟨aI,bZ⟩:=G6 bC i j k l d e
 obtain⟨f,q,r⟩:=CN (T:=T) (aB:=aB) (by rw [AM n o];exact d) e p (by omega) (by omega)
 rw [aI] at f
 refine⟨f,fun dX b c aZ h s t=>?_⟩
 obtain⟨f1,f2,f3⟩:=CN (T:=T) (aB:=aB) (by rw [AM aZ h];exact d) e t (by omega) (by omega)
 have dV:=bZ dX aZ h s
 rw [← f1] at dV
 rw [f] at q r
 have u:2 ^ (T+6)=2*2 ^ (T+5):=by rw [← Nat.pow_succ']
 rw [u] at dV
 have v:0 < 2 ^ (T+5):=Nat.pow_pos (by decide)
 generalize 2 ^ (T+5)=dH at *
 generalize e4 (iO m R aB) (S*dG aB)=g at *
 generalize e4 (iO dX R aB) (c*dG aB)=w at *
 refine Nat.lt_of_mul_lt_mul_right (a:=dH) ?_
 omega
theorem AN{L R m S aE aV aF:Nat}{up:Bool}(bC:oG L R m S up)(x:L < 53)(y:R < 1036)(z:320≤aE)(A:aE≤400)(B:2 ^ L≤m)(i:m≤2 ^ (L+1) - 1)(C:q5 m R aE aV aF):
  ∃ g dY j:Nat,1200≤g∧g≤1401∧dY=g+aE - 1401∧j=g+aE - 1400∧nN 1400 (m*2 ^ (R+1337)) S=1401 - (g:Int)∧2 ^ dY < aV∧aV < 2 ^ j:=by
 obtain⟨T,d⟩:∃ T,T=L+1+R - 64:=⟨_,rfl⟩
 obtain⟨aB,k⟩:∃ aB,aB=aE+(T+4):=⟨_,rfl⟩
 obtain⟨aI,_⟩:=G6 bC x y z A d k
 obtain⟨l,e,f⟩:=CN (T:=T) (aB:=aB) (by rw [AM B i];exact d) k C (by omega) (by omega)
 have o:=M5 (T:=T) d i (show 64≤R+aB by omega) (by omega)
 rw [aI] at l o
 rw [l] at e f
 obtain⟨c,aH,t,Pw,bM,Px,D⟩:=bC.M6
 obtain⟨n,Py⟩:∃ n,n=3000:=⟨_,rfl⟩
 obtain⟨p,E,F,H⟩:=MX D
 unfold nN
 have q:0 < 2 ^ (4400 - aB):=Nat.pow_pos (by decide)
 have I:0 < 2 ^ n:=Nat.pow_pos (by decide)
 obtain⟨Pz,r,PA,f1,f2,f3,f4⟩:=M9 (aB:=aB) (v:=1400)
 rw [show 4400 - 1400=n by omega] at f3 f4
 have J:iO m R aB*2 ^ (4400 - aB)=m*2 ^ (R+1337)*2 ^ n:=by
  unfold iO
  rw [M8,CR,show R+aB - 64+1+(4400 - aB)=R+1337+n by omega]
 have rel:=MZ (S:=S) q I J f1 f2 f3 f4
 have s:S*(2 ^ (4400 - aB)+2 ^ n)+2 ^ (4401 - aE)≤2 ^ c*2 ^ n:=by
  have aZ:S*(2 ^ (4400 - aB)+2 ^ n)≤2 ^ T*(2 ^ (4400 - aB)+2 ^ n):=Nat.mul_le_mul_right _ o
  have aX:2 ^ T*(2 ^ (4400 - aB)+2 ^ n)=2 ^ (T+(4400 - aB))+2 ^ (T+n):=by rw [Nat.mul_add,← Nat.pow_add,← Nat.pow_add]
  rw [aX] at aZ
  have h:2 ^ (T+(4400 - aB))≤2 ^ (c+n - 2):=Nat.pow_le_pow_right (by decide) (by omega)
  have u:2 ^ (T+n)≤2 ^ (c+n - 2):=Nat.pow_le_pow_right (by decide) (by omega)
  have PB:2 ^ (4401 - aE)≤2 ^ (c+n - 2):=Nat.pow_le_pow_right (by decide) (by omega)
  have P:2 ^ c*2 ^ n=2 ^ (c+n - 2)*2 ^ 2:=by rw [← Nat.pow_add,← Nat.pow_add,show c+n - 2+2=c+n by omega]
  rw [P]
  generalize 2 ^ (c+n - 2)=PC at *
  generalize 2 ^ (T+(4400 - aB))=PD at *
  generalize 2 ^ (T+n)=PE at *
  generalize 2 ^ (4401 - aE)=PF at *
  generalize S*(2 ^ (4400 - aB)+2 ^ n)=PG at *
  omega
 have Q:2 ^ c≤2 ^ aH:=Nat.pow_le_pow_right (by decide) (by omega)
 have w:=M0 (V:=2 ^ (4401 - aE)) (cN:=2 ^ c) rel.1 rel.2 e f (by rw [← Nat.pow_add,show T+5+(4400 - aB)=4401 - aE by omega]) q s (Nat.le_trans Q F)
 clear rel s e f
 generalize e4 (m*2 ^ (R+1337)) (S*dG 1400)=G at *
 obtain⟨g,b,eE,PH⟩:=M1 E
 rw [p] at b
 have Pt:eB G=g+1:=by
  refine Nat.le_antisymm ?_ ?_
  ·rw [← b];exact G4 (Nat.le_add_right _ _)
  ·rw [← b,← p];exact G4 (Nat.sub_le _ _)
 have Pu:G+2 ^ c < 2 ^ (g+1):=by
  have:=h8.mp (Nat.le_of_eq b);exact this
 have e6:1200≤g:=by
  refine Nat.le_of_not_lt fun Pv=>?_
  have aZ:G < 2 ^ (g+1):=by omega
  have h:2 ^ (g+1)≤2 ^ aH:=Nat.pow_le_pow_right (by decide) (by omega)
  omega
 have eM:g≤1401:=by
  refine Nat.le_of_not_lt fun Pv=>?_
  have h:2 ^ t≤2 ^ g:=Nat.pow_le_pow_right (by decide) (by omega)
  have u:=Nat.sub_le G (2 ^ c)
  exact absurd (Nat.lt_of_lt_of_le (Nat.lt_of_le_of_lt (Nat.le_add_right _ _) H) (Nat.le_trans h (Nat.le_trans eE u))) (Nat.lt_irrefl _)
 refine⟨g,_,_,e6,eM,rfl,rfl,by rw [Pt];omega,?_,?_⟩
 ·refine Nat.lt_of_mul_lt_mul_right (a:=2 ^ (4401 - aE)) (Nat.lt_of_le_of_lt ?_ w.1)
  rw [← Nat.pow_add,show g+aE - 1401+(4401 - aE)=g+n by omega,Nat.pow_add]
  exact Nat.mul_le_mul_right _ eE
 ·refine Nat.lt_of_mul_lt_mul_right (a:=2 ^ (4401 - aE)) (Nat.lt_of_lt_of_le w.2 ?_)
  rw [← Nat.pow_add,show g+aE - 1400+(4401 - aE)=g+1+n by omega,Nat.pow_add]
  exact Nat.mul_le_mul_right _ (Nat.le_of_lt Pu)
theorem Na{a:M}{c l N:Nat}{Z:U}{aF:M→Nat→Nat→U→Prop}(r:cH b6 Z a c (D.aK N))(b:l=(D.aK N).length)
  (g:∀ a c K,bA Z K→cV b6 Z K a c (D.aK N)→aF a (D.aK N).length c K) :
  aY gV.id #[.slice a l c] Z fun v K=>aQ v fun a l c=>aF a l c K:=by
 refine cA (nD r b) fun v K ⟨S,aH⟩=>?_
 rw [D.e1] at aH
 exact aH.elim fun a c r=>g a c K S r
def CS(Z:U)(last m a L:Nat)(v:Value)(K:U):Prop:=
 bA Z K∧∃ bI N b c iM iN,mG last m a L bI N∧v=.tuple #[.slice b (D.aK bI).length c,.slice iM (D.aK N).length iN]∧cH b6 K b c (D.aK bI)∧cH b6 K iM iN (D.aK N)
theorem CT{Y:aD}{aX Z:U}{last m a L:Nat}{c3:M}{cR:Nat}(d:∀ v K,CS aX last m a L v K→Y v K)(e:bA aX Z)(f:cH b6 Z c3 cR (D.aK L))(g:mG last m a L L 0):
  aY gV.id #[.slice c3 (D.aK L).length cR] Z fun h b=>aQ h fun i j k=>aY gF.id #[.int .u64 0] b fun l n=>aQ l fun o p q=>Y (.tuple #[.slice i j k,.slice o p q]) n:=by
 refine Na f rfl fun aJ aG aZ b3 r=>?_
 refine kO (N:=0) rfl (by decide) fun bJ bG b c s=>?_
 exact d _ _ ⟨e.trans (b3.trans c),L,0,aJ,aG,bJ,bG,g,rfl,r.rd.aR c,s.rd⟩
theorem o4{n last:Nat}(d:last < 18446744073709551616)(Z:n≤b1*last+b1*2):fP n:=by
 obtain⟨aC,e⟩:∃ aC,aC=321:=⟨_,rfl⟩
 have b:b1 < 2 ^ aC:=Cr (by omega)
 have c:last+2 < 2 ^ 65:=by rw [show(2:Nat) ^ 65=36893488147419103232 by decide];omega
 have a:b1*(last+2) < 2 ^ (aC+65):=by rw [Nat.pow_add];exact Nat.mul_lt_mul'' b c
 rw [Nat.mul_add] at a
 exact vQ (S:=aC+65) (Nat.lt_of_le_of_lt Z a) (by omega)
theorem Nb:∀ (n:Nat) {last m a L:Nat} {Z:U} {y aJ bJ c3:M} {z aG bG cR:Nat},2*m+(if m < 2*a then 1 else 0)≤n→last < 18446744073709551616→m≤b1→a < m→L < m→
  cH b6 Z y z (D.aK last)→cH b6 Z aJ aG (D.aK m)→cH b6 Z bJ bG (D.aK a)→cH b6 Z c3 cR (D.aK L)→
  aY mA.id #[.slice y (D.aK last).length z,.slice aJ (D.aK m).length aG,.slice bJ (D.aK a).length bG,.slice c3 (D.aK L).length cR] Z (CS Z last m a L):=by
 intro n
 induction n with
 | zero=>intro last m a L Z y aJ bJ c3 z aG bG cR H c PB A i;omega
 | succ n bU=>
  intro last m a L Z y aJ bJ c3 z aG bG cR H c PB A i B f g l
  have sN:fP m:=o4 c (by omega)
  have I:fP a:=o4 c (by omega)
  have J:fP L:=o4 c (by omega)
  have PC:fP last:=lW c
  have Qv:a*last≤b1*last:=Nat.mul_le_mul_right last (by omega)
  have PD:fP (a*last):=o4 c (by omega)
  have PQ:fP (a*last+L):=o4 c (by omega)
  have PR:fP (L+a*last):=o4 c (by omega)
  refine mA.ok ?_
  unfold mA.t mA.aL.t
  refine eY (fun R=>?_) fun R=>?_
  ·have j:a=0:=oA.mp (by omega)
   exact CT (fun v K aH=>aH) (bA.refl _) l (by rw [j];exact IS i)
  have j:0 < a:=by
   rcases Nat.eq_zero_or_pos a with b | b
   ·exact absurd (show(((D.aK a).length:Nat):Int)=0 by rw [oA.mpr b];rfl) R
   ·exact b
  refine Fo (n:=1) rfl g rfl (by decide) I fun eA eF Qw e PS=>?_
  refine pT PS.rd rfl (f.aR e) rfl ?_
  refine b9 (fun o=>?_) fun p=>?_
  ·have o:m < 2*a:=by
    refine Nat.lt_of_not_le fun P=>?_
    have:¬ fA (a*2 ^ 1) m > 0:=by unfold fA;split <;> (try split) <;> omega
    exact this o
   rw [if_pos o] at H
   refine vR (g.aR e) rfl (B.aR e) rfl I PC fun bP bO PT q Q=>?_
   refine nG ((l.aR e).aR q) rfl Q.rd rfl J PD fun a7 a9 PU T V=>?_
   have r:=e.trans (q.trans T)
   refine tM V.rd rfl (f.aR r) rfl PR (by omega) fun b0 b2 bR bT PV Pt Pu PE=>?_
   have d:=r.trans Pt
   refine n3 (f.aR d) rfl (g.aR d) rfl fun PW PX PY k PF=>?_
   have C:=d.trans k
   refine cA (bU (last:=last) (m:=m) (a:=m - a) (L:=(L+a*last) % m) (by rw [if_neg (by omega)];omega) c PB (by omega) (Nat.mod_lt _ (by omega)) (B.aR C) (f.aR C) PF.rd (PE.rd.aR k)) fun v PG ⟨s,bI,N,PZ,P0,iM,iN,u,cW,E,rx⟩=>?_
   subst cW
   refine gE rfl (cF (bE rfl (cF (bE rfl (dR ?_)))))
   refine n3 ((B.aR C).aR s) rfl rx rfl fun P1 P2 fM h Pv=>?_
   exact⟨C.trans (s.trans h),bI,last - N,_,_,_,_,IT A u,rfl,E.aR h,Pv.rd⟩
  ·have p:¬ m < 2*a:=by
    intro P
    refine p ?_
    show fA (a*2 ^ 1) m > 0
    unfold fA;rw [if_neg (by omega),if_neg (by omega)];decide
   rw [if_neg p] at H
   refine vR (g.aR e) rfl (B.aR e) rfl I PC fun bP bO PT q Q=>?_
   refine nG Q.rd rfl ((l.aR e).aR q) rfl PD J fun a7 a9 PU T V=>?_
   have r:=e.trans (q.trans T)
   refine tM V.rd rfl (f.aR r) rfl PQ (by omega) fun b0 b2 bR bT PV Pt Pu PE=>?_
   have d:=r.trans Pt
   have P3:=IZ (last:=last) A i
   obtain⟨bH,w⟩:∃ bH,bH=(a*last+L) / m:=⟨_,rfl⟩
   rw [← w] at Pu P3 ⊢
   refine eY (fun R=>?_) fun R=>?_
   ·have F:bH=0:=oA.mp (by omega)
    exact CT (fun v K aH=>aH) d (l.aR d) (IU i (by rw [← w];exact F))
   have F:bH ≠ 0:=fun b=>R (show(((D.aK bH).length:Nat):Int)=0 by rw [oA.mpr b];rfl)
   refine tM (f.aR d) rfl (g.aR d) rfl sN (by omega) fun PW PX P1 P2 PY k PF Pv=>?_
   refine n3 ((g.aR d).aR k) rfl Pv.rd rfl fun P4 P5 PG s P6=>?_
   have P7:=d.trans (k.trans s)
   have bM:=IW (m:=m) j
   have fin:∀ {yF:M} {yG:Nat} {fM:U},bA PG fM→cH b6 fM yF yG (D.aK (kG m a))→
     mA.a0.t (CS Z last m a L) aJ (D.aK m).length aG bJ (D.aK a).length bG c3 (D.aK L).length cR b0 (D.aK bH).length b2 yF (D.aK (kG m a)).length yG fM:=by
    intro yF yG fM h dC
    have aF:=P7.trans h
    have q2:=f.aR aF
    have uC:=g.aR aF
    have nO:=l.aR aF
    have P8:=Pu.rd.aR ((k.trans s).trans h)
    unfold mA.a0.t
    refine nG nO rfl dC rfl J (o4 c (by omega)) fun e6 Qx Qy aI eE=>?_
    refine tM eE.rd rfl (uC.aR aI) rfl (o4 c (by omega)) (by omega) fun eM Qz gN QA QB bZ QC P9=>?_
    refine kO (N:=1) rfl (by decide) fun hA QD QE dV Qa=>?_
    have PH:=aI.trans (bZ.trans dV)
    refine n3 (P8.aR PH) rfl Qa.rd rfl fun QF QG QH fT Qb=>?_
    have Pw:=PH.trans fT
    refine cA (bU (last:=bH - 1) (m:=a) (a:=kG m a) (L:=(L+kG m a) % a) (by split <;> omega) (by omega) (by omega) bM (Nat.mod_lt _ j) Qb.rd (uC.aR Pw) (dC.aR Pw) (P9.rd.aR (dV.trans fT))) fun v QI ⟨Qc,bI,aC,PZ,P0,iM,iN,u,cW,E,Qd⟩=>?_
    subst cW
    refine gE rfl (cF (bE rfl (cF (bE rfl (dR ?_)))))
    have G:=Pw.trans Qc
    refine pT (nO.aR G) rfl E rfl ?_
    refine b9 (fun p=>?_) fun o=>?_
    ·have Qe:L≤bI:=by
      refine Nat.le_of_not_lt fun P=>?_
      have:¬ fA L bI≤0:=by unfold fA;rw [if_neg (by omega),if_neg (by omega)];decide
      exact this p
     exact CT (fun v K aH=>aH) (aF.trans G) (nO.aR G) (IX j i w F u Qe)
    ·have Qf:bI < L:=by
      refine Nat.lt_of_not_le fun P=>o ?_
      show fA L bI≤0
      unfold fA;split
      ·decide
      ·rw [if_pos (by omega)];decide
     have QJ:=u.le
     have x:=IY j A i w F u Qf
     have QK:(aC+1)*m≤b1*last+b1:=by
      have aZ:(aC+1)*m≤bH*m:=Nat.mul_le_mul_right m (by omega)
      have Qg:=Nat.div_mul_le_self (a*last+L) m
      rw [← w] at Qg
      omega
     have Qh:fP aC:=lW (by omega)
     have Qi:fP (aC+1):=lW (by omega)
     have Qj:fP ((aC+1)*m - L):=o4 c (by omega)
     refine kO (N:=1) rfl (by decide) fun QL QM QN Px Qk=>?_
     refine nG (Qd.aR Px) rfl Qk.rd rfl Qh (lW (by decide)) fun QO QP QQ PI Ql=>?_
     have Py:=G.trans (Px.trans PI)
     refine vR Ql.rd rfl (q2.aR Py) rfl Qi sN fun QR QS QT Pz u8=>?_
     refine n3 u8.rd rfl ((nO.aR Py).aR Pz) rfl fun QU QV QW PJ Qm=>?_
     have PK:=Py.trans (Pz.trans PJ)
     refine tM Qm.rd rfl (uC.aR PK) rfl Qj (by omega) fun QX QY QZ Q0 Q1 PL PM Q2=>?_
     have eK:=aF.trans (PK.trans PL)
     have Qn:rK ((aC+1)*m - L) a≤last:=x.le
     have PN:=E.aR ((Px.trans PI).trans (Pz.trans (PJ.trans PL)))
     refine b9 (fun Q3=>?_) fun Q4=>?_
     ·have Qo:((aC+1)*m - L) % a ≠ 0:=fun b=>by have:=oA.mpr b;omega
      have h2:rK ((aC+1)*m - L) a=((aC+1)*m - L) / a+1:=if_neg Qo
      rw [h2] at x Qn
      refine kO (N:=1) rfl (by decide) fun Q5 Q6 Q7 PA Qp=>?_
      refine nG (PM.rd.aR PA) rfl Qp.rd rfl (lW (by omega)) (lW (by decide)) fun Q8 Q9 Ra PO Qq=>?_
      unfold mA.bF.t
      exact⟨eK.trans (PA.trans PO),bI,_,_,_,_,_,x,rfl,PN.aR (PA.trans PO),Qq.rd⟩
     ·have Qr:((aC+1)*m - L) % a=0:=oA.mp (by omega)
      have h2:rK ((aC+1)*m - L) a=((aC+1)*m - L) / a:=if_pos Qr
      rw [h2] at x
      unfold mA.bF.t
      exact⟨eK,bI,_,_,_,_,_,x,rfl,PN,PM.rd⟩
   refine eY (fun R=>?_) fun R=>?_
   ·have b:m % a=0:=oA.mp (by omega)
    have es:kG m a=0:=if_pos b
    refine kO (N:=0) rfl (by decide) fun Qs Qt fM h Qu=>?_
    have:=fin h (yF:=Qs) (yG:=Qt) (by rw [es];exact Qu.rd)
    rw [es] at this;exact this
   ·have b:m % a ≠ 0:=fun b=>R (show(((D.aK (m % a)).length:Nat):Int)=0 by rw [oA.mpr b];rfl)
    have es:kG m a=a - m % a:=if_neg b
    have:=fin (bA.refl _) (yF:=P4) (yG:=P5) (by rw [es];exact P6.rd)
    rw [es] at this;exact this
theorem CU{aH:Nat}(bM:aH=320):2 ^ aH=b1:=by rw [bM];exact tW
theorem Nc{a c6:Nat}(sep:Sep a c6):c6≤a:=by
 have:=(sep 1 0 (by decide) (by decide)).2 (by omega)
 rw [Nat.zero_mul,Nat.zero_add,Nat.one_mul] at this;exact this
theorem Nd{R:Nat}(b:R < 1036):2 ^ (R+255)≤eQ R:=by
 have a:eQ R=q6 / 2 ^ (4144 - R):=rfl
 rw [a,Nat.le_div_iff_mul_le (Nat.pow_pos (by decide)),← Nat.pow_add,show R+255+(4144 - R)=4399 by omega]
 exact Nat.le_of_ble_eq_true (by kernel_rfl)
theorem Nf{L R m S:Nat}{up:Bool}(bC:oG L R m S up)(c:R < 1036)(Z:L+1+R≤64):m=2 ^ (L+1) - 1:=by
 obtain⟨aV,fZ⟩:=bC.fZ
 have aI:=fZ.l4
 have bZ:=fZ.l5
 have j:0 < 2 ^ 150:=Nat.pow_pos (by decide)
 have k:=Nc bC.sep
 have d:0 < eQ R:=by omega
 have lM:0 < 2 ^ (L+1):=Nat.pow_pos (by decide)
 have a:∀ n,n≤2 ^ (L+1) - 1→n*eQ R < b1:=by
  intro n l
  have aZ:n*eQ R < 2 ^ (L+1)*2 ^ (R+256):=Nat.mul_lt_mul'' (by omega) (CQ c)
  rw [← Nat.pow_add] at aZ
  obtain⟨aC,e⟩:∃ aC,aC=320:=⟨_,rfl⟩
  have b:2 ^ (L+1+(R+256))≤2 ^ aC:=Nat.pow_le_pow_right (by decide) (by omega)
  rw [CU e] at b
  exact Nat.lt_of_lt_of_le aZ b
 have o:=a m bZ
 have f:=a (2 ^ (L+1) - 1) (Nat.le_refl _)
 have g:=(fZ.le (2 ^ (L+1) - 1) 1 (by omega) (Nat.le_refl _) (Nat.le_refl _)).1 (by rw [Nat.one_mul];exact f)
 rw [Nat.one_mul] at g
 have b3:b1≤S*b1:=Nat.le_mul_of_pos_left b1 fZ.b3
 rcases fZ.eq with h | h
 ·have i:(2 ^ (L+1) - 1)*eQ R≤m*eQ R:=by omega
  have p:=Nat.le_of_mul_le_mul_right i d
  omega
 ·omega
theorem G7{N:Nat}(Z:N < b1):(b1 - N) % b1=hD N:=by
 rw [Au]
 split
 ·rename_i aX;rw [aX,Nat.sub_zero,Nat.mod_self]
 ·exact Nat.mod_eq_of_lt (by omega)
theorem Ng(a bY aP:Nat):(a % b1*aP+a % b1*bY % b1) % b1=((bY+aP)*a) % b1:=by
 rw [Nat.add_comm,Nat.mul_comm (a % b1) aP];exact Cy a bY aP
theorem G8(a bY aP:Nat):((hD (a % b1)*aP+hD (a % b1*bY % b1)) % b1+(bY+aP)*a) % b1=0:=by
 rw [Nat.add_comm (hD (a % b1)*aP),Nat.mul_comm (hD (a % b1)) aP];exact Cx a bY aP
theorem Nh{L R m S cU v N aP:Nat}{up:Bool}(bC:oG L R m S up)(n:L < 53)(o:R < 1036)(Z:64≤L+R)
  (c:mG (2 ^ L - 1) b1 (eQ R % b1) (eQ R % b1*2 ^ L % b1) v N) (d:mG (2 ^ L - 1) b1 (hD (eQ R % b1)) (hD (eQ R % b1*2 ^ L % b1)) cU aP):2 ^ L+(if cU < v then aP else N)=m:=by
 obtain⟨aV,fZ⟩:=bC.fZ
 have aI:=fZ.l4
 have bZ:=fZ.l5
 have e:=iB
 have p:0 < 2 ^ 150:=Nat.pow_pos (by decide)
 obtain⟨e6,eM,gN⟩:=oE n
 have sep:=bC.sep
 have A:b1≤2*(2 ^ L*eQ R):=by
  have aZ:2 ^ L*2 ^ (R+255)≤2 ^ L*eQ R:=Nat.mul_le_mul_left _ (Nd o)
  rw [← Nat.pow_add] at aZ
  obtain⟨aC,q⟩:∃ aC,aC=320:=⟨_,rfl⟩
  have g:2 ^ aC≤2 ^ (L+(R+255)+1):=Nat.pow_le_pow_right (by decide) (by omega)
  rw [CU q,Nat.pow_succ] at g
  omega
 have sD:∀ dX cS,2 ^ L≤dX→dX≤2 ^ (L+1) - 1→1≤cS→dX ≠ m→(dX*eQ R < cS*b1→aV+2 ^ 150+dX*eQ R≤cS*b1)∧(cS*b1≤dX*eQ R→cS*b1+(aV+2 ^ 150)≤dX*eQ R):=
  fun dX cS aZ g b r=>fZ.sD e6 (by omega) p sep aZ g b r
 have g5:=sep m S (by omega) (by omega)
 generalize 2 ^ 150=c6 at *
 have h:=c.eq
 have i:=d.eq
 obtain⟨O,rfl⟩:∃ O,m=2 ^ L+O:=⟨m - 2 ^ L,by omega⟩
 have s:=c.least O (by omega)
 have B:=d.least O (by omega)
 have C:=c.le
 have D:=d.le
 rw [Ng] at h s
 have k:=G8 (eQ R) (2 ^ L) aP
 have t:=G8 (eQ R) (2 ^ L) O
 rw [← i] at k
 have E:cU < b1:=by rw [i];exact Nat.mod_lt _ e
 have u:(hD (eQ R % b1)*O+hD (eQ R % b1*2 ^ L % b1)) % b1 < b1:=Nat.mod_lt _ e
 generalize (hD (eQ R % b1)*O+hD (eQ R % b1*2 ^ L % b1)) % b1=dH at *
 clear i c d
 have F:(cU≤aV∨v≤aV):=by
  rcases fZ.eq with w | w
  ·left
   have aZ:(2 ^ L+O)*eQ R < S*b1:=by
    refine Nat.lt_of_not_le fun x=>?_
    have:=g5.2 x;omega
   have:=Ay u t aZ
   omega
  ·right
   have:=Cz e (show S*b1≤(2 ^ L+O)*eQ R by omega)
   omega
 by_cases l:cU < v
 ·rw [if_pos l]
  refine Classical.byContradiction fun j=>?_
  have f:=fun cS b=>sD (2 ^ L+aP) cS (by omega) (by omega) b j
  have aZ:=Nat.div_add_mod (cU+(2 ^ L+aP)*eQ R) b1
  rw [k,Nat.add_zero] at aZ
  generalize y:(cU+(2 ^ L+aP)*eQ R) / b1=cS at *
  have z:2 ^ L*eQ R≤(2 ^ L+aP)*eQ R:=Nat.mul_le_mul_right _ (by omega)
  have b3:1≤cS:=by
   rcases Nat.eq_zero_or_pos cS with a | a
   ·rw [a,Nat.mul_zero] at aZ;omega
   ·exact a
  have f1:=f cS b3
  rw [Nat.mul_comm b1 cS] at aZ
  generalize (2 ^ L+aP)*eQ R=G at *
  generalize cS*b1=Q at *
  rcases Nat.eq_zero_or_pos cU with a | a
  ·have:=f1.2 (by omega);omega
  ·have:=f1.1 (by omega);omega
 ·rw [if_neg l]
  refine Classical.byContradiction fun j=>?_
  have f:=fun cS b=>sD (2 ^ L+N) cS (by omega) (by omega) b j
  have aZ:=Nat.div_add_mod ((2 ^ L+N)*eQ R) b1
  rw [← h] at aZ
  generalize y:(2 ^ L+N)*eQ R / b1=cS at *
  have z:2 ^ L*eQ R≤(2 ^ L+N)*eQ R:=Nat.mul_le_mul_right _ (by omega)
  rcases Nat.eq_zero_or_pos cS with a | a
  ·rw [a,Nat.mul_zero,Nat.zero_add] at aZ
   have f1:=(f 1 (Nat.le_refl _)).1
   rw [Nat.one_mul] at f1
   have H:v < b1:=by rw [h];exact Nat.mod_lt _ e
   have:=f1 (by omega)
   omega
  ·have f1:=(f cS a).2
   rw [Nat.mul_comm b1 cS] at aZ
   have:=f1 (by omega)
   omega
theorem inv_eq{R:Nat}(Z:AL (eQ R) R=true){dY aB aH:Nat}(aZ:dY=2*(R+320)+1)(a:aB=R+320)(bM:aH=64):2 ^ dY / dG aB / 2 ^ aH=eQ R:=by
 subst aZ;subst a;subst bM
 exact Nat.eq_of_beq_eq_true Z
theorem yH{Z:U}{aE:Nat}{bV:List Value}(aN:eC Z aE bV)(e:bV.length=3){a b c:Value}{aF:U→Prop}(g:∀ K,eC K aE [a,b,c]→cD aE Z K→aF K):
  cC Z ((⟨aE,0,none⟩:Addr).add 0) a fun aZ=>cC aZ ((⟨aE,0,none⟩:Addr).add 1) b fun d=>cC d ((⟨aE,0,none⟩:Addr).add 2) c aF:=by
 match bV,e with
 | [m,aJ,bJ],_=>
  refine j4 aN (by exact(by decide:0 < 3)) fun aZ f b3=>?_
  refine j4 f (by exact(by decide:1 < 3)) fun d h i=>?_
  refine j4 h (by exact(by decide:2 < 3)) fun j k l=>?_
  exact g j k ((b3.trans i).trans l)
theorem G9{d:U}{e f h:Int}{a:M}{l c:Nat}{i:TypeId}{c2:List Value}(j:c2.length=3){v:Value}(cW:v=.tuple #[.agg #[.int .u64 e,.slice a l c,.int .i64 f],.int .i64 h]){aF:Addr→Int→U→Prop}
  (g:∀ aE K,bA d K→d.size≤aE→eC K aE [.int .u64 e,.slice a l c,.int .i64 f]→aF ⟨aE,0,none⟩ h K) :
  cT v fun k=>cQ k fun m n=>eG m fun o=>cQ o fun p q=>aW .u64 p fun r=>cQ q fun s t=>aQ s fun u w x=>cQ t fun y z=>aW .i64 y fun A=>b5 z <| cQ n fun B C=>aW .i64 B fun D=>b5 C <|
   dN d i c2 fun b E=>cC E (b.add 0) (.int .u64 r) fun F=>cC F (b.add 1) (.slice u w x) fun G=>cC G (b.add 2) (.int .i64 A) fun H=>aF b D H:=by
 subst cW
 refine gE rfl (cF (e5 rfl (cF (bQ rfl (cF (bE rfl (cF (bQ rfl (dR (cF (bQ rfl (dR ?_))))))))))))
 refine eZ fun V I J=>?_
 refine yH I j fun P Q T=>?_
 exact g _ P (cD.aR J T (Nat.le_refl _)) (Nat.le_refl _) Q
theorem AO{L R m S:Nat}{up:Bool}{Z:U}{aS aM:Int}{f:TypeId}{c2:List Value}(bC:oG L R m S up)(h:L < 53)(i:R < 1036)(aX:aS=((L+1:Nat):Int))(aZ:aM=(R:Int) - 64)(j:c2.length=3){aF:Addr→Int→U→Prop}
  (g:∀ aE a c K,bA Z K→Z.size≤aE→eC K aE [.int .u64 (m:Int),.slice a (aK S).length c,.int .i64 (nN 1400 (m*2 ^ (R+1337)) S)]→cG K a c (aK S)→aF ⟨aE,0,none⟩ 0 K) :
  aY jY.id #[.int .i64 aS,.int .i64 aM] Z fun v k=>cT v fun l=>cQ l fun n o=>eG n fun p=>cQ p fun q r=>aW .u64 q fun s=>cQ r fun t u=>aQ t fun w x y=>cQ u fun z A=>aW .i64 z fun B=>b5 A <| cQ o fun C D=>aW .i64 C fun E=>b5 D <|
   dN k f c2 fun b F=>cC F (b.add 0) (.int .u64 s) fun G=>cC G (b.add 1) (.slice w x y) fun H=>cC H (b.add 2) (.int .i64 B) fun I=>aF b E I:=by
 subst aX;subst aZ
 have d:=Gx (L:=L) (R:=R) Z h i bC.pick (by rw [← bC.eK];exact bC.told)
 rw [← bC.eK] at d
 refine cA d fun v T d=>?_
 obtain⟨e,eA,eF,J,P⟩:=d
 exact G9 j J fun aE K cS Q aN=>g aE eA eF K (e.trans cS) (Nat.le_trans e.le Q) aN (P.eJ.aR cS)
theorem Ni{Z:U}{aS aM:Int}(g:aS < 1∨aS > 53∨aM < -64∨aM > 971):aY jY.id #[.int .i64 aS,.int .i64 aM] Z fun v K=>bA Z K∧v=.tuple #[.agg #[.int .u64 0,.slice none 0 0,.int .i64 0],.int .i64 1]:=by
 refine jY.ok ?_
 unfold jY.t jY.aL.t
 refine eZ fun f c d=>?_
 refine b9 (fun _=>?_) fun aZ=>?_
 ·refine yH c rfl fun e a b=>?_
  exact e3 a rfl (nX a rfl (e3 a rfl ⟨cD.aR d b (Nat.le_refl _),rfl⟩))
 refine b9 (fun _=>?_) fun f=>?_
 ·refine yH c rfl fun e a b=>?_
  exact e3 a rfl (nX a rfl (e3 a rfl ⟨cD.aR d b (Nat.le_refl _),rfl⟩))
 refine b9 (fun _=>?_) fun e=>?_
 ·refine yH c rfl fun e a b=>?_
  exact e3 a rfl (nX a rfl (e3 a rfl ⟨cD.aR d b (Nat.le_refl _),rfl⟩))
 refine b9 (fun _=>?_) fun h=>by omega
 ·refine yH c rfl fun e a b=>?_
  exact e3 a rfl (nX a rfl (e3 a rfl ⟨cD.aR d b (Nat.le_refl _),rfl⟩))
theorem Ha{Z:U}{aS aM:Int}{b:TypeId}{c2:List Value}(c:aS < 1∨aS > 53∨aM < -64∨aM > 971)(d:c2.length=3){aF:Addr→Int→U→Prop}
  (g:∀ aE K,bA Z K→eC K aE [.int .u64 0,.slice none 0 0,.int .i64 0]→aF ⟨aE,0,none⟩ 1 K) :
  aY jY.id #[.int .i64 aS,.int .i64 aM] Z fun v e=>cT v fun f=>cQ f fun h i=>eG h fun j=>cQ j fun k l=>aW .u64 k fun m=>cQ l fun n o=>aQ n fun p q r=>cQ o fun s t=>aW .i64 s fun u=>b5 t <| cQ i fun w x=>aW .i64 w fun y=>b5 x <|
   dN e b c2 fun a z=>cC z (a.add 0) (.int .u64 m) fun A=>cC A (a.add 1) (.slice p q r) fun B=>cC B (a.add 2) (.int .i64 u) fun C=>aF a y C:=by
 refine cA (Ni c) fun v F ⟨D,E⟩=>?_
 exact G9 d E fun aE K cS _ aN=>g aE K (D.trans cS) aN
theorem Nj{Y:aD}{aE:Nat}{Z:U}(aN:eC Z aE [.int .u64 0,.slice none 0 0,.int .i64 0])(g:Y (.bool true) Z):
  cond ((1:Int) == 1) (fG Z ((⟨aE,0,none⟩:Addr).add 0) fun a=>aW .u64 a fun b=>cond (b == 0) (fG Z ((⟨aE,0,none⟩:Addr).add 1) fun c=>aQ c fun h d i=>cond ((((d:Nat):Int)) == 0) (fG Z ((⟨aE,0,none⟩:Addr).add 2) fun e=>aW .i64 e fun f=>Y (.bool (f == 0)) Z) (Y (.bool false) Z)) (Y (.bool false) Z)) (Y (.bool false) Z):=by
 refine eY (fun _=>?_) fun R=>absurd rfl R
 refine e3 aN rfl ?_
 refine eY (fun _=>?_) fun R=>absurd rfl R
 refine nX aN rfl ?_
 refine eY (fun _=>?_) fun R=>absurd rfl R
 refine e3 aN rfl ?_
 exact g
theorem wK{L m:Nat}(a:L < 53)(aZ:2 ^ L≤m)(b:m≤2 ^ (L+1) - 1):eB m≤64∧m < 18446744073709551616:=by
 obtain⟨e6,eM,gN⟩:=oE a
 rw [AM aZ b];omega
theorem Nk{Y:aD}{Z:U}{L R m S aV aF bI:Nat}{up:Bool}{aE:Nat}{k l:Value}{d:M}{e:Nat}(bC:oG L R m S up)(b:L < 53)(f:R < 1036)(n:2 ^ L≤m)(o:m≤2 ^ (L+1) - 1)(p:q5 m R 400 aV aF)(x:bI < 18446744073709551616)(aN:eC Z aE [.int .u64 (m:Int),k,l])(q:cH b6 Z d e (D.aK aV))
  (g:∀ K,bA Z K→Y (.bool true) K):o5.b7.t Y ((R:Int) - 64) (bI:Int) ⟨aE,0,none⟩ ((2 ^ L:Nat):Int) d (D.aK aV).length e Z:=by
 obtain⟨e6,eM,gN⟩:=oE b
 have y:=Nat.mod_lt bI (show 0 < 2 ^ L by omega)
 unfold o5.b7.t
 refine⟨by omega,a5.mk ?_⟩
 rw [← Int.ofNat_tmod]
 refine dB (2 ^ L+bI % 2 ^ L) (by omega) (by omega) ?_
 have h:2 ^ L≤2 ^ L+bI % 2 ^ L:=Nat.le_add_right _ _
 have i:2 ^ L+bI % 2 ^ L≤2 ^ (L+1) - 1:=by omega
 generalize 2 ^ L+bI % 2 ^ L=dX at *
 obtain⟨aM,r⟩:=wK b h i
 refine wG (aE:=400) rfl r f (by decide) (by decide) aM rfl rfl fun j cS a c z dF aZ s b3 u A=>?_
 refine e3 (aN.aR b3) rfl ?_
 refine eY (fun _=>g aZ b3) fun v=>?_
 refine pT u rfl (q.aR b3) rfl ?_
 have B:=(wJ bC b f (by decide) (by decide) n o p).2 dX j cS h i (fun R=>v (by rw [R])) s
 have w:decide (fA j aV > 0)=true:=by
  refine decide_eq_true ?_
  unfold fA;split <;> (try split) <;> omega
 rw [w];exact g aZ b3
theorem Nl{N aP bI:Int}{Z:U}(G:-9223372036854775808≤N∧N < 9223372036854775808)(H:-9223372036854775808≤aP∧aP < 9223372036854775808)(I:0≤bI∧bI < 18446744073709551616):
  aY o5.id #[.int .i64 N,.int .i64 aP,.int .u64 bI] Z fun v K=>bA Z K∧v=.bool true:=by
 refine o5.ok ?_
 unfold o5.t o5.aL.t
 refine yA fun aZ b3=>?_
 refine jL (fun R=>by cases R) fun _=>?_
 by_cases x:N < 1∨N > 53∨aP < -64∨aP > 971
 ·refine Ha x rfl fun aE y p b=>?_
  have fin:=Nj (Y:=fun v K=>bA Z K∧v=.bool true) b ⟨b3.trans p,rfl⟩
  refine b9 (fun _=>fin) fun dY=>?_
  refine b9 (fun _=>fin) fun q=>?_
  refine b9 (fun _=>fin) fun J=>?_
  exact b9 (fun _=>fin) fun P=>by omega
 ·obtain⟨L,rfl⟩:∃ L:Nat,N=((L+1:Nat):Int):=⟨(N - 1).toNat,by omega⟩
  obtain⟨R,rfl⟩:∃ R:Nat,aP=(R:Int) - 64:=⟨(aP+64).toNat,by omega⟩
  obtain⟨bI,rfl⟩:∃ n:Nat,bI=(n:Int):=⟨bI.toNat,by omega⟩
  have e:L < 53:=by omega
  have h:R < 1036:=by omega
  obtain⟨m,S,up,bC⟩:=bin e h
  obtain⟨d0,fZ⟩:=bC.fZ
  have k:=fZ.l4
  have l:=fZ.l5
  obtain⟨e6,eM,gN⟩:=oE e
  refine AO bC e h rfl rfl rfl fun aE a c y p Q b z=>?_
  refine b9 (fun n=>by omega) fun _=>?_
  refine b9 (fun n=>by omega) fun _=>?_
  refine b9 (fun n=>by omega) fun _=>?_
  refine b9 (fun n=>by omega) fun _=>?_
  unfold o5.a0.t
  refine cO (L:Int) (by omega) (by omega) (by omega) ?_
  refine⟨by omega,a5.mk ?_⟩
  rw [tX L (by omega)]
  refine jK (fun R=>absurd rfl R) fun _=>?_
  refine e3 b rfl ?_
  refine b9 (fun n=>by omega) fun _=>?_
  refine e3 b rfl ?_
  refine dB (2*2 ^ L) (by omega) (by omega) ?_
  refine b9 (fun n=>by omega) fun _=>?_
  unfold o5.bF.t
  refine e3 b rfl ?_
  obtain⟨aM,A⟩:=wK e k l
  refine wG (aE:=400) rfl A h (by decide) (by decide) aM rfl rfl fun aV aF c3 cR eA eF T r f s B=>?_
  obtain⟨C,_⟩:=wJ bC e h (aE:=400) (by decide) (by decide) k l r
  obtain⟨g,dY,q,V,Pt,Pu,Pv,u,Pw,Px⟩:=AN bC e h (aE:=400) (by decide) (by decide) k l r
  refine Ab B rfl fun bP bO Py d w=>?_
  rw [C] at w ⊢
  refine⟨fV d (Nat.le_refl _),(b.aR f).zQ 1,nX ((b.aR f).aR d) rfl ?_⟩
  refine p8 w.eJ ((z.aR f).aR d) rfl rfl ?_
  refine jL (fun R=>by cases R) fun _=>?_
  have i:=(b.aR f).aR d
  rw [u] at i b
  clear u
  refine⟨(b.aR f).zQ 2,e3 i rfl ?_⟩
  refine b9 (fun n=>by omega) fun _=>?_
  refine⟨(b.aR f).zQ 2,e3 i rfl ?_⟩
  refine b9 (fun n=>by omega) fun _=>?_
  unfold o5.cE.t
  refine e3 i rfl ?_
  refine cO ((dY:Nat):Int) (by omega) (by omega) (by omega) ?_
  refine p1 rfl (by omega) fun a7 a9 Pz j D=>?_
  refine pT ((s.aR d).aR j) rfl D.rd rfl ?_
  have aG:fA aV (2 ^ dY)=1:=by unfold fA;rw [if_neg (by omega),if_neg (by omega)]
  rw [aG]
  refine b9 (fun n=>absurd n (by decide)) fun _=>?_
  refine e3 (i.aR j) rfl ?_
  refine cO ((q:Nat):Int) (by omega) (by omega) (by omega) ?_
  refine p1 rfl (by omega) fun b0 b2 PA o E=>?_
  refine pT (((s.aR d).aR j).aR o) rfl E.rd rfl ?_
  have bG:fA aV (2 ^ q)=-1:=by unfold fA;rw [if_pos (by omega)]
  rw [bG]
  refine b9 (fun n=>absurd n (by decide)) fun _=>?_
  refine Nk bC e h k l r (by omega) ((i.aR j).aR o) (((s.aR d).aR j).aR o) fun PB F=>?_
  exact⟨b3.trans (p.trans (f.trans (d.trans (j.trans (o.trans F))))),rfl⟩
theorem Hb{a:M}{c l N:Nat}{Z:U}{aF:Int→Bool→U→Prop}(r:cH b6 Z a c (D.aK N))(b:l=(D.aK N).length)(d:N < 18446744073709551616)(g:∀ K,bA Z K→aF (N:Int) true K):
  aY qL.id #[.slice a l c] Z fun v K=>cT v fun aP=>cQ aP fun e eH=>aW .u64 e fun bI=>cQ eH fun f h=>eS f fun L=>b5 h (aF bI L K):=by
 refine cA (Jq r b) fun v K ⟨S,t⟩=>?_
 have R:BQ N=((N:Int),true):=if_pos d
 rw [R] at t
 obtain⟨_,_,i,⟨j,_⟩,k⟩:=t
 subst i;subst j;subst k
 exact gE rfl (cF (bQ rfl (cF (c5 rfl (dR (g K S))))))
theorem Nm{O:Nat}(Z:O < 1000):eX.take O ++ [eX.getD O 0]=eX.take (O+1):=by
 have a:O < eX.length:=by rw [p2];exact Z
 rw [List.take_add_one,List.getElem?_eq_getElem a,List.getD,List.getElem?_eq_getElem a];rfl
theorem Hc{S O:Nat}{T:List Nat}(a:S≤1000)(Z:O < S):(eX.take S ++ T).getD O 0=eX.getD O 0:=by
 have aZ:O < (eX.take S).length:=by rw [l8 a];exact Z
 rw [List.getD,List.getElem?_append_left aZ,List.getElem?_take,if_pos Z];rfl
theorem Nn{Y:aD}{bX:Int→Int→U→Prop}{d:U}{S:Nat}{l:Int}(j:S≤1000){bP a7:M}{bO a9:Nat}{e f:List jP}{uH uI:List Nat}(m:cH oL d bP bO e)(v:cH oL d a7 a9 f)(d5:lP d bP e (eX.take S ++ uH))(d6:lP d a7 f (eX.take S ++ uI))(w:uH ≠ [])(x:uI ≠ [])
  (y:∀ a c K,bA d K→cV dP d K a c (eX.take S)→Y (.slice a S c) K) :
  ∀ (n O:Nat) {b0:M} {b2:Nat} {Z:U},O+n=S→bA d Z→cV dP d Z b0 b2 (eX.take O)→
   kQ.fS.t Y bX (n+1) (S:Int) l bP e.length bO a7 f.length a9 b0 O b2 (O:Int) Z:=by
 have D:S+1≤e.length:=by
  rw [d5.len,List.length_append,l8 j]
  have:=List.length_pos_iff.mpr w;omega
 have E:S+1≤f.length:=by
  rw [d6.len,List.length_append,l8 j]
  have:=List.length_pos_iff.mpr x;omega
 intro n
 induction n with
 | zero=>
  intro O b0 b2 Z a4 b g
  have R:O=S:=by omega
  subst R
  have fin:kQ.b7.t Y bX (O:Int) l b0 O b2 Z:=by
   unfold kQ.b7.t
   exact eY (fun _=>y b0 b2 Z b g) fun R=>absurd rfl R
  unfold kQ.fS.t kQ.eW.t
  refine cO ((O+1:Nat):Int) (by omega) (by omega) (by omega) ?_
  refine b9 (fun _=>?_) fun _=>fin
  refine cO ((O+1:Nat):Int) (by omega) (by omega) (by omega) ?_
  refine b9 (fun _=>?_) fun _=>fin
  exact b9 (fun h=>by omega) fun _=>fin
 | succ n bU=>
  intro O b0 b2 Z a4 b g
  have o:O < S:=by omega
  have p:=Hc (T:=uH) j o
  have z:=Hc (T:=uI) j o
  have q:O < (eX.take S ++ uH).length:=by have:=d5.len;omega
  have A:O < (eX.take S ++ uI).length:=by have:=d6.len;omega
  have r:=AJ (show O < 1000 by omega)
  unfold kQ.fS.t kQ.eW.t
  refine cO ((O+1:Nat):Int) (by omega) (by omega) (by omega) ?_
  refine b9 (fun _=>?_) fun h=>absurd (show((O+1:Nat):Int) < (e.length:Int) by omega) h
  refine cO ((O+1:Nat):Int) (by omega) (by omega) (by omega) ?_
  refine b9 (fun _=>?_) fun h=>absurd (show((O+1:Nat):Int) < (f.length:Int) by omega) h
  refine b9 (fun _=>?_) fun h=>by omega
  refine CJ (d5.aR b) (m.aR b) rfl rfl q fun aJ aG i=>?_
  refine CJ (d6.aR b) (v.aR b) rfl rfl A fun bJ bG s=>?_
  rw [p] at i ⊢
  rw [z] at s ⊢
  refine pT i rfl s rfl ?_
  refine eY (fun _=>?_) fun B=>absurd (by simp [fA]) B
  unfold kQ.gK.t
  refine CJ (d5.aR b) (m.aR b) rfl rfl q fun aJ aG i=>?_
  rw [p] at i ⊢
  refine Hb i rfl r.2 fun aZ b3=>?_
  have k:(eX.take O).length=O:=l8 (by omega)
  refine BJ (g.aR b3) (b.trans b3) k.symm rfl r.2 (by rw [k];omega) (by rw [k];omega) fun c3 cR F u C _=>?_
  rw [Nm (by omega)] at u
  rw [k]
  refine cO ((O+1:Nat):Int) (by omega) (by omega) (by omega) ?_
  exact bU (O+1) (by omega) C u
theorem Hd{S:Nat}{O:Int}{Z:U}(a4:O=(S:Int))(aZ:1≤S)(e:S≤1000){aF:M→Nat→Nat→U→Prop}(g:∀ a c K,bA Z K→cV dP Z K a c (eX.take S)→aF a S c K):
  aY kQ.id #[.int .i64 O] Z fun v K=>aQ v fun a l c=>aF a l c K:=by
 subst a4
 refine cA (c6:=fun v K=>bA Z K∧∃ a c,v=.slice a S c∧cV dP Z K a c (eX.take S)) ?_ fun v K ⟨b3,a,c,R,r⟩=>by subst R;exact bE rfl (g a c K b3 r)
 refine kQ.ok ?_
 unfold kQ.t kQ.aL.t
 refine cO ((4*S:Nat):Int) (by omega) (by omega) (by omega) ?_
 refine cO ((4*S+64:Nat):Int) (by omega) (by omega) (by omega) ?_
 refine⟨1,?_⟩
 unfold kQ.dA.t kQ.cE.t
 have q:4*S+64 < 4200:=by omega
 have f:4*S+64+1≤35184372088832:=by omega
 have s:4*S+64+1+1≤32000000:=by omega
 have h:S+2≤2000:=by omega
 obtain⟨⟨uH,u,w⟩,⟨uI,x,y⟩⟩:=My aZ e
 have i:fP (dG (4*S+64)):=kW (r2 (aB:=4*S+64) (by omega) (Nat.le_add_right _ _))
 have z:fP (dG (4*S+64)+1):=kW (r2 (aB:=4*S+64) (by omega) (by omega))
 have j:fP (2 ^ (4*S+64+1)):=vQ (S:=4*S+64+1+1) (Nat.pow_lt_pow_right (by decide) (by omega)) s
 refine Al rfl q fun aJ aG aZ b3 k=>?_
 refine cO ((4*S+64+1:Nat):Int) (by omega) (by omega) (by omega) ?_
 refine p1 rfl f fun bJ bG e b A=>?_
 refine cO ((S+2:Nat):Int) (by omega) (by omega) (by omega) ?_
 refine GY (k.rd.aR b) A.rd rfl rfl rfl h i j fun c3 cR J P m B d3=>?_
 refine kO (N:=1) rfl (by decide) fun eA eF Q n C=>?_
 refine nG (k.rd.aR (b.trans (m.trans n))) rfl C.rd rfl i (lW (by decide)) fun bP bO T D E=>?_
 refine cO ((4*S+64+1:Nat):Int) (by omega) (by omega) (by omega) ?_
 refine p1 rfl f fun a7 a9 V o F=>?_
 refine cO ((S+2:Nat):Int) (by omega) (by omega) (by omega) ?_
 refine GY (E.rd.aR o) F.rd rfl rfl rfl h z j fun b0 b2 Pt Pu G H d7=>?_
 rw [w] at d3
 rw [y] at d7
 have d:=n.trans (D.trans (o.trans G))
 unfold kQ.c8.t
 refine⟨S+1,Nn (by omega) (B.aR d) H (d3.aR d) d7 u x (fun a c K eK I=>?_) S 0 (by omega) (bA.refl _) (by rw [List.take_zero];exact cV.nil _ _)⟩
 have p:=b3.trans (b.trans (m.trans d))
 exact⟨p.trans eK,a,c,rfl,I.from p.le⟩
theorem No{n:Nat}{O:Int}{Z:U}(a4:O=(n:Int))(aZ:1≤n)(d:n≤1000){aF:M→Nat→Nat→Int→U→Prop}(g:∀ a c K,bA Z K→cV dP Z K a c (eX.take n)→aF a n c 0 K):
  aY oH.id #[.int .i64 O] Z fun v K=>cT v fun aP=>cQ aP fun e eH=>aQ e fun a l c=>cQ eH fun f h=>aW .i64 f fun N=>b5 h (aF a l c N K):=by
 subst a4
 refine cA (c6:=fun v K=>bA Z K∧∃ a c,v=.tuple #[.slice a n c,.int .i64 0]∧cV dP Z K a c (eX.take n)) ?_ fun v K ⟨b3,a,c,R,r⟩=>by
  subst R;exact gE rfl (cF (bE rfl (cF (bQ rfl (dR (g a c K b3 r))))))
 refine oH.ok ?_
 unfold oH.t oH.aL.t
 refine b9 (fun b=>absurd b (by omega)) fun _=>?_
 refine b9 (fun b=>absurd b (by omega)) fun _=>?_
 unfold oH.a0.t
 exact Hd rfl aZ d fun a c K S r=>⟨S,a,c,rfl,r⟩
theorem Np{O:Int}{Z:U}(a4:O < 1∨O > 1000){aF:M→Nat→Nat→Int→U→Prop}(g:aF none 0 0 1 Z):
  aY oH.id #[.int .i64 O] Z fun v K=>cT v fun aP=>cQ aP fun d eH=>aQ d fun a l c=>cQ eH fun e f=>aW .i64 e fun N=>b5 f (aF a l c N K):=by
 refine cA (c6:=fun v K=>K=Z∧v=.tuple #[.slice none 0 0,.int .i64 1]) ?_ fun v K ⟨h,i⟩=>by
  subst h;subst i;exact gE rfl (cF (bE rfl (cF (bQ rfl (dR g)))))
 refine oH.ok ?_
 unfold oH.t oH.aL.t
 refine b9 (fun b=>⟨rfl,rfl⟩) fun b=>?_
 exact b9 (fun b=>⟨rfl,rfl⟩) fun j=>by omega
theorem Nq{Y:aD}{aX:U}{n:Nat}(l:n≤1000){gC:M}{gG:Nat}(A:cG aX gC gG (eX.take n))(B:∀ a c L aV K,bA aX K→cV dP aX K a c (aK (eI n).P)→cV dP aX K L aV (aK (eI n).Y)→Y (.tuple #[.slice a (aK (eI n).P).length c,.slice L (aK (eI n).Y).length aV,.int .i64 0]) K):
  ∀ (m O:Nat) {bP a7 b0 bR:M} {bO a9 b2 bT:Nat} {Z:U},O+m=n→bA aX Z→
   cH b6 Z bP bO (D.aK (eI O).P)→cH b6 Z a7 a9 (D.aK (eI O).Y)→cH b6 Z b0 b2 (D.aK (eI O).gT)→cH b6 Z bR bT (D.aK (eI O).gZ)→
   kR.dW.t Y (m+1) bP (D.aK (eI O).P).length bO a7 (D.aK (eI O).Y).length a9 b0 (D.aK (eI O).gT).length b2 bR (D.aK (eI O).gZ).length bT gC n gG (n:Int) (O:Int) Z:=by
 intro m
 induction m with
 | zero=>
  intro O bP a7 b0 bR bO a9 b2 bT Z a4 b e f o p
  unfold kR.dW.t kR.c8.t
  refine b9 (fun q=>by omega) fun _=>?_
  unfold kR.bF.t
  have R:O=n:=by omega
  subst R
  refine Ab e rfl fun aJ aG aZ b3 C=>?_
  refine Ab (f.aR b3) rfl fun bJ bG E d F=>?_
  exact B _ _ _ _ _ (b.trans (b3.trans d)) ((C.aR d).from b.le) (F.from (b.trans b3).le)
 | succ m bU=>
  intro O bP a7 b0 bR bO a9 b2 bT Z a4 b e f o p
  unfold kR.dW.t kR.c8.t
  refine b9 (fun q=>?_) fun q=>by omega
  have G:O < (eX.take n).length:=by rw [l8 l];omega
  have H:(eX.take n).getD O 0=eX.getD O 0:=by simp [List.getD,show O < n by omega]
  refine fX (A.aR b) (aC:=O) rfl (l8 l).symm G ?_
  rw [H]
  have g:=(AJ (show O < 1000 by omega)).2
  obtain⟨I,s2,hN,w8⟩:=AI (n:=O) (by omega)
  obtain⟨t1,t2,t3,t4⟩:=AI (n:=O+1) (by omega)
  have h:=CH (show O < 1000 by omega)
  have r:(eI (O+1)).P=eX.getD O 0*(eI O).P+(eI O).gT:=by rw [h];rfl
  have s:(eI (O+1)).Y=eX.getD O 0*(eI O).Y+(eI O).gZ:=by rw [h];rfl
  have u:(eI (O+1)).gT=(eI O).P:=by rw [h];rfl
  have v:(eI (O+1)).gZ=(eI O).Y:=by rw [h];rfl
  have J:fP (eX.getD O 0*(eI O).P):=rX (by rw [r];exact Nat.le_add_right _ _) (kW t1)
  have Q:fP (eX.getD O 0*(eI O).Y):=rX (by rw [s];exact Nat.le_add_right _ _) (kW t3)
  refine kO rfl g fun aJ aG aZ b3 eE=>?_
  refine vR eE.rd rfl (e.aR b3) rfl (lW g) (kW I) fun bJ bG E d T=>?_
  refine nG T.rd rfl ((o.aR b3).aR d) rfl J (kW s2) fun c3 cR Pw V w=>?_
  refine kO rfl g fun eA eF Px x Pt=>?_
  have i:=b3.trans (d.trans (V.trans x))
  refine vR Pt.rd rfl (f.aR i) rfl (lW g) (kW hN) fun Py Pz PA j Pu=>?_
  refine nG Pu.rd rfl ((p.aR i).aR j) rfl Q (kW w8) fun PB PC PD y z=>?_
  have Pv:=x.trans (j.trans y)
  have k:=i.trans (j.trans y)
  rw [← r] at w ⊢
  rw [← s] at z ⊢
  refine cO ((O+1:Nat):Int) (by omega) (by omega) (by omega) ?_
  have:=bU (O+1) (by omega) (b.trans k) (w.rd.aR Pv) z.rd (by rw [u];exact e.aR k) (by rw [v];exact f.aR k)
  rw [u,v] at this
  exact this
theorem Nr{S:Nat}{O:Int}{Z:U}(a4:O=(S:Int))(A:S < 1000){aF:M→Nat→Nat→M→Nat→Nat→Int→U→Prop}
  (g:∀ a c L aV K,bA Z K→cG K a c (aK (eI (S+1)).P)→cG K L aV (aK (eI (S+1)).Y)→aF a (aK (eI (S+1)).P).length c L (aK (eI (S+1)).Y).length aV 0 K) :
  aY kR.id #[.int .i64 O] Z fun v K=>cT v fun aP=>cQ aP fun i eH=>aQ i fun a l c=>cQ eH fun j k=>aQ j fun L m aV=>cQ k fun o p=>aW .i64 o fun N=>b5 p (aF a l c L m aV N K):=by
 subst a4
 refine cA (c6:=fun v K=>bA Z K∧∃ a c L aV,v=.tuple #[.slice a (aK (eI (S+1)).P).length c,.slice L (aK (eI (S+1)).Y).length aV,.int .i64 0]∧cG K a c (aK (eI (S+1)).P)∧cG K L aV (aK (eI (S+1)).Y)) ?_ fun v K ⟨b3,a,c,L,aV,R,r,aH⟩=>by
  subst R;exact gE rfl (cF (bE rfl (cF (bE rfl (cF (bQ rfl (dR (g a c L aV K b3 r aH))))))))
 refine kR.ok ?_
 unfold kR.t kR.aL.t
 refine b9 (fun e=>absurd e (by omega)) fun _=>?_
 refine b9 (fun e=>absurd e (by omega)) fun _=>?_
 unfold kR.a0.t
 refine kO (N:=1) rfl (by decide) fun bP bO B q s=>?_
 refine kO (N:=0) rfl (by decide) fun a7 a9 C h u=>?_
 refine kO (N:=0) rfl (by decide) fun b0 b2 D f w=>?_
 refine kO (N:=1) rfl (by decide) fun bR bT E d x=>?_
 unfold kR.cE.t
 refine cO ((S+1:Nat):Int) (by omega) (by omega) (by omega) ?_
 refine Hd (S:=S+1) rfl (by omega) (by omega) fun F G y b z=>?_
 refine⟨S+1+1,?_⟩
 have eK:=q.trans (h.trans (f.trans (d.trans b)))
 refine Nq (aX:=y) (n:=S+1) (by omega) z.eJ (fun a c L aV K b3 r aH=>?_) (S+1) 0 (by omega) (bA.refl _) (s.rd.aR (h.trans (f.trans (d.trans b)))) (u.rd.aR (f.trans (d.trans b))) (w.rd.aR (d.trans b)) (x.rd.aR b)
 exact⟨eK.trans b3,a,c,L,aV,rfl,r.eJ,aH.eJ⟩
theorem Ns{O:Int}{Z:U}(a4:O < 0∨O≥1000){aF:M→Nat→Nat→M→Nat→Nat→Int→U→Prop}(g:aF none 0 0 none 0 0 1 Z):
  aY kR.id #[.int .i64 O] Z fun v K=>cT v fun aP=>cQ aP fun d eH=>aQ d fun a l c=>cQ eH fun e f=>aQ e fun L m aV=>cQ f fun h i=>aW .i64 h fun N=>b5 i (aF a l c L m aV N K):=by
 refine cA (c6:=fun v K=>K=Z∧v=.tuple #[.slice none 0 0,.slice none 0 0,.int .i64 1]) ?_ fun v K ⟨j,k⟩=>by
  subst j;subst k;exact gE rfl (cF (bE rfl (cF (bE rfl (cF (bQ rfl (dR g)))))))
 refine kR.ok ?_
 unfold kR.t kR.aL.t
 refine b9 (fun b=>⟨rfl,rfl⟩) fun b=>?_
 exact b9 (fun b=>⟨rfl,rfl⟩) fun n=>by omega
theorem Nt{O:Int}{Z:U}(a4:O < 1∨O > 1000){aF:M→Nat→Nat→Int→U→Prop}(g:∀ K,bA Z K→aF none 0 0 1 K):
  aY mV.id #[.int .i64 O] Z fun v K=>cT v fun aP=>cQ aP fun d eH=>aQ d fun a l c=>cQ eH fun e f=>aW .i64 e fun N=>b5 f (aF a l c N K):=by
 refine cA (c6:=fun v K=>K=Z∧v=.tuple #[.slice none 0 0,.int .i64 1]) ?_ fun v K ⟨h,i⟩=>by
  subst h;subst i;exact gE rfl (cF (bE rfl (cF (bQ rfl (dR (g _ (bA.refl _)))))))
 refine mV.ok ?_
 unfold mV.t mV.aL.t
 refine b9 (fun b=>⟨rfl,rfl⟩) fun b=>?_
 exact b9 (fun b=>⟨rfl,rfl⟩) fun j=>by omega
theorem AP{a L:M}{c aV:Nat}{Z:U}{aF:Bool→Prop}(g:aF true):nB kI.id #[.slice a 0 c,.slice L 0 aV] Z fun v=>eS v aF:=
 p8 (aA:=[]) (cG.nil _ _ _) (cG.nil _ _ _) rfl rfl g
theorem Nu{N bI:Int}{Z:U}(g:-9223372036854775808≤N∧N < 9223372036854775808):aY jZ.id #[.agg #[.int .i64 1,.int .i64 N,.int .i64 bI]] Z fun v K=>bA Z K∧v=.bool true:=by
 refine jZ.ok ?_
 unfold jZ.t jZ.aL.t
 refine eZ fun aZ b b3=>?_
 refine e3 b rfl ?_
 refine eY (fun _=>?_) fun R=>absurd rfl R
 refine e3 b rfl ?_
 by_cases h:1≤N∧N≤1000
 ·obtain⟨n,rfl⟩:∃ n:Nat,N=(n:Int):=⟨N.toNat,by omega⟩
  refine Mt rfl (by omega) (by omega) fun bJ bG d a e=>?_
  refine e3 (b.aR a) rfl ?_
  refine No rfl (by omega) (by omega) fun c3 cR i c f=>?_
  refine p8 (e.eJ.aR c) f.eJ (l8 (by omega)).symm (l8 (by omega)).symm ?_
  exact⟨b3.trans (a.trans c),rfl⟩
 ·refine Nt (by omega) fun d a=>?_
  refine e3 (b.aR a) rfl ?_
  refine Np (by omega) ?_
  refine AP ?_
  exact⟨b3.trans a,rfl⟩
theorem Nv{N bI:Int}{Z:U}(f:-9223372036854775808≤N∧N < 9223372036854775808):aY jZ.id #[.agg #[.int .i64 2,.int .i64 N,.int .i64 bI]] Z fun v K=>bA Z K∧v=.bool true:=by
 refine jZ.ok ?_
 unfold jZ.t jZ.aL.t
 refine eZ fun aZ a b3=>?_
 refine e3 a rfl ?_
 refine eY (fun R=>absurd R (by decide)) fun _=>?_
 refine eY (fun _=>?_) fun R=>absurd rfl R
 refine e3 a rfl ?_
 by_cases g:0≤N∧N < 1000
 ·obtain⟨n,rfl⟩:∃ n:Nat,N=(n:Int):=⟨N.toNat,by omega⟩
  refine Mu rfl (by omega) fun bJ bG eM d2 h c d s2=>?_
  refine e3 (a.aR c) rfl ?_
  refine Nr rfl (by omega) fun c3 cR gN d3 i b e hN=>?_
  refine p8 (d.aR b) e rfl rfl ?_
  refine x9 ?_
  refine p8 (s2.aR b) hN rfl rfl ?_
  exact⟨b3.trans (c.trans b),rfl⟩
 ·refine Mv (by omega) ?_
  refine e3 a rfl ?_
  refine Ns (by omega) ?_
  refine AP ?_
  refine x9 ?_
  refine AP ?_
  exact⟨b3,rfl⟩
theorem He{Z:U}{e aJ bJ c3:M}{f aG bG cR last m a L:Nat}(h:cH b6 Z e f (D.aK last))(i:cH b6 Z aJ aG (D.aK m))(j:cH b6 Z bJ bG (D.aK a))(k:cH b6 Z c3 cR (D.aK L))
  (n:last < 18446744073709551616) (o:m≤b1) (p:a < m) (q:L < m) {aF:M→Nat→Nat→M→Nat→Nat→U→Prop}
  (g:∀ bI N b d iM iN K,bA Z K→mG last m a L bI N→cH b6 K b d (D.aK bI)→cH b6 K iM iN (D.aK N)→aF b (D.aK bI).length d iM (D.aK N).length iN K) :
  aY mA.id #[.slice e (D.aK last).length f,.slice aJ (D.aK m).length aG,.slice bJ (D.aK a).length bG,.slice c3 (D.aK L).length cR] Z fun v K=>cT v fun aP=>cQ aP fun r eH=>aQ r fun a l c=>cQ eH fun s t=>aQ s fun L m aV=>b5 t (aF a l c L m aV K):=by
 refine cA (Nb _ (Nat.le_refl _) n o p q h i j k) fun v K ⟨S,bI,N,b,d,iM,iN,u,cW,w,rx⟩=>?_
 subst cW
 exact gE rfl (cF (bE rfl (cF (bE rfl (dR (g bI N b d iM iN K S u w rx))))))
theorem Nw{L R m S:Nat}{up:Bool}{aX Z:U}(bC:oG L R m S up)(z:L < 53)(A:R < 1036)(PD:64≤L+R)(PE:bA aX Z):
  o6.a0.t (fun v K=>bA aX K∧v=.int .u64 (m:Int)) ((L+1:Nat):Int) ((R:Int) - 64) ((R+320:Nat):Int) Z:=by
 obtain⟨e6,eM,gN⟩:=oE z
 obtain⟨d0,fZ⟩:=bC.fZ
 have bZ:=fZ.l5
 have B:=iB
 have PF:=bC.inv
 have PG:=fun {cU v N aP:Nat}=>Nh (cU:=cU) (v:=v) (N:=N) (aP:=aP) bC z A PD
 clear fZ bC
 unfold o6.a0.t
 refine cO ((2*(R+320):Nat):Int) (by omega) (by omega) (by omega) ?_
 obtain⟨dY,PH⟩:∃ dY,dY=2*(R+320)+1:=⟨_,rfl⟩
 obtain⟨aB,PI⟩:∃ aB,aB=R+320:=⟨_,rfl⟩
 obtain⟨aH,bM⟩:∃ aH,aH=64:=⟨_,rfl⟩
 obtain⟨t,PJ⟩:∃ t,t=320:=⟨_,rfl⟩
 have PK:=inv_eq PF PH PI bM
 have b:=CU PJ
 refine cO ((dY:Nat):Int) (by omega) (by omega) (by omega) ?_
 refine p1 (n:=dY) rfl (by omega) fun aJ aG aZ b3 PL=>?_
 refine Al (aE:=aB) (by omega) (by omega) fun bJ bG Qe C PM=>?_
 have PN:dG aB ≠ 0:=by
  have:=uG (show aB≤4400 by omega)
  have:0 < 2 ^ aB:=Nat.pow_pos (by decide)
  omega
 have d1:fP (2 ^ dY):=vQ (S:=dY+1) (Nat.pow_lt_pow_right (by decide) (by omega)) (by omega)
 refine tM (PL.rd.aR C) rfl PM.rd rfl d1 PN fun c3 cR eA eF Qf PO PQ Qg=>?_
 refine p1 (n:=t) (by omega) (by omega) fun bP bO Qh E F=>?_
 rw [b] at F ⊢
 refine cO (384:Int) (by omega) (by decide) (by decide) ?_
 refine cO ((aH:Nat):Int) (by omega) (by omega) (by omega) ?_
 refine Ac (n:=aH) rfl (PQ.rd.aR E) rfl (by omega) fun a7 a9 Qi PR G=>?_
 rw [PK] at G ⊢
 have PS:=CQ A
 have H:fP (eQ R):=vQ PS (by omega)
 refine Ad (n:=t) (by omega) G.rd rfl (by omega) H fun b0 b2 Qj PT g=>?_
 rw [b] at g ⊢
 have d:eQ R % b1 < b1:=Nat.mod_lt _ B
 have Qk:eQ R=eQ R:=rfl
 refine cO (L:Int) (by omega) (by omega) (by omega) ?_
 refine p1 (n:=L) rfl (by omega) fun bR bT Ql PU h=>?_
 refine kO (N:=1) rfl (by decide) fun Qm Qn Qo i PV=>?_
 refine n3 (h.rd.aR i) rfl PV.rd rfl fun Qp Qq Qr I PW=>?_
 have j:=PU.trans (i.trans I)
 have J:=i.trans I
 have PX:fP (eQ R % b1):=rX (Nat.mod_le _ _) H
 have P:fP (2 ^ L):=lW (by omega)
 refine vR (g.rd.aR j) rfl (h.rd.aR J) rfl PX P fun Qs Qt fM Q PY=>?_
 have PZ:fP (eQ R % b1*2 ^ L):=o4 (last:=2 ^ L) (by omega) (by
  have:=Nat.mul_le_mul_right (2 ^ L) (Nat.le_of_lt d);omega)
 refine Ad (n:=t) (by omega) PY.rd rfl (by omega) PZ fun Qu Qv Qw T k=>?_
 rw [b] at k ⊢
 have l:eQ R % b1*2 ^ L % b1 < b1:=Nat.mod_lt _ B
 have V:=PR.trans (PT.trans (j.trans (Q.trans T)))
 have o:=Q.trans T
 have e:=F.rd.aR V
 have Pt:=g.rd.aR (j.trans o)
 have Pu:=PW.rd.aR o
 refine He Pu e Pt k.rd (by omega) (Nat.le_refl _) d l fun v N Qx Qy iM iN Qz p P0 P1 rx=>?_
 refine n3 (e.aR p) rfl (Pt.aR p) rfl fun QA QB QC Pv P2=>?_
 have sN:fP b1:=o4 (last:=1) (by decide) (by omega)
 refine Ad (n:=t) (by omega) P2.rd rfl (by omega) (rX (Nat.sub_le _ _) sN) fun QD QE QF Pw Px=>?_
 rw [b,G7 d] at Px ⊢
 have q:=p.trans (Pv.trans Pw)
 refine n3 (e.aR q) rfl (k.rd.aR q) rfl fun QG QH QI r P3=>?_
 refine Ad (n:=t) (by omega) P3.rd rfl (by omega) (rX (Nat.sub_le _ _) sN) fun QJ QK QL s Py=>?_
 rw [b,G7 l] at Py ⊢
 have u:=q.trans (r.trans s)
 refine He (Pu.aR u) (e.aR u) (Px.rd.aR (r.trans s)) Py.rd (by omega) (Nat.le_refl _) (qX d) (qX l) fun cU aP QM hJ QN QO w Pz P4 P5 P6=>?_
 have PA:=u.trans Pz
 have PB:=(Pv.trans Pw).trans ((r.trans s).trans Pz)
 have f:=PG P0 P4
 have P7:bA aX w:=PE.trans (b3.trans (C.trans (PO.trans (E.trans (V.trans PA)))))
 have P8:=h.rd.aR (J.trans (o.trans PA))
 have fin:∀ {bI:Nat} {a c},cH b6 w a c (D.aK bI)→2 ^ L+bI=m→o6.bF.t (fun v K=>bA aX K∧v=.int .u64 (m:Int)) bR (D.aK (2 ^ L)).length bT a (D.aK bI).length c w:=by
  intro bI a c P9 Qa
  unfold o6.bF.t
  refine nG P8 rfl P9 rfl P (lW (by omega)) fun QP QQ QR Qb PC=>?_
  rw [Qa] at PC ⊢
  refine Hb PC.rd rfl (by omega) fun QS Qc=>?_
  exact⟨P7.trans (Qb.trans Qc),rfl⟩
 refine pT P5 rfl (P1.aR PB) rfl ?_
 refine b9 (fun x=>?_) fun y=>?_
 ·have x:=p3.mp x
  rw [if_pos x] at f
  exact fin P6 f
 ·have y:¬ cU < v:=fun Qd=>y (p3.mpr Qd)
  rw [if_neg y] at f
  exact fin (rx.aR PB) f
theorem Nx{L R m S:Nat}{up:Bool}{Z:U}{aS aM:Int}(bC:oG L R m S up)(a:L < 53)(b:R < 1036)(aX:aS=((L+1:Nat):Int))(aZ:aM=(R:Int) - 64){aF:Int→U→Prop}(g:∀ K,bA Z K→aF (m:Int) K):
  aY o6.id #[.int .i64 aS,.int .i64 aM] Z fun v K=>aW .u64 v fun N=>aF N K:=by
 subst aX;subst aZ
 refine cA (c6:=fun v K=>bA Z K∧v=.int .u64 (m:Int)) ?_ fun v K ⟨S,cW⟩=>by subst cW;exact bQ rfl (g K S)
 obtain⟨e6,eM,gN⟩:=oE a
 refine o6.ok ?_
 unfold o6.t o6.aL.t
 refine cO (((L+1:Nat):Int)+((R:Int) - 64)) rfl (by omega) (by omega) ?_
 refine b9 (fun c=>?_) fun d=>?_
 ·refine⟨by omega,a5.mk ?_⟩
  rw [tX (L+1) (by omega)]
  have e:=Nf bC b (by omega)
  refine dB m (by omega) (by omega) ?_
  exact⟨bA.refl _,rfl⟩
 ·refine cO ((R+256:Nat):Int) (by omega) (by omega) (by omega) ?_
  refine cO ((R+320:Nat):Int) (by omega) (by omega) (by omega) ?_
  refine b9 (fun a=>by omega) fun _=>?_
  exact Nw bC a b (by omega) (bA.refl _)
theorem Ny{L R m S:Nat}{up:Bool}{Z:U}{aS aM:Int}(bC:oG L R m S up)(b:L < 53)(d:R < 1036)(aX:aS=((L+1:Nat):Int))(aZ:aM=(R:Int) - 64){aF:Int→M→Nat→Nat→Int→Int→U→Prop}
  (g:∀ a c K,bA Z K→cV dP Z K a c (aK S)→aF (m:Int) a (aK S).length c (nN 1400 (m*2 ^ (R+1337)) S) 0 K) :
  aY oI.id #[.int .i64 aS,.int .i64 aM] Z fun v K=>cT v fun q=>cQ q fun s u=>aW .u64 s fun w=>cQ u fun x y=>aQ x fun z A B=>cQ y fun C D=>aW .i64 C fun E=>cQ D fun F G=>aW .i64 F fun H=>b5 G (aF w z A B E H K):=by
 subst aX;subst aZ
 refine cA (c6:=fun v K=>bA Z K∧∃ a c,v=.tuple #[.int .u64 (m:Int),.slice a (aK S).length c,.int .i64 (nN 1400 (m*2 ^ (R+1337)) S),.int .i64 0]∧cV dP Z K a c (aK S)) ?_ fun v K ⟨eK,a,c,cW,r⟩=>by
  subst cW;exact gE rfl (cF (bQ rfl (cF (bE rfl (cF (bQ rfl (cF (bQ rfl (dR (g a c K eK r))))))))))
 obtain⟨e6,eM,gN⟩:=oE b
 obtain⟨d0,fZ⟩:=bC.fZ
 have e:=fZ.l4
 have f:=fZ.l5
 refine oI.ok ?_
 unfold oI.t oI.aL.t
 refine b9 (fun n=>by omega) fun _=>?_
 refine b9 (fun n=>by omega) fun _=>?_
 refine b9 (fun n=>by omega) fun _=>?_
 refine b9 (fun n=>by omega) fun _=>?_
 unfold oI.a0.t
 refine Nx bC b d rfl rfl fun Pt h=>?_
 obtain⟨aM,I⟩:=wK b e f
 refine wG (aE:=320) rfl I d (by decide) (by decide) aM rfl rfl fun aV aF c3 cR eA eF Pu i j J P=>?_
 obtain⟨Q,_⟩:=wJ bC b d (aE:=320) (by decide) (by decide) e f i
 obtain⟨g,dY,k,Pv,Pw,Px,Py,l,Pz,T⟩:=AN bC b d (aE:=320) (by decide) (by decide) e f i
 rw [l]
 clear l
 refine Ab P rfl fun bP bO PA o p=>?_
 rw [Q] at p ⊢
 have V:eB aV=k:=by
  refine Nat.le_antisymm (h8.mpr T) ?_
  refine Nat.le_of_not_lt fun PB=>?_
  have aZ:=h8.mp (show eB aV≤dY by omega)
  omega
 refine Fp (J.aR o) rfl ?_
 rw [V]
 refine cO ((320:Int) - (k:Int)) rfl (by omega) (by omega) ?_
 refine cO ((1401:Int) - (g:Int)) (by omega) (by omega) (by omega) ?_
 exact⟨h.trans (j.trans o),bP,bO,rfl,p.from (h.trans j).le⟩
theorem Nz{Z:U}{aS aM:Int}(r:aS < 1∨aS > 53∨aM < -64∨aM > 971){aF:Int→M→Nat→Nat→Int→Int→U→Prop}(g:aF 0 none 0 0 0 1 Z):
  aY oI.id #[.int .i64 aS,.int .i64 aM] Z fun v K=>cT v fun a=>cQ a fun b c=>aW .u64 b fun d=>cQ c fun e f=>aQ e fun h i j=>cQ f fun k l=>aW .i64 k fun m=>cQ l fun n o=>aW .i64 n fun p=>b5 o (aF d h i j m p K):=by
 refine cA (c6:=fun v K=>K=Z∧v=.tuple #[.int .u64 0,.slice none 0 0,.int .i64 0,.int .i64 1]) ?_ fun v K ⟨q,cW⟩=>by
  subst q;subst cW;exact gE rfl (cF (bQ rfl (cF (bE rfl (cF (bQ rfl (cF (bQ rfl (dR g)))))))))
 refine oI.ok ?_
 unfold oI.t oI.aL.t
 refine b9 (fun _=>⟨rfl,rfl⟩) fun dY=>?_
 refine b9 (fun _=>⟨rfl,rfl⟩) fun s=>?_
 refine b9 (fun _=>⟨rfl,rfl⟩) fun u=>?_
 exact b9 (fun _=>⟨rfl,rfl⟩) fun w=>by omega
theorem Hf{N bI:Int}{Z:U}(n:-9223372036854775808≤N∧N < 9223372036854775808)(o:-9223372036854775808≤bI∧bI < 9223372036854775808):aY jZ.id #[.agg #[.int .i64 3,.int .i64 N,.int .i64 bI]] Z fun v K=>bA Z K∧v=.bool true:=by
 refine jZ.ok ?_
 unfold jZ.t jZ.aL.t
 refine eZ fun aZ b b3=>?_
 refine e3 b rfl ?_
 refine eY (fun R=>absurd R (by decide)) fun _=>?_
 refine eY (fun R=>absurd R (by decide)) fun _=>?_
 refine eY (fun _=>?_) fun R=>absurd rfl R
 refine e3 b rfl ?_
 refine e3 b rfl ?_
 by_cases i:N < 1∨N > 53∨bI < -64∨bI > 971
 ·refine Ha i rfl fun aE j d e=>?_
  refine e3 (b.aR d) rfl ?_
  refine e3 (b.aR d) rfl ?_
  refine Nz i ?_
  refine e3 e rfl ?_
  refine eY (fun _=>?_) fun R=>absurd rfl R
  refine nX e rfl ?_
  refine AP ?_
  refine x9 ?_
  refine e3 e rfl ?_
  refine eY (fun _=>?_) fun R=>absurd rfl R
  exact⟨b3.trans d,rfl⟩
 ·obtain⟨L,rfl⟩:∃ L:Nat,N=((L+1:Nat):Int):=⟨(N - 1).toNat,by omega⟩
  obtain⟨R,rfl⟩:∃ R:Nat,bI=(R:Int) - 64:=⟨(bI+64).toNat,by omega⟩
  have g:L < 53:=by omega
  have h:R < 1036:=by omega
  obtain⟨m,S,up,bC⟩:=bin g h
  refine AO bC g h rfl rfl rfl fun aE a c j d p e k=>?_
  refine e3 (b.aR d) rfl ?_
  refine e3 (b.aR d) rfl ?_
  refine Ny bC g h rfl rfl fun c3 cR q f l=>?_
  generalize nN 1400 (m*2 ^ (R+1337)) S=D at *
  refine e3 (e.aR f) rfl ?_
  refine eY (fun _=>?_) fun R=>absurd rfl R
  refine nX (e.aR f) rfl ?_
  refine p8 (k.aR f) l.eJ rfl rfl ?_
  refine x9 ?_
  refine e3 (e.aR f) rfl ?_
  refine eY (fun _=>?_) fun R=>absurd rfl R
  exact⟨b3.trans (d.trans f),rfl⟩
theorem NA{aP N bI:Int}{Z:U}(aZ:aP ≠ 1)(a:aP ≠ 2)(b:aP ≠ 3):aY jZ.id #[.agg #[.int .i64 aP,.int .i64 N,.int .i64 bI]] Z fun v K=>bA Z K∧v=.bool true:=by
 refine jZ.ok ?_
 unfold jZ.t jZ.aL.t
 refine eZ fun e c d=>?_
 refine e3 c rfl ?_
 refine eY (fun R=>absurd R aZ) fun _=>?_
 refine eY (fun R=>absurd R a) fun _=>?_
 refine eY (fun R=>absurd R b) fun _=>?_
 exact⟨d,rfl⟩
theorem NB{aP N bI:Int}{Z:U}(a:-9223372036854775808≤N∧N < 9223372036854775808)(d:-9223372036854775808≤bI∧bI < 9223372036854775808):aY jZ.id #[.agg #[.int .i64 aP,.int .i64 N,.int .i64 bI]] Z fun v K=>bA Z K∧v=.bool true:=by
 by_cases aZ:aP=1
 ·subst aZ;exact Nu a
 by_cases b:aP=2
 ·subst b;exact Nv a
 by_cases c:aP=3
 ·subst c;exact Hf a d
 exact NA aZ b c
theorem NC{N bI:Int}{Z:U}(a:-9223372036854775808≤N∧N < 9223372036854775808)(b:-9223372036854775808≤bI∧bI < 9223372036854775808):aY wL.id #[.int .i64 N,.int .i64 bI] Z fun v K=>bA Z K∧v=.bool true:=by
 refine wL.ok ?_
 unfold wL.t wL.aL.t
 refine yA fun aZ b3=>?_
 refine x9 ?_
 refine cA (Hf a b) fun v d ⟨c,R⟩=>?_
 subst R;exact c5 rfl ⟨b3.trans c,rfl⟩
abbrev wM:=Int × (Int × (Int × Unit))
abbrev CV:jH wM:=qE (rH .i64) 1 (qE (rH .i64) 1 (qE (rH .i64) 1 zG))
abbrev yI(Z:U)(a:M)(c:Nat)(os:List wM):Prop:=sZ CV 3 5864062014634 Z a c os
theorem ND:sX CV:=Bm (Bk _) (Bm (Bk _) (Bm (Bk _) IE 1) 1) 1
theorem yI.aR{Z K:U}{a:M}{c:Nat}{os:List wM}(r:yI Z a c os)(S:bA Z K):yI K a c os:=sZ.aR ND r S
theorem NF{Z:U}{aE:Addr}{bV:List Value}{aN:wM}(d:j1 Z aE 0 bV)(aH:CV Z bV aN):
  gP Z (aE.add 0)=some (.int .i64 aN.1)∧gP Z (aE.add 1)=some (.int .i64 aN.2.1)∧gP Z (aE.add 2)=some (.int .i64 aN.2.2.1)∧In .i64 aN.2.1∧In .i64 aN.2.2.1:=by
 obtain⟨aI,⟨e,o⟩,bZ,⟨f,j⟩,dV,⟨g,k⟩,h⟩:=aH
 obtain⟨a,b,c,rfl⟩:∃ a b c,bV=[a,b,c]:=by
  rw [List.drop_drop] at bZ
  rw [List.drop_drop,List.drop_drop] at dV h
  have i:(bV.drop 3).length=0:=by
   have:bV.drop (1+1+1)=[]:=h
   rw [show(3:Nat)=1+1+1 by rfl,this];rfl
  simp only [List.length_drop] at aI bZ dV i
  match bV,aI,bZ,dV,i with
  | [a,b,c],_,_,_,_=>exact⟨a,b,c,rfl⟩
  | [],aZ,_,_,_=>simp at aZ
  | [_],_,l,_,_=>simp at l
  | [_,_],_,_,m,_=>simp at m
  | _ :: _ :: _ :: _ :: _,_,_,_,n=>simp at n
 simp only [List.take,List.drop,List.cons.injEq,and_true] at e f g
 subst e;subst f;subst g
 exact⟨d.1,d.2.1,d.2.2.1,Et j,Et k⟩
theorem NG{Y:aD}{a:M}{c:Nat}{os:List wM}{aX:U}(r:yI aX a c os)(post:∀ K,bA aX K→Y (.bool true) K):
  ∀ (n O:Nat) (Z:U),O+n=2*os.length→bA aX Z→nQ.bL.t Y (n+1) a os.length c (O:Int) Z:=by
 have aZ:os.length≤5864062014634:=r.len
 intro n
 induction n with
 | zero=>
  intro O Z a4 cM
  unfold nQ.bL.t nQ.b7.t
  refine cO ((2*os.length:Nat):Int) (by omega) (by omega) (by omega) ?_
  refine b9 (fun b=>absurd b (by omega)) fun _=>?_
  unfold nQ.a0.t
  exact post _ cM
 | succ n bU=>
  intro O Z a4 cM
  unfold nQ.bL.t nQ.b7.t
  refine cO ((2*os.length:Nat):Int) (by omega) (by omega) (by omega) ?_
  refine b9 (fun _=>?_) fun b=>absurd (by omega) b
  have d:0 < os.length:=by omega
  refine⟨by omega,a5.mk ?_⟩
  rw [← Int.ofNat_tmod]
  have e:=Nat.mod_lt O d
  generalize O % os.length=aC at *
  obtain⟨aN,f⟩:∃ aN,os[aC]?=some aN:=⟨os[aC]'(e),by simp⟩
  refine IP (r.aR cM) rfl rfl f fun aE bV p g aH=>?_
  obtain⟨h,i,j,k,l⟩:=NF g aH
  rw [qI] at k l
  refine BE h (bQ rfl ?_)
  refine BE i (bQ rfl ?_)
  refine BE j (bQ rfl ?_)
  refine cA (NB (by omega) (by omega)) fun v m ⟨o,cW⟩=>?_
  subst cW
  refine c5 rfl ?_
  refine jL (fun R=>by cases R) fun _=>?_
  refine cO ((O+1:Nat):Int) (by omega) (by omega) (by omega) ?_
  exact bU (O+1) m (by omega) (cM.trans o)
theorem NH{a:M}{b c:Nat}{os:List wM}{Z:U}(d:yI Z a b os)(e:c=os.length):aY nQ.id #[.slice a c b] Z fun v K=>bA Z K∧v=.bool true:=by
 subst e
 refine nQ.ok ?_
 unfold nQ.t nQ.aL.t
 refine yA fun aZ b3=>?_
 refine jL (fun R=>by cases R) fun _=>?_
 unfold nQ.bF.t
 exact⟨2*os.length+1,NG (d.aR b3) (fun K cS=>⟨b3.trans cS,rfl⟩) (2*os.length) 0 aZ (by omega) (bA.refl _)⟩
end Go.Proofs.YtjijdlkpmngolaaGreat.G
