/- Texts of this work, joined: GvIn, GvRng, FY, PiQ, PiQ2, PiQ3, PiQ4, PiR, PiS, PiC, PiE, PiE2, PiE3. -/
import Derived.LoopNIn
import Derived.TacticsIn
import Derived.RangeFuncKeeps
import Derived.RangeFuncCalls
import Derived.Shelf.Abstract
import Derived.RangeFuncFrom
import Derived.Test.YtjijdlkpmngolaaGreatKA
import Derived.Test.YtjijdlkpmngolaaGreatKE
import Derived.Test.YtjijdlkpmngolaaGreatKB
import Derived.Test.YtjijdlkpmngolaaGreatKC0
import Derived.Test.YtjijdlkpmngolaaGreatKC1
/- Gv inside a fence: code that calls yield, and the rounds of a loop over a function. -/
namespace Go.Gv
set_option linter.unusedVariables false
set_option linter.unusedSimpArgs false
variable {P : Program} {E : Env}
/-- The wide fence, in a round or not. -/
def FW (F : Fence) : Prop := F = Fence.wide ∨ ∃ l, F = Fence.wide.inRound l
theorem FW.fn {F : Fence} (h : FW F) (f : FuncId) : F.fn f := by
  rcases h with rfl | ⟨l, rfl⟩ <;> exact trivial
theorem FW.depth {F : Fence} (h : FW F) (m : Nat) : F.depth.isSome = true → 1 ≤ m := by
  rcases h with rfl | ⟨l, rfl⟩ <;> intro e <;> cases e
theorem FW.calls {F : Fence} (h : FW F) {m : Nat} {f : FuncId} {args : Array Value} {w : World} {R : Ending → World → Prop} (c : Calls P f args w R) : CallsIn F m P f args w R := by
  rcases h with rfl | ⟨l, rfl⟩
  · exact callsIn_wide.2 c
  · exact CallsIn.inRound l (callsIn_wide.2 c)
/-- A call of yield. -/
def YC (P : Program) (v : Value) (args : Array Value) (h : Hp) (K : Value → Hp → Prop) : Prop :=
  ∃ l, v = .func (.yield l) #[] #[] ∧ ∀ w : World, w.heap = h → YieldAt Fence.wide 0 P l args w fun e w' => ∃ v, e = .returned v ∧ Same w w' ∧ K v w'.heap
theorem YC.mono {v : Value} {args : Array Value} {h : Hp} {K K' : Value → Hp → Prop} (hk : ∀ v h, K v h → K' v h) (c : YC P v args h K) : YC P v args h K' := by
  obtain ⟨l, e, c⟩ := c
  refine ⟨l, e, fun w hw => ?_⟩
  obtain ⟨fn, tmps, assign, body, r, k⟩ := c w hw
  exact ⟨fn, tmps, assign, body, r, k.mono fun e w' ⟨v, h1, h2, h3⟩ => ⟨v, h1, h2, hk _ _ h3⟩⟩
def isY (o : Oper) : Bool := match o.op with
  | .call c => (match c.callee with
    | .value (.tmp _) => true
    | _ => false)
  | .makeFunc (.func _) _ _ => true
  | _ => false
def isDefer (o : Oper) : Bool := match o.op with
  | .defer _ => true
  | _ => false
def dOpY (P : Program) (E : Env) (o : Oper) (fr : Fr) (h : Hp) (K : Value → Hp → Prop) : Prop :=
  match o.op with
  | .call c => (match c.callee with
    | .value (.tmp t) => YC P (fr t) (c.args.toList.map (ev fr)).toArray h fun v h' => asTy E o.type v fun v' => K v' h'
    | _ => dOp P E false 0 o fr h K)
  | .makeFunc (.func f) first captured => K (.func (.func f) (first.toList.map (ev fr)).toArray (captured.toList.map (ev fr)).toArray) h
  | _ => dOp P E false 0 o fr h K
def dOpsY (P : Program) (E : Env) : List Oper → Fr → Hp → (Fr → Hp → Prop) → Prop
  | [], fr, h, K => K fr h
  | o :: rest, fr, h, K => match o.guard with
    | none => dOpY P E o fr h fun v h' => dOpsY P E rest (updO fr o.dst v) h' K
    | some _ => False
def denY (P : Program) (E : Env) : Code → (Ex → Fr → Hp → Prop) → Fr → Hp → Prop
  | .skip, Q, fr, h => Q .normal fr h
  | .region id ops draw, Q, fr, h => bif ops.toList.any isY then dOpsY P E ops.toList fr h (Q .normal) else den P E (.region id ops draw) Q fr h
  | .seq a b, Q, fr, h => denY P E a (Ex.then (denY P E b Q) Q) fr h
  | .cond c a b, Q, fr, h => match ev fr c with
    | .bool t => cond t (denY P E a Q (updC fr c true) h) (denY P E b Q (updC fr c false) h)
    | _ => False
  | .block id c, Q, fr, h => denY P E c (Ex.inBlock id Q) fr h
  | .loop c, Q, fr, h => ∃ n, iter (fun N => denY P E c (Ex.then N Q)) n fr h
  | .exit id, Q, fr, h => Q (.exit id) fr h
  | .ret, Q, fr, h => Q .ret fr h
  | .rangeFunc .., _, _, _ => False
  | .scope _, _, _, _ => False
  | .label _, Q, fr, h => Q .normal fr h
  | .goto _, _, _, _ => False
  | .refuse _, _, _, _ => False
theorem dOpY_mono {o : Oper} {fr : Fr} {h : Hp} {K K' : Value → Hp → Prop} (hk : ∀ v h, K v h → K' v h) (hd : dOpY P E o fr h K) : dOpY P E o fr h K' := by
  unfold dOpY at *
  split at hd
  · split at hd
    · exact YC.mono (fun v h' g => asTy_mono (fun v' => hk v' h') g) hd
    · exact dOp_mono hk hd
  · exact hk _ _ hd
  · exact dOp_mono hk hd
theorem dOpsY_mono : ∀ {l : List Oper} {fr : Fr} {h : Hp} {K K' : Fr → Hp → Prop}, (∀ fr h, K fr h → K' fr h) → dOpsY P E l fr h K → dOpsY P E l fr h K'
  | [], _, _, _, _, hk, hd => hk _ _ hd
  | o :: rest, fr, h, K, K', hk, hd => by
    unfold dOpsY at *
    split at hd
    · exact dOpY_mono (fun v h' g => dOpsY_mono hk g) hd
    · cases hd
theorem denY_mono : ∀ {c : Code} {Q Q' : Ex → Fr → Hp → Prop} {fr : Fr} {h : Hp}, (∀ e fr h, Q e fr h → Q' e fr h) → denY P E c Q fr h → denY P E c Q' fr h := by
  intro c
  induction c with
  | skip => intro Q Q' fr h hq hd; exact hq _ _ _ hd
  | label l => intro Q Q' fr h hq hd; exact hq _ _ _ hd
  | ret => intro Q Q' fr h hq hd; exact hq _ _ _ hd
  | exit id => intro Q Q' fr h hq hd; exact hq _ _ _ hd
  | region id ops draw =>
    intro Q Q' fr h hq hd
    unfold denY at *
    cases hy : ops.toList.any isY with
    | true => rw [hy] at hd; simp only [cond_true] at hd ⊢; exact dOpsY_mono (hq _) hd
    | false => rw [hy] at hd; simp only [cond_false] at hd ⊢; exact den_mono hq hd
  | seq x y ihx ihy =>
    intro Q Q' fr h hq hd
    refine ihx (fun e fr' h' g => ?_) hd
    cases e with
    | normal => exact ihy hq g
    | exit id => exact hq _ _ _ g
    | ret => exact hq _ _ _ g
  | cond c x y ihx ihy =>
    intro Q Q' fr h hq hd
    simp only [denY] at *
    split at hd
    · rename_i t e
      cases t with
      | true => exact ihx hq hd
      | false => exact ihy hq hd
    · cases hd
  | block id c ih =>
    intro Q Q' fr h hq hd
    refine ih (fun e fr' h' g => ?_) hd
    cases e with
    | normal => exact hq _ _ _ g
    | ret => exact hq _ _ _ g
    | exit id' =>
      simp only [Ex.inBlock] at *
      cases hb : Nat.beq id' id with
      | true => rw [hb] at g; exact hq _ _ _ g
      | false => rw [hb] at g; exact hq _ _ _ g
  | loop c ih =>
    intro Q Q' fr h hq hd
    obtain ⟨n, hd⟩ := hd
    refine ⟨n, ?_⟩
    have key : ∀ n fr h, iter (fun N => denY P E c (Ex.then N Q)) n fr h → iter (fun N => denY P E c (Ex.then N Q')) n fr h := by
      intro n
      induction n with
      | zero => intro fr h g; exact g
      | succ n ihn =>
        intro fr h g
        refine ih (fun e fr' h' g' => ?_) g
        cases e with
        | normal => exact ihn _ _ g'
        | exit id => exact hq _ _ _ g'
        | ret => exact hq _ _ _ g'
    exact key n fr h hd
  | _ => intro Q Q' fr h hq hd; exact hd
/-! ### soundness -/
def drawFree : Code → Bool
  | .region _ ops draw => !draw
  | .seq a b => drawFree a && drawFree b
  | .cond _ a b => drawFree a && drawFree b
  | .block _ c => drawFree c
  | .loop c => drawFree c
  | .scope c => drawFree c
  | _ => true
def codeY (E : Env) (n : Nat) : Code → Bool
  | .region _ ops draw => regB E n ops draw && ops.toList.all (fun o => !isDefer o) && (!ops.toList.any isY || !draw)
  | .seq a b => codeY E n a && codeY E n b
  | .cond _ a b => codeY E n a && codeY E n b
  | .block _ c => codeY E n c
  | .loop c => codeY E n c
  | .scope c => codeY E n c
  | _ => true
theorem semAt_fw {F : Fence} {ρ : Operand → Value} {o : Oper} (h : isDefer o = false) : o.semAt F.round ρ = execOp ρ o :=
  Oper.semAt_eq _ _ _ fun c e => by unfold isDefer at h; rw [e] at h; cases h
theorem stp_wpIn {F : Fence} (hF : FW F) {m : Nat} {md : Bool} {n0 : Nat} {ops : Array Oper} {o : Oper} {a : Act} {w : World} {N : Value → Hp → Prop} (hs : stp P E md n0 ops o a w.heap N) (hdf : isDefer o = false)
    {K : Act → World → Prop} {Q : Exit → Act → World → Prop} (hn : ∀ v w', Same w w' → N v w'.heap → K (a.put o.dst v) w') :
    if Region.wanted o (yielded ops a.tmps) then o.wpIn F m P a w K Q else (∀ f, o.about P w a.eval = some f → F.fn f) ∧ K (a.put o.dst undef) w := by
  unfold stp at hs
  by_cases hw : Region.wanted o (yielded ops a.tmps) = true
  · rw [if_pos hw] at hs ⊢
    refine ⟨fun f _ => hF.fn f, ?_⟩
    rw [semAt_fw hdf]
    have runs : ∀ v, RunsTo P o a w v → N v w.heap → o.uponIn F m P a K Q ((execOp a.eval o).run P w) := by
      intro v hr k
      rw [show (execOp a.eval o).run P w = _ from hr]
      exact hn v w (Same.refl w) k
    have acts : ∀ N', ActTo P o a w N' → (∀ v h, N' v h → N v h) → o.uponIn F m P a K Q ((execOp a.eval o).run P w) := by
      rintro N' (⟨v, w', r, s, k⟩ | ⟨w', r, s, k⟩ | ⟨f, args, r, c⟩) hN
      · rw [r]; exact hn v w' s (hN _ _ k)
      · rw [r]; exact hn undef w' s (hN _ _ k)
      · rw [r, Oper.uponIn_enter]
        refine ⟨hF.depth m, hF.calls (c.mono ?_)⟩
        rintro e w' ⟨v, rfl, s, k⟩
        exact hn v w' s (hN _ _ k)
    cases hc : clOf E o.op with
    | pure => simp only [hc] at hs; obtain ⟨v, h1, h2⟩ := hs; exact runs v (h1 w) h2
    | load =>
      simp only [hc] at hs
      obtain ⟨v, h1, h2⟩ := hs
      refine runs v (h1 w ?_) h2
      cases md
      · exact rfl
      · exact Pre.refl _ _
    | quiet =>
      simp only [hc] at hs
      obtain ⟨v, h1, h2⟩ := hs
      obtain ⟨f, args, r, c⟩ := h1 w rfl
      rw [r, Oper.uponIn_enter]
      refine ⟨hF.depth m, hF.calls (c.mono ?_)⟩
      rintro e w' ⟨rfl, s, k⟩
      exact hn v w' s (by rw [k]; exact h2)
    | call => simp only [hc] at hs; exact acts _ (hs w rfl) fun v h k => k.2
    | act => simp only [hc] at hs; exact acts _ (hs w rfl) fun v h k => k
  · rw [if_neg hw] at hs ⊢
    exact ⟨fun f _ => hF.fn f, hn undef w (Same.refl w) hs⟩
theorem yc_wpIn {F : Fence} (hF : FW F) {m : Nat} {o : Oper} {c : Call} {t : Nat} (ho : o.op = .call c) (hc : c.callee = .value (.tmp t)) {fr : Fr} {a : Act} (hev : a.eval = ev fr) {w : World} {K : Value → Hp → Prop}
    (hd : YC P (fr t) (c.args.toList.map (ev fr)).toArray w.heap K) {K' : Act → World → Prop} {Q : Exit → Act → World → Prop} (hn : ∀ v w', Same w w' → K v w'.heap → K' (a.put o.dst v) w') : o.wpIn F m P a w K' Q := by
  obtain ⟨l, hl, hd⟩ := hd
  obtain ⟨fn, tmps, assign, body, r, k⟩ := hd w rfl
  have hdf : isDefer o = false := by unfold isDefer; rw [ho]
  refine ⟨fun f _ => hF.fn f, ?_⟩
  rw [semAt_fw hdf, hev]
  obtain ⟨dst, op, type, pos, after, guard⟩ := o
  obtain ⟨callee, ⟨args⟩, ats⟩ := c
  simp only at ho hc
  subst ho; subst hc
  have hex : (execOp (ev fr) ⟨dst, .call ⟨.value (.tmp t), ⟨args⟩, ats⟩, type, pos, after, guard⟩).run P w = .ok (.round l fn tmps assign body) w := by
    have r' : (Instr.yield l (List.map (ev fr) args).toArray).run P w = .ok (.round l fn tmps assign body) w := r
    simp [execOp, resolve, Deferred.ofValue, ev, invoke, hl, r']
  rw [hex, Oper.uponIn_round]
  refine ⟨hF.depth m, ?_⟩
  have k2 : RoundIn F (m - 1) P l fn tmps assign body w fun e w' => ∃ v, e = .returned v ∧ Same w w' ∧ K v w'.heap := by
    rcases hF with rfl | ⟨l', rfl⟩
    · exact ⟨k.1, fun c cs _ => k.2 c cs fun d hd => by cases hd⟩
    · exact ⟨k.1, fun c cs _ => k.2 c cs fun d hd => by cases hd⟩
  refine k2.mono ?_
  rintro e w' ⟨v, rfl, s, g⟩
  exact hn v w' s g
theorem dOpsY_wpIn (hE : EnvOk P E) {F : Fence} (hF : FW F) {m n : Nat} {ops : Array Oper} {K : Fr → Hp → Prop} {Q : Exit → Act → World → Prop} {w0 : World} (hq : ∀ fr' a' w', RelA n fr' a' → Same w0 w' → K fr' w'.heap → Q .normal a' w') :
    ∀ {l : List Oper} {fr : Fr} {a : Act} {w : World}, l.all (dstB n) = true → l.all (fun o => !isDefer o) = true → RelA n fr a → Same w0 w → dOpsY P E l fr w.heap K → wpListIn F m P ops Q l a w
  | [], fr, a, w, _, _, hr, s, hd => hq fr a w hr s hd
  | o :: rest, fr, a, w, hb, hdf, hr, s, hd => by
    simp only [List.all_cons, Bool.and_eq_true] at hb hdf
    obtain ⟨hb1, hb2⟩ := hb
    obtain ⟨hd1, hd2⟩ := hdf
    have hdf : isDefer o = false := by simpa using hd1
    unfold dOpsY at hd
    split at hd
    · rename_i hg
      have hw : Region.wanted o (yielded ops a.tmps) = true := by simp [Region.wanted, hg]
      have next : ∀ v w', Same w w' → dOpsY P E rest (updO fr o.dst v) w'.heap K → wpListIn F m P ops Q rest (a.put o.dst v) w' :=
        fun v w' s' k => dOpsY_wpIn hE hF hq hb2 hd2 (hr.put hb1 v) (s.trans s') k
      unfold wpListIn
      rw [if_pos hw]
      have plain : dOp P E false 0 o fr w.heap (fun v h' => dOpsY P E rest (updO fr o.dst v) h' K) → o.wpIn F m P a w (wpListIn F m P ops Q rest) Q := by
        intro hd
        have h1 := stp_wpIn (P := P) (E := E) (m := m) (ops := ops) (Q := Q) (K := wpListIn F m P ops Q rest) hF (dOp_stp (ops := ops) hE hr.ev hd hw) hdf next
        rw [if_pos hw] at h1; exact h1
      unfold dOpY at hd
      split at hd
      · rename_i c hop
        split at hd
        · rename_i t hcal
          exact yc_wpIn hF hop hcal hr.ev hd fun v w' s' k => by
            obtain h2 := asTy_elim k
            exact next v w' s' h2
        · exact plain hd
      · rename_i f first captured hop
        refine ⟨fun f _ => hF.fn f, ?_⟩
        rw [semAt_fw hdf, hr.ev]
        have hex : (execOp (ev fr) o).run P w = .ok (.value (.func (.func f) (first.toList.map (ev fr)).toArray (captured.toList.map (ev fr)).toArray)) w := by
          obtain ⟨dst, op, type, pos, after, guard⟩ := o
          obtain ⟨first⟩ := first
          obtain ⟨captured⟩ := captured
          simp only at hop
          subst hop
          simp [execOp, Instr.makeFunc]
        rw [hex]
        exact next _ w (Same.refl w) hd
      · exact plain hd
    · cases hd
theorem regionIn (hE : EnvOk P E) {F : Fence} (hF : FW F) {m id n : Nat} {ops : Array Oper} (hc : regB E n ops false = true) (hdf : ops.toList.all (fun o => !isDefer o) = true) {fr : Fr} {a : Act} {w : World} (hr : RelA n fr a) {Q : Ex → Fr → Hp → Prop}
    (hd : den P E (.region id ops false) Q fr w.heap) {Q' : Exit → Act → World → Prop} (hq : ∀ fr' a' w', RelA n fr' a' → Same w w' → Q .normal fr' w'.heap → Q' .normal a' w') :
    (Code.region id ops false).wpIn F m P Q' a w := by
  obtain ⟨l⟩ := ops
  simp only [regB, Bool.and_eq_true] at hc
  obtain ⟨hb, hc⟩ := hc
  have hb' : l.all (dstB n) = true := hb
  have hd' : dOps P E (modeB E false l) w.heap.size l l fr w.heap (Q .normal) := hd
  have hk := dOps_wk hE (k := 0) (fun j => by simp) hb' hr hd'
  refine wpIn_region ?_
  have key : ∀ (il : List Nat) (a : Act) (w2 : World), Same w w2 → wk P E (modeB E false l) w.heap.size l.toArray (fun a' h' => ∃ fr', RelA n fr' a' ∧ Q .normal fr' h') il a w2.heap → wpOpsIn F m P l.toArray Q' il a w2 := by
    intro il
    induction il with
    | nil => intro a w2 s ⟨fr', r, k⟩; exact hq fr' a w2 r s k
    | cons i il ih =>
      intro a w2 s k
      unfold wpOpsIn
      simp only [wk] at k
      cases ho : l.toArray[i]? with
      | none => simp only [ho] at k ⊢; exact ih a w2 s k
      | some o =>
        simp only [ho] at k ⊢
        have hdo : isDefer o = false := by
          have h1 := List.all_eq_true.1 hdf o (List.mem_of_getElem? (by simpa using ho))
          simpa using h1
        exact stp_wpIn hF k hdo fun v w' s' k' => ih _ w' (s.trans s') k'
  rw [List.range_eq_range']
  exact key _ a w (Same.refl w) (by simpa using hk)
theorem denY_wpIn (hE : EnvOk P E) {F : Fence} (hF : FW F) {m n : Nat} : ∀ {c : Code} {Q : Ex → Fr → Hp → Prop} {fr : Fr} {a : Act} {w : World} {Q' : Exit → Act → World → Prop}, codeY E n c = true → (F = Fence.wide ∨ drawFree c = true) → RelA n fr a → denY P E c Q fr w.heap →
    (∀ e fr' a' w', RelA n fr' a' → Same w w' → Q e fr' w'.heap → Q' e.up a' w') → c.wpIn F m P Q' a w := by
  intro c
  induction c with
  | skip => intro Q fr a w Q' hc hdf hr hd hq; exact wpIn_skip (hq .normal fr a w hr (Same.refl w) hd)
  | label l => intro Q fr a w Q' hc hdf hr hd hq; exact wpIn_label (hq .normal fr a w hr (Same.refl w) hd)
  | ret => intro Q fr a w Q' hc hdf hr hd hq; exact wpIn_ret (hq .ret fr a w hr (Same.refl w) hd)
  | exit id => intro Q fr a w Q' hc hdf hr hd hq; exact wpIn_exit (hq (.exit id) fr a w hr (Same.refl w) hd)
  | region id ops draw =>
    intro Q fr a w Q' hc hdf hr hd hq
    unfold codeY at hc
    rw [Bool.and_eq_true, Bool.and_eq_true] at hc
    obtain ⟨⟨hc1, hc2⟩, hc3⟩ := hc
    unfold denY at hd
    cases hy : ops.toList.any isY with
    | true =>
      rw [hy] at hd hc3
      have hdr : draw = false := by simpa using hc3
      subst hdr
      simp only [cond_true] at hd
      have hb : ops.toList.all (dstB n) = true := by
        simp only [regB, Bool.and_eq_true] at hc1; exact hc1.1
      exact wpIn_region_list (dOpsY_wpIn hE hF (w0 := w) (fun fr' a' w' r s k => hq .normal fr' a' w' r s k) hb hc2 hr (Same.refl w) hd)
    | false =>
      rw [hy] at hd
      simp only [cond_false] at hd
      cases draw with
      | false => exact regionIn hE hF hc1 hc2 hr hd fun fr' a' w' r s k => hq .normal fr' a' w' r s k
      | true =>
        rcases hdf with rfl | hdf
        · exact wpIn_wide.2 (region_wp hE hc1 hr hd fun fr' a' w' r s k => hq .normal fr' a' w' r s k)
        · cases hdf
  | seq x y ihx ihy =>
    intro Q fr a w Q' hc hdf hr hd hq
    simp only [codeY, Bool.and_eq_true] at hc
    have hdx : F = Fence.wide ∨ drawFree x = true := hdf.imp id fun h => by simp only [drawFree, Bool.and_eq_true] at h; exact h.1
    have hdy : F = Fence.wide ∨ drawFree y = true := hdf.imp id fun h => by simp only [drawFree, Bool.and_eq_true] at h; exact h.2
    refine wpIn_seq (ihx hc.1 hdx hr hd fun e fr' a' w' r s k => ?_)
    cases e with
    | normal => exact ihy hc.2 hdy r k fun e2 fr2 a2 w2 r2 s2 k2 => hq e2 fr2 a2 w2 r2 (s.trans s2) k2
    | exit id => exact hq (.exit id) fr' a' w' r s k
    | ret => exact hq .ret fr' a' w' r s k
  | cond c x y ihx ihy =>
    intro Q fr a w Q' hc hdf hr hd hq
    simp only [codeY, Bool.and_eq_true] at hc
    have hdx : F = Fence.wide ∨ drawFree x = true := hdf.imp id fun h => by simp only [drawFree, Bool.and_eq_true] at h; exact h.1
    have hdy : F = Fence.wide ∨ drawFree y = true := hdf.imp id fun h => by simp only [drawFree, Bool.and_eq_true] at h; exact h.2
    simp only [denY] at hd
    split at hd
    · rename_i t ht
      have hev : a.eval c = .bool t := by rw [hr.ev]; exact ht
      refine wpIn_cond hev ?_
      cases t with
      | true => simp only [cond_true, updC_self ht] at hd; exact ihx hc.1 hdx hr hd hq
      | false => simp only [cond_false, updC_self ht] at hd; exact ihy hc.2 hdy hr hd hq
    · cases hd
  | block id c ih =>
    intro Q fr a w Q' hc hdf hr hd hq
    refine wpIn_block (ih hc hdf hr hd fun e fr' a' w' r s k => ?_)
    cases e with
    | normal => exact hq .normal fr' a' w' r s k
    | ret => exact hq .ret fr' a' w' r s k
    | exit id' =>
      simp only [Ex.inBlock] at k
      simp only [Ex.up, Exit.inBlock]
      cases hb : Nat.beq id' id with
      | true =>
        simp only [hb, cond_true] at k
        rw [if_pos (Nat.eq_of_beq_eq_true hb)]
        exact hq .normal fr' a' w' r s k
      | false =>
        simp only [hb, cond_false] at k
        rw [if_neg (fun e => by subst e; simp at hb)]
        exact hq (.exit id') fr' a' w' r s k
  | loop c ih =>
    intro Q fr a w Q' hc hdf hr hd hq
    obtain ⟨k, hd⟩ := hd
    refine wpIn_loop_rounds k ?_
    have key : ∀ k fr a w2, RelA n fr a → Same w w2 → iter (fun N => denY P E c (Ex.then N Q)) k fr w2.heap → Code.roundsIn F m P c Q' k a w2 := by
      intro k
      induction k with
      | zero => intro fr a w2 _ _ h; exact h.elim
      | succ k ihm =>
        intro fr a w2 hr s h
        rw [roundsIn_succ]
        refine ih hc hdf hr h fun e fr' a' w' r s' k => ?_
        cases e with
        | normal => exact ihm fr' a' w' r (s.trans s') k
        | exit id => exact hq (.exit id) fr' a' w' r (s.trans s') k
        | ret => exact hq .ret fr' a' w' r (s.trans s') k
    exact key k fr a w hr (Same.refl w) hd
  | _ => intro Q fr a w Q' hc hdf hr hd hq; exact hd.elim
theorem res_run (hE : EnvOk P E) {fn : Func} {rs : List ResultVar} (hrs : fn.results.toList = rs) {n : Nat} {fr : Fr} {a : Act} {w : World} (r : RelA n fr a) {R : Value → Hp → Prop}
    (k : resK E fr w.heap rs fun vs => R (mkRes vs) w.heap) : ∃ v, (results fn a.tmps).run P w = .ok v w ∧ R v w.heap := by
  obtain ⟨vs, h1, h2⟩ := resK_run hE r k
  refine ⟨_, ?_, h1⟩
  have hres : results fn a.tmps = (fn.results.mapM (resOne a.tmps) >>= fun vs => pure (if h : vs.size = 1 then vs[0] else .tuple vs)) := rfl
  rw [hres, Sem.run_bind, Array.mapM_eq_mapM_toList, Sem.run_map, hrs, h2]
  simp only [Result.andThen, Sem.run_pure]
  congr 1
  match vs with
  | [] => rfl
  | [t] => rfl
  | t :: t' :: ts => simp [mkRes]
/-- A function's call, by 'denY' of its body. -/
theorem calls_of_denY (hE : EnvOk P E) {f : FuncId} {fn : Func} {c : Code} {rs : List ResultVar} (hf : P.funcs[f]? = some fn) (hb : fn.body = some c) (hc : codeY E fn.ntmps c = true) (hrs : fn.results.toList = rs)
    {args : List Value} (hn : Nat.ble args.length fn.ntmps = true) {h : Hp} {R : Value → Hp → Prop}
    (hd : denY P E c (retQ E rs R) (initFr args) h) : HCalls P f args.toArray h R := by
  have hn := Nat.le_of_ble_eq_true hn
  intro w hw
  subst hw
  refine calls_of_wp hf hb ?_
  have hr := initFr_rel args fn.ntmps hn
  have hsz : fn.ntmps - args.toArray.size = fn.ntmps - args.length := by simp
  rw [hsz]
  refine (wpIn_wide (n := 0)).1 (denY_wpIn hE (.inl rfl) hc (.inl rfl) hr hd fun e fr' a' w' r s k => ?_)
  cases e with
  | normal => obtain ⟨v, h1, h2⟩ := res_run hE hrs r k; exact ⟨r.defers, v, h1, v, rfl, s, h2⟩
  | ret => obtain ⟨v, h1, h2⟩ := res_run hE hrs r k; exact ⟨r.defers, v, h1, v, rfl, s, h2⟩
  | exit id => exact k.elim
/-! ### steps, as in GvGen -/
theorem denY_enter {c : Code} {Q : Ex → Fr → Hp → Prop} {fr : Fr} {h : Hp} (l : List (Nat × Value)) (hl : AllEq fr l) {t : Prop} (ht : denY P E c Q (updL fr l) h = t) (g : t) : denY P E c Q fr h := by
  rw [← ht, updL_self hl] at g; exact g
theorem denY_first {N : Fr → Hp → Prop} {Q : Ex → Fr → Hp → Prop} : ∀ {n : Nat} {c : Code} (_ : ∀ fr h, N fr h → denY P E (rest n c) Q fr h) {fr : Fr} {h : Hp}, denY P E (first n c) (Ex.then N Q) fr h → denY P E c Q fr h := by
  have key : ∀ (c : Code), (∀ fr h, N fr h → denY P E .skip Q fr h) → ∀ {fr : Fr} {h : Hp}, denY P E c (Ex.then N Q) fr h → denY P E c Q fr h := by
    intro c hn fr h g
    refine denY_mono (fun e fr h g => ?_) g
    cases e with
    | normal => exact hn _ _ g
    | exit i => exact g
    | ret => exact g
  have one : ∀ (a b : Code), (∀ fr h, N fr h → denY P E b Q fr h) → ∀ {fr : Fr} {h : Hp}, denY P E a (Ex.then N Q) fr h → denY P E (.seq a b) Q fr h := by
    intro a b hn fr h g
    show denY P E a (Ex.then (denY P E b Q) Q) fr h
    refine denY_mono (fun e fr h g => ?_) g
    cases e with
    | normal => exact hn _ _ g
    | exit i => exact g
    | ret => exact g
  intro n
  induction n with
  | zero =>
    intro c hn fr h g
    have e1 : first 0 c = c := by cases c <;> rfl
    have e2 : rest 0 c = .skip := by cases c <;> rfl
    rw [e1] at g; rw [e2] at hn; exact key c hn g
  | succ n ih =>
    intro c hn fr h g
    cases c with
    | seq a b =>
      cases n with
      | zero => exact one a b hn g
      | succ m =>
        have g' : denY P E a (Ex.then (denY P E (first (m + 1) b) (Ex.then N Q)) (Ex.then N Q)) fr h := g
        rw [then_then] at g' <;> skip
        all_goals show denY P E a (Ex.then (denY P E b Q) Q) fr h
        all_goals refine denY_mono (fun e fr h g => ?_) g'
        all_goals cases e with
          | normal => exact ih hn g
          | exit i => exact g
          | ret => exact g
    | _ => exact key _ (by cases n <;> exact hn) (by cases n <;> exact g)
theorem denY_cut (n : Nat) {c r : Code} {N : Fr → Hp → Prop} {Q : Ex → Fr → Hp → Prop} (hr : rest n c = r) (hn : ∀ fr h, N fr h → denY P E r Q fr h) {fr : Fr} {h : Hp} (g : denY P E (first n c) (Ex.then N Q) fr h) : denY P E c Q fr h := by
  subst hr; exact denY_first hn g
theorem denY_block {c a : Code} {i : Nat} {Q : Ex → Fr → Hp → Prop} (hc : c = .block i a) {fr : Fr} {h : Hp} (g : denY P E a (Ex.inBlock i Q) fr h) : denY P E c Q fr h := by
  subst hc; exact g
theorem loopY_ok {c b : Code} {Q : Ex → Fr → Hp → Prop} (T : Nat → Fr → Hp → Prop) (hc : c = .loop b) (h0 : ∀ fr h, T 0 fr h → False) (hs : ∀ n fr h, T (n + 1) fr h → denY P E b (Ex.then (T n) Q) fr h) (n : Nat) (fr : Fr) (h : Hp) (g : T n fr h) : denY P E c Q fr h := by
  subst hc
  refine ⟨n, ?_⟩
  induction n generalizing fr h with
  | zero => exact (h0 fr h g).elim
  | succ n ih =>
    show denY P E b (Ex.then (iter (fun N => denY P E b (Ex.then N Q)) n) Q) fr h
    refine denY_mono (fun e fr h g => ?_) (hs n fr h g)
    cases e with
    | normal => exact ih _ _ g
    | exit i => exact g
    | ret => exact g
def gRaw (v : Value) (K : Value → Prop) : Prop := K v
theorem gRaw_elim {v : Value} {K : Value → Prop} (h : gRaw v K) : ∃ x, v = x ∧ K x := ⟨v, rfl, h⟩
theorem gRaw_intro {v x : Value} {K : Value → Prop} (e : v = x) (g : K x) : gRaw v K := by subst e; exact g
/-! ### a loop over a function: its parts -/
def rgA : Code → Code
  | .rangeFunc _ _ a _ => a
  | c => c
def rgB : Code → Code
  | .rangeFunc _ _ _ b => b
  | c => c
def preQ (T : Addr → Addr → Addr → Value → Hp → Prop) : Ex → Fr → Hp → Prop
  | .normal, fr, h => gPtrS (fr 1) fun q1 => gPtrS (fr 2) fun q2 => gPtrS (fr 4) fun q4 => gRaw (fr 14) fun v => T q1 q2 q4 v h
  | _, _, _ => False
def bodyQ (Kn Kr : Hp → Prop) : Ex → Fr → Hp → Prop
  | .normal, _, h => Kn h
  | .ret, _, h => Kr h
  | _, _, _ => False
end Go.Gv

/- Gv: a loop over a function: an iterator's contract over heaps, and the statement's walk. -/
namespace Go.Gv
set_option linter.unusedVariables false
set_option linter.unusedSimpArgs false
variable {P : Program} {E : Env}
/-- Nothing turns but blocks from B on that are no cells. -/
structure Ab (B : Nat) (h h' : Hp) : Prop where
  le : h.size ≤ h'.size
  at_ : ∀ (b : Nat) (o : Obj), h[b]? = some o → (b < B ∨ o.isCells = true) → h'[b]? = some o
theorem Ab.refl (B : Nat) (h : Hp) : Ab B h h := ⟨Nat.le_refl _, fun _ _ e _ => e⟩
theorem Ab.trans {B : Nat} {a b c : Hp} (x : Ab B a b) (y : Ab B b c) : Ab B a c := ⟨Nat.le_trans x.le y.le, fun i o e h => y.at_ i o (x.at_ i o e h) h⟩
theorem Keep.ab {B : Nat} {h h' : Hp} (k : Keep h h') : Ab B h h' := ⟨k.le, fun b o e _ => (k.pre b (Array.getElem?_eq_some_iff.1 e).1).trans e⟩
theorem Ab.put {B l : Nat} {h : Hp} {o : Obj} (o' : Obj) (hl : h[l]? = some o) (hB : B ≤ l) (ho : o.isCells = false) : Ab B h (h.setIfInBounds l o') := by
  refine ⟨by simp, fun b u e hb => ?_⟩
  have hne : l ≠ b := by
    rintro rfl
    rcases hb with hb | hb
    · omega
    · rw [hl] at e; cases e; rw [ho] at hb; cases hb
  rw [Array.getElem?_setIfInBounds_ne hne]; exact e
theorem Keep.push (h : Hp) (o : Obj) : Keep h (h.push o) := ⟨by simp, fun b hb => by rw [Array.getElem?_push, if_neg (by omega)]⟩
def KO (h h' : Hp) : Prop := ∀ (b : Nat) (o : Obj), h[b]? = some o → o.isCells = false → h'[b]? = some o
/-- A call of the yield of the loop l. -/
def YL (P : Program) (l : Nat) (args : Array Value) (h : Hp) (K : Value → Hp → Prop) : Prop :=
  ∀ w : World, w.heap = h → YieldAt Fence.wide 0 P l args w fun e w' => ∃ v, e = .returned v ∧ Same w w' ∧ K v w'.heap
theorem YL.yc {l : Nat} {args : Array Value} {h : Hp} {K : Value → Hp → Prop} (y : YL P l args h K) : YC P (.func (.yield l) #[] #[]) args h K := ⟨l, rfl, y⟩
theorem YL.mono {l : Nat} {args : Array Value} {h : Hp} {K K' : Value → Hp → Prop} (hk : ∀ v h, K v h → K' v h) (c : YL P l args h K) : YL P l args h K' := by
  intro w hw
  obtain ⟨fn, tmps, assign, body, r, k⟩ := c w hw
  exact ⟨fn, tmps, assign, body, r, k.mono fun e w' ⟨v, h1, h2, h3⟩ => ⟨v, h1, h2, hk _ _ h3⟩⟩
/-- An iterator's contract: whatever the rounds carry on (J) and leave by (Jx). -/
def SeqH {α : Type} (P : Program) (gf : Nat) (lb : Array Value) (encs : α → Array Value) (Kp : Hp → Hp → Prop) (S Sp : List α → Prop) (N : Nat) (h0 : Hp) : Prop :=
  ∀ (l : Nat) (J Jx : List α → Hp → Prop) (h : Hp), Keep h0 h → (∀ s h h', J s h → Keep h h' → J s h') → (∀ s h h', Jx s h → Keep h h' → Jx s h') →
    (∀ pre x h1, J pre h1 → pre.length < N → YL P l (encs x) h1 fun v h' => (v = .bool true ∧ J (pre ++ [x]) h' ∧ Kp h1 h') ∨ (v = .bool false ∧ Jx (pre ++ [x]) h')) →
    J [] h → HCalls P gf (#[.func (.yield l) #[] #[]] ++ lb) h fun _ h' => (∃ xs, S xs ∧ J xs h') ∨ (∃ pre, Sp pre ∧ Jx pre h')
def endP {α : Type} (Kp : Hp → Hp → Prop) (I Ix : List α → Hp → Prop) (xs : List α) (W : World) : Exit → Act → World → Prop
  | .normal, _, W' => Same W W' ∧ KO W.heap W'.heap ∧ Kp W.heap W'.heap ∧ I xs W'.heap
  | .ret, _, W' => Same W W' ∧ KO W.heap W'.heap ∧ Ix xs W'.heap
  | _, _, _ => False
theorem rg_wpIn {α : Type} {n : Nat} {g : Operand} {ps : Array Tmp} {assign body : Code} {Q : Exit → Act → World → Prop} {a : Act} {w : World}
    {gf : Nat} {lb : Array Value} (hg : a.eval g = .func (.func gf) #[] lb) (eg : ∀ args w, (callFunc gf args).run P w = .ok (.enter gf args) w)
    {encs : α → Array Value} {Kp : Hp → Hp → Prop} {S Sp : List α → Prop} {N : Nat} (hseq : SeqH P gf lb encs Kp S Sp N w.heap)
    (hKt : ∀ {A B C : Hp}, Kp A B → Kp B C → Kp A C) (hKb : ∀ h h', Ab w.heap.size h h' → Kp h h') (hps : ∀ x, (encs x).size = ps.size)
    (I Ix : List α → Hp → Prop) (hI : ∀ s h h', I s h → Ab w.heap.size h h' → I s h') (hIx : ∀ s h h', Ix s h → Ab w.heap.size h h' → Ix s h') (h0 : I [] w.heap) (a₁ : α → Act)
    (hassign : ∀ (l : Nat) (x : α) (W : World) (K : Act → World → Prop), K (a₁ x) W →
      assign.wpIn (Fence.wide.inRound l) 0 P (Exit.then K (fun _ _ _ => False)) { tmps := (ps.zip (encs x)).foldl (fun t (p, v) => t.setIfInBounds p v) a.tmps, defers := [] } W)
    (hbody : ∀ (l : Nat) (pre : List α) (x : α) (W : World), I pre W.heap → pre.length < N → body.wpIn (Fence.wide.inRound l) 0 P (endP Kp I Ix (pre ++ [x]) W) (a₁ x) W)
    (hdone : ∀ (D : Nat) (xs : List α) (W : World), w.heap.size ≤ D → Same w W → S xs → I xs W.heap → W.heap[D]? = some (.deferred (some [])) → Q .normal { a with defers := { target := .collected D, args := #[] } :: a.defers } W)
    (hstop : ∀ (D : Nat) (pre : List α) (W : World), w.heap.size ≤ D → Same w W → Sp pre → Ix pre W.heap → W.heap[D]? = some (.deferred (some [])) → Code.ret.wpIn Fence.wide n P Q { a with defers := { target := .collected D, args := #[] } :: a.defers } W) :
    (Code.rangeFunc g ps assign body).wpIn Fence.wide n P Q a w := by
  refine wpIn_rangeFunc ?_
  intro fn hfn
  rw [show Fence.wide.round = none from rfl]
  obtain ⟨rec, hrec⟩ : ∃ rec : LoopState → Option Code → Loop, rec = fun st pe => { state := st, pending := pe, fn, tmps := a.tmps, params := ps, assign, body, defers := w.heap.size } := ⟨_, rfl⟩
  obtain ⟨W1, hW1⟩ : ∃ W1, (w.alloc (.deferred (some []))).alloc (.loop (rec .ready none)) = W1 := ⟨_, rfl⟩
  have hL1 : W1.heap[w.heap.size + 1]? = some (.loop (rec .ready none)) := by
    rw [← hW1]; have := World.alloc_heap_new (w.alloc (.deferred (some []))) (.loop (rec .ready none)); rwa [World.size_alloc] at this
  have hK1 : W1.heap[w.heap.size]? = some (.deferred (some [])) := by
    rw [← hW1]; show ((w.heap.push _).push _)[w.heap.size]? = _; simp [Array.getElem?_push]
  have hk1 : Keep w.heap W1.heap := by rw [← hW1]; exact (Keep.push _ _).trans (Keep.push _ _)
  have hs1 : Same w W1 := by rw [← hW1]; exact ⟨rfl, rfl, rfl⟩
  have hI1 : I [] W1.heap := hI _ _ _ h0 hk1.ab
  refine ⟨w.heap.size + 1, [{ target := .collected w.heap.size, args := #[] }], W1, { target := .fn (.func gf) lb, args := #[.func (.yield (w.heap.size + 1)) #[] #[]] }, W1, gf,
    #[.func (.yield (w.heap.size + 1)) #[] #[]] ++ lb, W1, ?_, ?_, fun _ _ => trivial, ?_, fun e => (by cases e), ?_⟩
  · rw [← hW1, hrec]; exact run_enterLoop_outer _ _ _ _ _
  · simp only [resolve, hg]
    simp [go_sem]
  · simp [invoke, go_sem, eg]
  · have hcall := hseq (w.heap.size + 1)
      (fun pre h => I pre h ∧ h[w.heap.size + 1]? = some (.loop (rec .ready none)) ∧ h[w.heap.size]? = some (.deferred (some [])))
      (fun pre h => Ix pre h ∧ h[w.heap.size + 1]? = some (.loop (rec .done (some .ret))) ∧ h[w.heap.size]? = some (.deferred (some [])))
      W1.heap hk1
      (fun s A B hs hk => ⟨hI s A B hs.1 hk.ab, (hk.pre _ (Array.getElem?_eq_some_iff.1 hs.2.1).1).trans hs.2.1, (hk.pre _ (Array.getElem?_eq_some_iff.1 hs.2.2).1).trans hs.2.2⟩)
      (fun s A B hs hk => ⟨hIx s A B hs.1 hk.ab, (hk.pre _ (Array.getElem?_eq_some_iff.1 hs.2.1).1).trans hs.2.1, (hk.pre _ (Array.getElem?_eq_some_iff.1 hs.2.2).1).trans hs.2.2⟩)
      ?_ ⟨hI1, hL1, hK1⟩
    · refine CallsIn.mono (callsIn_wide.2 (hcall W1 rfl)) ?_
      rintro e W2 ⟨v, rfl, s2, (⟨xs, hS, hi, hl, hk⟩ | ⟨pre, hSp, hi, hl, hk⟩)⟩
      · refine ⟨none, W2.putObj (w.heap.size + 1) (.loop { rec .ready none with state := .exhausted }), by have := run_endLoop (P := P) hl (by rw [hrec]; simp); rw [hrec] at this ⊢; exact this, ?_⟩
        have s3 : Same W2 (W2.putObj (w.heap.size + 1) (.loop { rec .ready none with state := .exhausted })) := ⟨rfl, rfl, rfl⟩
        exact hdone _ xs _ (Nat.le_refl _) (hs1.trans (s2.trans s3)) hS (hI _ _ _ hi (Ab.put _ hl (by omega) rfl)) ((World.putObj_heap_other (by omega)).trans hk)
      · refine ⟨some .ret, W2.putObj (w.heap.size + 1) (.loop { rec .done (some .ret) with state := .exhausted }), by have := run_endLoop (P := P) hl (by rw [hrec]; simp); rw [hrec] at this ⊢; exact this, ?_⟩
        have s3 : Same W2 (W2.putObj (w.heap.size + 1) (.loop { rec .done (some .ret) with state := .exhausted })) := ⟨rfl, rfl, rfl⟩
        exact hstop _ pre _ (Nat.le_refl _) (hs1.trans (s2.trans s3)) hSp (hIx _ _ _ hi (Ab.put _ hl (by omega) rfl)) ((World.putObj_heap_other (by omega)).trans hk)
    · rintro pre x h1 ⟨hi, hl, hk⟩ hlen W rfl
      have hlt : w.heap.size + 1 < W.heap.size := (Array.getElem?_eq_some_iff.1 hl).1
      have hy := run_yield (P := P) (args := encs x) hl (by rw [hrec]; exact hps x)
      rw [hrec] at hy
      refine ⟨fn, _, assign, body, hy, roundIn_of_wpIn hfn (hassign _ x W _ ⟨_, run_beginRound hl (by rw [hrec]), ?_⟩)⟩
      have hl2 : (W.putObj (w.heap.size + 1) (.loop { rec .ready none with state := .busy })).heap[w.heap.size + 1]? = some (.loop { rec .ready none with state := .busy }) := World.putObj_heap_same hlt
      have hk2 : (W.putObj (w.heap.size + 1) (.loop { rec .ready none with state := .busy })).heap[w.heap.size]? = some (.deferred (some [])) := (World.putObj_heap_other (by omega)).trans hk
      have ha2 : Ab w.heap.size W.heap (W.putObj (w.heap.size + 1) (.loop { rec .ready none with state := .busy })).heap := Ab.put _ hl (by omega) rfl
      refine wpIn_mono (hbody _ pre x _ (hI _ _ _ hi ha2) hlen) ?_
      have fin : ∀ (jump : Option Code) (W3 : World), KO (W.putObj (w.heap.size + 1) (.loop { rec .ready none with state := .busy })).heap W3.heap →
          (Instr.endRound (w.heap.size + 1) jump).run P W3 = .ok (.bool jump.isNone) (W3.putObj (w.heap.size + 1) (.loop (rec (if jump.isNone then .ready else .done) jump))) ∧
          W3.heap[w.heap.size + 1]? = some (.loop { rec .ready none with state := .busy }) ∧
          (W3.putObj (w.heap.size + 1) (.loop (rec (if jump.isNone then .ready else .done) jump))).heap[w.heap.size + 1]? = some (.loop (rec (if jump.isNone then .ready else .done) jump)) ∧
          (W3.putObj (w.heap.size + 1) (.loop (rec (if jump.isNone then .ready else .done) jump))).heap[w.heap.size]? = some (.deferred (some [])) := fun jump W3 hk3 => by
        have hl3 := hk3 _ _ hl2 rfl
        have := run_endRound (P := P) jump hl3
        rw [hrec] at this ⊢
        exact ⟨this, by rw [hrec] at hl3; exact hl3, World.putObj_heap_same (Array.getElem?_eq_some_iff.1 hl3).1, (World.putObj_heap_other (by omega)).trans (hk3 _ _ hk2 rfl)⟩
      rintro e a3 W3 hp
      cases e with
      | normal =>
        obtain ⟨s3, hk3, hkp3, hi3⟩ := hp
        obtain ⟨hr, hl3, hl4, hk4⟩ := fin none W3 hk3
        have ha3 : Ab w.heap.size W3.heap (W3.putObj (w.heap.size + 1) (.loop (rec .ready none))).heap := Ab.put _ hl3 (by omega) rfl
        exact ⟨_, _, hr, _, rfl, ⟨s3.os, s3.tape, s3.output⟩, .inl ⟨rfl, ⟨hI _ _ _ hi3 ha3, hl4, hk4⟩, hKt (hKt (hKb _ _ ha2) hkp3) (hKb _ _ ha3)⟩⟩
      | ret =>
        obtain ⟨s3, hk3, hi3⟩ := hp
        obtain ⟨hr, hl3, hl4, hk4⟩ := fin (some .ret) W3 hk3
        have ha3 : Ab w.heap.size W3.heap (W3.putObj (w.heap.size + 1) (.loop (rec .done (some .ret)))).heap := Ab.put _ hl3 (by omega) rfl
        exact ⟨_, _, hr, _, rfl, ⟨s3.os, s3.tape, s3.output⟩, .inr ⟨rfl, hIx _ _ _ hi3 ha3, hl4, hk4⟩⟩
      | exit id => exact hp.elim
      | goto t => exact hp.elim
      | panic ch => exact hp.elim
      | outgrown => exact hp.elim
end Go.Gv

/- Functions of the translation as predicates over heaps, and that their calls do so. Written by a program of this work. -/
namespace Go.Proofs.YtjijdlkpmngolaaGreat.G
open Go.Gv
set_option linter.unusedVariables false
set_option maxRecDepth 100000
namespace nearpi_shared_1
noncomputable def C : Code := bodyOf Tryz.f104
def L2.g (N : Value → Option Addr → Nat → Nat → Option Addr → Nat → Nat → Option Addr → Nat → Nat → Option Addr → Nat → Nat → Hp → Prop) (fr : Fr) (h : Hp) : Prop := gRaw (fr 0) fun v0 => gSlice (fr 6) fun a6 l6 c6 => gSlice (fr 7) fun a7 l7 c7 => gSlice (fr 8) fun a8 l8 c8 => gSlice (fr 9) fun a9 l9 c9 => N v0 a6 l6 c6 a7 l7 c7 a8 l8 c8 a9 l9 c9 h
def D4.t (R : Rt) (N2 : Value → Option Addr → Nat → Nat → Option Addr → Nat → Nat → Option Addr → Nat → Nat → Option Addr → Nat → Nat → Hp → Prop) (v0 : Value) (a6 : Option Addr) (l6 : Nat) (c6 : Nat) (a7 : Option Addr) (l7 : Nat) (c7 : Nat) (a8 : Option Addr) (l8 : Nat) (c8 : Nat) (a9 : Option Addr) (l9 : Nat) (c9 : Nat) (h : Hp) : Prop :=
  HC natdiv_QuoRem.id #[.slice a6 l6 c6, .slice a7 l7 c7] h fun v9 h10 =>
  gTup v9 fun y11 =>
  uncons y11 fun v12 y12 =>
  gSlice v12 fun a_13 l_13 c_13 =>
  uncons y12 fun v14 y14 =>
  gSlice v14 fun a_15 l_15 c_15 =>
  uncons y14 fun v16 y16 =>
  gInt .i64 v16 fun x_17 =>
  unnil y16 <| HC natdiv_QuoRem.id #[.slice a8 l8 c8, .slice a9 l9 c9] h10 fun v18 h19 =>
  gTup v18 fun y20 =>
  uncons y20 fun v21 y21 =>
  gSlice v21 fun a_22 l_22 c_22 =>
  uncons y21 fun v23 y23 =>
  gSlice v23 fun a_24 l_24 c_24 =>
  uncons y23 fun v25 y25 =>
  gInt .i64 v25 fun x_26 =>
  unnil y25 <| cond (x_17 != 0) (R (.tuple #[]) h19) (cond (x_26 != 0) (R (.tuple #[]) h19) (HC nat_Cmp.id #[.slice a_13 l_13 c_13, .slice a_22 l_22 c_22] h19 fun v27 h28 =>
  gInt .i64 v27 fun x_29 =>
  cond (x_29 != 0) (R (.tuple #[]) h28) (cond (decide ((((l_13 : Nat) : Int)) > 1)) (R (.tuple #[]) h28) (cond ((((l_13 : Nat) : Int)) == 1) (idxK a_13 l_13 0 1 fun q30 =>
  ldK h28 q30 fun v31 =>
  gInt .u64 v31 fun x_32 =>
  YC prog v0 #[.int .u64 x_32] h28 fun v33 h34 =>
  gBool v33 fun b_35 =>
  cond (!b_35) (R (.tuple #[]) h34) (N2 v0 a7 l7 c7 a_15 l_15 c_15 a9 l9 c9 a_24 l_24 c_24 h34)) (YC prog v0 #[.int .u64 0] h28 fun v36 h37 =>
  gBool v36 fun b_38 =>
  cond (!b_38) (R (.tuple #[]) h37) (N2 v0 a7 l7 c7 a_15 l_15 c_15 a9 l9 c9 a_24 l_24 c_24 h37))))))
def D4.g (R : Rt) (N2 : Value → Option Addr → Nat → Nat → Option Addr → Nat → Nat → Option Addr → Nat → Nat → Option Addr → Nat → Nat → Hp → Prop) (fr : Fr) (h : Hp) : Prop := gRaw (fr 0) fun v0 => gSlice (fr 6) fun a6 l6 c6 => gSlice (fr 7) fun a7 l7 c7 => gSlice (fr 8) fun a8 l8 c8 => gSlice (fr 9) fun a9 l9 c9 => D4.t R N2 v0 a6 l6 c6 a7 l7 c7 a8 l8 c8 a9 l9 c9 h
theorem D4.ok (R : Rt) (N2 : Value → Option Addr → Nat → Nat → Option Addr → Nat → Nat → Option Addr → Nat → Nat → Option Addr → Nat → Nat → Hp → Prop) (fr : Fr) (h : Hp) (g : D4.g R N2 fr h) : denY prog E (cAt C [true, false, false, true]) (Ex.then (L2.g N2) (Ex.inBlock 0 (retQ E [] R))) fr h := by
  obtain ⟨v0, e0, g⟩ := gRaw_elim g
  obtain ⟨a6, l6, c6, e6, g⟩ := gSlice_elim g
  obtain ⟨a7, l7, c7, e7, g⟩ := gSlice_elim g
  obtain ⟨a8, l8, c8, e8, g⟩ := gSlice_elim g
  obtain ⟨a9, l9, c9, e9, g⟩ := gSlice_elim g
  exact denY_enter [(0, v0), (6, .slice a6 l6 c6), (7, .slice a7 l7 c7), (8, .slice a8 l8 c8), (9, .slice a9 l9 c9)] ⟨e0, e6, e7, e8, e9, trivial⟩ (by kernel_rfl) g
def D3.t (R : Rt) (N2 : Value → Option Addr → Nat → Nat → Option Addr → Nat → Nat → Option Addr → Nat → Nat → Option Addr → Nat → Nat → Hp → Prop) (v0 : Value) (a6 : Option Addr) (l6 : Nat) (c6 : Nat) (a7 : Option Addr) (l7 : Nat) (c7 : Nat) (a8 : Option Addr) (l8 : Nat) (c8 : Nat) (a9 : Option Addr) (l9 : Nat) (c9 : Nat) (h : Hp) : Prop :=
  cond (decide ((((l7 : Nat) : Int)) > 0)) (cond (decide ((((l9 : Nat) : Int)) > 0)) (D4.t R N2 v0 a6 l6 c6 a7 l7 c7 a8 l8 c8 a9 l9 c9 h) (R (.tuple #[]) h)) (R (.tuple #[]) h)
def D3.g (R : Rt) (N2 : Value → Option Addr → Nat → Nat → Option Addr → Nat → Nat → Option Addr → Nat → Nat → Option Addr → Nat → Nat → Hp → Prop) (fr : Fr) (h : Hp) : Prop := gRaw (fr 0) fun v0 => gSlice (fr 6) fun a6 l6 c6 => gSlice (fr 7) fun a7 l7 c7 => gSlice (fr 8) fun a8 l8 c8 => gSlice (fr 9) fun a9 l9 c9 => D3.t R N2 v0 a6 l6 c6 a7 l7 c7 a8 l8 c8 a9 l9 c9 h
theorem D3.ok (R : Rt) (N2 : Value → Option Addr → Nat → Nat → Option Addr → Nat → Nat → Option Addr → Nat → Nat → Option Addr → Nat → Nat → Hp → Prop) (fr : Fr) (h : Hp) (g : D3.g R N2 fr h) : denY prog E (cAt C [true, false, false]) (Ex.then (L2.g N2) (Ex.inBlock 0 (retQ E [] R))) fr h := by
  obtain ⟨v0, e0, g⟩ := gRaw_elim g
  obtain ⟨a6, l6, c6, e6, g⟩ := gSlice_elim g
  obtain ⟨a7, l7, c7, e7, g⟩ := gSlice_elim g
  obtain ⟨a8, l8, c8, e8, g⟩ := gSlice_elim g
  obtain ⟨a9, l9, c9, e9, g⟩ := gSlice_elim g
  exact denY_cut 1 (r := (cAt C [true, false, false, true])) (by kernel_rfl) (D4.ok R N2) (denY_enter [(0, v0), (6, .slice a6 l6 c6), (7, .slice a7 l7 c7), (8, .slice a8 l8 c8), (9, .slice a9 l9 c9)] ⟨e0, e6, e7, e8, e9, trivial⟩ (by kernel_rfl) g)
def L2.t (R : Rt) : Nat → Value → Option Addr → Nat → Nat → Option Addr → Nat → Nat → Option Addr → Nat → Nat → Option Addr → Nat → Nat → Hp → Prop
  | 0 => fun _ _ _ _ _ _ _ _ _ _ _ _ _ _ => False
  | n + 1 => fun v0 a6 l6 c6 a7 l7 c7 a8 l8 c8 a9 l9 c9 h => D3.t R (L2.t R n) v0 a6 l6 c6 a7 l7 c7 a8 l8 c8 a9 l9 c9 h
theorem L2.ok (R : Rt) (fr : Fr) (h : Hp) (g : L2.g (fun v0 a6 l6 c6 a7 l7 c7 a8 l8 c8 a9 l9 c9 h => ∃ n, L2.t R n v0 a6 l6 c6 a7 l7 c7 a8 l8 c8 a9 l9 c9 h) fr h) : denY prog E (cAt C [true, false]) (Ex.inBlock 0 (retQ E [] R)) fr h := by
  obtain ⟨v0, e0, g⟩ := gRaw_elim g
  obtain ⟨a6, l6, c6, e6, g⟩ := gSlice_elim g
  obtain ⟨a7, l7, c7, e7, g⟩ := gSlice_elim g
  obtain ⟨a8, l8, c8, e8, g⟩ := gSlice_elim g
  obtain ⟨a9, l9, c9, e9, g⟩ := gSlice_elim g
  obtain ⟨n, g⟩ := g
  refine loopY_ok (fun n => L2.g (L2.t R n)) (b := (cAt C [true, false, false])) (by kernel_rfl) (fun fr h g => ?_) (fun n => D3.ok R (L2.t R n)) n fr h (gRaw_intro e0 (gSlice_intro e6 (gSlice_intro e7 (gSlice_intro e8 (gSlice_intro e9 (g))))))
  obtain ⟨v0, e0, g⟩ := gRaw_elim g
  obtain ⟨a6, l6, c6, e6, g⟩ := gSlice_elim g
  obtain ⟨a7, l7, c7, e7, g⟩ := gSlice_elim g
  obtain ⟨a8, l8, c8, e8, g⟩ := gSlice_elim g
  obtain ⟨a9, l9, c9, e9, g⟩ := gSlice_elim g
  exact g
theorem B5.ok (R : Rt) (fr : Fr) (h : Hp) (g : L2.g (fun v0 a6 l6 c6 a7 l7 c7 a8 l8 c8 a9 l9 c9 h => ∃ n, L2.t R n v0 a6 l6 c6 a7 l7 c7 a8 l8 c8 a9 l9 c9 h) fr h) : denY prog E (cAt C [true]) (retQ E [] R) fr h :=
  denY_block (by kernel_rfl) (L2.ok R fr h g)
def D1.t (R : Rt) (v0 : Value) (q1 : Addr) (q2 : Addr) (q3 : Addr) (q4 : Addr) (h : Hp) : Prop :=
  ldK h q1 fun v1 =>
  gSlice v1 fun a_2 l_2 c_2 =>
  ldK h q2 fun v3 =>
  gSlice v3 fun a_4 l_4 c_4 =>
  ldK h q3 fun v5 =>
  gSlice v5 fun a_6 l_6 c_6 =>
  ldK h q4 fun v7 =>
  gSlice v7 fun a_8 l_8 c_8 =>
  (∃ n, L2.t R n v0 a_2 l_2 c_2 a_4 l_4 c_4 a_6 l_6 c_6 a_8 l_8 c_8 h)
def D1.g (R : Rt) (fr : Fr) (h : Hp) : Prop := gRaw (fr 0) fun v0 => gPtrS (fr 1) fun q1 => gPtrS (fr 2) fun q2 => gPtrS (fr 3) fun q3 => gPtrS (fr 4) fun q4 => D1.t R v0 q1 q2 q3 q4 h
theorem D1.ok (R : Rt) (fr : Fr) (h : Hp) (g : D1.g R fr h) : denY prog E C (retQ E [] R) fr h := by
  obtain ⟨v0, e0, g⟩ := gRaw_elim g
  obtain ⟨q1, e1, g⟩ := gPtrS_elim g
  obtain ⟨q2, e2, g⟩ := gPtrS_elim g
  obtain ⟨q3, e3, g⟩ := gPtrS_elim g
  obtain ⟨q4, e4, g⟩ := gPtrS_elim g
  exact denY_cut 1 (r := (cAt C [true])) (by kernel_rfl) (B5.ok R) (denY_enter [(0, v0), (1, .pointer (some q1)), (2, .pointer (some q2)), (3, .pointer (some q3)), (4, .pointer (some q4))] ⟨e0, e1, e2, e3, e4, trivial⟩ (by kernel_rfl) g)
def t (v0 : Value) (q1 : Addr) (q2 : Addr) (q3 : Addr) (q4 : Addr) (h : Hp) (R : Rt) : Prop := D1.t R v0 q1 q2 q3 q4 h
theorem ok {v0 : Value} {q1 : Addr} {q2 : Addr} {q3 : Addr} {q4 : Addr} {h : Hp} {R : Rt} (g : t v0 q1 q2 q3 q4 h R) : HC id #[v0, .pointer (some q1), .pointer (some q2), .pointer (some q3), .pointer (some q4)] h R :=
  calls_of_denY envOk (c := C) (rs := []) Tryz.func104 (by kernel_rfl) (by kernel_rfl) (by kernel_rfl) (args := [v0, .pointer (some q1), .pointer (some q2), .pointer (some q3), .pointer (some q4)]) (by kernel_rfl) (D1.ok R _ h (gRaw_intro rfl (gPtrS_intro rfl (gPtrS_intro rfl (gPtrS_intro rfl (gPtrS_intro rfl (g)))))))
end nearpi_shared_1

namespace nearpi_quotients
noncomputable def C : Code := bodyOf Tryz.f52
def D2.t (R : Rt) (a3 : Option Addr) (l3 : Nat) (c3 : Nat) (a5 : Option Addr) (l5 : Nat) (c5 : Nat) (a7 : Option Addr) (l7 : Nat) (c7 : Nat) (h : Hp) : Prop :=
  HC nearpi_shared.id #[.slice a3 l3 c3, .slice a7 l7 c7, .slice a5 l5 c5, .slice a7 l7 c7] h fun v29 h30 =>
  R (v29) h30
def D2.g (R : Rt) (fr : Fr) (h : Hp) : Prop := gSlice (fr 3) fun a3 l3 c3 => gSlice (fr 5) fun a5 l5 c5 => gSlice (fr 7) fun a7 l7 c7 => D2.t R a3 l3 c3 a5 l5 c5 a7 l7 c7 h
theorem D2.ok (R : Rt) (fr : Fr) (h : Hp) (g : D2.g R fr h) : den prog E (cAt C [true, true, true, true, true]) (retQ E [.tmp 2] R) fr h := by
  obtain ⟨a3, l3, c3, e3, g⟩ := gSlice_elim g
  obtain ⟨a5, l5, c5, e5, g⟩ := gSlice_elim g
  obtain ⟨a7, l7, c7, e7, g⟩ := gSlice_elim g
  exact den_enter [(3, .slice a3 l3 c3), (5, .slice a5 l5 c5), (7, .slice a7 l7 c7)] ⟨e3, e5, e7, trivial⟩ (by kernel_rfl) g
def D1.t (R : Rt) (x0 : Int) (h : Hp) : Prop :=
  HC piconst_FloorPi.id #[.int .i64 x0] h fun v1 h2 =>
  gTup v1 fun y3 =>
  uncons y3 fun v4 y4 =>
  gSlice v4 fun a_5 l_5 c_5 =>
  uncons y4 fun v6 y6 =>
  gInt .i64 v6 fun x_7 =>
  unnil y6 <| HC nat_Word.id #[.int .u64 1] h2 fun v8 h9 =>
  gSlice v8 fun a_10 l_10 c_10 =>
  HC nat_Add.id #[.slice a_5 l_5 c_5, .slice a_10 l_10 c_10] h9 fun v11 h12 =>
  gTup v11 fun y13 =>
  uncons y13 fun v14 y14 =>
  gSlice v14 fun a_15 l_15 c_15 =>
  uncons y14 fun v16 y16 =>
  gInt .i64 v16 fun x_17 =>
  unnil y16 <| HC nat_Word.id #[.int .u64 1] h12 fun v18 h19 =>
  gSlice v18 fun a_20 l_20 c_20 =>
  letK (IntKind.i64.wrap (x0 + 1)) fun n21 =>
  HC nat_Shl.id #[.slice a_20 l_20 c_20, .int .i64 n21] h19 fun v22 h23 =>
  gTup v22 fun y24 =>
  uncons y24 fun v25 y25 =>
  gSlice v25 fun a_26 l_26 c_26 =>
  uncons y25 fun v27 y27 =>
  gInt .i64 v27 fun x_28 =>
  unnil y27 <| cond (x_7 != 0) (R (.func (.func 83) #[] #[]) h23) (cond (x_17 != 0) (R (.func (.func 83) #[] #[]) h23) (cond (x_28 != 0) (R (.func (.func 83) #[] #[]) h23) (D2.t R a_5 l_5 c_5 a_15 l_15 c_15 a_26 l_26 c_26 h23)))
def D1.g (R : Rt) (fr : Fr) (h : Hp) : Prop := gInt .i64 (fr 0) fun x0 => D1.t R x0 h
theorem D1.ok (R : Rt) (fr : Fr) (h : Hp) (g : D1.g R fr h) : den prog E C (retQ E [.tmp 2] R) fr h := by
  obtain ⟨x0, e0, g⟩ := gInt_elim g
  exact den_cut 5 (r := (cAt C [true, true, true, true, true])) (by kernel_rfl) (D2.ok R) (den_enter [(0, .int .i64 x0)] ⟨e0, trivial⟩ (by kernel_rfl) g)
def t (x0 : Int) (h : Hp) (R : Rt) : Prop := D1.t R x0 h
theorem ok {x0 : Int} {h : Hp} {R : Rt} (g : t x0 h R) : HC id #[.int .i64 x0] h R :=
  calls_of_den' envOk (c := C) (rs := [.tmp 2]) Tryz.func52 (by kernel_rfl) (by kernel_rfl) (by kernel_rfl) (args := [.int .i64 x0]) (by kernel_rfl) (D1.ok R _ h (gInt_intro rfl (g)))
end nearpi_quotients


namespace nearpi_shared
noncomputable def C : Code := bodyOf Tryz.f84
def D1.t (R : Rt) (a0 : Option Addr) (l0 : Nat) (c0 : Nat) (a1 : Option Addr) (l1 : Nat) (c1 : Nat) (a2 : Option Addr) (l2 : Nat) (c2 : Nat) (a3 : Option Addr) (l3 : Nat) (c3 : Nat) (h : Hp) : Prop :=
  boxK h 30 [.slice a0 l0 c0] fun q1 h2 =>
  boxK h2 30 [.slice a1 l1 c1] fun q3 h4 =>
  boxK h4 30 [.slice a2 l2 c2] fun q5 h6 =>
  boxK h6 30 [.slice a3 l3 c3] fun q7 h8 =>
  R ((.func (.func 104) #[] #[.pointer (some q1), .pointer (some q3), .pointer (some q5), .pointer (some q7)])) h8
def D1.g (R : Rt) (fr : Fr) (h : Hp) : Prop := gSlice (fr 0) fun a0 l0 c0 => gSlice (fr 1) fun a1 l1 c1 => gSlice (fr 2) fun a2 l2 c2 => gSlice (fr 3) fun a3 l3 c3 => D1.t R a0 l0 c0 a1 l1 c1 a2 l2 c2 a3 l3 c3 h
theorem D1.ok (R : Rt) (fr : Fr) (h : Hp) (g : D1.g R fr h) : denY prog E C (retQ E [.tmp 8] R) fr h := by
  obtain ⟨a0, l0, c0, e0, g⟩ := gSlice_elim g
  obtain ⟨a1, l1, c1, e1, g⟩ := gSlice_elim g
  obtain ⟨a2, l2, c2, e2, g⟩ := gSlice_elim g
  obtain ⟨a3, l3, c3, e3, g⟩ := gSlice_elim g
  exact denY_enter [(0, .slice a0 l0 c0), (1, .slice a1 l1 c1), (2, .slice a2 l2 c2), (3, .slice a3 l3 c3)] ⟨e0, e1, e2, e3, trivial⟩ (by kernel_rfl) g
def t (a0 : Option Addr) (l0 : Nat) (c0 : Nat) (a1 : Option Addr) (l1 : Nat) (c1 : Nat) (a2 : Option Addr) (l2 : Nat) (c2 : Nat) (a3 : Option Addr) (l3 : Nat) (c3 : Nat) (h : Hp) (R : Rt) : Prop := D1.t R a0 l0 c0 a1 l1 c1 a2 l2 c2 a3 l3 c3 h
theorem ok {a0 : Option Addr} {l0 : Nat} {c0 : Nat} {a1 : Option Addr} {l1 : Nat} {c1 : Nat} {a2 : Option Addr} {l2 : Nat} {c2 : Nat} {a3 : Option Addr} {l3 : Nat} {c3 : Nat} {h : Hp} {R : Rt} (g : t a0 l0 c0 a1 l1 c1 a2 l2 c2 a3 l3 c3 h R) : HC id #[.slice a0 l0 c0, .slice a1 l1 c1, .slice a2 l2 c2, .slice a3 l3 c3] h R :=
  calls_of_denY envOk (c := C) (rs := [.tmp 8]) Tryz.func84 (by kernel_rfl) (by kernel_rfl) (by kernel_rfl) (args := [.slice a0 l0 c0, .slice a1 l1 c1, .slice a2 l2 c2, .slice a3 l3 c3]) (by kernel_rfl) (D1.ok R _ h (gSlice_intro rfl (gSlice_intro rfl (gSlice_intro rfl (gSlice_intro rfl (g))))))
end nearpi_shared

namespace nearpi_shared_1
theorem enters (args : Array Value) (w : World) : (callFunc id args).run prog w = .ok (.enter id args) w := Go.Proofs.enters_of Tryz.func104 (by kernel_rfl) (c := C) (by kernel_rfl) args w
end nearpi_shared_1
namespace nearpi_first
noncomputable def F : Func := Tryz.f28
theorem at_ : prog.funcs[id]? = some F := Tryz.func28
noncomputable def C : Code := bodyOf F
theorem body : F.body = some C := by kernel_rfl
theorem results : F.results.toList = [.cell 2 30] := by kernel_rfl
theorem ntmps : F.ntmps = 28 := by kernel_rfl
noncomputable def R0 : Code := (cAt C [false])
noncomputable def R1 : Code := (cAt C [true, false])
noncomputable def R3 : Code := (cAt C [true, true, false, false, false, false, false])
noncomputable def R4 : Code := (cAt C [true, true, false, false, false, false, true, false, false])
noncomputable def RF : Code := (cAt C [true, true, false, false, false, false, true, false, true, false])
noncomputable def Rest : Code := (cAt C [true, true, false, false, false, false, true, true])
noncomputable def R2 : Code := (cAt C [true, true, false, false, true])
noncomputable def As : Code := rgA RF
noncomputable def Bo : Code := rgB RF
theorem code : C = .seq R0 (.seq R1 (.block 0 (.loop (.seq (.block 1 (.seq R3 (.seq (.seq R4 (.block 2 (.rangeFunc (.tmp 14) #[15] As Bo))) Rest))) R2)))) := by kernel_rfl
noncomputable def Pre : Code := .seq R0 (.seq R1 (.seq R3 R4))
def PreD.t (T : Addr → Addr → Addr → Value → Hp → Prop) (x0 : Int) (h : Hp) : Prop :=
  boxK h 3 [.int .i64 x0] fun q1 h2 =>
  boxK h2 30 T30.zs fun q3 h4 =>
  ldK h4 q1 fun v5 =>
  gInt .i64 v5 fun x_6 =>
  letK (IntKind.i64.wrap (4 * x_6)) fun n7 =>
  letK (IntKind.i64.wrap (n7 + 64)) fun n8 =>
  ldK h4 q1 fun v9 =>
  gInt .i64 v9 fun x_10 =>
  mkK h4 35 T35 0 x_10 fun q11 h12 =>
  boxK h12 30 T30.zs fun q13 h14 =>
  stK h14 q13 (.slice (some q11) ((0 : Int).toNat) x_10.toNat) fun h15 =>
  HC nearpi_quotients.id #[.int .i64 n8] h15 fun v16 h17 =>
  T q1 q3 q13 v16 h17
def PreD.g (T : Addr → Addr → Addr → Value → Hp → Prop) (fr : Fr) (h : Hp) : Prop := gInt .i64 (fr 0) fun x0 => PreD.t T x0 h
theorem PreD.ok (T : Addr → Addr → Addr → Value → Hp → Prop) (fr : Fr) (h : Hp) (g : PreD.g T fr h) : denY prog E Pre (preQ T) fr h := by
  obtain ⟨x0, e0, g⟩ := gInt_elim g
  exact denY_enter [(0, .int .i64 x0)] ⟨e0, trivial⟩ (by kernel_rfl) g
def BoD.t (Kn : Hp → Prop) (Kr : Hp → Prop) (q1 : Addr) (q2 : Addr) (q4 : Addr) (x5 : Int) (h : Hp) : Prop :=
  ldK h q4 fun v1 =>
  gSlice v1 fun a_2 l_2 c_2 =>
  boxK h 35 [.int .u64 x5] fun q3 h4 =>
  apK h4 35 T35 a_2 l_2 c_2 (.slice (some q3) 1 1) fun a_5 l_5 c_5 h5 =>
  stK h5 q4 (.slice a_5 l_5 c_5) fun h6 =>
  ldK h6 q4 fun v7 =>
  gSlice v7 fun a_8 l_8 c_8 =>
  ldK h6 q1 fun v9 =>
  gInt .i64 v9 fun x_10 =>
  cond ((((l_8 : Nat) : Int)) == x_10) (ldK h6 q4 fun v11 =>
  gSlice v11 fun a_12 l_12 c_12 =>
  stK h6 q2 (.slice a_12 l_12 c_12) fun h13 =>
  Kr h13) (Kn h6)
def BoD.g (Kn : Hp → Prop) (Kr : Hp → Prop) (fr : Fr) (h : Hp) : Prop := gPtrS (fr 1) fun q1 => gPtrS (fr 2) fun q2 => gPtrS (fr 4) fun q4 => gInt .u64 (fr 5) fun x5 => BoD.t Kn Kr q1 q2 q4 x5 h
theorem BoD.ok (Kn : Hp → Prop) (Kr : Hp → Prop) (fr : Fr) (h : Hp) (g : BoD.g Kn Kr fr h) : denY prog E Bo (bodyQ Kn Kr) fr h := by
  obtain ⟨q1, e1, g⟩ := gPtrS_elim g
  obtain ⟨q2, e2, g⟩ := gPtrS_elim g
  obtain ⟨q4, e4, g⟩ := gPtrS_elim g
  obtain ⟨x5, e5, g⟩ := gInt_elim g
  exact denY_enter [(1, .pointer (some q1)), (2, .pointer (some q2)), (4, .pointer (some q4)), (5, .int .u64 x5)] ⟨e1, e2, e4, e5, trivial⟩ (by kernel_rfl) g
theorem okPre : codeY E 28 R0 = true ∧ codeY E 28 R1 = true ∧ codeY E 28 R3 = true ∧ codeY E 28 R4 = true := ⟨by kernel_rfl, by kernel_rfl, by kernel_rfl, by kernel_rfl⟩
theorem okBo : codeY E 28 Bo = true := by kernel_rfl
theorem freeBo : drawFree Bo = true := by kernel_rfl
theorem asg : ∃ i t p, As = .region i #[{ dst := some 5, op := .assign (.tmp 15), type := t, pos := p, after := #[], guard := none }] false := ⟨5, 35, "nearpi.go:60", by kernel_rfl⟩
theorem ret_ok {fr : Fr} {h : Hp} {q : Addr} {K : List Value → Prop} (e : fr 2 = .pointer (some q)) (g : ldK h q fun v => gSlice v fun a l c => K [.slice a l c]) : resK E fr h [.cell 2 30] K := by
  have hh : resK E (upd fr 2 (.pointer (some q))) h [.cell 2 30] K = (ldK h q fun v => gSlice v fun a l c => K [.slice a l c]) := by kernel_rfl
  rw [upd_self e] at hh; rw [hh]; exact g
end nearpi_first
end Go.Proofs.YtjijdlkpmngolaaGreat.G

/- nearpi: the quotients that two fractions have in common, as an iterator. -/
namespace Go.Proofs.YtjijdlkpmngolaaGreat.G
open Go.Gv
set_option linter.unusedVariables false
/-- Blocks of cells from B on stay. -/
structure KpB (B : Nat) (h h' : Hp) : Prop where
  le : h.size ≤ h'.size
  at_ : ∀ (b : Nat) (o : Obj), h[b]? = some o → B ≤ b → o.isCells = true → h'[b]? = some o
theorem KpB.trans {B : Nat} {a b c : Hp} (x : KpB B a b) (y : KpB B b c) : KpB B a c := ⟨Nat.le_trans x.le y.le, fun i o e h k => y.at_ i o (x.at_ i o e h k) h k⟩
theorem Ab.kp {B C : Nat} {h h' : Hp} (x : Ab C h h') : KpB B h h' := ⟨x.le, fun b o e _ k => x.at_ b o e (.inr k)⟩
theorem cell_obj {h : Hp} {q : Addr} {v : Value} (e : cellH h q = some v) : ∃ o : Obj, h[q.block]? = some o ∧ o.isCells = true := by
  unfold cellH at e
  split at e
  · rename_i c el fz hc; exact ⟨_, hc, rfl⟩
  · cases e
theorem Rd.kp {B : Nat} {h h' : Hp} {a : Option Addr} {c : Nat} {xs : List Nat} (r : Rd h a c xs) (hb : ∀ p, a = some p → B ≤ p.block) (k : KpB B h h') : Rd h' a c xs :=
  ⟨r.len, r.cap, r.words, fun i hi => by
    obtain ⟨p, e, g⟩ := r.at_ i hi
    refine ⟨p, e, ?_⟩
    obtain ⟨o, ho, hc⟩ := cell_obj g
    rw [cellH_congr (h := h) (by rw [ho]; exact k.at_ _ _ ho (by rw [add_block]; exact hb p e) hc)]; exact g⟩
theorem GotE.base {h0 h : Hp} {a : Option Addr} {c : Nat} {xs : List Nat} (g : GotE eU64 h0 h a c xs) : ∀ p, a = some p → h0.size ≤ p.block := by
  intro p e
  rcases g.here with ⟨_, e2, _⟩ | ⟨b', rest, e1, e2, _, _⟩
  · rw [e2] at e; cases e
  · rw [e1] at e; cases e; exact e2
/-- A number's list that lies at or beyond B. -/
structure RdB (B : Nat) (h : Hp) (a : Option Addr) (l c n : Nat) : Prop where
  rd : Rd h a c (digs n)
  len : l = (digs n).length
  base : ∀ p, a = some p → B ≤ p.block
  sm : Sm n
theorem RdB.keep {B : Nat} {h h' : Hp} {a : Option Addr} {l c n : Nat} (r : RdB B h a l c n) (k : Keep h h') : RdB B h' a l c n := ⟨r.rd.keep k, r.len, r.base, r.sm⟩
theorem RdB.kp {B : Nat} {h h' : Hp} {a : Option Addr} {l c n : Nat} (r : RdB B h a l c n) (k : KpB B h h') : RdB B h' a l c n := ⟨Rd.kp r.rd r.base k, r.len, r.base, r.sm⟩
theorem len_pos {n : Nat} : 0 < (digs n).length ↔ 0 < n := by
  constructor
  · intro h
    rcases Nat.eq_zero_or_pos n with e | e
    · subst e; rw [digs_zero] at h; simp at h
    · exact e
  · intro h; rw [digs_pos (by omega)]; simp
theorem len_word {n : Nat} : (digs n).length ≤ 1 ↔ n < 18446744073709551616 := by
  rw [digs_len]
theorem cmp0 {x y : Nat} (h : cmpI x y = 0) : x = y := by
  unfold cmpI at h
  split at h
  · exact absurd h (by decide)
  · split at h
    · assumption
    · exact absurd h (by decide)
abbrev Wd := { x : Nat // x < 18446744073709551616 }
def encW (x : Wd) : Array Value := #[.int .u64 ((x.1 : Nat) : Int)]
def numW (l : List Wd) : List Nat := l.map (·.1)
theorem numW_snoc (l : List Wd) (x : Wd) : numW (l ++ [x]) = numW l ++ [x.1] := by simp [numW]
/-- All that the fractions have in common has come. -/
def SDone (A B C D : Nat) (l : List Wd) : Prop := ∀ q, ¬ Shares (numW l ++ [q]) A B C D
def SPart (A B C D : Nat) (l : List Wd) : Prop := Shares (numW l) A B C D
theorem shared_walk {l N k0 : Nat} {J Jx : List Wd → Hp → Prop} {A0 B0 C0 D0 : Nat} (hJ : ∀ s h h', J s h → Keep h h' → J s h')
    (hY : ∀ pre x h1, J pre h1 → pre.length < N → YL prog l (encW x) h1 fun v h' => (v = .bool true ∧ J (pre ++ [x]) h' ∧ KpB k0 h1 h') ∨ (v = .bool false ∧ Jx (pre ++ [x]) h'))
    {R : Rt} (hR : ∀ h, ((∃ xs, (SPart A0 B0 C0 D0 xs ∧ SDone A0 B0 C0 D0 xs) ∧ J xs h) ∨ ∃ pre, SPart A0 B0 C0 D0 pre ∧ Jx pre h) → R (.tuple #[]) h) :
    ∀ (n : Nat) {A B C D : Nat} {a6 a7 a8 a9 : Option Addr} {l6 c6 l7 c7 l8 c8 l9 c9 : Nat} {pre : List Wd} {h : Hp}, B < n → pre.length + B ≤ N → k0 ≤ h.size → J pre h →
      RdB k0 h a6 l6 c6 A → RdB k0 h a7 l7 c7 B → RdB k0 h a8 l8 c8 C → RdB k0 h a9 l9 c9 D → (∀ T, Shares (numW pre ++ T) A0 B0 C0 D0 ↔ Shares T A B C D) →
      nearpi_shared_1.L2.t R n (.func (.yield l) #[] #[]) a6 l6 c6 a7 l7 c7 a8 l8 c8 a9 l9 c9 h := by
  intro n
  induction n with
  | zero => intro A B C D a6 a7 a8 a9 l6 c6 l7 c7 l8 c8 l9 c9 pre h hB; omega
  | succ n ih =>
    intro A B C D a6 a7 a8 a9 l6 c6 l7 c7 l8 c8 l9 c9 pre h hB hN hk0 hj r6 r7 r8 r9 hs
    have hpart : SPart A0 B0 C0 D0 pre := by have := (hs []).mpr trivial; rwa [List.append_nil] at this
    have stop : ∀ h', J pre h' → (∀ q, ¬ Shares [q] A B C D) → R (.tuple #[]) h' := fun h' hj hn => hR h' (.inl ⟨pre, ⟨hpart, fun q hq => hn q ((hs [q]).mp hq)⟩, hj⟩)
    unfold nearpi_shared_1.L2.t nearpi_shared_1.D3.t
    refine c_dec (fun h7 => ?_) fun h7 => stop h hj fun q hq => h7 (by have := hq.1.1; have := len_pos.mpr this; rw [r7.len]; omega)
    refine c_dec (fun h9 => ?_) fun h9 => stop h hj fun q hq => h9 (by have := hq.1.2.1; have := len_pos.mpr this; rw [r9.len]; omega)
    have hB0 : 0 < B := len_pos.mp (by rw [r7.len] at h7; omega)
    have hD0 : 0 < D := len_pos.mp (by rw [r9.len] at h9; omega)
    unfold nearpi_shared_1.D4.t
    refine c_quo r6.rd r6.len r7.rd r7.len (by omega) r6.sm r7.sm fun qa qc ra rc h1 k1 gq gr => ?_
    refine c_quo (r8.rd.keep k1) r8.len (r9.rd.keep k1) r9.len (by omega) r8.sm r9.sm fun sa sc ta tc h2 k2 gs gt => ?_
    refine c_ne (fun e => absurd rfl e) fun _ => ?_
    refine c_ne (fun e => absurd rfl e) fun _ => ?_
    have k12 := k1.trans k2
    refine c_cmp (gq.keep k2).rd64 rfl gs.rd64 rfl ?_
    refine c_ne (fun e => stop h2 (hJ _ _ _ hj k12) fun q hq => ?_) fun e => ?_
    · obtain ⟨⟨_, _, e1, e2, _⟩, _⟩ := hq
      rw [e1, e2] at e; simp [cmpI] at e
    have hqs : A / B = C / D := cmp0 e
    refine c_dec (fun hl => stop h2 (hJ _ _ _ hj k12) fun q hq => ?_) fun hl => ?_
    · obtain ⟨⟨_, _, e1, e2, e3⟩, _⟩ := hq
      have := len_word.mpr (e1 ▸ e3); omega
    have hw : A / B < 18446744073709551616 := len_word.mp (by omega)
    have hj2 := hJ _ _ _ hj k12
    have hlen : pre.length < N := by omega
    have round : ∀ (x : Wd), x.1 = A / B → YC prog (.func (.yield l) #[] #[]) (encW x) h2 fun v33 h34 => gBool v33 fun b_35 => cond (!b_35) (R (.tuple #[]) h34) (nearpi_shared_1.L2.t R n (.func (.yield l) #[] #[]) a7 l7 c7 ra (digs (A % B)).length rc a9 l9 c9 ta (digs (C % D)).length tc h34) := by
      intro x hx
      have hsh : ∀ T, Shares (numW (pre ++ [x]) ++ T) A0 B0 C0 D0 ↔ Shares T B (A % B) D (C % D) := by
        intro T
        rw [numW_snoc, List.append_assoc, hs]
        exact ⟨fun hh => hh.2, fun hh => ⟨⟨hB0, hD0, hx.symm, by rw [← hqs]; exact hx.symm, x.2⟩, hh⟩⟩
      refine (YL.mono (fun v h' g => ?_) (hY pre x h2 hj2 hlen)).yc
      rcases g with ⟨rfl, hj3, k3⟩ | ⟨rfl, hjx⟩
      · refine gBool_intro rfl ?_
        have hm : A % B < B := Nat.mod_lt _ hB0
        have hb1 : k0 ≤ h1.size := Nat.le_trans hk0 k1.le
        exact ih (by omega) (by rw [List.length_append, List.length_singleton]; omega) (Nat.le_trans hk0 (Nat.le_trans k12.le k3.le)) hj3 ((r7.keep k12).kp k3)
          (RdB.kp ⟨(gr.keep k2).rd64, rfl, fun p e => Nat.le_trans hk0 (GotE.base gr p e), sm_le (Nat.mod_le _ _) r6.sm⟩ k3) ((r9.keep k12).kp k3)
          (RdB.kp ⟨gt.rd64, rfl, fun p e => Nat.le_trans hb1 (GotE.base gt p e), sm_le (Nat.mod_le _ _) r8.sm⟩ k3) hsh
      · refine gBool_intro rfl ?_
        refine hR h' (.inr ⟨_, ?_, hjx⟩)
        have := (hsh []).mpr trivial
        rwa [List.append_nil] at this
    refine c_eq (fun h1l => ?_) fun h1l => ?_
    · refine at_intro (gq.keep k2).rd64 (j := 0) rfl rfl (by omega) ?_
      have e1 : (digs (A / B)).getD 0 0 = A / B := by
        rw [digs_pos (by intro e0; rw [e0, digs_zero] at h1l; simp at h1l)]
        show A / B % 18446744073709551616 = A / B
        exact Nat.mod_eq_of_lt hw
      rw [e1]
      exact round ⟨A / B, hw⟩ rfl
    · have e0 : A / B = 0 := by
        rcases Nat.eq_zero_or_pos (A / B) with e0 | e0
        · exact e0
        · have := len_pos.mpr e0; omega
      exact round ⟨0, by omega⟩ e0.symm
end Go.Proofs.YtjijdlkpmngolaaGreat.G

/- nearpi: quotients: what it hands back is such an iterator. -/
namespace Go.Proofs.YtjijdlkpmngolaaGreat.G
open Go.Gv
set_option linter.unusedVariables false
/-- Two neighbouring fractions' iterator, as a value. -/
structure SharedV (B : Nat) (h : Hp) (v : Value) (A0 B0 C0 D0 : Nat) : Prop where
  out : ∃ b1 b2 b3 b4 a1 l1 c1 a2 l2 c2 a3 l3 c3 a4 l4 c4, v = .func (.func nearpi_shared_1.id) #[] #[.pointer (some ⟨b1, 0, none⟩), .pointer (some ⟨b2, 0, none⟩), .pointer (some ⟨b3, 0, none⟩), .pointer (some ⟨b4, 0, none⟩)] ∧
    BlkV h b1 [.slice a1 l1 c1] ∧ BlkV h b2 [.slice a2 l2 c2] ∧ BlkV h b3 [.slice a3 l3 c3] ∧ BlkV h b4 [.slice a4 l4 c4] ∧ RdB B h a1 l1 c1 A0 ∧ RdB B h a2 l2 c2 B0 ∧ RdB B h a3 l3 c3 C0 ∧ RdB B h a4 l4 c4 D0
theorem shared_seq {B A0 B0 C0 D0 : Nat} {h0 : Hp} (hB : B ≤ h0.size) {b1 b2 b3 b4 : Nat} {a1 a2 a3 a4 : Option Addr} {l1 c1 l2 c2 l3 c3 l4 c4 : Nat}
    (o1 : BlkV h0 b1 [.slice a1 l1 c1]) (o2 : BlkV h0 b2 [.slice a2 l2 c2]) (o3 : BlkV h0 b3 [.slice a3 l3 c3]) (o4 : BlkV h0 b4 [.slice a4 l4 c4])
    (r1 : RdB B h0 a1 l1 c1 A0) (r2 : RdB B h0 a2 l2 c2 B0) (r3 : RdB B h0 a3 l3 c3 C0) (r4 : RdB B h0 a4 l4 c4 D0) :
    SeqH prog nearpi_shared_1.id #[.pointer (some ⟨b1, 0, none⟩), .pointer (some ⟨b2, 0, none⟩), .pointer (some ⟨b3, 0, none⟩), .pointer (some ⟨b4, 0, none⟩)] encW (KpB B) (fun xs => SPart A0 B0 C0 D0 xs ∧ SDone A0 B0 C0 D0 xs) (SPart A0 B0 C0 D0) B0 h0 := by
  intro l J Jx h k hJ hJx hY hj
  have e : (#[.func (.yield l) #[] #[]] ++ #[.pointer (some ⟨b1, 0, none⟩), .pointer (some ⟨b2, 0, none⟩), .pointer (some ⟨b3, 0, none⟩), .pointer (some ⟨b4, 0, none⟩)] : Array Value) =
      #[.func (.yield l) #[] #[], .pointer (some ⟨b1, 0, none⟩), .pointer (some ⟨b2, 0, none⟩), .pointer (some ⟨b3, 0, none⟩), .pointer (some ⟨b4, 0, none⟩)] := by simp
  rw [e]
  refine nearpi_shared_1.ok ?_
  unfold nearpi_shared_1.t nearpi_shared_1.D1.t
  refine ldV0 (o1.keep k) rfl (gSlice_intro rfl ?_)
  refine ldV0 (o2.keep k) rfl (gSlice_intro rfl ?_)
  refine ldV0 (o3.keep k) rfl (gSlice_intro rfl ?_)
  refine ldV0 (o4.keep k) rfl (gSlice_intro rfl ?_)
  exact ⟨B0 + 1, shared_walk (pre := []) hJ hY (fun h hh => hh) (B0 + 1) (by omega) (by simp) (Nat.le_trans hB k.le) hj (r1.keep k) (r2.keep k) (r3.keep k) (r4.keep k) (fun T => by simp [numW])⟩
theorem shared_spec {B A0 B0 C0 D0 : Nat} {h : Hp} {a1 a2 a3 a4 : Option Addr} {l1 c1 l2 c2 l3 c3 l4 c4 : Nat}
    (r1 : RdB B h a1 l1 c1 A0) (r2 : RdB B h a2 l2 c2 B0) (r3 : RdB B h a3 l3 c3 C0) (r4 : RdB B h a4 l4 c4 D0) :
    HC nearpi_shared.id #[.slice a1 l1 c1, .slice a2 l2 c2, .slice a3 l3 c3, .slice a4 l4 c4] h fun v h' => Keep h h' ∧ SharedV B h' v A0 B0 C0 D0 := by
  refine nearpi_shared.ok ?_
  unfold nearpi_shared.t nearpi_shared.D1.t
  refine boxV fun h1 o1 k1 => ?_
  refine boxV fun h2 o2 k2 => ?_
  refine boxV fun h3 o3 k3 => ?_
  refine boxV fun h4 o4 k4 => ?_
  have k14 := k1.trans (k2.trans (k3.trans k4))
  exact ⟨k14, ⟨_, _, _, _, _, _, _, _, _, _, _, _, _, _, _, _, rfl, o1.keep (k2.trans (k3.trans k4)), o2.keep (k3.trans k4), o3.keep k4, o4, r1.keep k14, r2.keep k14, r3.keep k14, r4.keep k14⟩⟩
theorem sm_pi {p : Nat} (hp : p < 4200) : Sm (piW p + 1) ∧ Sm (2 ^ (p + 1)) := by
  have h : piW p + 1 < 2 ^ 4403 := Nat.lt_of_le_of_lt (Nat.add_le_add_right (show piW p ≤ PI0 from Nat.div_le_self _ _) 1) (Nat.le_of_ble_eq_true (by kernel_rfl))
  exact ⟨sm_lt h (by omega), sm_lt (k := p + 2) (Nat.pow_lt_pow_right (by decide) (by omega)) (by omega)⟩
theorem quotients_spec {p : Nat} (h : Hp) (h1 : 1 ≤ p) (hp : p < 4200) : HC nearpi_quotients.id #[.int .i64 (p : Int)] h fun v h' => Keep h h' ∧ SharedV h.size h' v (piW p) (2 ^ (p + 1)) (piW p + 1) (2 ^ (p + 1)) := by
  obtain ⟨s1, s2⟩ := sm_pi hp
  refine nearpi_quotients.ok ?_
  unfold nearpi_quotients.t nearpi_quotients.D1.t
  refine hc_intro (FloorPi_spec h h1 hp) fun v g1 ⟨k1, t1⟩ => ?_
  refine t1.elimG fun a1 c1 r1 i1 => ?_
  refine c_word (x := 1) (by decide) fun a2 c2 g2 k2 r2 => ?_
  refine c_add (y := 1) (r1.keep k2).rd64 rfl r2.rd64 rfl s1 fun a3 c3 g3 k3 r3 => ?_
  refine c_word (x := 1) (by decide) fun a4 c4 g4 k4 r4 => ?_
  refine ⟨?_⟩
  have e1 : IntKind.i64.wrap ((p : Int) + 1) = ((p + 1 : Nat) : Int) := by rw [wrap_i64] <;> omega
  rw [e1]
  refine c_shl (n := p + 1) rfl r4.rd64 rfl (by omega) (sm_w (by decide)) (by rw [Nat.one_mul]; exact s2) fun a5 c5 g5 k5 r5 => ?_
  rw [Nat.one_mul] at r5 ⊢
  refine c_ne (fun e => absurd rfl e) fun _ => ?_
  refine c_ne (fun e => absurd rfl e) fun _ => ?_
  refine c_ne (fun e => absurd rfl e) fun _ => ?_
  unfold nearpi_quotients.D2.t
  have kk : ∀ {x : Hp}, Keep h x → h.size ≤ x.size := fun k => k.le
  refine hc_intro (shared_spec (B := h.size) (A0 := piW p) (B0 := 2 ^ (p + 1)) (C0 := piW p + 1) (D0 := 2 ^ (p + 1))
    ⟨(r1.keep (k2.trans (k3.trans (k4.trans k5)))).rd64, rfl, GotE.base r1, sm_le (by omega) s1⟩ ⟨r5.rd64, rfl, fun q e => Nat.le_trans (k1.trans (k2.trans (k3.trans k4))).le (GotE.base r5 q e), s2⟩
    ⟨(r3.keep (k4.trans k5)).rd64, rfl, fun q e => Nat.le_trans (k1.trans k2).le (GotE.base r3 q e), s1⟩ ⟨r5.rd64, rfl, fun q e => Nat.le_trans (k1.trans (k2.trans (k3.trans k4))).le (GotE.base r5 q e), s2⟩) fun v g6 ⟨k6, t6⟩ => ?_
  exact ⟨k1.trans (k2.trans (k3.trans (k4.trans (k5.trans k6)))), t6⟩
end Go.Proofs.YtjijdlkpmngolaaGreat.G

/- nearpi: first: the first n quotients. -/
namespace Go.Proofs.YtjijdlkpmngolaaGreat.G
open Go.Gv
set_option linter.unusedVariables false
theorem KeepB.ko {b : Nat} {h h' : Hp} {vs : List Value} (o : BlkV h b vs) (k : KeepB b h h') : KO h h' := fun b' u e hu => by
  have hne : b' ≠ b := by
    rintro rfl
    obtain ⟨el, g⟩ := o.at_
    rw [g] at e; cases e; cases hu
  rw [k.pre b' (Array.getElem?_eq_some_iff.1 e).1 hne]; exact e
theorem KO.trans {a b c : Hp} (x : KO a b) (y : KO b c) : KO a c := fun i o e h => y i o (x i o e h) h
theorem Keep.ko {h h' : Hp} (k : Keep h h') : KO h h' := fun b o e _ => (k.pre b (Array.getElem?_eq_some_iff.1 e).1).trans e
theorem Keep.kp {B : Nat} {h h' : Hp} (k : Keep h h') : KpB B h h' := ⟨k.le, fun b o e _ _ => (k.pre b (Array.getElem?_eq_some_iff.1 e).1).trans e⟩
theorem KeepB.kp {b B : Nat} {h h' : Hp} (k : KeepB b h h') (hb : b < B) : KpB B h h' := ⟨k.le, fun i o e hi _ => (k.pre i (Array.getElem?_eq_some_iff.1 e).1 (by omega)).trans e⟩
theorem keepX_kb {b : Nat} {h h' : Hp} (k : KeepX (some ⟨b, 0, none⟩) h h') : ∀ i, i < h.size → i ≠ b → h'[i]? = h[i]? := fun i hi hne => k.pre i hi fun p e => by cases e; exact fun e => hne e.symm
theorem blkV_ab {B b : Nat} {h h' : Hp} {vs : List Value} (o : BlkV h b vs) (k : Ab B h h') : BlkV h' b vs := by
  obtain ⟨e, g⟩ := o.at_; exact ⟨e, k.at_ _ _ g (.inr rfl)⟩
theorem blkE_ab {α : Type} {E : El α} {B b : Nat} {h h' : Hp} {vs : List α} (o : BlkE E h b vs) (k : Ab B h h') : BlkE E h' b vs := by
  obtain ⟨e, g⟩ := o.at_; exact ⟨o.ok, e, k.at_ _ _ g (.inr rfl)⟩
theorem got_ab {B c : Nat} {h0 h h' : Hp} {a : Option Addr} {xs : List Nat} (g : GotE eU64 h0 h a c xs) (k : Ab B h h') : GotE eU64 h0 h' a c xs :=
  ⟨g.len, g.cap, g.here.imp id fun ⟨b, rest, e1, e2, o, e3⟩ => ⟨b, rest, e1, e2, blkE_ab o k, e3⟩⟩
theorem got_kb {q c bl : Nat} {h0 h h' : Hp} {xs : List Nat} (g : GotE eU64 h0 h (some ⟨bl, 0, none⟩) c xs) (hne : bl ≠ q) (k : KeepB q h h') : GotE eU64 h0 h' (some ⟨bl, 0, none⟩) c xs := by
  refine ⟨g.len, g.cap, g.here.imp (fun ⟨_, e, _⟩ => by cases e) fun ⟨b, rest, e1, e2, o, e3⟩ => ⟨b, rest, e1, e2, ?_, e3⟩⟩
  cases e1; exact o.keepB hne k
theorem keep_ab {B : Nat} {h0 h h' : Hp} (k : Keep h0 h) (hB : h0.size ≤ B) (a : Ab B h h') : Keep h0 h' :=
  ⟨Nat.le_trans k.le a.le, fun b hb => by
    have e := k.pre b hb
    have hb' : b < h.size := Nat.lt_of_lt_of_le hb k.le
    rw [Array.getElem?_eq_getElem hb'] at e
    rw [a.at_ b _ (Array.getElem?_eq_getElem hb') (.inl (by omega))]; exact e⟩
/-- What the caller holds: its own blocks. -/
structure Hold (h0 : Hp) (n b1 b2 bl b4 : Nat) (pre : List Nat) (h : Hp) : Prop where
  keep : Keep h0 h
  num : BlkV h b1 [.int .i64 (n : Int)]
  res : BlkV h b2 [.slice none 0 0]
  var : BlkV h b4 [.slice (some ⟨bl, 0, none⟩) pre.length n]
  lst : GotE eU64 h0 h (some ⟨bl, 0, none⟩) n pre
  ord : h0.size ≤ b1 ∧ b1 < b2 ∧ b2 < bl ∧ bl < b4
  lt : pre.length < n
structure Gone (h0 : Hp) (n b2 bl : Nat) (pre : List Nat) (h : Hp) : Prop where
  keep : Keep h0 h
  res : BlkV h b2 [.slice (some ⟨bl, 0, none⟩) n n]
  lst : GotE eU64 h0 h (some ⟨bl, 0, none⟩) n pre
  ord : h0.size ≤ bl
  len : pre.length = n
theorem Hold.ab {B : Nat} {h0 h h' : Hp} {n b1 b2 bl b4 : Nat} {pre : List Nat} (o : Hold h0 n b1 b2 bl b4 pre h) (hB : h0.size ≤ B) (a : Ab B h h') : Hold h0 n b1 b2 bl b4 pre h' :=
  ⟨keep_ab o.keep hB a, blkV_ab o.num a, blkV_ab o.res a, blkV_ab o.var a, got_ab o.lst a, o.ord, o.lt⟩
theorem Gone.ab {B : Nat} {h0 h h' : Hp} {n b2 bl : Nat} {pre : List Nat} (o : Gone h0 n b2 bl pre h) (hB : h0.size ≤ B) (a : Ab B h h') : Gone h0 n b2 bl pre h' :=
  ⟨keep_ab o.keep hB a, blkV_ab o.res a, got_ab o.lst a, o.ord, o.len⟩
theorem body_spec {h0 : Hp} {n b1 b2 bl b4 B : Nat} {pre : List Nat} {x : Nat} (hx : x < 18446744073709551616) (hn : n ≤ 1000) {h : Hp} (o : Hold h0 n b1 b2 bl b4 pre h) (hB : b4 < B) {Kn Kr : Hp → Prop}
    (gn : ∀ h', KO h h' → KpB B h h' → Hold h0 n b1 b2 bl b4 (pre ++ [x]) h' → Kn h') (gr : ∀ h', KO h h' → Gone h0 n b2 bl (pre ++ [x]) h' → Kr h') :
    nearpi_first.BoD.t Kn Kr ⟨b1, 0, none⟩ ⟨b2, 0, none⟩ ⟨b4, 0, none⟩ (x : Int) h := by
  obtain ⟨u1, u2, u3, u4⟩ := o.ord
  have hlt := o.lt
  unfold nearpi_first.BoD.t
  refine ldV0 o.var rfl (gSlice_intro rfl ?_)
  refine boxE eU64 [x] rfl (by intro y hy; simp only [List.mem_singleton] at hy; subst hy; exact hx) fun h1 o1 k1 => ?_
  have hg : GotE eU64 h0 h1 (some ⟨bl, 0, none⟩) n pre := o.lst.keep k1
  have hr1 := o1.rd' (c := 1) (by show _ ≤ 35184372088828; simp) (by simp)
  refine apE2 hg (Nat.le_trans o.keep.le k1.le) hr1 rfl rfl (by rfl) 0 rfl (by decide) 8 rfl (by decide) (by show _ ≤ 35184372088828; simp; omega) (fun hc => by simp at hc; omega) fun a' c' h2 g2 kx hc => ?_
  obtain ⟨ec, ea⟩ := hc (by simp; omega)
  rw [ea, ec] at g2 ⊢
  have kb := keepX_kb kx
  have hlen : pre.length + [x].length = (pre ++ [x]).length := by simp
  rw [hlen]
  have lt4 : b4 < h1.size := (o.var.keep k1).lt
  have lt2 : b2 < h1.size := (o.res.keep k1).lt
  have lt1 : b1 < h1.size := (o.num.keep k1).lt
  have mv : ∀ {b : Nat} {vs : List Value}, BlkV h b vs → b ≠ bl → BlkV h2 b vs := fun q hne => by
    obtain ⟨e, g⟩ := (q.keep k1).at_; exact ⟨e, by rw [kb _ (q.keep k1).lt hne]; exact g⟩
  have v4 := mv o.var (by omega)
  have v2 := mv o.res (by omega)
  have v1 := mv o.num (by omega)
  have ko12 : KO h1 h2 := fun b u e' hu => by
    have hne : b ≠ bl := by
      rintro rfl
      rcases hg.here with ⟨_, e, _⟩ | ⟨b', rest, e1, _, ob, _⟩
      · cases e
      · cases e1; obtain ⟨el, gl⟩ := ob.at_; rw [gl] at e'; cases e'; cases hu
    rw [kb b (Array.getElem?_eq_some_iff.1 e').1 hne]; exact e'
  have kp12 : KpB B h1 h2 := ⟨kx.le, fun b u e' hb _ => by rw [kb b (Array.getElem?_eq_some_iff.1 e').1 (by omega)]; exact e'⟩
  have keep2 : Keep h0 h2 := kx.keep (o.keep.trans k1) hg.offs
  refine stV0 v4 (by simp) fun h3 v4' k3 => ?_
  have v4'' : BlkV h3 b4 [.slice (some ⟨bl, 0, none⟩) (pre ++ [x]).length n] := v4'
  refine ldV0 v4'' rfl (gSlice_intro rfl ?_)
  refine ldV0 (v1.keepB (by omega) k3) rfl (gInt_intro rfl ?_)
  have keep3 : Keep h0 h3 := KeepB.keep keep2 k3 (by omega)
  have ko13 : KO h h3 := KO.trans (Keep.ko k1) (KO.trans ko12 (KeepB.ko v4 k3))
  refine c_eq (fun he => ?_) fun he => ?_
  · have hlen2 : (pre ++ [x]).length = n := by omega
    refine ldV0 v4'' rfl (gSlice_intro rfl ?_)
    refine stV0 (v2.keepB (by omega) k3) (by simp) fun h4 v2' k4 => ?_
    refine gr h4 (KO.trans ko13 (KeepB.ko (v2.keepB (by omega) k3) k4)) ⟨KeepB.keep keep3 k4 (by omega), ?_, ?_, by omega, hlen2⟩
    · rw [hlen2] at v2'; exact v2'
    · exact got_kb (got_kb g2 (by omega) k3) (by omega) k4
  · refine gn h3 ko13 ((Keep.kp k1).trans (kp12.trans (KeepB.kp k3 hB))) ⟨keep3, v1.keepB (by omega) k3, v2.keepB (by omega) k3, v4'', got_kb g2 (by omega) k3, o.ord, ?_⟩
    simp at he ⊢; omega
end Go.Proofs.YtjijdlkpmngolaaGreat.G

/- nearpi: first, the loop over the quotients. -/
namespace Go.Proofs.YtjijdlkpmngolaaGreat.G
open Go.Gv
set_option linter.unusedVariables false
/-- Ahead of the loop. -/
structure Ahead (n : Nat) (h0 : Hp) (q1 q2 q4 : Addr) (v : Value) (h : Hp) : Prop where
  out : ∃ b1 b2 bl b4 B, q1 = ⟨b1, 0, none⟩ ∧ q2 = ⟨b2, 0, none⟩ ∧ q4 = ⟨b4, 0, none⟩ ∧ Hold h0 n b1 b2 bl b4 [] h ∧ b4 < B ∧ B ≤ h.size ∧ SharedV B h v (piW (4 * n + 64)) (2 ^ (4 * n + 64 + 1)) (piW (4 * n + 64) + 1) (2 ^ (4 * n + 64 + 1))
theorem pre_spec {n : Nat} (h : Hp) (h1 : 1 ≤ n) (h2 : n ≤ 1000) : nearpi_first.PreD.t (Ahead n h) (n : Int) h := by
  unfold nearpi_first.PreD.t
  refine boxV fun g1 o1 k1 => ?_
  refine boxV fun g2 o2 k2 => ?_
  refine ldV0 (o1.keep k2) rfl (gInt_intro rfl ?_)
  refine ⟨?_⟩
  have e1 : IntKind.i64.wrap (4 * (n : Int)) = ((4 * n : Nat) : Int) := by rw [wrap_i64] <;> omega
  rw [e1]
  refine ⟨?_⟩
  have e2 : IntKind.i64.wrap (((4 * n : Nat) : Int) + 64) = ((4 * n + 64 : Nat) : Int) := by rw [wrap_i64] <;> omega
  rw [e2]
  refine ldV0 (o1.keep k2) rfl (gInt_intro rfl ?_)
  refine mkE eU64 0 0 n rfl (by decide) 8 rfl (by decide) rfl rfl (by omega) (by omega) fun g3 o3 k3 => ?_
  refine boxV fun g4 o4 k4 => ?_
  refine stV0 o4 (by exact Nat.zero_lt_one) fun g5 o5 k5 => ?_
  have hk : Keep g3 g5 := KeepB.keep k4 k5 (Nat.le_refl _)
  have s1 : g1.size ≤ g2.size := k2.le
  have s2 : g2.size ≤ g3.size := k3.le
  have t1 := o1.lt
  have t2 := o2.lt
  have t3 := o3.lt
  have t5 := o5.lt
  have u1 : h.size ≤ g1.size := k1.le
  have kk : Keep h g5 := k1.trans (k2.trans (k3.trans hk))
  refine hc_intro (quotients_spec (p := 4 * n + 64) g5 (by omega) (by omega)) fun v g6 ⟨k6, sv⟩ => ?_
  have hg : GotE eU64 h g5 (some ⟨g2.size, 0, none⟩) n [] := BlkE.got (rest := List.replicate n 0) (o3.keep hk) (by omega) (by simp) (by simp) (by simp)
  have ez : (n : Int).toNat = n := by omega
  rw [ez] at o5
  exact ⟨h.size, g1.size, g2.size, g3.size, g5.size, rfl, rfl, rfl, ⟨kk.trans k6, (o1.keep (k2.trans (k3.trans (hk.trans k6)))), o2.keep (k3.trans (hk.trans k6)), o5.keep k6, hg.keep k6, by omega, by show 0 < n; omega⟩, t5, k6.le, sv⟩
theorem zip15 (a : Act) (ha : a.defers = []) (v : Value) : ({ tmps := ((#[15] : Array Nat).zip #[v]).foldl (fun t (p, v) => t.setIfInBounds p v) a.tmps, defers := [] } : Act) = a.put (some 15) v := by
  obtain ⟨t, d⟩ := a
  simp only at ha; subst ha
  simp [Act.put]
theorem first_spec {n : Nat} (h : Hp) (h1 : 1 ≤ n) (h2 : n ≤ 1000) : HC nearpi_first.id #[.int .i64 (n : Int)] h fun v h' => Keep h h' ∧ AnsS h h' v (QL.take n) := by
  intro w hw
  subst hw
  refine (callsIn_wide (n := 0)).1 (callsIn_of_wp_marks (F := Fence.wide) (n := 0) nearpi_first.at_ nearpi_first.body trivial ?_ rfl)
  have hr := initFr_rel [.int .i64 (n : Int)] 28 (by simp)
  have hsz : nearpi_first.F.ntmps - (#[Value.int .i64 (n : Int)] : Array Value).size = 28 - [Value.int .i64 (n : Int)].length := by rw [nearpi_first.ntmps]; rfl
  rw [hsz, nearpi_first.code]
  obtain ⟨c0, c1, c3, c4⟩ := nearpi_first.okPre
  have hpre : denY prog E nearpi_first.R0 (Ex.then (denY prog E (.seq nearpi_first.R1 (.seq nearpi_first.R3 nearpi_first.R4)) (preQ (Ahead n w.heap))) (preQ (Ahead n w.heap))) (initFr [.int .i64 (n : Int)]) w.heap :=
    nearpi_first.PreD.ok (Ahead n w.heap) _ _ (gInt_intro rfl (pre_spec w.heap h1 h2))
  refine wpIn_seq (denY_wpIn envOk (.inl rfl) c0 (.inl rfl) hr hpre fun e fr1 a1 w1 r1 s1 k1 => ?_)
  cases e with
  | exit i => exact k1.elim
  | ret => exact k1.elim
  | normal =>
  have k1' : denY prog E nearpi_first.R1 (Ex.then (denY prog E (.seq nearpi_first.R3 nearpi_first.R4) (preQ (Ahead n w.heap))) (preQ (Ahead n w.heap))) fr1 w1.heap := k1
  refine wpIn_seq (denY_wpIn envOk (.inl rfl) c1 (.inl rfl) r1 k1' fun e fr2 a2 w2 r2 s2 k2 => ?_)
  cases e with
  | exit i => exact k2.elim
  | ret => exact k2.elim
  | normal =>
  refine wpIn_block (wpIn_loop_once (wpIn_seq (wpIn_block ?_)))
  have k2' : denY prog E nearpi_first.R3 (Ex.then (denY prog E nearpi_first.R4 (preQ (Ahead n w.heap))) (preQ (Ahead n w.heap))) fr2 w2.heap := k2
  refine wpIn_seq (denY_wpIn envOk (.inl rfl) c3 (.inl rfl) r2 k2' fun e fr3 a3 w3 r3 s3 k3 => ?_)
  cases e with
  | exit i => exact k3.elim
  | ret => exact k3.elim
  | normal =>
  refine wpIn_seq (wpIn_seq (denY_wpIn envOk (.inl rfl) c4 (.inl rfl) r3 k3 fun e fr4 a4 w4 r4 s4 k4 => ?_))
  cases e with
  | exit i => exact k4.elim
  | ret => exact k4.elim
  | normal =>
  have s14 : Same w w4 := s1.trans (s2.trans (s3.trans s4))
  obtain ⟨q1, e1, k4⟩ := gPtrS_elim k4
  obtain ⟨q2, e2, k4⟩ := gPtrS_elim k4
  obtain ⟨q4, e4, k4⟩ := gPtrS_elim k4
  obtain ⟨v, e14, k4⟩ := gRaw_elim k4
  obtain ⟨b1, b2, bl, b4, B, rfl, rfl, rfl, hold, hb4, hB, sv⟩ := k4.out
  obtain ⟨d1, d2, d3, d4, x1, l1, y1, x2, l2, y2, x3, l3, y3, x4, l4, y4, ev_, p1, p2, p3, p4, t1, t2, t3, t4⟩ := sv.out
  have hsz0 : w.heap.size ≤ w4.heap.size := hold.keep.le
  have sh := shares_QL h1 h2
  have hlen : (QL.take n).length = n := by rw [List.length_take, QL_length]; omega
  have ha4 : a4.defers = [] := r4.defers
  refine wpIn_block (rg_wpIn (P := prog) (by rw [r4.ev]; show fr4 14 = _; rw [e14, ev_]) nearpi_shared_1.enters (shared_seq hB p1 p2 p3 p4 t1 t2 t3 t4) (fun x y => KpB.trans x y) (fun _ _ => Ab.kp) (fun x => rfl)
    (fun pre h => Hold w.heap n b1 b2 bl b4 (numW pre) h) (fun pre h => Gone w.heap n b2 bl (numW pre) h) (fun s _ _ i a => i.ab hsz0 a) (fun s _ _ i a => i.ab hsz0 a) hold
    (fun x => (a4.put (some 15) (.int .u64 ((x.1 : Nat) : Int))).put (some 5) (.int .u64 ((x.1 : Nat) : Int))) ?_ ?_ ?_ ?_)
  · intro l x W K hK
    obtain ⟨i, t, p, e⟩ := nearpi_first.asg
    rw [e]
    have hz := zip15 a4 ha4 (.int .u64 ((x.1 : Nat) : Int))
    show (Code.region i _ false).wpIn _ _ _ _ ({ tmps := ((#[15] : Array Nat).zip #[.int .u64 ((x.1 : Nat) : Int)]).foldl (fun t (p, v) => t.setIfInBounds p v) a4.tmps, defers := [] } : Act) W
    rw [hz]
    have rp : RelA 28 (updO fr4 (some 15) (.int .u64 ((x.1 : Nat) : Int))) (a4.put (some 15) (.int .u64 ((x.1 : Nat) : Int))) := r4.put (o := { dst := some 15, op := .assign (.tmp 0), type := 0, pos := "", after := #[], guard := none }) rfl _
    have hev : (a4.put (some 15) (.int .u64 ((x.1 : Nat) : Int))).eval (.tmp 15) = .int .u64 ((x.1 : Nat) : Int) := by rw [rp.ev]; rfl
    refine wpIn_region_list ?_
    refine ⟨fun _ _ => trivial, ?_⟩
    rw [semAt_fw rfl]
    have hx : (execOp (a4.put (some 15) (.int .u64 ((x.1 : Nat) : Int))).eval { dst := some 5, op := .assign (.tmp 15), type := t, pos := p, after := #[], guard := none }).run prog W = .ok (.value (.int .u64 ((x.1 : Nat) : Int))) W := by
      simp [execOp, hev]
    rw [hx]
    exact hK
  · intro l pre x W hi hl
    have rb : RelA 28 (upd (upd fr4 15 (.int .u64 ((x.1 : Nat) : Int))) 5 (.int .u64 ((x.1 : Nat) : Int))) ((a4.put (some 15) (.int .u64 ((x.1 : Nat) : Int))).put (some 5) (.int .u64 ((x.1 : Nat) : Int))) :=
      (r4.put (o := { dst := some 15, op := .assign (.tmp 0), type := 0, pos := "", after := #[], guard := none }) rfl _).put (o := { dst := some 5, op := .assign (.tmp 0), type := 0, pos := "", after := #[], guard := none }) rfl _
    refine denY_wpIn envOk (.inr ⟨l, rfl⟩) nearpi_first.okBo (.inr nearpi_first.freeBo) rb (nearpi_first.BoD.ok
      (fun h' => KO W.heap h' ∧ KpB B W.heap h' ∧ Hold w.heap n b1 b2 bl b4 (numW (pre ++ [x])) h') (fun h' => KO W.heap h' ∧ Gone w.heap n b2 bl (numW (pre ++ [x])) h') _ _
      (gPtrS_intro e1 (gPtrS_intro e2 (gPtrS_intro e4 (gInt_intro rfl (body_spec x.2 h2 hi hb4 (fun h' a b c => ⟨a, b, by rw [numW_snoc]; exact c⟩) fun h' a c => ⟨a, by rw [numW_snoc]; exact c⟩)))))) fun e fr' a' w' r s k => ?_
    cases e with
    | normal => exact ⟨s, k.1, k.2.1, k.2.2⟩
    | ret => exact ⟨s, k.1, k.2⟩
    | exit i => exact k.elim
  · intro D xs W hD hs hS hi hd
    exfalso
    have hlt := hi.lt
    have hp := Shares.pre hS.1 sh (by rw [hlen]; omega)
    refine hS.2 ((QL.take n).getD (numW xs).length 0) ?_
    have h3 := sh.take ((numW xs).length + 1)
    have h4 : (QL.take n).take ((numW xs).length + 1) = numW xs ++ [(QL.take n).getD (numW xs).length 0] := by
      rw [List.take_add_one, ← hp]
      congr 1
      have hl' : (numW xs).length < (QL.take n).length := by rw [hlen]; exact hlt
      rw [List.getElem?_eq_getElem hl', List.getD, List.getElem?_eq_getElem hl']; rfl
    rw [← h4]; exact h3
  · intro D pre W hD hs hS hi hd
    have hp := Shares.pre hS sh (by rw [hlen, hi.len]; exact Nat.le_refl _)
    rw [hi.len, List.take_take, Nat.min_self] at hp
    refine wpIn_ret ?_
    show LeavesInM Fence.wide 0 prog nearpi_first.F a4.tmps _ ({ target := .collected D, args := #[] } :: a4.defers) .returning W
    rw [ha4]
    refine ⟨by simp, .inl ⟨_, _, rfl, run_takeDeferred hd, ?_⟩⟩
    have hab : Ab w4.heap.size W.heap (W.putObj D (.deferred none)).heap := Ab.put _ hd hD rfl
    have hg := hi.ab hsz0 hab
    obtain ⟨v', f1, f2⟩ := res_run (P := prog) envOk nearpi_first.results (w := W.putObj D (.deferred none)) r4 (R := fun v h' => Keep w.heap h' ∧ AnsS w.heap h' v (QL.take n))
      (nearpi_first.ret_ok e2 (ldV0 hg.res rfl (gSlice_intro rfl ⟨hg.keep, by
        have hgl := hg.lst
        rw [hp] at hgl
        exact ⟨_, _, by rw [hlen]; rfl, hgl⟩⟩)))
    exact ⟨v', f1, v', rfl, ⟨(s14.trans hs).os, (s14.trans hs).tape, (s14.trans hs).output⟩, f2⟩
end Go.Proofs.YtjijdlkpmngolaaGreat.G

/- nearpi: Terms and Convergent. -/
namespace Go.Proofs.YtjijdlkpmngolaaGreat.G
open Go.Gv
set_option linter.unusedVariables false
theorem QL_take_len {n : Nat} (h : n ≤ 1000) : (QL.take n).length = n := by rw [List.length_take, QL_length]; omega
theorem Terms_spec {n : Nat} (h : Hp) (h1 : 1 ≤ n) (h2 : n ≤ 1000) : HC nearpi_Terms.id #[.int .i64 (n : Int)] h fun v h' => Keep h h' ∧ Ans h h' v (QL.take n, 0) := by
  refine nearpi_Terms.ok ?_
  unfold nearpi_Terms.t nearpi_Terms.D1.t
  refine c_dec (fun hb => absurd hb (by omega)) fun _ => ?_
  refine c_dec (fun hb => absurd hb (by omega)) fun _ => ?_
  unfold nearpi_Terms.D2.t
  refine hc_intro (first_spec h h1 h2) fun v h' ⟨k, s⟩ => ?_
  exact s.elimG fun a c r => ⟨k, Ans.back (p := (QL.take n, 0)) r (show In .i64 0 by decide)⟩
def cvn (i : Nat) : Cv := cvs (QL.take i)
theorem cvn_zero : cvn 0 = cv0 := by unfold cvn; rw [List.take_zero]; rfl
theorem cvn_succ {i : Nat} (h : i < 1000) : cvn (i + 1) = (cvn i).next (QL.getD i 0) := by
  have hl : i < QL.length := by rw [QL_length]; exact h
  unfold cvn
  rw [← cvs_snoc]
  congr 1
  rw [List.take_add_one]
  congr 1
  rw [List.getElem?_eq_getElem hl, List.getD, List.getElem?_eq_getElem hl]; rfl
theorem cvn_end {n : Nat} (h1 : 1 ≤ n) (h2 : n ≤ 1000) : okEnd (cvn n).P (cvn n).P' (cvn n).R (cvn n).R' (piW (4 * n + 64)) (2 ^ (4 * n + 64 + 1)) := by
  have := (okAll_elim QL [] 68 okAll_QL n h1 (by rw [QL_length]; exact h2)).2.1
  rw [show 68 + 4 * (n - 1) = 4 * n + 64 by omega] at this
  exact this
theorem cvn_le {n : Nat} (h1 : 1 ≤ n) (h2 : n ≤ 1000) : ((cvn n).P ≤ piW (4 * n + 64) ∧ (cvn n).P' ≤ piW (4 * n + 64)) ∧ ((cvn n).R ≤ 2 ^ (4 * n + 64 + 1) ∧ (cvn n).R' ≤ 2 ^ (4 * n + 64 + 1)) := by
  obtain ⟨x, y, e1, e2, h0, hxy⟩ := cvn_end h1 h2
  have a1 := Nat.le_mul_of_pos_right (cvn n).P (show 0 < x by omega)
  have a2 := Nat.le_mul_of_pos_right (cvn n).P' h0
  have a3 := Nat.le_mul_of_pos_right (cvn n).R (show 0 < x by omega)
  have a4 := Nat.le_mul_of_pos_right (cvn n).R' h0
  omega
theorem cvn_sm {n : Nat} (h2 : n ≤ 1000) : Sm (cvn n).P ∧ Sm (cvn n).P' ∧ Sm (cvn n).R ∧ Sm (cvn n).R' := by
  rcases Nat.eq_zero_or_pos n with e | h1
  · subst e; rw [cvn_zero]; exact ⟨sm_w (by decide), sm_w (by decide), sm_w (by decide), sm_w (by decide)⟩
  · obtain ⟨⟨a1, a2⟩, a3, a4⟩ := cvn_le h1 h2
    obtain ⟨s1, s2⟩ := sm_pi (show 4 * n + 64 < 4200 by omega)
    exact ⟨sm_le (by omega) s1, sm_le (by omega) s1, sm_le a3 s2, sm_le a4 s2⟩
theorem QL_lt {i : Nat} (h : i < 1000) : 1 ≤ QL.getD i 0 ∧ QL.getD i 0 < 18446744073709551616 := by
  have hl : i < QL.length := by rw [QL_length]; exact h
  refine QL_word (n := 1000) (by omega) (by omega) _ ?_
  rw [List.take_of_length_le (by rw [QL_length]; exact Nat.le_refl _), List.getD, List.getElem?_eq_getElem hl]
  exact List.getElem_mem hl
theorem c_plus {a b : Option Addr} {l c m d x y w : Nat} {h : Hp} {K : Option Addr → Nat → Nat → Int → Hp → Prop} (r : Rd h a c (digs x)) (hl : l = (digs x).length) (s : Rd h b d (digs y)) (hm : m = (digs y).length) (hw : w < 18446744073709551616) (hx : Sm x) (sm : Sm (w * x + y))
    (g : ∀ a c h', Keep h h' → GotE eU64 h h' a c (digs (w * x + y)) → K a (digs (w * x + y)).length c 0 h') :
    HC nearpi_plus.id #[.slice a l c, .int .u64 (w : Int), .slice b m d] h fun v h' => gTup v fun y => uncons y fun v1 y1 => gSlice v1 fun a l c => uncons y1 fun v2 y2 => gInt .i64 v2 fun x => unnil y2 (K a l c x h') := by
  refine nearpi_plus.ok ?_
  unfold nearpi_plus.t nearpi_plus.D1.t
  have e : x * w + y = w * x + y := by rw [Nat.mul_comm]
  refine c_mulw r hl hw hx (sm_le (by omega) sm) fun a1 c1 h1 k1 r1 => ?_
  refine c_ne (fun e => absurd rfl e) fun _ => ?_
  refine c_add r1.rd64 rfl (s.keep k1) hm (by rw [e]; exact sm) fun a2 c2 h2 k2 r2 => ?_
  rw [e] at r2 ⊢
  exact gTup_intro rfl (uncons_intro (gSlice_intro rfl (uncons_intro (gInt_intro rfl (unnil_intro (g a2 c2 h2 (k1.trans k2) (r2.from k1.le)))))))
theorem conv_walk {n : Nat} (hn : n ≤ 1000) {h0 : Hp} {R : Rt} (hR : ∀ v h', Keep h0 h' → AnsT h0 h' v (digs (cvn n).P, digs (cvn n).R, 0) → R v h') :
    ∀ (m i : Nat) {a5 a6 a7 a8 a23 : Option Addr} {c5 c6 c7 c8 c23 km : Nat} {h : Hp}, 1 ≤ i → i + m = n → Keep h0 h → h0.size ≤ km → km ≤ h.size →
      Own1 h0.size km h (a5, (digs (cvn i).P).length, c5) (digs (cvn i).P) → Own1 km h.size h (a6, (digs (cvn i).R).length, c6) (digs (cvn i).R) → Rd h a7 c7 (digs (cvn i).P') → Rd h a8 c8 (digs (cvn i).R') → Rd h a23 c23 (QL.take n) →
      nearpi_Convergent.L5.t R (m + 1) a5 (digs (cvn i).P).length c5 a6 (digs (cvn i).R).length c6 a7 (digs (cvn i).P').length c7 a8 (digs (cvn i).R').length c8 a23 n c23 (n : Int) (i : Int) h := by
  intro m
  induction m with
  | zero =>
    intro i a5 a6 a7 a8 a23 c5 c6 c7 c8 c23 km h h1 hi k0 hk1 hk2 o5 o6 r7 r8 r23
    unfold nearpi_Convergent.L5.t nearpi_Convergent.D6.t
    refine c_dec (fun hb => by omega) fun _ => ?_
    unfold nearpi_Convergent.D3.t
    have e : i = n := by omega
    subst e
    exact hR _ _ k0 (AnsT.mk km hk1 hk2 (.inl ⟨o5, o6⟩) (by decide))
  | succ m ih =>
    intro i a5 a6 a7 a8 a23 c5 c6 c7 c8 c23 km h h1 hi k0 hk1 hk2 o5 o6 r7 r8 r23
    unfold nearpi_Convergent.L5.t nearpi_Convergent.D6.t
    refine c_dec (fun hb => ?_) fun hb => by omega
    have hl : i < (QL.take n).length := by rw [QL_take_len hn]; omega
    have e1 : (QL.take n).getD i 0 = QL.getD i 0 := by simp [List.getD, show i < n by omega]
    refine at_intro r23 (j := i) rfl (QL_take_len hn).symm hl ?_
    rw [e1]
    have hq := (QL_lt (show i < 1000 by omega)).2
    obtain ⟨s1, s2, s3, s4⟩ := cvn_sm (n := i) (by omega)
    obtain ⟨t1, t2, t3, t4⟩ := cvn_sm (n := i + 1) (by omega)
    have en := cvn_succ (show i < 1000 by omega)
    have ep : (cvn (i + 1)).P = QL.getD i 0 * (cvn i).P + (cvn i).P' := by rw [en]; rfl
    have er : (cvn (i + 1)).R = QL.getD i 0 * (cvn i).R + (cvn i).R' := by rw [en]; rfl
    have ep' : (cvn (i + 1)).P' = (cvn i).P := by rw [en]; rfl
    have er' : (cvn (i + 1)).R' = (cvn i).R := by rw [en]; rfl
    refine c_eq (fun hz => by omega) fun _ => ?_
    refine c_plus o5.rd rfl r7 rfl hq s1 (by rw [← ep]; exact t1) fun x1 y1 g1 k1 u1 => ?_
    refine c_plus (o6.rd.keep k1) rfl (r8.keep k1) rfl hq s3 (by rw [← er]; exact t3) fun x2 y2 g2 k2 u2 => ?_
    refine c_ne (fun e => absurd rfl e) fun _ => ?_
    refine c_ne (fun e => absurd rfl e) fun _ => ?_
    refine ⟨?_⟩
    have e2 : IntKind.i64.wrap ((i : Int) + 1) = ((i + 1 : Nat) : Int) := by rw [wrap_i64] <;> omega
    rw [e2]
    have k12 := k1.trans k2
    rw [← ep] at u1 ⊢
    rw [← er] at u2 ⊢
    have := ih (i + 1) (a5 := x1) (c5 := y1) (a6 := x2) (c6 := y2) (a7 := a5) (c7 := c5) (a8 := a6) (c8 := c6) (a23 := a23) (c23 := c23) (km := g1.size) (h := g2) (by omega) (by omega) (k0.trans k12) (Nat.le_trans k0.le k1.le) k2.le
      (Own1.of_got (u1.keep k2) rfl k0.le (Nat.le_refl _) |> fun o => (Own1.of_got u1 rfl k0.le (Nat.le_refl _)).keep k2) (Own1.of_got u2 rfl (Nat.le_refl _) (Nat.le_refl _)) (by rw [ep']; exact o5.rd.keep k12) (by rw [er']; exact o6.rd.keep k12) (r23.keep k12)
    rw [ep', er'] at this
    exact this
theorem Convergent_spec {k : Nat} (h : Hp) (hk : k < 1000) : HC nearpi_Convergent.id #[.int .i64 (k : Int)] h fun v h' => Keep h h' ∧ AnsT h h' v (digs (cvn (k + 1)).P, digs (cvn (k + 1)).R, 0) := by
  refine nearpi_Convergent.ok ?_
  unfold nearpi_Convergent.t nearpi_Convergent.D1.t
  refine c_dec (fun hb => absurd hb (by omega)) fun _ => ?_
  refine c_dec (fun hb => absurd hb (by omega)) fun _ => ?_
  unfold nearpi_Convergent.D2.t nearpi_Convergent.D4.t
  refine ⟨?_⟩
  have e1 : IntKind.i64.wrap ((k : Int) + 1) = ((k + 1 : Nat) : Int) := by rw [wrap_i64] <;> omega
  rw [e1]
  refine hc_intro (first_spec (n := k + 1) h (by omega) (by omega)) fun v h1 ⟨k1, s1⟩ => ?_
  refine s1.elimG fun a23 c23 r23 => ?_
  rw [QL_take_len (show k + 1 ≤ 1000 by omega)]
  refine ⟨k + 1 + 1, ?_⟩
  unfold nearpi_Convergent.L5.t nearpi_Convergent.D6.t
  refine c_dec (fun hb => ?_) fun hb => by omega
  have hl : 0 < (QL.take (k + 1)).length := by rw [QL_take_len (by omega)]; omega
  have e2 : (QL.take (k + 1)).getD 0 0 = QL.getD 0 0 := by simp [List.getD]
  refine at_intro r23.rd64 (j := 0) rfl (QL_take_len (by omega)).symm hl ?_
  rw [e2]
  have hq := (QL_lt (show 0 < 1000 by omega)).2
  refine c_eq (fun _ => ?_) fun hz => absurd rfl hz
  refine c_word hq fun x1 y1 g1 l1 u1 => ?_
  refine c_word (x := 1) (by decide) fun x2 y2 g2 l2 u2 => ?_
  refine c_word (x := 1) (by decide) fun x3 y3 g3 l3 u3 => ?_
  refine ⟨?_⟩
  have e3 : IntKind.i64.wrap ((0 : Int) + 1) = ((1 : Nat) : Int) := by rw [wrap_i64] <;> omega
  rw [e3]
  have ec : cvn 1 = ⟨QL.getD 0 0, 1, 1, 0⟩ := by rw [cvn_succ (by omega), cvn_zero]; simp [Cv.next, cv0]
  have kk := k1.trans (l1.trans (l2.trans l3))
  have := conv_walk (n := k + 1) (by omega) (h0 := h) (R := fun v h' => Keep h h' ∧ AnsT h h' v (digs (cvn (k + 1)).P, digs (cvn (k + 1)).R, 0)) (fun v h' a b => ⟨a, b⟩) k 1 (a5 := x1) (c5 := y1) (a6 := x2) (c6 := y2) (a7 := x3) (c7 := y3) (a8 := none) (c8 := 0) (a23 := a23) (c23 := c23) (km := g1.size) (h := g3)
    (Nat.le_refl _) (by omega) kk (k1.trans l1).le (l2.trans l3).le (by rw [ec]; exact (Own1.of_got u1 rfl k1.le (Nat.le_refl _)).keep (l2.trans l3)) (by rw [ec]; exact (Own1.of_got u2 rfl (Nat.le_refl _) l3.le).keep l3)
    (by rw [ec]; exact u3.rd64) (by rw [ec, digs_zero]; exact Rd.nil _ _ _) (r23.rd64.keep (l1.trans (l2.trans l3)))
  rw [ec] at this
  simp only [digs_zero, List.length_nil] at this
  exact this
theorem Convergent_bad {x : Int} (h : Hp) (hx : x < 0 ∨ x ≥ 1000) : HC nearpi_Convergent.id #[.int .i64 x] h fun v h' => h' = h ∧ v = .tuple #[.slice none 0 0, .slice none 0 0, .int .i64 1] := by
  refine nearpi_Convergent.ok ?_
  unfold nearpi_Convergent.t nearpi_Convergent.D1.t
  refine c_dec (fun hb => ⟨rfl, rfl⟩) fun hb => ?_
  exact c_dec (fun hb => ⟨rfl, rfl⟩) fun hc => by omega
end Go.Proofs.YtjijdlkpmngolaaGreat.G

/- The statements of layer 13: the calls whose answers the document fixes. -/
namespace Go.Proofs.YtjijdlkpmngolaaGreat.G
open Go.Gv
set_option linter.unusedVariables false
set_option maxRecDepth 100000
theorem pick_awake : pickN 80 (frac 64) (2 ^ 1) (2 ^ (1 + 1) - 1) = some (3, true) := by kernel_rfl
theorem mul_awake : mulN (frac 64) 3 true = 2 := by kernel_rfl
theorem tell_awake : tellN 3000 (3 * 2 ^ (64 + 1337)) 2 = true := by kernel_rfl
theorem dep_awake : depI 1400 (3 * 2 ^ (64 + 1337)) 2 = 3 := by kernel_rfl
theorem digs_one' {n : Nat} (h0 : n ≠ 0) (h : n < 18446744073709551616) : digs n = [n] := by
  rw [digs_pos h0, Nat.mod_eq_of_lt h, show n / 18446744073709551616 = 0 by omega, digs_zero]
theorem QL_five : QL.take 5 = [1, 1, 1, 3, 31] := by kernel_rfl
theorem cvn_four : cvn 4 = ⟨11, 3, 7, 2⟩ := by
  show cvs (QL.take 4) = _
  rw [show QL.take 4 = [1, 1, 1, 3] by kernel_rfl]; rfl
theorem same_c {a b : Option Addr} {c d l m : Nat} {xs : List Nat} {h : Hp} {K : Bool → Prop} (r : Rd h a c xs) (s : Rd h b d xs) (hl : l = xs.length) (hm : m = xs.length) (g : K true) : HQC gnomonref01_Same.id #[.slice a l c, .slice b m d] h fun v => gBool v K := by
  refine Same_intro r s hl hm ?_
  rw [decide_eq_true rfl]; exact g
theorem near_awake (h : Hp) : HC nearpi_Nearest.id #[.int .i64 2, .int .i64 0] h fun v h' => Keep h h' ∧ ∃ a c, v = .tuple #[.agg #[.int .u64 3, .slice a 1 c, .int .i64 3], .int .i64 0] ∧ GotE eU64 h h' a c [2] := by
  have ht := tellN_elim (w := 1400) (by omega) tell_awake
  have hN := Nearest_spec (b := 1) (e := 64) h (by omega) (by omega) (m := 3) (up := true) pick_awake (by rw [mul_awake]; exact ht)
  rw [mul_awake] at hN
  refine hc_intro hN fun v h3 hN => ?_
  obtain ⟨k3, a4, c4, e4, r4⟩ := hN
  have e5 : v = .tuple #[.agg #[.int .u64 ((3 : Nat) : Int), .slice a4 (digs 2).length c4, .int .i64 3], .int .i64 0] :=
    e4.trans (congrArg (fun z => Value.tuple #[.agg #[.int .u64 ((3 : Nat) : Int), .slice a4 (digs 2).length c4, .int .i64 z], .int .i64 0]) dep_awake)
  have e2 : digs 2 = [2] := digs_one' (by decide) (by decide)
  rw [e2] at e5 r4
  exact ⟨k3, a4, c4, e5, r4⟩
theorem awake_spec (h : Hp) : HC gnomonlaw13_awake.id #[] h fun v h' => Keep h h' ∧ v = .bool true := by
  refine gnomonlaw13_awake.ok ?_
  unfold gnomonlaw13_awake.t gnomonlaw13_awake.D1.t
  refine hc_intro (Terms_spec (n := 5) h (by omega) (by omega)) fun v h1 ⟨k1, s1⟩ => ?_
  refine s1.elimG fun a1 c1 r1 i1 => ?_
  refine hc_intro (Convergent_spec (k := 3) h1 (by omega)) fun v h2 ⟨k2, s2⟩ => ?_
  obtain ⟨⟨_, _, _, e0, ⟨a2, c2, e1, r2⟩, ⟨a3, c3, e2, r3⟩, e3, _⟩, _⟩ := s2
  subst e0; subst e1; subst e2; subst e3
  refine gTup_intro rfl (uncons_intro (gSlice_intro rfl (uncons_intro (gSlice_intro rfl (uncons_intro (gInt_intro rfl (unnil_intro ?_)))))))
  refine hc_intro (near_awake h2) fun v h3 ⟨k3, a4, c4, e4, r4⟩ => ?_
  subst e4
  refine gTup_intro rfl (uncons_intro (gAgg_intro rfl (uncons_intro (gInt_intro rfl (uncons_intro (gSlice_intro rfl (uncons_intro (gInt_intro rfl (unnil_intro (uncons_intro (gInt_intro rfl (unnil_intro ?_))))))))))))
  refine boxV fun h4 o4 k4 => ?_
  refine stV o4 (by exact (by decide : 0 < 3)) fun h5 o5 k5 => ?_
  refine stV o5 (by exact (by decide : 1 < 3)) fun h6 o6 k6 => ?_
  refine stV o6 (by exact (by decide : 2 < 3)) fun h7 o7 k7 => ?_
  have kk : Keep h3 h7 := KeepB.keep (KeepB.keep (KeepB.keep k4 k5 (Nat.le_refl _)) k6 (Nat.le_refl _)) k7 (Nat.le_refl _)
  refine c_ne (fun e => absurd rfl e) fun _ => ?_
  refine c_ne (fun e => absurd rfl e) fun _ => ?_
  refine c_ne (fun e => absurd rfl e) fun _ => ?_
  unfold gnomonlaw13_awake.D2.t
  have o7' : BlkV h7 h3.size [.int .u64 3, .slice a4 1 c4, .int .i64 3] := o7
  have R1 : Rd h7 a1 c1 [1, 1, 1, 3, 31] := by have := r1.rd64.keep (k2.trans (k3.trans kk)); rwa [QL_five] at this
  have R2 : Rd h7 a2 c2 [11] := by
    have t : Rd h7 a2 c2 (digs (cvn 4).P) := r2.rd64.keep (k3.trans kk)
    rwa [cvn_four, digs_one' (by decide) (by decide)] at t
  have R3 : Rd h7 a3 c3 [7] := by
    have t : Rd h7 a3 c3 (digs (cvn 4).R) := r3.rd64.keep (k3.trans kk)
    rwa [cvn_four, digs_one' (by decide) (by decide)] at t
  have R4 : Rd h7 a4 c4 [2] := r4.rd64.keep kk
  have l1 : (QL.take 5, (0 : Int)).1.length = [1, 1, 1, 3, 31].length := by rw [QL_five]
  have l2 : ((digs (cvn (3 + 1)).P, digs (cvn (3 + 1)).R, (0 : Int)).1).length = [11].length := by
    show (digs (cvn 4).P).length = _
    rw [cvn_four, digs_one' (by decide) (by decide)]
  have l3 : ((digs (cvn (3 + 1)).P, digs (cvn (3 + 1)).R, (0 : Int)).2.1).length = [7].length := by
    show (digs (cvn 4).R).length = _
    rw [cvn_four, digs_one' (by decide) (by decide)]
  refine box_intro [1, 1, 1, 3, 31] (by rfl) (by simp) (by simp) fun h8 o8 k8 => ?_
  refine same_c (R1.keep k8) (o8.rd (by simp)) l1 rfl ?_
  refine c_not (fun e => by cases e) fun _ => ?_
  refine box_intro [11] (by rfl) (by simp) (by simp) fun h9 o9 k9 => ?_
  refine same_c (R2.keep (k8.trans k9)) (o9.rd (by simp)) l2 rfl ?_
  refine c_not (fun e => by cases e) fun _ => ?_
  refine box_intro [7] (by rfl) (by simp) (by simp) fun h10 o10 k10 => ?_
  refine same_c (R3.keep (k8.trans (k9.trans k10))) (o10.rd (by simp)) l3 rfl ?_
  refine c_not (fun e => by cases e) fun _ => ?_
  unfold gnomonlaw13_awake.D3.t
  have k7 : Keep h7 h10 := k8.trans (k9.trans k10)
  refine ldV (o7'.keep k7) rfl (gInt_intro rfl ?_)
  refine c_eq (fun _ => ?_) fun e => absurd rfl e
  refine ldV (o7'.keep k7) rfl (gSlice_intro rfl ?_)
  refine box_intro [2] (by rfl) (by simp) (by simp) fun h11 o11 k11 => ?_
  refine same_c (R4.keep (k7.trans k11)) (o11.rd (by simp)) rfl rfl ?_
  refine ldV (o7'.keep (k7.trans k11)) rfl (gInt_intro rfl ?_)
  exact ⟨k1.trans (k2.trans (k3.trans (kk.trans (k7.trans k11)))), rfl⟩
end Go.Proofs.YtjijdlkpmngolaaGreat.G

/- The calls of layer 13, each with what follows. -/
namespace Go.Proofs.YtjijdlkpmngolaaGreat.G
open Go.Gv
set_option linter.unusedVariables false
theorem c_tru {A B : Prop} (g : A) : cond true A B := g
theorem awake_c {h : Hp} {K : Bool → Hp → Prop} (g : ∀ h', Keep h h' → K true h') : HC gnomonlaw13_awake.id #[] h fun v h' => gBool v fun b => K b h' := by
  refine hc_intro (awake_spec h) fun v h' ⟨k, e⟩ => ?_
  subst e; exact gBool_intro rfl (g h' k)
theorem conv_c {k : Nat} {i : Int} {h : Hp} (hi : i = (k : Int)) (h2 : k < 1000) {K : Option Addr → Nat → Nat → Option Addr → Nat → Nat → Int → Hp → Prop}
    (g : ∀ a c b d h', Keep h h' → Rd h' a c (digs (cvn (k + 1)).P) → Rd h' b d (digs (cvn (k + 1)).R) → K a (digs (cvn (k + 1)).P).length c b (digs (cvn (k + 1)).R).length d 0 h') :
    HC nearpi_Convergent.id #[.int .i64 i] h fun v h' => gTup v fun y => uncons y fun v1 y1 => gSlice v1 fun a l c => uncons y1 fun v2 y2 => gSlice v2 fun b m d => uncons y2 fun v3 y3 => gInt .i64 v3 fun x => unnil y3 (K a l c b m d x h') := by
  subst hi
  refine hc_intro (Convergent_spec h h2) fun v h' ⟨k1, s⟩ => ?_
  obtain ⟨⟨_, _, _, e0, ⟨a2, c2, e1, r2⟩, ⟨a3, c3, e2, r3⟩, e3, _⟩, _⟩ := s
  subst e0; subst e1; subst e2; subst e3
  exact gTup_intro rfl (uncons_intro (gSlice_intro rfl (uncons_intro (gSlice_intro rfl (uncons_intro (gInt_intro rfl (unnil_intro (g _ _ _ _ h' k1 r2.rd64 r3.rd64))))))))
theorem conv_bad {i : Int} {h : Hp} (hi : i < 0 ∨ i ≥ 1000) {K : Option Addr → Nat → Nat → Option Addr → Nat → Nat → Int → Hp → Prop} (g : K none 0 0 none 0 0 1 h) :
    HC nearpi_Convergent.id #[.int .i64 i] h fun v h' => gTup v fun y => uncons y fun v1 y1 => gSlice v1 fun a l c => uncons y1 fun v2 y2 => gSlice v2 fun b m d => uncons y2 fun v3 y3 => gInt .i64 v3 fun x => unnil y3 (K a l c b m d x h') := by
  refine hc_intro (Convergent_bad h hi) fun v h' ⟨e1, e2⟩ => ?_
  subst e1; subst e2
  exact gTup_intro rfl (uncons_intro (gSlice_intro rfl (uncons_intro (gSlice_intro rfl (uncons_intro (gInt_intro rfl (unnil_intro g)))))))
end Go.Proofs.YtjijdlkpmngolaaGreat.G

/- The document's quotients: Euclid's steps at two fractions. -/
namespace Go.Proofs.YtjijdlkpmngolaaGreat.G
open Go.Gv
set_option linter.unusedVariables false
set_option maxRecDepth 100000
/-- Euclid's quotients, at most so many. -/
def eu : Nat → Nat → Nat → List Nat
  | 0, _, _ => []
  | n + 1, X, Y => if Y = 0 then [] else X / Y :: eu n Y (X % Y)
theorem eu_fbk : ∀ (Q : List Nat) (x y n : Nat), (∀ q ∈ Q, 1 ≤ q) → 0 < y → y < x → eu (Q.length + n) (fbk Q (x, y)).1 (fbk Q (x, y)).2 = Q ++ eu n x y
  | [], x, y, n, _, h0, h1 => by simp [fbk]
  | q :: Q, x, y, n, hq, h0, h1 => by
    obtain ⟨a1, a2, a3, a4⟩ := fbk_div (q := q) (fun r hr => hq r (List.mem_cons_of_mem _ hr)) h0 h1
    rw [List.length_cons, show Q.length + 1 + n = (Q.length + n) + 1 by omega, eu, if_neg (by omega), a2, a3, a4, eu_fbk Q x y n (fun r hr => hq r (List.mem_cons_of_mem _ hr)) h0 h1]
    rfl
/-- A list that a growing list's memory does not touch. -/
structure RO (h : Hp) (m : Option Addr) (a : Option Addr) (c : Nat) (xs : List Nat) : Prop where
  r : RdE eU32 h a c xs
  o : xs = [] ∨ ∀ p, a = some p → Off p.block m
theorem RO.keep {h h' : Hp} {m a : Option Addr} {c : Nat} {xs : List Nat} (r : RO h m a c xs) (k : Keep h h') : RO h' m a c xs := ⟨r.r.keep k, r.o⟩
theorem RO.step {h h' : Hp} {m m' a : Option Addr} {c : Nat} {xs : List Nat} (r : RO h m a c xs) (k : KeepX m h h') (hm : m' = m ∨ ∃ b, m' = some ⟨b, 0, none⟩ ∧ h.size ≤ b) : RO h' m' a c xs := by
  rcases r.o with e | o
  · subst e; exact ⟨RdE.nil _ _ _, Or.inl rfl⟩
  · cases xs with
    | nil => exact ⟨RdE.nil _ _ _, Or.inl rfl⟩
    | cons x xs =>
      refine ⟨⟨r.r.len, r.r.cap, r.r.ok, fun i y hi => ?_⟩, Or.inr fun p hp => ?_⟩
      · obtain ⟨p, e, g⟩ := r.r.at_ i y hi
        refine ⟨p, e, ?_⟩
        have hb := cellH_lt g
        rw [cellH_congr (k.pre _ hb (by rw [add_block]; exact o p e))]; exact g
      · rcases hm with e | ⟨b, e, hb⟩
        · rw [e]; exact o p hp
        · obtain ⟨p', e', g⟩ := r.r.at_ 0 x (by simp)
          have hlt := cellH_lt g
          rw [add_block] at hlt
          rw [e'] at hp; cases hp
          intro q hq; rw [e] at hq; cases hq
          show b ≠ _; omega
theorem RO.fresh {h h' : Hp} {m a : Option Addr} {c : Nat} {xs : List Nat} (g : GotE eU32 h h' a c xs) (hm : ∀ p, m = some p → p.block < h.size) : RO h' m a c xs := by
  refine ⟨g.rd, Or.inr fun p hp q hq => ?_⟩
  rcases g.here with ⟨_, e2, _⟩ | ⟨b, rest, e1, e2, _, _⟩
  · rw [e2] at hp; cases hp
  · rw [e1] at hp; cases hp
    have := hm q hq
    show q.block ≠ b; omega
theorem GotE.blk {α : Type} {E : El α} {h0 h : Hp} {a : Option Addr} {c : Nat} {xs : List α} (g : GotE E h0 h a c xs) : ∀ p, a = some p → p.block < h.size := by
  intro p hp
  rcases g.here with ⟨_, e2, _⟩ | ⟨b, rest, e1, e2, o, _⟩
  · rw [e2] at hp; cases hp
  · rw [e1] at hp; cases hp; exact o.lt
theorem pushX {h0 h : Hp} {e : TypeId} {i : TyI} {a : Option Addr} {l c m : Nat} {s : Sl} {ss : List Sl} (g : GotE eSl h0 h a c ss) (k0 : Keep h0 h) (hl : l = ss.length) (hlv : i.leaves.length = 1) (hz : i.zs = [.slice none 0 0]) (hb : i.bytes = 24) (hlim : ss.length ≤ 100000) {K : Option Addr → Nat → Nat → Hp → Prop}
    (post : ∀ a' c' h1 h', GotE eSl h0 h' a' c' (ss ++ [s]) → Keep h0 h' → Keep h h1 → KeepX a h1 h' → (a' = a ∨ ∃ b, a' = some ⟨b, 0, none⟩ ∧ h1.size ≤ b) → K a' (ss.length + 1) c' h') : boxK h e [.slice s.1 s.2.1 s.2.2] fun q h2 => apK h2 e i a l c (.slice (some q) 1 m) K := by
  refine boxE eSl [s] rfl (fun _ _ => trivial) fun h2 o2 k2 => ?_
  have r := o2.rd' (c := 1) (by simp [eSl]) (Nat.le_refl _)
  refine apE3 (g.keep k2) (Nat.le_trans k0.le k2.le) r hl rfl hlv (none, 0, 0) hz trivial 24 hb (by decide) (by simp only [List.length_singleton]; show _ ≤ 11728124029610; omega) (fun _ => by simp only [List.length_singleton]; omega) fun a' c' h' g' kx hc ha => ?_
  exact post a' c' h2 h' g' (kx.keep (k0.trans k2) (g.keep k2).offs) k2 kx ha
/-- A list of the document's numbers. -/
structure LD (h : Hp) (m : Option Addr) (ss : List Sl) (qs : List Nat) : Prop where
  len : ss.length = qs.length
  at_ : ∀ j s, ss[j]? = some s → s.2.1 = (D.digs (qs.getD j 0)).length ∧ RO h m s.1 s.2.2 (D.digs (qs.getD j 0))
theorem LD.keep {h h' : Hp} {m : Option Addr} {ss : List Sl} {qs : List Nat} (d : LD h m ss qs) (k : Keep h h') : LD h' m ss qs := ⟨d.len, fun j s e => ⟨(d.at_ j s e).1, (d.at_ j s e).2.keep k⟩⟩
theorem LD.step {h h' : Hp} {m m' : Option Addr} {ss : List Sl} {qs : List Nat} (d : LD h m ss qs) (k : KeepX m h h') (hm : m' = m ∨ ∃ b, m' = some ⟨b, 0, none⟩ ∧ h.size ≤ b) : LD h' m' ss qs :=
  ⟨d.len, fun j s e => ⟨(d.at_ j s e).1, (d.at_ j s e).2.step k hm⟩⟩
theorem LD.snoc {h : Hp} {m : Option Addr} {ss : List Sl} {qs : List Nat} (d : LD h m ss qs) {a : Option Addr} {c q : Nat} (r : RO h m a c (D.digs q)) : LD h m (ss ++ [(a, (D.digs q).length, c)]) (qs ++ [q]) := by
  refine ⟨by simp [d.len], fun j s e => ?_⟩
  rw [List.getElem?_append] at e
  split at e
  · rename_i hj
    have := d.at_ j s e
    rw [show (qs ++ [q]).getD j 0 = qs.getD j 0 by simp [List.getD, List.getElem?_append, d.len ▸ hj]]
    exact this
  · rename_i hj
    have hj2 : j = ss.length := by
      have := (List.getElem?_eq_some_iff.mp e).1
      simp at this; omega
    subst hj2
    simp at e; subst e
    rw [show (qs ++ [q]).getD ss.length 0 = q by rw [d.len]; simp [List.getD]]
    exact ⟨rfl, r⟩
theorem ld_at {h : Hp} {m : Option Addr} {a : Option Addr} {c l : Nat} {ss : List Sl} {qs : List Nat} (d : LD h m ss qs) (r : RdE eSl h a c ss) {i : Int} {j : Nat} (hi : i = (j : Int)) (hl : l = ss.length) (hj : j < qs.length) {K : Option Addr → Nat → Nat → Prop}
    (g : ∀ a c, RdE eU32 h a c (D.digs (qs.getD j 0)) → K a (D.digs (qs.getD j 0)).length c) : idxK a l i 1 fun q => ldK h q fun v => gSlice v K := by
  have hj2 : j < ss.length := by rw [d.len]; exact hj
  refine atSl r hi hl (x := ss[j]) (List.getElem?_eq_getElem hj2) ?_
  obtain ⟨e1, e2⟩ := d.at_ j ss[j] (List.getElem?_eq_getElem hj2)
  rw [e1]; exact g _ _ e2.r
/-- What euclid hands back. -/
def EuR (h : Hp) (qs : List Nat) (v : Value) (h' : Hp) : Prop := Keep h h' ∧ ∃ a c ss, v = .slice a ss.length c ∧ GotE eSl h h' a c ss ∧ LD h' a ss qs
theorem euclid_loop {h0 : Hp} {most : Nat} (hm : most ≤ 2000) (qs0 : List Nat) :
    ∀ (n : Nat) {a0 a1 a7 : Option Addr} {c0 c1 c7 X Y : Nat} {h : Hp} {ss : List Sl} {qs : List Nat}, qs.length + n = most → qs0 = qs ++ eu n X Y → Dm X → Dm Y → Keep h0 h → RO h a7 a0 c0 (D.digs X) → RO h a7 a1 c1 (D.digs Y) → GotE eSl h0 h a7 c7 ss → LD h a7 ss qs →
      gnomonref13_euclid.L3.t (EuR h0 qs0) (n + 1) a0 (D.digs X).length c0 a1 (D.digs Y).length c1 (most : Int) a7 ss.length c7 h := by
  intro n
  induction n with
  | zero =>
    intro a0 a1 a7 c0 c1 c7 X Y h ss qs hn hq dX dY k0 r0 r1 g d
    have hq' : qs0 = qs := by rw [hq, eu, List.append_nil]
    have fin : gnomonref13_euclid.D2.t (EuR h0 qs0) a7 ss.length c7 h := by
      unfold gnomonref13_euclid.D2.t
      subst hq'; exact ⟨k0, a7, c7, ss, rfl, g, d⟩
    unfold gnomonref13_euclid.L3.t gnomonref13_euclid.D4.t
    refine c_dec (fun _ => ?_) fun _ => fin
    refine c_dec (fun hb => ?_) fun _ => fin
    have := d.len; omega
  | succ n ih =>
    intro a0 a1 a7 c0 c1 c7 X Y h ss qs hn hq dX dY k0 r0 r1 g d
    unfold gnomonref13_euclid.L3.t gnomonref13_euclid.D4.t
    have hl := d.len
    refine c_dec (fun hb => ?_) fun hb => ?_
    · have hY : Y ≠ 0 := fun e => by have := ddigs_ne.mpr e; omega
      rw [eu, if_neg hY] at hq
      refine c_dec (fun _ => ?_) fun hb => absurd (show ((ss.length : Nat) : Int) < (most : Int) by omega) hb
      unfold gnomonref13_euclid.D5.t
      refine d_divmod r0.r rfl r1.r rfl dX hY fun a2 c2 a3 c3 h2 k2 r2 r3 => ?_
      have f2 := RO.fresh r2 (m := a7) (GotE.blk g)
      have f3 := RO.fresh r3 (m := a7) (GotE.blk g)
      refine pushX (s := (a2, (D.digs (X / Y)).length, c2)) (g.keep k2) (k0.trans k2) rfl rfl rfl rfl (by omega) fun a4 c4 h3 h4 g4 k4 k3 kx ha => ?_
      have hs : ss.length + 1 = (ss ++ [(a2, (D.digs (X / Y)).length, c2)]).length := by simp
      rw [hs]
      refine ih (qs := qs ++ [X / Y]) (by simp; omega) (by rw [hq, List.append_assoc]; rfl) dY (dm_le (Nat.mod_le _ _) dX) k4 (((r1.keep k2).keep k3).step kx ha) ((f3.keep k3).step kx ha) g4 ?_
      exact LD.snoc (((d.keep k2).keep k3).step kx ha) ((f2.keep k3).step kx ha)
    · have hY : Y = 0 := ddigs_ne.mp (by omega)
      unfold gnomonref13_euclid.D2.t
      rw [eu, if_pos hY, List.append_nil] at hq
      subst hq; exact ⟨k0, a7, c7, ss, rfl, g, d⟩
theorem euclid_c {h : Hp} {a b : Option Addr} {c d l m X Y most : Nat} {i : Int} (r : RdE eU32 h a c (D.digs X)) (s : RdE eU32 h b d (D.digs Y)) (hl : l = (D.digs X).length) (hm : m = (D.digs Y).length) (hi : i = (most : Int)) (hmost : most ≤ 2000) (dX : Dm X) (dY : Dm Y) {K : Option Addr → Nat → Nat → Hp → Prop}
    (g : ∀ a c ss h', Keep h h' → RdE eSl h' a c ss → LD h' a ss (eu most X Y) → K a ss.length c h') :
    HC gnomonref13_euclid.id #[.slice a l c, .slice b m d, .int .i64 i] h fun v h' => gSlice v fun a l c => K a l c h' := by
  subst hl; subst hm; subst hi
  refine hc_intro (S := EuR h (eu most X Y)) ?_ fun v h' ⟨k, a, c, ss, e, g1, d⟩ => by subst e; exact gSlice_intro rfl (g a c ss h' k g1.rd d)
  refine gnomonref13_euclid.ok ?_
  unfold gnomonref13_euclid.t gnomonref13_euclid.D1.t
  have hn : ∀ {xs : List Nat} {p : Addr}, xs = xs → Off p.block none := fun _ q e => by cases e
  refine ⟨most + 1, ?_⟩
  exact euclid_loop hmost (eu most X Y) most (qs := []) (ss := []) (by simp) (by simp) dX dY (Keep.refl _) ⟨r, Or.inr fun p _ q e => by cases e⟩ ⟨s, Or.inr fun p _ q e => by cases e⟩ (GotE.nil _ _) ⟨rfl, fun j s e => by simp at e⟩
/-- What the two lists come to. -/
theorem eu_QL {k : Nat} (h1 : 1 ≤ k) (h2 : k ≤ 1000) : (∃ T, T ≠ [] ∧ eu (k + 2) (piW (4 * k + 64)) (2 ^ (4 * k + 64 + 1)) = QL.take k ++ T) ∧ (∃ T, T ≠ [] ∧ eu (k + 2) (piW (4 * k + 64) + 1) (2 ^ (4 * k + 64 + 1)) = QL.take k ++ T) := by
  obtain ⟨a, ⟨x, y, b1, b2, b3, b4⟩, ⟨u, v, c1, c2, c3, c4⟩⟩ := okAll_elim QL [] 68 okAll_QL k h1 (by rw [QL_length]; exact h2)
  rw [show 68 + 4 * (k - 1) = 4 * k + 64 by omega] at b1 b2 c1 c2
  have hq : ∀ q ∈ QL.take k, 1 ≤ q := fun q hq => (a q hq).1
  have e1 := eu_fbk (QL.take k) x y 2 hq b3 b4
  have e2 := eu_fbk (QL.take k) u v 2 hq c3 c4
  rw [fbk_cv _ _ rfl, QL_take_len h2] at e1 e2
  simp only [List.nil_append] at b1 b2 c1 c2
  simp only at e1 e2
  rw [b1, b2] at e1
  rw [c1, c2] at e2
  refine ⟨⟨eu 2 x y, ?_, e1⟩, ⟨eu 2 u v, ?_, e2⟩⟩
  · rw [eu, if_neg (by omega)]; simp
  · rw [eu, if_neg (by omega)]; simp
end Go.Proofs.YtjijdlkpmngolaaGreat.G

/- The document's answers for Terms and Convergent, and that the program's are these. -/
namespace Go.Proofs.YtjijdlkpmngolaaGreat.G
open Go.Gv
set_option linter.unusedVariables false
set_option maxRecDepth 100000
theorem d_fits {a : Option Addr} {c l x : Nat} {h : Hp} {K : Int → Bool → Hp → Prop} (r : RdE eU32 h a c (D.digs x)) (hl : l = (D.digs x).length) (hx : x < 18446744073709551616) (g : ∀ h', Keep h h' → K (x : Int) true h') :
    HC gnomonref01_Fits.id #[.slice a l c] h fun v h' => gTup v fun y => uncons y fun v1 y1 => gInt .u64 v1 fun z => uncons y1 fun v2 y2 => gBool v2 fun b => unnil y2 (K z b h') := by
  refine hc_intro (rFits_spec r hl) fun v h' ⟨k, t⟩ => ?_
  have e : fitsS x = ((x : Int), true) := if_pos hx
  rw [e] at t
  obtain ⟨_, _, e0, ⟨e1, _⟩, e2⟩ := t
  subst e0; subst e1; subst e2
  exact gTup_intro rfl (uncons_intro (gInt_intro rfl (uncons_intro (gBool_intro rfl (unnil_intro (g h' k))))))
theorem QL_snoc {i : Nat} (h : i < 1000) : QL.take i ++ [QL.getD i 0] = QL.take (i + 1) := by
  have hl : i < QL.length := by rw [QL_length]; exact h
  rw [List.take_add_one, List.getElem?_eq_getElem hl, List.getD, List.getElem?_eq_getElem hl]; rfl
theorem getD_pre {k i : Nat} {T : List Nat} (hk : k ≤ 1000) (h : i < k) : (QL.take k ++ T).getD i 0 = QL.getD i 0 := by
  have h1 : i < (QL.take k).length := by rw [QL_take_len hk]; exact h
  rw [List.getD, List.getElem?_append_left h1, List.getElem?_take, if_pos h]; rfl
theorem quot_loop {R : Rt} {N2 : Int → Int → Hp → Prop} {hB : Hp} {k : Nat} {x3 : Int} (hk : k ≤ 1000) {a5 a6 : Option Addr} {c5 c6 : Nat} {ss5 ss6 : List Sl} {T5 T6 : List Nat} (r5 : RdE eSl hB a5 c5 ss5) (r6 : RdE eSl hB a6 c6 ss6) (d5 : LD hB a5 ss5 (QL.take k ++ T5)) (d6 : LD hB a6 ss6 (QL.take k ++ T6)) (n5 : T5 ≠ []) (n6 : T6 ≠ [])
    (hR : ∀ a c h', Keep hB h' → GotE eU64 hB h' a c (QL.take k) → R (.slice a k c) h') :
    ∀ (n i : Nat) {a7 : Option Addr} {c7 : Nat} {h : Hp}, i + n = k → Keep hB h → GotE eU64 hB h a7 c7 (QL.take i) →
      gnomonref13_Quotients.L7.t R N2 (n + 1) (k : Int) x3 a5 ss5.length c5 a6 ss6.length c6 a7 i c7 (i : Int) h := by
  have hl5 : k + 1 ≤ ss5.length := by
    rw [d5.len, List.length_append, QL_take_len hk]
    have := List.length_pos_iff.mpr n5; omega
  have hl6 : k + 1 ≤ ss6.length := by
    rw [d6.len, List.length_append, QL_take_len hk]
    have := List.length_pos_iff.mpr n6; omega
  intro n
  induction n with
  | zero =>
    intro i a7 c7 h hi k0 g
    have e : i = k := by omega
    subst e
    have fin : gnomonref13_Quotients.D5.t R N2 (i : Int) x3 a7 i c7 h := by
      unfold gnomonref13_Quotients.D5.t
      exact c_eq (fun _ => hR a7 c7 h k0 g) fun e => absurd rfl e
    unfold gnomonref13_Quotients.L7.t gnomonref13_Quotients.D8.t
    refine k_i64 ((i + 1 : Nat) : Int) (by omega) (by omega) (by omega) ?_
    refine c_dec (fun _ => ?_) fun _ => fin
    refine k_i64 ((i + 1 : Nat) : Int) (by omega) (by omega) (by omega) ?_
    refine c_dec (fun _ => ?_) fun _ => fin
    exact c_dec (fun hb => by omega) fun _ => fin
  | succ n ih =>
    intro i a7 c7 h hi k0 g
    have hik : i < k := by omega
    have e5 := getD_pre (T := T5) hk hik
    have e6 := getD_pre (T := T6) hk hik
    have j5 : i < (QL.take k ++ T5).length := by have := d5.len; omega
    have j6 : i < (QL.take k ++ T6).length := by have := d6.len; omega
    have hq := QL_lt (show i < 1000 by omega)
    unfold gnomonref13_Quotients.L7.t gnomonref13_Quotients.D8.t
    refine k_i64 ((i + 1 : Nat) : Int) (by omega) (by omega) (by omega) ?_
    refine c_dec (fun _ => ?_) fun hb => absurd (show ((i + 1 : Nat) : Int) < (ss5.length : Int) by omega) hb
    refine k_i64 ((i + 1 : Nat) : Int) (by omega) (by omega) (by omega) ?_
    refine c_dec (fun _ => ?_) fun hb => absurd (show ((i + 1 : Nat) : Int) < (ss6.length : Int) by omega) hb
    refine c_dec (fun _ => ?_) fun hb => by omega
    refine ld_at (d5.keep k0) (r5.keep k0) rfl rfl j5 fun a1 c1 r1 => ?_
    refine ld_at (d6.keep k0) (r6.keep k0) rfl rfl j6 fun a2 c2 r2 => ?_
    rw [e5] at r1 ⊢
    rw [e6] at r2 ⊢
    refine d_cmp r1 rfl r2 rfl ?_
    refine c_eq (fun _ => ?_) fun hn => absurd (by simp [cmpI]) hn
    unfold gnomonref13_Quotients.D9.t
    refine ld_at (d5.keep k0) (r5.keep k0) rfl rfl j5 fun a1 c1 r1 => ?_
    rw [e5] at r1 ⊢
    refine d_fits r1 rfl hq.2 fun h1 k1 => ?_
    have hlen : (QL.take i).length = i := QL_take_len (by omega)
    refine push64 (g.keep k1) (k0.trans k1) hlen.symm rfl hq.2 (by rw [hlen]; omega) (by rw [hlen]; omega) fun a3 c3 h2 g2 k2 _ => ?_
    rw [QL_snoc (by omega)] at g2
    rw [hlen]
    refine k_i64 ((i + 1 : Nat) : Int) (by omega) (by omega) (by omega) ?_
    exact ih (i + 1) (by omega) k2 g2
theorem quotients_c {k : Nat} {i : Int} {h : Hp} (hi : i = (k : Int)) (h1 : 1 ≤ k) (h2 : k ≤ 1000) {K : Option Addr → Nat → Nat → Hp → Prop} (g : ∀ a c h', Keep h h' → GotE eU64 h h' a c (QL.take k) → K a k c h') :
    HC gnomonref13_Quotients.id #[.int .i64 i] h fun v h' => gSlice v fun a l c => K a l c h' := by
  subst hi
  refine hc_intro (S := fun v h' => Keep h h' ∧ ∃ a c, v = .slice a k c ∧ GotE eU64 h h' a c (QL.take k)) ?_ fun v h' ⟨k1, a, c, e, r⟩ => by subst e; exact gSlice_intro rfl (g a c h' k1 r)
  refine gnomonref13_Quotients.ok ?_
  unfold gnomonref13_Quotients.t gnomonref13_Quotients.D1.t
  refine k_i64 ((4 * k : Nat) : Int) (by omega) (by omega) (by omega) ?_
  refine k_i64 ((4 * k + 64 : Nat) : Int) (by omega) (by omega) (by omega) ?_
  refine ⟨1, ?_⟩
  unfold gnomonref13_Quotients.L2.t gnomonref13_Quotients.D4.t
  have hp : 4 * k + 64 < 4200 := by omega
  have hn : 4 * k + 64 + 1 ≤ 35184372088832 := by omega
  have hn2 : 4 * k + 64 + 1 + 1 ≤ 32000000 := by omega
  have hm : k + 2 ≤ 2000 := by omega
  obtain ⟨⟨T5, n5, e5⟩, ⟨T6, n6, e6⟩⟩ := eu_QL h1 h2
  have dP : Dm (piW (4 * k + 64)) := dm_sm (sm_piW (w := 4 * k + 64) (by omega) (Nat.le_add_right _ _))
  have dP1 : Dm (piW (4 * k + 64) + 1) := dm_sm (sm_piW (w := 4 * k + 64) (by omega) (by omega))
  have dO : Dm (2 ^ (4 * k + 64 + 1)) := dm_lt (k := 4 * k + 64 + 1 + 1) (Nat.pow_lt_pow_right (by decide) (by omega)) hn2
  refine dpi_c rfl hp fun a1 c1 h1 k1 r1 => ?_
  refine k_i64 ((4 * k + 64 + 1 : Nat) : Int) (by omega) (by omega) (by omega) ?_
  refine d_pow2 rfl hn fun a2 c2 h2 k2 r2 => ?_
  refine k_i64 ((k + 2 : Nat) : Int) (by omega) (by omega) (by omega) ?_
  refine euclid_c (r1.rd.keep k2) r2.rd rfl rfl rfl hm dP dO fun a3 c3 ss3 h3 k3 r3 d3 => ?_
  refine d_word (x := 1) rfl (by decide) fun a4 c4 h4 k4 r4 => ?_
  refine d_add (r1.rd.keep (k2.trans (k3.trans k4))) rfl r4.rd rfl dP (dm_w (by decide)) fun a5 c5 h5 k5 r5 => ?_
  refine k_i64 ((4 * k + 64 + 1 : Nat) : Int) (by omega) (by omega) (by omega) ?_
  refine d_pow2 rfl hn fun a6 c6 h6 k6 r6 => ?_
  refine k_i64 ((k + 2 : Nat) : Int) (by omega) (by omega) (by omega) ?_
  refine euclid_c (r5.rd.keep k6) r6.rd rfl rfl rfl hm dP1 dO fun a7 c7 ss7 h7 k7 r7 d7 => ?_
  rw [e5] at d3
  rw [e6] at d7
  have k47 := k4.trans (k5.trans (k6.trans k7))
  unfold gnomonref13_Quotients.D6.t
  refine ⟨k + 1, quot_loop (by omega) (r3.keep k47) r7 (d3.keep k47) d7 n5 n6 (fun a c h' kk gg => ?_) k 0 (by omega) (Keep.refl _) (by rw [List.take_zero]; exact GotE.nil _ _)⟩
  have k17 := k1.trans (k2.trans (k3.trans k47))
  exact ⟨k17.trans kk, a, c, rfl, gg.from k17.le⟩
theorem docconv_loop {R : Rt} {h0 : Hp} {n : Nat} (hn : n ≤ 1000) {a23 : Option Addr} {c23 : Nat} (r23 : Rd h0 a23 c23 (QL.take n)) (hR : ∀ a c b d h', Keep h0 h' → GotE eU64 h0 h' a c (digs (cvn n).P) → GotE eU64 h0 h' b d (digs (cvn n).R) → R (.tuple #[.slice a (digs (cvn n).P).length c, .slice b (digs (cvn n).R).length d, .int .i64 0]) h') :
    ∀ (m i : Nat) {a5 a6 a7 a8 : Option Addr} {c5 c6 c7 c8 : Nat} {h : Hp}, i + m = n → Keep h0 h →
      RdE eU32 h a5 c5 (D.digs (cvn i).P) → RdE eU32 h a6 c6 (D.digs (cvn i).R) → RdE eU32 h a7 c7 (D.digs (cvn i).P') → RdE eU32 h a8 c8 (D.digs (cvn i).R') →
      gnomonref13_DocConvergent.L5.t R (m + 1) a5 (D.digs (cvn i).P).length c5 a6 (D.digs (cvn i).R).length c6 a7 (D.digs (cvn i).P').length c7 a8 (D.digs (cvn i).R').length c8 a23 n c23 (n : Int) (i : Int) h := by
  intro m
  induction m with
  | zero =>
    intro i a5 a6 a7 a8 c5 c6 c7 c8 h hi k0 r5 r6 r7 r8
    unfold gnomonref13_DocConvergent.L5.t gnomonref13_DocConvergent.D6.t
    refine c_dec (fun hb => by omega) fun _ => ?_
    unfold gnomonref13_DocConvergent.D3.t
    have e : i = n := by omega
    subst e
    refine d_to r5 rfl fun a1 c1 h1 k1 r1 => ?_
    refine d_to (r6.keep k1) rfl fun a2 c2 h2 k2 r2 => ?_
    exact hR _ _ _ _ _ (k0.trans (k1.trans k2)) ((r1.keep k2).from k0.le) (r2.from (k0.trans k1).le)
  | succ m ih =>
    intro i a5 a6 a7 a8 c5 c6 c7 c8 h hi k0 r5 r6 r7 r8
    unfold gnomonref13_DocConvergent.L5.t gnomonref13_DocConvergent.D6.t
    refine c_dec (fun hb => ?_) fun hb => by omega
    have hl : i < (QL.take n).length := by rw [QL_take_len hn]; omega
    have e1 : (QL.take n).getD i 0 = QL.getD i 0 := by simp [List.getD, show i < n by omega]
    refine at_intro (r23.keep k0) (j := i) rfl (QL_take_len hn).symm hl ?_
    rw [e1]
    have hq := (QL_lt (show i < 1000 by omega)).2
    obtain ⟨s1, s2, s3, s4⟩ := cvn_sm (n := i) (by omega)
    obtain ⟨t1, t2, t3, t4⟩ := cvn_sm (n := i + 1) (by omega)
    have en := cvn_succ (show i < 1000 by omega)
    have ep : (cvn (i + 1)).P = QL.getD i 0 * (cvn i).P + (cvn i).P' := by rw [en]; rfl
    have er : (cvn (i + 1)).R = QL.getD i 0 * (cvn i).R + (cvn i).R' := by rw [en]; rfl
    have ep' : (cvn (i + 1)).P' = (cvn i).P := by rw [en]; rfl
    have er' : (cvn (i + 1)).R' = (cvn i).R := by rw [en]; rfl
    have dp : Dm (QL.getD i 0 * (cvn i).P) := dm_le (by rw [ep]; exact Nat.le_add_right _ _) (dm_sm t1)
    have dr : Dm (QL.getD i 0 * (cvn i).R) := dm_le (by rw [er]; exact Nat.le_add_right _ _) (dm_sm t3)
    refine d_word rfl hq fun a1 c1 h1 k1 u1 => ?_
    refine d_mul u1.rd rfl (r5.keep k1) rfl (dm_w hq) (dm_sm s1) fun a2 c2 h2 k2 u2 => ?_
    refine d_add u2.rd rfl ((r7.keep k1).keep k2) rfl dp (dm_sm s2) fun a3 c3 h3 k3 u3 => ?_
    refine d_word rfl hq fun a4 c4 h4 k4 u4 => ?_
    have k14 := k1.trans (k2.trans (k3.trans k4))
    refine d_mul u4.rd rfl (r6.keep k14) rfl (dm_w hq) (dm_sm s3) fun a9 c9 h5 k5 u5 => ?_
    refine d_add u5.rd rfl ((r8.keep k14).keep k5) rfl dr (dm_sm s4) fun a10 c10 h6 k6 u6 => ?_
    have k46 := k4.trans (k5.trans k6)
    have k16 := k14.trans (k5.trans k6)
    rw [← ep] at u3 ⊢
    rw [← er] at u6 ⊢
    refine k_i64 ((i + 1 : Nat) : Int) (by omega) (by omega) (by omega) ?_
    have := ih (i + 1) (by omega) (k0.trans k16) (u3.rd.keep k46) u6.rd (by rw [ep']; exact r5.keep k16) (by rw [er']; exact r6.keep k16)
    rw [ep', er'] at this
    exact this
theorem docconv_c {k : Nat} {i : Int} {h : Hp} (hi : i = (k : Int)) (h2 : k < 1000) {K : Option Addr → Nat → Nat → Option Addr → Nat → Nat → Int → Hp → Prop}
    (g : ∀ a c b d h', Keep h h' → Rd h' a c (digs (cvn (k + 1)).P) → Rd h' b d (digs (cvn (k + 1)).R) → K a (digs (cvn (k + 1)).P).length c b (digs (cvn (k + 1)).R).length d 0 h') :
    HC gnomonref13_DocConvergent.id #[.int .i64 i] h fun v h' => gTup v fun y => uncons y fun v1 y1 => gSlice v1 fun a l c => uncons y1 fun v2 y2 => gSlice v2 fun b m d => uncons y2 fun v3 y3 => gInt .i64 v3 fun x => unnil y3 (K a l c b m d x h') := by
  subst hi
  refine hc_intro (S := fun v h' => Keep h h' ∧ ∃ a c b d, v = .tuple #[.slice a (digs (cvn (k + 1)).P).length c, .slice b (digs (cvn (k + 1)).R).length d, .int .i64 0] ∧ Rd h' a c (digs (cvn (k + 1)).P) ∧ Rd h' b d (digs (cvn (k + 1)).R)) ?_ fun v h' ⟨k1, a, c, b, d, e, r, s⟩ => by
    subst e; exact gTup_intro rfl (uncons_intro (gSlice_intro rfl (uncons_intro (gSlice_intro rfl (uncons_intro (gInt_intro rfl (unnil_intro (g a c b d h' k1 r s))))))))
  refine gnomonref13_DocConvergent.ok ?_
  unfold gnomonref13_DocConvergent.t gnomonref13_DocConvergent.D1.t
  refine c_dec (fun hb => absurd hb (by omega)) fun _ => ?_
  refine c_dec (fun hb => absurd hb (by omega)) fun _ => ?_
  unfold gnomonref13_DocConvergent.D2.t
  refine d_word (x := 1) rfl (by decide) fun a5 c5 h5 k5 r5 => ?_
  refine d_word (x := 0) rfl (by decide) fun a6 c6 h6 k6 r6 => ?_
  refine d_word (x := 0) rfl (by decide) fun a7 c7 h7 k7 r7 => ?_
  refine d_word (x := 1) rfl (by decide) fun a8 c8 h8 k8 r8 => ?_
  unfold gnomonref13_DocConvergent.D4.t
  refine k_i64 ((k + 1 : Nat) : Int) (by omega) (by omega) (by omega) ?_
  refine quotients_c (k := k + 1) rfl (by omega) (by omega) fun a9 c9 h9 k9 r9 => ?_
  refine ⟨k + 1 + 1, ?_⟩
  have kk := k5.trans (k6.trans (k7.trans (k8.trans k9)))
  refine docconv_loop (h0 := h9) (n := k + 1) (by omega) r9.rd64 (fun a c b d h' k1 r s => ?_) (k + 1) 0 (by omega) (Keep.refl _) (r5.rd.keep (k6.trans (k7.trans (k8.trans k9)))) (r6.rd.keep (k7.trans (k8.trans k9))) (r7.rd.keep (k8.trans k9)) (r8.rd.keep k9)
  exact ⟨kk.trans k1, a, c, b, d, rfl, r.rd64, s.rd64⟩
theorem docconv_bad {i : Int} {h : Hp} (hi : i < 0 ∨ i ≥ 1000) {K : Option Addr → Nat → Nat → Option Addr → Nat → Nat → Int → Hp → Prop} (g : K none 0 0 none 0 0 1 h) :
    HC gnomonref13_DocConvergent.id #[.int .i64 i] h fun v h' => gTup v fun y => uncons y fun v1 y1 => gSlice v1 fun a l c => uncons y1 fun v2 y2 => gSlice v2 fun b m d => uncons y2 fun v3 y3 => gInt .i64 v3 fun x => unnil y3 (K a l c b m d x h') := by
  refine hc_intro (S := fun v h' => h' = h ∧ v = .tuple #[.slice none 0 0, .slice none 0 0, .int .i64 1]) ?_ fun v h' ⟨e1, e2⟩ => by
    subst e1; subst e2; exact gTup_intro rfl (uncons_intro (gSlice_intro rfl (uncons_intro (gSlice_intro rfl (uncons_intro (gInt_intro rfl (unnil_intro g)))))))
  refine gnomonref13_DocConvergent.ok ?_
  unfold gnomonref13_DocConvergent.t gnomonref13_DocConvergent.D1.t
  refine c_dec (fun hb => ⟨rfl, rfl⟩) fun hb => ?_
  exact c_dec (fun hb => ⟨rfl, rfl⟩) fun hc => by omega
end Go.Proofs.YtjijdlkpmngolaaGreat.G

/- The program plays Terms and Convergent as the document says. -/
namespace Go.Proofs.YtjijdlkpmngolaaGreat.G
open Go.Gv
set_option linter.unusedVariables false
set_option maxRecDepth 100000
theorem same_nil {a b : Option Addr} {c d : Nat} {h : Hp} {K : Bool → Prop} (g : K true) : HQC gnomonref01_Same.id #[.slice a 0 c, .slice b 0 d] h fun v => gBool v K :=
  same_c (xs := []) (Rd.nil _ _ _) (Rd.nil _ _ _) rfl rfl g
theorem plays2 {x z : Int} {h : Hp} (hx : -9223372036854775808 ≤ x ∧ x < 9223372036854775808) : HC gnomonlaw13_plays.id #[.agg #[.int .i64 2, .int .i64 x, .int .i64 z]] h fun v h' => Keep h h' ∧ v = .bool true := by
  refine gnomonlaw13_plays.ok ?_
  unfold gnomonlaw13_plays.t gnomonlaw13_plays.D1.t
  refine boxV fun h1 o1 k1 => ?_
  refine ldI o1 rfl ?_
  refine c_eq (fun e => absurd e (by decide)) fun _ => ?_
  refine c_eq (fun _ => ?_) fun e => absurd rfl e
  refine ldI o1 rfl ?_
  by_cases hx2 : 0 ≤ x ∧ x < 1000
  · obtain ⟨n, rfl⟩ : ∃ n : Nat, x = (n : Int) := ⟨x.toNat, by omega⟩
    refine conv_c rfl (by omega) fun a2 c2 b2 d2 h2 k2 r2 s2 => ?_
    refine ldI (o1.keep k2) rfl ?_
    refine docconv_c rfl (by omega) fun a3 c3 b3 d3 h3 k3 r3 s3 => ?_
    refine same_c (r2.keep k3) r3 rfl rfl ?_
    refine c_tru ?_
    refine same_c (s2.keep k3) s3 rfl rfl ?_
    exact ⟨k1.trans (k2.trans k3), rfl⟩
  · refine conv_bad (by omega) ?_
    refine ldI o1 rfl ?_
    refine docconv_bad (by omega) ?_
    refine same_nil ?_
    refine c_tru ?_
    refine same_nil ?_
    exact ⟨k1, rfl⟩
theorem NearpiConvergents_law {x : Int} {h : Hp} (hx : -9223372036854775808 ≤ x ∧ x < 9223372036854775808) : HC gnomonlaw13_NearpiConvergents.id #[.int .i64 x] h fun v h' => Keep h h' ∧ v = .bool true := by
  refine gnomonlaw13_NearpiConvergents.ok ?_
  unfold gnomonlaw13_NearpiConvergents.t gnomonlaw13_NearpiConvergents.D1.t
  refine awake_c fun h1 k1 => ?_
  refine c_tru ?_
  refine hc_intro (plays2 hx) fun v h2 ⟨k2, e⟩ => ?_
  subst e; exact gBool_intro rfl ⟨k1.trans k2, rfl⟩
end Go.Proofs.YtjijdlkpmngolaaGreat.G
