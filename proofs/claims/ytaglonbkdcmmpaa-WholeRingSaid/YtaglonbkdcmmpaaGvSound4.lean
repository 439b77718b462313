/- Gv, part 6: regions and code of the machine, by 'den'. -/
import Derived.Test.YtaglonbkdcmmpaaGvRegion
import Derived.LoopN
import Derived.Scope
namespace Go.Gv
set_option linter.unusedVariables false
set_option linter.unusedSimpArgs false
section
variable {P : Program} {E : Env}
theorem dQuiet_to (hE : EnvOk P E) {o : Oper} {fr : Fr} {a : Act} (hev : a.eval = ev fr) (hc : clOf E o.op = .quiet) {h : Hp} {K : Value → Prop} (hd : dQuiet P E o.op o.type fr h K) :
    ∃ v, K v ∧ ∀ w : World, w.heap = h → QuietTo P o a w v := by
  obtain ⟨dst, op, type, pos, after, guard⟩ := o
  simp only at hd hc
  cases op with
  | call c =>
    obtain ⟨callee, ⟨args⟩, ats⟩ := c
    simp only [dQuiet] at hd
    split at hd
    · rename_i f
      obtain ⟨v, h1, h2⟩ := hd
      refine ⟨v, asTy_elim h2, fun w hw => ?_⟩
      have hl : look E.fns f = some .quiet := by
        simp only [clOf] at hc
        split at hc <;> first | assumption | cases hc
      obtain ⟨fn, hf, hn1, hb, _⟩ := fn_facts hE hl
      have hb := hb (.inr rfl)
      refine ⟨f, (args.map (ev fr)).toArray, ?_, (h1 w hw).mono ?_⟩
      · have hname : ¬ fn.name = "runtime.NumGoroutine" := by simpa using hn1
        have hbody : ¬ fn.body = none := by intro e; rw [e] at hb; cases hb
        rw [hev]
        simp [execOp, resolve, Deferred.ofValue, ev, invoke, callFunc, hf, hname, hbody]
      · rintro e w' ⟨v', rfl, s, rfl, k⟩
        exact ⟨rfl, s, by rw [k, hw]⟩
    · cases hd
  | _ => simp [dQuiet] at hd
theorem dOp_stp (hE : EnvOk P E) {md : Bool} {n0 : Nat} {ops : Array Oper} {o : Oper} {fr : Fr} {a : Act} (hev : a.eval = ev fr) {h : Hp} {N : Value → Hp → Prop} (hd : dOp P E md n0 o fr h N)
    (hw : Region.wanted o (yielded ops a.tmps) = true) : stp P E md n0 ops o a h N := by
  unfold dOp at hd
  unfold stp
  rw [if_pos hw]
  cases hc : clOf E o.op with
  | pure =>
    simp only [hc] at hd ⊢
    obtain ⟨v, hv, hr⟩ := dStill_run hE hd
    exact ⟨v, fun w => by unfold RunsTo; rw [hev]; exact hr w fun t x q e _ => by rw [e] at hc; simp [clOf] at hc, hv⟩
  | load =>
    simp only [hc] at hd ⊢
    cases md with
    | false =>
      simp only [cond_false] at hd ⊢
      obtain ⟨v, hv, hr⟩ := dStill_run hE hd
      exact ⟨v, fun w hw' => by unfold RunsTo; rw [hev]; exact hr w fun t x q e _ => by rw [hw'], hv⟩
    | true =>
      simp only [cond_true] at hd ⊢
      split at hd
      · rename_i t x e
        obtain ⟨hb, hd⟩ := hd
        obtain ⟨v, hv, hr⟩ := dStill_run hE hd
        refine ⟨v, fun w hp => ?_, hv⟩
        unfold RunsTo
        rw [hev]
        refine hr w fun t' x' q e' hq => ?_
        rw [e] at e'
        cases e'
        rw [hq] at hb
        exact hp _ hb
      · cases hd
  | quiet =>
    simp only [hc] at hd ⊢
    obtain ⟨v, hv, hr⟩ := dQuiet_to hE hev hc hd
    exact ⟨v, hr, hv⟩
  | call =>
    simp only [hc] at hd ⊢
    cases md with
    | false =>
      intro w hw'
      subst hw'
      simp only [cond_false] at hd
      exact (dAct_to hE hev hd).mono fun v h' k => ⟨fun e => (by cases e), k⟩
    | true =>
      intro w hw'
      subst hw'
      simp only [cond_true] at hd
      exact (dAct_to hE hev hd).mono fun v h' k => ⟨fun _ => k.1, k.2⟩
  | act =>
    simp only [hc] at hd ⊢
    intro w hw'
    subst hw'
    exact dAct_to hE hev hd
/-- The guard of an operation, as the machine asks it. -/
theorem guard_of {all : List Oper} {n : Nat} {fr : Fr} {a : Act} (hr : RelA n fr a) {o : Oper} {j t : Nat} {want b : Bool} (hg : o.guard = some (j, want)) (ht : gTmp all j = some t) (hb : fr t = .bool b) :
    Region.wanted o (yielded all.toArray a.tmps) = (b == want) := by
  have h1 : a.tmps[t]? = some (.bool b) := by
    have := hr.get t
    rw [hb, Array.getD_eq_getD_getElem?] at this
    cases hx : a.tmps[t]? with
    | none => rw [hx] at this; simp [undef] at this
    | some v => rw [hx] at this; simp at this; rw [this]
  have h2 : ((all.toArray[j]?).bind (·.dst)).bind (a.tmps[·]?) = some (.bool b) := by
    unfold gTmp at ht
    split at ht
    · rename_i oj hj
      simp [hj, ht, h1]
    · cases ht
  unfold Region.wanted yielded
  rw [hg]
  simp only [h2]
  cases b <;> cases want <;> rfl
theorem guard_none {all : List Oper} {n : Nat} {fr : Fr} {a : Act} (hr : RelA n fr a) {o : Oper} {j t : Nat} {want : Bool} {vs : Array Value} (hg : o.guard = some (j, want)) (ht : gTmp all j = some t) (hb : fr t = .tuple vs) :
    Region.wanted o (yielded all.toArray a.tmps) = false := by
  have h1 : a.tmps[t]? = none ∨ a.tmps[t]? = some (.tuple vs) := by
    have := hr.get t
    rw [hb, Array.getD_eq_getD_getElem?] at this
    cases hx : a.tmps[t]? with
    | none => exact .inl rfl
    | some v => rw [hx] at this; simp at this; rw [this]; exact .inr rfl
  have h2 : (all.toArray[j]?).bind (·.dst) = some t := by
    unfold gTmp at ht
    split at ht
    · rename_i oj hj
      simp [hj, ht]
    · cases ht
  unfold Region.wanted yielded
  rw [hg]
  simp only [h2, Option.bind_some]
  rcases h1 with h1 | h1 <;> rw [h1] <;> rfl
theorem dOps_wk (hE : EnvOk P E) {md : Bool} {n0 n : Nat} {all : List Oper} : ∀ {l : List Oper} {k : Nat} {fr : Fr} {a : Act} {h : Hp} {K : Fr → Hp → Prop}, (∀ j, l[j]? = all[k + j]?) → l.all (dstB n) = true → RelA n fr a →
    dOps P E md n0 all l fr h K → wk P E md n0 all.toArray (fun a' h' => ∃ fr', RelA n fr' a' ∧ K fr' h') (List.range' k l.length) a h
  | [], k, fr, a, h, K, _, _, hr, hd => ⟨fr, hr, hd⟩
  | o :: rest, k, fr, a, h, K, hl, hb, hr, hd => by
    simp only [List.all_cons, Bool.and_eq_true] at hb
    obtain ⟨hb1, hb2⟩ := hb
    have ho : all.toArray[k]? = some o := by have := hl 0; simp at this; simpa using this.symm
    have hl' : ∀ j, rest[j]? = all[k + 1 + j]? := fun j => by have := hl (j + 1); simpa [Nat.add_assoc, Nat.add_comm 1 j] using this
    simp only [List.length_cons, List.range'_succ, wk, ho]
    have next : ∀ fr0, RelA n fr0 a → ∀ v h', dOps P E md n0 all rest (updO fr0 o.dst v) h' K → wk P E md n0 all.toArray (fun a' h' => ∃ fr', RelA n fr' a' ∧ K fr' h') (List.range' (k + 1) rest.length) (a.put o.dst v) h' :=
      fun fr0 hr0 v h' hd0 => dOps_wk hE hl' hb2 (hr0.put hb1 v) hd0
    have run : ∀ fr0, RelA n fr0 a → Region.wanted o (yielded all.toArray a.tmps) = true → dOp P E md n0 o fr0 h (fun v h' => dOps P E md n0 all rest (updO fr0 o.dst v) h' K) →
        stp P E md n0 all.toArray o a h fun v h' => wk P E md n0 all.toArray (fun a' h' => ∃ fr', RelA n fr' a' ∧ K fr' h') (List.range' (k + 1) rest.length) (a.put o.dst v) h' :=
      fun fr0 hr0 hw hd0 => stp_mono (fun v h' k' => next fr0 hr0 v h' k') (dOp_stp hE hr0.ev hd0 hw)
    have skip : ∀ fr0, RelA n fr0 a → Region.wanted o (yielded all.toArray a.tmps) = false → dOps P E md n0 all rest (updO fr0 o.dst undef) h K →
        stp P E md n0 all.toArray o a h fun v h' => wk P E md n0 all.toArray (fun a' h' => ∃ fr', RelA n fr' a' ∧ K fr' h') (List.range' (k + 1) rest.length) (a.put o.dst v) h' := by
      intro fr0 hr0 hw hd0
      unfold stp
      rw [if_neg (by rw [hw]; decide)]
      exact next fr0 hr0 undef h hd0
    unfold dOps at hd
    split at hd
    · rename_i hg
      exact run fr hr (by simp [Region.wanted, hg]) hd
    · rename_i j want hg
      split at hd
      · cases hd
      · rename_i t ht
        split at hd
        · rename_i b hfb
          have hw := guard_of (all := all) hr hg ht hfb
          have hr' : RelA n (upd fr t (.bool b)) a := by rw [upd_self hfb]; exact hr
          cases b <;> cases want <;> simp only [cond_true, cond_false] at hd
          · exact run _ hr' (by rw [hw]; rfl) hd
          · exact skip _ hr' (by rw [hw]; rfl) hd
          · exact skip _ hr' (by rw [hw]; rfl) hd
          · exact run _ hr' (by rw [hw]; rfl) hd
        · rename_i vs hfb
          exact skip fr hr (guard_none (all := all) hr hg ht hfb) hd
        · cases hd
theorem dOne_stp (hE : EnvOk P E) {n0 n : Nat} {all : List Oper} {i : Nat} {o : Oper} (ho : all[i]? = some o) (hb1 : dstB n o = true) {fr : Fr} {a : Act} {h : Hp} {K : Fr → Hp → Prop} (hr : RelA n fr a)
    (hd : dOps P E true n0 all [o] fr h K) : stp P E true n0 all.toArray o a h fun v h' => ∃ fr', RelA n fr' (a.put o.dst v) ∧ K fr' h' := by
  have run : ∀ fr0, RelA n fr0 a → Region.wanted o (yielded all.toArray a.tmps) = true → dOp P E true n0 o fr0 h (fun v h' => dOps P E true n0 all [] (updO fr0 o.dst v) h' K) →
      stp P E true n0 all.toArray o a h fun v h' => ∃ fr', RelA n fr' (a.put o.dst v) ∧ K fr' h' :=
    fun fr0 hr0 hw hd0 => stp_mono (fun v h' k' => ⟨_, hr0.put hb1 v, k'⟩) (dOp_stp hE hr0.ev hd0 hw)
  have skip : ∀ fr0, RelA n fr0 a → Region.wanted o (yielded all.toArray a.tmps) = false → dOps P E true n0 all [] (updO fr0 o.dst undef) h K →
      stp P E true n0 all.toArray o a h fun v h' => ∃ fr', RelA n fr' (a.put o.dst v) ∧ K fr' h' := by
    intro fr0 hr0 hw hd0
    unfold stp
    rw [if_neg (by rw [hw]; decide)]
    exact ⟨_, hr0.put hb1 undef, hd0⟩
  unfold dOps at hd
  split at hd
  · rename_i hg
    exact run fr hr (by simp [Region.wanted, hg]) hd
  · rename_i j want hg
    split at hd
    · cases hd
    · rename_i t ht
      split at hd
      · rename_i b hfb
        have hw := guard_of (all := all) hr hg ht hfb
        have hr' : RelA n (upd fr t (.bool b)) a := by rw [upd_self hfb]; exact hr
        cases b <;> cases want <;> simp only [cond_true, cond_false] at hd
        · exact run _ hr' (by rw [hw]; rfl) hd
        · exact skip _ hr' (by rw [hw]; rfl) hd
        · exact skip _ hr' (by rw [hw]; rfl) hd
        · exact run _ hr' (by rw [hw]; rfl) hd
      · rename_i vs hfb
        exact skip fr hr (guard_none (all := all) hr hg ht hfb) hd
      · cases hd
theorem conjL_spec {f : Nat → Prop} : ∀ {l : List Nat}, conjL f l → ∀ i ∈ l, f i
  | [i], h, j, hj => by simp at hj; subst hj; exact h
  | i :: k :: l, h, j, hj => by
    rcases List.mem_cons.1 hj with rfl | hj
    · exact h.1
    · exact conjL_spec h.2 j hj
theorem noSel {ops : List Oper} (hsel : Region.noSelect ops.toArray = true) : ∀ (j : Nat) (o : Oper) cs b, ops.toArray[j]? = some o → o.op ≠ .select cs b := by
  intro j o cs b hj e
  have hj' : ops[j]? = some o := by simpa using hj
  have := List.mem_of_getElem? hj'
  simp only [Region.noSelect, Array.all_eq_true', List.mem_toArray] at hsel
  have := hsel o this
  rw [e] at this
  simp at this
theorem dTr_any (hE : EnvOk P E) {n0 n : Nat} {all : List Oper} (hb : all.all (dstB n) = true) (hsel : Region.noSelect all.toArray = true) {bs : List Nat} {K : Fr → Hp → Prop} : ∀ {m : Nat} {todo : List Nat} {fr : Fr} {a : Act} {h : Hp}, todo.length = m → todo.Nodup → RelA n fr a →
    dTr P E n0 all bs m todo fr h K → anyS P E true n0 all.toArray bs (fun a' h' => ∃ fr', RelA n fr' a' ∧ K fr' h') m todo a h := by
  intro m
  induction m with
  | zero => intro todo fr a h hl hn hr hd; exact ⟨fr, hr, hd⟩
  | succ m ih =>
    intro todo fr a h hl hn hr hd
    have at_ : ∀ i ∈ todo, ∀ o, all.toArray[i]? = some o → dAt P E n0 all i fr h (fun fr h => dTr P E n0 all bs m (del todo i) fr h K) →
        stp P E true n0 all.toArray o a h fun v h' => anyS P E true n0 all.toArray bs (fun a' h' => ∃ fr', RelA n fr' a' ∧ K fr' h') m (del todo i) (a.put o.dst v) h' := by
      intro i hi o ho hd
      have ho' : all[i]? = some o := by simpa using ho
      unfold dAt at hd
      rw [ho'] at hd
      refine stp_mono (fun v h' k => ?_) (dOne_stp hE ho' (List.all_eq_true.1 hb o (List.mem_of_getElem? ho')) hr hd)
      obtain ⟨fr', r, k⟩ := k
      refine ih ?_ (del_nodup hn) r k
      have := del_length hn hi; omega
    unfold dTr at hd
    split at hd
    · rename_i i hf
      have hi := List.mem_of_find?_eq_some hf
      have hp := List.find?_some hf
      unfold frontB at hp
      rw [Bool.and_eq_true] at hp
      obtain ⟨hp1, hp2⟩ := hp
      rw [List.all_eq_true] at hp2
      cases ho : all[i]? with
      | none => unfold dAt at hd; rw [ho] at hd; cases hd
      | some o =>
        have ho' : all.toArray[i]? = some o := by simpa using ho
        refine any_front (noSel hsel) ho' hl hn hi hp1 (fun j hj hji => ?_) (at_ i hi o ho' hd)
        have := hp2 j hj
        rw [Bool.or_eq_true, Bool.or_eq_true] at this
        rcases this with (h1 | h1) | h1
        · exact absurd (Nat.eq_of_beq_eq_true h1) hji
        · exact .inl h1
        · rw [ho] at h1
          cases hoj : all[j]? with
          | none => rw [hoj] at h1; cases h1
          | some oj =>
            rw [hoj] at h1
            simp only [Bool.and_eq_true] at h1
            exact .inr ⟨oj, by simpa using hoj, h1.1, h1.2⟩
    · rename_i hf
      intro i o hi ri ho
      exact at_ i hi o ho (conjL_spec hd i (List.mem_filter.2 ⟨hi, ri⟩))
/-! ### from the text's order to every order -/
theorem stp_wpOp {md : Bool} {n0 : Nat} {ops : Array Oper} {i : Nat} {o : Oper} (ho : ops[i]? = some o) {a : Act} {w : World} {N : Value → Hp → Prop} (hs : stp P E md n0 ops o a w.heap N)
    {K : Act → World → Prop} {Q : Exit → Act → World → Prop} (hn : ∀ v w', Same w w' → N v w'.heap → K (a.put o.dst v) w') : wpOp P ops Q i K a w := by
  unfold wpOp
  simp only [ho]
  unfold stp at hs
  by_cases hw : Region.wanted o (yielded ops a.tmps) = true
  · rw [if_pos hw] at hs ⊢
    refine .inl ?_
    have runs : ∀ v, RunsTo P o a w v → N v w.heap → o.wp P a w K Q := by
      intro v hr k
      unfold Oper.wp
      rw [hr]
      exact hn v w (Same.refl w) k
    cases hc : clOf E o.op with
    | pure => simp only [hc] at hs; obtain ⟨v, h1, h2⟩ := hs; exact runs v (h1 w) h2
    | load =>
      simp only [hc] at hs
      obtain ⟨v, h1, h2⟩ := hs
      refine runs v (h1 w ?_) h2
      cases md
      · exact rfl
      · exact Pre.refl _ _
    | quiet =>
      simp only [hc] at hs
      obtain ⟨v, h1, h2⟩ := hs
      obtain ⟨f, args, r, c⟩ := h1 w rfl
      unfold Oper.wp
      rw [r, Oper.upon_enter]
      refine c.mono ?_
      rintro e w' ⟨rfl, s, k⟩
      exact hn v w' s (by rw [k]; exact h2)
    | call => simp only [hc] at hs; exact (hs w rfl).wp fun v w' s k => hn v w' s k.2
    | act => simp only [hc] at hs; exact (hs w rfl).wp fun v w' s k => hn v w' s k
  · rw [if_neg hw] at hs ⊢
    exact hn undef w (Same.refl w) hs
def rem (n : Nat) (listed : Array Bool) : List Nat := (List.range n).filter fun i => !listed.getD i true
def Closed (ops : Array Oper) (listed : Array Bool) : Prop := ∀ i o, ops[i]? = some o → listed.getD i false = true → ∀ e ∈ o.after, Region.binds .any e = true → listed.getD e.on false = true
theorem mem_rem {n i : Nat} {listed : Array Bool} : i ∈ rem n listed ↔ i < n ∧ listed.getD i true = false := by simp [rem]
theorem testBit_or3 (a b c j : Nat) : (a ||| b ||| c).testBit j = (a.testBit j || b.testBit j || c.testBit j) := by simp [Nat.testBit_or]
theorem befOf_spec {acc : List Nat} {j : Nat} : ∀ {l : List Edge}, (befOf acc l).testBit j = true → ∃ e ∈ l, Region.binds .any e = true ∧ (e.on = j ∨ (acc.getD e.on 0).testBit j = true)
  | [], h => by simp [befOf] at h
  | e :: l, h => by
    unfold befOf at h
    cases hb : Region.binds .any e with
    | false =>
      rw [hb] at h
      obtain ⟨e', h1, h2⟩ := befOf_spec (l := l) h
      exact ⟨e', List.mem_cons_of_mem _ h1, h2⟩
    | true =>
      rw [hb] at h
      simp only [cond_true, Nat.testBit_or, Bool.or_eq_true] at h
      rcases h with (h | h) | h
      · refine ⟨e, List.mem_cons_self, hb, .inl ?_⟩
        rw [Nat.testBit_two_pow] at h
        simpa using h
      · exact ⟨e, List.mem_cons_self, hb, .inr h⟩
      · obtain ⟨e', h1, h2⟩ := befOf_spec (l := l) h
        exact ⟨e', List.mem_cons_of_mem _ h1, h2⟩
theorem befs_spec : ∀ (l : List Oper) (acc : List Nat), (∀ i, i < acc.length → (befs acc l)[i]? = acc[i]?) ∧ (∀ i o, l[i]? = some o → (befs acc l)[acc.length + i]? = some (befOf ((befs acc l).take (acc.length + i)) o.after.toList))
  | [], acc => ⟨fun i _ => rfl, fun i o h => by simp at h⟩
  | o :: l, acc => by
    obtain ⟨h1, h2⟩ := befs_spec l (acc ++ [befOf acc o.after.toList])
    simp only [List.length_append, List.length_cons, List.length_nil] at h1 h2
    have e : befs acc (o :: l) = befs (acc ++ [befOf acc o.after.toList]) l := rfl
    rw [e]
    refine ⟨fun i hi => ?_, fun i o' ho => ?_⟩
    · rw [h1 i (by omega), List.getElem?_append_left hi]
    · cases i with
      | zero =>
        simp at ho
        subst ho
        have ht : (befs (acc ++ [befOf acc o.after.toList]) l).take (acc.length + 0) = acc := by
          apply List.ext_getElem?
          intro j
          rw [List.getElem?_take]
          split
          · rename_i hj
            rw [h1 j (by omega), List.getElem?_append_left (by omega)]
          · rename_i hj
            rw [List.getElem?_eq_none (by omega)]
        rw [ht, h1 _ (by omega)]
        simp
      | succ i =>
        have := h2 i o' (by simpa using ho)
        rw [show acc.length + (i + 1) = acc.length + (0 + 1) + i by omega]
        exact this
/-- Whatever stands among those that an operation waits for has come up, where the operation may come up. -/
theorem befs_listed {ops : List Oper} {listed : Array Bool} (hcl : Closed ops.toArray listed) (he : edgesB ops = true) : ∀ (i : Nat) (o : Oper), ops[i]? = some o → (∀ e ∈ o.after, Region.binds .any e = true → listed.getD e.on false = true) →
    ∀ j, ((befs [] ops).getD i 0).testBit j = true → listed.getD j false = true := by
  intro i
  induction i using Nat.strongRecOn with
  | _ i ih =>
    intro o ho hl j hj
    have hs := (befs_spec ops []).2 i o ho
    simp only [List.length_nil, Nat.zero_add] at hs
    rw [List.getD_eq_getElem?_getD, hs] at hj
    simp only [Option.getD_some] at hj
    obtain ⟨e, h1, h2, h3⟩ := befOf_spec hj
    have h1' : e ∈ o.after := by simpa using h1
    have hon := hl e h1' h2
    rcases h3 with rfl | h3
    · exact hon
    · have hlt : e.on < i := by
        simp only [edgesB, List.all_eq_true, List.mem_range] at he
        have hi : i < ops.length := by
          rcases Nat.lt_or_ge i ops.length with h | h
          · exact h
          · rw [List.getElem?_eq_none h] at ho; cases ho
        have := he i hi
        rw [ho] at this
        simp only [List.all_eq_true] at this
        have := this e h1
        rw [h2] at this
        simpa [Nat.blt_eq] using this
      have hget : ((befs [] ops).take i).getD e.on 0 = (befs [] ops).getD e.on 0 := by
        rw [List.getD_eq_getElem?_getD, List.getD_eq_getElem?_getD, List.getElem?_take, if_pos hlt]
      rw [hget] at h3
      cases hoe : ops[e.on]? with
      | none =>
        have hlen : ops.length ≤ e.on := by simpa using hoe
        have hi : i < ops.length := by
          rcases Nat.lt_or_ge i ops.length with h | h
          · exact h
          · rw [List.getElem?_eq_none h] at ho; cases ho
        omega
      | some oe => exact ih e.on hlt oe hoe (hcl e.on oe (by simpa using hoe) hon) j h3
theorem rem_split {n i : Nat} {listed : Array Bool} (hs : listed.size = n) (hi : i ∈ rem n listed) :
    ∃ l1 l2, rem n listed = l1 ++ i :: l2 ∧ rem n (listed.setIfInBounds i true) = l1 ++ l2 ∧ (∀ j ∈ l1, j < i ∧ j < n ∧ listed.getD j true = false) := by
  have hin := (mem_rem.1 hi)
  have hr : List.range n = List.range i ++ i :: List.range' (i + 1) (n - i - 1) := by
    rw [List.range_eq_range', List.range_eq_range', show n = i + (1 + (n - i - 1)) by omega, ← List.range'_append_1, ← List.range'_append_1]
    simp
  refine ⟨(List.range i).filter fun j => !listed.getD j true, (List.range' (i + 1) (n - i - 1)).filter fun j => !listed.getD j true, ?_, ?_, ?_⟩
  · unfold rem
    rw [hr, List.filter_append, List.filter_cons, hin.2]
    simp
  · unfold rem
    rw [hr, List.filter_append, List.filter_cons]
    have h1 : (listed.setIfInBounds i true).getD i true = true := by
      rw [Array.getD_eq_getD_getElem?, Array.getElem?_setIfInBounds]
      simp
      split <;> rfl
    rw [h1]
    have h2 : ∀ j, j ≠ i → (listed.setIfInBounds i true).getD j true = listed.getD j true := by
      intro j hj
      rw [Array.getD_eq_getD_getElem?, Array.getElem?_setIfInBounds, if_neg (fun e => hj e.symm), ← Array.getD_eq_getD_getElem?]
    simp only [Bool.not_true, Bool.false_eq_true, if_false]
    congr 1
    · apply List.filter_congr
      intro j hj
      rw [h2 j (by simp at hj; omega)]
    · apply List.filter_congr
      intro j hj
      rw [h2 j (by simp [List.mem_range'_1] at hj; omega)]
  · intro j hj
    simp only [List.mem_filter, List.mem_range, Bool.not_eq_true'] at hj
    exact ⟨hj.1, by omega, hj.2⟩
theorem wk_any {md : Bool} {n0 : Nat} {ops : List Oper} (hok : comOk E md ops = true) {K : Act → Hp → Prop} {Q : Exit → Act → World → Prop} {w0 : World}
    (hq : ∀ a w, Same w0 w → K a w.heap → Q .normal a w) : ∀ (fuel : Nat) (listed : Array Bool) (a : Act) (w : World), listed.size = ops.length → Closed ops.toArray listed → (rem ops.length listed).length ≤ fuel → Same w0 w →
      wk P E md n0 ops.toArray K (rem ops.length listed) a w.heap → wpAny P .any ops.toArray Q fuel listed a w := by
  have hok' := hok
  simp only [comOk, Bool.and_eq_true, List.all_eq_true, List.mem_range] at hok'
  obtain ⟨⟨hsel, hedge⟩, hpair⟩ := hok'
  have hsel' : ∀ (j : Nat) (o : Oper) cs b, ops[j]? = some o → o.op ≠ .select cs b := by
    intro j o cs b hj e
    have := List.mem_of_getElem? hj
    simp only [Region.noSelect, Array.all_eq_true', List.mem_toArray] at hsel
    have := hsel o this
    rw [e] at this
    simp at this
  have ready_rem : ∀ listed : Array Bool, ∀ i ∈ Region.ready .any ops.toArray listed, i ∈ rem ops.length listed ∧ ∃ o, ops[i]? = some o ∧ ∀ e ∈ o.after, Region.binds .any e = true → listed.getD e.on false = true := by
    intro listed i hi
    simp only [Region.ready, List.size_toArray, List.mem_filter, List.mem_range, Bool.and_eq_true, Bool.not_eq_true'] at hi
    obtain ⟨h1, h2, h3⟩ := hi
    refine ⟨mem_rem.2 ⟨h1, h2⟩, ?_⟩
    have ho : ops.toArray[i]? = some ops[i] := by simp [h1]
    rw [ho] at h3
    simp only [Option.map_some, Option.getD_some, Array.all_eq_true', Bool.or_eq_true, Bool.not_eq_true'] at h3
    refine ⟨ops[i], by simp [h1], fun e he hb => ?_⟩
    rcases h3 e he with h | h
    · rw [h] at hb; cases hb
    · exact h
  have first_ready : ∀ listed : Array Bool, listed.size = ops.length → ∀ i l, rem ops.length listed = i :: l → i ∈ Region.ready .any ops.toArray listed := by
    intro listed hs i l hr
    have hi : i ∈ rem ops.length listed := by rw [hr]; exact List.mem_cons_self
    have hin := mem_rem.1 hi
    have hle : ∀ j, j < i → listed.getD j true = true := by
      intro j hj
      cases hjl : listed.getD j true with
      | true => rfl
      | false =>
        have hjr : j ∈ rem ops.length listed := mem_rem.2 ⟨by omega, hjl⟩
        have hsorted : (rem ops.length listed).Pairwise (· < ·) := List.Pairwise.sublist List.filter_sublist List.pairwise_lt_range
        rw [hr] at hsorted hjr
        rcases List.mem_cons.1 hjr with rfl | hjr
        · omega
        · have := (List.pairwise_cons.1 hsorted).1 j hjr
          omega
    simp only [Region.ready, List.size_toArray, List.mem_filter, List.mem_range, Bool.and_eq_true, Bool.not_eq_true']
    refine ⟨hin.1, hin.2, ?_⟩
    have ho : ops.toArray[i]? = some ops[i] := by simp [hin.1]
    rw [ho]
    simp only [Option.map_some, Option.getD_some, Array.all_eq_true', Bool.or_eq_true, Bool.not_eq_true']
    intro e he
    cases hb : Region.binds .any e with
    | false => exact .inl rfl
    | true =>
      refine .inr ?_
      simp only [edgesB, List.all_eq_true, List.mem_range] at hedge
      have := hedge i hin.1
      rw [show ops[i]? = some ops[i] by simp [hin.1]] at this
      simp only [List.all_eq_true] at this
      have := this e (by simpa using he)
      rw [hb] at this
      have hlt : e.on < i := by simpa [Nat.blt_eq] using this
      have h1 := hle e.on hlt
      rw [Array.getD_eq_getD_getElem?] at h1 ⊢
      have hsz : e.on < listed.size := by rw [hs]; omega
      rw [Array.getElem?_eq_getElem hsz] at h1 ⊢
      exact h1
  intro fuel
  induction fuel with
  | zero =>
    intro listed a w hs hcl hlen hsame hk
    have hnil : rem ops.length listed = [] := List.length_eq_zero_iff.1 (by omega)
    have hr : Region.ready .any ops.toArray listed = [] := by
      cases hx : Region.ready .any ops.toArray listed with
      | nil => rfl
      | cons i l =>
        have := (ready_rem listed i (by rw [hx]; exact List.mem_cons_self)).1
        rw [hnil] at this
        cases this
    rw [hnil] at hk
    exact ⟨hr, hq a w hsame hk⟩
  | succ fuel ih =>
    intro listed a w hs hcl hlen hsame hk
    refine ⟨fun hr => ?_, fun i hi => ?_⟩
    · cases hx : rem ops.length listed with
      | nil => rw [hx] at hk; exact hq a w hsame hk
      | cons i l =>
        have := first_ready listed hs i l hx
        rw [hr] at this
        cases this
    · obtain ⟨him, o, ho, hafter⟩ := ready_rem listed i hi
      obtain ⟨l1, l2, e1, e2, h1⟩ := rem_split hs him
      rw [e1] at hk
      have hi' := (mem_rem.1 him).1
      have hfree : ∀ j ∈ l1, free E md ops.toArray j i := by
        intro j hj
        obtain ⟨hji, hjn, hjl⟩ := h1 j hj
        have hp := hpair i hi' j hji
        have hoj : ops[j]? = some ops[j] := by simp [hjn]
        unfold pairB at hp
        rw [ho, hoj] at hp
        simp only [Bool.or_eq_true, Bool.and_eq_true] at hp
        have hnot : ((befs [] ops).getD i 0).testBit j ≠ true := by
          intro hb
          have := befs_listed hcl hedge i o ho hafter j hb
          have hsz : j < listed.size := by rw [hs]; exact hjn
          rw [Array.getD_eq_getD_getElem?, Array.getElem?_eq_getElem hsz] at this hjl
          simp at this hjl
          rw [this] at hjl
          cases hjl
        rcases hp with hp | ⟨hp1, hp2⟩
        · exact absurd hp hnot
        · exact ⟨ops[j], o, by simp [hjn], by simpa using ho, hp1, fun cs b => hsel' j _ cs b hoj, fun cs b => hsel' i _ cs b ho, hp2⟩
      have hfront := wk_front hfree hk
      have ho' : ops.toArray[i]? = some o := by simpa using ho
      simp only [wk, ho'] at hfront
      refine stp_wpOp ho' hfront fun v w' s k => ?_
      refine ih _ _ _ (by simp [hs]) ?_ ?_ (hsame.trans s) (by rw [e2]; exact k)
      · intro j oj hoj hlj e he hb
        by_cases hij : j = i
        · subst hij
          rw [ho'] at hoj
          cases hoj
          have := hafter e he hb
          rw [Array.getD_eq_getD_getElem?, Array.getElem?_setIfInBounds]
          rw [Array.getD_eq_getD_getElem?] at this
          split
          · rename_i hje
            split <;> simp_all
          · exact this
        · have hlj' : listed.getD j false = true := by
            rw [Array.getD_eq_getD_getElem?, Array.getElem?_setIfInBounds, if_neg (fun e => hij e.symm), ← Array.getD_eq_getD_getElem?] at hlj
            exact hlj
          have := hcl j oj hoj hlj' e he hb
          rw [Array.getD_eq_getD_getElem?, Array.getElem?_setIfInBounds]
          rw [Array.getD_eq_getD_getElem?] at this
          split
          · rename_i hje
            split
            · rfl
            · rename_i hlt; exact absurd (by rw [hs]; exact hi') hlt
          · exact this
      · rw [e2]; rw [e1] at hlen; simp at hlen ⊢; omega
theorem any_wp {md : Bool} {n0 : Nat} {ops : List Oper} (hedge : edgesB ops = true) {K : Act → Hp → Prop} {Q : Exit → Act → World → Prop} {w0 : World}
    (hq : ∀ a w, Same w0 w → K a w.heap → Q .normal a w) : ∀ (fuel : Nat) (listed : Array Bool) (a : Act) (w : World), listed.size = ops.length → Closed ops.toArray listed → (rem ops.length listed).length ≤ fuel → Same w0 w →
      anyS P E md n0 ops.toArray (befs [] ops) K (rem ops.length listed).length (rem ops.length listed) a w.heap → wpAny P .any ops.toArray Q fuel listed a w := by
  have hedge' := hedge
  have ready_rem : ∀ listed : Array Bool, ∀ i ∈ Region.ready .any ops.toArray listed, i ∈ rem ops.length listed ∧ ∃ o, ops[i]? = some o ∧ ∀ e ∈ o.after, Region.binds .any e = true → listed.getD e.on false = true := by
    intro listed i hi
    simp only [Region.ready, List.size_toArray, List.mem_filter, List.mem_range, Bool.and_eq_true, Bool.not_eq_true'] at hi
    obtain ⟨h1, h2, h3⟩ := hi
    refine ⟨mem_rem.2 ⟨h1, h2⟩, ?_⟩
    have ho : ops.toArray[i]? = some ops[i] := by simp [h1]
    rw [ho] at h3
    simp only [Option.map_some, Option.getD_some, Array.all_eq_true', Bool.or_eq_true, Bool.not_eq_true'] at h3
    refine ⟨ops[i], by simp [h1], fun e he hb => ?_⟩
    rcases h3 e he with h | h
    · rw [h] at hb; cases hb
    · exact h
  have first_ready : ∀ listed : Array Bool, listed.size = ops.length → ∀ i l, rem ops.length listed = i :: l → i ∈ Region.ready .any ops.toArray listed := by
    intro listed hs i l hr
    have hi : i ∈ rem ops.length listed := by rw [hr]; exact List.mem_cons_self
    have hin := mem_rem.1 hi
    have hle : ∀ j, j < i → listed.getD j true = true := by
      intro j hj
      cases hjl : listed.getD j true with
      | true => rfl
      | false =>
        have hjr : j ∈ rem ops.length listed := mem_rem.2 ⟨by omega, hjl⟩
        have hsorted : (rem ops.length listed).Pairwise (· < ·) := List.Pairwise.sublist List.filter_sublist List.pairwise_lt_range
        rw [hr] at hsorted hjr
        rcases List.mem_cons.1 hjr with rfl | hjr
        · omega
        · have := (List.pairwise_cons.1 hsorted).1 j hjr
          omega
    simp only [Region.ready, List.size_toArray, List.mem_filter, List.mem_range, Bool.and_eq_true, Bool.not_eq_true']
    refine ⟨hin.1, hin.2, ?_⟩
    have ho : ops.toArray[i]? = some ops[i] := by simp [hin.1]
    rw [ho]
    simp only [Option.map_some, Option.getD_some, Array.all_eq_true', Bool.or_eq_true, Bool.not_eq_true']
    intro e he
    cases hb : Region.binds .any e with
    | false => exact .inl rfl
    | true =>
      refine .inr ?_
      simp only [edgesB, List.all_eq_true, List.mem_range] at hedge
      have := hedge i hin.1
      rw [show ops[i]? = some ops[i] by simp [hin.1]] at this
      simp only [List.all_eq_true] at this
      have := this e (by simpa using he)
      rw [hb] at this
      have hlt : e.on < i := by simpa [Nat.blt_eq] using this
      have h1 := hle e.on hlt
      rw [Array.getD_eq_getD_getElem?] at h1 ⊢
      have hsz : e.on < listed.size := by rw [hs]; omega
      rw [Array.getElem?_eq_getElem hsz] at h1 ⊢
      exact h1
  have hnodup : ∀ listed : Array Bool, (rem ops.length listed).Nodup := fun listed => List.Nodup.sublist List.filter_sublist List.nodup_range
  intro fuel
  induction fuel with
  | zero =>
    intro listed a w hs hcl hlen hsame hk
    have hnil : rem ops.length listed = [] := List.length_eq_zero_iff.1 (by omega)
    have hr : Region.ready .any ops.toArray listed = [] := by
      cases hx : Region.ready .any ops.toArray listed with
      | nil => rfl
      | cons i l =>
        have := (ready_rem listed i (by rw [hx]; exact List.mem_cons_self)).1
        rw [hnil] at this
        cases this
    rw [hnil] at hk
    exact ⟨hr, hq a w hsame hk⟩
  | succ fuel ih =>
    intro listed a w hs hcl hlen hsame hk
    refine ⟨fun hr => ?_, fun i hi => ?_⟩
    · cases hx : rem ops.length listed with
      | nil => rw [hx] at hk; exact hq a w hsame hk
      | cons i l =>
        have := first_ready listed hs i l hx
        rw [hr] at this
        cases this
    · obtain ⟨him, o, ho, hafter⟩ := ready_rem listed i hi
      obtain ⟨l1, l2, e1, e2, h1⟩ := rem_split hs him
      have hi' := (mem_rem.1 him).1
      have hr : rdyB (befs [] ops) (rem ops.length listed) i = true := by
        unfold rdyB
        rw [List.all_eq_true]
        intro j hj
        have hjm := mem_rem.1 hj
        cases hb : ((befs [] ops).getD i 0).testBit j with
        | false => rfl
        | true =>
          have := befs_listed hcl hedge i o ho hafter j hb
          have hsz : j < listed.size := by rw [hs]; exact hjm.1
          have hjl := hjm.2
          rw [Array.getD_eq_getD_getElem?, Array.getElem?_eq_getElem hsz] at this hjl
          simp at this hjl
          rw [this] at hjl
          cases hjl
      have hdel : del (rem ops.length listed) i = rem ops.length (listed.setIfInBounds i true) := by
        have hnd := hnodup listed
        rw [e1] at hnd
        rw [e2, e1, del_split hnd]
      have hl1 : (rem ops.length listed).length = (rem ops.length (listed.setIfInBounds i true)).length + 1 := by rw [e1, e2]; simp; omega
      rw [hl1] at hk
      have ho' : ops.toArray[i]? = some o := by simpa using ho
      have hfront := hk i o him hr ho'
      refine stp_wpOp ho' hfront fun v w' s k => ?_
      refine ih _ _ _ (by simp [hs]) ?_ (by omega) (hsame.trans s) (by rw [← hdel]; rw [← hdel] at k; exact k)
      intro j oj hoj hlj e he hb
      by_cases hij : j = i
      · subst hij
        rw [ho'] at hoj
        cases hoj
        have := hafter e he hb
        rw [Array.getD_eq_getD_getElem?, Array.getElem?_setIfInBounds]
        rw [Array.getD_eq_getD_getElem?] at this
        split
        · rename_i hje
          split <;> simp_all
        · exact this
      · have hlj' : listed.getD j false = true := by
          rw [Array.getD_eq_getD_getElem?, Array.getElem?_setIfInBounds, if_neg (fun e => hij e.symm), ← Array.getD_eq_getD_getElem?] at hlj
          exact hlj
        have := hcl j oj hoj hlj' e he hb
        rw [Array.getD_eq_getD_getElem?, Array.getElem?_setIfInBounds]
        rw [Array.getD_eq_getD_getElem?] at this
        split
        · rename_i hje
          split
          · rfl
          · rename_i hlt; exact absurd (by rw [hs]; exact hi') hlt
        · exact this
/-! ### regions, code, functions -/
theorem region_wp (hE : EnvOk P E) {id n : Nat} {ops : Array Oper} {draw : Bool} (hc : regB E n ops draw = true) {fr : Fr} {a : Act} {w : World} (hr : RelA n fr a) {K : Fr → Hp → Prop}
    (hd : bif openB E draw ops.toList then dTr P E w.heap.size ops.toList (befs [] ops.toList) ops.toList.length (List.range ops.toList.length) fr w.heap K
      else dOps P E (modeB E draw ops.toList) w.heap.size ops.toList ops.toList fr w.heap K) {Q : Exit → Act → World → Prop} (hq : ∀ fr' a' w', RelA n fr' a' → Same w w' → K fr' w'.heap → Q .normal a' w') :
    (Code.region id ops draw).wp P Q a w := by
  obtain ⟨l⟩ := ops
  simp only [regB, Bool.and_eq_true] at hc
  obtain ⟨hb, hc⟩ := hc
  have hb' : l.all (dstB n) = true := hb
  cases draw with
  | false =>
    have hd' : dOps P E (modeB E false l) w.heap.size l l fr w.heap K := hd
    have hk := dOps_wk hE (k := 0) (fun j => by simp) hb' hr hd'
    refine wp_region ?_
    have key : ∀ (il : List Nat) (a : Act) (w2 : World), Same w w2 → wk P E (modeB E false l) w.heap.size l.toArray (fun a' h' => ∃ fr', RelA n fr' a' ∧ K fr' h') il a w2.heap → wpOps P l.toArray Q il a w2 := by
      intro il
      induction il with
      | nil => intro a w2 s ⟨fr', r, k⟩; exact hq fr' a w2 r s k
      | cons i il ih =>
        intro a w2 s k
        rw [wpOps_cons]
        simp only [wk] at k
        cases ho : l.toArray[i]? with
        | none => simp only [ho] at k; unfold wpOp; simp only [ho]; exact ih a w2 s k
        | some o => simp only [ho] at k; exact stp_wpOp ho k fun v w' s' k' => ih _ w' (s.trans s') k'
    rw [List.range_eq_range']
    exact key _ a w (Same.refl w) (by simpa using hk)
  | true =>
    simp only [Bool.not_true, Bool.false_or, Bool.and_eq_true] at hc
    have hsame : Same w { w with drawn := w.drawn + 1 } := ⟨rfl, rfl, rfl⟩
    refine wp_region_any hE.mixed ?_
    have hrem : rem l.length (Array.replicate l.length false) = List.range' 0 l.length := by
      unfold rem
      rw [List.range_eq_range', List.filter_eq_self]
      intro j hj
      rw [Array.getD_eq_getD_getElem?, Array.getElem?_replicate]
      have : j < l.length := by simpa [List.mem_range'_1] using hj
      simp [this]
    have hcl : Closed l.toArray (Array.replicate l.toArray.size false) := by
      intro i o _ hl
      rw [Array.getD_eq_getD_getElem?, Array.getElem?_replicate] at hl
      simp only [List.size_toArray] at hl
      split at hl <;> simp at hl
    cases hop : openB E true l with
    | true =>
      rw [show ({ toList := l } : Array Oper).toList = l from rfl, hop, cond_true] at hd
      have hany := dTr_any hE hb' (by simpa using hc.1) (by simp) List.nodup_range hr hd
      refine any_wp (E := E) (md := true) (n0 := w.heap.size) hc.2 (K := fun a' h' => ∃ fr', RelA n fr' a' ∧ K fr' h') (w0 := w) ?_ _ _ _ _ (by simp) hcl ?_ hsame ?_
      · rintro a' w' s ⟨fr', r, k⟩
        exact hq fr' a' w' r s k
      · simp only [List.size_toArray]; rw [hrem]; simp
      · simp only [List.size_toArray]; rw [hrem, ← List.range_eq_range', List.length_range]; exact hany
    | false =>
    rw [show ({ toList := l } : Array Oper).toList = l from rfl, hop, cond_false] at hd
    have hk := dOps_wk hE (k := 0) (fun j => by simp) hb' hr hd
    have hc2 : comOk E (modeB E true l) l = true := by
      unfold openB at hop
      unfold modeB
      cases h1 : comOk E false l with
      | true => simp [h1]
      | false => simp [h1] at hop ⊢; exact hop
    refine wk_any (md := modeB E true l) (n0 := w.heap.size) hc2 (K := fun a' h' => ∃ fr', RelA n fr' a' ∧ K fr' h') (w0 := w) ?_ _ _ _ _ (by simp) ?_ ?_ hsame ?_
    · rintro a' w' s ⟨fr', r, k⟩
      exact hq fr' a' w' r s k
    · intro i o _ hl
      rw [Array.getD_eq_getD_getElem?, Array.getElem?_replicate] at hl
      simp only [List.size_toArray] at hl
      split at hl <;> simp at hl
    · simp only [List.size_toArray]; rw [hrem]; simp
    · simp only [List.size_toArray]; rw [hrem]; exact hk
def Ex.up : Ex → Exit
  | .normal => .normal
  | .exit id => .exit id
  | .ret => .ret
theorem den_wp (hE : EnvOk P E) {n : Nat} : ∀ {c : Code} {Q : Ex → Fr → Hp → Prop} {fr : Fr} {a : Act} {w : World} {Q' : Exit → Act → World → Prop}, codeB E n c = true → RelA n fr a → den P E c Q fr w.heap →
    (∀ e fr' a' w', RelA n fr' a' → Same w w' → Q e fr' w'.heap → Q' e.up a' w') → c.wp P Q' a w := by
  intro c
  induction c with
  | skip => intro Q fr a w Q' hc hr hd hq; exact wp_skip (hq .normal fr a w hr (Same.refl w) hd)
  | label l => intro Q fr a w Q' hc hr hd hq; exact wp_label (hq .normal fr a w hr (Same.refl w) hd)
  | ret => intro Q fr a w Q' hc hr hd hq; exact wp_ret (hq .ret fr a w hr (Same.refl w) hd)
  | exit id => intro Q fr a w Q' hc hr hd hq; exact wp_exit (hq (.exit id) fr a w hr (Same.refl w) hd)
  | region id ops draw =>
    intro Q fr a w Q' hc hr hd hq
    exact region_wp hE hc hr hd fun fr' a' w' r s k => hq .normal fr' a' w' r s k
  | seq x y ihx ihy =>
    intro Q fr a w Q' hc hr hd hq
    simp only [codeB, Bool.and_eq_true] at hc
    refine wp_seq (ihx hc.1 hr hd fun e fr' a' w' r s k => ?_)
    cases e with
    | normal => exact ihy hc.2 r k fun e2 fr2 a2 w2 r2 s2 k2 => hq e2 fr2 a2 w2 r2 (s.trans s2) k2
    | exit id => exact hq (.exit id) fr' a' w' r s k
    | ret => exact hq .ret fr' a' w' r s k
  | cond c x y ihx ihy =>
    intro Q fr a w Q' hc hr hd hq
    simp only [codeB, Bool.and_eq_true] at hc
    simp only [den] at hd
    split at hd
    · rename_i t ht
      have hev : a.eval c = .bool t := by rw [hr.ev]; exact ht
      refine wp_cond hev ?_
      cases t with
      | true => simp only [cond_true, updC_self ht] at hd; exact ihx hc.1 hr hd hq
      | false => simp only [cond_false, updC_self ht] at hd; exact ihy hc.2 hr hd hq
    · cases hd
  | block id c ih =>
    intro Q fr a w Q' hc hr hd hq
    refine wp_block (ih hc hr hd fun e fr' a' w' r s k => ?_)
    cases e with
    | normal => exact hq .normal fr' a' w' r s k
    | ret => exact hq .ret fr' a' w' r s k
    | exit id' =>
      simp only [Ex.inBlock] at k
      simp only [Ex.up, Exit.inBlock]
      cases hb : Nat.beq id' id with
      | true =>
        simp only [hb, cond_true] at k
        rw [if_pos (Nat.eq_of_beq_eq_true hb)]
        exact hq .normal fr' a' w' r s k
      | false =>
        simp only [hb, cond_false] at k
        rw [if_neg (fun e => by subst e; simp at hb)]
        exact hq (.exit id') fr' a' w' r s k
  | scope c ih =>
    intro Q fr a w Q' hc hr hd hq
    refine wp_scope_straight (ih hc hr hd fun e fr' a' w' r s k => ?_)
    cases e <;> exact hq _ fr' a' w' r s k
  | loop c ih =>
    intro Q fr a w Q' hc hr hd hq
    obtain ⟨m, hd⟩ := hd
    refine wp_loop_rounds m ?_
    have key : ∀ m fr a w2, RelA n fr a → Same w w2 → iter (fun N => den P E c (Ex.then N Q)) m fr w2.heap → Code.rounds P c Q' m a w2 := by
      intro m
      induction m with
      | zero => intro fr a w2 _ _ h; exact h.elim
      | succ m ihm =>
        intro fr a w2 hr s h
        rw [rounds_succ]
        refine ih hc hr h fun e fr' a' w' r s' k => ?_
        cases e with
        | normal => exact ihm fr' a' w' r (s.trans s') k
        | exit id => exact hq (.exit id) fr' a' w' r (s.trans s') k
        | ret => exact hq .ret fr' a' w' r (s.trans s') k
    exact key m fr a w hr (Same.refl w) hd
  | _ => intro Q fr a w Q' hc hr hd hq; exact hd.elim
theorem initFr_rel (args : List Value) (n : Nat) (hn : args.length ≤ n) : RelA n (initFr args) { tmps := args.toArray ++ Array.replicate (n - args.length) undef, defers := [] } := by
  refine ⟨by simp; omega, rfl, fun t => ?_⟩
  unfold initFr
  rw [Array.getD_eq_getD_getElem?]
  by_cases h : t < args.length
  · rw [Array.getElem?_append_left (by simpa using h)]
    simp [h]
  · rw [Array.getElem?_append_right (by simpa using h)]
    have h2 : args[t]? = none := by simp; omega
    rw [h2]
    simp only [List.size_toArray]
    rw [Array.getElem?_replicate]
    split <;> rfl
def resOne (tmps : Array Value) : ResultVar → Sem Value
  | .tmp t => pure (tmps.getD t undef)
  | .cell a t => do loadVar t (← asAddr (tmps.getD a undef))
theorem resK_run (hE : EnvOk P E) {n : Nat} {fr : Fr} {a : Act} (hr : RelA n fr a) {w : World} : ∀ {l : List ResultVar} {K : List Value → Prop}, resK E fr w.heap l K → ∃ vs, K vs ∧ (l.mapM (resOne a.tmps)).run P w = Result.ok vs w
  | [], K, h => ⟨[], h, rfl⟩
  | .tmp t :: l, K, h => by
    obtain ⟨vs, h1, h2⟩ := resK_run hE hr (l := l) h
    refine ⟨_, h1, ?_⟩
    rw [List.mapM_cons]
    simp only [resOne, Sem.run_bind, Sem.run_pure, Result.andThen, h2, hr.get t]
  | .cell x t :: l, K, h => by
    simp only [resK] at h
    split at h
    · rename_i q i e1 e2
      obtain ⟨v, h1, h2⟩ := ldT_run (P := P) hE e2 h
      obtain ⟨vs, h3, h4⟩ := resK_run hE hr (l := l) h1
      refine ⟨_, h3, ?_⟩
      have h5 := h2 w rfl
      simp only [Instr.loadAt, Instr.sureAddr, pure_bind] at h5
      rw [List.mapM_cons]
      simp only [resOne, Sem.run_bind, Sem.run_pure, Result.andThen, h4, hr.get x, e1, asAddr, h5]
    · cases h
/-- A function's call, by 'den' of its body. -/
theorem calls_of_den (hE : EnvOk P E) {f : FuncId} {fn : Func} {c : Code} {rs : List ResultVar} (hf : P.funcs[f]? = some fn) (hb : fn.body = some c) (hc : codeB E fn.ntmps c = true) (hrs : fn.results.toList = rs)
    {args : List Value} (hn : args.length ≤ fn.ntmps) {h : Hp} {R : Value → Hp → Prop}
    (hd : den P E c (fun e fr h' => match e with | .exit _ => False | _ => resK E fr h' rs fun vs => R (mkRes vs) h') (initFr args) h) : HCalls P f args.toArray h R := by
  intro w hw
  subst hw
  refine calls_of_wp hf hb ?_
  have hr := initFr_rel args fn.ntmps hn
  have hsz : fn.ntmps - args.toArray.size = fn.ntmps - args.length := by simp
  rw [hsz]
  refine den_wp hE hc hr hd fun e fr' a' w' r s k => ?_
  have hres : (resK E fr' w'.heap rs fun vs => R (mkRes vs) w'.heap) → ∃ v, (results fn a'.tmps).run P w' = .ok v w' ∧ R v w'.heap := by
    intro k
    obtain ⟨vs, h1, h2⟩ := resK_run hE r k
    refine ⟨_, ?_, h1⟩
    have hres : results fn a'.tmps = (fn.results.mapM (resOne a'.tmps) >>= fun vs => pure (if h : vs.size = 1 then vs[0] else .tuple vs)) := rfl
    rw [hres, Sem.run_bind, Array.mapM_eq_mapM_toList, Sem.run_map, hrs, h2]
    simp only [Result.andThen, Sem.run_pure]
    congr 1
    match vs with
    | [] => rfl
    | [t] => rfl
    | t :: t' :: ts => simp [mkRes]
  cases e with
  | normal => obtain ⟨v, h1, h2⟩ := hres k; exact ⟨r.defers, v, h1, v, rfl, s, h2⟩
  | ret => obtain ⟨v, h1, h2⟩ := hres k; exact ⟨r.defers, v, h1, v, rfl, s, h2⟩
  | exit id => exact k.elim
end
end Go.Gv
