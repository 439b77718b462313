/- Gv, part 5: regions whose order is open. -/
import Derived.Test.YtaglonbkdcmmpaaGvSound3
namespace Go.Gv
set_option linter.unusedVariables false
set_option linter.unusedSimpArgs false
section
variable {P : Program} {E : Env}

/-- One operation, by its kind. -/
def stp (P : Program) (E : Env) (md : Bool) (n0 : Nat) (ops : Array Oper) (o : Oper) (a : Act) (h : Hp) (N : Value → Hp → Prop) : Prop :=
  if Region.wanted o (yielded ops a.tmps) then
    match clOf E o.op with
    | .pure => ∃ v, (∀ w, RunsTo P o a w v) ∧ N v h
    | .load => ∃ v, (∀ w : World, cond md (Pre n0 h w.heap) (w.heap = h) → RunsTo P o a w v) ∧ N v h
    | .quiet => ∃ v, (∀ w : World, w.heap = h → QuietTo P o a w v) ∧ N v h
    | .call => ∀ w : World, w.heap = h → ActTo P o a w fun v h' => (md = true → Pre n0 h h') ∧ N v h'
    | .act => ∀ w : World, w.heap = h → ActTo P o a w N
  else N undef h
def aWorld (h : Hp) : World := { heap := h, tape := fun _ _ => 0, drawn := 0, os := default, output := #[] }
theorem stp_mono {md : Bool} {n0 : Nat} {ops : Array Oper} {o : Oper} {a : Act} {h : Hp} {N N' : Value → Hp → Prop} (hn : ∀ v h, N v h → N' v h) (hs : stp P E md n0 ops o a h N) : stp P E md n0 ops o a h N' := by
  unfold stp at *
  split
  · rename_i hw
    rw [if_pos hw] at hs
    cases hc : clOf E o.op with
    | pure => simp only [hc] at hs ⊢; obtain ⟨v, h1, h2⟩ := hs; exact ⟨v, h1, hn _ _ h2⟩
    | load => simp only [hc] at hs ⊢; obtain ⟨v, h1, h2⟩ := hs; exact ⟨v, h1, hn _ _ h2⟩
    | quiet => simp only [hc] at hs ⊢; obtain ⟨v, h1, h2⟩ := hs; exact ⟨v, h1, hn _ _ h2⟩
    | call => simp only [hc] at hs ⊢; exact fun w hw => (hs w hw).mono fun v h' k => ⟨k.1, hn _ _ k.2⟩
    | act => simp only [hc] at hs ⊢; exact fun w hw => (hs w hw).mono hn
  · rename_i hw; rw [if_neg hw] at hs; exact hn _ _ hs
theorem stp_some {md : Bool} {n0 : Nat} {ops : Array Oper} {o : Oper} {a : Act} {h : Hp} {N : Value → Hp → Prop} (hs : stp P E md n0 ops o a h N) : ∃ v h', N v h' := by
  unfold stp at hs
  split at hs
  · cases hc : clOf E o.op with
    | pure => simp only [hc] at hs; obtain ⟨v, h1, h2⟩ := hs; exact ⟨_, _, h2⟩
    | load => simp only [hc] at hs; obtain ⟨v, h1, h2⟩ := hs; exact ⟨_, _, h2⟩
    | quiet => simp only [hc] at hs; obtain ⟨v, h1, h2⟩ := hs; exact ⟨_, _, h2⟩
    | call => simp only [hc] at hs; obtain ⟨v, h', k⟩ := (hs (aWorld h) rfl).some; exact ⟨v, h', k.2⟩
    | act => simp only [hc] at hs; exact (hs (aWorld h) rfl).some
  · exact ⟨_, _, hs⟩
theorem RunsTo.inj {o : Oper} {a : Act} {w : World} {v v' : Value} (h : RunsTo P o a w v) (h' : RunsTo P o a w v') : v = v' := by
  unfold RunsTo at *
  rw [h] at h'
  cases h'
  rfl
theorem Pre.refl (n0 : Nat) (h : Hp) : Pre n0 h h := fun _ _ => rfl
theorem Pre.symm {n0 : Nat} {h h' : Hp} (p : Pre n0 h h') : Pre n0 h' h := fun b hb => (p b hb).symm
theorem Pre.trans {n0 : Nat} {a b c : Hp} (p : Pre n0 a b) (q : Pre n0 b c) : Pre n0 a c := fun i hi => (q i hi).trans (p i hi)
/-- What an operation of the first kind (or one that is passed by) yields hangs on nothing. -/
theorem stp_pure {md : Bool} {n0 : Nat} {ops : Array Oper} {o : Oper} {a : Act} (hc : clOf E o.op = .pure ∨ ¬ Region.wanted o (yielded ops a.tmps) = true) {h : Hp} {N : Value → Hp → Prop} (hs : stp P E md n0 ops o a h N) :
    ∃ v, ∀ h' N', stp P E md n0 ops o a h' N' ↔ N' v h' := by
  by_cases hw : Region.wanted o (yielded ops a.tmps) = true
  · rcases hc with hc | hc
    · simp only [stp, if_pos hw, hc] at hs
      obtain ⟨v, h1, _⟩ := hs
      refine ⟨v, fun h' N' => ?_⟩
      simp only [stp, if_pos hw, hc]
      constructor
      · rintro ⟨v', g1, g2⟩
        have := (h1 (aWorld h')).inj (g1 (aWorld h'))
        subst this
        exact g2
      · intro g; exact ⟨v, h1, g⟩
    · exact absurd hw hc
  · exact ⟨undef, fun h' N' => by simp only [stp, if_neg hw]⟩
/-- A load, in one heap. -/
theorem stp_read {md : Bool} {n0 : Nat} {ops : Array Oper} {o : Oper} {a : Act} (hc : clOf E o.op = .load ∨ clOf E o.op = .quiet ∨ clOf E o.op = .pure) {h : Hp} {N : Value → Hp → Prop} (hs : stp P E md n0 ops o a h N) :
    ∃ v, N v h ∧ ∀ N' : Value → Hp → Prop, N' v h → stp P E md n0 ops o a h N' := by
  by_cases hw : Region.wanted o (yielded ops a.tmps) = true
  · rcases hc with hc | hc | hc <;> simp only [stp, if_pos hw, hc] at hs ⊢ <;> obtain ⟨v, h1, h2⟩ := hs <;> exact ⟨v, h2, fun N' k => ⟨v, h1, k⟩⟩
  · simp only [stp, if_neg hw] at hs ⊢; exact ⟨undef, hs, fun N' k => k⟩
/-- A load of the second mode reads the same in every heap that kept what was there. -/
theorem stp_pre {n0 : Nat} {ops : Array Oper} {o : Oper} {a : Act} (hc : clOf E o.op = .load) {h : Hp} {N : Value → Hp → Prop} (hs : stp P E true n0 ops o a h N) :
    ∃ v, ∀ h' N', Pre n0 h h' → (stp P E true n0 ops o a h' N' ↔ N' v h') := by
  by_cases hw : Region.wanted o (yielded ops a.tmps) = true
  · simp only [stp, if_pos hw, hc, cond_true] at hs
    obtain ⟨v, h1, _⟩ := hs
    refine ⟨v, fun h' N' hp => ?_⟩
    simp only [stp, if_pos hw, hc, cond_true]
    constructor
    · rintro ⟨v', g1, g2⟩
      have := (h1 (aWorld h') hp).inj (g1 (aWorld h') (Pre.refl _ _))
      subst this
      exact g2
    · intro g; exact ⟨v, fun w hw => h1 w (hp.trans hw), g⟩
  · exact ⟨undef, fun h' N' _ => by simp only [stp, if_neg hw]⟩
theorem stp_grow {n0 : Nat} {ops : Array Oper} {o : Oper} {a : Act} (hc : clOf E o.op = .call) {h : Hp} {N : Value → Hp → Prop} (hs : stp P E true n0 ops o a h N) :
    stp P E true n0 ops o a h fun v h' => Pre n0 h h' ∧ N v h' := by
  by_cases hw : Region.wanted o (yielded ops a.tmps) = true
  · simp only [stp, if_pos hw, hc] at hs ⊢
    exact fun w hw => (hs w hw).mono fun v h' k => ⟨k.1, k.1 trivial, k.2⟩
  · simp only [stp, if_neg hw] at hs ⊢; exact ⟨Pre.refl _ _, hs⟩
/-- Two operations that don't hinder one another. -/
theorem stp_swap {md : Bool} {n0 : Nat} {ops : Array Oper} {i j : Oper} {a : Act} (hc : comB md (clOf E i.op) (clOf E j.op) = true) {h : Hp} {N : Value → Value → Hp → Prop}
    (hs : stp P E md n0 ops i a h fun v h' => stp P E md n0 ops j a h' fun u h'' => N v u h'') : stp P E md n0 ops j a h fun u h' => stp P E md n0 ops i a h' fun v h'' => N v u h'' := by
  have pi : clOf E i.op = .pure → stp P E md n0 ops j a h fun u h' => stp P E md n0 ops i a h' fun v h'' => N v u h'' := by
    intro hp
    obtain ⟨v, hv⟩ := stp_pure (.inl hp) hs
    have h1 := (hv _ _).1 hs
    exact stp_mono (fun u h' k => (hv h' _).2 k) h1
  have pj : clOf E j.op = .pure → stp P E md n0 ops j a h fun u h' => stp P E md n0 ops i a h' fun v h'' => N v u h'' := by
    intro hp
    obtain ⟨v0, h0, k0⟩ := stp_some hs
    obtain ⟨u, hu⟩ := stp_pure (.inl hp) k0
    exact (hu h _).2 (stp_mono (fun v h' k => (hu h' _).1 k) hs)
  have rr : (clOf E i.op = .load ∨ clOf E i.op = .quiet ∨ clOf E i.op = .pure) → (clOf E j.op = .load ∨ clOf E j.op = .quiet ∨ clOf E j.op = .pure) → stp P E md n0 ops j a h fun u h' => stp P E md n0 ops i a h' fun v h'' => N v u h'' := by
    intro h1 h2
    obtain ⟨v, hv, gv⟩ := stp_read h1 hs
    obtain ⟨u, hu, gu⟩ := stp_read h2 hv
    exact gu _ (gv _ hu)
  cases hi : clOf E i.op with
  | pure => exact pi hi
  | load =>
    cases hj : clOf E j.op with
    | pure => exact pj hj
    | load => exact rr (.inl hi) (.inl hj)
    | quiet => exact rr (.inl hi) (.inr (.inl hj))
    | call =>
      rw [hi, hj] at hc
      simp only [comB] at hc
      subst hc
      obtain ⟨v, hv⟩ := stp_pre hi hs
      have h1 := (hv h _ (Pre.refl _ _)).1 hs
      exact stp_mono (fun u h' k => (hv h' _ k.1).2 k.2) (stp_grow hj h1)
    | act => rw [hi, hj] at hc; simp [comB] at hc
  | quiet =>
    cases hj : clOf E j.op with
    | pure => exact pj hj
    | load => exact rr (.inr (.inl hi)) (.inl hj)
    | quiet => exact rr (.inr (.inl hi)) (.inr (.inl hj))
    | call => rw [hi, hj] at hc; simp [comB] at hc
    | act => rw [hi, hj] at hc; simp [comB] at hc
  | call =>
    cases hj : clOf E j.op with
    | pure => exact pj hj
    | load =>
      rw [hi, hj] at hc
      simp only [comB] at hc
      subst hc
      have hg := stp_grow hi hs
      obtain ⟨v0, h0, p0, k0⟩ := stp_some hg
      obtain ⟨u, hu⟩ := stp_pre hj k0
      refine (hu h _ p0.symm).2 (stp_mono (fun v h' k => ?_) hg)
      exact (hu h' _ (p0.symm.trans k.1)).1 k.2
    | quiet => rw [hi, hj] at hc; simp [comB] at hc
    | call => rw [hi, hj] at hc; simp [comB] at hc
    | act => rw [hi, hj] at hc; simp [comB] at hc
  | act =>
    cases hj : clOf E j.op with
    | pure => exact pj hj
    | load => rw [hi, hj] at hc; simp [comB] at hc
    | quiet => rw [hi, hj] at hc; simp [comB] at hc
    | call => rw [hi, hj] at hc; simp [comB] at hc
    | act => rw [hi, hj] at hc; simp [comB] at hc
/-- What another operation has put into its temporary makes no difference. -/
theorem stp_put {md : Bool} {n0 : Nat} {ops : Array Oper} {o : Oper} {a : Act} {d : Option Tmp} {u : Value} (hsel : ∀ cs b, o.op ≠ .select cs b) (hd : ∀ t, d = some t → t ∉ o.looksAt ops) {h : Hp} {N : Value → Hp → Prop} :
    stp P E md n0 ops o (a.put d u) h N = stp P E md n0 ops o a h N := by
  have e1 := execOp_put o hsel a d u hd
  have e2 := wanted_put o a d u hd
  unfold stp RunsTo QuietTo ActTo
  rw [e1, e2]

/-! ### a list of operations -/
def wk (P : Program) (E : Env) (md : Bool) (n0 : Nat) (ops : Array Oper) (K : Act → Hp → Prop) : List Nat → Act → Hp → Prop
  | [], a, h => K a h
  | i :: l, a, h => match ops[i]? with
    | some o => stp P E md n0 ops o a h fun v h' => wk P E md n0 ops K l (a.put o.dst v) h'
    | none => wk P E md n0 ops K l a h
theorem wk_swap {md : Bool} {n0 : Nat} {ops : Array Oper} {K : Act → Hp → Prop} {i j : Nat} {oi oj : Oper} (hi : ops[i]? = some oi) (hj : ops[j]? = some oj) (hap : oi.apart ops oj = true)
    (hsi : ∀ cs b, oi.op ≠ .select cs b) (hsj : ∀ cs b, oj.op ≠ .select cs b) (hc : comB md (clOf E oi.op) (clOf E oj.op) = true) {l : List Nat} {a : Act} {h : Hp}
    (hs : wk P E md n0 ops K (i :: j :: l) a h) : wk P E md n0 ops K (j :: i :: l) a h := by
  obtain ⟨h1, h2, h3⟩ := Oper.apart_spec hap
  simp only [wk, hi, hj] at hs ⊢
  have hs' : stp P E md n0 ops oi a h fun v h' => stp P E md n0 ops oj a h' fun u h'' => wk P E md n0 ops K l ((a.put oi.dst v).put oj.dst u) h'' :=
    stp_mono (fun v h' k => by rw [stp_put hsj h1] at k; exact k) hs
  have := stp_swap hc hs'
  refine stp_mono (fun u h' k => ?_) this
  rw [stp_put hsi h3]
  refine stp_mono (fun v h'' k' => ?_) k
  rw [Act.put_comm a v u h2] at k'
  exact k'
theorem stp_comm {md : Bool} {n0 : Nat} {ops : Array Oper} {oi oj : Oper} (hap : oi.apart ops oj = true)
    (hsi : ∀ cs b, oi.op ≠ .select cs b) (hsj : ∀ cs b, oj.op ≠ .select cs b) (hc : comB md (clOf E oi.op) (clOf E oj.op) = true) {N : Act → Hp → Prop} {a : Act} {h : Hp}
    (hs : stp P E md n0 ops oi a h fun v h' => stp P E md n0 ops oj (a.put oi.dst v) h' fun u h'' => N ((a.put oi.dst v).put oj.dst u) h'') :
    stp P E md n0 ops oj a h fun u h' => stp P E md n0 ops oi (a.put oj.dst u) h' fun v h'' => N ((a.put oj.dst u).put oi.dst v) h'' := by
  obtain ⟨h1, h2, h3⟩ := Oper.apart_spec hap
  have hs' : stp P E md n0 ops oi a h fun v h' => stp P E md n0 ops oj a h' fun u h'' => N ((a.put oi.dst v).put oj.dst u) h'' :=
    stp_mono (fun v h' k => by rw [stp_put hsj h1] at k; exact k) hs
  have := stp_swap hc hs'
  refine stp_mono (fun u h' k => ?_) this
  rw [stp_put hsi h3]
  refine stp_mono (fun v h'' k' => ?_) k
  rw [Act.put_comm a v u h2] at k'
  exact k'
/-! ### a region of open order -/
theorem mem_del {todo : List Nat} {i j : Nat} : j ∈ del todo i ↔ j ∈ todo ∧ j ≠ i := by
  unfold del
  rw [List.mem_filter]
  refine and_congr Iff.rfl ?_
  constructor
  · intro h e; subst e; simp at h
  · intro h
    cases hb : Nat.beq j i with
    | true => exact absurd (Nat.eq_of_beq_eq_true hb) h
    | false => rfl
theorem del_nodup {todo : List Nat} {i : Nat} (h : todo.Nodup) : (del todo i).Nodup := h.filter _
theorem del_comm (todo : List Nat) (i j : Nat) : del (del todo i) j = del (del todo j) i := by
  unfold del
  rw [List.filter_filter, List.filter_filter]
  apply List.filter_congr
  intro x _
  rw [Bool.and_comm]
theorem del_none : ∀ {todo : List Nat} {i : Nat}, i ∉ todo → del todo i = todo := by
  intro todo i h
  unfold del
  rw [List.filter_eq_self]
  intro x hx
  cases hb : Nat.beq x i with
  | true => obtain rfl := Nat.eq_of_beq_eq_true hb; exact absurd hx h
  | false => rfl
theorem del_split {l1 l2 : List Nat} {i : Nat} (h : (l1 ++ i :: l2).Nodup) : del (l1 ++ i :: l2) i = l1 ++ l2 := by
  have h1 : i ∉ l1 := fun hm => by
    have := List.nodup_append.1 h
    exact this.2.2 i hm i List.mem_cons_self rfl
  have h2 : i ∉ l2 := (List.nodup_cons.1 (List.nodup_append.1 h).2.1).1
  have e : del (l1 ++ i :: l2) i = del l1 i ++ del (i :: l2) i := by unfold del; rw [List.filter_append]
  have e2 : del (i :: l2) i = del l2 i := by unfold del; rw [List.filter_cons]; simp
  rw [e, e2, del_none h1, del_none h2]
theorem del_length {todo : List Nat} {i : Nat} (h : todo.Nodup) (hi : i ∈ todo) : (del todo i).length + 1 = todo.length := by
  obtain ⟨l1, l2, rfl⟩ := List.append_of_mem hi
  rw [del_split h]
  simp; omega
def anyS (P : Program) (E : Env) (md : Bool) (n0 : Nat) (ops : Array Oper) (bs : List Nat) (K : Act → Hp → Prop) : Nat → List Nat → Act → Hp → Prop
  | 0, _, a, h => K a h
  | n + 1, todo, a, h => ∀ i o, i ∈ todo → rdyB bs todo i = true → ops[i]? = some o → stp P E md n0 ops o a h fun v h' => anyS P E md n0 ops bs K n (del todo i) (a.put o.dst v) h'
theorem rdy_del {bs todo : List Nat} {i j : Nat} (h : rdyB bs todo i = true) : rdyB bs (del todo j) i = true := by
  unfold rdyB at *
  rw [List.all_eq_true] at *
  exact fun x hx => h x (mem_del.1 hx).1
theorem any_front {md : Bool} {n0 : Nat} {ops : Array Oper} {bs : List Nat} {K : Act → Hp → Prop} (hsel : ∀ (j : Nat) (o : Oper) cs b, ops[j]? = some o → o.op ≠ .select cs b) {i : Nat} {oi : Oper} (hoi : ops[i]? = some oi) : ∀ {n : Nat} {todo : List Nat}, todo.length = n + 1 → todo.Nodup → i ∈ todo → rdyB bs todo i = true →
    (∀ j ∈ todo, j ≠ i → (bs.getD j 0).testBit i = true ∨ ∃ oj, ops[j]? = some oj ∧ oi.apart ops oj = true ∧ comB md (clOf E oi.op) (clOf E oj.op) = true) → ∀ {a : Act} {h : Hp},
    (stp P E md n0 ops oi a h fun v h' => anyS P E md n0 ops bs K n (del todo i) (a.put oi.dst v) h') → anyS P E md n0 ops bs K (n + 1) todo a h := by
  intro n
  induction n with
  | zero =>
    intro todo hlen hnd hi hr hf a h hs j oj hj rj hoj
    have : j = i := by
      obtain ⟨x, rfl⟩ := List.length_eq_one_iff.1 hlen
      simp at hi hj
      rw [hi, hj]
    subst this
    rw [hoi] at hoj
    cases hoj
    exact hs
  | succ n ih =>
    intro todo hlen hnd hi hr hf a h hs j oj hj rj hoj
    by_cases hji : j = i
    · subst hji
      rw [hoi] at hoj
      cases hoj
      exact hs
    · have hnot : (bs.getD j 0).testBit i ≠ true := by
        unfold rdyB at rj
        rw [List.all_eq_true] at rj
        have := rj i hi
        intro e
        rw [e] at this
        cases this
      rcases hf j hj hji with hf1 | ⟨oj', e1, e2, e3⟩
      · exact absurd hf1 hnot
      · rw [hoj] at e1
        cases e1
        have h1 : stp P E md n0 ops oi a h fun v h' => stp P E md n0 ops oj (a.put oi.dst v) h' fun u h'' => (fun a h => anyS P E md n0 ops bs K n (del (del todo i) j) a h) ((a.put oi.dst v).put oj.dst u) h'' :=
          stp_mono (fun v h' k => k j oj (mem_del.2 ⟨hj, hji⟩) (rdy_del rj) hoj) hs
        have h2 := stp_comm e2 (fun cs b => hsel i oi cs b hoi) (fun cs b => hsel j oj cs b hoj) e3 h1
        refine stp_mono (fun u h' k => ?_) h2
        refine ih (todo := del todo j) ?_ (del_nodup hnd) (mem_del.2 ⟨hi, fun e => hji e.symm⟩) (rdy_del hr) (fun x hx hxi => hf x (mem_del.1 hx).1 hxi) ?_
        · have := del_length hnd hj; omega
        · rw [del_comm]; exact k
theorem wk_mono_head {md : Bool} {n0 : Nat} {ops : Array Oper} {K : Act → Hp → Prop} {i : Nat} {l l' : List Nat} (hl : ∀ a h, wk P E md n0 ops K l a h → wk P E md n0 ops K l' a h) {a : Act} {h : Hp}
    (hs : wk P E md n0 ops K (i :: l) a h) : wk P E md n0 ops K (i :: l') a h := by
  simp only [wk] at *
  split
  · rename_i o ho
    simp only [ho] at hs
    exact stp_mono (fun v h' k => hl _ _ k) hs
  · rename_i ho
    simp only [ho] at hs
    exact hl _ _ hs
/-- May j come ahead of i? -/
def free (E : Env) (md : Bool) (ops : Array Oper) (i j : Nat) : Prop :=
  ∃ oi oj, ops[i]? = some oi ∧ ops[j]? = some oj ∧ oi.apart ops oj = true ∧ (∀ cs b, oi.op ≠ .select cs b) ∧ (∀ cs b, oj.op ≠ .select cs b) ∧ comB md (clOf E oi.op) (clOf E oj.op) = true
theorem wk_front {md : Bool} {n0 : Nat} {ops : Array Oper} {K : Act → Hp → Prop} {j : Nat} {l2 : List Nat} : ∀ {l1 : List Nat}, (∀ i ∈ l1, free E md ops i j) → ∀ {a : Act} {h : Hp}, wk P E md n0 ops K (l1 ++ j :: l2) a h → wk P E md n0 ops K (j :: (l1 ++ l2)) a h
  | [], _, a, h, hs => hs
  | i :: l1, hf, a, h, hs => by
    have ih := fun {a h} => wk_front (n0 := n0) (K := K) (l2 := l2) (l1 := l1) (fun x hx => hf x (List.mem_cons_of_mem _ hx)) (a := a) (h := h)
    have h1 : wk P E md n0 ops K (i :: j :: (l1 ++ l2)) a h := wk_mono_head (fun a h => ih) hs
    obtain ⟨oi, oj, e1, e2, e3, e4, e5, e6⟩ := hf i List.mem_cons_self
    exact wk_swap e1 e2 e3 e4 e5 e6 h1
end
end Go.Gv
