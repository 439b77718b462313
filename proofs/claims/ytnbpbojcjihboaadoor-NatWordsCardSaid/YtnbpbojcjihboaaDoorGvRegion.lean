/- Gv, part 5: regions whose order is open. -/
import Derived.Test.YtnbpbojcjihboaaDoorGvSound3
namespace Go.Gv
set_option linter.unusedVariables false
set_option linter.unusedSimpArgs false
section
variable {P : Program} {E : Env}

/-- One operation, by its kind. -/
def stp (P : Program) (E : Env) (md : Bool) (n0 : Nat) (ops : Array Oper) (o : Oper) (a : Act) (h : Hp) (N : Value → Hp → Prop) : Prop :=
  if Region.wanted o (yielded ops a.tmps) then
    match clOf E o.op with
    | .pure => ∃ v, (∀ w, RunsTo P o a w v) ∧ N v h
    | .load => ∃ v, (∀ w : World, cond md (Pre n0 h w.heap) (w.heap = h) → RunsTo P o a w v) ∧ N v h
    | .quiet => ∃ v, (∀ w : World, w.heap = h → QuietTo P o a w v) ∧ N v h
    | .call => ∀ w : World, w.heap = h → ActTo P o a w fun v h' => (md = true → Pre n0 h h') ∧ N v h'
    | .act => ∀ w : World, w.heap = h → ActTo P o a w N
  else N undef h
def aWorld (h : Hp) : World := { heap := h, tape := fun _ _ => 0, drawn := 0, os := default, output := #[] }
theorem stp_mono {md : Bool} {n0 : Nat} {ops : Array Oper} {o : Oper} {a : Act} {h : Hp} {N N' : Value → Hp → Prop} (hn : ∀ v h, N v h → N' v h) (hs : stp P E md n0 ops o a h N) : stp P E md n0 ops o a h N' := by
  unfold stp at *
  split
  · rename_i hw
    rw [if_pos hw] at hs
    cases hc : clOf E o.op with
    | pure => simp only [hc] at hs ⊢; obtain ⟨v, h1, h2⟩ := hs; exact ⟨v, h1, hn _ _ h2⟩
    | load => simp only [hc] at hs ⊢; obtain ⟨v, h1, h2⟩ := hs; exact ⟨v, h1, hn _ _ h2⟩
    | quiet => simp only [hc] at hs ⊢; obtain ⟨v, h1, h2⟩ := hs; exact ⟨v, h1, hn _ _ h2⟩
    | call => simp only [hc] at hs ⊢; exact fun w hw => (hs w hw).mono fun v h' k => ⟨k.1, hn _ _ k.2⟩
    | act => simp only [hc] at hs ⊢; exact fun w hw => (hs w hw).mono hn
  · rename_i hw; rw [if_neg hw] at hs; exact hn _ _ hs
theorem stp_some {md : Bool} {n0 : Nat} {ops : Array Oper} {o : Oper} {a : Act} {h : Hp} {N : Value → Hp → Prop} (hs : stp P E md n0 ops o a h N) : ∃ v h', N v h' := by
  unfold stp at hs
  split at hs
  · cases hc : clOf E o.op with
    | pure => simp only [hc] at hs; obtain ⟨v, h1, h2⟩ := hs; exact ⟨_, _, h2⟩
    | load => simp only [hc] at hs; obtain ⟨v, h1, h2⟩ := hs; exact ⟨_, _, h2⟩
    | quiet => simp only [hc] at hs; obtain ⟨v, h1, h2⟩ := hs; exact ⟨_, _, h2⟩
    | call => simp only [hc] at hs; obtain ⟨v, h', k⟩ := (hs (aWorld h) rfl).some; exact ⟨v, h', k.2⟩
    | act => simp only [hc] at hs; exact (hs (aWorld h) rfl).some
  · exact ⟨_, _, hs⟩
theorem RunsTo.inj {o : Oper} {a : Act} {w : World} {v v' : Value} (h : RunsTo P o a w v) (h' : RunsTo P o a w v') : v = v' := by
  unfold RunsTo at *
  rw [h] at h'
  cases h'
  rfl
theorem Pre.refl (n0 : Nat) (h : Hp) : Pre n0 h h := fun _ _ => rfl
theorem Pre.symm {n0 : Nat} {h h' : Hp} (p : Pre n0 h h') : Pre n0 h' h := fun b hb => (p b hb).symm
theorem Pre.trans {n0 : Nat} {a b c : Hp} (p : Pre n0 a b) (q : Pre n0 b c) : Pre n0 a c := fun i hi => (q i hi).trans (p i hi)
/-- What an operation of the first kind (or one that is passed by) yields hangs on nothing. -/
theorem stp_pure {md : Bool} {n0 : Nat} {ops : Array Oper} {o : Oper} {a : Act} (hc : clOf E o.op = .pure ∨ ¬ Region.wanted o (yielded ops a.tmps) = true) {h : Hp} {N : Value → Hp → Prop} (hs : stp P E md n0 ops o a h N) :
    ∃ v, ∀ h' N', stp P E md n0 ops o a h' N' ↔ N' v h' := by
  by_cases hw : Region.wanted o (yielded ops a.tmps) = true
  · rcases hc with hc | hc
    · simp only [stp, if_pos hw, hc] at hs
      obtain ⟨v, h1, _⟩ := hs
      refine ⟨v, fun h' N' => ?_⟩
      simp only [stp, if_pos hw, hc]
      constructor
      · rintro ⟨v', g1, g2⟩
        have := (h1 (aWorld h')).inj (g1 (aWorld h'))
        subst this
        exact g2
      · intro g; exact ⟨v, h1, g⟩
    · exact absurd hw hc
  · exact ⟨undef, fun h' N' => by simp only [stp, if_neg hw]⟩
/-- A load, in one heap. -/
theorem stp_read {md : Bool} {n0 : Nat} {ops : Array Oper} {o : Oper} {a : Act} (hc : clOf E o.op = .load ∨ clOf E o.op = .quiet ∨ clOf E o.op = .pure) {h : Hp} {N : Value → Hp → Prop} (hs : stp P E md n0 ops o a h N) :
    ∃ v, N v h ∧ ∀ N' : Value → Hp → Prop, N' v h → stp P E md n0 ops o a h N' := by
  by_cases hw : Region.wanted o (yielded ops a.tmps) = true
  · rcases hc with hc | hc | hc <;> simp only [stp, if_pos hw, hc] at hs ⊢ <;> obtain ⟨v, h1, h2⟩ := hs <;> exact ⟨v, h2, fun N' k => ⟨v, h1, k⟩⟩
  · simp only [stp, if_neg hw] at hs ⊢; exact ⟨undef, hs, fun N' k => k⟩
/-- A load of the second mode reads the same in every heap that kept what was there. -/
theorem stp_pre {n0 : Nat} {ops : Array Oper} {o : Oper} {a : Act} (hc : clOf E o.op = .load) {h : Hp} {N : Value → Hp → Prop} (hs : stp P E true n0 ops o a h N) :
    ∃ v, ∀ h' N', Pre n0 h h' → (stp P E true n0 ops o a h' N' ↔ N' v h') := by
  by_cases hw : Region.wanted o (yielded ops a.tmps) = true
  · simp only [stp, if_pos hw, hc, cond_true] at hs
    obtain ⟨v, h1, _⟩ := hs
    refine ⟨v, fun h' N' hp => ?_⟩
    simp only [stp, if_pos hw, hc, cond_true]
    constructor
    · rintro ⟨v', g1, g2⟩
      have := (h1 (aWorld h') hp).inj (g1 (aWorld h') (Pre.refl _ _))
      subst this
      exact g2
    · intro g; exact ⟨v, fun w hw => h1 w (hp.trans hw), g⟩
  · exact ⟨undef, fun h' N' _ => by simp only [stp, if_neg hw]⟩
theorem stp_grow {n0 : Nat} {ops : Array Oper} {o : Oper} {a : Act} (hc : clOf E o.op = .call) {h : Hp} {N : Value → Hp → Prop} (hs : stp P E true n0 ops o a h N) :
    stp P E true n0 ops o a h fun v h' => Pre n0 h h' ∧ N v h' := by
  by_cases hw : Region.wanted o (yielded ops a.tmps) = true
  · simp only [stp, if_pos hw, hc] at hs ⊢
    exact fun w hw => (hs w hw).mono fun v h' k => ⟨k.1, k.1 trivial, k.2⟩
  · simp only [stp, if_neg hw] at hs ⊢; exact ⟨Pre.refl _ _, hs⟩
/-- Two operations that don't hinder one another. -/
theorem stp_swap {md : Bool} {n0 : Nat} {ops : Array Oper} {i j : Oper} {a : Act} (hc : comB md (clOf E i.op) (clOf E j.op) = true) {h : Hp} {N : Value → Value → Hp → Prop}
    (hs : stp P E md n0 ops i a h fun v h' => stp P E md n0 ops j a h' fun u h'' => N v u h'') : stp P E md n0 ops j a h fun u h' => stp P E md n0 ops i a h' fun v h'' => N v u h'' := by
  have pi : clOf E i.op = .pure → stp P E md n0 ops j a h fun u h' => stp P E md n0 ops i a h' fun v h'' => N v u h'' := by
    intro hp
    obtain ⟨v, hv⟩ := stp_pure (.inl hp) hs
    have h1 := (hv _ _).1 hs
    exact stp_mono (fun u h' k => (hv h' _).2 k) h1
  have pj : clOf E j.op = .pure → stp P E md n0 ops j a h fun u h' => stp P E md n0 ops i a h' fun v h'' => N v u h'' := by
    intro hp
    obtain ⟨v0, h0, k0⟩ := stp_some hs
    obtain ⟨u, hu⟩ := stp_pure (.inl hp) k0
    exact (hu h _).2 (stp_mono (fun v h' k => (hu h' _).1 k) hs)
  have rr : (clOf E i.op = .load ∨ clOf E i.op = .quiet ∨ clOf E i.op = .pure) → (clOf E j.op = .load ∨ clOf E j.op = .quiet ∨ clOf E j.op = .pure) → stp P E md n0 ops j a h fun u h' => stp P E md n0 ops i a h' fun v h'' => N v u h'' := by
    intro h1 h2
    obtain ⟨v, hv, gv⟩ := stp_read h1 hs
    obtain ⟨u, hu, gu⟩ := stp_read h2 hv
    exact gu _ (gv _ hu)
  cases hi : clOf E i.op with
  | pure => exact pi hi
  | load =>
    cases hj : clOf E j.op with
    | pure => exact pj hj
    | load => exact rr (.inl hi) (.inl hj)
    | quiet => exact rr (.inl hi) (.inr (.inl hj))
    | call =>
      rw [hi, hj] at hc
      simp only [comB] at hc
      subst hc
      obtain ⟨v, hv⟩ := stp_pre hi hs
      have h1 := (hv h _ (Pre.refl _ _)).1 hs
      exact stp_mono (fun u h' k => (hv h' _ k.1).2 k.2) (stp_grow hj h1)
    | act => rw [hi, hj] at hc; simp [comB] at hc
  | quiet =>
    cases hj : clOf E j.op with
    | pure => exact pj hj
    | load => exact rr (.inr (.inl hi)) (.inl hj)
    | quiet => exact rr (.inr (.inl hi)) (.inr (.inl hj))
    | call => rw [hi, hj] at hc; simp [comB] at hc
    | act => rw [hi, hj] at hc; simp [comB] at hc
  | call =>
    cases hj : clOf E j.op with
    | pure => exact pj hj
    | load =>
      rw [hi, hj] at hc
      simp only [comB] at hc
      subst hc
      have hg := stp_grow hi hs
      obtain ⟨v0, h0, p0, k0⟩ := stp_some hg
      obtain ⟨u, hu⟩ := stp_pre hj k0
      refine (hu h _ p0.symm).2 (stp_mono (fun v h' k => ?_) hg)
      exact (hu h' _ (p0.symm.trans k.1)).1 k.2
    | quiet => rw [hi, hj] at hc; simp [comB] at hc
    | call => rw [hi, hj] at hc; simp [comB] at hc
    | act => rw [hi, hj] at hc; simp [comB] at hc
  | act =>
    cases hj : clOf E j.op with
    | pure => exact pj hj
    | load => rw [hi, hj] at hc; simp [comB] at hc
    | quiet => rw [hi, hj] at hc; simp [comB] at hc
    | call => rw [hi, hj] at hc; simp [comB] at hc
    | act => rw [hi, hj] at hc; simp [comB] at hc
/-- What another operation has put into its temporary makes no difference. -/
theorem stp_put {md : Bool} {n0 : Nat} {ops : Array Oper} {o : Oper} {a : Act} {d : Option Tmp} {u : Value} (hsel : ∀ cs b, o.op ≠ .select cs b) (hd : ∀ t, d = some t → t ∉ o.looksAt ops) {h : Hp} {N : Value → Hp → Prop} :
    stp P E md n0 ops o (a.put d u) h N = stp P E md n0 ops o a h N := by
  have e1 := execOp_put o hsel a d u hd
  have e2 := wanted_put o a d u hd
  unfold stp RunsTo QuietTo ActTo
  rw [e1, e2]

/-! ### a list of operations -/
def wk (P : Program) (E : Env) (md : Bool) (n0 : Nat) (ops : Array Oper) (K : Act → Hp → Prop) : List Nat → Act → Hp → Prop
  | [], a, h => K a h
  | i :: l, a, h => match ops[i]? with
    | some o => stp P E md n0 ops o a h fun v h' => wk P E md n0 ops K l (a.put o.dst v) h'
    | none => wk P E md n0 ops K l a h
theorem wk_swap {md : Bool} {n0 : Nat} {ops : Array Oper} {K : Act → Hp → Prop} {i j : Nat} {oi oj : Oper} (hi : ops[i]? = some oi) (hj : ops[j]? = some oj) (hap : oi.apart ops oj = true)
    (hsi : ∀ cs b, oi.op ≠ .select cs b) (hsj : ∀ cs b, oj.op ≠ .select cs b) (hc : comB md (clOf E oi.op) (clOf E oj.op) = true) {l : List Nat} {a : Act} {h : Hp}
    (hs : wk P E md n0 ops K (i :: j :: l) a h) : wk P E md n0 ops K (j :: i :: l) a h := by
  obtain ⟨h1, h2, h3⟩ := Oper.apart_spec hap
  simp only [wk, hi, hj] at hs ⊢
  have hs' : stp P E md n0 ops oi a h fun v h' => stp P E md n0 ops oj a h' fun u h'' => wk P E md n0 ops K l ((a.put oi.dst v).put oj.dst u) h'' :=
    stp_mono (fun v h' k => by rw [stp_put hsj h1] at k; exact k) hs
  have := stp_swap hc hs'
  refine stp_mono (fun u h' k => ?_) this
  rw [stp_put hsi h3]
  refine stp_mono (fun v h'' k' => ?_) k
  rw [Act.put_comm a v u h2] at k'
  exact k'
theorem wk_mono_head {md : Bool} {n0 : Nat} {ops : Array Oper} {K : Act → Hp → Prop} {i : Nat} {l l' : List Nat} (hl : ∀ a h, wk P E md n0 ops K l a h → wk P E md n0 ops K l' a h) {a : Act} {h : Hp}
    (hs : wk P E md n0 ops K (i :: l) a h) : wk P E md n0 ops K (i :: l') a h := by
  simp only [wk] at *
  split
  · rename_i o ho
    simp only [ho] at hs
    exact stp_mono (fun v h' k => hl _ _ k) hs
  · rename_i ho
    simp only [ho] at hs
    exact hl _ _ hs
/-- May j come ahead of i? -/
def free (E : Env) (md : Bool) (ops : Array Oper) (i j : Nat) : Prop :=
  ∃ oi oj, ops[i]? = some oi ∧ ops[j]? = some oj ∧ oi.apart ops oj = true ∧ (∀ cs b, oi.op ≠ .select cs b) ∧ (∀ cs b, oj.op ≠ .select cs b) ∧ comB md (clOf E oi.op) (clOf E oj.op) = true
theorem wk_front {md : Bool} {n0 : Nat} {ops : Array Oper} {K : Act → Hp → Prop} {j : Nat} {l2 : List Nat} : ∀ {l1 : List Nat}, (∀ i ∈ l1, free E md ops i j) → ∀ {a : Act} {h : Hp}, wk P E md n0 ops K (l1 ++ j :: l2) a h → wk P E md n0 ops K (j :: (l1 ++ l2)) a h
  | [], _, a, h, hs => hs
  | i :: l1, hf, a, h, hs => by
    have ih := fun {a h} => wk_front (n0 := n0) (K := K) (l2 := l2) (l1 := l1) (fun x hx => hf x (List.mem_cons_of_mem _ hx)) (a := a) (h := h)
    have h1 : wk P E md n0 ops K (i :: j :: (l1 ++ l2)) a h := wk_mono_head (fun a h => ih) hs
    obtain ⟨oi, oj, e1, e2, e3, e4, e5, e6⟩ := hf i List.mem_cons_self
    exact wk_swap e1 e2 e3 e4 e5 e6 h1
end
end Go.Gv
