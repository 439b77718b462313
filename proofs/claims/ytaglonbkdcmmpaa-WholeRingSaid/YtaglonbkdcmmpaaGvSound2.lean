/- Gv, part 3: operations, regions and code of the machine, by 'den'. -/
import Derived.Test.YtaglonbkdcmmpaaGvSound
import Derived.LoopN
import Derived.Scope
import Derived.Laws.Cells
namespace Go.Gv
set_option linter.unusedVariables false
set_option linter.unusedSimpArgs false

/-! ### frames -/
structure RelA (n : Nat) (fr : Fr) (a : Act) : Prop where
  size : a.tmps.size = n
  defers : a.defers = []
  get : ∀ t, a.tmps.getD t undef = fr t
theorem RelA.ev {n : Nat} {fr : Fr} {a : Act} (h : RelA n fr a) : a.eval = ev fr := by
  funext x
  cases x with
  | tmp t => exact h.get t
  | _ => rfl
theorem RelA.put {n : Nat} {fr : Fr} {a : Act} (h : RelA n fr a) {o : Oper} (hd : dstB n o = true) (v : Value) : RelA n (updO fr o.dst v) (a.put o.dst v) := by
  unfold dstB at hd
  cases e : o.dst with
  | none => exact h
  | some d =>
    rw [e] at hd
    have hlt : d < n := by simpa [Nat.blt_eq] using hd
    refine ⟨by simp [Act.put, h.size], by simp [Act.put, h.defers], fun t => ?_⟩
    simp only [Act.put, updO, upd]
    rw [Array.getD_eq_getD_getElem?, Array.getElem?_setIfInBounds]
    cases c : Nat.beq t d with
    | true =>
      obtain rfl := Nat.eq_of_beq_eq_true c
      have : t < a.tmps.size := by rw [h.size]; exact hlt
      simp [this]
    | false =>
      have : d ≠ t := fun e => by subst e; simp at c
      rw [if_neg this, ← Array.getD_eq_getD_getElem?, h.get t]
      rfl

section
variable {P : Program} {E : Env}
theorem dStill_run (hE : EnvOk P E) {o : Oper} {fr : Fr} {h : Hp} {K : Value → Prop} (hd : dStill E o.op fr h K) :
    ∃ v, K v ∧ ∀ w : World, (∀ t a q, o.op = .load t a → ev fr a = .pointer (some q) → w.heap[q.block]? = h[q.block]?) → (execOp (ev fr) o).run P w = .ok (.value v) w := by
  obtain ⟨dst, op, type, pos, after, guard⟩ := o
  simp only at hd
  cases op with
  | move x => exact ⟨_, hd, fun w _ => rfl⟩
  | assign x => exact ⟨_, hd, fun w _ => rfl⟩
  | pick c a b =>
    simp only [dStill] at hd
    split at hd
    · rename_i t ht
      cases t with
      | true => exact ⟨_, hd, fun w _ => by simp [execOp, ht, Go.asBool]⟩
      | false => exact ⟨_, hd, fun w _ => by simp [execOp, ht, Go.asBool]⟩
    · cases hd
  | load t a =>
    simp only [dStill] at hd
    split at hd
    · rename_i q i ha hl
      obtain ⟨v, hv, hr⟩ := ldT_run hE hl hd
      exact ⟨v, hv, fun w hw => by simp [execOp, ha, hr w (hw _ _ _ rfl ha)]⟩
    · cases hd
  | binOp op t x y yt =>
    obtain ⟨v, hv, hr⟩ := dBin_run hE (X := x) (Y := y) hd
    exact ⟨v, hv, fun w _ => by
      have := hr w
      simp only [execOp, Sem.run_bind] at this ⊢
      rw [this]; rfl⟩
  | unOp op t x =>
    obtain ⟨v, hv, hr⟩ := dUn_run (P := P) hd
    exact ⟨v, hv, fun w _ => by simp [execOp, hr w]⟩
  | convert s d x =>
    simp only [dStill] at hd
    split at hd
    · rename_i k0 l0 b0 k ls b k' n h1 h2 h3
      have u1 := und_int (hE.ty _ _ h1)
      have u2 := und_int (hE.ty _ _ h2)
      exact ⟨_, hd.out, fun w _ => by simp [execOp, convert, run_und u1, run_und u2, h3, Conv.intToInt]⟩
    · cases hd
  | indexAddr t x i =>
    simp only [dStill] at hd
    split at hd
    · rename_i e ls b a l c k n h1 h2 h3
      split at hd
      · rename_i ie h4
        have u1 := und_slice (hE.ty _ _ h1)
        obtain ⟨inf, hi, hs, _⟩ := info_of (hE.ty _ _ h4)
        rw [← hs] at hd
        obtain ⟨q, hk, hr⟩ := idxK_run u1 hi (c := c) (k := k) hd
        exact ⟨_, hk, fun w _ => by simp [execOp, h2, h3, hr w]⟩
      · cases hd
    · rename_i q k n h1 h2 h3
      split at hd
      · rename_i m e h5
        split at hd
        · rename_i ie h4
          have u1 := hE.arr _ _ h5
          obtain ⟨inf, hi, hs, _⟩ := info_of (hE.ty _ _ h4)
          rw [← hs] at hd
          obtain ⟨q', hk, hr⟩ := idxK_run_arr u1 hi (k := k) hd
          exact ⟨_, hk, fun w _ => by simp [execOp, h2, h3, hr w]⟩
        · cases hd
      · cases hd
    · cases hd
  | index t x i =>
    simp only [dStill] at hd
    split at hd
    · rename_i ls b s k n h1 h2 h3
      have u1 := und_str (hE.ty _ _ h1)
      obtain ⟨h0, hd⟩ := hd
      split at hd
      · rename_i c hc
        exact ⟨_, hd, fun w _ => by simp [execOp, h2, h3, Instr.index, asIntOf, run_und u1, h0, hc]⟩
      · cases hd
    · cases hd
  | extract x i =>
    simp only [dStill] at hd
    split at hd
    · rename_i vs hx
      split at hd
      · rename_i v hv
        have hv' : vs[i]? = some v := by simpa using hv
        exact ⟨v, hd, fun w _ => by simp [execOp, hx, Instr.extract, hv']⟩
      · cases hd
    · cases hd
  | fieldAddr s x f =>
    simp only [dStill] at hd
    split at hd
    · rename_i q fs ls b h1 h2
      split at hd
      · rename_i off t hf
        split at hd
        · rename_i i hi
          cases hz : Nat.beq i.leaves.length 0 with
          | true => simp [hz] at hd
          | false =>
            simp only [hz, cond_false] at hd
            obtain ⟨fs', u, e⟩ := und_struct (hE.ty _ _ h2)
            subst e
            have hf' : ∃ fld, fs'[f]? = some fld ∧ fld.offset = off ∧ fld.type = t := by
              rw [List.getElem?_map] at hf
              cases hg : fs'.toList[f]? with
              | none => simp [hg] at hf
              | some fld => simp [hg] at hf; exact ⟨fld, by simpa using hg, hf.1, hf.2⟩
            obtain ⟨fld, hfl, rfl, rfl⟩ := hf'
            exact ⟨_, hd, fun w _ => by
              obtain ⟨inf, hi', hs, _⟩ := info_of (hE.ty _ _ hi)
              have hne : ¬ inf.size = 0 := by rw [hs]; intro e0; rw [e0] at hz; simp at hz
              simp [execOp, h1, Instr.fieldAt, run_und u, hfl, Instr.sureAddr, fieldPlace, run_size hi', hne]⟩
        · cases hd
      · cases hd
    · cases hd
  | field t x f =>
    simp only [dStill] at hd
    split at hd
    · rename_i cs fs ls b h1 h2
      split at hd
      · rename_i off t' hf
        obtain ⟨fs', u, e⟩ := und_struct (hE.ty _ _ h2)
        subst e
        have hf' : ∃ fld, fs'[f]? = some fld ∧ fld.offset = off ∧ fld.type = t' := by
          rw [List.getElem?_map] at hf
          cases hg : fs'.toList[f]? with
          | none => simp [hg] at hf
          | some fld => simp [hg] at hf; exact ⟨fld, by simpa using hg, hf.1, hf.2⟩
        obtain ⟨fld, hfl, rfl, rfl⟩ := hf'
        split at hd
        · rename_i fs2 ls2 b2 hl
          have ht := hE.ty _ _ hl
          obtain ⟨inf, hi', hs, _⟩ := info_of ht
          refine ⟨_, hd, fun w _ => ?_⟩
          simp only at hs
          have e2 : cs.extract fld.offset (fld.offset + inf.size) = ((cs.toList.drop fld.offset).take ls2.length).toArray := by
            apply Array.ext'
            simp [hs]
          simp [execOp, h1, Instr.field, run_und u, hfl, gAgg, part, run_isAgg_yes ht, run_size hi', e2, Go.asAgg]
        · cases hd
        · rename_i i hn1 hn2 hl
          split at hd
          · rename_i v hv
            have hv' : cs[fld.offset]? = some v := by simpa using hv
            have hs : i.ty.isStruct = false := by
              obtain ⟨ty, ls2, b2⟩ := i
              cases ty <;> first | rfl | exact absurd rfl (hn1 _ _ _)
            refine ⟨v, hd, fun w _ => ?_⟩
            simp [execOp, h1, Instr.field, run_und u, hfl, part, run_isAgg_no (hE.ty _ _ hl) hs, hv', Go.asAgg]
          · cases hd
        · cases hd
      · cases hd
    · cases hd
  | build t parts =>
    simp only [dStill] at hd
    split at hd
    · rename_i fs ls b h1
      cases hp : placesOk E fs with
      | false => simp [hp] at hd
      | true =>
        simp only [hp, cond_true] at hd
        split at hd
        · rename_i cells hc
          refine ⟨_, hd, fun w _ => ?_⟩
          have ht := hE.ty _ _ h1
          obtain ⟨fs', u, e⟩ := und_struct ht
          subst e
          obtain ⟨inf, hi, hs, hb, z, hz, hzc⟩ := zero_of ht rfl
          have hmem := placesOk_mem hp
          have hall : ∀ f ∈ fs'.toList, ∃ inf, P.info? f.type = some inf := by
            intro f hf
            obtain ⟨i, hi⟩ := hmem (f.offset, f.type) (List.mem_map.2 ⟨f, hf, rfl⟩)
            obtain ⟨inf, h1, _⟩ := info_of (hE.ty _ _ hi)
            exact ⟨inf, h1⟩
          have hm := run_mapM_places (P := P) hall w
          have hm' : (fs'.mapM fun (f : Field) => (do pure (f.offset, ← sizeOf f.type) : Sem (Nat × Nat))).run P w = .ok (fs'.toList.map fun f => (f.offset, P.cellsOf f.type)).toArray w := by
            rw [Array.mapM_eq_mapM_toList, Sem.run_map, hm]; rfl
          have hplace : ∀ j, ((fs'.toList.map fun f => (f.offset, P.cellsOf f.type)).toArray)[j]? = fieldPl E (fs'.toList.map fun f => (f.offset, f.type)) j := by
            intro j
            unfold fieldPl
            rw [List.getElem?_map]
            cases hg : fs'.toList[j]? with
            | none => simpa using hg
            | some f =>
              obtain ⟨i, hi⟩ := hmem (f.offset, f.type) (List.mem_map.2 ⟨f, List.mem_of_getElem? hg, rfl⟩)
              have : P.cellsOf f.type = i.leaves.length := cellsOf_eq (hE.ty _ _ hi)
              simp at hg
              simp [hg, hi, this]
          have hfill := fill_of hplace _ _ _ hc
          simp only [execOp, Sem.run_bind, Instr.build, run_zero hi hz, Result.andThen, run_und u, hm']
          have hz' : z.cells = (ls.map Kd.zero).toArray := by apply Array.ext'; simpa [TyI.zs] using hzc
          rw [hz']
          have hpp : (Array.map (fun (x : Nat × Operand) => match x with | (i, x) => (i, ev fr x)) parts).toList = parts.toList.map fun (i, x) => (i, ev fr x) := by simp
          rw [hpp, hfill]
          rfl
        · cases hd
    · cases hd
  | nilCheck x =>
    simp only [dStill] at hd
    split at hd
    · rename_i q hx
      exact ⟨_, hd, fun w _ => by simp [execOp, hx]⟩
    · cases hd
  | slice t x lo hi mx =>
    simp only [dStill] at hd
    split at hd
    · rename_i e ls b a l c h1 h2
      split at hd
      · rename_i ie h4
        have u1 := und_slice (hE.ty _ _ h1)
        obtain ⟨inf, hi', hs, _⟩ := info_of (hE.ty _ _ h4)
        rw [← hs] at hd
        obtain ⟨v, hv, hr⟩ := slK_run u1 hi' hd
        exact ⟨v, hv, fun w _ => by simp [execOp, h2, hr w]⟩
      · cases hd
    · rename_i ls b s h1 h2
      split at hd
      · have u1 := und_str (hE.ty _ _ h1)
        obtain ⟨v, hv, hr⟩ := slS_run u1 hd
        exact ⟨v, hv, fun w _ => by simp [execOp, h2, hr w]⟩
      · cases hd
    · cases hd
  | call c =>
    obtain ⟨v, hv, hr⟩ := dCall_run hE (t0 := type) hd
    exact ⟨v, hv, fun w _ => hr w⟩
  | _ => exact hd.elim
end
end Go.Gv
