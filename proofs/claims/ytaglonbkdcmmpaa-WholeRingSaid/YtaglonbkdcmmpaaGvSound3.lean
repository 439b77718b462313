/- Gv, part 4: operations that write, calls, regions and code of the machine, by 'den'. -/
import Derived.Test.YtaglonbkdcmmpaaGvSound2
namespace Go.Gv
set_option linter.unusedVariables false
set_option linter.unusedSimpArgs false

/-! ### heaps that are written -/
theorem add_zero (q : Addr) : q.add 0 = q := by simp [Addr.add]
theorem cellH_setH_some {h : Hp} {a q : Addr} {v o : Value} (hq : cellH h q = some o) : ∃ o', cellH (setH h a v) q = some o' := by
  unfold cellH setH at *
  rw [Array.getElem?_modify]
  split at hq
  · rename_i c e f hc
    by_cases hb : a.block = q.block
    · rw [if_pos hb, hc]
      simp only [Option.map_some]
      by_cases hs : q.spot.isSome = true
      · simp [hs] at hq
      · simp only [hs] at hq ⊢
        have hlt : q.off < c.size := by
          rcases Nat.lt_or_ge q.off c.size with hl | hl
          · exact hl
          · simp [Array.getElem?_eq_none hl] at hq
        cases a.spot.isSome with
        | true => exact ⟨o, by simpa using hq⟩
        | false => simp only [Bool.false_eq_true, if_false]; rw [Array.getElem?_setIfInBounds]; split <;> simp_all
    · rw [if_neg hb, hc]; exact ⟨o, hq⟩
  · cases hq
theorem frozenH_setH (h : Hp) (a q : Addr) (v : Value) : frozenH (setH h a v) q = frozenH h q := by
  unfold frozenH setH
  rw [Array.getElem?_modify]
  by_cases hb : a.block = q.block
  · rw [if_pos hb]
    cases hc : h[q.block]? with
    | none => rfl
    | some ob => cases ob <;> rfl
  · rw [if_neg hb]
theorem StL_setH {h : Hp} {p a : Addr} {v : Value} : ∀ {n i : Nat}, StL h p i n → StL (setH h a v) p i n
  | 0, _, _ => trivial
  | n + 1, i, hs => by
    obtain ⟨⟨⟨o, ho⟩, hf⟩, hr⟩ := hs
    exact ⟨⟨cellH_setH_some ho, by rw [frozenH_setH]; exact hf⟩, StL_setH hr⟩

section
variable {P : Program} {E : Env}
theorem stLs_run {q : Addr} : ∀ {l : List Value} {i : Nat} {w : World} {K : Hp → Prop}, stLs w.heap q i l K → ∃ w', (storeCells q l i).run P w = .ok () w' ∧ Same w w' ∧ K w'.heap
  | [], i, w, K, h => ⟨w, rfl, Same.refl w, h⟩
  | v :: vs, i, w, K, h => by
    unfold stLs at h
    cases hp : plainV v with
    | false => simp [hp] at h
    | true =>
      simp only [hp, cond_true] at h
      obtain ⟨⟨h1, h2⟩, h3⟩ := h
      have hr := run_store1 (P := P) h1 h2 hp
      obtain ⟨w', r, s, k⟩ := stLs_run (w := w.setCell (q.add i) v) h3
      exact ⟨w', by simp only [storeCells, Sem.run_bind, hr, Result.andThen, r], Same.trans (b := w.setCell _ v) ⟨rfl, rfl, rfl⟩ s, k⟩
theorem run_stores {p : Addr} : ∀ {vs : List Value} {i : Nat} {w : World}, StL w.heap p i vs.length → (∀ v ∈ vs, plainV v = true) →
    ∃ w', (storeCells p vs i).run P w = .ok () w' ∧ Same w w' ∧ w'.heap = stH w.heap p i vs
  | [], i, w, _, _ => ⟨w, rfl, Same.refl w, rfl⟩
  | v :: vs, i, w, h, hp => by
    obtain ⟨⟨h1, h2⟩, h3⟩ := h
    have hr := run_store1 (P := P) h1 h2 (hp v (by simp))
    obtain ⟨w', r, s, k⟩ := run_stores (w := w.setCell (p.add i) v) (i := i + 1) (vs := vs) (StL_setH h3) (fun x hx => hp x (by simp [hx]))
    exact ⟨w', by simp only [storeCells, Sem.run_bind, hr, Result.andThen, r], Same.trans (b := w.setCell _ v) ⟨rfl, rfl, rfl⟩ s, k⟩
theorem zerosL_length (zs : List Value) : ∀ n, (zerosL zs n).length = n * zs.length
  | 0 => by simp [zerosL]
  | n + 1 => by simp [zerosL, zerosL_length zs n, Nat.succ_mul]; omega
theorem zerosL_get (zs : List Value) : ∀ n i, i < n * zs.length → (zerosL zs n)[i]? = zs[i % zs.length]?
  | 0, i, h => by simp at h
  | n + 1, i, h => by
    simp only [zerosL]
    by_cases hi : i < zs.length
    · rw [List.getElem?_append_left hi, Nat.mod_eq_of_lt hi]
    · have hi' : zs.length ≤ i := by omega
      rw [List.getElem?_append_right hi', zerosL_get zs n (i - zs.length) (by rw [Nat.succ_mul] at h; omega)]
      congr 1
      rw [Nat.mod_eq_sub_mod hi']
theorem zeros_arr (zs : List Value) (n m : Nat) (hm : m = n * zs.length) (z : Array Value) (hz : z = zs.toArray) : (Array.range m).map (fun i => z[i % z.size]!) = (zerosL zs n).toArray := by
  subst hz; subst hm
  apply Array.ext
  · simp [zerosL_length]
  · intro i h1 h2
    simp only [Array.size_map, Array.size_range] at h1
    simp only [Array.getElem_map, Array.getElem_range]
    have hp : 0 < zs.length := by
      rcases Nat.eq_zero_or_pos zs.length with h | h
      · rw [h] at h1; simp at h1
      · exact h
    have hlt : i % zs.length < zs.length := Nat.mod_lt _ hp
    have hg := zerosL_get zs n i h1
    rw [List.getElem?_eq_getElem hlt, List.getElem?_eq_getElem (by rw [zerosL_length]; exact h1)] at hg
    have hg' := Option.some.inj hg
    have hlt' : i % zs.toArray.size < zs.toArray.size := by simpa using hlt
    rw [getElem!_pos zs.toArray _ hlt']
    simp [hg']
theorem zeros_arr0 (zs : List Value) (n m : Nat) (hm : m = n * zs.length) (z : Array Value) (hz : m ≠ 0 → z = zs.toArray) : (Array.range m).map (fun i => z[i % z.size]!) = (zerosL zs n).toArray := by
  by_cases h0 : m = 0
  · subst h0
    have : (zerosL zs n).length = 0 := by rw [zerosL_length]; exact hm.symm
    rw [List.length_eq_zero_iff] at this
    rw [this]; simp
  · exact zeros_arr zs n m hm z (hz h0)
theorem zs_length (i : TyI) : i.zs.length = i.leaves.length := by simp [TyI.zs]
theorem SrcL_run {w : World} {sz : Nat} {x : Value} {n : Nat} {cs : List Value} (h : SrcL w.heap sz x n cs) : (Builtin.firstCells sz n x).run P w = .ok cs.toArray w := by
  obtain ⟨hl, _, h⟩ := h
  split at h
  · have hr := run_loads (P := P) cs _ 0 #[] w h
    simp only [Builtin.firstCells, loadCells, ← hl, hr]
    simp
  · subst h; rfl
  · subst h
    simp only [Builtin.firstCells, Sem.run_pure]
    congr 1
    apply Array.ext'
    simp
  · cases h
theorem SrcL_other {h h' : Hp} {sz : Nat} {x : Value} {n : Nat} {cs : List Value} (e : h = h') (hs : SrcL h sz x n cs) : SrcL h' sz x n cs := e ▸ hs
theorem lenV_run {x : Value} {n : Nat} (h : lenV x = some n) (w : World) : (Builtin.lenOf x).run P w = .ok n w := by
  unfold lenV at h
  split at h <;> simp_all [Builtin.lenOf]
theorem srcTy_und (hE : EnvOk P E) {t : TypeId} (h : srcTy E t = true) : (∃ e, P.underlying t = some (.slice e)) ∨ P.underlying t = some .string := by
  unfold srcTy at h
  split at h
  · rename_i hl; exact .inl ⟨_, und_slice (hE.ty _ _ hl)⟩
  · rename_i hl; exact .inr (und_str (hE.ty _ _ hl))
  · cases h
set_option maxHeartbeats 2000000 in
theorem apK_run (hE : EnvOk P E) {t t' e ty : TypeId} {i : TyI} {ls : List Kd} {b : Nat} (h1 : look E.types t = some ⟨.slice e, ls, b⟩) (h2 : look E.types e = some i) (h3 : srcTy E t' = true)
    (hn : i.ty.isTuple = false) {a : Option Addr} {l c : Nat} {x : Value} {w : World} {K : Value → Hp → Prop} (hd : apK w.heap e i a l c x fun a l c h' => K (.slice a l c) h') :
    ∃ v w', (Builtin.append_ #[t, t'] ty #[.slice a l c, x]).run P w = .ok v w' ∧ Same w w' ∧ K v w'.heap := by
  have u1 := und_slice (hE.ty _ _ h1)
  obtain ⟨inf, hi, hs, hb, z, hz, hzc⟩ := zero_of (hE.ty _ _ h2) hn
  have hz' : z.cells = i.zs.toArray := by apply Array.ext'; simpa using hzc
  have hu2 := srcTy_und hE h3
  obtain ⟨n, cs, hlen, hsrc, hin, hout⟩ := hd
  have hlen' := fun w2 => lenV_run (P := P) hlen w2
  by_cases hc : l + n ≤ c
  · have hin := hin hc
    have hsrc' : (Builtin.firstCells inf.size n x).run P w = .ok cs.toArray w := SrcL_run (by rw [hs]; exact hsrc)
    cases a with
    | none =>
      refine ⟨_, w, ?_, Same.refl w, hin⟩
      rcases hu2 with ⟨e2, u2⟩ | u2 <;>
        simp [Builtin.append_, run_und u1, run_und u2, run_size hi, hlen', hc, hsrc']
    | some p =>
      obtain ⟨hst, hk⟩ := hin
      obtain ⟨w', r, s, e'⟩ := run_stores (P := P) hst hsrc.2.1
      refine ⟨_, w', ?_, s, by rw [e']; exact hk⟩
      rw [← hs] at r
      rcases hu2 with ⟨e2, u2⟩ | u2 <;>
        simp [Builtin.append_, run_und u1, run_und u2, run_size hi, hlen', hc, hsrc', r]
  · obtain ⟨g1, g2, g3, old, hold, hk⟩ := hout hc
    have hsrc' : (Builtin.firstCells inf.size n x).run P w.drew = .ok cs.toArray w.drew := SrcL_run (by rw [hs]; exact hsrc)
    have hold' : (Builtin.firstCells inf.size l (.slice a l c)).run P w.drew = .ok old.toArray w.drew := SrcL_run (by rw [hs]; exact hold)
    have hb0 : inf.bytes ≠ 0 := by rw [hb]; omega
    have hg : ¬ 281474976710656 < Builtin.nextslicecap (l + n) c * inf.bytes := by rw [hb]; omega
    obtain ⟨nc, hncd⟩ : ∃ nc, nc = Question.cut (.appendCap (l + n) c e) (w.tape w.drawn (.appendCap (l + n) c e)) := ⟨_, rfl⟩
    have hnc : l + n ≤ nc := by rw [hncd]; simp only [Question.cut]; omega
    have hzz : Builtin.zeroCells z.cells (nc - (l + n)) = (zerosL i.zs (nc - (l + n))).toArray := by
      unfold Builtin.zeroCells
      exact zeros_arr i.zs _ _ (by rw [hz']; simp) _ hz'
    have hf : (Question.appendCap (l + n) c e).forced = false := rfl
    refine ⟨_, w.drew.alloc (.cells (old ++ (cs ++ zerosL i.zs (nc - (l + n)))).toArray e (0, 0)), ?_, ⟨rfl, rfl, rfl⟩, hk nc hnc⟩
    rcases hu2 with ⟨e2, u2⟩ | u2 <;>
      simp [Builtin.append_, run_und u1, run_und u2, run_size hi, hlen', hc, run_info hi, hb0, hg, hold', hsrc', run_zero hi hz, newRow, hzz, hf, ← hncd]
theorem cpK_run (hE : EnvOk P E) {t e ty : TypeId} {ats : List TypeId} {i : TyI} {ls : List Kd} {b : Nat} (h1 : look E.types t = some ⟨.slice e, ls, b⟩) (h2 : look E.types e = some i)
    {a : Option Addr} {l c : Nat} {x : Value} {w : World} {K : Value → Hp → Prop} (hd : cpK w.heap i.leaves.length a l x fun n h' => K (.int .i64 n) h') :
    ∃ v w', (Builtin.copy_ (t :: ats).toArray ty #[.slice a l c, x]).run P w = .ok v w' ∧ Same w w' ∧ K v w'.heap := by
  have u1 := und_slice (hE.ty _ _ h1)
  obtain ⟨inf, hi, hs, _⟩ := info_of (hE.ty _ _ h2)
  obtain ⟨n, cs, hlen, hsrc, hd⟩ := hd
  have hlen' := fun w2 => lenV_run (P := P) hlen w2
  have hsrc' : (Builtin.firstCells inf.size (Nat.min n l) x).run P w = .ok cs.toArray w := SrcL_run (by rw [hs]; exact hsrc)
  have hm : min n l = Nat.min n l := rfl
  cases a with
  | none =>
    refine ⟨_, w, ?_, Same.refl w, hd⟩
    simp [Builtin.copy_, run_und u1, run_size hi, hlen', hsrc', goInt, hm]
  | some p =>
    obtain ⟨hst, hk⟩ := hd
    obtain ⟨w', r, s, e'⟩ := run_stores (P := P) hst hsrc.2.1
    refine ⟨_, w', ?_, s, by rw [e']; exact hk⟩
    simp [Builtin.copy_, run_und u1, run_size hi, hlen', hsrc', goInt, r, hm]
theorem zs_plain (i : TyI) : ∀ v ∈ i.zs, plainV v = true := by
  intro v hv
  obtain ⟨k, _, rfl⟩ := List.mem_map.1 hv
  cases k <;> rfl
theorem zerosL_plain {zs : List Value} (h : ∀ v ∈ zs, plainV v = true) : ∀ n, ∀ v ∈ zerosL zs n, plainV v = true
  | 0, v, hv => by simp [zerosL] at hv
  | n + 1, v, hv => by
    simp only [zerosL, List.mem_append] at hv
    rcases hv with hv | hv
    · exact h v hv
    · exact zerosL_plain h n v hv
theorem clK_run (hE : EnvOk P E) {t e ty : TypeId} {i : TyI} {ls : List Kd} {b : Nat} (h1 : look E.types t = some ⟨.slice e, ls, b⟩) (h2 : look E.types e = some i) (hn : i.ty.isTuple = false)
    {a : Option Addr} {l c : Nat} {w : World} {K : Value → Hp → Prop} (hd : clK w.heap i a l fun h' => K (.tuple #[]) h') :
    ∃ v w', (Builtin.clear_ #[t] ty #[.slice a l c]).run P w = .ok v w' ∧ Same w w' ∧ K v w'.heap := by
  have u1 := und_slice (hE.ty _ _ h1)
  obtain ⟨inf, hi, hs, hb, z, hz, hzc⟩ := zero_of (hE.ty _ _ h2) hn
  have hz' : z.cells = i.zs.toArray := by apply Array.ext'; simpa using hzc
  cases a with
  | none => exact ⟨_, w, by simp [Builtin.clear_, run_und u1], Same.refl w, hd⟩
  | some p =>
    cases l with
    | zero => exact ⟨_, w, by simp [Builtin.clear_, run_und u1], Same.refl w, hd⟩
    | succ l =>
      obtain ⟨hst, hk⟩ := hd
      have hl : (zerosL i.zs (l + 1)).length = (l + 1) * i.leaves.length := by rw [zerosL_length, zs_length]
      obtain ⟨w', r, s, e'⟩ := run_stores (P := P) (vs := zerosL i.zs (l + 1)) (by rw [hl]; exact hst) (zerosL_plain (zs_plain i) _)
      have hzz : Builtin.zeroCells z.cells (l + 1) = (zerosL i.zs (l + 1)).toArray := by
        unfold Builtin.zeroCells
        exact zeros_arr i.zs _ _ (by rw [hz']; simp) _ hz'
      refine ⟨_, w', ?_, s, by rw [e']; exact hk⟩
      simp [Builtin.clear_, run_und u1, run_zero hi hz, hzz, r]
theorem mkK_run (hE : EnvOk P E) {t e : TypeId} {i : TyI} {ls : List Kd} {b : Nat} (h1 : look E.types t = some ⟨.slice e, ls, b⟩) (h2 : look E.types e = some i) (hn : i.ty.isTuple = false)
    {k k' : IntKind} {n m : Int} {w : World} {K : Value → Hp → Prop} (hd : mkK w.heap e i n m fun p h' => K (.slice (some p) n.toNat m.toNat) h') :
    ∃ v w', (Instr.makeSlice t (.int k n) (.int k' m)).run P w = .ok v w' ∧ Same w w' ∧ K v w'.heap := by
  have u1 := und_slice (hE.ty _ _ h1)
  obtain ⟨inf, hi, hs, hb, z, hz, hzc⟩ := zero_of (hE.ty _ _ h2) hn
  have hz' : z.cells = i.zs.toArray := by apply Array.ext'; simpa using hzc
  obtain ⟨⟨g0, g1, g2, g3⟩, hk⟩ := hd
  have hm : m ≤ 281474976710656 := by
    have : (1 : Int) * m ≤ (i.bytes : Int) * m := Int.mul_le_mul_of_nonneg_right (by omega) (by omega)
    omega
  have hbn : ¬ (i.bytes : Int) * n > 281474976710656 := by
    have : (i.bytes : Int) * n ≤ (i.bytes : Int) * m := Int.mul_le_mul_of_nonneg_left g1 (by omega)
    omega
  have wn : IntKind.i64.wrap n = n := by simp [IntKind.wrap, IntKind.bits, IntKind.signed]; omega
  have wm : IntKind.i64.wrap m = m := by simp [IntKind.wrap, IntKind.bits, IntKind.signed]; omega
  have hzz : ∀ y : Array Value, (m.toNat * inf.size ≠ 0 → y = z.cells) → (Array.range (m.toNat * inf.size)).map (fun j => y[j % y.size]!) = (zerosL i.zs m.toNat).toArray := by
    intro y hy
    exact zeros_arr0 i.zs _ _ (by rw [hs, zs_length]) _ fun h => by rw [hy h, hz']
  refine ⟨_, { w with heap := w.heap.push (.cells (zerosL i.zs m.toNat).toArray e (0, 0)) }, ?_, ⟨rfl, rfl, rfl⟩, hk⟩
  have c1 : ¬ m < 0 := by omega
  have c2 : ¬ (281474976710656 : Int) < (inf.bytes : Int) * m := by rw [hb]; omega
  have c3 : ¬ n < 0 := by omega
  have c4 : ¬ n > m := by omega
  have c4' : ¬ m < n := by omega
  by_cases h0 : m.toNat * inf.size = 0
  · have hzz' := hzz #[] (fun h => absurd h0 h)
    rw [h0] at hzz'
    have hzz2 : (zerosL i.zs m.toNat).toArray = #[] := by rw [← hzz']; simp
    simp only [Instr.makeSlice, Sem.run_bind, run_und u1, Result.andThen, Go.asInt, asIntOf, Sem.run_pure, run_info hi, wn, wm]
    simp [c1, c2, c3, c4, c4', run_size hi, h0, newRow, hzz2, Array.range_zero']
  · have hzz' := hzz z.cells (fun _ => rfl)
    simp only [Instr.makeSlice, Sem.run_bind, run_und u1, Result.andThen, Go.asInt, asIntOf, Sem.run_pure, run_info hi, wn, wm]
    simp [c1, c2, c3, c4, c4', run_size hi, h0, run_zero hi hz, newRow, hzz']
def RunsTo (P : Program) (o : Oper) (a : Act) (w : World) (v : Value) : Prop := (execOp a.eval o).run P w = .ok (.value v) w
def QuietTo (P : Program) (o : Oper) (a : Act) (w : World) (v : Value) : Prop :=
  ∃ f args, (execOp a.eval o).run P w = .ok (.enter f args) w ∧ Calls P f args w (fun e w' => e = .returned v ∧ Same w w' ∧ w'.heap = w.heap)
def ActTo (P : Program) (o : Oper) (a : Act) (w : World) (N : Value → Hp → Prop) : Prop :=
  (∃ v w', (execOp a.eval o).run P w = .ok (.value v) w' ∧ Same w w' ∧ N v w'.heap) ∨
  (∃ w', (execOp a.eval o).run P w = .ok .skip w' ∧ Same w w' ∧ N undef w'.heap) ∨
  (∃ f args, (execOp a.eval o).run P w = .ok (.enter f args) w ∧ Calls P f args w (fun e w' => ∃ v, e = .returned v ∧ Same w w' ∧ N v w'.heap))
theorem ActTo.mono {o : Oper} {a : Act} {w : World} {N N' : Value → Hp → Prop} (hn : ∀ v h, N v h → N' v h) (h : ActTo P o a w N) : ActTo P o a w N' := by
  rcases h with ⟨v, w', r, s, k⟩ | ⟨w', r, s, k⟩ | ⟨f, args, r, c⟩
  · exact .inl ⟨v, w', r, s, hn _ _ k⟩
  · exact .inr (.inl ⟨w', r, s, hn _ _ k⟩)
  · exact .inr (.inr ⟨f, args, r, c.mono fun _ _ ⟨v, e, s, k⟩ => ⟨v, e, s, hn _ _ k⟩⟩)
theorem ActTo.some {o : Oper} {a : Act} {w : World} {N : Value → Hp → Prop} (h : ActTo P o a w N) : ∃ v h', N v h' := by
  rcases h with ⟨v, w', r, s, k⟩ | ⟨w', r, s, k⟩ | ⟨f, args, r, c⟩
  · exact ⟨v, _, k⟩
  · exact ⟨_, _, k⟩
  · obtain ⟨e, w', fr, ⟨v, _, _, k⟩, _⟩ := c []
    exact ⟨v, _, k⟩
theorem ActTo.wp {o : Oper} {a : Act} {w : World} {N : Value → Hp → Prop} (h : ActTo P o a w N) {next : Act → World → Prop} {Q : Exit → Act → World → Prop}
    (hn : ∀ v w', Same w w' → N v w'.heap → next (a.put o.dst v) w') : o.wp P a w next Q := by
  unfold Oper.wp
  rcases h with ⟨v, w', r, s, k⟩ | ⟨w', r, s, k⟩ | ⟨f, args, r, c⟩
  · rw [r]; exact hn v w' s k
  · rw [r]; exact hn _ w' s k
  · rw [r, Oper.upon_enter]
    refine c.mono ?_
    rintro e w' ⟨v, rfl, s, k⟩
    exact hn v w' s k
theorem dAct_to (hE : EnvOk P E) {o : Oper} {fr : Fr} {a : Act} (hev : a.eval = ev fr) {w : World} {K : Value → Hp → Prop} (hd : dAct P E o.op o.type fr w.heap K) : ActTo P o a w K := by
  have value : ∀ v w', (execOp (ev fr) o).run P w = .ok (.value v) w' → Same w w' → K v w'.heap → ActTo P o a w K := by
    intro v w' hr s k
    exact .inl ⟨v, w', by rw [hev]; exact hr, s, k⟩
  obtain ⟨dst, op, type, pos, after, guard⟩ := o
  simp only at hd
  cases op with
  | store t x v =>
    simp only [dAct] at hd
    split at hd
    · rename_i q i hx hl
      obtain ⟨inf, hi, hs, _⟩ := info_of (hE.ty _ _ hl)
      have run : ∀ w', (storeCells q (ev fr v).cells.toList).run P w = .ok () w' → (ev fr v).cells.size = inf.size → Same w w' → K undef w'.heap → ActTo P ⟨dst, .store t x v, type, pos, after, guard⟩ a w K := by
        intro w' hr hsz s k
        refine .inr (.inl ⟨w', ?_, s, k⟩)
        rw [hev]
        simp [execOp, hx, Instr.storeAt, Instr.sureAddr, storeVar, run_size hi, hsz, hr]
      unfold dStore at hd
      split at hd
      · rename_i cs hv
        cases hb : Nat.beq cs.toList.length i.leaves.length with
        | false => rw [hb] at hd; cases hd
        | true =>
          rw [hb] at hd
          simp only [cond_true] at hd
          obtain ⟨w', r, s, k⟩ := stLs_run (P := P) hd
          have := Nat.eq_of_beq_eq_true hb
          exact run w' (by rw [hv]; exact r) (by rw [hv, hs, ← this]; simp [Value.cells]) s k
      · cases hd
      · rename_i v' hn1 hn2
        cases hb : Nat.beq 1 i.leaves.length with
        | false => rw [hb] at hd; cases hd
        | true =>
          rw [hb] at hd
          simp only [cond_true] at hd
          obtain ⟨⟨g1, g2⟩, g3⟩ := hd
          have hp : plainV (ev fr v) = true := by
            cases e : ev fr v <;> first | rfl | exact absurd e (hn1 _) | exact absurd e (hn2 _)
          have hc : (ev fr v).cells = #[ev fr v] := by
            cases e : ev fr v <;> first | rfl | exact absurd e (hn1 _) | exact absurd e (hn2 _)
          have hr := run_store1 (P := P) g1 g2 hp
          have := Nat.eq_of_beq_eq_true hb
          exact run (w.setCell q (ev fr v)) (by rw [hc]; simp [storeCells, add_zero, hr]) (by rw [hc, hs, ← this]; rfl) ⟨rfl, rfl, rfl⟩ g3
    · cases hd
  | box e v =>
    simp only [dAct, boxK] at hd
    refine value _ { w with heap := w.heap.push (.cells (ev fr v).cells e (0, 0)) } ?_ ⟨rfl, rfl, rfl⟩ hd
    simp [execOp, Instr.box, newVar, newRow]
  | alloc e =>
    simp only [dAct] at hd
    split at hd
    · cases hd
    · rename_i i hnt hl
      have hnt' : i.ty.isTuple = false := by
        obtain ⟨ty, ls, b⟩ := i
        cases ty <;> first | rfl | exact absurd rfl (hnt _ _ _)
      obtain ⟨inf, hi, hs, hb, z, hz, hzc⟩ := zero_of (hE.ty _ _ hl) hnt'
      have hz' : z.cells = i.zs.toArray := by apply Array.ext'; simpa using hzc
      refine value _ { w with heap := w.heap.push (.cells i.zs.toArray e (0, 0)) } ?_ ⟨rfl, rfl, rfl⟩ hd
      simp [execOp, Instr.alloc, newVar, newRow, run_zero hi hz, hz']
    · cases hd
  | makeSlice t l c =>
    simp only [dAct] at hd
    split at hd
    · rename_i e ls b kk n kk' m hl h2 h3
      split at hd
      · cases hd
      · rename_i i hnt hle
        have hnt' : i.ty.isTuple = false := by
          obtain ⟨ty, ls, b⟩ := i
          cases ty <;> first | rfl | exact absurd rfl (hnt _ _ _)
        obtain ⟨v, w', r, s, k⟩ := mkK_run (P := P) (k := kk) (k' := kk') hE hl hle hnt' hd
        refine value v w' ?_ s k
        simp [execOp, h2, h3, r]
      · cases hd
    · cases hd
  | buildSlice t n parts =>
    simp only [dAct] at hd
    split at hd
    · rename_i e ls b hl
      split at hd
      · cases hd
      · rename_i i hnt hle
        have hnt' : i.ty.isTuple = false := by
          obtain ⟨ty, ls, b⟩ := i
          cases ty <;> first | rfl | exact absurd rfl (hnt _ _ _)
        cases hbl : Nat.ble (n * i.leaves.length) 16777216 with
        | false => rw [hbl] at hd; cases hd
        | true =>
          rw [hbl] at hd
          simp only [cond_true] at hd
          split at hd
          · rename_i cells hc
            have u1 := und_slice (hE.ty _ _ hl)
            obtain ⟨inf, hi, hs, hb, z, hz, hzc⟩ := zero_of (hE.ty _ _ hle) hnt'
            have hz' : z.cells = i.zs.toArray := by apply Array.ext'; simpa using hzc
            have hle' := Nat.le_of_ble_eq_true hbl
            have hfill := fill_of (placeM := fun j => some (j * inf.size, inf.size)) (fun j => by rw [hs]) _ _ _ hc
            refine value _ { w with heap := w.heap.push (.cells cells.toArray e (0, 0)) } ?_ ⟨rfl, rfl, rfl⟩ hd
            have hlim : ¬ n * inf.size > 2 ^ 24 := by rw [hs]; omega
            have hpp : (Array.map (fun (x : Nat × Operand) => match x with | (i, x) => (i, ev fr x)) parts).toList = parts.toList.map fun (i, x) => (i, ev fr x) := by simp
            have hzz : ∀ y : Array Value, (n * inf.size ≠ 0 → y = z.cells) → (Array.range (n * inf.size)).map (fun j => y[j % y.size]!) = (zerosL i.zs n).toArray := by
              intro y hy
              exact zeros_arr0 i.zs _ _ (by rw [hs, zs_length]) _ fun h => by rw [hy h, hz']
            by_cases h0 : n * inf.size = 0
            · have hzz' := hzz #[] (fun h => absurd h0 h)
              have hl0 : ¬ (0 : Nat) > 2 ^ 24 := by decide
              rw [h0] at hzz'
              simp only [execOp, Sem.run_bind, Instr.buildSlice, run_und u1, Result.andThen, run_size hi, h0, if_neg hl0, if_true, Sem.run_pure, hzz', hpp, hfill]
              rfl
            · have hzz' := hzz z.cells (fun _ => rfl)
              simp only [execOp, Sem.run_bind, Instr.buildSlice, run_und u1, Result.andThen, run_size hi, if_neg hlim, h0, if_false, Sem.run_pure, run_zero hi hz]
              simp only [hzz', hpp, hfill]
              rfl
          · cases hd
      · cases hd
    · cases hd
  | call c =>
    obtain ⟨callee, ⟨args⟩, ⟨ats⟩⟩ := c
    simp only [dAct] at hd
    split at hd
    · -- append
      split at hd
      · rename_i s x t t'
        cases hsrc : srcTy E t' with
        | false => rw [hsrc] at hd; cases hd
        | true =>
          rw [hsrc] at hd
          simp only [cond_true] at hd
          split at hd
          · rename_i e ls b a0 l cp hl hs
            split at hd
            · cases hd
            · rename_i i hnt hle
              have hnt' : i.ty.isTuple = false := by
                obtain ⟨ty, ls, b⟩ := i
                cases ty <;> first | rfl | exact absurd rfl (hnt _ _ _)
              obtain ⟨v, w', r, s', k⟩ := apK_run (P := P) (ty := type) hE hl hle hsrc hnt' hd
              refine value v w' ?_ s' k
              simp [execOp, resolve, invoke, builtin, hs, r]
            · cases hd
          · cases hd
      · cases hd
    · -- copy
      split at hd
      · rename_i d x t ts
        split at hd
        · rename_i e ls b a0 l cp hl hs
          split at hd
          · cases hd
          · rename_i i hnt hle
            obtain ⟨v, w', r, s', k⟩ := cpK_run (P := P) (ty := type) (ats := ts) (c := cp) hE hl hle hd
            refine value v w' ?_ s' k
            simp [execOp, resolve, invoke, builtin, hs, r]
          · cases hd
        · cases hd
      · cases hd
    · -- clear
      split at hd
      · rename_i d t
        split at hd
        · rename_i e ls b a0 l cp hl hs
          split at hd
          · cases hd
          · rename_i i hnt hle
            have hnt' : i.ty.isTuple = false := by
              obtain ⟨ty, ls, b⟩ := i
              cases ty <;> first | rfl | exact absurd rfl (hnt _ _ _)
            obtain ⟨v, w', r, s', k⟩ := clK_run (P := P) (ty := type) (c := cp) hE hl hle hnt' hd
            refine value v w' ?_ s' k
            simp [execOp, resolve, invoke, builtin, hs, r]
          · cases hd
        · cases hd
      · cases hd
    · -- a Go function
      rename_i f
      split at hd
      · rename_i hl
        obtain ⟨fn, hf, hn1, hb, _⟩ := fn_facts hE hl
        have hb := hb (.inl rfl)
        have hrun : (execOp (ev fr) ⟨dst, .call ⟨.value (.func f), ⟨args⟩, ⟨ats⟩⟩, type, pos, after, guard⟩).run P w = .ok (.enter f (args.map (ev fr)).toArray) w := by
          have hname : ¬ fn.name = "runtime.NumGoroutine" := by simpa using hn1
          have hbody : ¬ fn.body = none := by intro e; rw [e] at hb; cases hb
          simp [execOp, resolve, Deferred.ofValue, ev, invoke, callFunc, hf, hname, hbody]
        refine .inr (.inr ⟨f, _, by rw [hev]; exact hrun, (hd w rfl).mono ?_⟩)
        rintro e w' ⟨v, rfl, s, k⟩
        exact ⟨v, rfl, s, asTy_elim k⟩
      · cases hd
    · cases hd
  | _ => exact hd.elim
end
end Go.Gv
