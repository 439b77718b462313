/- Gv, part 2: 'den' is sound: what it says of a body, the machine does. -/
import Derived.Test.YtaglonbkdcmmpaaGvCore
import Derived.Laws.Externs
import Derived.Laws.Append
import Derived.Laws.Slices
import Derived.Laws.Entries
import Derived.WalkSpells
namespace Go.Gv
set_option linter.unusedVariables false
set_option linter.unusedSimpArgs false

/-! ### facts of the environment -/
/-- A row of the machine's own behind a function without a body. -/
def extP (P : Program) (f : FuncId) : Fk → Prop
  | .body | .quiet => True
  | .add64 => ∃ fn, P.funcs[f]? = some fn ∧ Extern.findNext fn = none ∧ Extern.find fn = some add64Entry
  | .sub64 => ∃ fn, P.funcs[f]? = some fn ∧ Extern.findNext fn = none ∧ Extern.find fn = some sub64Entry
structure EnvOk (P : Program) (E : Env) : Prop where
  ty : ∀ t i, look E.types t = some i → tyB P t i = true
  fn : ∀ f k, look E.fns f = some k → fnB P f k = true
  ext : ∀ f k, look E.fns f = some k → extP P f k
  mixed : P.follows .mixedOrders = true
  arr : ∀ t p, look E.arrs t = some p → P.underlying t = some (.array p.1 p.2)
def Fk.isExt : Fk → Bool
  | .body | .quiet => false
  | _ => true
theorem ext_of {P : Program} {l : List (Nat × Fk)} {r : List (Nat × Fk)} (e : l.filter (fun p => p.2.isExt) = r) (h : ∀ p ∈ r, extP P p.1 p.2) : ∀ p ∈ l, extP P p.1 p.2 := by
  intro p hp
  obtain ⟨f, k⟩ := p
  cases k with
  | body => trivial
  | quiet => trivial
  | add64 => exact h (f, .add64) (by rw [← e]; exact List.mem_filter.2 ⟨hp, rfl⟩)
  | sub64 => exact h (f, .sub64) (by rw [← e]; exact List.mem_filter.2 ⟨hp, rfl⟩)
theorem EnvOk.mk' {P : Program} {E : Env} (h : envB P E = true) (hx : ∀ p ∈ E.fns, extP P p.1 p.2) (hm : P.follows .mixedOrders = true) : EnvOk P E := by
  simp only [envB, Bool.and_eq_true, List.all_eq_true] at h
  refine ⟨fun t i hi => h.1.1 (t, i) (look_mem hi), fun f k hk => h.1.2 (f, k) (look_mem hk), fun f k hk => hx (f, k) (look_mem hk), hm, fun t p hp => ?_⟩
  have := h.2 (t, p) (look_mem hp)
  unfold arrB at this
  split at this
  · rename_i n e hu
    simp only [Bool.and_eq_true] at this
    rw [hu, Nat.eq_of_beq_eq_true this.1, Nat.eq_of_beq_eq_true this.2]
  · cases this

section facts
variable {P : Program} {t e : TypeId} {ls : List Kd} {b : Nat}
theorem undB_of {i : TyI} (h : tyB P t i = true) : undB (P.underlying t) i.ty = true := by
  simp only [tyB, Bool.and_eq_true] at h; exact h.1
theorem und_int {k : IntKind} (h : tyB P t ⟨.int k, ls, b⟩ = true) : P.underlying t = some (.int k) := by
  have h' := undB_of h
  simp only at h'
  unfold undB at h'
  split at h' <;> simp_all
  exact kEq_eq h'
theorem und_bool (h : tyB P t ⟨.bool, ls, b⟩ = true) : P.underlying t = some .bool := by
  have h' := undB_of h
  simp only at h'
  unfold undB at h'
  split at h' <;> simp_all
theorem und_str (h : tyB P t ⟨.str, ls, b⟩ = true) : P.underlying t = some .string := by
  have h' := undB_of h
  simp only at h'
  unfold undB at h'
  split at h' <;> simp_all
theorem und_slice (h : tyB P t ⟨.slice e, ls, b⟩ = true) : P.underlying t = some (.slice e) := by
  have h' := undB_of h
  simp only at h'
  unfold undB at h'
  split at h' <;> simp_all
theorem und_ptr (h : tyB P t ⟨.ptr e, ls, b⟩ = true) : P.underlying t = some (.pointer e) := by
  have h' := undB_of h
  simp only at h'
  unfold undB at h'
  split at h' <;> simp_all
theorem und_struct {fs : List (Nat × TypeId)} (h : tyB P t ⟨.struct fs, ls, b⟩ = true) : ∃ fs', P.underlying t = some (.struct fs') ∧ fs'.toList.map (fun f => (f.offset, f.type)) = fs := by
  have h' := undB_of h
  simp only at h'
  unfold undB at h'
  split at h' <;> simp_all
theorem und_some {i : TyI} (h : tyB P t i = true) : ∃ d, P.underlying t = some d := by
  have h' := undB_of h
  cases hu : P.underlying t with
  | none => rw [hu] at h'; cases i.ty <;> simp [undB] at h'
  | some d => exact ⟨d, rfl⟩
def Ty.isTuple : Ty → Bool
  | .tuple _ => true
  | _ => false
def Ty.isStruct : Ty → Bool
  | .struct _ => true
  | _ => false
theorem info_of {i : TyI} (h : tyB P t i = true) : ∃ inf, P.info? t = some inf ∧ inf.size = i.leaves.length ∧ inf.bytes = i.bytes := by
  simp only [tyB, Bool.and_eq_true] at h
  obtain ⟨_, h⟩ := h
  split at h
  · rename_i inf hi
    simp only [Bool.and_eq_true] at h
    exact ⟨inf, hi, Nat.eq_of_beq_eq_true h.1.1, Nat.eq_of_beq_eq_true h.1.2⟩
  · simp at h
theorem zero_of {i : TyI} (h : tyB P t i = true) (hn : i.ty.isTuple = false) :
    ∃ inf, P.info? t = some inf ∧ inf.size = i.leaves.length ∧ inf.bytes = i.bytes ∧ ∃ z, inf.zero = some z ∧ z.cells.toList = i.zs := by
  simp only [tyB, Bool.and_eq_true] at h
  obtain ⟨_, h⟩ := h
  split at h
  · rename_i inf hi
    simp only [Bool.and_eq_true] at h
    obtain ⟨⟨h1, h2⟩, h3⟩ := h
    split at h3
    · rename_i e; rw [e] at hn; simp [Ty.isTuple] at hn
    · split at h3
      · rename_i z hz
        exact ⟨inf, hi, Nat.eq_of_beq_eq_true h1, Nat.eq_of_beq_eq_true h2, z, hz, zerosB_eq h3⟩
      · simp at h3
  · simp at h
theorem und_scalar {i : TyI} (h : tyB P t i = true) (hs : i.ty.isStruct = false) : ∃ d, P.underlying t = some d ∧ (∀ fs, d ≠ .struct fs) ∧ (∀ n e, d ≠ .array n e) := by
  have h' := undB_of h
  cases hu : P.underlying t with
  | none => rw [hu] at h'; cases i.ty <;> simp [undB] at h'
  | some d =>
    rw [hu] at h'
    refine ⟨d, rfl, ?_, ?_⟩
    · rintro fs rfl
      cases ht : i.ty <;> rw [ht] at h' hs <;> simp [undB, Ty.isStruct] at h' hs
    · rintro n e rfl
      cases ht : i.ty <;> rw [ht] at h' hs <;> simp [undB, Ty.isStruct] at h' hs
end facts

section runs
variable {P : Program} {t : TypeId}
theorem run_und {d : TypeDesc} (h : P.underlying t = some d) (w : World) : (underlying t).run P w = .ok d w := run_underlying h w
theorem run_size {inf : TypeInfo} (h : P.info? t = some inf) (w : World) : (sizeOf t).run P w = .ok inf.size w := by simp [sizeOf, typeInfo, h]
theorem run_info {inf : TypeInfo} (h : P.info? t = some inf) (w : World) : (typeInfo t).run P w = .ok inf w := by simp [typeInfo, h]
theorem run_zero {inf : TypeInfo} {z : Value} (h : P.info? t = some inf) (hz : inf.zero = some z) (w : World) : (zeroValue t).run P w = .ok z w := by simp [zeroValue, typeInfo, h, hz]
theorem run_isAgg_no {i : TyI} (h : tyB P t i = true) (hs : i.ty.isStruct = false) (w : World) : (isAgg t).run P w = .ok false w := by
  obtain ⟨d, hd, h1, h2⟩ := und_scalar h hs
  unfold isAgg
  rw [Sem.run_bind, run_und hd]
  cases d <;> first | rfl | exact absurd rfl (h1 _) | exact absurd rfl (h2 _ _)
theorem run_isAgg_yes {fs : List (Nat × TypeId)} {ls : List Kd} {b : Nat} (h : tyB P t ⟨.struct fs, ls, b⟩ = true) (w : World) : (isAgg t).run P w = .ok true w := by
  obtain ⟨fs', hd, _⟩ := und_struct h
  unfold isAgg
  rw [Sem.run_bind, run_und hd]
  rfl
theorem run_loads : ∀ (vs : List Value) (q : Addr) (i : Nat) (acc : Array Value) (w : World), RdL w.heap q i vs → (loadCellsFrom q i vs.length acc).run P w = .ok (acc ++ vs.toArray) w
  | [], q, i, acc, w, _ => by simp [loadCellsFrom]
  | v :: vs, q, i, acc, w, h => by
    have h0 : w.cell? (q.add i) = some v := h.1
    have ih := run_loads vs q (i + 1) (acc.push v) w h.2
    simp only [List.length_cons, loadCellsFrom, Sem.run_bind, run_load, h0, Result.andThen, ih]
    simp
theorem plainV_one {v : Value} (h : plainV v = true) : v.oneCell' = true := by cases v <;> first | rfl | cases h
theorem run_store1 {q : Addr} {v : Value} {w : World} (h1 : ∃ o, cellH w.heap q = some o) (h2 : frozenH w.heap q = false) (hp : plainV v = true) : (store q v).run P w = .ok () (w.setCell q v) := by
  obtain ⟨o, ho⟩ := h1
  have e1 : w.cell? q = some o := ho
  have e2 : w.frozen? q = false := h2
  rw [run_store P w q v _ (plainV_one hp), e1]
  simp [e2]
end runs

/-! ### values -/
theorem gBool_elim {v : Value} {K : Bool → Prop} (h : gBool v K) : ∃ b, v = .bool b ∧ K b := by
  cases v <;> first | exact ⟨_, rfl, h⟩ | cases h
theorem gInt_elim {k : IntKind} {v : Value} {K : Int → Prop} (h : gInt k v K) : ∃ n, v = .int k n ∧ K n := by
  cases v with
  | int k' n =>
    unfold gInt at h
    cases e : kEq k k' with
    | false => simp [e] at h
    | true => simp [e] at h; obtain rfl := kEq_eq e; exact ⟨n, rfl, h⟩
  | _ => cases h
theorem gStr_elim {v : Value} {K : ByteArray → Prop} (h : gStr v K) : ∃ s, v = .string s ∧ K s := by
  cases v <;> first | exact ⟨_, rfl, h⟩ | cases h
theorem gSlice_elim {v : Value} {K : Option Addr → Nat → Nat → Prop} (h : gSlice v K) : ∃ a l c, v = .slice a l c ∧ K a l c := by
  cases v <;> first | exact ⟨_, _, _, rfl, h⟩ | cases h
theorem gPtr_elim {v : Value} {K : Option Addr → Prop} (h : gPtr v K) : ∃ a, v = .pointer a ∧ K a := by
  cases v <;> first | exact ⟨_, rfl, h⟩ | cases h
theorem asLeaf_elim {k : Kd} {v : Value} {K : Value → Prop} (h : asLeaf k v K) : K v ∧ plainV v = true := by
  cases k with
  | int k => obtain ⟨n, e, g⟩ := gInt_elim (show gInt k v _ from h); subst e; exact ⟨g, rfl⟩
  | bool => obtain ⟨n, e, g⟩ := gBool_elim (show gBool v _ from h); subst e; exact ⟨g, rfl⟩
  | str => obtain ⟨n, e, g⟩ := gStr_elim (show gStr v _ from h); subst e; exact ⟨g, rfl⟩
  | slice => obtain ⟨a, l, c, e, g⟩ := gSlice_elim (show gSlice v _ from h); subst e; exact ⟨g, rfl⟩
  | ptr => obtain ⟨n, e, g⟩ := gPtr_elim (show gPtr v _ from h); subst e; exact ⟨g, rfl⟩
theorem uncons_elim {l : List Value} {K : Value → List Value → Prop} (h : uncons l K) : ∃ v vs, l = v :: vs ∧ K v vs := by
  cases l <;> first | exact ⟨_, _, rfl, h⟩ | cases h
theorem unnil_elim {l : List Value} {K : Prop} (h : unnil l K) : l = [] ∧ K := by
  cases l <;> first | exact ⟨rfl, h⟩ | cases h
theorem asLeaves_elim : ∀ {ks : List Kd} {l : List Value} {K : List Value → Prop}, asLeaves ks l K → K l
  | [], l, K, h => by obtain ⟨e, g⟩ := unnil_elim h; subst e; exact g
  | k :: ks, l, K, h => by
    obtain ⟨v, vs, e, g⟩ := uncons_elim h
    subst e
    exact asLeaves_elim (K := fun vs' => K (v :: vs')) (asLeaf_elim g).1
theorem gAgg_elim {v : Value} {K : List Value → Prop} (h : gAgg v K) : ∃ cs, v = .agg cs ∧ K cs.toList := by
  cases v <;> first | exact ⟨_, rfl, h⟩ | cases h
theorem gTup_elim {v : Value} {K : List Value → Prop} (h : gTup v K) : ∃ cs, v = .tuple cs ∧ K cs.toList := by
  cases v <;> first | exact ⟨_, rfl, h⟩ | cases h
theorem asOne_elim {i : TyI} {v : Value} {K : Value → Prop} (h : asOne i v K) : K v := by
  unfold asOne at h
  split at h
  · obtain ⟨cs, e, g⟩ := gAgg_elim h
    subst e
    have := asLeaves_elim g
    simpa using this
  · split at h
    · exact (asLeaf_elim h).1
    · cases h
theorem asParts_elim {E : Env} : ∀ {ts : List TypeId} {l : List Value} {K : List Value → Prop}, asParts E ts l K → K l
  | [], l, K, h => by obtain ⟨e, g⟩ := unnil_elim h; subst e; exact g
  | t :: ts, l, K, h => by
    obtain ⟨v, vs, e, g⟩ := uncons_elim h
    subst e
    split at g
    · exact asParts_elim (K := fun vs' => K (v :: vs')) (asOne_elim g)
    · cases g
theorem asTy_elim {E : Env} {t : TypeId} {v : Value} {K : Value → Prop} (h : asTy E t v K) : K v := by
  unfold asTy at h
  split at h
  · split at h
    · obtain ⟨cs, e, g⟩ := gTup_elim h
      subst e
      have := asParts_elim g
      simpa using this
    · exact asOne_elim h
  · cases h

/-! ### operations that leave the heap alone -/
section still
variable {P : Program} {E : Env}
theorem dIntOp_run {op : BinOp} {k : IntKind} {a b : Int} {K : Value → Prop} {t : TypeId} (h : dIntOp op k a b K) (h1 : op ≠ .shl) (h2 : op ≠ .shr) :
    ∃ v, K v ∧ ∀ w, (binOp op t (.int k a) (.int k b)).run P w = .ok v w := by
  cases op with
  | shl => exact absurd rfl h1
  | shr => exact absurd rfl h2
  | add => exact ⟨_, h.out, fun w => by simp [binOp, Op.intArith]⟩
  | sub => exact ⟨_, h.out, fun w => by simp [binOp, Op.intArith]⟩
  | mul => exact ⟨_, h.out, fun w => by simp [binOp, Op.intArith]⟩
  | quo => exact ⟨_, h.2.out, fun w => by simp [binOp, Op.intDiv, h.1]⟩
  | rem => exact ⟨_, h.2.out, fun w => by simp [binOp, Op.intDiv, h.1]⟩
  | and => exact ⟨_, h.out, fun w => by rw [binOp_and]; rfl⟩
  | or => exact ⟨_, h.out, fun w => by rw [binOp_or]; rfl⟩
  | xor => exact ⟨_, h.out, fun w => by rw [binOp_xor]; rfl⟩
  | andNot => exact ⟨_, h.out, fun w => by rw [binOp_andNot]; rfl⟩
  | eql => exact ⟨_, h, fun w => by rw [binOp_eql]; rfl⟩
  | neq => exact ⟨_, h, fun w => by rw [binOp_neq]; rfl⟩
  | lss => exact ⟨_, h, fun w => by rw [binOp_lss]; rfl⟩
  | leq => exact ⟨_, h, fun w => by rw [binOp_leq]; rfl⟩
  | gtr => exact ⟨_, h, fun w => by rw [binOp_gtr]; rfl⟩
  | geq => exact ⟨_, h, fun w => by rw [binOp_geq]; rfl⟩
theorem run_equalBool {t : TypeId} (h : P.underlying t = some .bool) (a b : Bool) (w : World) : (Op.equal t (.bool a) (.bool b)).run P w = .ok (a == b) w := by
  have hm : Op.maxDepth = 9999 + 1 := rfl
  rw [Op.equal, hm, Op.equalIn, Sem.run_bind, run_und h]
  rfl
theorem run_equalNil {t e : TypeId} (h : P.underlying t = some (.slice e)) (a : Option Addr) (l c l' c' : Nat) (w : World) : (Op.equal t (.slice a l c) (.slice none l' c')).run P w = .ok a.isNone w := by
  have hm : Op.maxDepth = 9999 + 1 := rfl
  rw [Op.equal, hm, Op.equalIn, Sem.run_bind, run_und h]
  cases a <;> rfl
theorem dBin_run (hE : EnvOk P E) {op : BinOp} {t : TypeId} {X Y : Operand} {x y : Value} {K : Value → Prop} (h : dBin E op t x y K) :
    ∃ v, K v ∧ ∀ w, (do eqGuard op t X Y x y; binOp op t x y : Sem Value).run P w = .ok v w := by
  unfold dBin at h
  split at h
  · rename_i k a k' b
    have hg : eqGuard op t X Y (.int k a) (.int k' b) = pure () := eqGuard_at_int ..
    split at h
    · exact ⟨_, h.2.out, fun w => by
        rw [hg]
        have : ¬ b < 0 := by omega
        simp [binOp, Op.shift, shlI, this]⟩
    · exact ⟨_, h.2.out, fun w => by
        rw [hg]
        have : ¬ b < 0 := by omega
        simp [binOp, Op.shift, shrI, this]⟩
    · rename_i h1 h2
      cases e : kEq k k' with
      | false => simp [e] at h
      | true =>
        simp only [e, cond_true] at h
        obtain rfl := kEq_eq e
        obtain ⟨v, hv, hr⟩ := dIntOp_run (P := P) (t := t) h h1 h2
        exact ⟨v, hv, fun w => by rw [hg]; simp [hr w]⟩
  · rename_i a b
    have hg : eqGuard op t X Y (.string a) (.string b) = pure () := eqGuard_at_string ..
    split at h
    · refine ⟨_, h.2, fun w => ?_⟩
      rw [hg]
      have h1 : ¬ ((a.size + b.size : Nat) : Int) > IntKind.i64.max := by rw [IntKind.max_i64]; omega
      simp only [binOp, Op.stringOp, pure_bind]
      rw [if_neg h1]
      rfl
    · exact ⟨_, h, fun w => by rw [hg]; simp [binOp, Op.stringOp]⟩
    · exact ⟨_, h, fun w => by rw [hg]; simp [binOp, Op.stringOp]⟩
    · cases h
  · rename_i a b
    have hg : eqGuard op t X Y (.bool a) (.bool b) = pure () := eqGuard_at_bool ..
    split at h
    · rename_i ls by_ hl
      have hu := und_bool (hE.ty _ _ hl)
      split at h
      · exact ⟨_, h, fun w => by rw [hg]; simp [binOp, run_equalBool hu]⟩
      · exact ⟨_, h, fun w => by rw [hg]; simp [binOp, run_equalBool hu]⟩
      · cases h
    · cases h
  · rename_i a l c l' c'
    have hg : eqGuard op t X Y (.slice a l c) (.slice none l' c') = pure () := eqGuard_at_slice ..
    split at h
    · rename_i e ls by_ hl
      have hu := und_slice (hE.ty _ _ hl)
      split at h
      · exact ⟨_, h, fun w => by rw [hg]; simp [binOp, run_equalNil hu]⟩
      · exact ⟨_, h, fun w => by rw [hg]; simp [binOp, run_equalNil hu]⟩
      · cases h
    · cases h
  · cases h
theorem dUn_run {op : UnOp} {x : Value} {K : Value → Prop} (h : dUn op x K) : ∃ v, K v ∧ ∀ w, (Op.unary op x).run P w = .ok v w := by
  unfold dUn at h
  split at h
  · exact ⟨_, h.out, fun w => by simp [Op.unary, Op.intArith]⟩
  · rename_i k n
    refine ⟨_, h.out, fun w => ?_⟩
    have e : (if k.signed = true then (-1 : Int) else k.max) = bif k.signed then -1 else k.max := by cases k.signed <;> rfl
    simp only [Op.unary, e]
    rfl
  · exact ⟨_, h, fun w => by simp [Op.unary]⟩
  · cases h
theorem ldLs_elim {h : Hp} {q : Addr} : ∀ {ks : List Kd} {i : Nat} {K : List Value → Prop}, ldLs h q i ks K → ∃ vs, K vs ∧ RdL h q i vs ∧ vs.length = ks.length
  | [], i, K, hd => ⟨[], hd, trivial, rfl⟩
  | k :: ks, i, K, hd => by
    unfold ldLs ldK at hd
    split at hd
    · rename_i v hv
      obtain ⟨vs, h1, h2, h3⟩ := ldLs_elim (K := fun vs => K (v :: vs)) (asLeaf_elim hd).1
      exact ⟨v :: vs, h1, ⟨hv, h2⟩, by simp [h3]⟩
    · cases hd
theorem cellH_congr {h h' : Hp} {q : Addr} (e : h'[q.block]? = h[q.block]?) : cellH h' q = cellH h q := by unfold cellH; rw [e]
theorem add_block (q : Addr) (i : Nat) : (q.add i).block = q.block := by unfold Addr.add; split <;> rfl
theorem RdL_congr {h h' : Hp} {q : Addr} (e : h'[q.block]? = h[q.block]?) : ∀ {vs : List Value} {i : Nat}, RdL h q i vs → RdL h' q i vs
  | [], _, _ => trivial
  | v :: vs, i, hr => ⟨(cellH_congr (h := h) (h' := h') (q := q.add i) (by rw [add_block]; exact e)).trans hr.1, RdL_congr e hr.2⟩
theorem ldT_run (hE : EnvOk P E) {t : TypeId} {i : TyI} (hl : look E.types t = some i) {h : Hp} {q : Addr} {K : Value → Prop} (hd : ldT i h q K) :
    ∃ v, K v ∧ ∀ w : World, w.heap[q.block]? = h[q.block]? → (Instr.loadAt t (.pointer (some q))).run P w = .ok v w := by
  have ht := hE.ty _ _ hl
  obtain ⟨ty, ls, b⟩ := i
  unfold ldT at hd
  split at hd
  · rename_i fs e
    simp only at e hd
    subst e
    obtain ⟨vs, h1, h2, h3⟩ := ldLs_elim hd
    refine ⟨_, h1, fun w hw => ?_⟩
    obtain ⟨inf, hi, hs, _⟩ := info_of ht
    have hr := run_loads (P := P) vs q 0 #[] w (RdL_congr hw h2)
    simp only at hs
    simp only [Instr.loadAt, Instr.sureAddr, pure_bind, loadVar, Sem.run_bind, run_isAgg_yes ht, Result.andThen, if_true, run_size hi, loadCells, hs, ← h3, hr]
    simp
  · cases hd
  · rename_i h1 h2
    simp only at hd h1 h2
    split at hd
    · rename_i k
      unfold ldK at hd
      split at hd
      · rename_i v hv
        refine ⟨v, (asLeaf_elim hd).1, fun w hw => ?_⟩
        have hs : (TyI.mk ty [k] b).ty.isStruct = false := by
          cases ty <;> first | rfl | exact absurd rfl (h1 _)
        have hc : w.cell? q = some v := by rw [cell?_eq, cellH_congr hw]; exact hv
        simp [Instr.loadAt, Instr.sureAddr, loadVar, run_isAgg_no ht hs, hc]
      · cases hd
    · cases hd
theorem idxK_run {t e : TypeId} {inf : TypeInfo} (hu : P.underlying t = some (.slice e)) (hi : P.info? e = some inf) {a : Option Addr} {l c : Nat} {k : IntKind} {n : Int} {K : Addr → Prop}
    (hd : idxK a l n inf.size K) : ∃ q, K q ∧ ∀ w, (Instr.indexAt t (.slice a l c) (.int k n)).run P w = .ok (.pointer (some q)) w := by
  obtain ⟨⟨h0, h1⟩, hd⟩ := hd
  split at hd
  · rename_i p
    refine ⟨_, hd, fun w => ?_⟩
    simp only [Instr.indexAt, asIntOf, pure_bind, Sem.run_bind, run_und hu, Result.andThen]
    simp [h0, h1, run_size hi]
  · cases hd
theorem idxK_run_arr {t e : TypeId} {inf : TypeInfo} {m : Nat} (hu : P.underlying t = some (.array m e)) (hi : P.info? e = some inf) {p : Addr} {k : IntKind} {n : Int} {K : Addr → Prop}
    (hd : idxK (some p) m n inf.size K) : ∃ q, K q ∧ ∀ w, (Instr.indexAt t (.pointer (some p)) (.int k n)).run P w = .ok (.pointer (some q)) w := by
  obtain ⟨⟨h0, h1⟩, hd⟩ := hd
  refine ⟨_, hd, fun w => ?_⟩
  simp only [Instr.indexAt, asIntOf, pure_bind, Sem.run_bind, run_und hu, Result.andThen, Instr.sureAddr]
  simp [h0, h1, run_size hi, run_und hu]
theorem bnd_elim {P : Program} {v : Option Value} {dflt y : Nat} {K : Nat → Prop} (h : bnd v dflt y K) :
    ∃ m, K m ∧ (v = none → m = dflt) ∧ ∀ x, v = some x → ∀ code (w : World), (Instr.sliceBound x y code).run P w = .ok m w := by
  unfold bnd at h
  split at h
  · exact ⟨_, h, ⟨fun _ => rfl, fun x hx => (by cases hx)⟩⟩
  · rename_i k i
    refine ⟨i.toNat, h.2, ⟨fun hx => (by cases hx), fun x hx code w => ?_⟩⟩
    obtain rfl := Option.some.inj hx
    exact run_sliceBound w k i y code h.1.1 h.1.2
  · cases h
theorem slK_run {t e : TypeId} {inf : TypeInfo} (hu : P.underlying t = some (.slice e)) (hi : P.info? e = some inf) {a : Option Addr} {l c : Nat} {lo hi' mx : Option Value} {K : Value → Prop}
    (hd : slK inf.size a l c lo hi' mx fun a l c => K (.slice a l c)) : ∃ v, K v ∧ ∀ w, (Instr.sliceAt t (.slice a l c) lo hi' mx).run P w = .ok v w := by
  unfold slK at hd
  split at hd
  · cases hd
  · rename_i hne
    obtain ⟨m, hd, m0, mr⟩ := bnd_elim (P := P) hd
    obtain ⟨hh, hd, h0, hr⟩ := bnd_elim (P := P) hd
    obtain ⟨ll, hd, l0, lr⟩ := bnd_elim (P := P) hd
    refine ⟨_, hd, fun w => ?_⟩
    have hb : (Instr.sliceBounds true l c lo hi' mx).run P w = .ok (ll, hh, m) w := by
      unfold Instr.sliceBounds
      cases mx with
      | none =>
        obtain rfl := m0 rfl
        cases hi' with
        | none =>
          obtain rfl := h0 rfl
          cases lo with
          | none => obtain rfl := l0 rfl; rfl
          | some x => simp [lr x rfl]
        | some y =>
          cases lo with
          | none => obtain rfl := l0 rfl; simp [hr y rfl]
          | some x => simp [lr x rfl, hr y rfl]
      | some z =>
        cases hi' with
        | none => exact absurd rfl (hne z rfl)
        | some y =>
          cases lo with
          | none => obtain rfl := l0 rfl; simp [hr y rfl, mr z rfl]
          | some x => simp [lr x rfl, hr y rfl, mr z rfl]
    simp only [Instr.sliceAt, Sem.run_bind, run_und hu, Result.andThen, Instr.slice, hb, run_size hi, subA]
    rfl
theorem slS_run {t : TypeId} (hu : P.underlying t = some .string) {s : ByteArray} {lo hi' : Option Value} {K : Value → Prop}
    (hd : slS s lo hi' fun s => K (.string s)) : ∃ v, K v ∧ ∀ w, (Instr.sliceAt t (.string s) lo hi' none).run P w = .ok v w := by
  unfold slS at hd
  obtain ⟨hh, hd, h0, hr⟩ := bnd_elim (P := P) hd
  obtain ⟨ll, hd, l0, lr⟩ := bnd_elim (P := P) hd
  refine ⟨_, hd, fun w => ?_⟩
  have hb : (Instr.sliceBounds false s.size s.size lo hi' none).run P w = .ok (ll, hh, s.size) w := by
    unfold Instr.sliceBounds
    cases hi' with
    | none =>
      obtain rfl := h0 rfl
      cases lo with
      | none => obtain rfl := l0 rfl; rfl
      | some x => simp [lr x rfl]
    | some y =>
      cases lo with
      | none => obtain rfl := l0 rfl; simp [hr y rfl]
      | some x => simp [lr x rfl, hr y rfl]
  simp only [Instr.sliceAt, Sem.run_bind, run_und hu, Result.andThen, Instr.slice, Option.isSome_none, Bool.false_eq_true, if_false, hb]
  rfl
theorem fold_setL : ∀ (l : List Value) (off k : Nat) (cells : Array Value), off + k + l.length ≤ cells.size →
    (l.zipIdx k).foldl (fun cs p => cs.setIfInBounds (off + p.2) p.1) cells = (cells.toList.take (off + k) ++ (l ++ cells.toList.drop (off + k + l.length))).toArray
  | [], off, k, cells, h => by simp
  | v :: l, off, k, cells, h => by
    have hl : off + k < cells.size := by simp at h; omega
    have ih := fold_setL l off (k + 1) (cells.setIfInBounds (off + k) v) (by simp at h ⊢; omega)
    simp only [List.zipIdx_cons, List.foldl_cons, ih]
    congr 1
    have e1 : (cells.setIfInBounds (off + k) v).toList = cells.toList.set (off + k) v := by simp
    rw [e1]
    have e2 : off + (k + 1) = off + k + 1 := by omega
    have e3 : off + (k + 1) + l.length = off + k + (l.length + 1) := by omega
    have hlt : off + k < cells.toList.length := by simpa using hl
    rw [e3, e2, List.length_cons, List.take_succ_eq_append_getElem (by simpa using hl)]
    rw [List.getElem_set_self, List.take_set_of_le (Nat.le_refl _), List.drop_set_of_lt (by omega)]
    simp
theorem fill_of {placeM place : Nat → Option (Nat × Nat)} (hp : ∀ i, placeM i = place i) : ∀ (parts : List (Nat × Value)) (cells out : List Value), fillL place cells parts = some out →
    Instr.fill placeM cells.toArray parts = some out.toArray
  | [], cells, out, h => by simp only [fillL, Option.some.injEq] at h; subst h; rfl
  | (i, v) :: rest, cells, out, h => by
    unfold fillL at h
    unfold Instr.fill
    rw [hp i]
    split at h
    · cases h
    · rename_i off size e
      rw [e]
      simp only
      cases c1 : Nat.beq v.cells.toList.length size with
      | false => rw [c1] at h; cases h
      | true =>
        cases c2 : Nat.ble (off + v.cells.toList.length) cells.length with
        | false => rw [c1, c2] at h; cases h
        | true =>
          rw [c1, c2] at h
          simp only [Bool.and_self, cond_true] at h
          have d1 : v.cells.size = size := by simpa using Nat.eq_of_beq_eq_true c1
          have d2 : off + v.cells.size ≤ cells.length := by simpa using Nat.le_of_ble_eq_true c2
          have hf := fold_setL v.cells.toList off 0 cells.toArray (by simpa using d2)
          have ih := fill_of hp rest _ out h
          have e3 : (v.cells.zipIdx.foldl (fun cs (p : Value × Nat) => cs.setIfInBounds (off + p.2) p.1) cells.toArray) = (setL cells off v.cells.toList).toArray := by
            rw [← Array.foldl_toList, Array.toList_zipIdx, hf]
            simp [setL]
          have c3 : ¬ (v.cells.size ≠ size || off + v.cells.size > cells.toArray.size) = true := by simp; omega
          rw [if_neg c3]
          rw [← ih]
          congr 1
theorem run_mapM_places {fs' : List Field} (h : ∀ f ∈ fs', ∃ inf, P.info? f.type = some inf) (w : World) :
    (fs'.mapM fun (f : Field) => (do pure (f.offset, ← sizeOf f.type) : Sem (Nat × Nat))).run P w = .ok (fs'.map fun f => (f.offset, P.cellsOf f.type)) w := by
  induction fs' with
  | nil => rfl
  | cons f l ih =>
    obtain ⟨inf, hi⟩ := h f (by simp)
    have ih' := ih fun g hg => h g (by simp [hg])
    rw [List.mapM_cons]
    simp only [Sem.run_bind, run_size hi, Result.andThen, Sem.run_pure, ih', List.map_cons, Program.cellsOf, hi]
    rfl
theorem placesOk_mem : ∀ {fs : List (Nat × TypeId)}, placesOk E fs = true → ∀ p ∈ fs, ∃ i, look E.types p.2 = some i
  | [], _, p, hp => by cases hp
  | (off, t) :: l, h, p, hp => by
    unfold placesOk at h
    split at h
    · rename_i i hi
      rcases List.mem_cons.1 hp with rfl | hp
      · exact ⟨i, hi⟩
      · exact placesOk_mem h p hp
    · cases h
theorem cellsOf_eq {t : TypeId} {i : TyI} (h : tyB P t i = true) : P.cellsOf t = i.leaves.length := by
  obtain ⟨inf, hi, hs, _⟩ := info_of h
  simp [Program.cellsOf, hi, hs]
theorem dMax_run : ∀ {rest : List Value} {x : Value} {K : Value → Prop}, dMax x rest K → ∃ v, K v ∧ ∀ w, (rest.foldlM Builtin.max2 x : Sem Value).run P w = .ok v w
  | [], x, K, h => by unfold dMax at h; exact ⟨x, h, fun w => rfl⟩
  | y :: rest, x, K, h => by
    cases x with
    | int k a =>
      cases y with
      | int k' b =>
        unfold dMax at h
        obtain ⟨v, hv, hr⟩ := dMax_run h
        exact ⟨v, hv, fun w => by simp only [List.foldlM_cons, Builtin.max2, pure_bind]; exact hr w⟩
      | _ => simp [dMax] at h
    | _ => cases y <;> simp [dMax] at h
theorem dMin_run : ∀ {rest : List Value} {x : Value} {K : Value → Prop}, dMin x rest K → ∃ v, K v ∧ ∀ w, (rest.foldlM Builtin.min2 x : Sem Value).run P w = .ok v w
  | [], x, K, h => by unfold dMin at h; exact ⟨x, h, fun w => rfl⟩
  | y :: rest, x, K, h => by
    cases x with
    | int k a =>
      cases y with
      | int k' b =>
        unfold dMin at h
        obtain ⟨v, hv, hr⟩ := dMin_run h
        exact ⟨v, hv, fun w => by simp only [List.foldlM_cons, Builtin.min2, pure_bind]; exact hr w⟩
      | _ => simp [dMin] at h
    | _ => cases y <;> simp [dMin] at h
theorem run_sub64 (x y c : Int) (hx : 0 ≤ x) (hy : 0 ≤ y) (hc0 : 0 ≤ c) (hc : c ≤ 1) (hy' : y < 18446744073709551616) (w : World) :
    (sub64Entry #[.int .u64 x, .int .u64 y, .int .u64 c]).run P w =
      .ok (.tuple #[.int .u64 ((x - y - c) % 18446744073709551616), .int .u64 (if x < y + c then 1 else 0)]) w := by
  have key : ∀ k : Nat, k ≤ 1 → (sub64Entry #[.int .u64 x, .int .u64 y, .int .u64 (k : Int)]).run P w =
      .ok (Extern.MathBitsCarry.pair ((x.toNat + Extern.MathBitsCarry.m64 - y.toNat - k) % Extern.MathBitsCarry.m64) (if x.toNat < y.toNat + k then 1 else 0)) w := by
    intro k hk
    have : k = 0 ∨ k = 1 := by omega
    rcases this with rfl | rfl <;> rfl
  obtain ⟨k, rfl⟩ := Int.eq_ofNat_of_zero_le hc0
  rw [key k (by omega)]
  obtain ⟨X, rfl⟩ := Int.eq_ofNat_of_zero_le hx
  obtain ⟨Y, rfl⟩ := Int.eq_ofNat_of_zero_le hy
  simp only [Extern.MathBitsCarry.pair, Extern.MathBitsCarry.m64, Int.toNat_natCast]
  have e1 : Int.ofNat ((X + 2 ^ 64 - Y - k) % 2 ^ 64) = ((X : Int) - Y - k) % 18446744073709551616 := by
    simp; omega
  have e2 : Int.ofNat (if X < Y + k then 1 else 0) = if (X : Int) < Y + k then 1 else 0 := by
    by_cases hlt : X < Y + k
    · rw [if_pos hlt, if_pos (by omega)]; rfl
    · rw [if_neg hlt, if_neg (by omega)]; rfl
  rw [e1, e2]
theorem fn_facts (hE : EnvOk P E) {f : FuncId} {k : Fk} (hl : look E.fns f = some k) : ∃ fn, P.funcs[f]? = some fn ∧ (fn.name == "runtime.NumGoroutine") = false ∧ (k = .body ∨ k = .quiet → fn.body.isSome = true) ∧ (k = .add64 ∨ k = .sub64 → fn.body.isNone = true) := by
  have h := hE.fn _ _ hl
  unfold fnB at h
  split at h
  · rename_i fn hf
    refine ⟨fn, hf, ?_⟩
    cases k <;> simp only [Bool.and_eq_true, Bool.not_eq_true'] at h <;> simp [h]
  · cases h
/-- A call of the builtins and rows that leave the heap alone. -/
theorem dCall_run (hE : EnvOk P E) {c : Call} {fr : Fr} {t0 : TypeId} {K : Value → Prop} (h : dCall E c fr K) :
    ∃ v, K v ∧ ∀ w, (do let d ← resolve (ev fr) c t0; invoke d.target d.args : Sem Next).run P w = .ok (.value v) w := by
  obtain ⟨callee, ⟨args⟩, ⟨ats⟩⟩ := c
  unfold dCall at h
  simp only at h
  split at h
  · -- len
    split at h
    · rename_i x xs t ts
      unfold dLen at h
      split at h
      · rename_i e ls b a n cp hl hv
        have hu := und_slice (hE.ty _ _ hl)
        refine ⟨_, h, fun w => ?_⟩
        simp [resolve, invoke, builtin, Builtin.len_, hv, run_und hu, goInt]
      · rename_i ls b s hl hv
        have hu := und_str (hE.ty _ _ hl)
        refine ⟨_, h, fun w => ?_⟩
        simp [resolve, invoke, builtin, Builtin.len_, hv, run_und hu, goInt]
      · cases h
    · cases h
  · -- max
    split at h
    · rename_i x rest e
      obtain ⟨v, hv, hr⟩ := dMax_run (P := P) h
      refine ⟨v, hv, fun w => ?_⟩
      have e' : (List.map (ev fr) args) = x :: rest := e
      simp [resolve, invoke, builtin, Builtin.max_, e', hr]
    · cases h
  · -- min
    split at h
    · rename_i x rest e
      obtain ⟨v, hv, hr⟩ := dMin_run (P := P) h
      refine ⟨v, hv, fun w => ?_⟩
      have e' : (List.map (ev fr) args) = x :: rest := e
      simp [resolve, invoke, builtin, Builtin.min_, e', hr]
    · cases h
  · -- rows
    rename_i f
    split at h
    · rename_i hl
      split at h
      · rename_i x y z e
        obtain ⟨⟨h1, h2, h3, h4⟩, h⟩ := h
        refine ⟨_, h, fun w => ?_⟩
        obtain ⟨fn, hf, hn, _, hb⟩ := fn_facts hE hl
        obtain ⟨fn', hf', hx1, hx2⟩ := hE.ext _ _ hl
        obtain rfl : fn = fn' := by rw [hf] at hf'; exact Option.some.inj hf'
        have e' : (List.map (ev fr) args) = [.int .u64 x, .int .u64 y, .int .u64 z] := e
        have hc := run_callFunc_extern (P := P) hf hn (hb (by simp)) hx1 hx2 #[.int .u64 x, .int .u64 y, .int .u64 z] w
        rw [run_add64 x y z h1 h2 h3 h4] at hc
        simp only [resolve, Deferred.ofValue, ev, pure_bind, invoke]
        have e3 : (#[] ++ Array.map (ev fr) { toList := args } ++ #[] : Array Value) = #[.int .u64 x, .int .u64 y, .int .u64 z] := by simp [e']
        rw [e3, hc]
        rfl
      · cases h
    · rename_i hl
      split at h
      · rename_i x y z e
        obtain ⟨⟨h1, h2, h3, h4, h5⟩, h⟩ := h
        refine ⟨_, h, fun w => ?_⟩
        obtain ⟨fn, hf, hn, _, hb⟩ := fn_facts hE hl
        obtain ⟨fn', hf', hx1, hx2⟩ := hE.ext _ _ hl
        obtain rfl : fn = fn' := by rw [hf] at hf'; exact Option.some.inj hf'
        have e' : (List.map (ev fr) args) = [.int .u64 x, .int .u64 y, .int .u64 z] := e
        have hc := run_callFunc_extern (P := P) hf hn (hb (by simp)) hx1 hx2 #[.int .u64 x, .int .u64 y, .int .u64 z] w
        rw [run_sub64 x y z h1 h2 h3 h4 h5] at hc
        simp only [resolve, Deferred.ofValue, ev, pure_bind, invoke]
        have e3 : (#[] ++ Array.map (ev fr) { toList := args } ++ #[] : Array Value) = #[.int .u64 x, .int .u64 y, .int .u64 z] := by simp [e']
        rw [e3, hc]
        rfl
      · cases h
    · cases h
  · cases h
end still
end Go.Gv
