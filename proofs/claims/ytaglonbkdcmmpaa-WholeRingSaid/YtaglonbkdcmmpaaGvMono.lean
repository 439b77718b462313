/- Gv, part 6: what 'den' says may be weakened; chains of statements. -/
import Derived.Test.YtaglonbkdcmmpaaGvSound4
namespace Go.Gv
set_option linter.unusedVariables false
set_option linter.unusedSimpArgs false

theorem letK_mono {n : Int} {K K' : Int → Prop} (hk : ∀ n, K n → K' n) (h : letK n K) : letK n K' := ⟨hk _ h.out⟩
theorem dIntOp_mono {op : BinOp} {k : IntKind} {a b : Int} {K K' : Value → Prop} (hk : ∀ v, K v → K' v) (h : dIntOp op k a b K) : dIntOp op k a b K' := by
  cases op <;> first
    | exact hk _ h
    | exact letK_mono (fun n => hk _) h
    | exact ⟨h.1, letK_mono (fun n => hk _) h.2⟩
    | exact h
theorem dBin_mono {E : Env} {op : BinOp} {t : TypeId} {x y : Value} {K K' : Value → Prop} (hk : ∀ v, K v → K' v) (h : dBin E op t x y K) : dBin E op t x y K' := by
  unfold dBin at *
  split at h
  · rename_i k a k' b
    split at h
    · exact ⟨h.1, letK_mono (fun n => hk _) h.2⟩
    · exact ⟨h.1, letK_mono (fun n => hk _) h.2⟩
    · cases e : kEq k k' with
      | false => rw [e] at h; cases h
      | true => rw [e] at h; exact dIntOp_mono hk h
  · split at h
    · exact ⟨h.1, hk _ h.2⟩
    · exact hk _ h
    · exact hk _ h
    · cases h
  · split at h
    · split at h
      · exact hk _ h
      · exact hk _ h
      · cases h
    · cases h
  · split at h
    · split at h
      · exact hk _ h
      · exact hk _ h
      · cases h
    · cases h
  · cases h
theorem dUn_mono {op : UnOp} {x : Value} {K K' : Value → Prop} (hk : ∀ v, K v → K' v) (h : dUn op x K) : dUn op x K' := by
  unfold dUn at *
  split at h
  · exact letK_mono (fun n => hk _) h
  · exact letK_mono (fun n => hk _) h
  · exact hk _ h
  · cases h
theorem gInt_mono {kk : IntKind} {v : Value} {K K' : Int → Prop} (hk : ∀ n, K n → K' n) (h : gInt kk v K) : gInt kk v K' := by
  obtain ⟨m, e, g⟩ := gInt_elim h
  subst e
  have this : ∀ j : IntKind, kEq j j = true := fun j => by cases j <;> rfl
  simp only [gInt, this, cond_true]
  exact hk _ g
theorem asLeaf_mono {k : Kd} {v : Value} {K K' : Value → Prop} (hk : ∀ v, K v → K' v) (h : asLeaf k v K) : asLeaf k v K' := by
  cases k with
  | int k => exact gInt_mono (fun n => hk _) h
  | bool => obtain ⟨n, e, g⟩ := gBool_elim (show gBool v _ from h); subst e; exact hk _ g
  | str => obtain ⟨n, e, g⟩ := gStr_elim (show gStr v _ from h); subst e; exact hk _ g
  | slice => obtain ⟨a, l, c, e, g⟩ := gSlice_elim (show gSlice v _ from h); subst e; exact hk _ g
  | ptr => obtain ⟨n, e, g⟩ := gPtr_elim (show gPtr v _ from h); subst e; exact hk _ g
theorem asLeaves_mono : ∀ {ks : List Kd} {l : List Value} {K K' : List Value → Prop}, (∀ v, K v → K' v) → asLeaves ks l K → asLeaves ks l K'
  | [], l, K, K', hk, h => by obtain ⟨e, g⟩ := unnil_elim h; subst e; exact hk _ g
  | k :: ks, l, K, K', hk, h => by
    obtain ⟨v, vs, e, g⟩ := uncons_elim h
    subst e
    exact asLeaf_mono (fun v' g' => asLeaves_mono (fun vs' => hk _) g') g
theorem asOne_mono {i : TyI} {v : Value} {K K' : Value → Prop} (hk : ∀ v, K v → K' v) (h : asOne i v K) : asOne i v K' := by
  unfold asOne at *
  split at h
  · obtain ⟨cs, e, g⟩ := gAgg_elim h
    subst e
    rename_i e
    exact asLeaves_mono (fun vs => hk _) g
  · split at h
    · rename_i hn k e
      exact asLeaf_mono hk h
    · cases h
theorem asParts_mono {E : Env} : ∀ {ts : List TypeId} {l : List Value} {K K' : List Value → Prop}, (∀ v, K v → K' v) → asParts E ts l K → asParts E ts l K'
  | [], l, K, K', hk, h => by obtain ⟨e, g⟩ := unnil_elim h; subst e; exact hk _ g
  | t :: ts, l, K, K', hk, h => by
    obtain ⟨v, vs, e, g⟩ := uncons_elim h
    subst e
    unfold asParts uncons
    simp only
    split at g
    · rename_i i e
      exact asOne_mono (fun v' g' => asParts_mono (fun vs' => hk _) g') g
    · cases g
theorem asTy_mono {E : Env} {t : TypeId} {v : Value} {K K' : Value → Prop} (hk : ∀ v, K v → K' v) (h : asTy E t v K) : asTy E t v K' := by
  unfold asTy at *
  split at h
  · rename_i i e
    split at h
    · rename_i ts e'
      obtain ⟨cs, e, g⟩ := gTup_elim h
      subst e
      exact asParts_mono (fun vs => hk _) g
    · rename_i hn
      exact asOne_mono hk h
  · cases h
theorem idxK_mono {a : Option Addr} {l : Nat} {i : Int} {sz : Nat} {K K' : Addr → Prop} (hk : ∀ q, K q → K' q) (h : idxK a l i sz K) : idxK a l i sz K' := by
  obtain ⟨h0, h⟩ := h
  refine ⟨h0, ?_⟩
  cases a with
  | none => exact h
  | some p => exact hk _ h
theorem idxS_mono {s : ByteArray} {i : Int} {K K' : Int → Prop} (hk : ∀ q, K q → K' q) (h : idxS s i K) : idxS s i K' := by
  obtain ⟨h0, h⟩ := h
  refine ⟨h0, ?_⟩
  split at h
  · rename_i e; exact hk _ h
  · cases h
theorem ldK_mono {h : Hp} {q : Addr} {K K' : Value → Prop} (hk : ∀ v, K v → K' v) (hd : ldK h q K) : ldK h q K' := by
  unfold ldK at *
  split at hd
  · rename_i e; exact hk _ hd
  · cases hd
theorem ldLs_mono {h : Hp} {q : Addr} : ∀ {ks : List Kd} {i : Nat} {K K' : List Value → Prop}, (∀ v, K v → K' v) → ldLs h q i ks K → ldLs h q i ks K'
  | [], i, K, K', hk, hd => hk _ hd
  | k :: ks, i, K, K', hk, hd => ldK_mono (fun v g => asLeaf_mono (fun v' g' => ldLs_mono (fun vs => hk _) g') g) hd
theorem ldT_mono {i : TyI} {h : Hp} {q : Addr} {K K' : Value → Prop} (hk : ∀ v, K v → K' v) (hd : ldT i h q K) : ldT i h q K' := by
  obtain ⟨ty, ls, b⟩ := i
  cases ty with
  | struct fs => exact ldLs_mono (fun vs => hk _) hd
  | tuple ts => exact hd
  | _ =>
    match ls, hd with
    | [k], hd => exact ldK_mono (fun v g => asLeaf_mono hk g) hd
theorem bnd_mono {v : Option Value} {d y : Nat} {K K' : Nat → Prop} (hk : ∀ n, K n → K' n) (h : bnd v d y K) : bnd v d y K' := by
  unfold bnd at *
  split at h
  · exact hk _ h
  · exact ⟨h.1, hk _ h.2⟩
  · cases h
theorem slK_mono {sz : Nat} {a : Option Addr} {l c : Nat} {lo hi mx : Option Value} {K K' : Option Addr → Nat → Nat → Prop} (hk : ∀ a l c, K a l c → K' a l c) (h : slK sz a l c lo hi mx K) : slK sz a l c lo hi mx K' := by
  unfold slK at *
  split at h
  · cases h
  · rename_i hn
    exact bnd_mono (fun m g => bnd_mono (fun h' g' => bnd_mono (fun l g'' => hk _ _ _ g'') g') g) h
theorem slS_mono {s : ByteArray} {lo hi : Option Value} {K K' : ByteArray → Prop} (hk : ∀ s, K s → K' s) (h : slS s lo hi K) : slS s lo hi K' :=
  bnd_mono (fun h' g' => bnd_mono (fun l g'' => hk _ g'') g') h
theorem dMax_mono : ∀ {rest : List Value} {x : Value} {K K' : Value → Prop}, (∀ v, K v → K' v) → dMax x rest K → dMax x rest K'
  | [], x, K, K', hk, h => by unfold dMax at *; exact hk _ h
  | y :: rest, x, K, K', hk, h => by
    cases x with
    | int k a =>
      cases y with
      | int k' b => unfold dMax at *; exact dMax_mono hk h
      | _ => simp [dMax] at h
    | _ => cases y <;> simp [dMax] at h
theorem dMin_mono : ∀ {rest : List Value} {x : Value} {K K' : Value → Prop}, (∀ v, K v → K' v) → dMin x rest K → dMin x rest K'
  | [], x, K, K', hk, h => by unfold dMin at *; exact hk _ h
  | y :: rest, x, K, K', hk, h => by
    cases x with
    | int k a =>
      cases y with
      | int k' b => unfold dMin at *; exact dMin_mono hk h
      | _ => simp [dMin] at h
    | _ => cases y <;> simp [dMin] at h
theorem dLen_mono {E : Env} {t : TypeId} {v : Value} {K K' : Value → Prop} (hk : ∀ v, K v → K' v) (h : dLen E t v K) : dLen E t v K' := by
  unfold dLen at *
  split at h
  · rename_i e; exact hk _ h
  · rename_i e; exact hk _ h
  · cases h
theorem dCall_mono {E : Env} {c : Call} {fr : Fr} {K K' : Value → Prop} (hk : ∀ v, K v → K' v) (h : dCall E c fr K) : dCall E c fr K' := by
  obtain ⟨callee, args, ats⟩ := c
  unfold dCall at *
  simp only at *
  split at h
  · split at h
    · rename_i e1 e2; exact dLen_mono hk h
    · cases h
  · split at h
    · rename_i e; exact dMax_mono hk h
    · cases h
  · split at h
    · rename_i e; exact dMin_mono hk h
    · cases h
  · split at h
    · rename_i e
      split at h
      · rename_i e2; exact ⟨h.1, hk _ h.2⟩
      · cases h
    · rename_i e
      split at h
      · rename_i e2; exact ⟨h.1, hk _ h.2⟩
      · cases h
    · cases h
  · cases h
theorem dStill_mono {E : Env} {op : Op} {fr : Fr} {h : Hp} {K K' : Value → Prop} (hk : ∀ v, K v → K' v) (hd : dStill E op fr h K) : dStill E op fr h K' := by
  cases op with
  | move x => exact hk _ hd
  | assign x => exact hk _ hd
  | pick c a b =>
    simp only [dStill] at *
    split at hd
    · rename_i t e
      cases t <;> exact hk _ hd
    · cases hd
  | load t a =>
    simp only [dStill] at *
    split at hd
    · rename_i e1 e2; exact ldT_mono hk hd
    · cases hd
  | binOp op t x y yt => exact dBin_mono hk hd
  | unOp op t x => exact dUn_mono hk hd
  | convert s d x =>
    simp only [dStill] at *
    split at hd
    · rename_i e1 e2 e3; exact letK_mono (fun n => hk _) hd
    · cases hd
  | indexAddr t x i =>
    simp only [dStill] at *
    split at hd
    · rename_i e1 e2 e3
      split at hd
      · rename_i e4; exact idxK_mono (fun q => hk _) hd
      · cases hd
    · split at hd
      · split at hd
        · exact idxK_mono (fun q => hk _) hd
        · cases hd
      · cases hd
    · cases hd
  | index t x i =>
    simp only [dStill] at *
    split at hd
    · rename_i e1 e2 e3; exact idxS_mono (fun q => hk _) hd
    · cases hd
  | extract x i =>
    simp only [dStill] at *
    split at hd
    · rename_i e1
      split at hd
      · rename_i e2; exact hk _ hd
      · cases hd
    · cases hd
  | fieldAddr s x f =>
    simp only [dStill] at *
    split at hd
    · rename_i e1 e2
      split at hd
      · rename_i e3
        split at hd
        · rename_i i e4
          cases hz : Nat.beq i.leaves.length 0 with
          | true => rw [hz] at hd; cases hd
          | false => rw [hz] at hd; exact hk _ hd
        · cases hd
      · cases hd
    · cases hd
  | field t x f =>
    simp only [dStill] at *
    split at hd
    · rename_i e1 e2
      split at hd
      · rename_i e3
        split at hd
        · rename_i e4; exact hk _ hd
        · cases hd
        · rename_i i hn1 hn2 e4
          split at hd
          · rename_i e5
            exact hk _ hd
          · cases hd
        · cases hd
      · cases hd
    · cases hd
  | build t parts =>
    simp only [dStill] at *
    split at hd
    · rename_i fs ls b e1
      cases hp : placesOk E fs with
      | false => rw [hp] at hd; cases hd
      | true =>
        rw [hp] at hd
        simp only [cond_true] at *
        split at hd
        · rename_i e2; exact hk _ hd
        · cases hd
    · cases hd
  | nilCheck x =>
    simp only [dStill] at *
    split at hd
    · rename_i e1; exact hk _ hd
    · cases hd
  | slice t x lo hi mx =>
    simp only [dStill] at *
    split at hd
    · rename_i e1 e2
      split at hd
      · rename_i e3; exact slK_mono (fun a l c => hk _) hd
      · cases hd
    · rename_i e1 e2
      split at hd
      · exact slS_mono (fun s => hk _) hd
      · cases hd
    · cases hd
  | call c => exact dCall_mono hk hd
  | _ => exact hd
theorem stLs_mono {q : Addr} : ∀ {l : List Value} {i : Nat} {h : Hp} {K K' : Hp → Prop}, (∀ h, K h → K' h) → stLs h q i l K → stLs h q i l K'
  | [], i, h, K, K', hk, hd => hk _ hd
  | v :: vs, i, h, K, K', hk, hd => by
    unfold stLs at *
    cases hp : plainV v with
    | false => rw [hp] at hd; cases hd
    | true => rw [hp] at hd; exact ⟨hd.1, stLs_mono hk hd.2⟩
theorem dStore_mono {i : TyI} {h : Hp} {q : Addr} {v : Value} {K K' : Hp → Prop} (hk : ∀ h, K h → K' h) (hd : dStore i h q v K) : dStore i h q v K' := by
  cases v with
  | agg cs =>
    unfold dStore at *
    cases hb : Nat.beq cs.toList.length i.leaves.length with
    | false => simp only [hb] at hd; cases hd
    | true => simp only [hb] at *; exact stLs_mono hk hd
  | tuple cs => exact hd
  | _ =>
    unfold dStore at *
    cases hb : Nat.beq 1 i.leaves.length with
    | false => simp only [hb] at hd; cases hd
    | true => simp only [hb] at *; exact ⟨hd.1, hk _ hd.2⟩
theorem apK_mono {h : Hp} {e : TypeId} {i : TyI} {a : Option Addr} {l c : Nat} {x : Value} {K K' : Option Addr → Nat → Nat → Hp → Prop} (hk : ∀ a l c h, K a l c h → K' a l c h) (hd : apK h e i a l c x K) : apK h e i a l c x K' := by
  obtain ⟨n, cs, h1, h2, h3, h4⟩ := hd
  refine ⟨n, cs, h1, h2, fun hc => ?_, fun hc => ?_⟩
  · have := h3 hc
    cases a with
    | none => exact hk _ _ _ _ this
    | some p => exact ⟨this.1, hk _ _ _ _ this.2⟩
  · obtain ⟨g1, g2, g3, old, g4, g5⟩ := h4 hc
    exact ⟨g1, g2, g3, old, g4, fun nc hnc => hk _ _ _ _ (g5 nc hnc)⟩
theorem cpK_mono {h : Hp} {sz : Nat} {a : Option Addr} {l : Nat} {x : Value} {K K' : Int → Hp → Prop} (hk : ∀ n h, K n h → K' n h) (hd : cpK h sz a l x K) : cpK h sz a l x K' := by
  obtain ⟨n, cs, h1, h2, h3⟩ := hd
  refine ⟨n, cs, h1, h2, ?_⟩
  cases a with
  | none => exact hk _ _ h3
  | some p => exact ⟨h3.1, hk _ _ h3.2⟩
theorem clK_mono {h : Hp} {i : TyI} {a : Option Addr} {l : Nat} {K K' : Hp → Prop} (hk : ∀ h, K h → K' h) (hd : clK h i a l K) : clK h i a l K' := by
  cases a with
  | none => exact hk _ hd
  | some p =>
    cases l with
    | zero => exact hk _ hd
    | succ l => exact ⟨hd.1, hk _ hd.2⟩
theorem dAct_mono {P : Program} {E : Env} {op : Op} {t0 : TypeId} {fr : Fr} {h : Hp} {K K' : Value → Hp → Prop} (hk : ∀ v h, K v h → K' v h) (hd : dAct P E op t0 fr h K) : dAct P E op t0 fr h K' := by
  cases op with
  | store t x v =>
    simp only [dAct] at *
    split at hd
    · rename_i e1 e2; exact dStore_mono (fun h => hk _ _) hd
    · cases hd
  | box e v => exact hk _ _ hd
  | alloc e =>
    simp only [dAct] at *
    split at hd
    · cases hd
    · rename_i i hn e1
      exact hk _ _ hd
    · cases hd
  | makeSlice t l c =>
    simp only [dAct] at *
    split at hd
    · rename_i e1 e2 e3
      split at hd
      · cases hd
      · rename_i i hn e4
        exact ⟨hd.1, hk _ _ hd.2⟩
      · cases hd
    · cases hd
  | buildSlice t n parts =>
    simp only [dAct] at *
    split at hd
    · rename_i e1
      split at hd
      · cases hd
      · rename_i i hn e4
        cases hb : Nat.ble (n * i.leaves.length) 16777216 with
        | false => rw [hb] at hd; cases hd
        | true =>
          rw [hb] at hd
          simp only [cond_true] at *
          split at hd
          · exact hk _ _ hd
          · cases hd
      · cases hd
    · cases hd
  | call c =>
    obtain ⟨callee, args, ats⟩ := c
    simp only [dAct] at *
    split at hd
    · split at hd
      · rename_i s x t t' e1 e2
        cases hs : srcTy E t' with
        | false => rw [hs] at hd; cases hd
        | true =>
          rw [hs] at hd
          simp only [cond_true] at *
          split at hd
          · rename_i e3 e4
            split at hd
            · cases hd
            · rename_i i hn e5
              exact apK_mono (fun a l c h => hk _ _) hd
            · cases hd
          · cases hd
      · cases hd
    · split at hd
      · rename_i e1 e2
        split at hd
        · rename_i e3 e4
          split at hd
          · cases hd
          · rename_i i hn e5
            exact cpK_mono (fun n h => hk _ _) hd
          · cases hd
        · cases hd
      · cases hd
    · split at hd
      · rename_i e1 e2
        split at hd
        · rename_i e3 e4
          split at hd
          · cases hd
          · rename_i i hn e5
            exact clK_mono (fun h => hk _ _) hd
          · cases hd
        · cases hd
      · cases hd
    · split at hd
      · rename_i e1; exact HCalls.mono hd fun v h' g => asTy_mono (fun v' => hk _ _) g
      · cases hd
    · cases hd
  | _ => exact hd
theorem dQuiet_mono {P : Program} {E : Env} {op : Op} {t0 : TypeId} {fr : Fr} {h : Hp} {K K' : Value → Prop} (hk : ∀ v, K v → K' v) (hd : dQuiet P E op t0 fr h K) : dQuiet P E op t0 fr h K' := by
  cases op with
  | call c =>
    simp only [dQuiet] at *
    split at hd
    · obtain ⟨v, h1, h2⟩ := hd
      exact ⟨v, h1, asTy_mono hk h2⟩
    · cases hd
  | _ => exact hd
theorem dOp_mono {P : Program} {E : Env} {md : Bool} {n0 : Nat} {o : Oper} {fr : Fr} {h : Hp} {K K' : Value → Hp → Prop} (hk : ∀ v h, K v h → K' v h) (hd : dOp P E md n0 o fr h K) : dOp P E md n0 o fr h K' := by
  unfold dOp at *
  cases hc : clOf E o.op with
  | pure => simp only [hc] at *; exact dStill_mono (fun v => hk v _) hd
  | load =>
    simp only [hc] at *
    cases md with
    | false => exact dStill_mono (fun v => hk v _) hd
    | true =>
      simp only [cond_true] at *
      split at hd
      · exact ⟨hd.1, dStill_mono (fun v => hk v _) hd.2⟩
      · cases hd
  | quiet => simp only [hc] at *; exact dQuiet_mono (fun v => hk v _) hd
  | call =>
    simp only [hc] at *
    cases md with
    | false => simp only [cond_false] at *; exact dAct_mono hk hd
    | true => simp only [cond_true] at *; exact dAct_mono (fun v h' k => ⟨k.1, hk _ _ k.2⟩) hd
  | act => simp only [hc] at *; exact dAct_mono hk hd
theorem dOps_mono {P : Program} {E : Env} {md : Bool} {n0 : Nat} {all : List Oper} : ∀ {l : List Oper} {fr : Fr} {h : Hp} {K K' : Fr → Hp → Prop}, (∀ fr h, K fr h → K' fr h) → dOps P E md n0 all l fr h K → dOps P E md n0 all l fr h K'
  | [], fr, h, K, K', hk, hd => hk _ _ hd
  | o :: rest, fr, h, K, K', hk, hd => by
    unfold dOps at *
    split at hd
    · rename_i e; exact dOp_mono (fun v h' => dOps_mono hk) hd
    · rename_i j want e
      split at hd
      · cases hd
      · rename_i t e2
        split at hd
        · rename_i b e3
          cases b <;> cases want <;> simp only [cond_true, cond_false] at * <;> first
            | exact dOps_mono hk hd
            | exact dOp_mono (fun v h' => dOps_mono hk) hd
        · exact dOps_mono hk hd
        · cases hd
theorem dAt_mono {P : Program} {E : Env} {n0 : Nat} {all : List Oper} {i : Nat} {fr : Fr} {h : Hp} {K K' : Fr → Hp → Prop} (hk : ∀ fr h, K fr h → K' fr h) (hd : dAt P E n0 all i fr h K) : dAt P E n0 all i fr h K' := by
  unfold dAt at *
  split at hd
  · exact dOps_mono hk hd
  · cases hd
theorem conjL_mono {f g : Nat → Prop} (hfg : ∀ i, f i → g i) : ∀ {l : List Nat}, conjL f l → conjL g l
  | [], _ => trivial
  | [i], h => hfg i h
  | i :: j :: l, h => ⟨hfg i h.1, conjL_mono hfg h.2⟩
theorem dTr_mono {P : Program} {E : Env} {n0 : Nat} {all : List Oper} {bs : List Nat} {K K' : Fr → Hp → Prop} (hk : ∀ fr h, K fr h → K' fr h) : ∀ {n : Nat} {todo : List Nat} {fr : Fr} {h : Hp}, dTr P E n0 all bs n todo fr h K → dTr P E n0 all bs n todo fr h K'
  | 0, _, fr, h, hd => hk _ _ hd
  | n + 1, todo, fr, h, hd => by
    unfold dTr at *
    split at hd
    · rename_i e; exact dAt_mono (fun fr h => dTr_mono hk) hd
    · rename_i e; exact conjL_mono (fun i g => dAt_mono (fun fr h => dTr_mono hk) g) hd
theorem den_mono {P : Program} {E : Env} : ∀ {c : Code} {Q Q' : Ex → Fr → Hp → Prop} {fr : Fr} {h : Hp}, (∀ e fr h, Q e fr h → Q' e fr h) → den P E c Q fr h → den P E c Q' fr h := by
  intro c
  induction c with
  | skip => intro Q Q' fr h hq hd; exact hq _ _ _ hd
  | label l => intro Q Q' fr h hq hd; exact hq _ _ _ hd
  | ret => intro Q Q' fr h hq hd; exact hq _ _ _ hd
  | exit id => intro Q Q' fr h hq hd; exact hq _ _ _ hd
  | region id ops draw =>
    intro Q Q' fr h hq hd
    simp only [den] at *
    cases hop : openB E draw ops.toList with
    | true => rw [hop] at hd; simp only [cond_true] at hd ⊢; exact dTr_mono (hq _) hd
    | false => rw [hop] at hd; simp only [cond_false] at hd ⊢; exact dOps_mono (hq _) hd
  | seq x y ihx ihy =>
    intro Q Q' fr h hq hd
    refine ihx (fun e fr' h' g => ?_) hd
    cases e with
    | normal => exact ihy hq g
    | exit id => exact hq _ _ _ g
    | ret => exact hq _ _ _ g
  | cond c x y ihx ihy =>
    intro Q Q' fr h hq hd
    simp only [den] at *
    split at hd
    · rename_i t e
      cases t with
      | true => exact ihx hq hd
      | false => exact ihy hq hd
    · cases hd
  | block id c ih =>
    intro Q Q' fr h hq hd
    refine ih (fun e fr' h' g => ?_) hd
    cases e with
    | normal => exact hq _ _ _ g
    | ret => exact hq _ _ _ g
    | exit id' =>
      simp only [Ex.inBlock] at *
      cases hb : Nat.beq id' id with
      | true => rw [hb] at g; exact hq _ _ _ g
      | false => rw [hb] at g; exact hq _ _ _ g
  | scope c ih => intro Q Q' fr h hq hd; exact ih hq hd
  | loop c ih =>
    intro Q Q' fr h hq hd
    obtain ⟨n, hd⟩ := hd
    refine ⟨n, ?_⟩
    have key : ∀ n fr h, iter (fun N => den P E c (Ex.then N Q)) n fr h → iter (fun N => den P E c (Ex.then N Q')) n fr h := by
      intro n
      induction n with
      | zero => intro fr h g; exact g
      | succ n ihn =>
        intro fr h g
        refine ih (fun e fr' h' g' => ?_) g
        cases e with
        | normal => exact ihn _ _ g'
        | exit id => exact hq _ _ _ g'
        | ret => exact hq _ _ _ g'
    exact key n fr h hd
  | _ => intro Q Q' fr h hq hd; exact hd

theorem then_then (x y : Fr → Hp → Prop) (Q : Ex → Fr → Hp → Prop) : Ex.then x (Ex.then y Q) = Ex.then x Q := by
  funext e
  cases e <;> rfl
theorem den_chain {P : Program} {E : Env} {Q : Ex → Fr → Hp → Prop} {rest : Code} {fr : Fr} {h : Hp} : ∀ {l : List Code}, l ≠ [] → den P E (chainL l) (Ex.then (den P E rest Q) Q) fr h → den P E (chainR l rest) Q fr h
  | [], hl, hd => absurd rfl hl
  | [a], _, hd => hd
  | a :: b :: l, _, hd => by
    show den P E a (Ex.then (den P E (chainR (b :: l) rest) Q) Q) fr h
    refine den_mono (c := a) (fun e fr' h' g => ?_) hd
    cases e with
    | normal => exact den_chain (l := b :: l) (by simp) g
    | exit id => exact g
    | ret => exact g
theorem gPtrS_elim {v : Value} {K : Addr → Prop} (h : gPtrS v K) : ∃ q, v = .pointer (some q) ∧ K q := by
  cases v with
  | pointer a => cases a with
    | some q => exact ⟨q, rfl, h⟩
    | none => cases h
  | _ => cases h
/-- The loop, from a count of rounds on. -/
theorem den_loop {P : Program} {E : Env} {c : Code} {Q : Ex → Fr → Hp → Prop} {fr : Fr} {h : Hp} (n : Nat) (hd : iter (fun N => den P E c (Ex.then N Q)) n fr h) : den P E (.loop c) Q fr h := ⟨n, hd⟩
end Go.Gv
