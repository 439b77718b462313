/- Lists of cells of any one kind: what a slice reads as, blocks that were made here, and the steps that read, write, make, copy and append. -/
import Derived.Laws.Append
import Derived.Test.YtaglonbkdcmmpaaGvBlock
namespace Go.Gv
/-- A kind of element that takes one cell. -/
structure El (α : Type) where
  enc : α → Value
  ok : α → Prop
  lim : Nat
  plain : ∀ x, plainV (enc x) = true
def eU64 : El Nat := ⟨fun x => .int .u64 (x : Int), fun x => x < 18446744073709551616, 35184372088828, fun _ => rfl⟩
def eU32 : El Nat := ⟨fun x => .int .u32 (x : Int), fun x => x < 4294967296, 70368744177656, fun _ => rfl⟩
def eU8 : El Nat := ⟨fun x => .int .u8 (x : Int), fun x => x < 256, 281474976710656, fun _ => rfl⟩
instance (x : Nat) : Decidable (eU64.ok x) := inferInstanceAs (Decidable (x < 18446744073709551616))
instance (x : Nat) : Decidable (eU32.ok x) := inferInstanceAs (Decidable (x < 4294967296))
instance (x : Nat) : Decidable (eU8.ok x) := inferInstanceAs (Decidable (x < 256))
theorem ok64 : eU64.ok 0 := (by decide : 0 < 18446744073709551616)
theorem ok32 : eU32.ok 0 := (by decide : 0 < 4294967296)
theorem ok8 : eU8.ok 0 := (by decide : 0 < 256)
abbrev Sl := Option Addr × Nat × Nat
def eSl : El Sl := ⟨fun s => .slice s.1 s.2.1 s.2.2, fun _ => True, 11728124029610, fun _ => rfl⟩
variable {α : Type} {E : El α}
structure RdE (E : El α) (h : Hp) (a : Option Addr) (c : Nat) (xs : List α) : Prop where
  len : xs.length ≤ E.lim
  cap : xs.length ≤ c
  ok : ∀ x ∈ xs, E.ok x
  at_ : ∀ i x, xs[i]? = some x → ∃ p, a = some p ∧ cellH h (p.add i) = some (E.enc x)
theorem RdE.keep {h h' : Hp} {a : Option Addr} {c : Nat} {xs : List α} (r : RdE E h a c xs) (k : Keep h h') : RdE E h' a c xs :=
  ⟨r.len, r.cap, r.ok, fun i x hi => let ⟨p, e, g⟩ := r.at_ i x hi; ⟨p, e, k.cell g⟩⟩
theorem RdE.nil (h : Hp) (a : Option Addr) (c : Nat) : RdE E h a c [] := ⟨by simp, by simp, by simp, fun i x hi => by simp at hi⟩
theorem RdE.take {h : Hp} {a : Option Addr} {c : Nat} {xs : List α} (r : RdE E h a c xs) (n : Nat) : RdE E h a c (xs.take n) := by
  refine ⟨?_, ?_, fun x hx => r.ok x (List.mem_of_mem_take hx), fun i x hi => ?_⟩
  · have := r.len; rw [List.length_take]; omega
  · have := r.cap; rw [List.length_take]; omega
  · rw [List.getElem?_take] at hi
    split at hi
    · exact r.at_ i x hi
    · cases hi
theorem RdE.cap_le {h : Hp} {a : Option Addr} {c c' : Nat} {xs : List α} (r : RdE E h a c xs) (hc : xs.length ≤ c') : RdE E h a c' xs := ⟨r.len, hc, r.ok, r.at_⟩
theorem RdE.drop {h : Hp} {a : Option Addr} {c m : Nat} {xs : List α} (r : RdE E h a c xs) (n : Nat) (hn : n ≤ xs.length) (hm : xs.length ≤ m) : RdE E h (subA a m n 1) (m - n) (xs.drop n) := by
  have h1 := r.len; have h2 := r.cap
  refine ⟨?_, ?_, fun x hx => r.ok x (List.mem_of_mem_drop hx), fun i x hi => ?_⟩
  · rw [List.length_drop]; omega
  · rw [List.length_drop]; omega
  · rw [List.getElem?_drop] at hi
    obtain ⟨p, e, g⟩ := r.at_ (n + i) x hi
    have hlt := (List.getElem?_eq_some_iff.mp hi).1
    refine ⟨p.add n, ?_, by rw [add_add]; exact g⟩
    rw [e]; unfold subA
    rw [if_neg (by omega)]; simp
/-- Reading a place. -/
theorem atE {h : Hp} {a : Option Addr} {c l : Nat} {xs : List α} (r : RdE E h a c xs) {i : Int} {j : Nat} (hi : i = (j : Int)) (hl : l = xs.length) {x : α} (hx : xs[j]? = some x) {K : Value → Prop}
    (g : K (E.enc x)) : idxK a l i 1 fun q => ldK h q K := by
  subst hi; subst hl
  obtain ⟨p, e, hc⟩ := r.at_ j x hx
  have hj := (List.getElem?_eq_some_iff.mp hx).1
  subst e
  refine ⟨⟨by omega, by omega⟩, ?_⟩
  show ldK h (p.add ((j : Int).toNat * 1)) _
  have e2 : (j : Int).toNat * 1 = j := by omega
  rw [e2]
  unfold ldK; rw [hc]; exact g
theorem getD_some {xs : List Nat} {j : Nat} (hj : j < xs.length) : xs[j]? = some (xs.getD j 0) := by simp [List.getD, hj]
theorem at32 {h : Hp} {a : Option Addr} {c l : Nat} {xs : List Nat} (r : RdE eU32 h a c xs) {i : Int} {j : Nat} (hi : i = (j : Int)) (hl : l = xs.length) (hj : j < xs.length) {K : Int → Prop}
    (g : K (xs.getD j 0 : Nat)) : idxK a l i 1 fun q => ldK h q fun v => gInt .u32 v K :=
  atE r hi hl (getD_some hj) g
theorem at64 {h : Hp} {a : Option Addr} {c l : Nat} {xs : List Nat} (r : RdE eU64 h a c xs) {i : Int} {j : Nat} (hi : i = (j : Int)) (hl : l = xs.length) (hj : j < xs.length) {K : Int → Prop}
    (g : K (xs.getD j 0 : Nat)) : idxK a l i 1 fun q => ldK h q fun v => gInt .u64 v K :=
  atE r hi hl (getD_some hj) g
theorem at8 {h : Hp} {a : Option Addr} {c l : Nat} {xs : List Nat} (r : RdE eU8 h a c xs) {i : Int} {j : Nat} (hi : i = (j : Int)) (hl : l = xs.length) (hj : j < xs.length) {K : Int → Prop}
    (g : K (xs.getD j 0 : Nat)) : idxK a l i 1 fun q => ldK h q fun v => gInt .u8 v K :=
  atE r hi hl (getD_some hj) g
theorem atSl {h : Hp} {a : Option Addr} {c l : Nat} {xs : List Sl} (r : RdE eSl h a c xs) {i : Int} {j : Nat} (hi : i = (j : Int)) (hl : l = xs.length) {x : Sl} (hx : xs[j]? = some x) {K : Option Addr → Nat → Nat → Prop}
    (g : K x.1 x.2.1 x.2.2) : idxK a l i 1 fun q => ldK h q fun v => gSlice v K :=
  atE r hi hl hx g
theorem Rd.toE {h : Hp} {a : Option Addr} {c : Nat} {xs : List Nat} (r : Rd h a c xs) : RdE eU64 h a c xs :=
  ⟨r.len, r.cap, r.words, fun i x hi => by
    obtain ⟨hlt, e⟩ := List.getElem?_eq_some_iff.mp hi
    obtain ⟨p, e1, e2⟩ := r.at_ i hlt
    refine ⟨p, e1, ?_⟩
    rw [e2, show xs.getD i 0 = x by simp [List.getD, hlt, e]]
    rfl⟩
theorem RdE.to64 {h : Hp} {a : Option Addr} {c : Nat} {xs : List Nat} (r : RdE eU64 h a c xs) : Rd h a c xs :=
  ⟨r.len, r.cap, r.ok, fun i hi => r.at_ i _ (getD_some hi)⟩
/-! ### blocks that were made here -/
structure BlkE (E : El α) (h : Hp) (b : Nat) (zs : List α) : Prop where
  ok : ∀ x ∈ zs, E.ok x
  at_ : ∃ e, h[b]? = some (.cells (zs.map E.enc).toArray e (0, 0))
theorem BlkE.lt {h : Hp} {b : Nat} {zs : List α} (o : BlkE E h b zs) : b < h.size := by
  obtain ⟨e, g⟩ := o.at_; exact (Array.getElem?_eq_some_iff.mp g).1
theorem BlkE.cell {h : Hp} {b : Nat} {zs : List α} (o : BlkE E h b zs) {i : Nat} {x : α} (hi : zs[i]? = some x) : cellH h ⟨b, i, none⟩ = some (E.enc x) := by
  obtain ⟨e, g⟩ := o.at_
  unfold cellH
  simp only [g, Option.isSome_none, Bool.false_eq_true, if_false]
  simp [hi]
theorem BlkE.frozen {h : Hp} {b : Nat} {zs : List α} (o : BlkE E h b zs) (i : Nat) : frozenH h ⟨b, i, none⟩ = false := by
  obtain ⟨e, g⟩ := o.at_
  unfold frozenH
  simp [g]
theorem BlkE.rdAt {h : Hp} {b off n c : Nat} {zs : List α} (o : BlkE E h b zs) (hl : n ≤ E.lim) (hn : off + n ≤ zs.length) (hc : n ≤ c) : RdE E h (some ⟨b, off, none⟩) c ((zs.drop off).take n) := by
  refine ⟨by rw [List.length_take]; omega, by rw [List.length_take]; omega, fun x hx => o.ok x (List.mem_of_mem_drop (List.mem_of_mem_take hx)), fun i x hi => ⟨_, rfl, ?_⟩⟩
  rw [List.getElem?_take] at hi
  split at hi
  · rw [List.getElem?_drop] at hi
    have e : (⟨b, off, none⟩ : Addr).add i = ⟨b, off + i, none⟩ := by
      rw [← base_add b off, add_add, base_add]
    rw [e]; exact o.cell hi
  · cases hi
theorem BlkE.rd {h : Hp} {b c : Nat} {xs rest : List α} (o : BlkE E h b (xs ++ rest)) (hl : xs.length ≤ E.lim) (hc : xs.length ≤ c) : RdE E h (some ⟨b, 0, none⟩) c xs := by
  have := o.rdAt (off := 0) (n := xs.length) (c := c) hl (by simp) hc
  simpa using this
theorem BlkE.rd' {h : Hp} {b c : Nat} {xs : List α} (o : BlkE E h b xs) (hl : xs.length ≤ E.lim) (hc : xs.length ≤ c) : RdE E h (some ⟨b, 0, none⟩) c xs :=
  BlkE.rd (rest := []) (by simpa using o) hl hc
theorem BlkE.set {h : Hp} {b : Nat} {zs : List α} (o : BlkE E h b zs) (i : Nat) {v : α} (hv : E.ok v) : BlkE E (setH h ⟨b, i, none⟩ (E.enc v)) b (zs.set i v) := by
  refine ⟨fun x hx => ?_, ?_⟩
  · rcases List.mem_or_eq_of_mem_set hx with h1 | h1
    · exact o.ok x h1
    · subst h1; exact hv
  · obtain ⟨e, g⟩ := o.at_
    refine ⟨e, ?_⟩
    unfold setH
    rw [Array.getElem?_modify]
    simp only [if_true, g, Option.map_some]
    simp [List.map_set]
theorem BlkE.keep {h h' : Hp} {b : Nat} {zs : List α} (o : BlkE E h b zs) (k : Keep h h') : BlkE E h' b zs := by
  obtain ⟨e, g⟩ := o.at_
  exact ⟨o.ok, e, by rw [k.pre b o.lt]; exact g⟩
theorem BlkE.keepB {q : Nat} {h h' : Hp} {b : Nat} {zs : List α} (o : BlkE E h b zs) (hb : b ≠ q) (k : KeepB q h h') : BlkE E h' b zs := by
  obtain ⟨e, g⟩ := o.at_
  exact ⟨o.ok, e, by rw [k.pre b o.lt hb]; exact g⟩
theorem RdE.keepB {q : Nat} {h h' : Hp} {a : Option Addr} {c : Nat} {xs : List α} (r : RdE E h a c xs) (o : Off q a) (k : KeepB q h h') : RdE E h' a c xs :=
  ⟨r.len, r.cap, r.ok, fun i x hi => by
    obtain ⟨p, e, g⟩ := r.at_ i x hi
    refine ⟨p, e, ?_⟩
    have hb := cellH_lt g
    rw [cellH_congr (k.pre _ hb (by rw [add_block]; exact o p e))]; exact g⟩
theorem RdE.off {h : Hp} {a : Option Addr} {c : Nat} {xs : List α} (r : RdE E h a c xs) {q : Nat} (hq : h.size ≤ q) : xs = [] ∨ Off q a := by
  cases xs with
  | nil => exact Or.inl rfl
  | cons x xs =>
    obtain ⟨p, e, g⟩ := r.at_ 0 x (by simp)
    have hb := cellH_lt g
    rw [add_block] at hb
    refine Or.inr fun p' e' => ?_
    rw [e] at e'; cases e'; omega
/-- Writing a place of such a block, through a slice that begins anywhere in it. -/
theorem putE {h : Hp} {b l off : Nat} {zs : List α} (o : BlkE E h b zs) {i : Int} {j : Nat} (hi : i = (j : Int)) (hj : j < l) (hz : off + j < zs.length) {x : Value} {v : α} (hx : x = E.enc v) (hv : E.ok v) {K : Hp → Prop}
    (g : BlkE E (setH h ⟨b, off + j, none⟩ (E.enc v)) b (zs.set (off + j) v) → KeepB b h (setH h ⟨b, off + j, none⟩ (E.enc v)) → K (setH h ⟨b, off + j, none⟩ (E.enc v))) : idxK (some ⟨b, off, none⟩) l i 1 fun q => stK h q x K := by
  subst hi; subst hx
  refine ⟨⟨by omega, by omega⟩, ?_⟩
  show stK h ((⟨b, off, none⟩ : Addr).add ((j : Int).toNat * 1)) _ _
  have e2 : (j : Int).toNat * 1 = j := by omega
  have e : (⟨b, off, none⟩ : Addr).add j = ⟨b, off + j, none⟩ := by
    rw [← base_add b off, add_add, base_add]
  rw [e2, e]
  obtain ⟨w, hw⟩ : ∃ w, zs[off + j]? = some w := ⟨zs[off + j], by simp⟩
  exact ⟨⟨⟨_, o.cell hw⟩, o.frozen _⟩, g (o.set _ hv) (KeepB.set _ _ _ _)⟩
/-- The same from the block's beginning. -/
theorem putE0 {h : Hp} {b l : Nat} {zs : List α} (o : BlkE E h b zs) {i : Int} {j : Nat} (hi : i = (j : Int)) (hj : j < l) (hz : j < zs.length) {x : Value} {v : α} (hx : x = E.enc v) (hv : E.ok v) {K : Hp → Prop}
    (g : BlkE E (setH h ⟨b, j, none⟩ (E.enc v)) b (zs.set j v) → KeepB b h (setH h ⟨b, j, none⟩ (E.enc v)) → K (setH h ⟨b, j, none⟩ (E.enc v))) : idxK (some ⟨b, 0, none⟩) l i 1 fun q => stK h q x K := by
  have e : 0 + j = j := Nat.zero_add j
  refine putE (off := 0) o hi hj (by rw [e]; exact hz) hx hv ?_
  rw [e]; exact g
theorem KeepB.keepN {q : Nat} {h0 h h' : Hp} (k0 : Keep h0 h) (k : KeepB q h h') (hq : h0.size ≤ q) : Keep h0 h' := KeepB.keep k0 k hq
/-- Making a block. -/
theorem mkE {h : Hp} {e : TypeId} {i : TyI} {n m : Int} (E : El α) (z : α) (a b : Nat) (hz : i.zs = [E.enc z]) (ok : E.ok z) (by_ : Nat) (hb : i.bytes = by_) (hb1 : 1 ≤ by_) (hn : n = (a : Int)) (hm : m = (b : Int)) (hab : a ≤ b) (hk : by_ * b ≤ 281474976710656) {K : Addr → Hp → Prop}
    (g : ∀ h', BlkE E h' h.size (List.replicate b z) → Keep h h' → K ⟨h.size, 0, none⟩ h') : mkK h e i n m K := by
  subst hn; subst hm; subst hb
  refine ⟨⟨by omega, by omega, by omega, ?_⟩, g _ ⟨?_, e, ?_⟩ ⟨by simp, fun b hb => ?_⟩⟩
  · have : ((i.bytes : Int) * (b : Int)) = ((i.bytes * b : Nat) : Int) := by simp
    rw [this]; omega
  · intro x hx; rw [List.eq_of_mem_replicate hx]; exact ok
  · rw [hz, zerosL_one]; simp
  · rw [Array.getElem?_push]; rw [if_neg (by omega)]
theorem boxE {h : Hp} {e : TypeId} {cs : List Value} (E : El α) (xs : List α) (hx : cs = xs.map E.enc) (hw : ∀ x ∈ xs, E.ok x) {K : Addr → Hp → Prop}
    (g : ∀ h', BlkE E h' h.size xs → Keep h h' → K ⟨h.size, 0, none⟩ h') : boxK h e cs K := by
  subst hx
  refine g _ ⟨hw, e, ?_⟩ ⟨by simp, fun b hb => ?_⟩
  · simp
  · rw [Array.getElem?_push]; rw [if_neg (by omega)]
/-! ### many cells at once -/
theorem rdLE_of {h : Hp} {p : Addr} : ∀ {vs : List α} {i : Nat}, (∀ j x, vs[j]? = some x → cellH h (p.add (i + j)) = some (E.enc x)) → RdL h p i (vs.map E.enc)
  | [], _, _ => trivial
  | v :: vs, i, g => by
    refine ⟨by have := g 0 v (by simp); simpa using this, rdLE_of fun j x hj => ?_⟩
    have := g (j + 1) x (by simpa using hj)
    rw [show i + 1 + j = i + (j + 1) by omega]; exact this
theorem stLE_of {h : Hp} {p : Addr} : ∀ {n i : Nat}, (∀ j, j < n → (∃ v, cellH h (p.add (i + j)) = some v) ∧ frozenH h (p.add (i + j)) = false) → StL h p i n
  | 0, _, _ => trivial
  | n + 1, i, g => by
    refine ⟨by have := g 0 (by omega); simpa using this, stLE_of fun j hj => ?_⟩
    have := g (j + 1) (by omega)
    rw [show i + 1 + j = i + (j + 1) by omega]; exact this
theorem stHE {b : Nat} : ∀ {vs : List α} {h : Hp} {zs : List α} {off i : Nat}, BlkE E h b zs → (∀ x ∈ vs, E.ok x) → off + i + vs.length ≤ zs.length →
    BlkE E (stH h ⟨b, off, none⟩ i (vs.map E.enc)) b (zs.take (off + i) ++ (vs ++ zs.drop (off + i + vs.length))) ∧ KeepB b h (stH h ⟨b, off, none⟩ i (vs.map E.enc))
  | [], h, zs, off, i, o, _, hl => by
    refine ⟨?_, KeepB.refl _ _⟩
    simp only [List.map_nil, stH, List.length_nil, Nat.add_zero, List.nil_append, List.take_append_drop]; exact o
  | v :: vs, h, zs, off, i, o, hv, hl => by
    have e : (⟨b, off, none⟩ : Addr).add i = ⟨b, off + i, none⟩ := by
      rw [← base_add b off, add_add, base_add]
    simp only [List.length_cons] at hl
    have o2 := o.set (off + i) (hv v (by simp))
    obtain ⟨o3, k3⟩ := stHE (vs := vs) (off := off) (i := i + 1) o2 (fun x hx => hv x (by simp [hx])) (by rw [List.length_set]; omega)
    simp only [List.map_cons, stH, e]
    refine ⟨?_, (KeepB.set _ _ _ _).trans k3⟩
    have e1 : (zs.set (off + i) v).take (off + (i + 1)) ++ (vs ++ (zs.set (off + i) v).drop (off + (i + 1) + vs.length)) = zs.take (off + i) ++ ((v :: vs) ++ zs.drop (off + i + (v :: vs).length)) := by
      rw [show off + (i + 1) = off + i + 1 by omega]
      rw [List.drop_set_of_lt (by omega), List.take_set, List.take_add_one]
      have : (zs.take (off + i) ++ zs[off + i]?.toList).set (off + i) v = zs.take (off + i) ++ [v] := by
        rw [List.set_append_right _ _ (by rw [List.length_take]; omega)]
        have h2 : zs[off + i]? = some (zs[off + i]'(by omega)) := by simp
        rw [h2]
        have h3 : off + i - (zs.take (off + i)).length = 0 := by rw [List.length_take]; omega
        rw [h3]; rfl
      rw [this]
      simp only [List.length_cons, List.cons_append, List.append_assoc, List.nil_append]
      rw [show off + i + 1 + vs.length = off + i + (vs.length + 1) by omega]
    rw [← e1]; exact o3
theorem RdE.srcL {h : Hp} {a : Option Addr} {c l c2 : Nat} {xs : List α} (r : RdE E h a c xs) (n : Nat) (hn : n ≤ xs.length) : SrcL h 1 (.slice a l c2) n ((xs.take n).map E.enc) := by
  refine ⟨by rw [List.length_map, List.length_take]; omega, ?_, ?_⟩
  · intro v hv
    obtain ⟨x, _, e⟩ := List.mem_map.mp hv
    subst e; exact E.plain x
  · cases a with
    | none =>
      show (xs.take n).map E.enc = []
      cases xs with
      | nil => simp
      | cons y ys => obtain ⟨p, e, _⟩ := r.at_ 0 y (by simp); cases e
    | some p =>
      refine rdLE_of fun j x hj => ?_
      rw [Nat.zero_add]
      obtain ⟨q, e1, e2⟩ := (r.take n).at_ j x hj
      cases e1; exact e2
/-- copy into a block that was made here, from its beginning. -/
theorem cpE {h : Hp} {b l l2 c2 : Nat} {zs ys : List α} {a : Option Addr} (o : BlkE E h b zs) (r : RdE E h a c2 ys) (hl : l ≤ zs.length) (hl2 : l2 = ys.length) {c3 : Nat} {K : Int → Hp → Prop}
    (g : ∀ h', BlkE E h' b (ys.take (min ys.length l) ++ zs.drop (min ys.length l)) → KeepB b h h' → K ((min ys.length l : Nat) : Int) h') : cpK h 1 (some ⟨b, 0, none⟩) l (.slice a l2 c3) K := by
  subst hl2
  have hm : Nat.min ys.length l = min ys.length l := rfl
  refine ⟨ys.length, (ys.take (min ys.length l)).map E.enc, rfl, r.srcL _ (by omega), ?_⟩
  have hlen : (ys.take (min ys.length l)).length = min ys.length l := by rw [List.length_take]; omega
  have := stHE (vs := ys.take (min ys.length l)) (off := 0) (i := 0) o (fun x hx => r.ok x (List.mem_of_mem_take hx)) (by rw [hlen]; omega)
  refine ⟨stLE_of fun j hj => ?_, ?_⟩
  · rw [List.length_map, hlen] at hj
    rw [Nat.zero_add, base_add]
    obtain ⟨w, hw⟩ : ∃ w, zs[j]? = some w := ⟨zs[j]'(by omega), by simp⟩
    exact ⟨⟨_, o.cell hw⟩, o.frozen _⟩
  · refine g _ ?_ this.2
    have h1 := this.1
    rw [hlen] at h1
    simpa using h1
/-! ### lists that grow -/
/-- A slice that was made here: nothing else holds its memory. (h0: the heap ahead.) -/
structure GotE (E : El α) (h0 h : Hp) (a : Option Addr) (c : Nat) (xs : List α) : Prop where
  len : xs.length ≤ E.lim
  cap : xs.length ≤ c
  here : (xs = [] ∧ a = none ∧ c = 0) ∨ ∃ b rest, a = some ⟨b, 0, none⟩ ∧ h0.size ≤ b ∧ BlkE E h b (xs ++ rest) ∧ c ≤ (xs ++ rest).length
theorem GotE.nil (h0 h : Hp) : GotE E h0 h none 0 [] := ⟨by simp, by simp, Or.inl ⟨rfl, rfl, rfl⟩⟩
theorem GotE.rd {h0 h : Hp} {a : Option Addr} {c : Nat} {xs : List α} (g : GotE E h0 h a c xs) : RdE E h a c xs := by
  rcases g.here with ⟨e1, e2, e3⟩ | ⟨b, rest, e1, _, o, _⟩
  · subst e1; exact RdE.nil _ _ _
  · subst e1; exact o.rd g.len g.cap
theorem GotE.keep {h0 h h' : Hp} {a : Option Addr} {c : Nat} {xs : List α} (g : GotE E h0 h a c xs) (k : Keep h h') : GotE E h0 h' a c xs :=
  ⟨g.len, g.cap, g.here.imp id fun ⟨b, rest, e1, e2, o, e3⟩ => ⟨b, rest, e1, e2, o.keep k, e3⟩⟩
theorem GotE.from {h0 h1 h : Hp} {a : Option Addr} {c : Nat} {xs : List α} (g : GotE E h1 h a c xs) (k : h0.size ≤ h1.size) : GotE E h0 h a c xs :=
  ⟨g.len, g.cap, g.here.imp id fun ⟨b, rest, e1, e2, o, e3⟩ => ⟨b, rest, e1, Nat.le_trans k e2, o, e3⟩⟩
theorem BlkE.got {h0 h : Hp} {b c : Nat} {xs rest : List α} (o : BlkE E h b (xs ++ rest)) (hb : h0.size ≤ b) (hl : xs.length ≤ E.lim) (h1 : xs.length ≤ c) (hc : c ≤ (xs ++ rest).length) : GotE E h0 h (some ⟨b, 0, none⟩) c xs :=
  ⟨hl, h1, Or.inr ⟨b, rest, rfl, hb, o, hc⟩⟩
theorem BlkE.got' {h0 h : Hp} {b c : Nat} {xs : List α} (o : BlkE E h b xs) (hb : h0.size ≤ b) (hl : xs.length ≤ E.lim) (hc : c = xs.length) : GotE E h0 h (some ⟨b, 0, none⟩) c xs :=
  BlkE.got (rest := []) (by simpa using o) hb hl (by omega) (by simp; omega)
theorem GotE.take {h0 h : Hp} {a : Option Addr} {c : Nat} {xs : List α} (g : GotE E h0 h a c xs) (n : Nat) : GotE E h0 h a c (xs.take n) := by
  have h1 := g.len; have h2 := g.cap
  refine ⟨by rw [List.length_take]; omega, by rw [List.length_take]; omega, ?_⟩
  rcases g.here with ⟨e1, e2, e3⟩ | ⟨b, rest, e1, e2, o, e3⟩
  · subst e1; exact Or.inl ⟨by simp, e2, e3⟩
  · refine Or.inr ⟨b, xs.drop n ++ rest, e1, e2, ?_, ?_⟩
    · rw [← List.append_assoc, List.take_append_drop]; exact o
    · rw [← List.append_assoc, List.take_append_drop]; exact e3
/-- What else changes when a list grows: nothing but its own block. -/
structure KeepX (a : Option Addr) (h h' : Hp) : Prop where
  le : h.size ≤ h'.size
  pre : ∀ b, b < h.size → Off b a → h'[b]? = h[b]?
theorem KeepX.keep {a : Option Addr} {h0 h h' : Hp} (k0 : Keep h0 h) (k : KeepX a h h') (ho : ∀ b, b < h0.size → Off b a) : Keep h0 h' :=
  ⟨Nat.le_trans k0.le k.le, fun b hb => (k.pre b (Nat.lt_of_lt_of_le hb k0.le) (ho b hb)).trans (k0.pre b hb)⟩
theorem GotE.offs {h0 h : Hp} {a : Option Addr} {c : Nat} {xs : List α} (g : GotE E h0 h a c xs) : ∀ b, b < h0.size → Off b a := by
  intro b hb p e
  rcases g.here with ⟨_, e2, _⟩ | ⟨b', rest, e1, e2, _, _⟩
  · rw [e2] at e; cases e
  · rw [e1] at e; cases e; show b' ≠ b; omega
theorem BlkE.keepX {a : Option Addr} {h h' : Hp} {b : Nat} {zs : List α} (o : BlkE E h b zs) (k : KeepX a h h') (ho : Off b a) : BlkE E h' b zs := by
  obtain ⟨e, g⟩ := o.at_
  exact ⟨o.ok, e, by rw [k.pre b o.lt ho]; exact g⟩
theorem KeepX.refl (a : Option Addr) (h : Hp) : KeepX a h h := ⟨Nat.le_refl _, fun _ _ _ => rfl⟩
theorem Keep.toX {h h' : Hp} (k : Keep h h') (a : Option Addr) : KeepX a h h' := ⟨k.le, fun b hb _ => k.pre b hb⟩
theorem KeepX.trans {a : Option Addr} {h h1 h2 : Hp} (x : KeepX a h h1) (y : KeepX a h1 h2) : KeepX a h h2 :=
  ⟨Nat.le_trans x.le y.le, fun b hb ho => (y.pre b (Nat.lt_of_lt_of_le hb x.le) ho).trans (x.pre b hb ho)⟩
/-- append, to a list that was made here, of a list. -/
theorem apE3 {h0 h : Hp} {e : TypeId} {i : TyI} {a a2 : Option Addr} {l c c2 c3 n : Nat} {xs ys : List α} (g : GotE E h0 h a c xs) (k0 : h0.size ≤ h.size) (r : RdE E h a2 c2 ys) (hl : l = xs.length) (hn : n = ys.length) (hlv : i.leaves.length = 1) (z : α) (hz : i.zs = [E.enc z]) (hzo : E.ok z)
    (by_ : Nat) (hb : i.bytes = by_) (hb1 : 1 ≤ by_) (hlim : xs.length + ys.length ≤ E.lim) (hfit : c < xs.length + ys.length → (xs.length + ys.length) * by_ ≤ 140737488355328) {K : Option Addr → Nat → Nat → Hp → Prop}
    (post : ∀ a' c' h', GotE E h0 h' a' c' (xs ++ ys) → KeepX a h h' → (xs.length + ys.length ≤ c → c' = c ∧ a' = a) → (a' = a ∨ ∃ b, a' = some ⟨b, 0, none⟩ ∧ h.size ≤ b) → K a' (xs.length + ys.length) c' h') : apK h e i a l c (.slice a2 n c3) K := by
  subst hl; subst hn; subst hb
  have hm := g.cap
  refine ⟨ys.length, ys.map E.enc, rfl, ?_, ?_, ?_⟩
  · rw [hlv]; have := r.srcL (l := ys.length) (c2 := c3) ys.length (Nat.le_refl _); rw [List.take_length] at this; exact this
  · intro hfc
    rcases g.here with ⟨e1, e2, e3⟩ | ⟨b, rest, e1, e2, o, e3⟩
    · subst e1; subst e2; subst e3
      have : ys = [] := List.length_eq_zero_iff.mp (by simpa using hfc)
      subst this
      exact post none 0 h (GotE.nil _ _) (KeepX.refl _ _) (fun _ => ⟨rfl, rfl⟩) (Or.inl rfl)
    · subst e1
      rw [hlv, Nat.mul_one]
      show StL h ((⟨b, 0, none⟩ : Addr).add xs.length) 0 (List.map E.enc ys).length ∧ K (some ⟨b, 0, none⟩) (xs.length + ys.length) c (stH h ((⟨b, 0, none⟩ : Addr).add xs.length) 0 (List.map E.enc ys))
      rw [base_add]
      have hrest : ys.length ≤ rest.length := by rw [List.length_append] at e3; omega
      have st := stHE (vs := ys) (off := xs.length) (i := 0) o r.ok (by rw [List.length_append]; omega)
      refine ⟨stLE_of fun j hj => ?_, ?_⟩
      · rw [List.length_map] at hj
        have e : (⟨b, xs.length, none⟩ : Addr).add (0 + j) = ⟨b, xs.length + j, none⟩ := by
          rw [Nat.zero_add, ← base_add b xs.length, add_add, base_add]
        rw [e]
        obtain ⟨w, hw⟩ : ∃ w, (xs ++ rest)[xs.length + j]? = some w := ⟨_, List.getElem?_eq_getElem (by rw [List.length_append]; omega)⟩
        exact ⟨⟨_, o.cell hw⟩, o.frozen _⟩
      · have ez : (xs ++ rest).take (xs.length + 0) ++ (ys ++ (xs ++ rest).drop (xs.length + 0 + ys.length)) = (xs ++ ys) ++ rest.drop ys.length := by
          rw [Nat.add_zero, List.take_left, List.drop_append, List.drop_of_length_le (by omega), List.nil_append, List.append_assoc]
          congr 3; omega
        rw [ez] at st
        refine post _ _ _ ?_ ⟨st.2.le, fun b' hb' ho => st.2.pre b' hb' (fun e => ho _ rfl e.symm)⟩ (fun _ => ⟨rfl, rfl⟩) (Or.inl rfl)
        refine ⟨by rw [List.length_append]; exact hlim, by rw [List.length_append]; exact hfc, Or.inr ⟨b, rest.drop ys.length, rfl, e2, st.1, ?_⟩⟩
        rw [List.length_append] at e3
        rw [List.length_append, List.length_append, List.length_drop]; omega
  · intro hfc
    have hlt : c < xs.length + ys.length := by omega
    have hfit := hfit hlt
    refine ⟨growslice_fits hlt hfit, hb1, ?_, (xs.map E.enc), ?_, ?_⟩
    · have : (xs.length + ys.length) * 1 ≤ (xs.length + ys.length) * i.bytes := Nat.mul_le_mul_left _ hb1
      omega
    · rw [hlv]; have := g.rd.srcL (l := xs.length) (c2 := c) xs.length (Nat.le_refl _); rw [List.take_length] at this; exact this
    · intro nc hnc
      refine post _ _ _ ?_ ⟨by simp, fun b' hb' _ => by rw [Array.getElem?_push]; rw [if_neg (by omega)]⟩ (fun hh => absurd hh hfc) (Or.inr ⟨_, rfl, Nat.le_refl _⟩)
      have o : BlkE E (h.push (.cells (xs.map E.enc ++ (ys.map E.enc ++ zerosL i.zs (nc - (xs.length + ys.length)))).toArray e (0, 0))) h.size ((xs ++ ys) ++ List.replicate (nc - (xs.length + ys.length)) z) := by
        refine ⟨fun x hx => ?_, e, ?_⟩
        · rcases List.mem_append.mp hx with h1 | h1
          · rcases List.mem_append.mp h1 with h2 | h2
            · exact g.rd.ok x h2
            · exact r.ok x h2
          · rw [List.eq_of_mem_replicate h1]; exact hzo
        · rw [hz, zerosL_one]; simp
      exact o.got k0 (by rw [List.length_append]; exact hlim) (by rw [List.length_append]; exact hnc) (by simp; omega)
theorem apE2 {h0 h : Hp} {e : TypeId} {i : TyI} {a a2 : Option Addr} {l c c2 c3 n : Nat} {xs ys : List α} (g : GotE E h0 h a c xs) (k0 : h0.size ≤ h.size) (r : RdE E h a2 c2 ys) (hl : l = xs.length) (hn : n = ys.length) (hlv : i.leaves.length = 1) (z : α) (hz : i.zs = [E.enc z]) (hzo : E.ok z)
    (by_ : Nat) (hb : i.bytes = by_) (hb1 : 1 ≤ by_) (hlim : xs.length + ys.length ≤ E.lim) (hfit : c < xs.length + ys.length → (xs.length + ys.length) * by_ ≤ 140737488355328) {K : Option Addr → Nat → Nat → Hp → Prop}
    (post : ∀ a' c' h', GotE E h0 h' a' c' (xs ++ ys) → KeepX a h h' → (xs.length + ys.length ≤ c → c' = c ∧ a' = a) → K a' (xs.length + ys.length) c' h') : apK h e i a l c (.slice a2 n c3) K :=
  apE3 g k0 r hl hn hlv z hz hzo by_ hb hb1 hlim hfit fun a' c' h' g' k' e' _ => post a' c' h' g' k' e'
theorem apE {h0 h : Hp} {e : TypeId} {i : TyI} {a a2 : Option Addr} {l c c2 c3 n : Nat} {xs ys : List α} (g : GotE E h0 h a c xs) (k0 : h0.size ≤ h.size) (r : RdE E h a2 c2 ys) (hl : l = xs.length) (hn : n = ys.length) (hlv : i.leaves.length = 1) (z : α) (hz : i.zs = [E.enc z]) (hzo : E.ok z)
    (by_ : Nat) (hb : i.bytes = by_) (hb1 : 1 ≤ by_) (hlim : xs.length + ys.length ≤ E.lim) (hfit : c < xs.length + ys.length → (xs.length + ys.length) * by_ ≤ 140737488355328) {K : Option Addr → Nat → Nat → Hp → Prop}
    (post : ∀ a' c' h', GotE E h0 h' a' c' (xs ++ ys) → KeepX a h h' → (xs.length + ys.length ≤ c → c' = c) → K a' (xs.length + ys.length) c' h') : apK h e i a l c (.slice a2 n c3) K :=
  apE2 g k0 r hl hn hlv z hz hzo by_ hb hb1 hlim hfit fun a' c' h' g' k' e' => post a' c' h' g' k' fun hh => (e' hh).1
/-- append of one element or more that are written out. -/
theorem pushE {h0 h : Hp} {e : TypeId} {i : TyI} {a : Option Addr} {l c n m : Nat} {cs : List Value} {xs : List α} (E : El α) (g : GotE E h0 h a c xs) (k0 : Keep h0 h) (ys : List α) (hcs : cs = ys.map E.enc) (hok : ∀ y ∈ ys, E.ok y) (hl : l = xs.length) (hn : n = ys.length) (hlv : i.leaves.length = 1) (z : α) (hz : i.zs = [E.enc z]) (hzo : E.ok z)
    (by_ : Nat) (hb : i.bytes = by_) (hb1 : 1 ≤ by_) (hlim : xs.length + ys.length ≤ E.lim) (hfit : c < xs.length + ys.length → (xs.length + ys.length) * by_ ≤ 140737488355328) {K : Option Addr → Nat → Nat → Hp → Prop}
    (post : ∀ a' c' h', GotE E h0 h' a' c' (xs ++ ys) → Keep h0 h' → (xs.length + ys.length ≤ c → c' = c) → K a' (xs.length + ys.length) c' h') : boxK h e cs fun q h2 => apK h2 e i a l c (.slice (some q) n m) K := by
  refine boxE E ys hcs hok fun h2 o2 k2 => ?_
  have r := o2.rd' (c := ys.length) (by omega) (Nat.le_refl _)
  refine apE (g.keep k2) (Nat.le_trans k0.le k2.le) r hl hn hlv z hz hzo by_ hb hb1 hlim hfit fun a' c' h' g' kx hc => post a' c' h' g' ?_ hc
  exact kx.keep (k0.trans k2) g.offs
theorem Rd.keepX {h h' : Hp} {a m : Option Addr} {c : Nat} {xs : List Nat} (r : Rd h a c xs) (k : KeepX m h h') (o : ∀ p, a = some p → Off p.block m) : Rd h' a c xs :=
  ⟨r.len, r.cap, r.words, fun i hi => by
    obtain ⟨p, e, g⟩ := r.at_ i hi
    refine ⟨p, e, ?_⟩
    have hb := cellH_lt g
    rw [cellH_congr (k.pre _ hb (by rw [add_block]; exact o p e))]; exact g⟩
end Go.Gv
