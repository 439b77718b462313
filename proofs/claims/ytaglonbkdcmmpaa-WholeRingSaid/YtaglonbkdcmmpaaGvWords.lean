/- Lists of words in the heap: what a slice reads as, blocks that were made here, and how each step uses them. -/
import Derived.Test.YtaglonbkdcmmpaaGvGen
namespace Go.Gv
/-! ### numbers -/
theorem wrap_i64 {x : Int} (h1 : -9223372036854775808 ≤ x) (h2 : x < 9223372036854775808) : IntKind.i64.wrap x = x := by
  have e1 : (2 : Int) ^ 64 = 18446744073709551616 := by decide
  have e2 : (2 : Int) ^ (64 - 1) = 9223372036854775808 := by decide
  simp only [IntKind.wrap, IntKind.bits, IntKind.signed, Bool.true_and, e1, e2]
  by_cases hx : x % 18446744073709551616 ≥ 9223372036854775808
  · rw [if_pos (by simpa using hx)]; omega
  · rw [if_neg (by simpa using hx)]; omega
theorem wrap_u64 (x : Int) : IntKind.u64.wrap x = x % 18446744073709551616 := by
  simp [IntKind.wrap, IntKind.bits, IntKind.signed]
theorem wrap_u64' {x : Int} (h1 : 0 ≤ x) (h2 : x < 18446744073709551616) : IntKind.u64.wrap x = x := by
  rw [wrap_u64]; omega
/-! ### heaps that grow -/
structure Keep (h h' : Hp) : Prop where
  le : h.size ≤ h'.size
  pre : Pre h.size h h'
theorem Keep.refl (h : Hp) : Keep h h := ⟨Nat.le_refl _, fun _ _ => rfl⟩
theorem Keep.trans {a b c : Hp} (x : Keep a b) (y : Keep b c) : Keep a c :=
  ⟨Nat.le_trans x.le y.le, fun i hi => (y.pre i (Nat.lt_of_lt_of_le hi x.le)).trans (x.pre i hi)⟩
theorem cellH_lt {h : Hp} {q : Addr} {v : Value} (e : cellH h q = some v) : q.block < h.size := by
  unfold cellH at e
  split at e
  · next h1 => exact (Array.getElem?_eq_some_iff.mp h1).1
  · cases e
theorem Keep.cell {h h' : Hp} (k : Keep h h') {q : Addr} {v : Value} (e : cellH h q = some v) : cellH h' q = some v := by
  rw [cellH_congr (k.pre _ (cellH_lt e))]; exact e
theorem add_add (p : Addr) (i j : Nat) : (p.add i).add j = p.add (i + j) := by
  unfold Addr.add
  by_cases hi : i = 0 <;> by_cases hj : j = 0 <;> simp [hi, hj, Nat.add_assoc]
theorem base_add (b i : Nat) : (⟨b, 0, none⟩ : Addr).add i = ⟨b, i, none⟩ := by
  unfold Addr.add
  by_cases hi : i = 0 <;> simp [hi]
/-! ### what a slice reads as -/
abbrev wv (x : Nat) : Value := .int .u64 (x : Int)
structure Rd (h : Hp) (a : Option Addr) (c : Nat) (xs : List Nat) : Prop where
  len : xs.length ≤ 35184372088828
  cap : xs.length ≤ c
  words : ∀ x ∈ xs, x < 18446744073709551616
  at_ : ∀ i, i < xs.length → ∃ p, a = some p ∧ cellH h (p.add i) = some (wv (xs.getD i 0))
theorem Rd.keep {h h' : Hp} {a : Option Addr} {c : Nat} {xs : List Nat} (r : Rd h a c xs) (k : Keep h h') : Rd h' a c xs :=
  ⟨r.len, r.cap, r.words, fun i hi => let ⟨p, e, g⟩ := r.at_ i hi; ⟨p, e, k.cell g⟩⟩
theorem Rd.nil (h : Hp) (a : Option Addr) (c : Nat) : Rd h a c [] := ⟨by simp, by simp, by simp, fun i hi => absurd hi (by simp)⟩
theorem getD_lt {xs : List Nat} (hw : ∀ x ∈ xs, x < 18446744073709551616) (i : Nat) : xs.getD i 0 < 18446744073709551616 := by
  by_cases hi : i < xs.length
  · have e : xs.getD i 0 = xs[i] := by simp [List.getD, hi]
    rw [e]; exact hw _ (List.getElem_mem hi)
  · have e : xs.getD i 0 = 0 := by simp [List.getD, Nat.le_of_not_lt hi]
    rw [e]; decide
theorem Rd.word {h : Hp} {a : Option Addr} {c : Nat} {xs : List Nat} (r : Rd h a c xs) (i : Nat) : xs.getD i 0 < 18446744073709551616 := getD_lt r.words i
theorem Rd.take {h : Hp} {a : Option Addr} {c : Nat} {xs : List Nat} (r : Rd h a c xs) (n : Nat) : Rd h a c (xs.take n) := by
  refine ⟨?_, ?_, fun x hx => r.words x (List.mem_of_mem_take hx), fun i hi => ?_⟩
  · have := r.len; rw [List.length_take]; omega
  · have := r.cap; rw [List.length_take]; omega
  · rw [List.length_take] at hi
    obtain ⟨p, e, g⟩ := r.at_ i (by omega)
    refine ⟨p, e, ?_⟩
    have e2 : (xs.take n).getD i 0 = xs.getD i 0 := by
      simp only [List.getD, List.getElem?_take]
      rw [if_pos (by omega)]
    rw [e2]; exact g
theorem Rd.cap_le {h : Hp} {a : Option Addr} {c c' : Nat} {xs : List Nat} (r : Rd h a c xs) (hc : xs.length ≤ c') : Rd h a c' xs := ⟨r.len, hc, r.words, r.at_⟩
theorem Rd.drop {h : Hp} {a : Option Addr} {c : Nat} {xs : List Nat} (r : Rd h a c xs) (n : Nat) (hn : n ≤ xs.length) : Rd h (subA a c n 1) (c - n) (xs.drop n) := by
  have h1 := r.len; have h2 := r.cap
  refine ⟨?_, ?_, fun x hx => r.words x (List.mem_of_mem_drop hx), fun i hi => ?_⟩
  · rw [List.length_drop]; omega
  · rw [List.length_drop]; omega
  · rw [List.length_drop] at hi
    obtain ⟨p, e, g⟩ := r.at_ (n + i) (by omega)
    have e2 : (xs.drop n).getD i 0 = xs.getD (n + i) 0 := by simp only [List.getD, List.getElem?_drop]
    refine ⟨p.add n, ?_, by rw [add_add, e2]; exact g⟩
    rw [e]; unfold subA
    rw [if_neg (by omega)]; simp
/-- Reading a place. -/
theorem at_intro {h : Hp} {a : Option Addr} {c l : Nat} {xs : List Nat} (r : Rd h a c xs) {i : Int} {j : Nat} (hi : i = (j : Int)) (hl : l = xs.length) (hj : j < xs.length) {K : Int → Prop}
    (g : K (xs.getD j 0 : Nat)) : idxK a l i 1 fun q => ldK h q fun v => gInt .u64 v K := by
  subst hi; subst hl
  obtain ⟨p, e, hc⟩ := r.at_ j hj
  subst e
  refine ⟨⟨by omega, by omega⟩, ?_⟩
  show ldK h (p.add ((j : Int).toNat * 1)) _
  have e2 : (j : Int).toNat * 1 = j := by omega
  rw [e2]
  unfold ldK; rw [hc]; exact g
/-! ### blocks that were made here -/
structure Own (h : Hp) (b : Nat) (xs : List Nat) : Prop where
  len : xs.length ≤ 35184372088828
  words : ∀ x ∈ xs, x < 18446744073709551616
  at_ : ∃ e, h[b]? = some (.cells (xs.map wv).toArray e (0, 0))
theorem Own.lt {h : Hp} {b : Nat} {xs : List Nat} (o : Own h b xs) : b < h.size := by
  obtain ⟨e, g⟩ := o.at_; exact (Array.getElem?_eq_some_iff.mp g).1
theorem Own.word {h : Hp} {b : Nat} {xs : List Nat} (o : Own h b xs) (i : Nat) : xs.getD i 0 < 18446744073709551616 := getD_lt o.words i
theorem Own.cell {h : Hp} {b : Nat} {xs : List Nat} (o : Own h b xs) {i : Nat} (hi : i < xs.length) : cellH h ⟨b, i, none⟩ = some (wv (xs.getD i 0)) := by
  obtain ⟨e, g⟩ := o.at_
  unfold cellH
  simp only [g, Option.isSome_none, Bool.false_eq_true, if_false]
  simp [List.getD, hi]
theorem Own.frozen {h : Hp} {b : Nat} {xs : List Nat} (o : Own h b xs) (i : Nat) : frozenH h ⟨b, i, none⟩ = false := by
  obtain ⟨e, g⟩ := o.at_
  unfold frozenH
  simp [g]
theorem Own.rd {h : Hp} {b : Nat} {xs : List Nat} (o : Own h b xs) {c : Nat} (hc : xs.length ≤ c) : Rd h (some ⟨b, 0, none⟩) c xs :=
  ⟨o.len, hc, o.words, fun i hi => ⟨_, rfl, by rw [base_add]; exact o.cell hi⟩⟩
theorem getElem?_setH {h : Hp} {q : Addr} {v : Value} {b : Nat} (hb : b ≠ q.block) : (setH h q v)[b]? = h[b]? := by
  unfold setH
  rw [Array.getElem?_modify]
  rw [if_neg (fun e => hb e.symm)]
theorem size_setH {h : Hp} {q : Addr} {v : Value} : (setH h q v).size = h.size := by unfold setH; simp
theorem Own.set {h : Hp} {b : Nat} {xs : List Nat} (o : Own h b xs) (i : Nat) {v : Nat} (hv : v < 18446744073709551616) : Own (setH h ⟨b, i, none⟩ (wv v)) b (xs.set i v) := by
  refine ⟨by rw [List.length_set]; exact o.len, fun x hx => ?_, ?_⟩
  · rcases List.mem_or_eq_of_mem_set hx with h1 | h1
    · exact o.words x h1
    · subst h1; exact hv
  · obtain ⟨e, g⟩ := o.at_
    refine ⟨e, ?_⟩
    unfold setH
    rw [Array.getElem?_modify]
    simp only [if_true, g, Option.map_some]
    simp [List.map_set]
theorem Keep.set {h h' : Hp} (k : Keep h h') {b i : Nat} {v : Value} (hb : h.size ≤ b) : Keep h (setH h' ⟨b, i, none⟩ v) :=
  ⟨by rw [size_setH]; exact k.le, fun j hj => by rw [getElem?_setH (by show j ≠ b; omega)]; exact k.pre j hj⟩
theorem Own.other {h : Hp} {b b' i : Nat} {v : Value} {xs : List Nat} (o : Own h b xs) (hb : b ≠ b') : Own (setH h ⟨b', i, none⟩ v) b xs := by
  obtain ⟨e, g⟩ := o.at_
  exact ⟨o.len, o.words, e, by rw [getElem?_setH (by exact hb)]; exact g⟩
theorem Own.keep {h h' : Hp} {b : Nat} {xs : List Nat} (o : Own h b xs) (k : Keep h h') : Own h' b xs := by
  obtain ⟨e, g⟩ := o.at_
  exact ⟨o.len, o.words, e, by rw [k.pre b o.lt]; exact g⟩
/-- Writing a place of such a block. -/
theorem put_intro {h : Hp} {b l : Nat} {xs : List Nat} (o : Own h b xs) {i : Int} {j : Nat} (hi : i = (j : Int)) (hl : l = xs.length) (hj : j < xs.length) {x : Int} {v : Nat} (hx : x = (v : Int)) (hv : v < 18446744073709551616) {K : Hp → Prop}
    (g : Own (setH h ⟨b, j, none⟩ (wv v)) b (xs.set j v) → K (setH h ⟨b, j, none⟩ (wv v))) : idxK (some ⟨b, 0, none⟩) l i 1 fun q => stK h q (.int .u64 x) K := by
  subst hi; subst hl; subst hx
  refine ⟨⟨by omega, by omega⟩, ?_⟩
  show stK h ((⟨b, 0, none⟩ : Addr).add ((j : Int).toNat * 1)) _ _
  have e2 : (j : Int).toNat * 1 = j := by omega
  rw [e2, base_add]
  exact ⟨⟨⟨_, o.cell hj⟩, o.frozen j⟩, g (o.set j hv)⟩
theorem zerosL_one (n : Nat) (z : Value) : zerosL [z] n = List.replicate n z := by
  induction n with
  | zero => rfl
  | succ n ih => show [z] ++ zerosL [z] n = _; rw [ih, List.replicate_succ]; rfl
/-- Making one. -/
theorem mk_intro {h : Hp} {e : TypeId} {i : TyI} {n m : Int} (k : Nat) (hz : i.zs = [wv 0]) (hb : i.bytes = 8) (hn : n = (k : Int)) (hm : m = (k : Int)) (hk : k ≤ 35184372088828) {K : Addr → Hp → Prop}
    (g : ∀ h', Own h' h.size (List.replicate k 0) → Keep h h' → K ⟨h.size, 0, none⟩ h') : mkK h e i n m K := by
  subst hn; subst hm
  refine ⟨⟨by omega, by omega, by omega, by rw [hb]; omega⟩, g _ ⟨by simpa using hk, ?_, e, ?_⟩ ⟨by simp, fun b hb => ?_⟩⟩
  · intro x hx; have := List.eq_of_mem_replicate hx; omega
  · rw [hz, zerosL_one]; simp
  · rw [Array.getElem?_push]; rw [if_neg (by omega)]
/-- A list of one word or more that is written out. -/
theorem box_intro {h : Hp} {e : TypeId} {cs : List Value} (xs : List Nat) (hx : cs = xs.map wv) (hl : xs.length ≤ 35184372088828) (hw : ∀ x ∈ xs, x < 18446744073709551616) {K : Addr → Hp → Prop}
    (g : ∀ h', Own h' h.size xs → Keep h h' → K ⟨h.size, 0, none⟩ h') : boxK h e cs K := by
  subst hx
  refine g _ ⟨hl, hw, e, ?_⟩ ⟨by simp, fun b hb => ?_⟩
  · simp
  · rw [Array.getElem?_push]; rw [if_neg (by omega)]
theorem rdL_of {h : Hp} {p : Addr} : ∀ {vs : List Nat} {i : Nat}, (∀ j, j < vs.length → cellH h (p.add (i + j)) = some (wv (vs.getD j 0))) → RdL h p i (vs.map wv)
  | [], _, _ => trivial
  | v :: vs, i, g => by
    refine ⟨by have := g 0 (by simp); simpa using this, rdL_of fun j hj => ?_⟩
    have := g (j + 1) (by simpa using hj)
    rw [show i + 1 + j = i + (j + 1) by omega]
    simpa using this
theorem stL_of {h : Hp} {p : Addr} : ∀ {n i : Nat}, (∀ j, j < n → (∃ v, cellH h (p.add (i + j)) = some v) ∧ frozenH h (p.add (i + j)) = false) → StL h p i n
  | 0, _, _ => trivial
  | n + 1, i, g => ⟨by have := g 0 (by omega); simpa using this, stL_of fun j hj => by rw [show i + 1 + j = i + (j + 1) by omega]; exact g (j + 1) (by omega)⟩
theorem stH_own {b : Nat} : ∀ {vs : List Nat} {h h0 : Hp} {xs : List Nat} {i : Nat}, Own h b xs → (∀ x ∈ vs, x < 18446744073709551616) → i + vs.length ≤ xs.length → (h0.size ≤ b) → Keep h0 h →
    Own (stH h ⟨b, 0, none⟩ i (vs.map wv)) b (xs.take i ++ (vs ++ xs.drop (i + vs.length))) ∧ Keep h0 (stH h ⟨b, 0, none⟩ i (vs.map wv))
  | [], h, h0, xs, i, o, _, _, _, k => by simpa [stH] using ⟨o, k⟩
  | v :: vs, h, h0, xs, i, o, hw, hl, hb, k => by
    simp only [List.length_cons] at hl
    have e : stH h ⟨b, 0, none⟩ i ((v :: vs).map wv) = stH (setH h ⟨b, i, none⟩ (wv v)) ⟨b, 0, none⟩ (i + 1) (vs.map wv) := by
      show stH (setH h ((⟨b, 0, none⟩ : Addr).add i) (wv v)) _ _ _ = _
      rw [base_add]
    rw [e]
    have := stH_own (vs := vs) (i := i + 1) (o.set i (hw v (by simp))) (fun x hx => hw x (by simp [hx])) (by rw [List.length_set]; omega) hb (k.set (v := wv v) (i := i) hb)
    refine ⟨?_, this.2⟩
    have e2 : (xs.set i v).take (i + 1) ++ (vs ++ (xs.set i v).drop (i + 1 + vs.length)) = xs.take i ++ (v :: vs ++ xs.drop (i + (v :: vs).length)) := by
      rw [List.drop_set_of_lt (by omega), List.length_cons, show i + 1 + vs.length = i + (vs.length + 1) by omega]
      rw [List.take_add_one, List.take_set_of_le (Nat.le_refl i)]
      simp [show i < xs.length by omega]
    rw [← e2]; exact this.1
/-- Copying a whole list over a block. -/
theorem cp_intro {h : Hp} {b l l2 c2 : Nat} {xs ys : List Nat} {a : Option Addr} {h0 : Hp} (o : Own h b xs) (r : Rd h a c2 ys) (hl : l = xs.length) (hl2 : l2 = ys.length) (hb : h0.size ≤ b) (k : Keep h0 h) {K : Int → Hp → Prop}
    (g : ∀ h', Own h' b (ys.take xs.length ++ xs.drop ys.length) → Keep h0 h' → K ((Nat.min ys.length xs.length : Nat) : Int) h') : cpK h 1 (some ⟨b, 0, none⟩) l (.slice a l2 c2) K := by
  subst hl; subst hl2
  have hm : (ys.take xs.length).length = Nat.min ys.length xs.length := by
    rw [List.length_take]; exact Nat.min_comm _ _
  have hle : Nat.min ys.length xs.length ≤ xs.length := Nat.min_le_right _ _
  refine ⟨ys.length, (ys.take xs.length).map wv, rfl, ⟨by rw [List.length_map, hm]; omega, ?_, ?_⟩, ?_, ?_⟩
  · intro v hv
    obtain ⟨x, _, e⟩ := List.mem_map.mp hv
    subst e; rfl
  · cases a with
    | none =>
      show (ys.take xs.length).map wv = []
      cases ys with
      | nil => simp
      | cons y ys => obtain ⟨p, e, _⟩ := r.at_ 0 (by simp); cases e
    | some p =>
      refine rdL_of fun j hj => ?_
      obtain ⟨p', e, g'⟩ := (r.take xs.length).at_ j hj
      cases e
      rw [Nat.zero_add]; exact g'
  · refine stL_of fun j hj => ?_
    rw [Nat.zero_add, base_add]
    rw [List.length_map, hm] at hj
    exact ⟨⟨_, o.cell (by omega)⟩, o.frozen j⟩
  · have := stH_own (vs := ys.take xs.length) (i := 0) o (fun x hx => r.words x (List.mem_of_mem_take hx)) (by rw [hm]; omega) hb k
    refine g _ ?_ this.2
    have e : xs.take 0 ++ (ys.take xs.length ++ xs.drop (0 + (ys.take xs.length).length)) = ys.take xs.length ++ xs.drop ys.length := by
      rw [List.take_zero, List.nil_append, Nat.zero_add, hm]
      congr 1
      by_cases hc : ys.length ≤ xs.length
      · rw [show Nat.min ys.length xs.length = ys.length from Nat.min_eq_left hc]
      · rw [show Nat.min ys.length xs.length = xs.length from Nat.min_eq_right (by omega), List.drop_of_length_le (Nat.le_refl _), List.drop_of_length_le (by omega)]
    rw [← e]; exact this.1
/-! ### parts of slices -/
theorem sl_to {a : Option Addr} {l c : Nat} {x : Int} {n : Nat} (hx : x = (n : Int)) (hn : n ≤ c) {K : Option Addr → Nat → Nat → Prop} (g : K a n c) : slK 1 a l c none (some (.int .i64 x)) none K := by
  subst hx
  show (0 ≤ (n : Int) ∧ (n : Int) ≤ (c : Int)) ∧ K (subA a c 0 1) ((n : Int).toNat - 0) (c - 0)
  refine ⟨⟨by omega, by omega⟩, ?_⟩
  have e : subA a c 0 1 = a := by
    unfold subA
    split
    · rfl
    · cases a <;> simp [Addr.add]
  rw [e]; simpa using g
theorem sl_from {a : Option Addr} {l c : Nat} {x : Int} {n : Nat} (hx : x = (n : Int)) (hn : n ≤ l) {K : Option Addr → Nat → Nat → Prop} (g : K (subA a c n 1) (l - n) (c - n)) : slK 1 a l c (some (.int .i64 x)) none none K := by
  subst hx
  exact ⟨⟨by omega, by omega⟩, by simpa using g⟩
theorem hc_intro {P : Program} {f : FuncId} {args : Array Value} {h : Hp} {S K : Value → Hp → Prop} (hc : HCalls P f args h S) (g : ∀ v h', S v h' → K v h') : HCalls P f args h K := hc.mono g
end Go.Gv
