/- Texts of this work, joined: GvWords, GvRow, GvOpen, GvNat, GvSteps, GvBlock, GvNat32, GvElt, GvVal, GvDig, GvList, GvBox, GvFresh. -/
import Derived.Carry
import Derived.ChangeSlices
import Derived.WalkKit
import Derived.ProofKit
import Derived.OpenShut
import Derived.ShutString
import Derived.ChangeOld
import Derived.Below
import Derived.SizedLaws
import Derived.ChangeArms
import Derived.Laws.Append
import Derived.Test.YtjijdlkpmngolaaGreatKA
/- Lists of words in the heap: what a slice reads as, blocks that were made here, and how each step uses them. -/
namespace Go.Gv
/-! ### numbers -/
theorem wrap_i64 {x : Int} (h1 : -9223372036854775808 ≤ x) (h2 : x < 9223372036854775808) : IntKind.i64.wrap x = x := by
  have e1 : (2 : Int) ^ 64 = 18446744073709551616 := by decide
  have e2 : (2 : Int) ^ (64 - 1) = 9223372036854775808 := by decide
  simp only [IntKind.wrap, IntKind.bits, IntKind.signed, Bool.true_and, e1, e2]
  by_cases hx : x % 18446744073709551616 ≥ 9223372036854775808
  · rw [if_pos (by simpa using hx)]; omega
  · rw [if_neg (by simpa using hx)]; omega
theorem wrap_u64 (x : Int) : IntKind.u64.wrap x = x % 18446744073709551616 := by
  simp [IntKind.wrap, IntKind.bits, IntKind.signed]
theorem wrap_u64' {x : Int} (h1 : 0 ≤ x) (h2 : x < 18446744073709551616) : IntKind.u64.wrap x = x := by
  rw [wrap_u64]; omega
/-! ### heaps that grow -/
structure Keep (h h' : Hp) : Prop where
  le : h.size ≤ h'.size
  pre : Pre h.size h h'
theorem Keep.refl (h : Hp) : Keep h h := ⟨Nat.le_refl _, fun _ _ => rfl⟩
theorem Keep.trans {a b c : Hp} (x : Keep a b) (y : Keep b c) : Keep a c :=
  ⟨Nat.le_trans x.le y.le, fun i hi => (y.pre i (Nat.lt_of_lt_of_le hi x.le)).trans (x.pre i hi)⟩
theorem cellH_lt {h : Hp} {q : Addr} {v : Value} (e : cellH h q = some v) : q.block < h.size := by
  unfold cellH at e
  split at e
  · next h1 => exact (Array.getElem?_eq_some_iff.mp h1).1
  · cases e
theorem Keep.cell {h h' : Hp} (k : Keep h h') {q : Addr} {v : Value} (e : cellH h q = some v) : cellH h' q = some v := by
  rw [cellH_congr (k.pre _ (cellH_lt e))]; exact e
theorem add_add (p : Addr) (i j : Nat) : (p.add i).add j = p.add (i + j) := by
  unfold Addr.add
  by_cases hi : i = 0 <;> by_cases hj : j = 0 <;> simp [hi, hj, Nat.add_assoc]
theorem base_add (b i : Nat) : (⟨b, 0, none⟩ : Addr).add i = ⟨b, i, none⟩ := by
  unfold Addr.add
  by_cases hi : i = 0 <;> simp [hi]
/-! ### what a slice reads as -/
abbrev wv (x : Nat) : Value := .int .u64 (x : Int)
structure Rd (h : Hp) (a : Option Addr) (c : Nat) (xs : List Nat) : Prop where
  len : xs.length ≤ 35184372088828
  cap : xs.length ≤ c
  words : ∀ x ∈ xs, x < 18446744073709551616
  at_ : ∀ i, i < xs.length → ∃ p, a = some p ∧ cellH h (p.add i) = some (wv (xs.getD i 0))
theorem Rd.keep {h h' : Hp} {a : Option Addr} {c : Nat} {xs : List Nat} (r : Rd h a c xs) (k : Keep h h') : Rd h' a c xs :=
  ⟨r.len, r.cap, r.words, fun i hi => let ⟨p, e, g⟩ := r.at_ i hi; ⟨p, e, k.cell g⟩⟩
theorem Rd.nil (h : Hp) (a : Option Addr) (c : Nat) : Rd h a c [] := ⟨by simp, by simp, by simp, fun i hi => absurd hi (by simp)⟩
theorem getD_lt {xs : List Nat} (hw : ∀ x ∈ xs, x < 18446744073709551616) (i : Nat) : xs.getD i 0 < 18446744073709551616 := by
  by_cases hi : i < xs.length
  · have e : xs.getD i 0 = xs[i] := by simp [List.getD, hi]
    rw [e]; exact hw _ (List.getElem_mem hi)
  · have e : xs.getD i 0 = 0 := by simp [List.getD, Nat.le_of_not_lt hi]
    rw [e]; decide
theorem Rd.word {h : Hp} {a : Option Addr} {c : Nat} {xs : List Nat} (r : Rd h a c xs) (i : Nat) : xs.getD i 0 < 18446744073709551616 := getD_lt r.words i
theorem Rd.take {h : Hp} {a : Option Addr} {c : Nat} {xs : List Nat} (r : Rd h a c xs) (n : Nat) : Rd h a c (xs.take n) := by
  refine ⟨?_, ?_, fun x hx => r.words x (List.mem_of_mem_take hx), fun i hi => ?_⟩
  · have := r.len; rw [List.length_take]; omega
  · have := r.cap; rw [List.length_take]; omega
  · rw [List.length_take] at hi
    obtain ⟨p, e, g⟩ := r.at_ i (by omega)
    refine ⟨p, e, ?_⟩
    have e2 : (xs.take n).getD i 0 = xs.getD i 0 := by
      simp only [List.getD, List.getElem?_take]
      rw [if_pos (by omega)]
    rw [e2]; exact g
theorem Rd.cap_le {h : Hp} {a : Option Addr} {c c' : Nat} {xs : List Nat} (r : Rd h a c xs) (hc : xs.length ≤ c') : Rd h a c' xs := ⟨r.len, hc, r.words, r.at_⟩
theorem Rd.drop {h : Hp} {a : Option Addr} {c : Nat} {xs : List Nat} (r : Rd h a c xs) (n : Nat) (hn : n ≤ xs.length) : Rd h (subA a c n 1) (c - n) (xs.drop n) := by
  have h1 := r.len; have h2 := r.cap
  refine ⟨?_, ?_, fun x hx => r.words x (List.mem_of_mem_drop hx), fun i hi => ?_⟩
  · rw [List.length_drop]; omega
  · rw [List.length_drop]; omega
  · rw [List.length_drop] at hi
    obtain ⟨p, e, g⟩ := r.at_ (n + i) (by omega)
    have e2 : (xs.drop n).getD i 0 = xs.getD (n + i) 0 := by simp only [List.getD, List.getElem?_drop]
    refine ⟨p.add n, ?_, by rw [add_add, e2]; exact g⟩
    rw [e]; unfold subA
    rw [if_neg (by omega)]; simp
/-- Reading a place. -/
theorem at_intro {h : Hp} {a : Option Addr} {c l : Nat} {xs : List Nat} (r : Rd h a c xs) {i : Int} {j : Nat} (hi : i = (j : Int)) (hl : l = xs.length) (hj : j < xs.length) {K : Int → Prop}
    (g : K (xs.getD j 0 : Nat)) : idxK a l i 1 fun q => ldK h q fun v => gInt .u64 v K := by
  subst hi; subst hl
  obtain ⟨p, e, hc⟩ := r.at_ j hj
  subst e
  refine ⟨⟨by omega, by omega⟩, ?_⟩
  show ldK h (p.add ((j : Int).toNat * 1)) _
  have e2 : (j : Int).toNat * 1 = j := by omega
  rw [e2]
  unfold ldK; rw [hc]; exact g
/-! ### blocks that were made here -/
structure Own (h : Hp) (b : Nat) (xs : List Nat) : Prop where
  len : xs.length ≤ 35184372088828
  words : ∀ x ∈ xs, x < 18446744073709551616
  at_ : ∃ e, h[b]? = some (.cells (xs.map wv).toArray e (0, 0))
theorem Own.lt {h : Hp} {b : Nat} {xs : List Nat} (o : Own h b xs) : b < h.size := by
  obtain ⟨e, g⟩ := o.at_; exact (Array.getElem?_eq_some_iff.mp g).1
theorem Own.word {h : Hp} {b : Nat} {xs : List Nat} (o : Own h b xs) (i : Nat) : xs.getD i 0 < 18446744073709551616 := getD_lt o.words i
theorem Own.cell {h : Hp} {b : Nat} {xs : List Nat} (o : Own h b xs) {i : Nat} (hi : i < xs.length) : cellH h ⟨b, i, none⟩ = some (wv (xs.getD i 0)) := by
  obtain ⟨e, g⟩ := o.at_
  unfold cellH
  simp only [g, Option.isSome_none, Bool.false_eq_true, if_false]
  simp [List.getD, hi]
theorem Own.frozen {h : Hp} {b : Nat} {xs : List Nat} (o : Own h b xs) (i : Nat) : frozenH h ⟨b, i, none⟩ = false := by
  obtain ⟨e, g⟩ := o.at_
  unfold frozenH
  simp [g]
theorem Own.rd {h : Hp} {b : Nat} {xs : List Nat} (o : Own h b xs) {c : Nat} (hc : xs.length ≤ c) : Rd h (some ⟨b, 0, none⟩) c xs :=
  ⟨o.len, hc, o.words, fun i hi => ⟨_, rfl, by rw [base_add]; exact o.cell hi⟩⟩
theorem getElem?_setH {h : Hp} {q : Addr} {v : Value} {b : Nat} (hb : b ≠ q.block) : (setH h q v)[b]? = h[b]? := by
  unfold setH
  rw [Array.getElem?_modify]
  rw [if_neg (fun e => hb e.symm)]
theorem size_setH {h : Hp} {q : Addr} {v : Value} : (setH h q v).size = h.size := by unfold setH; simp
theorem Own.set {h : Hp} {b : Nat} {xs : List Nat} (o : Own h b xs) (i : Nat) {v : Nat} (hv : v < 18446744073709551616) : Own (setH h ⟨b, i, none⟩ (wv v)) b (xs.set i v) := by
  refine ⟨by rw [List.length_set]; exact o.len, fun x hx => ?_, ?_⟩
  · rcases List.mem_or_eq_of_mem_set hx with h1 | h1
    · exact o.words x h1
    · subst h1; exact hv
  · obtain ⟨e, g⟩ := o.at_
    refine ⟨e, ?_⟩
    unfold setH
    rw [Array.getElem?_modify]
    simp only [if_true, g, Option.map_some]
    simp [List.map_set]
theorem Keep.set {h h' : Hp} (k : Keep h h') {b i : Nat} {v : Value} (hb : h.size ≤ b) : Keep h (setH h' ⟨b, i, none⟩ v) :=
  ⟨by rw [size_setH]; exact k.le, fun j hj => by rw [getElem?_setH (by show j ≠ b; omega)]; exact k.pre j hj⟩
theorem Own.keep {h h' : Hp} {b : Nat} {xs : List Nat} (o : Own h b xs) (k : Keep h h') : Own h' b xs := by
  obtain ⟨e, g⟩ := o.at_
  exact ⟨o.len, o.words, e, by rw [k.pre b o.lt]; exact g⟩
/-- Writing a place of such a block. -/
theorem put_intro {h : Hp} {b l : Nat} {xs : List Nat} (o : Own h b xs) {i : Int} {j : Nat} (hi : i = (j : Int)) (hl : l = xs.length) (hj : j < xs.length) {x : Int} {v : Nat} (hx : x = (v : Int)) (hv : v < 18446744073709551616) {K : Hp → Prop}
    (g : Own (setH h ⟨b, j, none⟩ (wv v)) b (xs.set j v) → K (setH h ⟨b, j, none⟩ (wv v))) : idxK (some ⟨b, 0, none⟩) l i 1 fun q => stK h q (.int .u64 x) K := by
  subst hi; subst hl; subst hx
  refine ⟨⟨by omega, by omega⟩, ?_⟩
  show stK h ((⟨b, 0, none⟩ : Addr).add ((j : Int).toNat * 1)) _ _
  have e2 : (j : Int).toNat * 1 = j := by omega
  rw [e2, base_add]
  exact ⟨⟨⟨_, o.cell hj⟩, o.frozen j⟩, g (o.set j hv)⟩
theorem zerosL_one (n : Nat) (z : Value) : zerosL [z] n = List.replicate n z := by
  induction n with
  | zero => rfl
  | succ n ih => show [z] ++ zerosL [z] n = _; rw [ih, List.replicate_succ]; rfl
/-- Making one. -/
theorem mk_intro {h : Hp} {e : TypeId} {i : TyI} {n m : Int} (k : Nat) (hz : i.zs = [wv 0]) (hb : i.bytes = 8) (hn : n = (k : Int)) (hm : m = (k : Int)) (hk : k ≤ 35184372088828) {K : Addr → Hp → Prop}
    (g : ∀ h', Own h' h.size (List.replicate k 0) → Keep h h' → K ⟨h.size, 0, none⟩ h') : mkK h e i n m K := by
  subst hn; subst hm
  refine ⟨⟨by omega, by omega, by omega, by rw [hb]; omega⟩, g _ ⟨by simpa using hk, ?_, e, ?_⟩ ⟨by simp, fun b hb => ?_⟩⟩
  · intro x hx; have := List.eq_of_mem_replicate hx; omega
  · rw [hz, zerosL_one]; simp
  · rw [Array.getElem?_push]; rw [if_neg (by omega)]
/-- A list of one word or more that is written out. -/
theorem box_intro {h : Hp} {e : TypeId} {cs : List Value} (xs : List Nat) (hx : cs = xs.map wv) (hl : xs.length ≤ 35184372088828) (hw : ∀ x ∈ xs, x < 18446744073709551616) {K : Addr → Hp → Prop}
    (g : ∀ h', Own h' h.size xs → Keep h h' → K ⟨h.size, 0, none⟩ h') : boxK h e cs K := by
  subst hx
  refine g _ ⟨hl, hw, e, ?_⟩ ⟨by simp, fun b hb => ?_⟩
  · simp
  · rw [Array.getElem?_push]; rw [if_neg (by omega)]
theorem rdL_of {h : Hp} {p : Addr} : ∀ {vs : List Nat} {i : Nat}, (∀ j, j < vs.length → cellH h (p.add (i + j)) = some (wv (vs.getD j 0))) → RdL h p i (vs.map wv)
  | [], _, _ => trivial
  | v :: vs, i, g => by
    refine ⟨by have := g 0 (by simp); simpa using this, rdL_of fun j hj => ?_⟩
    have := g (j + 1) (by simpa using hj)
    rw [show i + 1 + j = i + (j + 1) by omega]
    simpa using this
theorem stL_of {h : Hp} {p : Addr} : ∀ {n i : Nat}, (∀ j, j < n → (∃ v, cellH h (p.add (i + j)) = some v) ∧ frozenH h (p.add (i + j)) = false) → StL h p i n
  | 0, _, _ => trivial
  | n + 1, i, g => ⟨by have := g 0 (by omega); simpa using this, stL_of fun j hj => by rw [show i + 1 + j = i + (j + 1) by omega]; exact g (j + 1) (by omega)⟩
theorem stH_own {b : Nat} : ∀ {vs : List Nat} {h h0 : Hp} {xs : List Nat} {i : Nat}, Own h b xs → (∀ x ∈ vs, x < 18446744073709551616) → i + vs.length ≤ xs.length → (h0.size ≤ b) → Keep h0 h →
    Own (stH h ⟨b, 0, none⟩ i (vs.map wv)) b (xs.take i ++ (vs ++ xs.drop (i + vs.length))) ∧ Keep h0 (stH h ⟨b, 0, none⟩ i (vs.map wv))
  | [], h, h0, xs, i, o, _, _, _, k => by simpa [stH] using ⟨o, k⟩
  | v :: vs, h, h0, xs, i, o, hw, hl, hb, k => by
    simp only [List.length_cons] at hl
    have e : stH h ⟨b, 0, none⟩ i ((v :: vs).map wv) = stH (setH h ⟨b, i, none⟩ (wv v)) ⟨b, 0, none⟩ (i + 1) (vs.map wv) := by
      show stH (setH h ((⟨b, 0, none⟩ : Addr).add i) (wv v)) _ _ _ = _
      rw [base_add]
    rw [e]
    have := stH_own (vs := vs) (i := i + 1) (o.set i (hw v (by simp))) (fun x hx => hw x (by simp [hx])) (by rw [List.length_set]; omega) hb (k.set (v := wv v) (i := i) hb)
    refine ⟨?_, this.2⟩
    have e2 : (xs.set i v).take (i + 1) ++ (vs ++ (xs.set i v).drop (i + 1 + vs.length)) = xs.take i ++ (v :: vs ++ xs.drop (i + (v :: vs).length)) := by
      rw [List.drop_set_of_lt (by omega), List.length_cons, show i + 1 + vs.length = i + (vs.length + 1) by omega]
      rw [List.take_add_one, List.take_set_of_le (Nat.le_refl i)]
      simp [show i < xs.length by omega]
    rw [← e2]; exact this.1
/-- Copying a whole list over a block. -/
theorem cp_intro {h : Hp} {b l l2 c2 : Nat} {xs ys : List Nat} {a : Option Addr} {h0 : Hp} (o : Own h b xs) (r : Rd h a c2 ys) (hl : l = xs.length) (hl2 : l2 = ys.length) (hb : h0.size ≤ b) (k : Keep h0 h) {K : Int → Hp → Prop}
    (g : ∀ h', Own h' b (ys.take xs.length ++ xs.drop ys.length) → Keep h0 h' → K ((Nat.min ys.length xs.length : Nat) : Int) h') : cpK h 1 (some ⟨b, 0, none⟩) l (.slice a l2 c2) K := by
  subst hl; subst hl2
  have hm : (ys.take xs.length).length = Nat.min ys.length xs.length := by
    rw [List.length_take]; exact Nat.min_comm _ _
  have hle : Nat.min ys.length xs.length ≤ xs.length := Nat.min_le_right _ _
  refine ⟨ys.length, (ys.take xs.length).map wv, rfl, ⟨by rw [List.length_map, hm]; omega, ?_, ?_⟩, ?_, ?_⟩
  · intro v hv
    obtain ⟨x, _, e⟩ := List.mem_map.mp hv
    subst e; rfl
  · cases a with
    | none =>
      show (ys.take xs.length).map wv = []
      cases ys with
      | nil => simp
      | cons y ys => obtain ⟨p, e, _⟩ := r.at_ 0 (by simp); cases e
    | some p =>
      refine rdL_of fun j hj => ?_
      obtain ⟨p', e, g'⟩ := (r.take xs.length).at_ j hj
      cases e
      rw [Nat.zero_add]; exact g'
  · refine stL_of fun j hj => ?_
    rw [Nat.zero_add, base_add]
    rw [List.length_map, hm] at hj
    exact ⟨⟨_, o.cell (by omega)⟩, o.frozen j⟩
  · have := stH_own (vs := ys.take xs.length) (i := 0) o (fun x hx => r.words x (List.mem_of_mem_take hx)) (by rw [hm]; omega) hb k
    refine g _ ?_ this.2
    have e : xs.take 0 ++ (ys.take xs.length ++ xs.drop (0 + (ys.take xs.length).length)) = ys.take xs.length ++ xs.drop ys.length := by
      rw [List.take_zero, List.nil_append, Nat.zero_add, hm]
      congr 1
      by_cases hc : ys.length ≤ xs.length
      · rw [show Nat.min ys.length xs.length = ys.length from Nat.min_eq_left hc]
      · rw [show Nat.min ys.length xs.length = xs.length from Nat.min_eq_right (by omega), List.drop_of_length_le (Nat.le_refl _), List.drop_of_length_le (by omega)]
    rw [← e]; exact this.1
/-! ### parts of slices -/
theorem sl_to {a : Option Addr} {l c : Nat} {x : Int} {n : Nat} (hx : x = (n : Int)) (hn : n ≤ c) {K : Option Addr → Nat → Nat → Prop} (g : K a n c) : slK 1 a l c none (some (.int .i64 x)) none K := by
  subst hx
  show (0 ≤ (n : Int) ∧ (n : Int) ≤ (c : Int)) ∧ K (subA a c 0 1) ((n : Int).toNat - 0) (c - 0)
  refine ⟨⟨by omega, by omega⟩, ?_⟩
  have e : subA a c 0 1 = a := by
    unfold subA
    split
    · rfl
    · cases a <;> simp [Addr.add]
  rw [e]; simpa using g
theorem sl_from {a : Option Addr} {l c : Nat} {x : Int} {n : Nat} (hx : x = (n : Int)) (hn : n ≤ l) {K : Option Addr → Nat → Nat → Prop} (g : K (subA a c n 1) (l - n) (c - n)) : slK 1 a l c (some (.int .i64 x)) none none K := by
  subst hx
  exact ⟨⟨by omega, by omega⟩, by simpa using g⟩
theorem hc_intro {P : Program} {f : FuncId} {args : Array Value} {h : Hp} {S K : Value → Hp → Prop} (hc : HCalls P f args h S) (g : ∀ v h', S v h' → K v h') : HCalls P f args h K := hc.mono g
end Go.Gv

/- From a row's arguments to lists of words in the heap, and back to the row's frame. -/
namespace Go.Gv
open Go.ChangeShapes Go.WideShapes Go.ChangeAt Go.RowKit
theorem below_of {w w' : World} (s : Same w w') (k : Keep w.heap w'.heap) : Below w.heap.size w w' := ⟨s.os, s.tape, s.output, k.le, fun i hi => k.pre i hi⟩
theorem wf_i64 {n : Int} (h : (Lit.int .i64 n).wf = true) : -9223372036854775808 ≤ n ∧ n < 9223372036854775808 := by
  simp only [Lit.wf, Bool.and_eq_true, decide_eq_true_eq, IntKind.min, IntKind.max, IntKind.signed, IntKind.bits, if_true] at h
  have e1 : (2 : Int) ^ (64 - 1) = 9223372036854775808 := by decide
  rw [e1] at h; omega
end Go.Gv

/- From a row's reading of any argument to facts of the heap: whole numbers, words, lists and structs of these. -/
namespace Go.Gv
open Go.ChangeShapes Go.WideShapes Go.ChangeAt Go.RowKit
/-- What a value's cells say in a heap. -/
abbrev Says (α : Type) := Hp → List Value → α → Prop
def Lasts {α : Type} (S : Says α) : Prop := ∀ (h h' : Hp) (cs : List Value) (a : α), S h cs a → Keep h h' → S h' cs a
def saysWords : Says (List Nat) := fun h cs xs => ∃ a c, cs = [.slice a xs.length c] ∧ Rd h a c xs ∧ xs.length ≤ 17592186043904
/-- A list of things of sz cells each. -/
structure RdList {α : Type} (S : Says α) (sz m : Nat) (h : Hp) (a : Option Addr) (c : Nat) (l : List α) : Prop where
  len : l.length ≤ m
  cap : l.length ≤ c
  at_ : ∀ i x, l[i]? = some x → ∃ p vs, a = some p ∧ vs.length = sz ∧ RdL h (p.add (i * sz)) 0 vs ∧ S h vs x
theorem RdL.keep {h h' : Hp} (k : Keep h h') {p : Addr} : ∀ {vs : List Value} {i : Nat}, RdL h p i vs → RdL h' p i vs
  | [], _, _ => trivial
  | _ :: _, _, g => ⟨k.cell g.1, RdL.keep k g.2⟩
theorem RdList.keep {α : Type} {S : Says α} (hS : Lasts S) {sz m : Nat} {h h' : Hp} {a : Option Addr} {c : Nat} {l : List α} (r : RdList S sz m h a c l) (k : Keep h h') : RdList S sz m h' a c l :=
  ⟨r.len, r.cap, fun i x hx => let ⟨p, vs, e, hv, g, s⟩ := r.at_ i x hx; ⟨p, vs, e, hv, g.keep k, hS _ _ _ _ s k⟩⟩
theorem saysWords_lasts : Lasts saysWords := fun _ _ _ _ ⟨a, c, e, r, b⟩ k => ⟨a, c, e, r.keep k, b⟩
section
variable {H : Type} {enc : TypeId × Value → H} {P : Program} {W : World}
end
end Go.Gv

/- Naturals as lists of words, the least first: values, digits, and the sums of lists. No program in sight. -/
namespace Go.Gv
def val : List Nat → Nat
  | [] => 0
  | x :: xs => x + 18446744073709551616 * val xs
def digs (n : Nat) : List Nat := if h : n = 0 then [] else n % 18446744073709551616 :: digs (n / 18446744073709551616)
  termination_by n
  decreasing_by omega
def trimL : List Nat → List Nat
  | [] => []
  | x :: xs => if x = 0 ∧ trimL xs = [] then [] else x :: trimL xs
def Words (xs : List Nat) : Prop := ∀ x ∈ xs, x < 18446744073709551616
theorem Words.cons {x : Nat} {xs : List Nat} (h : Words (x :: xs)) : x < 18446744073709551616 ∧ Words xs := ⟨h x (by simp), fun y hy => h y (by simp [hy])⟩
theorem digs_zero : digs 0 = [] := by unfold digs; simp
theorem digs_pos {n : Nat} (h : n ≠ 0) : digs n = n % 18446744073709551616 :: digs (n / 18446744073709551616) := by
  rw [digs]; simp [h]
theorem digs_words (n : Nat) : Words (digs n) := by
  induction n using Nat.strongRecOn with
  | ind n ih =>
    by_cases h : n = 0
    · subst h; rw [digs_zero]; intro x hx; cases hx
    · rw [digs_pos h]; intro x hx
      rcases List.mem_cons.mp hx with e | e
      · omega
      · exact ih _ (by omega) x e
theorem val_digs (n : Nat) : val (digs n) = n := by
  induction n using Nat.strongRecOn with
  | ind n ih =>
    by_cases h : n = 0
    · subst h; rw [digs_zero]; rfl
    · rw [digs_pos h]; show n % _ + _ * val (digs _) = n
      rw [ih _ (by omega)]; omega
theorem trimL_nil_iff {xs : List Nat} : trimL xs = [] ↔ val xs = 0 := by
  induction xs with
  | nil => simp [trimL, val]
  | cons x xs ih =>
    simp only [trimL, val]
    split
    · next h => simp only [true_iff]; have := ih.mp h.2; omega
    · next h =>
      simp only [reduceCtorEq, false_iff]
      intro e
      exact h ⟨by omega, ih.mpr (by omega)⟩
theorem digs_val {xs : List Nat} (hw : Words xs) : digs (val xs) = trimL xs := by
  induction xs with
  | nil => simp [val, trimL, digs_zero]
  | cons x xs ih =>
    have hx := hw.cons
    simp only [trimL, val]
    split
    · next h => rw [h.1, trimL_nil_iff.mp h.2]; exact digs_zero
    · next h =>
      have hn : x + 18446744073709551616 * val xs ≠ 0 := fun e => h ⟨by omega, trimL_nil_iff.mpr (by omega)⟩
      rw [digs_pos hn]
      have e1 : (x + 18446744073709551616 * val xs) % 18446744073709551616 = x := by omega
      have e2 : (x + 18446744073709551616 * val xs) / 18446744073709551616 = val xs := by omega
      rw [e1, e2, ih hx.2]
theorem val_trimL (xs : List Nat) : val (trimL xs) = val xs := by
  induction xs with
  | nil => rfl
  | cons x xs ih =>
    simp only [trimL]
    split
    · next h => simp only [val]; rw [h.1, trimL_nil_iff.mp h.2]
    · simp only [val]; rw [ih]
theorem trimL_digs (n : Nat) : trimL (digs n) = digs n := by rw [← digs_val (digs_words n), val_digs]
theorem trimL_trimL (xs : List Nat) : trimL (trimL xs) = trimL xs := by
  induction xs with
  | nil => rfl
  | cons x xs ih =>
    simp only [trimL]
    split
    · rfl
    · next h => simp only [trimL, ih]; rw [if_neg h]
theorem trimL_le (xs : List Nat) : (trimL xs).length ≤ xs.length := by
  induction xs with
  | nil => simp [trimL]
  | cons x xs ih =>
    simp only [trimL]
    split
    · simp
    · simpa using ih
theorem trimL_zero (xs : List Nat) : trimL (xs ++ [0]) = trimL xs := by
  induction xs with
  | nil => simp [trimL]
  | cons x xs ih => simp only [List.cons_append, trimL, ih]
theorem trimL_last (xs : List Nat) {x : Nat} (hx : x ≠ 0) : trimL (xs ++ [x]) = xs ++ [x] := by
  induction xs with
  | nil => simp [trimL, hx]
  | cons y xs ih =>
    simp only [List.cons_append, trimL, ih]
    rw [if_neg (by simp)]
theorem take_snoc {xs : List Nat} {n : Nat} (h : n < xs.length) : xs.take (n + 1) = xs.take n ++ [xs.getD n 0] := by
  rw [List.take_add_one]; simp [List.getD, h]
theorem trimL_iff {xs : List Nat} : trimL xs = xs ↔ (xs = [] ∨ xs.getD (xs.length - 1) 0 ≠ 0) := by
  by_cases h : xs.length = 0
  · have e : xs = [] := List.length_eq_zero_iff.mp h
    subst e; simp [trimL]
  · obtain ⟨n, hn⟩ : ∃ n, xs.length = n + 1 := ⟨xs.length - 1, by omega⟩
    have e : xs = xs.take n ++ [xs.getD n 0] := by rw [← take_snoc (by omega), ← hn, List.take_length]
    have hne : xs ≠ [] := fun e => by subst e; simp at hn
    rw [hn]; simp only [Nat.add_sub_cancel]
    constructor
    · intro ht
      refine Or.inr fun h0 => ?_
      rw [h0] at e
      rw [e, trimL_zero] at ht
      have := trimL_le (xs.take n)
      rw [ht] at this; simp at this; omega
    · rintro (h1 | h1)
      · exact absurd h1 hne
      · rw [e]; exact trimL_last _ h1
/-- An answer, within the limit of limbs. -/
def lim (n : Nat) : List Nat × Int := if (digs n).length ≤ 8192 then (digs n, 0) else ([], 5)
def Frm (xs : List Nat) : Prop := xs.length ≤ 8192 ∧ trimL xs = xs
instance (xs : List Nat) : Decidable (Frm xs) := by unfold Frm; infer_instance
theorem Frm.digs {xs : List Nat} (h : Frm xs) (hw : Words xs) : Gv.digs (val xs) = xs := by rw [digs_val hw, h.2]
theorem Frm.lim {xs : List Nat} (h : Frm xs) (hw : Words xs) : Gv.lim (val xs) = (xs, 0) := by
  unfold Gv.lim; rw [h.digs hw, if_pos h.1]
theorem digs_len_mono {n m : Nat} (h : n ≤ m) : (digs n).length ≤ (digs m).length := by
  induction m using Nat.strongRecOn generalizing n with
  | ind m ih =>
    by_cases hn : n = 0
    · subst hn; rw [digs_zero]; simp
    · rw [digs_pos hn, digs_pos (n := m) (by omega)]
      simp only [List.length_cons]
      exact Nat.succ_le_succ (ih (m / 18446744073709551616) (by omega) (Nat.div_le_div_right h))
theorem take_set_succ {s : List Nat} {j t : Nat} (h : j < s.length) : (s.set j t).take (j + 1) = s.take j ++ [t] := by
  rw [List.take_add_one, List.take_set_of_le (Nat.le_refl j)]; simp [h]
theorem drop_getD {xs : List Nat} {j : Nat} (h : j < xs.length) : xs.drop j = xs.getD j 0 :: xs.drop (j + 1) := by
  rw [List.drop_eq_getElem_cons h]; simp [List.getD, h]
theorem headD_drop (xs : List Nat) (j : Nat) : (xs.drop j).headD 0 = xs.getD j 0 := by
  simp [List.getD, List.headD_eq_head?_getD, List.head?_drop]
/-! ### sums -/
def addL : List Nat → List Nat → Nat → List Nat
  | [], _, c => [c]
  | x :: xs, ys, c => (x + ys.headD 0 + c) % 18446744073709551616 :: addL xs ys.tail ((x + ys.headD 0 + c) / 18446744073709551616)
theorem val_head_tail (ys : List Nat) : val ys = ys.headD 0 + 18446744073709551616 * val ys.tail := by cases ys <;> simp [val]
theorem addL_val : ∀ (xs ys : List Nat) (c : Nat), ys.length ≤ xs.length → val (addL xs ys c) = val xs + val ys + c
  | [], ys, c, h => by
    have e : ys = [] := List.length_eq_zero_iff.mp (by simpa using h)
    subst e; simp [addL, val]
  | x :: xs, ys, c, h => by
    simp only [addL, val]
    rw [addL_val xs ys.tail _ (by simp at h ⊢; omega)]
    have := val_head_tail ys
    omega
def subL : List Nat → List Nat → Nat → List Nat
  | [], _, _ => []
  | x :: xs, ys, c => (x + 18446744073709551616 - ys.headD 0 - c) % 18446744073709551616 :: subL xs ys.tail (if x < ys.headD 0 + c then 1 else 0)
theorem subL_val : ∀ (xs ys : List Nat) (c : Nat), Words xs → Words ys → ys.length ≤ xs.length → c ≤ 1 → val ys + c ≤ val xs → val (subL xs ys c) + (val ys + c) = val xs
  | [], ys, c, _, _, h, _, hv => by
    have e : ys = [] := List.length_eq_zero_iff.mp (by simpa using h)
    subst e; simp [subL, val] at hv ⊢; omega
  | x :: xs, ys, c, hx, hy, h, hc, hv => by
    have hb : ys.headD 0 < 18446744073709551616 := by cases ys with
      | nil => decide
      | cons y ys => exact hy.cons.1
    have hy' : Words ys.tail := by cases ys with
      | nil => exact hy
      | cons y ys => exact hy.cons.2
    have hx1 := hx.cons.1
    have := val_head_tail ys
    simp only [subL, val] at hv ⊢
    have hl : ys.tail.length ≤ xs.length := by simp at h ⊢; omega
    by_cases hlt : x < ys.headD 0 + c
    · rw [if_pos hlt]
      have := subL_val xs ys.tail 1 hx.cons.2 hy' hl (by omega) (by omega)
      omega
    · rw [if_neg hlt]
      have := subL_val xs ys.tail 0 hx.cons.2 hy' hl (by omega) (by omega)
      omega
/-! ### order -/
theorem val_lt_at : ∀ {xs ys : List Nat} {j : Nat}, Words xs → Words ys → xs.length = ys.length → j < xs.length → xs.drop (j + 1) = ys.drop (j + 1) → xs.getD j 0 < ys.getD j 0 → val xs < val ys
  | [], _, _, _, _, _, hj, _, _ => absurd hj (by simp)
  | x :: xs, [], _, _, _, hl, _, _, _ => absurd hl (by simp)
  | x :: xs, y :: ys, 0, hx, hy, hl, hj, hd, h => by
    have e : xs = ys := by simpa using hd
    subst e
    simp only [List.getD_cons_zero] at h
    simp only [val]; omega
  | x :: xs, y :: ys, j + 1, hx, hy, hl, hj, hd, h => by
    have := val_lt_at (xs := xs) (ys := ys) (j := j) hx.cons.2 hy.cons.2 (by simpa using hl) (by simpa using hj) (by simpa using hd) (by simpa using h)
    have h1 := hx.cons.1
    have h2 := hy.cons.1
    simp only [val]; omega
theorem trimL_tail {y : Nat} {ys : List Nat} (h : trimL (y :: ys) = y :: ys) : trimL ys = ys := by
  simp only [trimL] at h
  split at h
  · cases h
  · exact List.tail_eq_of_cons_eq h
theorem val_lt_len : ∀ {xs ys : List Nat}, Words xs → trimL ys = ys → xs.length < ys.length → val xs < val ys
  | _, [], _, _, h => absurd h (by simp)
  | [], y :: ys, _, ht, _ => by
    have : val (y :: ys) ≠ 0 := fun e => by rw [trimL_nil_iff.mpr e] at ht; cases ht
    simp only [val] at this ⊢; omega
  | x :: xs, y :: ys, hx, ht, h => by
    have := val_lt_len (xs := xs) (ys := ys) hx.cons.2 (trimL_tail ht) (by simpa using h)
    have h1 := hx.cons.1
    simp only [val]; omega
def cmpI (m n : Nat) : Int := if m < n then -1 else if m = n then 0 else 1
theorem val_append (xs ys : List Nat) : val (xs ++ ys) = val xs + 2 ^ (64 * xs.length) * val ys := by
  induction xs with
  | nil => simp [val]
  | cons x xs ih =>
    simp only [List.cons_append, val, ih, List.length_cons]
    have e : 2 ^ (64 * (xs.length + 1)) = 18446744073709551616 * 2 ^ (64 * xs.length) := by
      rw [show 64 * (xs.length + 1) = 64 + 64 * xs.length by omega, Nat.pow_add]
    rw [e, Nat.mul_add, Nat.mul_assoc]; omega
theorem val_lt {xs : List Nat} (hw : Words xs) : val xs < 2 ^ (64 * xs.length) := by
  induction xs with
  | nil => simp [val]
  | cons x xs ih =>
    have e : 2 ^ (64 * (xs.length + 1)) = 18446744073709551616 * 2 ^ (64 * xs.length) := by
      rw [show 64 * (xs.length + 1) = 64 + 64 * xs.length by omega, Nat.pow_add]
    rw [List.length_cons, e]; simp only [val]
    have h1 := hw.cons.1
    have h2 := ih hw.cons.2
    omega
/-! ### bits -/
def blen (n : Nat) : Nat := if n = 0 then 0 else Nat.log2 n + 1
theorem blen_le {n k : Nat} : blen n ≤ k ↔ n < 2 ^ k := by
  unfold blen
  by_cases h : n = 0
  · subst h; simp [Nat.pow_pos]
  · rw [if_neg h]; exact Nat.log2_lt h
theorem blen_eq {n m : Nat} (h : ∀ k, blen n ≤ k ↔ m ≤ k) : blen n = m := Nat.le_antisymm ((h m).mpr (Nat.le_refl _)) ((h _).mp (Nat.le_refl _))
theorem blen_div (n s : Nat) : blen (n / 2 ^ s) = blen n - s := by
  refine blen_eq fun k => ?_
  rw [blen_le, Nat.div_lt_iff_lt_mul (Nat.pow_pos (by decide)), ← Nat.pow_add, ← blen_le]; omega
theorem blen_zero : blen 0 = 0 := rfl
theorem blen_pos {n : Nat} (h : n ≠ 0) : 0 < blen n := by unfold blen; rw [if_neg h]; omega
theorem blen_trim {xs : List Nat} (hw : Words xs) {n : Nat} (hn : xs.length = n + 1) (h0 : xs.getD n 0 ≠ 0) : blen (val xs) = 64 * n + blen (xs.getD n 0) := by
  have e : xs = xs.take n ++ [xs.getD n 0] := by rw [← take_snoc (by omega), ← hn, List.take_length]
  have hv : val xs = val (xs.take n) + 2 ^ (64 * n) * xs.getD n 0 := by
    conv => lhs; rw [e]
    rw [val_append]; simp [val, show min n xs.length = n by omega]
  have hlt : val (xs.take n) < 2 ^ (64 * n) := by
    have := val_lt (xs := xs.take n) (fun x hx => hw x (List.mem_of_mem_take hx))
    rwa [List.length_take, show min n xs.length = n by omega] at this
  have hd : val xs / 2 ^ (64 * n) = xs.getD n 0 := by
    rw [hv, Nat.add_mul_div_left _ _ (Nat.pow_pos (by decide)), Nat.div_eq_of_lt hlt, Nat.zero_add]
  have := blen_div (val xs) (64 * n)
  rw [hd] at this
  have := blen_pos h0
  omega
/-! ### lengths and limits -/
theorem digs_len {n k : Nat} : (digs n).length ≤ k ↔ n < 2 ^ (64 * k) := by
  constructor
  · intro h
    have := val_lt (digs_words n)
    rw [val_digs] at this
    exact Nat.lt_of_lt_of_le this (Nat.pow_le_pow_right (by decide) (by omega))
  · intro h
    induction k generalizing n with
    | zero =>
      have : n = 0 := by simpa using h
      subst this; rw [digs_zero]; simp
    | succ k ih =>
      by_cases h0 : n = 0
      · subst h0; rw [digs_zero]; simp
      · rw [digs_pos h0, List.length_cons]
        have e : 2 ^ (64 * (k + 1)) = 2 ^ (64 * k) * 18446744073709551616 := by
          rw [show 64 * (k + 1) = 64 * k + 64 by omega, Nat.pow_add]
        rw [e] at h
        have := ih (n := n / 18446744073709551616) (Nat.div_lt_of_lt_mul (by rw [Nat.mul_comm]; exact h))
        omega
theorem digs_add_len {X Y k : Nat} (hX : (digs X).length ≤ k) (hY : (digs Y).length ≤ k) : (digs (X + Y)).length ≤ k + 1 := by
  refine digs_len.mpr ?_
  have h1 := digs_len.mp hX
  have h2 := digs_len.mp hY
  have e : 2 ^ (64 * (k + 1)) = 2 ^ (64 * k) * 18446744073709551616 := by
    rw [show 64 * (k + 1) = 64 * k + 64 by omega, Nat.pow_add]
  rw [e]; generalize 2 ^ (64 * k) = p at *; omega
theorem blen_mul {v : Nat} (n : Nat) (h : v ≠ 0) : blen (v * 2 ^ n) = blen v + n := by
  have h1 := blen_div (v * 2 ^ n) n
  rw [Nat.mul_div_cancel _ (Nat.pow_pos (by decide))] at h1
  have h2 := blen_pos h
  omega
theorem lim_blen' {v : Nat} (k : Nat) : blen v ≤ 64 * k ↔ (digs v).length ≤ k := by
  rw [digs_len, blen_le]
theorem lim_blen {v : Nat} : blen v ≤ 524288 ↔ (digs v).length ≤ 8192 := lim_blen' 8192
theorem lim_big {v : Nat} (h : ¬ blen v ≤ 524288) : lim v = ([], 5) := by
  unfold lim; rw [if_neg (fun hh => h (lim_blen.mpr hh))]
theorem val_drop {xs : List Nat} (hw : Words xs) (m : Nat) : val (xs.drop m) = val xs / 2 ^ (64 * m) := by
  by_cases hm : m ≤ xs.length
  · have e : val xs = val (xs.take m) + 2 ^ (64 * m) * val (xs.drop m) := by
      conv => lhs; rw [← List.take_append_drop m xs]
      rw [val_append, List.length_take, Nat.min_eq_left hm]
    have hlt := val_lt (xs := xs.take m) (fun x hx => hw x (List.mem_of_mem_take hx))
    rw [List.length_take, Nat.min_eq_left hm] at hlt
    rw [e, Nat.add_mul_div_left _ _ (Nat.pow_pos (by decide)), Nat.div_eq_of_lt hlt, Nat.zero_add]
  · rw [List.drop_of_length_le (by omega)]
    have := val_lt hw
    have h2 : 2 ^ (64 * xs.length) ≤ 2 ^ (64 * m) := Nat.pow_le_pow_right (by decide) (by omega)
    rw [Nat.div_eq_of_lt (by omega)]; rfl
theorem pq {k : Nat} (hk : k < 64) : 2 ^ k * 2 ^ (64 - k) = 18446744073709551616 := by
  rw [← Nat.pow_add, show k + (64 - k) = 64 by omega]
theorem pow_lt64 {k : Nat} (hk : k < 64) : 2 ^ k < 18446744073709551616 := by
  have := Nat.pow_lt_pow_right (a := 2) (by decide) hk
  exact Nat.lt_of_lt_of_le this (by decide)
theorem val_low {xs : List Nat} (hw : Words xs) {m k : Nat} (hm : m < xs.length) (hk : k < 64) : val (xs.take m ++ [xs.getD m 0 % 2 ^ k]) = val xs % 2 ^ (64 * m + k) := by
  have e : val xs = val (xs.take m) + 2 ^ (64 * m) * val (xs.drop m) := by
    conv => lhs; rw [← List.take_append_drop m xs]
    rw [val_append, List.length_take, Nat.min_eq_left (by omega)]
  have hlt := val_lt (xs := xs.take m) (fun x hx => hw x (List.mem_of_mem_take hx))
  rw [List.length_take, Nat.min_eq_left (by omega)] at hlt
  rw [val_append, List.length_take, Nat.min_eq_left (by omega), Nat.pow_add, Nat.mod_mul, e, Nat.add_mul_mod_self_left, Nat.mod_eq_of_lt hlt, Nat.add_mul_div_left _ _ (Nat.pow_pos (by decide)), Nat.div_eq_of_lt hlt, Nat.zero_add, drop_getD hm]
  simp only [val, Nat.mul_zero, Nat.add_zero]
  congr 2
  rw [← pq hk, Nat.mul_assoc, Nat.add_mul_mod_self_left]
end Go.Gv

/- Steps of printed predicates: branches, names, and answers of calls. -/
namespace Go.Gv
theorem c_dec {p : Prop} [Decidable p] {A B : Prop} (hT : p → A) (hF : ¬p → B) : cond (decide p) A B := by
  by_cases h : p
  · simp only [h, decide_true, cond_true]; exact hT h
  · simp only [h, decide_false, cond_false]; exact hF h
theorem c_eq {x y : Int} {A B : Prop} (hT : x = y → A) (hF : x ≠ y → B) : cond (x == y) A B := by
  by_cases h : x = y
  · simp only [h, beq_self_eq_true, cond_true]; exact hT h
  · simp only [beq_eq_false_iff_ne.mpr h, cond_false]; exact hF h
theorem c_ne {x y : Int} {A B : Prop} (hT : x ≠ y → A) (hF : x = y → B) : cond (x != y) A B := by
  by_cases h : x = y
  · simp only [h, bne_self_eq_false, cond_false]; exact hF h
  · simp only [bne_iff_ne.mpr h, cond_true]; exact hT h
theorem c_not {b : Bool} {A B : Prop} (hT : b = false → A) (hF : b = true → B) : cond (!b) A B := by
  cases b
  · exact hT rfl
  · exact hF rfl
theorem k_i64 {x : Int} (y : Int) (e : x = y) (h1 : -9223372036854775808 ≤ y) (h2 : y < 9223372036854775808) {K : Int → Prop} (g : K y) : letK (IntKind.i64.wrap x) K := by
  subst e; refine ⟨?_⟩; show K _; rw [wrap_i64 h1 h2]; exact g
end Go.Gv

/- Blocks that are written while older lists stay: frames but for one block, and values of lists under writing. -/
namespace Go.Gv
/-- How many cells a block has. -/
def cellsN (h : Hp) (q : Nat) : Option Nat := match h[q]? with | some (.cells c _ _) => some c.size | _ => none
structure KeepB (q : Nat) (h h' : Hp) : Prop where
  le : h.size ≤ h'.size
  pre : ∀ b, b < h.size → b ≠ q → h'[b]? = h[b]?
  len : ∀ m, cellsN h q = some m → cellsN h' q = some m
theorem KeepB.refl (q : Nat) (h : Hp) : KeepB q h h := ⟨Nat.le_refl _, fun _ _ _ => rfl, fun _ e => e⟩
theorem KeepB.trans {q : Nat} {a b c : Hp} (x : KeepB q a b) (y : KeepB q b c) : KeepB q a c :=
  ⟨Nat.le_trans x.le y.le, fun i hi hq => (y.pre i (Nat.lt_of_lt_of_le hi x.le) hq).trans (x.pre i hi hq), fun m e => y.len m (x.len m e)⟩
theorem cellsN_lt {h : Hp} {q m : Nat} (e : cellsN h q = some m) : q < h.size := by
  rcases Nat.lt_or_ge q h.size with hl | hl
  · exact hl
  · unfold cellsN at e; rw [Array.getElem?_eq_none hl] at e; cases e
theorem Keep.toB {q : Nat} {h h' : Hp} (k : Keep h h') : KeepB q h h' :=
  ⟨k.le, fun b hb _ => k.pre b hb, fun m e => by have := k.pre q (cellsN_lt e); unfold cellsN at *; rw [this]; exact e⟩
theorem KeepB.keep {q : Nat} {h0 h h' : Hp} (k0 : Keep h0 h) (k : KeepB q h h') (hq : h0.size ≤ q) : Keep h0 h' :=
  ⟨Nat.le_trans k0.le k.le, fun b hb => (k.pre b (Nat.lt_of_lt_of_le hb k0.le) (by omega)).trans (k0.pre b hb)⟩
theorem KeepB.set (q : Nat) (h : Hp) (i : Nat) (v : Value) : KeepB q h (setH h ⟨q, i, none⟩ v) :=
  ⟨by rw [size_setH]; exact Nat.le_refl _, fun b _ hb => getElem?_setH hb, fun m e => by
    unfold cellsN at *
    split at e
    · rename_i c el fz hc
      have : (setH h ⟨q, i, none⟩ v)[q]? = some (.cells (c.setIfInBounds i v) el fz) := by
        unfold setH
        rw [Array.getElem?_modify, if_pos rfl, hc]
        rfl
      rw [this]
      simpa using e
    · cases e⟩
def Off (q : Nat) (a : Option Addr) : Prop := ∀ p, a = some p → p.block ≠ q
theorem Off.none (q : Nat) : Off q none := fun p e => by cases e
theorem Off.sub {q : Nat} {a : Option Addr} (o : Off q a) (m l sz : Nat) : Off q (subA a m l sz) := by
  intro p e
  unfold subA at e
  split at e
  · exact o p e
  · cases a with
    | none => cases e
    | some r =>
      simp only [Option.map_some, Option.some.injEq] at e
      rw [← e, add_block]; exact o r rfl
theorem Rd.keepB {q : Nat} {h h' : Hp} {a : Option Addr} {c : Nat} {xs : List Nat} (r : Rd h a c xs) (o : Off q a) (k : KeepB q h h') : Rd h' a c xs :=
  ⟨r.len, r.cap, r.words, fun i hi => by
    obtain ⟨p, e, g⟩ := r.at_ i hi
    refine ⟨p, e, ?_⟩
    have hb := cellH_lt g
    rw [cellH_congr (k.pre _ hb (by rw [add_block]; exact o p e))]; exact g⟩
theorem Own.keepB {q b : Nat} {h h' : Hp} {xs : List Nat} (o : Own h b xs) (hb : b ≠ q) (k : KeepB q h h') : Own h' b xs := by
  obtain ⟨e, g⟩ := o.at_
  exact ⟨o.len, o.words, e, by rw [k.pre b o.lt hb]; exact g⟩
/-- A list in the heap lies off a block that was made later (or the list is empty). -/
theorem Rd.off {h : Hp} {a : Option Addr} {c : Nat} {xs : List Nat} (r : Rd h a c xs) {q : Nat} (hq : h.size ≤ q) : xs = [] ∨ Off q a := by
  cases xs with
  | nil => exact Or.inl rfl
  | cons x xs =>
    obtain ⟨p, e, g⟩ := r.at_ 0 (by simp)
    have hb := cellH_lt g
    rw [add_block] at hb
    refine Or.inr fun p' e' => ?_
    rw [e] at e'; cases e'; omega
/-- The first places of a block that was made here. -/
def Mine (h : Hp) (b : Nat) (xs : List Nat) : Prop := ∃ rest, Own h b (xs ++ rest)
theorem Own.mine {h : Hp} {b : Nat} {xs : List Nat} (o : Own h b xs) : Mine h b xs := ⟨[], by rw [List.append_nil]; exact o⟩
theorem Own.cellsN {h : Hp} {b : Nat} {xs : List Nat} (o : Own h b xs) : Gv.cellsN h b = some xs.length := by
  obtain ⟨e, g⟩ := o.at_
  unfold Gv.cellsN
  rw [g]; simp
theorem Mine.words {h : Hp} {b : Nat} {xs : List Nat} (o : Mine h b xs) : Words xs := fun x hx => by
  obtain ⟨r, o⟩ := o; exact o.words x (List.mem_append_left _ hx)
theorem Mine.len {h : Hp} {b : Nat} {xs : List Nat} (o : Mine h b xs) : xs.length ≤ 35184372088828 := by
  obtain ⟨r, o⟩ := o; have := o.len; rw [List.length_append] at this; omega
theorem Mine.lt {h : Hp} {b : Nat} {xs : List Nat} (o : Mine h b xs) : b < h.size := by obtain ⟨r, o⟩ := o; exact o.lt
theorem Mine.take {h : Hp} {b : Nat} {xs : List Nat} (o : Mine h b xs) (n : Nat) : Mine h b (xs.take n) := by
  obtain ⟨r, o⟩ := o
  exact ⟨xs.drop n ++ r, by rw [← List.append_assoc, List.take_append_drop]; exact o⟩
theorem Mine.keepB {q b : Nat} {h h' : Hp} {xs : List Nat} (o : Mine h b xs) (hb : b ≠ q) (k : KeepB q h h') : Mine h' b xs := by
  obtain ⟨r, o⟩ := o; exact ⟨r, o.keepB hb k⟩
theorem Mine.keep {b : Nat} {h h' : Hp} {xs : List Nat} (o : Mine h b xs) (k : Keep h h') : Mine h' b xs := by
  obtain ⟨r, o⟩ := o; exact ⟨r, o.keep k⟩
theorem Mine.word {h : Hp} {b : Nat} {xs : List Nat} (o : Mine h b xs) (i : Nat) : xs.getD i 0 < 18446744073709551616 := getD_lt o.words i
theorem Mine.rd {h : Hp} {b c : Nat} {xs : List Nat} (o : Mine h b xs) (hc : xs.length ≤ c) : Rd h (some ⟨b, 0, none⟩) c xs := by
  refine ⟨o.len, hc, o.words, fun i hi => ⟨_, rfl, ?_⟩⟩
  obtain ⟨r, o⟩ := o
  rw [base_add, o.cell (by rw [List.length_append]; omega)]
  have e : (xs ++ r).getD i 0 = xs.getD i 0 := by simp [List.getD, List.getElem?_append_left hi]
  rw [e]
theorem Mine.set {h : Hp} {b : Nat} {xs : List Nat} (o : Mine h b xs) {j v : Nat} (hj : j < xs.length) (hv : v < 18446744073709551616) : Mine (setH h ⟨b, j, none⟩ (wv v)) b (xs.set j v) := by
  obtain ⟨r, o⟩ := o
  refine ⟨r, ?_⟩
  have := o.set j hv
  rw [List.set_append_left _ _ hj] at this; exact this
theorem mine_put {h : Hp} {b l : Nat} {xs : List Nat} (o : Mine h b xs) {i : Int} {j : Nat} (hi : i = (j : Int)) (hl : l = xs.length) (hj : j < xs.length) {x : Int} {v : Nat} (hx : x = (v : Int)) (hv : v < 18446744073709551616) {K : Hp → Prop}
    (g : Mine (setH h ⟨b, j, none⟩ (wv v)) b (xs.set j v) → KeepB b h (setH h ⟨b, j, none⟩ (wv v)) → K (setH h ⟨b, j, none⟩ (wv v))) : idxK (some ⟨b, 0, none⟩) l i 1 fun q => stK h q (.int .u64 x) K := by
  subst hi; subst hx; subst hl
  have g' := g (o.set hj hv) (KeepB.set _ _ _ _)
  obtain ⟨r, o⟩ := o
  refine ⟨⟨by omega, by omega⟩, ?_⟩
  show stK h ((⟨b, 0, none⟩ : Addr).add ((j : Int).toNat * 1)) _ _
  have e2 : (j : Int).toNat * 1 = j := by omega
  rw [e2, base_add]
  exact ⟨⟨⟨_, o.cell (by rw [List.length_append]; omega)⟩, o.frozen j⟩, g'⟩
theorem sl_to3 {a : Option Addr} {l c : Nat} {x y : Int} {n : Nat} (hx : x = (n : Int)) (hy : y = (n : Int)) (hn : n ≤ c) {K : Option Addr → Nat → Nat → Prop} (g : K a n n) : slK 1 a l c none (some (.int .i64 x)) (some (.int .i64 y)) K := by
  subst hx; subst hy
  show (0 ≤ (n : Int) ∧ (n : Int) ≤ (c : Int)) ∧ (0 ≤ (n : Int) ∧ (n : Int) ≤ (((n : Int).toNat : Nat) : Int)) ∧ K (subA a (n : Int).toNat 0 1) ((n : Int).toNat - 0) ((n : Int).toNat - 0)
  refine ⟨⟨by omega, by omega⟩, ⟨by omega, by omega⟩, ?_⟩
  have e : subA a (n : Int).toNat 0 1 = a := by
    unfold subA
    split
    · rfl
    · cases a <;> simp [Addr.add]
  rw [e]; simpa using g
theorem sl_mid3 {a : Option Addr} {l c : Nat} {x y z : Int} {m n : Nat} (hx : x = (m : Int)) (hy : y = (n : Int)) (hz : z = (n : Int)) (hm : m ≤ n) (hn : n ≤ c) {K : Option Addr → Nat → Nat → Prop} (g : K (subA a n m 1) (n - m) (n - m)) : slK 1 a l c (some (.int .i64 x)) (some (.int .i64 y)) (some (.int .i64 z)) K := by
  subst hx; subst hy; subst hz
  show (0 ≤ (n : Int) ∧ (n : Int) ≤ (c : Int)) ∧ (0 ≤ (n : Int) ∧ (n : Int) ≤ (((n : Int).toNat : Nat) : Int)) ∧ (0 ≤ (m : Int) ∧ (m : Int) ≤ (((n : Int).toNat : Nat) : Int)) ∧ K (subA a (n : Int).toNat (m : Int).toNat 1) ((n : Int).toNat - (m : Int).toNat) ((n : Int).toNat - (m : Int).toNat)
  refine ⟨⟨by omega, by omega⟩, ⟨by omega, by omega⟩, ⟨by omega, by omega⟩, ?_⟩
  simpa using g
/-! ### values under writing -/
theorem val_set : ∀ {zs : List Nat} {j v : Nat}, j < zs.length → val (zs.set j v) + zs.getD j 0 * 2 ^ (64 * j) = val zs + v * 2 ^ (64 * j)
  | [], _, _, h => absurd h (by simp)
  | z :: zs, 0, v, _ => by simp [val]; omega
  | z :: zs, j + 1, v, h => by
    have ih := val_set (zs := zs) (j := j) (v := v) (by simpa using h)
    have e : 2 ^ (64 * (j + 1)) = 18446744073709551616 * 2 ^ (64 * j) := by
      rw [show 64 * (j + 1) = 64 + 64 * j by omega, Nat.pow_add]
    simp only [List.set_cons_succ, val, List.getD_cons_succ, e]
    have e1 : zs.getD j 0 * (18446744073709551616 * 2 ^ (64 * j)) = 18446744073709551616 * (zs.getD j 0 * 2 ^ (64 * j)) := Nat.mul_left_comm _ _ _
    have e2 : v * (18446744073709551616 * 2 ^ (64 * j)) = 18446744073709551616 * (v * 2 ^ (64 * j)) := Nat.mul_left_comm _ _ _
    rw [e1, e2]
    generalize zs.getD j 0 * 2 ^ (64 * j) = a at *
    generalize v * 2 ^ (64 * j) = b at *
    omega
theorem pow_step (j : Nat) : 2 ^ (64 * (j + 1)) = 18446744073709551616 * 2 ^ (64 * j) := by
  rw [show 64 * (j + 1) = 64 + 64 * j by omega, Nat.pow_add]
theorem step_up {B V V' z z' c c' p r P : Nat} (h1 : z' + B * c' = p + c + z) (h2 : V' + z * P = V + z' * P) : V' + (r + c') * (B * P) = V + (p + B * r + c) * P := by
  have h3 : (z' + B * c') * P = (p + c + z) * P := by rw [h1]
  have e1 : (z' + B * c') * P = z' * P + B * c' * P := Nat.add_mul _ _ _
  have e2 : (p + c + z) * P = p * P + c * P + z * P := by rw [Nat.add_mul, Nat.add_mul]
  have e3 : (r + c') * (B * P) = B * r * P + B * c' * P := by rw [Nat.add_mul, Nat.mul_left_comm r, Nat.mul_left_comm c', Nat.mul_assoc, Nat.mul_assoc]
  have e4 : (p + B * r + c) * P = p * P + B * r * P + c * P := by rw [Nat.add_mul, Nat.add_mul]
  rw [e3, e4]; rw [e1, e2] at h3
  omega
theorem step_down {B V V' z z' o o' u r P T : Nat} (h1 : z' + u + o = z + B * o') (h2 : V' + z * P = V + z' * P) (h : V = T + (u + B * r + o) * P) : V' = T + (r + o') * (B * P) := by
  have h3 : (z' + u + o) * P = (z + B * o') * P := by rw [h1]
  have e1 : (z' + u + o) * P = z' * P + u * P + o * P := by rw [Nat.add_mul, Nat.add_mul]
  have e2 : (z + B * o') * P = z * P + B * o' * P := Nat.add_mul _ _ _
  have e3 : (r + o') * (B * P) = B * r * P + B * o' * P := by rw [Nat.add_mul, Nat.mul_left_comm r, Nat.mul_left_comm o', Nat.mul_assoc, Nat.mul_assoc]
  have e4 : (u + B * r + o) * P = u * P + B * r * P + o * P := by rw [Nat.add_mul, Nat.add_mul]
  rw [e3]; rw [e1, e2] at h3; rw [e4] at h
  omega
theorem val_getD_drop (xs : List Nat) (i : Nat) : val (xs.drop i) = xs.getD i 0 + 18446744073709551616 * val (xs.drop (i + 1)) := by
  by_cases h : i < xs.length
  · rw [drop_getD h]; rfl
  · rw [List.drop_of_length_le (by omega), List.drop_of_length_le (by omega)]
    simp [val, List.getD, show xs.length ≤ i by omega]
theorem lt_of_val {zs : List Nat} {T P i : Nat} (hP : P = 2 ^ (64 * i)) (h : P ≤ T) (hT : T < 2 ^ (64 * zs.length)) : i < zs.length := by
  subst hP
  refine Nat.lt_of_not_le fun hh => ?_
  have : 2 ^ (64 * zs.length) ≤ 2 ^ (64 * i) := Nat.pow_le_pow_right (by decide) (by omega)
  omega
theorem val_replicate (m : Nat) : val (List.replicate m 0) = 0 := by
  induction m with
  | zero => rfl
  | succ m ih => rw [List.replicate_succ]; simp [val, ih]
end Go.Gv

/- Digits to the base 2^32: the facts of GvNat for them. Written by a program of this work. -/
namespace Go.Gv.D
def val : List Nat → Nat
  | [] => 0
  | x :: xs => x + 4294967296 * val xs
def digs (n : Nat) : List Nat := if h : n = 0 then [] else n % 4294967296 :: digs (n / 4294967296)
  termination_by n
  decreasing_by omega
def Words (xs : List Nat) : Prop := ∀ x ∈ xs, x < 4294967296
theorem Words.cons {x : Nat} {xs : List Nat} (h : Words (x :: xs)) : x < 4294967296 ∧ Words xs := ⟨h x (by simp), fun y hy => h y (by simp [hy])⟩
theorem digs_zero : digs 0 = [] := by unfold digs; simp
theorem digs_pos {n : Nat} (h : n ≠ 0) : digs n = n % 4294967296 :: digs (n / 4294967296) := by
  rw [digs]; simp [h]
theorem digs_words (n : Nat) : Words (digs n) := by
  induction n using Nat.strongRecOn with
  | ind n ih =>
    by_cases h : n = 0
    · subst h; rw [digs_zero]; intro x hx; cases hx
    · rw [digs_pos h]; intro x hx
      rcases List.mem_cons.mp hx with e | e
      · omega
      · exact ih _ (by omega) x e
theorem val_digs (n : Nat) : val (digs n) = n := by
  induction n using Nat.strongRecOn with
  | ind n ih =>
    by_cases h : n = 0
    · subst h; rw [digs_zero]; rfl
    · rw [digs_pos h]; show n % _ + _ * val (digs _) = n
      rw [ih _ (by omega)]; omega
theorem trimL_nil_iff {xs : List Nat} : trimL xs = [] ↔ val xs = 0 := by
  induction xs with
  | nil => simp [trimL, val]
  | cons x xs ih =>
    simp only [trimL, val]
    split
    · next h => simp only [true_iff]; have := ih.mp h.2; omega
    · next h =>
      simp only [reduceCtorEq, false_iff]
      intro e
      exact h ⟨by omega, ih.mpr (by omega)⟩
theorem digs_val {xs : List Nat} (hw : Words xs) : digs (val xs) = trimL xs := by
  induction xs with
  | nil => simp [val, trimL, digs_zero]
  | cons x xs ih =>
    have hx := hw.cons
    simp only [trimL, val]
    split
    · next h => rw [h.1, trimL_nil_iff.mp h.2]; exact digs_zero
    · next h =>
      have hn : x + 4294967296 * val xs ≠ 0 := fun e => h ⟨by omega, trimL_nil_iff.mpr (by omega)⟩
      rw [digs_pos hn]
      have e1 : (x + 4294967296 * val xs) % 4294967296 = x := by omega
      have e2 : (x + 4294967296 * val xs) / 4294967296 = val xs := by omega
      rw [e1, e2, ih hx.2]
theorem val_trimL (xs : List Nat) : val (trimL xs) = val xs := by
  induction xs with
  | nil => rfl
  | cons x xs ih =>
    simp only [trimL]
    split
    · next h => simp only [val]; rw [h.1, trimL_nil_iff.mp h.2]
    · simp only [val]; rw [ih]
theorem trimL_digs (n : Nat) : trimL (digs n) = digs n := by rw [← digs_val (digs_words n), val_digs]
theorem digs_len_mono {n m : Nat} (h : n ≤ m) : (digs n).length ≤ (digs m).length := by
  induction m using Nat.strongRecOn generalizing n with
  | ind m ih =>
    by_cases hn : n = 0
    · subst hn; rw [digs_zero]; simp
    · rw [digs_pos hn, digs_pos (n := m) (by omega)]
      simp only [List.length_cons]
      exact Nat.succ_le_succ (ih (m / 4294967296) (by omega) (Nat.div_le_div_right h))
theorem val_head_tail (ys : List Nat) : val ys = ys.headD 0 + 4294967296 * val ys.tail := by cases ys <;> simp [val]
theorem val_lt_at : ∀ {xs ys : List Nat} {j : Nat}, Words xs → Words ys → xs.length = ys.length → j < xs.length → xs.drop (j + 1) = ys.drop (j + 1) → xs.getD j 0 < ys.getD j 0 → val xs < val ys
  | [], _, _, _, _, _, hj, _, _ => absurd hj (by simp)
  | x :: xs, [], _, _, _, hl, _, _, _ => absurd hl (by simp)
  | x :: xs, y :: ys, 0, hx, hy, hl, hj, hd, h => by
    have e : xs = ys := by simpa using hd
    subst e
    simp only [List.getD_cons_zero] at h
    simp only [val]; omega
  | x :: xs, y :: ys, j + 1, hx, hy, hl, hj, hd, h => by
    have := val_lt_at (xs := xs) (ys := ys) (j := j) hx.cons.2 hy.cons.2 (by simpa using hl) (by simpa using hj) (by simpa using hd) (by simpa using h)
    have h1 := hx.cons.1
    have h2 := hy.cons.1
    simp only [val]; omega
theorem val_lt_len : ∀ {xs ys : List Nat}, Words xs → trimL ys = ys → xs.length < ys.length → val xs < val ys
  | _, [], _, _, h => absurd h (by simp)
  | [], y :: ys, _, ht, _ => by
    have : val (y :: ys) ≠ 0 := fun e => by rw [trimL_nil_iff.mpr e] at ht; cases ht
    simp only [val] at this ⊢; omega
  | x :: xs, y :: ys, hx, ht, h => by
    have := val_lt_len (xs := xs) (ys := ys) hx.cons.2 (trimL_tail ht) (by simpa using h)
    have h1 := hx.cons.1
    simp only [val]; omega
theorem val_append (xs ys : List Nat) : val (xs ++ ys) = val xs + 2 ^ (32 * xs.length) * val ys := by
  induction xs with
  | nil => simp [val]
  | cons x xs ih =>
    simp only [List.cons_append, val, ih, List.length_cons]
    have e : 2 ^ (32 * (xs.length + 1)) = 4294967296 * 2 ^ (32 * xs.length) := by
      rw [show 32 * (xs.length + 1) = 32 + 32 * xs.length by omega, Nat.pow_add]
    rw [e, Nat.mul_add, Nat.mul_assoc]; omega
theorem val_lt {xs : List Nat} (hw : Words xs) : val xs < 2 ^ (32 * xs.length) := by
  induction xs with
  | nil => simp [val]
  | cons x xs ih =>
    have e : 2 ^ (32 * (xs.length + 1)) = 4294967296 * 2 ^ (32 * xs.length) := by
      rw [show 32 * (xs.length + 1) = 32 + 32 * xs.length by omega, Nat.pow_add]
    rw [List.length_cons, e]; simp only [val]
    have h1 := hw.cons.1
    have h2 := ih hw.cons.2
    omega
theorem blen_trim {xs : List Nat} (hw : Words xs) {n : Nat} (hn : xs.length = n + 1) (h0 : xs.getD n 0 ≠ 0) : blen (val xs) = 32 * n + blen (xs.getD n 0) := by
  have e : xs = xs.take n ++ [xs.getD n 0] := by rw [← take_snoc (by omega), ← hn, List.take_length]
  have hv : val xs = val (xs.take n) + 2 ^ (32 * n) * xs.getD n 0 := by
    conv => lhs; rw [e]
    rw [val_append]; simp [val, show min n xs.length = n by omega]
  have hlt : val (xs.take n) < 2 ^ (32 * n) := by
    have := val_lt (xs := xs.take n) (fun x hx => hw x (List.mem_of_mem_take hx))
    rwa [List.length_take, show min n xs.length = n by omega] at this
  have hd : val xs / 2 ^ (32 * n) = xs.getD n 0 := by
    rw [hv, Nat.add_mul_div_left _ _ (Nat.pow_pos (by decide)), Nat.div_eq_of_lt hlt, Nat.zero_add]
  have := blen_div (val xs) (32 * n)
  rw [hd] at this
  have := blen_pos h0
  omega
theorem digs_len {n k : Nat} : (digs n).length ≤ k ↔ n < 2 ^ (32 * k) := by
  constructor
  · intro h
    have := val_lt (digs_words n)
    rw [val_digs] at this
    exact Nat.lt_of_lt_of_le this (Nat.pow_le_pow_right (by decide) (by omega))
  · intro h
    induction k generalizing n with
    | zero =>
      have : n = 0 := by simpa using h
      subst this; rw [digs_zero]; simp
    | succ k ih =>
      by_cases h0 : n = 0
      · subst h0; rw [digs_zero]; simp
      · rw [digs_pos h0, List.length_cons]
        have e : 2 ^ (32 * (k + 1)) = 2 ^ (32 * k) * 4294967296 := by
          rw [show 32 * (k + 1) = 32 * k + 32 by omega, Nat.pow_add]
        rw [e] at h
        have := ih (n := n / 4294967296) (Nat.div_lt_of_lt_mul (by rw [Nat.mul_comm]; exact h))
        omega
theorem digs_add_len {X Y k : Nat} (hX : (digs X).length ≤ k) (hY : (digs Y).length ≤ k) : (digs (X + Y)).length ≤ k + 1 := by
  refine digs_len.mpr ?_
  have h1 := digs_len.mp hX
  have h2 := digs_len.mp hY
  have e : 2 ^ (32 * (k + 1)) = 2 ^ (32 * k) * 4294967296 := by
    rw [show 32 * (k + 1) = 32 * k + 32 by omega, Nat.pow_add]
  rw [e]; generalize 2 ^ (32 * k) = p at *; omega
theorem lim_blen' {v : Nat} (k : Nat) : blen v ≤ 32 * k ↔ (digs v).length ≤ k := by
  rw [digs_len, blen_le]
theorem val_drop {xs : List Nat} (hw : Words xs) (m : Nat) : val (xs.drop m) = val xs / 2 ^ (32 * m) := by
  by_cases hm : m ≤ xs.length
  · have e : val xs = val (xs.take m) + 2 ^ (32 * m) * val (xs.drop m) := by
      conv => lhs; rw [← List.take_append_drop m xs]
      rw [val_append, List.length_take, Nat.min_eq_left hm]
    have hlt := val_lt (xs := xs.take m) (fun x hx => hw x (List.mem_of_mem_take hx))
    rw [List.length_take, Nat.min_eq_left hm] at hlt
    rw [e, Nat.add_mul_div_left _ _ (Nat.pow_pos (by decide)), Nat.div_eq_of_lt hlt, Nat.zero_add]
  · rw [List.drop_of_length_le (by omega)]
    have := val_lt hw
    have h2 : 2 ^ (32 * xs.length) ≤ 2 ^ (32 * m) := Nat.pow_le_pow_right (by decide) (by omega)
    rw [Nat.div_eq_of_lt (by omega)]; rfl
theorem pq {k : Nat} (hk : k < 32) : 2 ^ k * 2 ^ (32 - k) = 4294967296 := by
  rw [← Nat.pow_add, show k + (32 - k) = 32 by omega]
theorem val_low {xs : List Nat} (hw : Words xs) {m k : Nat} (hm : m < xs.length) (hk : k < 32) : val (xs.take m ++ [xs.getD m 0 % 2 ^ k]) = val xs % 2 ^ (32 * m + k) := by
  have e : val xs = val (xs.take m) + 2 ^ (32 * m) * val (xs.drop m) := by
    conv => lhs; rw [← List.take_append_drop m xs]
    rw [val_append, List.length_take, Nat.min_eq_left (by omega)]
  have hlt := val_lt (xs := xs.take m) (fun x hx => hw x (List.mem_of_mem_take hx))
  rw [List.length_take, Nat.min_eq_left (by omega)] at hlt
  rw [val_append, List.length_take, Nat.min_eq_left (by omega), Nat.pow_add, Nat.mod_mul, e, Nat.add_mul_mod_self_left, Nat.mod_eq_of_lt hlt, Nat.add_mul_div_left _ _ (Nat.pow_pos (by decide)), Nat.div_eq_of_lt hlt, Nat.zero_add, drop_getD hm]
  simp only [val, Nat.mul_zero, Nat.add_zero]
  congr 2
  rw [← pq hk, Nat.mul_assoc, Nat.add_mul_mod_self_left]
theorem val_set : ∀ {zs : List Nat} {j v : Nat}, j < zs.length → val (zs.set j v) + zs.getD j 0 * 2 ^ (32 * j) = val zs + v * 2 ^ (32 * j)
  | [], _, _, h => absurd h (by simp)
  | z :: zs, 0, v, _ => by simp [val]; omega
  | z :: zs, j + 1, v, h => by
    have ih := val_set (zs := zs) (j := j) (v := v) (by simpa using h)
    have e : 2 ^ (32 * (j + 1)) = 4294967296 * 2 ^ (32 * j) := by
      rw [show 32 * (j + 1) = 32 + 32 * j by omega, Nat.pow_add]
    simp only [List.set_cons_succ, val, List.getD_cons_succ, e]
    have e1 : zs.getD j 0 * (4294967296 * 2 ^ (32 * j)) = 4294967296 * (zs.getD j 0 * 2 ^ (32 * j)) := Nat.mul_left_comm _ _ _
    have e2 : v * (4294967296 * 2 ^ (32 * j)) = 4294967296 * (v * 2 ^ (32 * j)) := Nat.mul_left_comm _ _ _
    rw [e1, e2]
    generalize zs.getD j 0 * 2 ^ (32 * j) = a at *
    generalize v * 2 ^ (32 * j) = b at *
    omega
theorem pow_step (j : Nat) : 2 ^ (32 * (j + 1)) = 4294967296 * 2 ^ (32 * j) := by
  rw [show 32 * (j + 1) = 32 + 32 * j by omega, Nat.pow_add]
theorem val_getD_drop (xs : List Nat) (i : Nat) : val (xs.drop i) = xs.getD i 0 + 4294967296 * val (xs.drop (i + 1)) := by
  by_cases h : i < xs.length
  · rw [drop_getD h]; rfl
  · rw [List.drop_of_length_le (by omega), List.drop_of_length_le (by omega)]
    simp [val, List.getD, show xs.length ≤ i by omega]
theorem lt_of_val {zs : List Nat} {T P i : Nat} (hP : P = 2 ^ (32 * i)) (h : P ≤ T) (hT : T < 2 ^ (32 * zs.length)) : i < zs.length := by
  subst hP
  refine Nat.lt_of_not_le fun hh => ?_
  have : 2 ^ (32 * zs.length) ≤ 2 ^ (32 * i) := Nat.pow_le_pow_right (by decide) (by omega)
  omega
theorem val_replicate (m : Nat) : val (List.replicate m 0) = 0 := by
  induction m with
  | zero => rfl
  | succ m ih => rw [List.replicate_succ]; simp [val, ih]
end Go.Gv.D

/- Lists of cells of any one kind: what a slice reads as, blocks that were made here, and the steps that read, write, make, copy and append. -/
namespace Go.Gv
/-- A kind of element that takes one cell. -/
structure El (α : Type) where
  enc : α → Value
  ok : α → Prop
  lim : Nat
  plain : ∀ x, plainV (enc x) = true
def eU64 : El Nat := ⟨fun x => .int .u64 (x : Int), fun x => x < 18446744073709551616, 35184372088828, fun _ => rfl⟩
def eU32 : El Nat := ⟨fun x => .int .u32 (x : Int), fun x => x < 4294967296, 70368744177656, fun _ => rfl⟩
def eU8 : El Nat := ⟨fun x => .int .u8 (x : Int), fun x => x < 256, 281474976710656, fun _ => rfl⟩
instance (x : Nat) : Decidable (eU64.ok x) := inferInstanceAs (Decidable (x < 18446744073709551616))
instance (x : Nat) : Decidable (eU32.ok x) := inferInstanceAs (Decidable (x < 4294967296))
instance (x : Nat) : Decidable (eU8.ok x) := inferInstanceAs (Decidable (x < 256))
theorem ok64 : eU64.ok 0 := (by decide : 0 < 18446744073709551616)
theorem ok32 : eU32.ok 0 := (by decide : 0 < 4294967296)
abbrev Sl := Option Addr × Nat × Nat
def eSl : El Sl := ⟨fun s => .slice s.1 s.2.1 s.2.2, fun _ => True, 11728124029610, fun _ => rfl⟩
variable {α : Type} {E : El α}
structure RdE (E : El α) (h : Hp) (a : Option Addr) (c : Nat) (xs : List α) : Prop where
  len : xs.length ≤ E.lim
  cap : xs.length ≤ c
  ok : ∀ x ∈ xs, E.ok x
  at_ : ∀ i x, xs[i]? = some x → ∃ p, a = some p ∧ cellH h (p.add i) = some (E.enc x)
theorem RdE.keep {h h' : Hp} {a : Option Addr} {c : Nat} {xs : List α} (r : RdE E h a c xs) (k : Keep h h') : RdE E h' a c xs :=
  ⟨r.len, r.cap, r.ok, fun i x hi => let ⟨p, e, g⟩ := r.at_ i x hi; ⟨p, e, k.cell g⟩⟩
theorem RdE.nil (h : Hp) (a : Option Addr) (c : Nat) : RdE E h a c [] := ⟨by simp, by simp, by simp, fun i x hi => by simp at hi⟩
theorem RdE.take {h : Hp} {a : Option Addr} {c : Nat} {xs : List α} (r : RdE E h a c xs) (n : Nat) : RdE E h a c (xs.take n) := by
  refine ⟨?_, ?_, fun x hx => r.ok x (List.mem_of_mem_take hx), fun i x hi => ?_⟩
  · have := r.len; rw [List.length_take]; omega
  · have := r.cap; rw [List.length_take]; omega
  · rw [List.getElem?_take] at hi
    split at hi
    · exact r.at_ i x hi
    · cases hi
theorem RdE.cap_le {h : Hp} {a : Option Addr} {c c' : Nat} {xs : List α} (r : RdE E h a c xs) (hc : xs.length ≤ c') : RdE E h a c' xs := ⟨r.len, hc, r.ok, r.at_⟩
theorem RdE.drop {h : Hp} {a : Option Addr} {c m : Nat} {xs : List α} (r : RdE E h a c xs) (n : Nat) (hn : n ≤ xs.length) (hm : xs.length ≤ m) : RdE E h (subA a m n 1) (m - n) (xs.drop n) := by
  have h1 := r.len; have h2 := r.cap
  refine ⟨?_, ?_, fun x hx => r.ok x (List.mem_of_mem_drop hx), fun i x hi => ?_⟩
  · rw [List.length_drop]; omega
  · rw [List.length_drop]; omega
  · rw [List.getElem?_drop] at hi
    obtain ⟨p, e, g⟩ := r.at_ (n + i) x hi
    have hlt := (List.getElem?_eq_some_iff.mp hi).1
    refine ⟨p.add n, ?_, by rw [add_add]; exact g⟩
    rw [e]; unfold subA
    rw [if_neg (by omega)]; simp
/-- Reading a place. -/
theorem atE {h : Hp} {a : Option Addr} {c l : Nat} {xs : List α} (r : RdE E h a c xs) {i : Int} {j : Nat} (hi : i = (j : Int)) (hl : l = xs.length) {x : α} (hx : xs[j]? = some x) {K : Value → Prop}
    (g : K (E.enc x)) : idxK a l i 1 fun q => ldK h q K := by
  subst hi; subst hl
  obtain ⟨p, e, hc⟩ := r.at_ j x hx
  have hj := (List.getElem?_eq_some_iff.mp hx).1
  subst e
  refine ⟨⟨by omega, by omega⟩, ?_⟩
  show ldK h (p.add ((j : Int).toNat * 1)) _
  have e2 : (j : Int).toNat * 1 = j := by omega
  rw [e2]
  unfold ldK; rw [hc]; exact g
theorem getD_some {xs : List Nat} {j : Nat} (hj : j < xs.length) : xs[j]? = some (xs.getD j 0) := by simp [List.getD, hj]
theorem at32 {h : Hp} {a : Option Addr} {c l : Nat} {xs : List Nat} (r : RdE eU32 h a c xs) {i : Int} {j : Nat} (hi : i = (j : Int)) (hl : l = xs.length) (hj : j < xs.length) {K : Int → Prop}
    (g : K (xs.getD j 0 : Nat)) : idxK a l i 1 fun q => ldK h q fun v => gInt .u32 v K :=
  atE r hi hl (getD_some hj) g
theorem at64 {h : Hp} {a : Option Addr} {c l : Nat} {xs : List Nat} (r : RdE eU64 h a c xs) {i : Int} {j : Nat} (hi : i = (j : Int)) (hl : l = xs.length) (hj : j < xs.length) {K : Int → Prop}
    (g : K (xs.getD j 0 : Nat)) : idxK a l i 1 fun q => ldK h q fun v => gInt .u64 v K :=
  atE r hi hl (getD_some hj) g
theorem atSl {h : Hp} {a : Option Addr} {c l : Nat} {xs : List Sl} (r : RdE eSl h a c xs) {i : Int} {j : Nat} (hi : i = (j : Int)) (hl : l = xs.length) {x : Sl} (hx : xs[j]? = some x) {K : Option Addr → Nat → Nat → Prop}
    (g : K x.1 x.2.1 x.2.2) : idxK a l i 1 fun q => ldK h q fun v => gSlice v K :=
  atE r hi hl hx g
theorem Rd.toE {h : Hp} {a : Option Addr} {c : Nat} {xs : List Nat} (r : Rd h a c xs) : RdE eU64 h a c xs :=
  ⟨r.len, r.cap, r.words, fun i x hi => by
    obtain ⟨hlt, e⟩ := List.getElem?_eq_some_iff.mp hi
    obtain ⟨p, e1, e2⟩ := r.at_ i hlt
    refine ⟨p, e1, ?_⟩
    rw [e2, show xs.getD i 0 = x by simp [List.getD, hlt, e]]
    rfl⟩
theorem RdE.to64 {h : Hp} {a : Option Addr} {c : Nat} {xs : List Nat} (r : RdE eU64 h a c xs) : Rd h a c xs :=
  ⟨r.len, r.cap, r.ok, fun i hi => r.at_ i _ (getD_some hi)⟩
/-! ### blocks that were made here -/
structure BlkE (E : El α) (h : Hp) (b : Nat) (zs : List α) : Prop where
  ok : ∀ x ∈ zs, E.ok x
  at_ : ∃ e, h[b]? = some (.cells (zs.map E.enc).toArray e (0, 0))
theorem BlkE.lt {h : Hp} {b : Nat} {zs : List α} (o : BlkE E h b zs) : b < h.size := by
  obtain ⟨e, g⟩ := o.at_; exact (Array.getElem?_eq_some_iff.mp g).1
theorem BlkE.cell {h : Hp} {b : Nat} {zs : List α} (o : BlkE E h b zs) {i : Nat} {x : α} (hi : zs[i]? = some x) : cellH h ⟨b, i, none⟩ = some (E.enc x) := by
  obtain ⟨e, g⟩ := o.at_
  unfold cellH
  simp only [g, Option.isSome_none, Bool.false_eq_true, if_false]
  simp [hi]
theorem BlkE.frozen {h : Hp} {b : Nat} {zs : List α} (o : BlkE E h b zs) (i : Nat) : frozenH h ⟨b, i, none⟩ = false := by
  obtain ⟨e, g⟩ := o.at_
  unfold frozenH
  simp [g]
theorem BlkE.rdAt {h : Hp} {b off n c : Nat} {zs : List α} (o : BlkE E h b zs) (hl : n ≤ E.lim) (hn : off + n ≤ zs.length) (hc : n ≤ c) : RdE E h (some ⟨b, off, none⟩) c ((zs.drop off).take n) := by
  refine ⟨by rw [List.length_take]; omega, by rw [List.length_take]; omega, fun x hx => o.ok x (List.mem_of_mem_drop (List.mem_of_mem_take hx)), fun i x hi => ⟨_, rfl, ?_⟩⟩
  rw [List.getElem?_take] at hi
  split at hi
  · rw [List.getElem?_drop] at hi
    have e : (⟨b, off, none⟩ : Addr).add i = ⟨b, off + i, none⟩ := by
      rw [← base_add b off, add_add, base_add]
    rw [e]; exact o.cell hi
  · cases hi
theorem BlkE.rd {h : Hp} {b c : Nat} {xs rest : List α} (o : BlkE E h b (xs ++ rest)) (hl : xs.length ≤ E.lim) (hc : xs.length ≤ c) : RdE E h (some ⟨b, 0, none⟩) c xs := by
  have := o.rdAt (off := 0) (n := xs.length) (c := c) hl (by simp) hc
  simpa using this
theorem BlkE.rd' {h : Hp} {b c : Nat} {xs : List α} (o : BlkE E h b xs) (hl : xs.length ≤ E.lim) (hc : xs.length ≤ c) : RdE E h (some ⟨b, 0, none⟩) c xs :=
  BlkE.rd (rest := []) (by simpa using o) hl hc
theorem BlkE.set {h : Hp} {b : Nat} {zs : List α} (o : BlkE E h b zs) (i : Nat) {v : α} (hv : E.ok v) : BlkE E (setH h ⟨b, i, none⟩ (E.enc v)) b (zs.set i v) := by
  refine ⟨fun x hx => ?_, ?_⟩
  · rcases List.mem_or_eq_of_mem_set hx with h1 | h1
    · exact o.ok x h1
    · subst h1; exact hv
  · obtain ⟨e, g⟩ := o.at_
    refine ⟨e, ?_⟩
    unfold setH
    rw [Array.getElem?_modify]
    simp only [if_true, g, Option.map_some]
    simp [List.map_set]
theorem BlkE.keep {h h' : Hp} {b : Nat} {zs : List α} (o : BlkE E h b zs) (k : Keep h h') : BlkE E h' b zs := by
  obtain ⟨e, g⟩ := o.at_
  exact ⟨o.ok, e, by rw [k.pre b o.lt]; exact g⟩
theorem BlkE.keepB {q : Nat} {h h' : Hp} {b : Nat} {zs : List α} (o : BlkE E h b zs) (hb : b ≠ q) (k : KeepB q h h') : BlkE E h' b zs := by
  obtain ⟨e, g⟩ := o.at_
  exact ⟨o.ok, e, by rw [k.pre b o.lt hb]; exact g⟩
theorem RdE.keepB {q : Nat} {h h' : Hp} {a : Option Addr} {c : Nat} {xs : List α} (r : RdE E h a c xs) (o : Off q a) (k : KeepB q h h') : RdE E h' a c xs :=
  ⟨r.len, r.cap, r.ok, fun i x hi => by
    obtain ⟨p, e, g⟩ := r.at_ i x hi
    refine ⟨p, e, ?_⟩
    have hb := cellH_lt g
    rw [cellH_congr (k.pre _ hb (by rw [add_block]; exact o p e))]; exact g⟩
theorem RdE.off {h : Hp} {a : Option Addr} {c : Nat} {xs : List α} (r : RdE E h a c xs) {q : Nat} (hq : h.size ≤ q) : xs = [] ∨ Off q a := by
  cases xs with
  | nil => exact Or.inl rfl
  | cons x xs =>
    obtain ⟨p, e, g⟩ := r.at_ 0 x (by simp)
    have hb := cellH_lt g
    rw [add_block] at hb
    refine Or.inr fun p' e' => ?_
    rw [e] at e'; cases e'; omega
/-- Writing a place of such a block, through a slice that begins anywhere in it. -/
theorem putE {h : Hp} {b l off : Nat} {zs : List α} (o : BlkE E h b zs) {i : Int} {j : Nat} (hi : i = (j : Int)) (hj : j < l) (hz : off + j < zs.length) {x : Value} {v : α} (hx : x = E.enc v) (hv : E.ok v) {K : Hp → Prop}
    (g : BlkE E (setH h ⟨b, off + j, none⟩ (E.enc v)) b (zs.set (off + j) v) → KeepB b h (setH h ⟨b, off + j, none⟩ (E.enc v)) → K (setH h ⟨b, off + j, none⟩ (E.enc v))) : idxK (some ⟨b, off, none⟩) l i 1 fun q => stK h q x K := by
  subst hi; subst hx
  refine ⟨⟨by omega, by omega⟩, ?_⟩
  show stK h ((⟨b, off, none⟩ : Addr).add ((j : Int).toNat * 1)) _ _
  have e2 : (j : Int).toNat * 1 = j := by omega
  have e : (⟨b, off, none⟩ : Addr).add j = ⟨b, off + j, none⟩ := by
    rw [← base_add b off, add_add, base_add]
  rw [e2, e]
  obtain ⟨w, hw⟩ : ∃ w, zs[off + j]? = some w := ⟨zs[off + j], by simp⟩
  exact ⟨⟨⟨_, o.cell hw⟩, o.frozen _⟩, g (o.set _ hv) (KeepB.set _ _ _ _)⟩
/-- The same from the block's beginning. -/
theorem putE0 {h : Hp} {b l : Nat} {zs : List α} (o : BlkE E h b zs) {i : Int} {j : Nat} (hi : i = (j : Int)) (hj : j < l) (hz : j < zs.length) {x : Value} {v : α} (hx : x = E.enc v) (hv : E.ok v) {K : Hp → Prop}
    (g : BlkE E (setH h ⟨b, j, none⟩ (E.enc v)) b (zs.set j v) → KeepB b h (setH h ⟨b, j, none⟩ (E.enc v)) → K (setH h ⟨b, j, none⟩ (E.enc v))) : idxK (some ⟨b, 0, none⟩) l i 1 fun q => stK h q x K := by
  have e : 0 + j = j := Nat.zero_add j
  refine putE (off := 0) o hi hj (by rw [e]; exact hz) hx hv ?_
  rw [e]; exact g
/-- Making a block. -/
theorem mkE {h : Hp} {e : TypeId} {i : TyI} {n m : Int} (E : El α) (z : α) (a b : Nat) (hz : i.zs = [E.enc z]) (ok : E.ok z) (by_ : Nat) (hb : i.bytes = by_) (hb1 : 1 ≤ by_) (hn : n = (a : Int)) (hm : m = (b : Int)) (hab : a ≤ b) (hk : by_ * b ≤ 281474976710656) {K : Addr → Hp → Prop}
    (g : ∀ h', BlkE E h' h.size (List.replicate b z) → Keep h h' → K ⟨h.size, 0, none⟩ h') : mkK h e i n m K := by
  subst hn; subst hm; subst hb
  refine ⟨⟨by omega, by omega, by omega, ?_⟩, g _ ⟨?_, e, ?_⟩ ⟨by simp, fun b hb => ?_⟩⟩
  · have : ((i.bytes : Int) * (b : Int)) = ((i.bytes * b : Nat) : Int) := by simp
    rw [this]; omega
  · intro x hx; rw [List.eq_of_mem_replicate hx]; exact ok
  · rw [hz, zerosL_one]; simp
  · rw [Array.getElem?_push]; rw [if_neg (by omega)]
theorem boxE {h : Hp} {e : TypeId} {cs : List Value} (E : El α) (xs : List α) (hx : cs = xs.map E.enc) (hw : ∀ x ∈ xs, E.ok x) {K : Addr → Hp → Prop}
    (g : ∀ h', BlkE E h' h.size xs → Keep h h' → K ⟨h.size, 0, none⟩ h') : boxK h e cs K := by
  subst hx
  refine g _ ⟨hw, e, ?_⟩ ⟨by simp, fun b hb => ?_⟩
  · simp
  · rw [Array.getElem?_push]; rw [if_neg (by omega)]
/-! ### many cells at once -/
theorem rdLE_of {h : Hp} {p : Addr} : ∀ {vs : List α} {i : Nat}, (∀ j x, vs[j]? = some x → cellH h (p.add (i + j)) = some (E.enc x)) → RdL h p i (vs.map E.enc)
  | [], _, _ => trivial
  | v :: vs, i, g => by
    refine ⟨by have := g 0 v (by simp); simpa using this, rdLE_of fun j x hj => ?_⟩
    have := g (j + 1) x (by simpa using hj)
    rw [show i + 1 + j = i + (j + 1) by omega]; exact this
theorem stLE_of {h : Hp} {p : Addr} : ∀ {n i : Nat}, (∀ j, j < n → (∃ v, cellH h (p.add (i + j)) = some v) ∧ frozenH h (p.add (i + j)) = false) → StL h p i n
  | 0, _, _ => trivial
  | n + 1, i, g => by
    refine ⟨by have := g 0 (by omega); simpa using this, stLE_of fun j hj => ?_⟩
    have := g (j + 1) (by omega)
    rw [show i + 1 + j = i + (j + 1) by omega]; exact this
theorem stHE {b : Nat} : ∀ {vs : List α} {h : Hp} {zs : List α} {off i : Nat}, BlkE E h b zs → (∀ x ∈ vs, E.ok x) → off + i + vs.length ≤ zs.length →
    BlkE E (stH h ⟨b, off, none⟩ i (vs.map E.enc)) b (zs.take (off + i) ++ (vs ++ zs.drop (off + i + vs.length))) ∧ KeepB b h (stH h ⟨b, off, none⟩ i (vs.map E.enc))
  | [], h, zs, off, i, o, _, hl => by
    refine ⟨?_, KeepB.refl _ _⟩
    simp only [List.map_nil, stH, List.length_nil, Nat.add_zero, List.nil_append, List.take_append_drop]; exact o
  | v :: vs, h, zs, off, i, o, hv, hl => by
    have e : (⟨b, off, none⟩ : Addr).add i = ⟨b, off + i, none⟩ := by
      rw [← base_add b off, add_add, base_add]
    simp only [List.length_cons] at hl
    have o2 := o.set (off + i) (hv v (by simp))
    obtain ⟨o3, k3⟩ := stHE (vs := vs) (off := off) (i := i + 1) o2 (fun x hx => hv x (by simp [hx])) (by rw [List.length_set]; omega)
    simp only [List.map_cons, stH, e]
    refine ⟨?_, (KeepB.set _ _ _ _).trans k3⟩
    have e1 : (zs.set (off + i) v).take (off + (i + 1)) ++ (vs ++ (zs.set (off + i) v).drop (off + (i + 1) + vs.length)) = zs.take (off + i) ++ ((v :: vs) ++ zs.drop (off + i + (v :: vs).length)) := by
      rw [show off + (i + 1) = off + i + 1 by omega]
      rw [List.drop_set_of_lt (by omega), List.take_set, List.take_add_one]
      have : (zs.take (off + i) ++ zs[off + i]?.toList).set (off + i) v = zs.take (off + i) ++ [v] := by
        rw [List.set_append_right _ _ (by rw [List.length_take]; omega)]
        have h2 : zs[off + i]? = some (zs[off + i]'(by omega)) := by simp
        rw [h2]
        have h3 : off + i - (zs.take (off + i)).length = 0 := by rw [List.length_take]; omega
        rw [h3]; rfl
      rw [this]
      simp only [List.length_cons, List.cons_append, List.append_assoc, List.nil_append]
      rw [show off + i + 1 + vs.length = off + i + (vs.length + 1) by omega]
    rw [← e1]; exact o3
theorem RdE.srcL {h : Hp} {a : Option Addr} {c l c2 : Nat} {xs : List α} (r : RdE E h a c xs) (n : Nat) (hn : n ≤ xs.length) : SrcL h 1 (.slice a l c2) n ((xs.take n).map E.enc) := by
  refine ⟨by rw [List.length_map, List.length_take]; omega, ?_, ?_⟩
  · intro v hv
    obtain ⟨x, _, e⟩ := List.mem_map.mp hv
    subst e; exact E.plain x
  · cases a with
    | none =>
      show (xs.take n).map E.enc = []
      cases xs with
      | nil => simp
      | cons y ys => obtain ⟨p, e, _⟩ := r.at_ 0 y (by simp); cases e
    | some p =>
      refine rdLE_of fun j x hj => ?_
      rw [Nat.zero_add]
      obtain ⟨q, e1, e2⟩ := (r.take n).at_ j x hj
      cases e1; exact e2
/-- copy into a block that was made here, from its beginning. -/
theorem cpE {h : Hp} {b l l2 c2 : Nat} {zs ys : List α} {a : Option Addr} (o : BlkE E h b zs) (r : RdE E h a c2 ys) (hl : l ≤ zs.length) (hl2 : l2 = ys.length) {c3 : Nat} {K : Int → Hp → Prop}
    (g : ∀ h', BlkE E h' b (ys.take (min ys.length l) ++ zs.drop (min ys.length l)) → KeepB b h h' → K ((min ys.length l : Nat) : Int) h') : cpK h 1 (some ⟨b, 0, none⟩) l (.slice a l2 c3) K := by
  subst hl2
  have hm : Nat.min ys.length l = min ys.length l := rfl
  refine ⟨ys.length, (ys.take (min ys.length l)).map E.enc, rfl, r.srcL _ (by omega), ?_⟩
  have hlen : (ys.take (min ys.length l)).length = min ys.length l := by rw [List.length_take]; omega
  have := stHE (vs := ys.take (min ys.length l)) (off := 0) (i := 0) o (fun x hx => r.ok x (List.mem_of_mem_take hx)) (by rw [hlen]; omega)
  refine ⟨stLE_of fun j hj => ?_, ?_⟩
  · rw [List.length_map, hlen] at hj
    rw [Nat.zero_add, base_add]
    obtain ⟨w, hw⟩ : ∃ w, zs[j]? = some w := ⟨zs[j]'(by omega), by simp⟩
    exact ⟨⟨_, o.cell hw⟩, o.frozen _⟩
  · refine g _ ?_ this.2
    have h1 := this.1
    rw [hlen] at h1
    simpa using h1
/-! ### lists that grow -/
/-- A slice that was made here: nothing else holds its memory. (h0: the heap ahead.) -/
structure GotE (E : El α) (h0 h : Hp) (a : Option Addr) (c : Nat) (xs : List α) : Prop where
  len : xs.length ≤ E.lim
  cap : xs.length ≤ c
  here : (xs = [] ∧ a = none ∧ c = 0) ∨ ∃ b rest, a = some ⟨b, 0, none⟩ ∧ h0.size ≤ b ∧ BlkE E h b (xs ++ rest) ∧ c ≤ (xs ++ rest).length
theorem GotE.nil (h0 h : Hp) : GotE E h0 h none 0 [] := ⟨by simp, by simp, Or.inl ⟨rfl, rfl, rfl⟩⟩
theorem GotE.rd {h0 h : Hp} {a : Option Addr} {c : Nat} {xs : List α} (g : GotE E h0 h a c xs) : RdE E h a c xs := by
  rcases g.here with ⟨e1, e2, e3⟩ | ⟨b, rest, e1, _, o, _⟩
  · subst e1; exact RdE.nil _ _ _
  · subst e1; exact o.rd g.len g.cap
theorem GotE.keep {h0 h h' : Hp} {a : Option Addr} {c : Nat} {xs : List α} (g : GotE E h0 h a c xs) (k : Keep h h') : GotE E h0 h' a c xs :=
  ⟨g.len, g.cap, g.here.imp id fun ⟨b, rest, e1, e2, o, e3⟩ => ⟨b, rest, e1, e2, o.keep k, e3⟩⟩
theorem GotE.from {h0 h1 h : Hp} {a : Option Addr} {c : Nat} {xs : List α} (g : GotE E h1 h a c xs) (k : h0.size ≤ h1.size) : GotE E h0 h a c xs :=
  ⟨g.len, g.cap, g.here.imp id fun ⟨b, rest, e1, e2, o, e3⟩ => ⟨b, rest, e1, Nat.le_trans k e2, o, e3⟩⟩
theorem BlkE.got {h0 h : Hp} {b c : Nat} {xs rest : List α} (o : BlkE E h b (xs ++ rest)) (hb : h0.size ≤ b) (hl : xs.length ≤ E.lim) (h1 : xs.length ≤ c) (hc : c ≤ (xs ++ rest).length) : GotE E h0 h (some ⟨b, 0, none⟩) c xs :=
  ⟨hl, h1, Or.inr ⟨b, rest, rfl, hb, o, hc⟩⟩
theorem BlkE.got' {h0 h : Hp} {b c : Nat} {xs : List α} (o : BlkE E h b xs) (hb : h0.size ≤ b) (hl : xs.length ≤ E.lim) (hc : c = xs.length) : GotE E h0 h (some ⟨b, 0, none⟩) c xs :=
  BlkE.got (rest := []) (by simpa using o) hb hl (by omega) (by simp; omega)
theorem GotE.take {h0 h : Hp} {a : Option Addr} {c : Nat} {xs : List α} (g : GotE E h0 h a c xs) (n : Nat) : GotE E h0 h a c (xs.take n) := by
  have h1 := g.len; have h2 := g.cap
  refine ⟨by rw [List.length_take]; omega, by rw [List.length_take]; omega, ?_⟩
  rcases g.here with ⟨e1, e2, e3⟩ | ⟨b, rest, e1, e2, o, e3⟩
  · subst e1; exact Or.inl ⟨by simp, e2, e3⟩
  · refine Or.inr ⟨b, xs.drop n ++ rest, e1, e2, ?_, ?_⟩
    · rw [← List.append_assoc, List.take_append_drop]; exact o
    · rw [← List.append_assoc, List.take_append_drop]; exact e3
/-- What else changes when a list grows: nothing but its own block. -/
structure KeepX (a : Option Addr) (h h' : Hp) : Prop where
  le : h.size ≤ h'.size
  pre : ∀ b, b < h.size → Off b a → h'[b]? = h[b]?
theorem KeepX.keep {a : Option Addr} {h0 h h' : Hp} (k0 : Keep h0 h) (k : KeepX a h h') (ho : ∀ b, b < h0.size → Off b a) : Keep h0 h' :=
  ⟨Nat.le_trans k0.le k.le, fun b hb => (k.pre b (Nat.lt_of_lt_of_le hb k0.le) (ho b hb)).trans (k0.pre b hb)⟩
theorem GotE.offs {h0 h : Hp} {a : Option Addr} {c : Nat} {xs : List α} (g : GotE E h0 h a c xs) : ∀ b, b < h0.size → Off b a := by
  intro b hb p e
  rcases g.here with ⟨_, e2, _⟩ | ⟨b', rest, e1, e2, _, _⟩
  · rw [e2] at e; cases e
  · rw [e1] at e; cases e; show b' ≠ b; omega
theorem KeepX.refl (a : Option Addr) (h : Hp) : KeepX a h h := ⟨Nat.le_refl _, fun _ _ _ => rfl⟩
theorem KeepX.trans {a : Option Addr} {h h1 h2 : Hp} (x : KeepX a h h1) (y : KeepX a h1 h2) : KeepX a h h2 :=
  ⟨Nat.le_trans x.le y.le, fun b hb ho => (y.pre b (Nat.lt_of_lt_of_le hb x.le) ho).trans (x.pre b hb ho)⟩
/-- append, to a list that was made here, of a list. -/
theorem apE3 {h0 h : Hp} {e : TypeId} {i : TyI} {a a2 : Option Addr} {l c c2 c3 n : Nat} {xs ys : List α} (g : GotE E h0 h a c xs) (k0 : h0.size ≤ h.size) (r : RdE E h a2 c2 ys) (hl : l = xs.length) (hn : n = ys.length) (hlv : i.leaves.length = 1) (z : α) (hz : i.zs = [E.enc z]) (hzo : E.ok z)
    (by_ : Nat) (hb : i.bytes = by_) (hb1 : 1 ≤ by_) (hlim : xs.length + ys.length ≤ E.lim) (hfit : c < xs.length + ys.length → (xs.length + ys.length) * by_ ≤ 140737488355328) {K : Option Addr → Nat → Nat → Hp → Prop}
    (post : ∀ a' c' h', GotE E h0 h' a' c' (xs ++ ys) → KeepX a h h' → (xs.length + ys.length ≤ c → c' = c ∧ a' = a) → (a' = a ∨ ∃ b, a' = some ⟨b, 0, none⟩ ∧ h.size ≤ b) → K a' (xs.length + ys.length) c' h') : apK h e i a l c (.slice a2 n c3) K := by
  subst hl; subst hn; subst hb
  have hm := g.cap
  refine ⟨ys.length, ys.map E.enc, rfl, ?_, ?_, ?_⟩
  · rw [hlv]; have := r.srcL (l := ys.length) (c2 := c3) ys.length (Nat.le_refl _); rw [List.take_length] at this; exact this
  · intro hfc
    rcases g.here with ⟨e1, e2, e3⟩ | ⟨b, rest, e1, e2, o, e3⟩
    · subst e1; subst e2; subst e3
      have : ys = [] := List.length_eq_zero_iff.mp (by simpa using hfc)
      subst this
      exact post none 0 h (GotE.nil _ _) (KeepX.refl _ _) (fun _ => ⟨rfl, rfl⟩) (Or.inl rfl)
    · subst e1
      rw [hlv, Nat.mul_one]
      show StL h ((⟨b, 0, none⟩ : Addr).add xs.length) 0 (List.map E.enc ys).length ∧ K (some ⟨b, 0, none⟩) (xs.length + ys.length) c (stH h ((⟨b, 0, none⟩ : Addr).add xs.length) 0 (List.map E.enc ys))
      rw [base_add]
      have hrest : ys.length ≤ rest.length := by rw [List.length_append] at e3; omega
      have st := stHE (vs := ys) (off := xs.length) (i := 0) o r.ok (by rw [List.length_append]; omega)
      refine ⟨stLE_of fun j hj => ?_, ?_⟩
      · rw [List.length_map] at hj
        have e : (⟨b, xs.length, none⟩ : Addr).add (0 + j) = ⟨b, xs.length + j, none⟩ := by
          rw [Nat.zero_add, ← base_add b xs.length, add_add, base_add]
        rw [e]
        obtain ⟨w, hw⟩ : ∃ w, (xs ++ rest)[xs.length + j]? = some w := ⟨_, List.getElem?_eq_getElem (by rw [List.length_append]; omega)⟩
        exact ⟨⟨_, o.cell hw⟩, o.frozen _⟩
      · have ez : (xs ++ rest).take (xs.length + 0) ++ (ys ++ (xs ++ rest).drop (xs.length + 0 + ys.length)) = (xs ++ ys) ++ rest.drop ys.length := by
          rw [Nat.add_zero, List.take_left, List.drop_append, List.drop_of_length_le (by omega), List.nil_append, List.append_assoc]
          congr 3; omega
        rw [ez] at st
        refine post _ _ _ ?_ ⟨st.2.le, fun b' hb' ho => st.2.pre b' hb' (fun e => ho _ rfl e.symm)⟩ (fun _ => ⟨rfl, rfl⟩) (Or.inl rfl)
        refine ⟨by rw [List.length_append]; exact hlim, by rw [List.length_append]; exact hfc, Or.inr ⟨b, rest.drop ys.length, rfl, e2, st.1, ?_⟩⟩
        rw [List.length_append] at e3
        rw [List.length_append, List.length_append, List.length_drop]; omega
  · intro hfc
    have hlt : c < xs.length + ys.length := by omega
    have hfit := hfit hlt
    refine ⟨growslice_fits hlt hfit, hb1, ?_, (xs.map E.enc), ?_, ?_⟩
    · have : (xs.length + ys.length) * 1 ≤ (xs.length + ys.length) * i.bytes := Nat.mul_le_mul_left _ hb1
      omega
    · rw [hlv]; have := g.rd.srcL (l := xs.length) (c2 := c) xs.length (Nat.le_refl _); rw [List.take_length] at this; exact this
    · intro nc hnc
      refine post _ _ _ ?_ ⟨by simp, fun b' hb' _ => by rw [Array.getElem?_push]; rw [if_neg (by omega)]⟩ (fun hh => absurd hh hfc) (Or.inr ⟨_, rfl, Nat.le_refl _⟩)
      have o : BlkE E (h.push (.cells (xs.map E.enc ++ (ys.map E.enc ++ zerosL i.zs (nc - (xs.length + ys.length)))).toArray e (0, 0))) h.size ((xs ++ ys) ++ List.replicate (nc - (xs.length + ys.length)) z) := by
        refine ⟨fun x hx => ?_, e, ?_⟩
        · rcases List.mem_append.mp hx with h1 | h1
          · rcases List.mem_append.mp h1 with h2 | h2
            · exact g.rd.ok x h2
            · exact r.ok x h2
          · rw [List.eq_of_mem_replicate h1]; exact hzo
        · rw [hz, zerosL_one]; simp
      exact o.got k0 (by rw [List.length_append]; exact hlim) (by rw [List.length_append]; exact hnc) (by simp; omega)
theorem apE2 {h0 h : Hp} {e : TypeId} {i : TyI} {a a2 : Option Addr} {l c c2 c3 n : Nat} {xs ys : List α} (g : GotE E h0 h a c xs) (k0 : h0.size ≤ h.size) (r : RdE E h a2 c2 ys) (hl : l = xs.length) (hn : n = ys.length) (hlv : i.leaves.length = 1) (z : α) (hz : i.zs = [E.enc z]) (hzo : E.ok z)
    (by_ : Nat) (hb : i.bytes = by_) (hb1 : 1 ≤ by_) (hlim : xs.length + ys.length ≤ E.lim) (hfit : c < xs.length + ys.length → (xs.length + ys.length) * by_ ≤ 140737488355328) {K : Option Addr → Nat → Nat → Hp → Prop}
    (post : ∀ a' c' h', GotE E h0 h' a' c' (xs ++ ys) → KeepX a h h' → (xs.length + ys.length ≤ c → c' = c ∧ a' = a) → K a' (xs.length + ys.length) c' h') : apK h e i a l c (.slice a2 n c3) K :=
  apE3 g k0 r hl hn hlv z hz hzo by_ hb hb1 hlim hfit fun a' c' h' g' k' e' _ => post a' c' h' g' k' e'
theorem apE {h0 h : Hp} {e : TypeId} {i : TyI} {a a2 : Option Addr} {l c c2 c3 n : Nat} {xs ys : List α} (g : GotE E h0 h a c xs) (k0 : h0.size ≤ h.size) (r : RdE E h a2 c2 ys) (hl : l = xs.length) (hn : n = ys.length) (hlv : i.leaves.length = 1) (z : α) (hz : i.zs = [E.enc z]) (hzo : E.ok z)
    (by_ : Nat) (hb : i.bytes = by_) (hb1 : 1 ≤ by_) (hlim : xs.length + ys.length ≤ E.lim) (hfit : c < xs.length + ys.length → (xs.length + ys.length) * by_ ≤ 140737488355328) {K : Option Addr → Nat → Nat → Hp → Prop}
    (post : ∀ a' c' h', GotE E h0 h' a' c' (xs ++ ys) → KeepX a h h' → (xs.length + ys.length ≤ c → c' = c) → K a' (xs.length + ys.length) c' h') : apK h e i a l c (.slice a2 n c3) K :=
  apE2 g k0 r hl hn hlv z hz hzo by_ hb hb1 hlim hfit fun a' c' h' g' k' e' => post a' c' h' g' k' fun hh => (e' hh).1
/-- append of one element or more that are written out. -/
theorem pushE {h0 h : Hp} {e : TypeId} {i : TyI} {a : Option Addr} {l c n m : Nat} {cs : List Value} {xs : List α} (E : El α) (g : GotE E h0 h a c xs) (k0 : Keep h0 h) (ys : List α) (hcs : cs = ys.map E.enc) (hok : ∀ y ∈ ys, E.ok y) (hl : l = xs.length) (hn : n = ys.length) (hlv : i.leaves.length = 1) (z : α) (hz : i.zs = [E.enc z]) (hzo : E.ok z)
    (by_ : Nat) (hb : i.bytes = by_) (hb1 : 1 ≤ by_) (hlim : xs.length + ys.length ≤ E.lim) (hfit : c < xs.length + ys.length → (xs.length + ys.length) * by_ ≤ 140737488355328) {K : Option Addr → Nat → Nat → Hp → Prop}
    (post : ∀ a' c' h', GotE E h0 h' a' c' (xs ++ ys) → Keep h0 h' → (xs.length + ys.length ≤ c → c' = c) → K a' (xs.length + ys.length) c' h') : boxK h e cs fun q h2 => apK h2 e i a l c (.slice (some q) n m) K := by
  refine boxE E ys hcs hok fun h2 o2 k2 => ?_
  have r := o2.rd' (c := ys.length) (by omega) (Nat.le_refl _)
  refine apE (g.keep k2) (Nat.le_trans k0.le k2.le) r hl hn hlv z hz hzo by_ hb hb1 hlim hfit fun a' c' h' g' kx hc => post a' c' h' g' ?_ hc
  exact kx.keep (k0.trans k2) g.offs
end Go.Gv

/- What answers stand for, and the steps by which a printed predicate is led to a value. -/
namespace Go.Gv
/-- What an answer says: the heap ahead, the heap behind, the value, what it stands for. -/
abbrev An (β : Type) := Hp → Hp → Value → β → Prop
def sBool : An Bool := fun _ _ v b => v = .bool b
def sL {α : Type} (E : El α) : An (List α) := fun h0 h v xs => ∃ a c, v = .slice a xs.length c ∧ GotE E h0 h a c xs
abbrev sW : An (List Nat) := sL eU64
def s2 {α β : Type} (S : An α) (T : An β) : An (α × β) := fun h0 h v p => ∃ x y, v = .tuple #[x, y] ∧ S h0 h x p.1 ∧ T h0 h y p.2
def s3 {α β γ : Type} (S : An α) (T : An β) (U : An γ) : An (α × β × γ) := fun h0 h v p => ∃ x y z, v = .tuple #[x, y, z] ∧ S h0 h x p.1 ∧ T h0 h y p.2.1 ∧ U h0 h z p.2.2
def s4 {α β γ δ : Type} (S : An α) (T : An β) (U : An γ) (V : An δ) : An (α × β × γ × δ) := fun h0 h v p => ∃ x y z w, v = .tuple #[x, y, z, w] ∧ S h0 h x p.1 ∧ T h0 h y p.2.1 ∧ U h0 h z p.2.2.1 ∧ V h0 h w p.2.2.2
/-- Blocks of two lists are two. -/
def Two (a b : Option Addr) : Prop := ∀ p q, a = some p → b = some q → p.block ≠ q.block
section
variable {β : Type} {S : An β} {h0 : Hp} {K : Value → Hp → Prop}
end
/-- The ranges of whole numbers. -/
def In (k : IntKind) (x : Int) : Prop := k.min ≤ x ∧ x ≤ k.max
theorem in_u64 {x : Int} : In .u64 x ↔ (0 ≤ x ∧ x < 18446744073709551616) := by
  unfold In; simp only [IntKind.min, IntKind.max, IntKind.bits, IntKind.signed, Bool.false_eq_true, if_false]
  omega
theorem GotE.rd64 {h0 h : Hp} {a : Option Addr} {c : Nat} {xs : List Nat} (g : GotE eU64 h0 h a c xs) : Rd h a c xs := g.rd.to64
theorem Own.toE {h : Hp} {b : Nat} {xs : List Nat} (o : Own h b xs) : BlkE eU64 h b xs := ⟨o.words, o.at_⟩
theorem Own.got {h0 h : Hp} {b c : Nat} {xs rest : List Nat} (o : Own h b (xs ++ rest)) (hb : h0.size ≤ b) (h1 : xs.length ≤ c) (hc : c ≤ (xs ++ rest).length) : GotE eU64 h0 h (some ⟨b, 0, none⟩) c xs :=
  o.toE.got hb (by have := o.len; rw [List.length_append] at this; show _ ≤ 35184372088828; omega) h1 hc
theorem Own.got' {h0 h : Hp} {b c : Nat} {xs : List Nat} (o : Own h b xs) (hb : h0.size ≤ b) (hc : c = xs.length) : GotE eU64 h0 h (some ⟨b, 0, none⟩) c xs :=
  Own.got (rest := []) (by simpa using o) hb (by omega) (by simp; omega)
end Go.Gv

/- Words and digits to the base 2^32: the one list out of the other. No program in sight. -/
namespace Go.Gv
def split (xs : List Nat) : List Nat := xs.flatMap fun w => [w % 4294967296, w / 4294967296]
theorem dlen_two (X k : Nat) : (D.digs X).length ≤ 2 * k ↔ (digs X).length ≤ k := by
  rw [D.digs_len, digs_len, show 32 * (2 * k) = 64 * k by omega]
theorem dlen_lim (X : Nat) : (D.digs X).length ≤ 16384 ↔ (digs X).length ≤ 8192 := dlen_two X 8192
theorem dlen_pow {X k : Nat} : (D.digs X).length ≤ k ↔ X < 2 ^ (32 * k) := D.digs_len
def join : List Nat → List Nat
  | [] => []
  | [a] => [a]
  | a :: b :: l => (a + b * 4294967296) :: join l
theorem join_val : ∀ (l : List Nat), val (join l) = D.val l
  | [] => rfl
  | [a] => by simp [join, val, D.val]
  | a :: b :: l => by
    simp only [join, val, D.val]
    rw [join_val l]; omega
theorem join_words : ∀ {l : List Nat}, D.Words l → Words (join l)
  | [], _ => by intro x hx; cases hx
  | [a], h => by intro x hx; have := h a (by simp); simp [join] at hx; omega
  | a :: b :: l, h => by
    intro x hx
    have h1 := h a (by simp); have h2 := h b (by simp)
    rcases List.mem_cons.mp hx with e | e
    · subst e; omega
    · exact join_words (fun y hy => h y (by simp [hy])) x e
theorem join_trim : ∀ {l : List Nat}, trimL l = l → trimL (join l) = join l
  | [], _ => rfl
  | [a], h => by
    simp only [join]
    exact h
  | a :: b :: l, h => by
    have h1 := trimL_tail h
    have h2 := trimL_tail h1
    have ih := join_trim h2
    simp only [join, trimL, ih]
    rw [if_neg]
    rintro ⟨e1, e2⟩
    have hl : l = [] := by
      cases l with
      | nil => rfl
      | cons c l => cases l <;> simp [join] at e2
    subst hl
    have hb : b = 0 := by omega
    subst hb
    simp [trimL] at h1
theorem join_digs (X : Nat) : join (D.digs X) = digs X := by
  have h1 := join_val (D.digs X)
  rw [D.val_digs] at h1
  have h2 := digs_val (join_words (D.digs_words X))
  rw [join_trim (D.trimL_digs X), h1] at h2
  exact h2.symm
theorem join_len : ∀ (l : List Nat), (join l).length = (l.length + 1) / 2
  | [] => rfl
  | [a] => by simp [join]
  | a :: b :: l => by simp only [join, List.length_cons, join_len l]; omega
theorem join_snoc2 : ∀ {l : List Nat} {a b : Nat}, l.length % 2 = 0 → join (l ++ [a, b]) = join l ++ [a + b * 4294967296]
  | [], _, _, _ => rfl
  | [_], _, _, h => by simp at h
  | x :: y :: l, a, b, h => by
    simp only [List.cons_append, join]
    rw [join_snoc2 (by simp at h; omega)]
theorem join_snoc1 : ∀ {l : List Nat} {a : Nat}, l.length % 2 = 0 → join (l ++ [a]) = join l ++ [a]
  | [], _, _ => rfl
  | [_], _, h => by simp at h
  | x :: y :: l, a, h => by
    simp only [List.cons_append, join]
    rw [join_snoc1 (by simp at h; omega)]
theorem D.push_step {zs : List Nat} {i t c' s ca A A' : Nat} (hz : zs.length = i) (hA : A = s + 4294967296 * A') (h : s + ca = t + 4294967296 * c') : D.val (zs ++ [t]) + (A' + c') * 2 ^ (32 * (i + 1)) = D.val zs + (A + ca) * 2 ^ (32 * i) := by
  rw [D.val_append, hz, D.pow_step]
  have e : A + ca = t + 4294967296 * (A' + c') := by omega
  rw [e]
  generalize 2 ^ (32 * i) = P
  simp only [D.val, Nat.mul_zero, Nat.add_zero]
  rw [Nat.add_mul t, Nat.mul_left_comm, Nat.mul_comm P t, Nat.mul_assoc 4294967296]
  omega
/-! ### answers -/
def sI (k : IntKind) : An Int := fun _ _ v n => v = .int k n ∧ In k n
def sD : An Nat := fun h0 h v X => ∃ a c, v = .slice a (D.digs X).length c ∧ GotE eU32 h0 h a c (D.digs X)
/-! ### calls -/
/-! ### ranges -/
theorem getD_ltB {B : Nat} (hB : 0 < B) {xs : List Nat} (hw : ∀ x ∈ xs, x < B) (i : Nat) : xs.getD i 0 < B := by
  by_cases hi : i < xs.length
  · have e : xs.getD i 0 = xs[i] := by simp [List.getD, hi]
    rw [e]; exact hw _ (List.getElem_mem hi)
  · have e : xs.getD i 0 = 0 := by simp [List.getD, Nat.le_of_not_lt hi]
    rw [e]; exact hB
theorem RdE.word32 {h : Hp} {a : Option Addr} {c : Nat} {xs : List Nat} (r : RdE eU32 h a c xs) (j : Nat) : xs.getD j 0 < 4294967296 := getD_ltB (by decide) r.ok j
theorem RdE.len32 {h : Hp} {a : Option Addr} {c : Nat} {xs : List Nat} (r : RdE eU32 h a c xs) : xs.length ≤ 70368744177656 := r.len
/-! ### a list and an error -/
instance (k : IntKind) (x : Int) : Decidable (In k x) := inferInstanceAs (Decidable (_ ∧ _))
abbrev Ans : An (List Nat × Int) := s2 sW (sI .i64)
abbrev AnsS : An (List Nat) := sW
section
variable {h0 h : Hp} {v : Value} {p : List Nat × Int} {xs : List Nat}
theorem Ans.elimG {K : Option Addr → Nat → Nat → Int → Prop} (a : Ans h0 h v p) (g : ∀ a c, GotE eU64 h0 h a c p.1 → In .i64 p.2 → K a p.1.length c p.2) :
    gTup v fun y => uncons y fun v1 y1 => gSlice v1 fun a l c => uncons y1 fun v2 y2 => gInt .i64 v2 fun x => unnil y2 (K a l c x) := by
  obtain ⟨x, y, e, ⟨a, c, e1, r⟩, e2, i⟩ := a
  subst e; subst e1; subst e2; exact g a c r i
theorem Ans.elim {K : Option Addr → Nat → Nat → Int → Prop} (a : Ans h0 h v p) (g : ∀ a c, Rd h a c p.1 → K a p.1.length c p.2) :
    gTup v fun y => uncons y fun v1 y1 => gSlice v1 fun a l c => uncons y1 fun v2 y2 => gInt .i64 v2 fun x => unnil y2 (K a l c x) :=
  a.elimG fun a c r _ => g a c r.rd64
theorem Ans.back {a : Option Addr} {c : Nat} (r : GotE eU64 h0 h a c p.1) (i : In .i64 p.2) : Ans h0 h (.tuple #[.slice a p.1.length c, .int .i64 p.2]) p :=
  ⟨_, _, rfl, ⟨a, c, rfl, r⟩, rfl, i⟩
theorem Ans.mk {a : Option Addr} {c l : Nat} {x : Int} (hl : l = p.1.length) (hx : x = p.2) (r : GotE eU64 h0 h a c p.1) (i : In .i64 p.2) : Ans h0 h (.tuple #[.slice a l c, .int .i64 x]) p := by
  subst hl; subst hx; exact Ans.back r i
theorem Ans.none {x : Int} (i : In .i64 x := by decide) : Ans h0 h (.tuple #[.slice Option.none 0 0, .int .i64 x]) ([], x) := ⟨_, _, rfl, ⟨Option.none, 0, rfl, GotE.nil _ _⟩, rfl, i⟩
theorem Ans.from {h1 : Hp} (a : Ans h1 h v p) (k : h0.size ≤ h1.size) : Ans h0 h v p := by
  obtain ⟨x, y, e, ⟨a, c, e1, r⟩, e2, i⟩ := a
  exact ⟨x, y, e, ⟨a, c, e1, r.from k⟩, e2, i⟩
theorem AnsS.elim {K : Option Addr → Nat → Nat → Prop} (a : AnsS h0 h v xs) (g : ∀ a c, Rd h a c xs → K a xs.length c) : gSlice v K := by
  obtain ⟨a, c, e, r⟩ := a
  subst e; exact g a c r.rd64
theorem AnsS.elimG {K : Option Addr → Nat → Nat → Prop} (a : AnsS h0 h v xs) (g : ∀ a c, GotE eU64 h0 h a c xs → K a xs.length c) : gSlice v K := by
  obtain ⟨a, c, e, r⟩ := a
  subst e; exact g a c r
end
theorem Mine.got {h0 h : Hp} {b : Nat} {xs : List Nat} (o : Mine h b xs) (hb : h0.size ≤ b) : GotE eU64 h0 h (some ⟨b, 0, none⟩) xs.length xs := by
  obtain ⟨rest, o⟩ := o
  exact o.got hb (Nat.le_refl _) (by simp)
theorem GotE.trim {h0 h : Hp} {a : Option Addr} {c : Nat} {xs : List Nat} {E : El Nat} (g : GotE E h0 h a c xs) : GotE E h0 h a c (trimL xs) := by
  have e : xs.take (trimL xs).length = trimL xs := by
    clear g
    induction xs with
    | nil => rfl
    | cons x xs ih =>
      simp only [trimL]
      split
      · rfl
      · simp [ih]
  have := g.take (trimL xs).length
  rw [e] at this; exact this
theorem sD.elim {h0 h : Hp} {v : Value} {X : Nat} {K : Option Addr → Nat → Nat → Prop} (s : sD h0 h v X) (g : ∀ a c, GotE eU32 h0 h a c (D.digs X) → K a (D.digs X).length c) : gSlice v K := by
  obtain ⟨a, c, e, r⟩ := s
  subst e; exact g a c r
theorem sD.from {h0 h1 h : Hp} {v : Value} {X : Nat} (s : sD h1 h v X) (k : h0.size ≤ h1.size) : sD h0 h v X := by
  obtain ⟨a, c, e, r⟩ := s
  exact ⟨a, c, e, r.from k⟩
end Go.Gv

/- Lists of lists of words in the heap. -/
namespace Go.Gv
abbrev RdLL (h : Hp) (a : Option Addr) (c : Nat) (l : List (List Nat)) : Prop := RdList saysWords 1 5864062014634 h a c l
theorem RdLL.keep {h h' : Hp} {a : Option Addr} {c : Nat} {l : List (List Nat)} (r : RdLL h a c l) (k : Keep h h') : RdLL h' a c l := RdList.keep saysWords_lasts r k
end Go.Gv

/- Structs that lie in the heap: reading and writing a field. -/
namespace Go.Gv
structure BlkV (h : Hp) (b : Nat) (vs : List Value) : Prop where
  at_ : ∃ e, h[b]? = some (.cells vs.toArray e (0, 0))
theorem BlkV.lt {h : Hp} {b : Nat} {vs : List Value} (o : BlkV h b vs) : b < h.size := by
  obtain ⟨e, g⟩ := o.at_; exact (Array.getElem?_eq_some_iff.mp g).1
theorem BlkV.keep {h h' : Hp} {b : Nat} {vs : List Value} (o : BlkV h b vs) (k : Keep h h') : BlkV h' b vs := by
  obtain ⟨e, g⟩ := o.at_; exact ⟨e, by rw [k.pre b o.lt]; exact g⟩
theorem BlkV.keepB {q : Nat} {h h' : Hp} {b : Nat} {vs : List Value} (o : BlkV h b vs) (hb : b ≠ q) (k : KeepB q h h') : BlkV h' b vs := by
  obtain ⟨e, g⟩ := o.at_; exact ⟨e, by rw [k.pre b o.lt hb]; exact g⟩
theorem boxV {h : Hp} {e : TypeId} {cs : List Value} {K : Addr → Hp → Prop} (g : ∀ h', BlkV h' h.size cs → Keep h h' → K ⟨h.size, 0, none⟩ h') : boxK h e cs K :=
  g _ ⟨e, by simp⟩ ⟨by simp, fun b hb => by rw [Array.getElem?_push]; rw [if_neg (by omega)]⟩
theorem ldV {h : Hp} {b : Nat} {vs : List Value} (o : BlkV h b vs) {k : Nat} {v : Value} (hk : vs[k]? = some v) {K : Value → Prop} (g : K v) : ldK h ((⟨b, 0, none⟩ : Addr).add k) K := by
  obtain ⟨e, at_⟩ := o.at_
  unfold ldK
  have : cellH h ((⟨b, 0, none⟩ : Addr).add k) = some v := by
    rw [base_add]; unfold cellH
    simp only [at_, Option.isSome_none, Bool.false_eq_true, if_false]
    simpa using hk
  rw [this]; exact g
theorem ldV0 {h : Hp} {b : Nat} {vs : List Value} (o : BlkV h b vs) {v : Value} (hk : vs[0]? = some v) {K : Value → Prop} (g : K v) : ldK h (⟨b, 0, none⟩ : Addr) K := by
  have := ldV (k := 0) o hk g
  rw [base_add] at this; exact this
theorem stV {h : Hp} {b : Nat} {vs : List Value} (o : BlkV h b vs) {k : Nat} {v : Value} (hk : k < vs.length) {K : Hp → Prop} (g : ∀ h', BlkV h' b (vs.set k v) → KeepB b h h' → K h') : stK h ((⟨b, 0, none⟩ : Addr).add k) v K := by
  obtain ⟨e, at_⟩ := o.at_
  rw [base_add]
  refine ⟨⟨⟨vs[k], ?_⟩, ?_⟩, g _ ⟨e, ?_⟩ (KeepB.set _ _ _ _)⟩
  · unfold cellH
    simp only [at_, Option.isSome_none, Bool.false_eq_true, if_false]
    simp [hk]
  · unfold frozenH; simp [at_]
  · unfold setH
    rw [Array.getElem?_modify]
    simp only [if_true, at_, Option.map_some]
    simp
theorem stV0 {h : Hp} {b : Nat} {vs : List Value} (o : BlkV h b vs) {v : Value} (hk : 0 < vs.length) {K : Hp → Prop} (g : ∀ h', BlkV h' b (vs.set 0 v) → KeepB b h h' → K h') : stK h (⟨b, 0, none⟩ : Addr) v K := by
  have := stV (k := 0) o hk g
  rw [base_add] at this; exact this
theorem BlkV.addLt {h : Hp} {b : Nat} {vs : List Value} (o : BlkV h b vs) (k : Nat) : ((⟨b, 0, none⟩ : Addr).add k).block < h.size := by
  rw [add_block]; exact o.lt
theorem Keep.preLe {a b : Hp} {n : Nat} (k : Keep a b) (hn : n ≤ a.size) : Pre n a b := fun i hi => k.pre i (Nat.lt_of_lt_of_le hi hn)
theorem GotE.keepB {α : Type} {E : El α} {q : Nat} {h1 h h' : Hp} {a : Option Addr} {c : Nat} {xs : List α} (g : GotE E h1 h a c xs) (hq : q < h1.size) (k : KeepB q h h') : GotE E h1 h' a c xs :=
  ⟨g.len, g.cap, g.here.imp id fun ⟨b, rest, e1, e2, o, e3⟩ => ⟨b, rest, e1, e2, o.keepB (by omega) k, e3⟩⟩
end Go.Gv

/- Lists of lists whose memory was made here, each in a block of its own; structs of five fields. -/
namespace Go.Gv
/-- A slice over its own block, made between lo and hi, that reads as xs. -/
def Own1 (lo hi : Nat) (h : Hp) (s : Sl) (xs : List Nat) : Prop :=
  s.2.1 = xs.length ∧ xs.length ≤ s.2.2 ∧ xs.length ≤ 35184372088828 ∧ ((xs = [] ∧ s.1 = none ∧ s.2.2 = 0) ∨ ∃ b rest, s.1 = some ⟨b, 0, none⟩ ∧ lo ≤ b ∧ b < hi ∧ BlkE eU64 h b (xs ++ rest) ∧ s.2.2 ≤ (xs ++ rest).length)
theorem Own1.nil (lo hi : Nat) (h : Hp) : Own1 lo hi h (none, 0, 0) [] := ⟨rfl, by simp, by simp, Or.inl ⟨rfl, rfl, rfl⟩⟩
theorem Own1.of_got {h0 h : Hp} {a : Option Addr} {c l : Nat} {xs : List Nat} (g : GotE eU64 h0 h a c xs) (hl : l = xs.length) {lo hi : Nat} (h1 : lo ≤ h0.size) (h2 : h.size ≤ hi) : Own1 lo hi h (a, l, c) xs := by
  subst hl
  refine ⟨rfl, g.cap, g.len, g.here.imp id ?_⟩
  rintro ⟨b, rest, e1, e2, o, e3⟩
  exact ⟨b, rest, e1, Nat.le_trans h1 e2, Nat.lt_of_lt_of_le o.lt h2, o, e3⟩
theorem Own1.rd {lo hi : Nat} {h : Hp} {s : Sl} {xs : List Nat} (o : Own1 lo hi h s xs) : Rd h s.1 s.2.2 xs := by
  obtain ⟨h1, h2, h3, h4⟩ := o
  rcases h4 with ⟨e1, e2, e3⟩ | ⟨b, rest, e1, _, _, o, _⟩
  · subst e1; exact Rd.nil _ _ _
  · rw [e1]; exact (o.rd h3 h2).to64
theorem Own1.keep {lo hi : Nat} {h h' : Hp} {s : Sl} {xs : List Nat} (o : Own1 lo hi h s xs) (k : Keep h h') : Own1 lo hi h' s xs :=
  ⟨o.1, o.2.1, o.2.2.1, o.2.2.2.imp id fun ⟨b, rest, e1, e2, e3, w, e4⟩ => ⟨b, rest, e1, e2, e3, w.keep k, e4⟩⟩
theorem Own1.keepB {lo hi q : Nat} {h h' : Hp} {s : Sl} {xs : List Nat} (o : Own1 lo hi h s xs) (hq : q < lo ∨ hi ≤ q) (k : KeepB q h h') : Own1 lo hi h' s xs :=
  ⟨o.1, o.2.1, o.2.2.1, o.2.2.2.imp id fun ⟨b, rest, e1, e2, e3, w, e4⟩ => ⟨b, rest, e1, e2, e3, w.keepB (by omega) k, e4⟩⟩
theorem Own1.wide {lo hi lo' hi' : Nat} {h : Hp} {s : Sl} {xs : List Nat} (o : Own1 lo hi h s xs) (h1 : lo' ≤ lo) (h2 : hi ≤ hi') : Own1 lo' hi' h s xs :=
  ⟨o.1, o.2.1, o.2.2.1, o.2.2.2.imp id fun ⟨b, rest, e1, e2, e3, w, e4⟩ => ⟨b, rest, e1, Nat.le_trans h1 e2, Nat.lt_of_lt_of_le e3 h2, w, e4⟩⟩
theorem Own1.block {lo hi : Nat} {h : Hp} {s : Sl} {xs : List Nat} (o : Own1 lo hi h s xs) : ∀ p, s.1 = some p → lo ≤ p.block ∧ p.block < hi := by
  intro p ep
  rcases o.2.2.2 with ⟨_, e, _⟩ | ⟨b, rest, e1, e2, e3, _, _⟩
  · rw [e] at ep; cases ep
  · rw [e1] at ep; cases ep; exact ⟨e2, e3⟩
/-- Lists, each in a block of its own, made between lo and hi. -/
structure FreshL (lo hi : Nat) (h : Hp) (hs : List Sl) (lls : List (List Nat)) : Prop where
  len : hs.length = lls.length
  at_ : ∀ (i : Nat) s xs, hs[i]? = some s → lls[i]? = some xs → Own1 lo hi h s xs
  two : ∀ (i j : Nat) (s t : Sl) (p q : Addr), hs[i]? = some s → hs[j]? = some t → s.1 = some p → t.1 = some q → p.block = q.block → i = j
theorem FreshL.keep {lo hi : Nat} {h h' : Hp} {hs : List Sl} {lls : List (List Nat)} (f : FreshL lo hi h hs lls) (k : Keep h h') : FreshL lo hi h' hs lls := ⟨f.len, fun i s xs e1 e2 => (f.at_ i s xs e1 e2).keep k, f.two⟩
theorem FreshL.keepB {lo hi q : Nat} {h h' : Hp} {hs : List Sl} {lls : List (List Nat)} (f : FreshL lo hi h hs lls) (hq : q < lo ∨ hi ≤ q) (k : KeepB q h h') : FreshL lo hi h' hs lls := ⟨f.len, fun i s xs e1 e2 => (f.at_ i s xs e1 e2).keepB hq k, f.two⟩
theorem FreshL.block {lo hi : Nat} {h : Hp} {hs : List Sl} {lls : List (List Nat)} (f : FreshL lo hi h hs lls) : ∀ s ∈ hs, ∀ p, s.1 = some p → lo ≤ p.block ∧ p.block < hi := by
  intro s hs' p ep
  obtain ⟨i, hi'⟩ := List.getElem?_of_mem hs'
  have hl := (List.getElem?_eq_some_iff.mp hi').1
  have hx : lls[i]? = some (lls[i]'(by rw [← f.len]; exact hl)) := List.getElem?_eq_getElem _
  exact (f.at_ i s _ hi' hx).block p ep
theorem FreshL.wide {lo hi lo' hi' : Nat} {h : Hp} {hs : List Sl} {lls : List (List Nat)} (f : FreshL lo hi h hs lls) (h1 : lo' ≤ lo) (h2 : hi ≤ hi') : FreshL lo' hi' h hs lls := ⟨f.len, fun i s xs e1 e2 => (f.at_ i s xs e1 e2).wide h1 h2, f.two⟩
theorem FreshL.one {lo hi : Nat} {h : Hp} {s : Sl} {xs : List Nat} (o : Own1 lo hi h s xs) : FreshL lo hi h [s] [xs] := by
  refine ⟨rfl, fun i t ys e1 e2 => ?_, fun i j s' t p q e1 e2 _ _ _ => ?_⟩
  · cases i with
    | zero => simp at e1 e2; subst e1; subst e2; exact o
    | succ i => simp at e1
  · have h1 := (List.getElem?_eq_some_iff.mp e1).1
    have h2 := (List.getElem?_eq_some_iff.mp e2).1
    simp at h1 h2; omega
theorem FreshL.three {lo hi : Nat} {h : Hp} {s t u : Sl} {xs ys zs : List Nat} (o1 : Own1 lo hi h s xs) (o2 : Own1 lo hi h t ys) (o3 : Own1 lo hi h u zs)
    (h12 : ∀ p q, s.1 = some p → t.1 = some q → p.block ≠ q.block) (h13 : ∀ p q, s.1 = some p → u.1 = some q → p.block ≠ q.block) (h23 : ∀ p q, t.1 = some p → u.1 = some q → p.block ≠ q.block) : FreshL lo hi h [s, t, u] [xs, ys, zs] := by
  refine ⟨rfl, fun i w ws e1 e2 => ?_, fun i j a b p q e1 e2 f1 f2 e => ?_⟩
  · match i with
    | 0 => simp at e1 e2; subst e1; subst e2; exact o1
    | 1 => simp at e1 e2; subst e1; subst e2; exact o2
    | 2 => simp at e1 e2; subst e1; subst e2; exact o3
    | i + 3 => simp at e1
  · match i, j with
    | 0, 0 | 1, 1 | 2, 2 => rfl
    | 0, 1 => simp at e1 e2; subst e1; subst e2; exact absurd e (h12 _ _ f1 f2)
    | 1, 0 => simp at e1 e2; subst e1; subst e2; exact absurd e.symm (h12 _ _ f2 f1)
    | 0, 2 => simp at e1 e2; subst e1; subst e2; exact absurd e (h13 _ _ f1 f2)
    | 2, 0 => simp at e1 e2; subst e1; subst e2; exact absurd e.symm (h13 _ _ f2 f1)
    | 1, 2 => simp at e1 e2; subst e1; subst e2; exact absurd e (h23 _ _ f1 f2)
    | 2, 1 => simp at e1 e2; subst e1; subst e2; exact absurd e.symm (h23 _ _ f2 f1)
    | i + 3, _ => simp at e1
    | _, j + 3 => simp at e2
theorem FreshL.pair {lo hi k : Nat} {h : Hp} {s t : Sl} {xs ys : List Nat} (h1 : lo ≤ k) (h2 : k ≤ hi) (o : (Own1 lo k h s xs ∧ Own1 k hi h t ys) ∨ (Own1 k hi h s xs ∧ Own1 lo k h t ys)) : FreshL lo hi h [s, t] [xs, ys] := by
  have ne : ∀ p q, s.1 = some p → t.1 = some q → p.block ≠ q.block := fun p q e1 e2 => by
    rcases o with ⟨a, b⟩ | ⟨a, b⟩
    · have := a.block p e1; have := b.block q e2; omega
    · have := a.block p e1; have := b.block q e2; omega
  have os : Own1 lo hi h s xs := by rcases o with ⟨a, b⟩ | ⟨a, b⟩ <;> exact a.wide (by omega) (by omega)
  have ot : Own1 lo hi h t ys := by rcases o with ⟨a, b⟩ | ⟨a, b⟩ <;> exact b.wide (by omega) (by omega)
  refine ⟨rfl, fun i w ws e1 e2 => ?_, fun i j a b p q e1 e2 f1 f2 e => ?_⟩
  · match i with
    | 0 => simp at e1 e2; subst e1; subst e2; exact os
    | 1 => simp at e1 e2; subst e1; subst e2; exact ot
    | i + 2 => simp at e1
  · match i, j with
    | 0, 0 | 1, 1 => rfl
    | 0, 1 => simp at e1 e2; subst e1; subst e2; exact absurd e (ne _ _ f1 f2)
    | 1, 0 => simp at e1 e2; subst e1; subst e2; exact absurd e.symm (ne _ _ f2 f1)
    | i + 2, _ => simp at e1
    | _, j + 2 => simp at e2
theorem Own1.got {lo hi : Nat} {h0 h : Hp} {s : Sl} {xs : List Nat} (o : Own1 lo hi h s xs) (hl : h0.size ≤ lo) : GotE eU64 h0 h s.1 s.2.2 xs :=
  ⟨o.2.2.1, o.2.1, o.2.2.2.imp id fun ⟨b, rest, e1, e2, _, w, e3⟩ => ⟨b, rest, e1, Nat.le_trans hl e2, w, e3⟩⟩
theorem FreshL.join {lo1 hi1 lo2 hi2 lo hi : Nat} {h : Hp} {hs1 hs2 : List Sl} {l1 l2 : List (List Nat)} (f1 : FreshL lo1 hi1 h hs1 l1) (f2 : FreshL lo2 hi2 h hs2 l2) (hd : hi1 ≤ lo2 ∨ hi2 ≤ lo1) (a1 : lo ≤ lo1) (a2 : lo ≤ lo2) (b1 : hi1 ≤ hi) (b2 : hi2 ≤ hi) :
    FreshL lo hi h (hs1 ++ hs2) (l1 ++ l2) := by
  have e1 := f1.len; have e2 := f2.len
  refine ⟨by rw [List.length_append, List.length_append, e1, e2], fun i s xs g1 g2 => ?_, fun i j s t p q g1 g2 p1 p2 e => ?_⟩
  · by_cases hi' : i < hs1.length
    · rw [List.getElem?_append_left hi'] at g1
      rw [List.getElem?_append_left (by omega)] at g2
      exact (f1.at_ i s xs g1 g2).wide a1 b1
    · rw [List.getElem?_append_right (by omega)] at g1
      rw [List.getElem?_append_right (by omega), ← e1] at g2
      exact (f2.at_ _ s xs g1 g2).wide a2 b2
  · by_cases hi' : i < hs1.length <;> by_cases hj' : j < hs1.length
    · rw [List.getElem?_append_left hi'] at g1
      rw [List.getElem?_append_left hj'] at g2
      exact f1.two i j s t p q g1 g2 p1 p2 e
    · rw [List.getElem?_append_left hi'] at g1
      rw [List.getElem?_append_right (by omega)] at g2
      have := f1.block s (List.mem_of_getElem? g1) p p1
      have := f2.block t (List.mem_of_getElem? g2) q p2
      omega
    · rw [List.getElem?_append_right (by omega)] at g1
      rw [List.getElem?_append_left hj'] at g2
      have := f2.block s (List.mem_of_getElem? g1) p p1
      have := f1.block t (List.mem_of_getElem? g2) q p2
      omega
    · rw [List.getElem?_append_right (by omega)] at g1 g2
      have := f2.two _ _ s t p q g1 g2 p1 p2 e
      omega
/-! ### structs of fields -/
theorem ldI {h : Hp} {b : Nat} {vs : List Value} (o : BlkV h b vs) {k : Nat} {t : IntKind} {x : Int} (hk : vs[k]? = some (.int t x)) {K : Int → Prop} (g : K x) : ldK h ((⟨b, 0, none⟩ : Addr).add k) fun v => gInt t v K := ldV o hk (gInt_intro rfl g)
theorem ldS {h : Hp} {b : Nat} {vs : List Value} (o : BlkV h b vs) {k : Nat} {a : Option Addr} {l c : Nat} (hk : vs[k]? = some (.slice a l c)) {K : Option Addr → Nat → Nat → Prop} (g : K a l c) : ldK h ((⟨b, 0, none⟩ : Addr).add k) fun v => gSlice v K := ldV o hk (gSlice_intro rfl g)
end Go.Gv
