/- From a row's reading of any argument to facts of the heap: whole numbers, words, lists and structs of these. -/
import Derived.ChangeArms
import Derived.Test.YtaglonbkdcmmpaaGvRow
namespace Go.Gv
open Go.ChangeShapes Go.WideShapes Go.ChangeAt Go.RowKit
/-- What a value's cells say in a heap. -/
abbrev Says (α : Type) := Hp → List Value → α → Prop
def Lasts {α : Type} (S : Says α) : Prop := ∀ (h h' : Hp) (cs : List Value) (a : α), S h cs a → Keep h h' → S h' cs a
/-- Whatever reads as a value of type t (within the sizes) says something. -/
def Opens {H : Type} (enc : TypeId × Value → H) (P : Program) (W : World) (t : TypeId) {α : Type} (S : Says α) : Prop :=
  ∀ (fuel : Nat) (cs : List Value) (x : DataW H × List MemPlace), DataW.trod enc P W 0 (fun _ => true) true fuel t cs = some x → (∀ n ∈ x.1.weights P t, n ≤ reachBytes) → ∃ a, S W.heap cs a
def saysInt (k : IntKind) : Says Int := fun _ cs n => cs = [.int k n] ∧ (Lit.int k n).wf = true
def saysBool : Says Bool := fun _ cs b => cs = [.bool b]
def saysWords : Says (List Nat) := fun h cs xs => ∃ a c, cs = [.slice a xs.length c] ∧ Rd h a c xs ∧ xs.length ≤ 17592186043904
/-- A list of things of sz cells each. -/
structure RdList {α : Type} (S : Says α) (sz m : Nat) (h : Hp) (a : Option Addr) (c : Nat) (l : List α) : Prop where
  len : l.length ≤ m
  cap : l.length ≤ c
  at_ : ∀ i x, l[i]? = some x → ∃ p vs, a = some p ∧ vs.length = sz ∧ RdL h (p.add (i * sz)) 0 vs ∧ S h vs x
def saysList {α : Type} (S : Says α) (sz m : Nat) : Says (List α) := fun h cs l => ∃ a c, cs = [.slice a l.length c] ∧ RdList S sz m h a c l
theorem RdL.keep {h h' : Hp} (k : Keep h h') {p : Addr} : ∀ {vs : List Value} {i : Nat}, RdL h p i vs → RdL h' p i vs
  | [], _, _ => trivial
  | _ :: _, _, g => ⟨k.cell g.1, RdL.keep k g.2⟩
theorem RdList.keep {α : Type} {S : Says α} (hS : Lasts S) {sz m : Nat} {h h' : Hp} {a : Option Addr} {c : Nat} {l : List α} (r : RdList S sz m h a c l) (k : Keep h h') : RdList S sz m h' a c l :=
  ⟨r.len, r.cap, fun i x hx => let ⟨p, vs, e, hv, g, s⟩ := r.at_ i x hx; ⟨p, vs, e, hv, g.keep k, hS _ _ _ _ s k⟩⟩
theorem saysInt_lasts (k : IntKind) : Lasts (saysInt k) := fun _ _ _ _ s _ => s
theorem saysBool_lasts : Lasts saysBool := fun _ _ _ _ s _ => s
theorem saysWords_lasts : Lasts saysWords := fun _ _ _ _ ⟨a, c, e, r, b⟩ k => ⟨a, c, e, r.keep k, b⟩
theorem saysList_lasts {α : Type} {S : Says α} (hS : Lasts S) (sz m : Nat) : Lasts (saysList S sz m) := fun _ _ _ _ ⟨a, c, e, r⟩ k => ⟨a, c, e, r.keep hS k⟩
section
variable {H : Type} {enc : TypeId × Value → H} {P : Program} {W : World}
theorem opens_int {t : TypeId} {k : IntKind} (ht : P.underlying t = some (.int k)) : Opens enc P W t (saysInt k) := by
  intro fuel cs x h _
  cases fuel with
  | zero => simp [DataW.trod] at h
  | succ n =>
    unfold DataW.trod at h
    rw [ht] at h
    split at h <;> simp_all
    rename_i k' m heq
    obtain ⟨⟨rfl, hw⟩, _⟩ := h
    exact ⟨_, rfl, hw⟩
theorem opens_bool {t : TypeId} (ht : P.underlying t = some .bool) : Opens enc P W t saysBool := by
  intro fuel cs x h _
  cases fuel with
  | zero => simp [DataW.trod] at h
  | succ n =>
    unfold DataW.trod at h
    rw [ht] at h
    split at h
    all_goals first
      | exact ⟨_, rfl⟩
      | simp_all
def saysStr : Says ByteArray := fun _ cs s => cs = [.string s] ∧ s.size ≤ 140737488351232
theorem saysStr_lasts : Lasts saysStr := fun _ _ _ _ s _ => s
theorem opens_str {t : TypeId} (ht : P.underlying t = some .string) : Opens enc P W t saysStr := by
  intro fuel cs x h hw
  obtain ⟨s, h1, hx, hs⟩ := DataW.trod_string ht h
  refine ⟨s, h1, ?_⟩
  have : s.data.toList.length ≤ reachBytes := by
    refine hw _ ?_
    rw [hx]; simp [DataW.weights]
  have hr : reachBytes = 140737488351232 := rfl
  rw [hr] at this
  simpa using this
theorem weights_all {e : TypeId} {n : Nat} : ∀ {ds : List (DataW H)} {d : DataW H}, d ∈ ds → n ∈ d.weights P e → n ∈ DataW.weightsAll P e ds
  | [], _, h, _ => by cases h
  | d :: ds, d', h, hn => by
    unfold DataW.weightsAll
    rcases List.mem_cons.mp h with e | e
    · subst e; exact List.mem_append_left _ hn
    · exact List.mem_append_right _ (weights_all e hn)
/-- Cells that are read one after another. -/
theorem rdL_cells {w : World} {a : Addr} {n : Nat} {vs : List Value} (h : w.cells? 0 a n = some vs) : vs.length = n ∧ RdL w.heap a 0 vs := by
  obtain ⟨_, hl, hc⟩ := World.cells?_some h
  refine ⟨hl, ?_⟩
  have key : ∀ (us : List Value) (i : Nat), (∀ j, j < us.length → w.cell? (a.add (i + j)) = us[j]?) → RdL w.heap a i us := by
    intro us
    induction us with
    | nil => intro _ _; trivial
    | cons u us ih =>
      intro i g
      refine ⟨by have := g 0 (by simp); simpa [cell?_eq] using this, ih (i + 1) fun j hj => ?_⟩
      have := g (j + 1) (by simpa using hj)
      rw [show i + 1 + j = i + (j + 1) by omega]; simpa using this
  exact key vs 0 fun j hj => by rw [Nat.zero_add]; exact hc j (by omega)
theorem opens_list {t e : TypeId} {α : Type} {S : Says α} {sz by_ m : Nat} (ht : P.underlying t = some (.slice e)) (hc : P.cellsOf e = sz) (hb : P.bytesOf e = by_) (hb1 : 1 ≤ by_) (hm : m = 140737488351232 / by_) (o : Opens enc P W e S) : Opens enc P W t (saysList S sz m) := by
  intro fuel cs x h hw
  rcases DataW.trod_slice ht h with ⟨rfl, rfl⟩ | ⟨a, len, cap, elems, rest, n, rfl, rfl, rfl, _, hl, _, hlen, hel, hsp, _⟩
  · exact ⟨[], none, 0, rfl, by simp, by simp, fun i x hx => by simp at hx⟩
  have hww : ∀ m ∈ DataW.weights P t (.slice (elems.map (·.1)) (rest.map (·.1)) : DataW H), m ≤ reachBytes := hw
  unfold DataW.weights at hww
  rw [ht] at hww
  have h1 := hww ((elems.map (·.1)).length + (rest.map (·.1)).length |> (· * P.bytesOf e)) (by simp)
  have hr : reachBytes = 140737488351232 := rfl
  have hlen2 : len ≤ m := by
    have h2 : len * by_ ≤ (elems.length + rest.length) * P.bytesOf e := Nat.mul_le_mul (by omega) (by omega)
    simp only [List.length_map] at h1
    rw [hm, Nat.le_div_iff_mul_le (by omega)]
    omega
  have each : ∀ i, i < len → ∃ z : α, ∃ p vs, some a = some p ∧ vs.length = sz ∧ RdL W.heap (p.add (i * sz)) 0 vs ∧ S W.heap vs z := by
    intro i hi
    have g := hel i hi
    rw [hc] at g
    obtain ⟨y, hy⟩ : ∃ y, elems[i]? = some y := ⟨elems[i]'(by omega), by simp⟩
    rw [hy] at g
    obtain ⟨vs, hvs, hy2⟩ := Option.bind_eq_some_iff.mp g
    obtain ⟨l1, l2⟩ := rdL_cells hvs
    obtain ⟨z, hz⟩ := o n vs y hy2 (fun m hm => hww m (List.mem_cons_of_mem _ (List.mem_append_left _ (weights_all (List.mem_map_of_mem (List.mem_of_getElem? hy)) hm))))
    exact ⟨z, a, vs, rfl, l1, l2, hz⟩
  have build : ∀ k, k ≤ len → ∃ l : List α, l.length = k ∧ ∀ i z, l[i]? = some z → ∃ p vs, some a = some p ∧ vs.length = sz ∧ RdL W.heap (p.add (i * sz)) 0 vs ∧ S W.heap vs z := by
    intro k
    induction k with
    | zero => intro _; exact ⟨[], rfl, fun i z hz => by simp at hz⟩
    | succ k ih =>
      intro hk
      obtain ⟨l, hl1, hl2⟩ := ih (by omega)
      obtain ⟨z, hz⟩ := each k (by omega)
      refine ⟨l ++ [z], by simp [hl1], fun i z' hz' => ?_⟩
      by_cases hi : i < l.length
      · rw [List.getElem?_append_left hi] at hz'; exact hl2 i z' hz'
      · rw [List.getElem?_append_right (by omega)] at hz'
        have hi2 : i = k := by
          have := (List.getElem?_eq_some_iff.mp hz').1
          simp at this; omega
        subst hi2
        rw [hl1, Nat.sub_self] at hz'
        simp at hz'
        subst hz'; exact hz
  obtain ⟨l, hl1, hl2⟩ := build len (Nat.le_refl _)
  subst hl1
  exact ⟨l, some a, cap, rfl, hlen2, hl, hl2⟩
theorem opens_words {t e : TypeId} (ht : P.underlying t = some (.slice e)) (he : P.underlying e = some (.int .u64)) (hc : P.cellsOf e = 1) (hb : P.bytesOf e = 8) : Opens enc P W t saysWords := by
  intro fuel cs x hf hw
  rcases open_ints ht he hc hf with ⟨rfl, _⟩ | ⟨a, len, cap, zs, rfl, _, hl, hm, hz, hx, hcell, hwz⟩
  · exact ⟨[], none, 0, rfl, Rd.nil _ _ _, by simp⟩
  · have hww := hw
    rw [show x.1 = .slice (lits .u64 (zs.take len)) (lits .u64 (zs.drop len)) from congrArg Prod.fst hx] at hww
    unfold DataW.weights at hww
    rw [ht] at hww
    have hs := hww (((lits (H := H) .u64 (zs.take len)).length + (lits (H := H) .u64 (zs.drop len)).length) * P.bytesOf e) (by simp)
    have hz' : zs.length = cap := by simpa using hz
    have hlz : (lits (H := H) .u64 (zs.take len)).length + (lits (H := H) .u64 (zs.drop len)).length = zs.length := by
      simp [lits]; omega
    rw [hb, hlz, hz'] at hs
    have hr : reachBytes = 140737488351232 := rfl
    have nn : ∀ n ∈ zs, 0 ≤ n ∧ n < 18446744073709551616 := fun n hn => wf_u64 (hwz n hn)
    refine ⟨(zs.take len).map Int.toNat, some a, cap, by simp; omega, ⟨?_, ?_, ?_, ?_⟩, by simp; omega⟩
    · simp; omega
    · simp; omega
    · intro y hy
      obtain ⟨n, hn, rfl⟩ := List.mem_map.mp hy
      have := nn n (List.mem_of_mem_take hn); omega
    · intro i hi
      have hi' : i < len := by simp at hi; omega
      refine ⟨a, rfl, ?_⟩
      have hc1 := hcell i (by omega)
      rw [cell?_eq] at hc1
      rw [hc1]
      have e1 : ((zs.take len).map Int.toNat).getD i 0 = (zs.getD i 0).toNat := by
        simp [List.getD, hi', show i < zs.length by omega]
      rw [e1]
      have e2 : zs.getD i 0 = zs[i]'(by omega) := by simp [List.getD, show i < zs.length by omega]
      have := nn _ (List.getElem_mem (show i < zs.length by omega))
      rw [e2]
      show some (Value.int .u64 zs[i]) = some (.int .u64 ((zs[i].toNat : Nat) : Int))
      rw [Int.toNat_of_nonneg this.1]
/-- The fields of a struct, one after another. -/
def saysEnd : Says Unit := fun _ cs _ => cs = []
def saysCons {α β : Type} (S : Says α) (n : Nat) (T : Says β) : Says (α × β) := fun h cs p => cs.length = n + (cs.drop n).length ∧ S h (cs.take n) p.1 ∧ T h (cs.drop n) p.2
theorem saysEnd_lasts : Lasts saysEnd := fun _ _ _ _ s _ => s
theorem saysCons_lasts {α β : Type} {S : Says α} {T : Says β} (hS : Lasts S) (hT : Lasts T) (n : Nat) : Lasts (saysCons S n T) := fun _ _ _ _ ⟨l, s, t⟩ k => ⟨l, hS _ _ _ _ s k, hT _ _ _ _ t k⟩
/-- From the field number i on the fields say so, from the cell number o on. -/
def OpensFrom {H : Type} (enc : TypeId × Value → H) (P : Program) (W : World) (fs : List Field) (_i o total : Nat) {α : Type} (S : Says α) : Prop :=
  ∀ (n : Nat) (cs : List Value) (xs : List (DataW H × List MemPlace)), cs.length = total → (∀ (j : Nat) (f : Field), fs[j]? = some f → DataW.trod enc P W 0 (fun _ => true) true n f.type ((cs.drop f.offset).take (P.cellsOf f.type)) = xs[j]?) →
    (∀ (j : Nat) (f : Field) (x : DataW H × List MemPlace), fs[j]? = some f → xs[j]? = some x → ∀ m ∈ x.1.weights P f.type, m ≤ reachBytes) → xs.length = fs.length → ∃ a, S W.heap (cs.drop o) a
theorem opensFrom_end {fs : List Field} {i total : Nat} : OpensFrom enc P W fs i total total saysEnd :=
  fun _ cs _ hl _ _ _ => ⟨(), by show cs.drop total = []; rw [← hl, List.drop_length]⟩
theorem opensFrom_cons {fs : List Field} {i o total sz : Nat} {f : Field} {α β : Type} {S : Says α} {T : Says β} (hf : fs[i]? = some f) (ho : f.offset = o) (hs : P.cellsOf f.type = sz) (hle : o + sz ≤ total) (o1 : Opens enc P W f.type S) (o2 : OpensFrom enc P W fs (i + 1) (o + sz) total T) : OpensFrom enc P W fs i o total (saysCons S sz T) := by
  intro n cs xs hl hr hw hx
  obtain ⟨b, hb⟩ := o2 n cs xs hl hr hw hx
  have g := hr i f hf
  have hi : i < xs.length := by rw [hx]; exact (List.getElem?_eq_some_iff.mp hf).1
  have hy : xs[i]? = some xs[i] := by simp
  rw [hy, ho, hs] at g
  obtain ⟨a, ha⟩ := o1 n _ _ g (hw i f _ hf hy)
  refine ⟨(a, b), ?_, ha, ?_⟩
  · rw [List.drop_drop, List.length_drop, List.length_drop]; omega
  · rw [List.drop_drop]; exact hb
/-- The same, with the field's place and type as a fact that is looked up. -/
theorem opensFrom_at {fs : List Field} {i o total sz t : Nat} {α β : Type} {S : Says α} {T : Says β} (hf : (fs[i]?).map (fun f => (f.offset, f.type)) = some (o, t)) (hs : P.cellsOf t = sz) (hle : o + sz ≤ total) (o1 : Opens enc P W t S) (o2 : OpensFrom enc P W fs (i + 1) (o + sz) total T) : OpensFrom enc P W fs i o total (saysCons S sz T) := by
  cases hg : fs[i]? with
  | none => rw [hg] at hf; cases hf
  | some f =>
    rw [hg] at hf
    simp only [Option.map_some, Option.some.injEq, Prod.mk.injEq] at hf
    obtain ⟨h1, h2⟩ := hf
    subst h2
    exact opensFrom_cons hg h1 hs hle o1 o2
theorem weights_each {m : Nat} : ∀ {fs : List Field} {ds : List (DataW H)} {j : Nat} {f : Field} {d : DataW H}, fs[j]? = some f → ds[j]? = some d → m ∈ d.weights P f.type → m ∈ DataW.weightsEach P (fs.map (·.type)) ds
  | [], _, _, _, _, h, _, _ => by simp at h
  | _ :: _, [], _, _, _, _, h, _ => by simp at h
  | f :: fs, d :: ds, 0, f', d', h, h', hm => by
    simp at h h'; subst h; subst h'
    show m ∈ DataW.weights P f.type d ++ DataW.weightsEach P (fs.map (·.type)) ds
    exact List.mem_append_left _ hm
  | f :: fs, d :: ds, j + 1, f', d', h, h', hm => by
    show m ∈ DataW.weights P f.type d ++ DataW.weightsEach P (fs.map (·.type)) ds
    exact List.mem_append_right _ (weights_each (by simpa using h) (by simpa using h') hm)
theorem opens_struct {t : TypeId} {fs : Array Field} {α : Type} {S : Says α} {total : Nat} (ht : P.underlying t = some (.struct fs)) (hc : P.cellsOf t = total) (o : OpensFrom enc P W fs.toList 0 0 total S) : Opens enc P W t S := by
  intro fuel cs x h hw
  obtain ⟨xs, n, _, rfl, hl, hlen, hf⟩ := DataW.trod_struct ht h
  have hww : ∀ m ∈ DataW.weights P t (.agg (xs.map (·.1)) : DataW H), m ≤ reachBytes := hw
  unfold DataW.weights at hww
  rw [ht] at hww
  have := o n cs xs (by rw [hl, hc]) (fun j f hj => hf j f (by simpa using hj)) (fun j f x hj hx m hm => hww m (weights_each hj (by rw [List.getElem?_map, hx]; rfl) hm)) (by simpa using hlen)
  simpa using this
/-- An argument of a row. -/
theorem arg_open {t : TypeId} {v : Value} {d : DataW H} {p : List MemPlace} {α : Type} {S : Says α} (o : Opens enc P W t S) (h : DataW.Trod enc P W 0 (fun _ => true) true t v d p) {ts : List TypeId} {ds : List (DataW H)} (hsz : (DataW.weightsEach P ts ds).all (· ≤ reachBytes) = true) {j : Nat} (htj : ts[j]? = some t) (hdj : ds[j]? = some d) :
    ∃ a, S W.heap v.cells.toList a := by
  obtain ⟨fuel, hf⟩ := h
  refine o fuel _ _ hf fun m hm => ?_
  have := List.all_eq_true.1 hsz _ (DataW.weights_mem_each htj hdj m hm)
  simpa using this
end
end Go.Gv
