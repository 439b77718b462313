/- Blocks that are written while older lists stay: frames but for one block, and values of lists under writing. -/
import Derived.Test.YtaglonbkdcmmpaaGvSteps
namespace Go.Gv
/-- How many cells a block has. -/
def cellsN (h : Hp) (q : Nat) : Option Nat := match h[q]? with | some (.cells c _ _) => some c.size | _ => none
structure KeepB (q : Nat) (h h' : Hp) : Prop where
  le : h.size ≤ h'.size
  pre : ∀ b, b < h.size → b ≠ q → h'[b]? = h[b]?
  len : ∀ m, cellsN h q = some m → cellsN h' q = some m
theorem KeepB.refl (q : Nat) (h : Hp) : KeepB q h h := ⟨Nat.le_refl _, fun _ _ _ => rfl, fun _ e => e⟩
theorem KeepB.trans {q : Nat} {a b c : Hp} (x : KeepB q a b) (y : KeepB q b c) : KeepB q a c :=
  ⟨Nat.le_trans x.le y.le, fun i hi hq => (y.pre i (Nat.lt_of_lt_of_le hi x.le) hq).trans (x.pre i hi hq), fun m e => y.len m (x.len m e)⟩
theorem cellsN_lt {h : Hp} {q m : Nat} (e : cellsN h q = some m) : q < h.size := by
  rcases Nat.lt_or_ge q h.size with hl | hl
  · exact hl
  · unfold cellsN at e; rw [Array.getElem?_eq_none hl] at e; cases e
theorem Keep.toB {q : Nat} {h h' : Hp} (k : Keep h h') : KeepB q h h' :=
  ⟨k.le, fun b hb _ => k.pre b hb, fun m e => by have := k.pre q (cellsN_lt e); unfold cellsN at *; rw [this]; exact e⟩
theorem KeepB.keep {q : Nat} {h0 h h' : Hp} (k0 : Keep h0 h) (k : KeepB q h h') (hq : h0.size ≤ q) : Keep h0 h' :=
  ⟨Nat.le_trans k0.le k.le, fun b hb => (k.pre b (Nat.lt_of_lt_of_le hb k0.le) (by omega)).trans (k0.pre b hb)⟩
theorem KeepB.set (q : Nat) (h : Hp) (i : Nat) (v : Value) : KeepB q h (setH h ⟨q, i, none⟩ v) :=
  ⟨by rw [size_setH]; exact Nat.le_refl _, fun b _ hb => getElem?_setH hb, fun m e => by
    unfold cellsN at *
    split at e
    · rename_i c el fz hc
      have : (setH h ⟨q, i, none⟩ v)[q]? = some (.cells (c.setIfInBounds i v) el fz) := by
        unfold setH
        rw [Array.getElem?_modify, if_pos rfl, hc]
        rfl
      rw [this]
      simpa using e
    · cases e⟩
def Off (q : Nat) (a : Option Addr) : Prop := ∀ p, a = some p → p.block ≠ q
theorem Off.none (q : Nat) : Off q none := fun p e => by cases e
theorem Off.sub {q : Nat} {a : Option Addr} (o : Off q a) (m l sz : Nat) : Off q (subA a m l sz) := by
  intro p e
  unfold subA at e
  split at e
  · exact o p e
  · cases a with
    | none => cases e
    | some r =>
      simp only [Option.map_some, Option.some.injEq] at e
      rw [← e, add_block]; exact o r rfl
theorem Rd.keepB {q : Nat} {h h' : Hp} {a : Option Addr} {c : Nat} {xs : List Nat} (r : Rd h a c xs) (o : Off q a) (k : KeepB q h h') : Rd h' a c xs :=
  ⟨r.len, r.cap, r.words, fun i hi => by
    obtain ⟨p, e, g⟩ := r.at_ i hi
    refine ⟨p, e, ?_⟩
    have hb := cellH_lt g
    rw [cellH_congr (k.pre _ hb (by rw [add_block]; exact o p e))]; exact g⟩
theorem Own.keepB {q b : Nat} {h h' : Hp} {xs : List Nat} (o : Own h b xs) (hb : b ≠ q) (k : KeepB q h h') : Own h' b xs := by
  obtain ⟨e, g⟩ := o.at_
  exact ⟨o.len, o.words, e, by rw [k.pre b o.lt hb]; exact g⟩
/-- A list in the heap lies off a block that was made later (or the list is empty). -/
theorem Rd.off {h : Hp} {a : Option Addr} {c : Nat} {xs : List Nat} (r : Rd h a c xs) {q : Nat} (hq : h.size ≤ q) : xs = [] ∨ Off q a := by
  cases xs with
  | nil => exact Or.inl rfl
  | cons x xs =>
    obtain ⟨p, e, g⟩ := r.at_ 0 (by simp)
    have hb := cellH_lt g
    rw [add_block] at hb
    refine Or.inr fun p' e' => ?_
    rw [e] at e'; cases e'; omega
/-- The first places of a block that was made here. -/
def Mine (h : Hp) (b : Nat) (xs : List Nat) : Prop := ∃ rest, Own h b (xs ++ rest)
theorem Own.mine {h : Hp} {b : Nat} {xs : List Nat} (o : Own h b xs) : Mine h b xs := ⟨[], by rw [List.append_nil]; exact o⟩
theorem Own.cellsN {h : Hp} {b : Nat} {xs : List Nat} (o : Own h b xs) : Gv.cellsN h b = some xs.length := by
  obtain ⟨e, g⟩ := o.at_
  unfold Gv.cellsN
  rw [g]; simp
/-- A block keeps its room where its beginning is written over. -/
theorem Mine.room {q m : Nat} {h h' : Hp} {zs : List Nat} (o : Mine h' q zs) (k : KeepB q h h') (e : cellsN h q = some m) : ∃ rest, Own h' q (zs ++ rest) ∧ (zs ++ rest).length = m := by
  obtain ⟨rest, o⟩ := o
  have e1 := k.len m e
  rw [o.cellsN] at e1
  exact ⟨rest, o, Option.some.inj e1⟩
theorem Mine.words {h : Hp} {b : Nat} {xs : List Nat} (o : Mine h b xs) : Words xs := fun x hx => by
  obtain ⟨r, o⟩ := o; exact o.words x (List.mem_append_left _ hx)
theorem Mine.len {h : Hp} {b : Nat} {xs : List Nat} (o : Mine h b xs) : xs.length ≤ 35184372088828 := by
  obtain ⟨r, o⟩ := o; have := o.len; rw [List.length_append] at this; omega
theorem Mine.lt {h : Hp} {b : Nat} {xs : List Nat} (o : Mine h b xs) : b < h.size := by obtain ⟨r, o⟩ := o; exact o.lt
theorem Mine.take {h : Hp} {b : Nat} {xs : List Nat} (o : Mine h b xs) (n : Nat) : Mine h b (xs.take n) := by
  obtain ⟨r, o⟩ := o
  exact ⟨xs.drop n ++ r, by rw [← List.append_assoc, List.take_append_drop]; exact o⟩
theorem Mine.keepB {q b : Nat} {h h' : Hp} {xs : List Nat} (o : Mine h b xs) (hb : b ≠ q) (k : KeepB q h h') : Mine h' b xs := by
  obtain ⟨r, o⟩ := o; exact ⟨r, o.keepB hb k⟩
theorem Mine.keep {b : Nat} {h h' : Hp} {xs : List Nat} (o : Mine h b xs) (k : Keep h h') : Mine h' b xs := by
  obtain ⟨r, o⟩ := o; exact ⟨r, o.keep k⟩
theorem Mine.word {h : Hp} {b : Nat} {xs : List Nat} (o : Mine h b xs) (i : Nat) : xs.getD i 0 < 18446744073709551616 := getD_lt o.words i
theorem Mine.rd {h : Hp} {b c : Nat} {xs : List Nat} (o : Mine h b xs) (hc : xs.length ≤ c) : Rd h (some ⟨b, 0, none⟩) c xs := by
  refine ⟨o.len, hc, o.words, fun i hi => ⟨_, rfl, ?_⟩⟩
  obtain ⟨r, o⟩ := o
  rw [base_add, o.cell (by rw [List.length_append]; omega)]
  have e : (xs ++ r).getD i 0 = xs.getD i 0 := by simp [List.getD, List.getElem?_append_left hi]
  rw [e]
theorem Mine.set {h : Hp} {b : Nat} {xs : List Nat} (o : Mine h b xs) {j v : Nat} (hj : j < xs.length) (hv : v < 18446744073709551616) : Mine (setH h ⟨b, j, none⟩ (wv v)) b (xs.set j v) := by
  obtain ⟨r, o⟩ := o
  refine ⟨r, ?_⟩
  have := o.set j hv
  rw [List.set_append_left _ _ hj] at this; exact this
theorem mine_put {h : Hp} {b l : Nat} {xs : List Nat} (o : Mine h b xs) {i : Int} {j : Nat} (hi : i = (j : Int)) (hl : l = xs.length) (hj : j < xs.length) {x : Int} {v : Nat} (hx : x = (v : Int)) (hv : v < 18446744073709551616) {K : Hp → Prop}
    (g : Mine (setH h ⟨b, j, none⟩ (wv v)) b (xs.set j v) → KeepB b h (setH h ⟨b, j, none⟩ (wv v)) → K (setH h ⟨b, j, none⟩ (wv v))) : idxK (some ⟨b, 0, none⟩) l i 1 fun q => stK h q (.int .u64 x) K := by
  subst hi; subst hx; subst hl
  have g' := g (o.set hj hv) (KeepB.set _ _ _ _)
  obtain ⟨r, o⟩ := o
  refine ⟨⟨by omega, by omega⟩, ?_⟩
  show stK h ((⟨b, 0, none⟩ : Addr).add ((j : Int).toNat * 1)) _ _
  have e2 : (j : Int).toNat * 1 = j := by omega
  rw [e2, base_add]
  exact ⟨⟨⟨_, o.cell (by rw [List.length_append]; omega)⟩, o.frozen j⟩, g'⟩
theorem sl_to3 {a : Option Addr} {l c : Nat} {x y : Int} {n : Nat} (hx : x = (n : Int)) (hy : y = (n : Int)) (hn : n ≤ c) {K : Option Addr → Nat → Nat → Prop} (g : K a n n) : slK 1 a l c none (some (.int .i64 x)) (some (.int .i64 y)) K := by
  subst hx; subst hy
  show (0 ≤ (n : Int) ∧ (n : Int) ≤ (c : Int)) ∧ (0 ≤ (n : Int) ∧ (n : Int) ≤ (((n : Int).toNat : Nat) : Int)) ∧ K (subA a (n : Int).toNat 0 1) ((n : Int).toNat - 0) ((n : Int).toNat - 0)
  refine ⟨⟨by omega, by omega⟩, ⟨by omega, by omega⟩, ?_⟩
  have e : subA a (n : Int).toNat 0 1 = a := by
    unfold subA
    split
    · rfl
    · cases a <;> simp [Addr.add]
  rw [e]; simpa using g
theorem sl_mid3 {a : Option Addr} {l c : Nat} {x y z : Int} {m n : Nat} (hx : x = (m : Int)) (hy : y = (n : Int)) (hz : z = (n : Int)) (hm : m ≤ n) (hn : n ≤ c) {K : Option Addr → Nat → Nat → Prop} (g : K (subA a n m 1) (n - m) (n - m)) : slK 1 a l c (some (.int .i64 x)) (some (.int .i64 y)) (some (.int .i64 z)) K := by
  subst hx; subst hy; subst hz
  show (0 ≤ (n : Int) ∧ (n : Int) ≤ (c : Int)) ∧ (0 ≤ (n : Int) ∧ (n : Int) ≤ (((n : Int).toNat : Nat) : Int)) ∧ (0 ≤ (m : Int) ∧ (m : Int) ≤ (((n : Int).toNat : Nat) : Int)) ∧ K (subA a (n : Int).toNat (m : Int).toNat 1) ((n : Int).toNat - (m : Int).toNat) ((n : Int).toNat - (m : Int).toNat)
  refine ⟨⟨by omega, by omega⟩, ⟨by omega, by omega⟩, ⟨by omega, by omega⟩, ?_⟩
  simpa using g
/-! ### values under writing -/
theorem val_set : ∀ {zs : List Nat} {j v : Nat}, j < zs.length → val (zs.set j v) + zs.getD j 0 * 2 ^ (64 * j) = val zs + v * 2 ^ (64 * j)
  | [], _, _, h => absurd h (by simp)
  | z :: zs, 0, v, _ => by simp [val]; omega
  | z :: zs, j + 1, v, h => by
    have ih := val_set (zs := zs) (j := j) (v := v) (by simpa using h)
    have e : 2 ^ (64 * (j + 1)) = 18446744073709551616 * 2 ^ (64 * j) := by
      rw [show 64 * (j + 1) = 64 + 64 * j by omega, Nat.pow_add]
    simp only [List.set_cons_succ, val, List.getD_cons_succ, e]
    have e1 : zs.getD j 0 * (18446744073709551616 * 2 ^ (64 * j)) = 18446744073709551616 * (zs.getD j 0 * 2 ^ (64 * j)) := Nat.mul_left_comm _ _ _
    have e2 : v * (18446744073709551616 * 2 ^ (64 * j)) = 18446744073709551616 * (v * 2 ^ (64 * j)) := Nat.mul_left_comm _ _ _
    rw [e1, e2]
    generalize zs.getD j 0 * 2 ^ (64 * j) = a at *
    generalize v * 2 ^ (64 * j) = b at *
    omega
theorem pow_step (j : Nat) : 2 ^ (64 * (j + 1)) = 18446744073709551616 * 2 ^ (64 * j) := by
  rw [show 64 * (j + 1) = 64 + 64 * j by omega, Nat.pow_add]
theorem step_up {B V V' z z' c c' p r P : Nat} (h1 : z' + B * c' = p + c + z) (h2 : V' + z * P = V + z' * P) : V' + (r + c') * (B * P) = V + (p + B * r + c) * P := by
  have h3 : (z' + B * c') * P = (p + c + z) * P := by rw [h1]
  have e1 : (z' + B * c') * P = z' * P + B * c' * P := Nat.add_mul _ _ _
  have e2 : (p + c + z) * P = p * P + c * P + z * P := by rw [Nat.add_mul, Nat.add_mul]
  have e3 : (r + c') * (B * P) = B * r * P + B * c' * P := by rw [Nat.add_mul, Nat.mul_left_comm r, Nat.mul_left_comm c', Nat.mul_assoc, Nat.mul_assoc]
  have e4 : (p + B * r + c) * P = p * P + B * r * P + c * P := by rw [Nat.add_mul, Nat.add_mul]
  rw [e3, e4]; rw [e1, e2] at h3
  omega
theorem step_down {B V V' z z' o o' u r P T : Nat} (h1 : z' + u + o = z + B * o') (h2 : V' + z * P = V + z' * P) (h : V = T + (u + B * r + o) * P) : V' = T + (r + o') * (B * P) := by
  have h3 : (z' + u + o) * P = (z + B * o') * P := by rw [h1]
  have e1 : (z' + u + o) * P = z' * P + u * P + o * P := by rw [Nat.add_mul, Nat.add_mul]
  have e2 : (z + B * o') * P = z * P + B * o' * P := Nat.add_mul _ _ _
  have e3 : (r + o') * (B * P) = B * r * P + B * o' * P := by rw [Nat.add_mul, Nat.mul_left_comm r, Nat.mul_left_comm o', Nat.mul_assoc, Nat.mul_assoc]
  have e4 : (u + B * r + o) * P = u * P + B * r * P + o * P := by rw [Nat.add_mul, Nat.add_mul]
  rw [e3]; rw [e1, e2] at h3; rw [e4] at h
  omega
theorem val_getD_drop (xs : List Nat) (i : Nat) : val (xs.drop i) = xs.getD i 0 + 18446744073709551616 * val (xs.drop (i + 1)) := by
  by_cases h : i < xs.length
  · rw [drop_getD h]; rfl
  · rw [List.drop_of_length_le (by omega), List.drop_of_length_le (by omega)]
    simp [val, List.getD, show xs.length ≤ i by omega]
theorem lt_of_val {zs : List Nat} {T P i : Nat} (hP : P = 2 ^ (64 * i)) (h : P ≤ T) (hT : T < 2 ^ (64 * zs.length)) : i < zs.length := by
  subst hP
  refine Nat.lt_of_not_le fun hh => ?_
  have : 2 ^ (64 * zs.length) ≤ 2 ^ (64 * i) := Nat.pow_le_pow_right (by decide) (by omega)
  omega
theorem val_replicate (m : Nat) : val (List.replicate m 0) = 0 := by
  induction m with
  | zero => rfl
  | succ m ih => rw [List.replicate_succ]; simp [val, ih]
end Go.Gv
