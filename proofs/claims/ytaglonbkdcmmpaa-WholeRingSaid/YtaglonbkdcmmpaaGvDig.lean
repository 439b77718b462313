/- Words and digits to the base 2^32: the one list out of the other. No program in sight. -/
import Derived.Test.YtaglonbkdcmmpaaGvNat32
import Derived.Test.YtaglonbkdcmmpaaGvVal
namespace Go.Gv
def split (xs : List Nat) : List Nat := xs.flatMap fun w => [w % 4294967296, w / 4294967296]
theorem split_len (xs : List Nat) : (split xs).length = 2 * xs.length := by
  induction xs with
  | nil => rfl
  | cons x xs ih => simp only [split, List.flatMap_cons, List.length_append, List.length_cons, List.length_nil] at ih ⊢; omega
theorem split_val (xs : List Nat) : D.val (split xs) = val xs := by
  induction xs with
  | nil => rfl
  | cons x xs ih =>
    simp only [split, List.flatMap_cons, List.cons_append, List.nil_append, D.val, val] at ih ⊢
    rw [ih]
    have := Nat.mod_add_div x 4294967296
    omega
theorem split_words {xs : List Nat} (hw : Words xs) : D.Words (split xs) := by
  intro y hy
  simp only [split, List.mem_flatMap, List.mem_cons, List.not_mem_nil, or_false] at hy
  obtain ⟨x, hx, h | h⟩ := hy
  · subst h; exact Nat.mod_lt _ (by decide)
  · subst h; have := hw x hx; exact Nat.div_lt_of_lt_mul (by omega)
theorem split_append (xs ys : List Nat) : split (xs ++ ys) = split xs ++ split ys := by simp [split]
theorem dlen_two (X k : Nat) : (D.digs X).length ≤ 2 * k ↔ (digs X).length ≤ k := by
  rw [D.digs_len, digs_len, show 32 * (2 * k) = 64 * k by omega]
theorem dlen_lim (X : Nat) : (D.digs X).length ≤ 16384 ↔ (digs X).length ≤ 8192 := dlen_two X 8192
theorem dlen_pow {X k : Nat} : (D.digs X).length ≤ k ↔ X < 2 ^ (32 * k) := D.digs_len
def join : List Nat → List Nat
  | [] => []
  | [a] => [a]
  | a :: b :: l => (a + b * 4294967296) :: join l
theorem join_val : ∀ (l : List Nat), val (join l) = D.val l
  | [] => rfl
  | [a] => by simp [join, val, D.val]
  | a :: b :: l => by
    simp only [join, val, D.val]
    rw [join_val l]; omega
theorem join_words : ∀ {l : List Nat}, D.Words l → Words (join l)
  | [], _ => by intro x hx; cases hx
  | [a], h => by intro x hx; have := h a (by simp); simp [join] at hx; omega
  | a :: b :: l, h => by
    intro x hx
    have h1 := h a (by simp); have h2 := h b (by simp)
    rcases List.mem_cons.mp hx with e | e
    · subst e; omega
    · exact join_words (fun y hy => h y (by simp [hy])) x e
theorem join_trim : ∀ {l : List Nat}, trimL l = l → trimL (join l) = join l
  | [], _ => rfl
  | [a], h => by
    simp only [join]
    exact h
  | a :: b :: l, h => by
    have h1 := trimL_tail h
    have h2 := trimL_tail h1
    have ih := join_trim h2
    simp only [join, trimL, ih]
    rw [if_neg]
    rintro ⟨e1, e2⟩
    have hl : l = [] := by
      cases l with
      | nil => rfl
      | cons c l => cases l <;> simp [join] at e2
    subst hl
    have hb : b = 0 := by omega
    subst hb
    simp [trimL] at h1
theorem join_digs (X : Nat) : join (D.digs X) = digs X := by
  have h1 := join_val (D.digs X)
  rw [D.val_digs] at h1
  have h2 := digs_val (join_words (D.digs_words X))
  rw [join_trim (D.trimL_digs X), h1] at h2
  exact h2.symm
theorem join_len : ∀ (l : List Nat), (join l).length = (l.length + 1) / 2
  | [] => rfl
  | [a] => by simp [join]
  | a :: b :: l => by simp only [join, List.length_cons, join_len l]; omega
theorem join_snoc2 : ∀ {l : List Nat} {a b : Nat}, l.length % 2 = 0 → join (l ++ [a, b]) = join l ++ [a + b * 4294967296]
  | [], _, _, _ => rfl
  | [_], _, _, h => by simp at h
  | x :: y :: l, a, b, h => by
    simp only [List.cons_append, join]
    rw [join_snoc2 (by simp at h; omega)]
theorem join_snoc1 : ∀ {l : List Nat} {a : Nat}, l.length % 2 = 0 → join (l ++ [a]) = join l ++ [a]
  | [], _, _ => rfl
  | [_], _, h => by simp at h
  | x :: y :: l, a, h => by
    simp only [List.cons_append, join]
    rw [join_snoc1 (by simp at h; omega)]
theorem D.push_step {zs : List Nat} {i t c' s ca A A' : Nat} (hz : zs.length = i) (hA : A = s + 4294967296 * A') (h : s + ca = t + 4294967296 * c') : D.val (zs ++ [t]) + (A' + c') * 2 ^ (32 * (i + 1)) = D.val zs + (A + ca) * 2 ^ (32 * i) := by
  rw [D.val_append, hz, D.pow_step]
  have e : A + ca = t + 4294967296 * (A' + c') := by omega
  rw [e]
  generalize 2 ^ (32 * i) = P
  simp only [D.val, Nat.mul_zero, Nat.add_zero]
  rw [Nat.add_mul t, Nat.mul_left_comm, Nat.mul_comm P t, Nat.mul_assoc 4294967296]
  omega
/-! ### answers -/
def sI (k : IntKind) : An Int := fun _ _ v n => v = .int k n ∧ In k n
def sD : An Nat := fun h0 h v X => ∃ a c, v = .slice a (D.digs X).length c ∧ GotE eU32 h0 h a c (D.digs X)
abbrev sY : An (List Nat) := sL eU8
def sZW : An (Bool × List Nat) := fun h0 h v p => ∃ a c, v = .agg #[.bool p.1, .slice a p.2.length c] ∧ GotE eU64 h0 h a c p.2
def sZD : An (Bool × Nat) := fun h0 h v p => ∃ a c, v = .agg #[.bool p.1, .slice a (D.digs p.2).length c] ∧ GotE eU32 h0 h a c (D.digs p.2)
/-! ### calls -/
theorem hq_intro {P : Program} {f : FuncId} {args : Array Value} {h : Hp} {S K : Value → Prop} (hc : HQ P f args h S) (g : ∀ v, S v → K v) : HQ P f args h K := by
  obtain ⟨v, c, s⟩ := hc
  exact ⟨v, c, g v s⟩
/-! ### ranges -/
theorem in_at64 {h : Hp} {a : Option Addr} {c : Nat} {xs : List Nat} (r : RdE eU64 h a c xs) (j : Nat) : In .u64 ((xs.getD j 0 : Nat) : Int) := by
  rw [in_u64]; have := getD_lt (xs := xs) r.ok j; omega
theorem getD_ltB {B : Nat} (hB : 0 < B) {xs : List Nat} (hw : ∀ x ∈ xs, x < B) (i : Nat) : xs.getD i 0 < B := by
  by_cases hi : i < xs.length
  · have e : xs.getD i 0 = xs[i] := by simp [List.getD, hi]
    rw [e]; exact hw _ (List.getElem_mem hi)
  · have e : xs.getD i 0 = 0 := by simp [List.getD, Nat.le_of_not_lt hi]
    rw [e]; exact hB
theorem RdE.word32 {h : Hp} {a : Option Addr} {c : Nat} {xs : List Nat} (r : RdE eU32 h a c xs) (j : Nat) : xs.getD j 0 < 4294967296 := getD_ltB (by decide) r.ok j
theorem RdE.word8 {h : Hp} {a : Option Addr} {c : Nat} {xs : List Nat} (r : RdE eU8 h a c xs) (j : Nat) : xs.getD j 0 < 256 := getD_ltB (by decide) r.ok j
theorem RdE.len32 {h : Hp} {a : Option Addr} {c : Nat} {xs : List Nat} (r : RdE eU32 h a c xs) : xs.length ≤ 70368744177656 := r.len
theorem RdE.len8 {h : Hp} {a : Option Addr} {c : Nat} {xs : List Nat} (r : RdE eU8 h a c xs) : xs.length ≤ 281474976710656 := r.len
theorem RdE.len64 {h : Hp} {a : Option Addr} {c : Nat} {xs : List Nat} (r : RdE eU64 h a c xs) : xs.length ≤ 35184372088828 := r.len
theorem in_at32 {h : Hp} {a : Option Addr} {c : Nat} {xs : List Nat} (r : RdE eU32 h a c xs) (j : Nat) : In .u32 ((xs.getD j 0 : Nat) : Int) := by
  rw [in_u32]; have := r.word32 j; omega
theorem in_at8 {h : Hp} {a : Option Addr} {c : Nat} {xs : List Nat} (r : RdE eU8 h a c xs) (j : Nat) : In .u8 ((xs.getD j 0 : Nat) : Int) := by
  rw [in_u8]; have := r.word8 j; omega
theorem in_ite {k : IntKind} {p : Prop} [Decidable p] {x y : Int} (h1 : In k x) (h2 : In k y) : In k (if p then x else y) := by split <;> assumption
theorem in_shl {k : IntKind} {x : Int} (y : Int) : In k (shlI k x y) := in_wrap _ _
theorem fdiv_between {x p : Int} (hp : 1 ≤ p) : (0 ≤ x → 0 ≤ x.fdiv p ∧ x.fdiv p ≤ x) ∧ (x < 0 → x ≤ x.fdiv p ∧ x.fdiv p < 0) := by
  rw [Int.fdiv_eq_ediv_of_nonneg _ (by omega)]
  constructor
  · intro h
    exact ⟨Int.ediv_nonneg h (by omega), Int.ediv_le_self _ h⟩
  · intro h
    refine ⟨?_, Int.ediv_neg_of_neg_of_pos h (by omega)⟩
    rw [Int.le_ediv_iff_mul_le (by omega)]
    have := Int.mul_nonneg (show 0 ≤ -x by omega) (show 0 ≤ p - 1 by omega)
    rw [Int.neg_mul, Int.mul_sub, Int.mul_one] at this
    omega
theorem in_shr {k : IntKind} {x : Int} {y : Int} (h : In k x) : In k (shrI k x y) := by
  unfold shrI
  have hp : (1 : Int) ≤ 2 ^ (min y.toNat k.bits) := by
    have : (0 : Int) < 2 ^ (min y.toNat k.bits) := Int.pow_pos (by decide)
    omega
  have := fdiv_between (x := x) hp
  have h0 : k.min ≤ 0 ∧ (-1 : Int) ≤ k.max := by cases k <;> decide
  unfold In at h ⊢
  by_cases hx : 0 ≤ x
  · have := this.1 hx; omega
  · have := this.2 (by omega); omega
theorem tmod_between : ∀ x y : Int, (0 ≤ x → 0 ≤ Int.tmod x y ∧ Int.tmod x y ≤ x) ∧ (x ≤ 0 → x ≤ Int.tmod x y ∧ Int.tmod x y ≤ 0)
  | .ofNat n, .ofNat m => by
    have e : Int.tmod (Int.ofNat n) (Int.ofNat m) = ((n % m : Nat) : Int) := rfl
    have := Nat.mod_le n m
    have e2 : Int.ofNat n = (n : Int) := rfl
    rw [e, e2]; omega
  | .ofNat n, .negSucc m => by
    have e : Int.tmod (Int.ofNat n) (Int.negSucc m) = ((n % (m + 1) : Nat) : Int) := rfl
    have := Nat.mod_le n (m + 1)
    have e2 : Int.ofNat n = (n : Int) := rfl
    rw [e, e2]; omega
  | .negSucc n, .ofNat m => by
    have e : Int.tmod (Int.negSucc n) (Int.ofNat m) = -(((n + 1) % m : Nat) : Int) := rfl
    have := Nat.mod_le (n + 1) m
    have e2 : Int.negSucc n = -((n + 1 : Nat) : Int) := rfl
    rw [e, e2]; omega
  | .negSucc n, .negSucc m => by
    have e : Int.tmod (Int.negSucc n) (Int.negSucc m) = -(((n + 1) % (m + 1) : Nat) : Int) := rfl
    have := Nat.mod_le (n + 1) (m + 1)
    have e2 : Int.negSucc n = -((n + 1 : Nat) : Int) := rfl
    rw [e, e2]; omega
theorem in_tmod {k : IntKind} {x y : Int} (h : In k x) : In k (Int.tmod x y) := by
  have h0 : k.min ≤ 0 ∧ (0 : Int) ≤ k.max := by cases k <;> decide
  have := tmod_between x y
  unfold In at h ⊢
  by_cases hx : 0 ≤ x
  · have := this.1 hx; omega
  · have := this.2 (by omega); omega
/-! ### a list and an error -/
instance (k : IntKind) (x : Int) : Decidable (In k x) := inferInstanceAs (Decidable (_ ∧ _))
abbrev Ans : An (List Nat × Int) := s2 sW (sI .i64)
abbrev AnsS : An (List Nat) := sW
section
variable {h0 h : Hp} {v : Value} {p : List Nat × Int} {xs : List Nat}
theorem Ans.elimG {K : Option Addr → Nat → Nat → Int → Prop} (a : Ans h0 h v p) (g : ∀ a c, GotE eU64 h0 h a c p.1 → In .i64 p.2 → K a p.1.length c p.2) :
    gTup v fun y => uncons y fun v1 y1 => gSlice v1 fun a l c => uncons y1 fun v2 y2 => gInt .i64 v2 fun x => unnil y2 (K a l c x) := by
  obtain ⟨x, y, e, ⟨a, c, e1, r⟩, e2, i⟩ := a
  subst e; subst e1; subst e2; exact g a c r i
theorem Ans.elim {K : Option Addr → Nat → Nat → Int → Prop} (a : Ans h0 h v p) (g : ∀ a c, Rd h a c p.1 → K a p.1.length c p.2) :
    gTup v fun y => uncons y fun v1 y1 => gSlice v1 fun a l c => uncons y1 fun v2 y2 => gInt .i64 v2 fun x => unnil y2 (K a l c x) :=
  a.elimG fun a c r _ => g a c r.rd64
theorem Ans.back {a : Option Addr} {c : Nat} (r : GotE eU64 h0 h a c p.1) (i : In .i64 p.2) : Ans h0 h (.tuple #[.slice a p.1.length c, .int .i64 p.2]) p :=
  ⟨_, _, rfl, ⟨a, c, rfl, r⟩, rfl, i⟩
theorem Ans.mk {a : Option Addr} {c l : Nat} {x : Int} (hl : l = p.1.length) (hx : x = p.2) (r : GotE eU64 h0 h a c p.1) (i : In .i64 p.2) : Ans h0 h (.tuple #[.slice a l c, .int .i64 x]) p := by
  subst hl; subst hx; exact Ans.back r i
theorem Ans.none {x : Int} (i : In .i64 x := by decide) : Ans h0 h (.tuple #[.slice Option.none 0 0, .int .i64 x]) ([], x) := ⟨_, _, rfl, ⟨Option.none, 0, rfl, GotE.nil _ _⟩, rfl, i⟩
theorem Ans.from {h1 : Hp} (a : Ans h1 h v p) (k : h0.size ≤ h1.size) : Ans h0 h v p := by
  obtain ⟨x, y, e, ⟨a, c, e1, r⟩, e2, i⟩ := a
  exact ⟨x, y, e, ⟨a, c, e1, r.from k⟩, e2, i⟩
theorem AnsS.elim {K : Option Addr → Nat → Nat → Prop} (a : AnsS h0 h v xs) (g : ∀ a c, Rd h a c xs → K a xs.length c) : gSlice v K := by
  obtain ⟨a, c, e, r⟩ := a
  subst e; exact g a c r.rd64
theorem AnsS.elimG {K : Option Addr → Nat → Nat → Prop} (a : AnsS h0 h v xs) (g : ∀ a c, GotE eU64 h0 h a c xs → K a xs.length c) : gSlice v K := by
  obtain ⟨a, c, e, r⟩ := a
  subst e; exact g a c r
end
theorem Mine.got {h0 h : Hp} {b : Nat} {xs : List Nat} (o : Mine h b xs) (hb : h0.size ≤ b) : GotE eU64 h0 h (some ⟨b, 0, none⟩) xs.length xs := by
  obtain ⟨rest, o⟩ := o
  exact o.got hb (Nat.le_refl _) (by simp)
theorem lim_in (n : Nat) : In .i64 (lim n).2 := by
  rcases lim_err n with e | e <;> rw [e] <;> decide
theorem GotE.trim {h0 h : Hp} {a : Option Addr} {c : Nat} {xs : List Nat} {E : El Nat} (g : GotE E h0 h a c xs) : GotE E h0 h a c (trimL xs) := by
  have e : xs.take (trimL xs).length = trimL xs := by
    clear g
    induction xs with
    | nil => rfl
    | cons x xs ih =>
      simp only [trimL]
      split
      · rfl
      · simp [ih]
  have := g.take (trimL xs).length
  rw [e] at this; exact this
theorem sD.elim {h0 h : Hp} {v : Value} {X : Nat} {K : Option Addr → Nat → Nat → Prop} (s : sD h0 h v X) (g : ∀ a c, GotE eU32 h0 h a c (D.digs X) → K a (D.digs X).length c) : gSlice v K := by
  obtain ⟨a, c, e, r⟩ := s
  subst e; exact g a c r
theorem sD.from {h0 h1 h : Hp} {v : Value} {X : Nat} (s : sD h1 h v X) (k : h0.size ≤ h1.size) : sD h0 h v X := by
  obtain ⟨a, c, e, r⟩ := s
  exact ⟨a, c, e, r.from k⟩
end Go.Gv
