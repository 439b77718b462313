/- What Word, Mul64, Div64, MulWord and DivWord answer. -/
import Derived.Test.YtnbpbojcjihboaaNatSpec4
namespace Go.Proofs.Ytnbpbojcjihboaa.G
open Go.Gv
theorem mul_lt32 {a b : Nat} (ha : a < 4294967296) (hb : b < 4294967296) : a * b ≤ 18446744065119617025 := Nat.mul_le_mul (show a ≤ 4294967295 by omega) (show b ≤ 4294967295 by omega)
theorem and32 {x : Int} {n : Nat} (hx : x = (n : Int)) (hn : n < 18446744073709551616) {K : Int → Prop} (g : K ((n % 4294967296 : Nat) : Int)) : letK (andI .u64 x 4294967295) K := by
  refine and_k (b := 4294967295) hx rfl hn (by decide) ?_
  have : n &&& 4294967295 = n % 4294967296 := Nat.and_two_pow_sub_one_eq_mod n 32
  rw [this]; exact g
/-- A call that answers two words. -/
def Ans2 (v : Value) (a b : Nat) : Prop := v = .tuple #[.int .u64 (a : Int), .int .u64 (b : Int)]
theorem Ans2.elim {v : Value} {a b : Nat} {K : Int → Int → Prop} (e : Ans2 v a b) (g : K (a : Int) (b : Int)) :
    gTup v fun y => uncons y fun v1 y1 => gInt .u64 v1 fun x => uncons y1 fun v2 y2 => gInt .u64 v2 fun z => unnil y2 (K x z) := by
  subst e; exact g
theorem mul64_hi {x y x0 x1 y0 y1 a b c d : Nat} (hx : x = x0 + 4294967296 * x1) (hy : y = y0 + 4294967296 * y1) (ha : a = x0 * y0) (hb : b = x1 * y0) (hc : c = x0 * y1) (hd : d = x1 * y1) : x * y = a + 4294967296 * (b + c) + 18446744073709551616 * d := by
  subst hx; subst hy; subst ha; subst hb; subst hc; subst hd
  rw [Nat.add_mul, Nat.mul_add, Nat.mul_add]
  have e1 : x0 * (4294967296 * y1) = 4294967296 * (x0 * y1) := Nat.mul_left_comm _ _ _
  have e2 : 4294967296 * x1 * y0 = 4294967296 * (x1 * y0) := Nat.mul_assoc _ _ _
  have e3 : 4294967296 * x1 * (4294967296 * y1) = 18446744073709551616 * (x1 * y1) := by
    rw [Nat.mul_assoc, Nat.mul_left_comm x1, ← Nat.mul_assoc]
  rw [e1, e2, e3]; omega
theorem Mul64_spec {x y : Nat} (hx : x < 18446744073709551616) (hy : y < 18446744073709551616) (h : Hp) :
    HC bits_Mul64.id #[.int .u64 (x : Int), .int .u64 (y : Int)] h fun v h' => h' = h ∧ Ans2 v (x * y / 18446744073709551616) (x * y % 18446744073709551616) := by
  refine bits_Mul64.ok ?_
  unfold bits_Mul64.t bits_Mul64.D1.t
  have ha := mul_lt32 (a := x % 4294967296) (b := y % 4294967296) (by omega) (by omega)
  have hb := mul_lt32 (a := x / 4294967296) (b := y % 4294967296) (by omega) (by omega)
  have hc := mul_lt32 (a := x % 4294967296) (b := y / 4294967296) (by omega) (by omega)
  have hd := mul_lt32 (a := x / 4294967296) (b := y / 4294967296) (by omega) (by omega)
  have e := mul64_hi (x := x) (y := y) (x0 := x % 4294967296) (x1 := x / 4294967296) (y0 := y % 4294967296) (y1 := y / 4294967296) (by omega) (by omega) rfl rfl rfl rfl
  refine and32 rfl hx ?_
  refine shr_k' rfl 32 4294967296 (by omega) (by decide) (by omega) ?_
  refine and32 rfl hy ?_
  refine shr_k' rfl 32 4294967296 (by omega) (by decide) (by omega) ?_
  refine k_u64 (x % 4294967296 * (y % 4294967296)) (by norm_cast) (by omega) ?_
  refine k_u64 (x / 4294967296 * (y % 4294967296)) (by norm_cast) (by omega) ?_
  have h1 : ((x % 4294967296 : Nat) : Int) * ((y / 4294967296 : Nat) : Int) = ((x % 4294967296 * (y / 4294967296) : Nat) : Int) := by norm_cast
  have h2 : ((x / 4294967296 : Nat) : Int) * ((y / 4294967296 : Nat) : Int) = ((x / 4294967296 * (y / 4294967296) : Nat) : Int) := by norm_cast
  have h3 : (x : Int) * (y : Int) = ((x * y : Nat) : Int) := by norm_cast
  rw [h1, h2, h3]
  generalize x % 4294967296 * (y % 4294967296) = a at *
  generalize x / 4294967296 * (y % 4294967296) = b at *
  generalize x % 4294967296 * (y / 4294967296) = c at *
  generalize x / 4294967296 * (y / 4294967296) = d at *
  generalize x * y = p at *
  refine shr_k' rfl 32 4294967296 (by omega) (by decide) (by omega) ?_
  refine k_u64 (b + a / 4294967296) (by omega) (by omega) ?_
  refine and32 rfl (by omega) ?_
  refine shr_k' rfl 32 4294967296 (by omega) (by decide) (by omega) ?_
  refine k_u64 c rfl (by omega) ?_
  refine k_u64 ((b + a / 4294967296) % 4294967296 + c) (by omega) (by omega) ?_
  refine k_u64 d rfl (by omega) ?_
  refine k_u64 (d + (b + a / 4294967296) / 4294967296) (by omega) (by omega) ?_
  refine shr_k' rfl 32 4294967296 (by omega) (by decide) (by omega) ?_
  refine k_u64 (p / 18446744073709551616) (by omega) (by omega) ?_
  refine letK_intro (y := ((p % 18446744073709551616 : Nat) : Int)) (by rw [wrap_u64]; omega) ?_
  exact ⟨rfl, rfl⟩
/-! ### a product with a word -/
def mulL (w : Nat) : List Nat → Nat → List Nat
  | [], c => [c]
  | x :: xs, c => (x * w + c) % 18446744073709551616 :: mulL w xs ((x * w + c) / 18446744073709551616)
theorem mulL_val (w : Nat) : ∀ (xs : List Nat) (c : Nat), val (mulL w xs c) = val xs * w + c
  | [], c => by simp [mulL, val]
  | x :: xs, c => by
    simp only [mulL, val, mulL_val w xs, Nat.add_mul, Nat.mul_assoc]
    generalize x * w = y; generalize val xs * w = z; omega
theorem MulWord_walk {R : Rt} {a : Option Addr} {c l w z y : Nat} {xs : List Nat} {h0 : Hp} {q : Nat} (r : Rd h0 a c xs) (hl : l = xs.length) (hq : h0.size ≤ q) (hx : xs.length ≤ 8192) (hw : w < 18446744073709551616) (hz : z = xs.length + 1) (hy : y = xs.length + 1)
    (fs : List Nat) (g : ∀ v h', Keep h0 h' → Ans h' v (lim (val fs)) → R v h') :
    ∀ (j n ca : Nat) (zs : List Nat) (h : Hp), n + j = xs.length → zs.length = xs.length + 1 → ca < 18446744073709551616 → Own h q zs → Keep h0 h → zs.take n ++ mulL w (xs.drop n) ca = fs →
      nat_MulWord.L4.t R (j + 1) a l c (w : Int) (some ⟨q, 0, none⟩) z y (ca : Int) (l : Int) (n : Int) h := by
  subst hl
  intro j
  induction j with
  | zero =>
    intro n ca zs h hn hzs hc ho kp e
    unfold nat_MulWord.L4.t nat_MulWord.D5.t
    refine c_dec (fun hb => absurd hb (by omega)) fun _ => ?_
    have en : n = xs.length := by omega
    subst en
    rw [List.drop_length] at e
    unfold nat_MulWord.D2.t
    refine put_intro ho (j := xs.length) rfl (by omega) (by omega) rfl hc fun o => ?_
    have e2 : zs.set xs.length ca = fs := by
      rw [← e]; show _ = _ ++ [ca]
      rw [← take_set_succ (by omega), List.take_of_length_le (by rw [List.length_set]; omega)]
    rw [e2] at o
    have e3 : fs.length = xs.length + 1 := by rw [← e2, List.length_set]; exact hzs
    have k2 := kp.set (v := wv ca) (i := xs.length) hq
    refine hc_intro (told_spec (o.rd (c := y) (by omega)) (by omega)) fun v h' ⟨e1, an⟩ => ?_
    subst e1
    refine an.elim fun a c r => ?_
    exact g _ _ k2 ⟨_, _, rfl, r⟩
  | succ j ih =>
    intro n ca zs h hn hzs hc ho kp e
    have hxn : xs.getD n 0 < 18446744073709551616 := r.word n
    rw [drop_getD (xs := xs) (j := n) (by omega)] at e
    simp only [mulL] at e
    have hp : xs.getD n 0 * w ≤ 340282366920938463426481119284349108225 := Nat.mul_le_mul (show xs.getD n 0 ≤ 18446744073709551615 by omega) (show w ≤ 18446744073709551615 by omega)
    unfold nat_MulWord.L4.t nat_MulWord.D5.t
    refine c_dec (fun hb => ?_) fun hb => absurd (by omega) hb
    refine at_intro (r.keep kp) (j := n) rfl rfl (by omega) ?_
    refine hc_intro (Mul64_spec hxn hw _) fun v h' ⟨e1, an⟩ => ?_
    subst e1
    refine an.elim ?_
    generalize xs.getD n 0 * w = p at *
    refine add_intro (c := 0) rfl rfl rfl (by omega) ?_
    have e4 : (p % 18446744073709551616 + ca + 0) % 18446744073709551616 = (p + ca) % 18446744073709551616 := by omega
    rw [e4]
    refine put_intro ho (j := n) rfl (by omega) (by omega) rfl (by omega) fun o => ?_
    refine k_u64 ((p + ca) / 18446744073709551616) (by omega) (by omega) ?_
    refine k_i64 ((n + 1 : Nat) : Int) (by omega) (by omega) (by omega) ?_
    refine ih (n + 1) _ _ _ (by omega) (by simp; omega) (by omega) o (kp.set hq) ?_
    rw [← e, take_set_succ (by omega)]; simp
def mulWS (xs : List Nat) (w : Nat) : List Nat × Int := if Frm xs then lim (val xs * w) else ([], 2)
theorem MulWord_spec {a : Option Addr} {c l w : Nat} {xs : List Nat} {h : Hp} (r : Rd h a c xs) (hl : l = xs.length) (hw : w < 18446744073709551616) :
    HC nat_MulWord.id #[.slice a l c, .int .u64 (w : Int)] h fun v h' => Keep h h' ∧ Ans h' v (mulWS xs w) := by
  refine nat_MulWord.ok ?_
  unfold nat_MulWord.t nat_MulWord.D1.t
  refine hc_intro (Form_spec r hl) fun v h' ⟨e1, e2⟩ => ?_
  subst e1; subst e2; subst hl
  refine gBool_intro rfl ?_
  unfold mulWS
  refine c_not (fun hf => ⟨Keep.refl _, ?_⟩) fun hf => ?_
  · rw [if_neg (of_decide_eq_false hf)]; exact Ans.none
  have f := of_decide_eq_true hf
  rw [if_pos f]
  have hf1 := f.1
  refine k_i64 ((xs.length + 1 : Nat) : Int) (by omega) (by omega) (by omega) ?_
  refine mk_intro (xs.length + 1) rfl rfl rfl rfl (by omega) fun h1 o k => ?_
  unfold nat_MulWord.D3.t
  refine ⟨xs.length + 1, ?_⟩
  refine MulWord_walk r rfl (Nat.le_refl _) hf1 hw rfl rfl (mulL w xs 0) ?_ xs.length 0 0 _ h1 (by omega) (by simp) (by omega) o k (by simp)
  rw [mulL_val, Nat.add_zero]; exact fun v h' k an => ⟨k, an⟩
theorem Word_spec {w : Nat} (hw : w < 18446744073709551616) (h : Hp) : HC nat_Word.id #[.int .u64 (w : Int)] h fun v h' => Keep h h' ∧ AnsS h' v (digs w) := by
  refine nat_Word.ok ?_
  unfold nat_Word.t nat_Word.D1.t
  refine c_eq (fun h0 => ⟨Keep.refl _, ?_⟩) fun h0 => ?_
  · have : w = 0 := by omega
    subst this; rw [digs_zero]; exact ⟨none, 0, rfl, Rd.nil _ _ _⟩
  · refine box_intro [w] (by rfl) (by simp) (by simpa using hw) fun h1 o k => ⟨k, ?_⟩
    have e : digs w = [w] := by
      rw [digs_pos (by omega), show w / 18446744073709551616 = 0 by omega, digs_zero, Nat.mod_eq_of_lt hw]
    rw [e]; exact ⟨_, _, rfl, o.rd (by simp)⟩
/-! ### division of two words by one -/
theorem Lead_spec {x : Nat} (hx : x < 18446744073709551616) (h : Hp) : HC bits_LeadingZeros64.id #[.int .u64 (x : Int)] h fun v h' => h' = h ∧ v = .int .i64 ((64 - blen x : Nat) : Int) := by
  refine bits_LeadingZeros64.ok ?_
  unfold bits_LeadingZeros64.t bits_LeadingZeros64.D1.t
  refine hc_intro (Len64_spec rfl hx _) fun v h' ⟨e1, e2⟩ => ?_
  subst e1; subst e2
  refine gInt_intro rfl ?_
  have : blen x ≤ 64 := blen_le.mpr hx
  exact k_i64 ((64 - blen x : Nat) : Int) (by omega) (by omega) (by omega) ⟨rfl, rfl⟩
/-- The guess q of a half digit, with its rest r, for u (two halves and one more) by y = (yn1, yn0). -/
structure Guess (u32 u1 yn1 yn0 q r : Nat) : Prop where
  rest : q * yn1 + r = u32
  up : u32 * 4294967296 + u1 < (q + 1) * (yn1 * 4294967296 + yn0)
theorem Guess.big {u32 u1 yn1 yn0 q r : Nat} (g : Guess u32 u1 yn1 yn0 q r) (hy : u32 < yn1 * 4294967296 + yn0) (hu : u1 < 4294967296) (hb : 4294967296 ≤ q ∨ q * yn0 > 4294967296 * r + u1) : 1 ≤ q ∧ Guess u32 u1 yn1 yn0 (q - 1) (r + yn1) := by
  have hq : 1 ≤ q := by
    rcases hb with h | h
    · omega
    · exact Nat.pos_of_ne_zero fun e => by subst e; simp at h
  obtain ⟨p, rfl⟩ : ∃ p, q = p + 1 := ⟨q - 1, by omega⟩
  refine ⟨hq, ?_, ?_⟩
  · have := g.rest
    rw [Nat.add_mul, Nat.one_mul] at this
    rw [Nat.add_sub_cancel]; omega
  · rw [Nat.add_sub_cancel]
    rcases hb with h | h
    · have h1 : 4294967296 * (yn1 * 4294967296 + yn0) ≤ (p + 1) * (yn1 * 4294967296 + yn0) := Nat.mul_le_mul_right _ h
      generalize (p + 1) * (yn1 * 4294967296 + yn0) = z at *; omega
    · have h1 := g.rest
      rw [Nat.mul_add, ← Nat.mul_assoc]
      generalize (p + 1) * yn1 = a at *
      generalize (p + 1) * yn0 = b at *
      omega
theorem Guess.fits {u32 u1 yn1 yn0 q r : Nat} (g : Guess u32 u1 yn1 yn0 q r) (hb : q * yn0 ≤ 4294967296 * r + u1) : q = (u32 * 4294967296 + u1) / (yn1 * 4294967296 + yn0) := by
  have h1 := g.rest
  have h2 : q * (yn1 * 4294967296 + yn0) ≤ u32 * 4294967296 + u1 := by
    rw [Nat.mul_add, ← Nat.mul_assoc]
    generalize q * yn1 = a at *; generalize q * yn0 = b at *; omega
  have h3 := g.up
  have hpos : 0 < yn1 * 4294967296 + yn0 := Nat.pos_of_ne_zero fun e => by rw [e] at h3; simp at h3
  refine (Nat.div_eq_of_lt_le ?_ ?_).symm
  · exact h2
  · exact h3
end Go.Proofs.Ytnbpbojcjihboaa.G
