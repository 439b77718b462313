/- Texts of this work, joined: NatSpec, NatBits, NatOps, NatMul64, NatDiv64, NatDivWord, NatShift, NatCmp, Ref01a, Ref01b, Ref01c, Ref01d, Ref01e, Ref01t, NatAdd, NatSub, NatMulWord, Ref01f, Ref01g, NatHv, DivQ, DivQ2, RootN, MulSpec, MulSpec2, MulSpec3, MulRing, MulPow, NatD, DivRoot, DivLaws, StrRead. -/
import Derived.Test.YtdpkfipkjdlmlaaKF
import Derived.Test.YtdpkfipkjdlmlaaKB
/- What the functions of nat answer, by values of lists. -/
namespace Go.Proofs.Ytdpkfipkjdlmlaa.G
open Go.Gv
theorem trim_loop {R : Rt} {a : Option Addr} {c l : Nat} {xs : List Nat} {h : Hp} (r : Rd h a c xs) (hl : l = xs.length) (g : R (.slice a (trimL xs).length c) h) :
    ∀ n : Nat, n ≤ xs.length → trimL (xs.take n) = trimL xs → nat_trim.L3.t R (n + 1) a l c (n : Int) h := by
  have h1 := r.len
  intro n
  have fin : ∀ n : Nat, n ≤ xs.length → trimL xs = xs.take n → nat_trim.D2.t R a l c (n : Int) h := by
    intro n hn e
    refine sl_to rfl (Nat.le_trans hn r.cap) ?_
    have e2 : (trimL xs).length = n := by rw [e, List.length_take]; omega
    rw [← e2]; exact g
  induction n with
  | zero =>
    intro hn hz
    unfold nat_trim.L3.t nat_trim.D4.t
    refine c_dec (fun h => absurd h (by omega)) fun _ => fin 0 hn ?_
    rw [← hz]; rfl
  | succ n ih =>
    intro hn hz
    refine c_dec (fun _ => ?_) fun h => absurd (by omega) h
    refine k_i64 (n : Int) (by omega) (by omega) (by omega) ?_
    refine at_intro r (j := n) rfl hl (by omega) ?_
    have es := take_snoc (xs := xs) (n := n) (by omega)
    refine c_eq (fun he => ?_) fun he => ?_
    · refine k_i64 (n : Int) (by omega) (by omega) (by omega) ?_
      refine ih (by omega) ?_
      rw [← hz, es, show xs.getD n 0 = 0 by omega, trimL_zero]
    · refine fin (n + 1) hn ?_
      rw [← hz, es, trimL_last _ (by omega)]
theorem trim_spec {a : Option Addr} {c l : Nat} {xs : List Nat} {h : Hp} (r : Rd h a c xs) (hl : l = xs.length) :
    HC nat_trim.id #[.slice a l c] h fun v h' => h' = h ∧ v = .slice a (trimL xs).length c ∧ Rd h a c (trimL xs) := by
  have hr : Rd h a c (trimL xs) := by
    have : ∀ n : Nat, n ≤ xs.length → trimL (xs.take n) = trimL xs → ∃ m, trimL xs = xs.take m := by
      intro n
      induction n with
      | zero => intro _ e; exact ⟨0, by rw [← e]; rfl⟩
      | succ n ih =>
        intro hn e
        have es := take_snoc (xs := xs) (n := n) (by omega)
        by_cases h0 : xs.getD n 0 = 0
        · refine ih (by omega) ?_; rw [← e, es, h0, trimL_zero]
        · refine ⟨n + 1, ?_⟩; rw [← e, es, trimL_last _ h0]
    obtain ⟨m, e⟩ := this xs.length (Nat.le_refl _) (by rw [List.take_length])
    rw [e]; exact r.take m
  refine nat_trim.ok ?_
  unfold nat_trim.t nat_trim.D1.t
  refine ⟨xs.length + 1, ?_⟩
  subst hl
  exact trim_loop r rfl ⟨rfl, rfl, hr⟩ xs.length (Nat.le_refl _) (by rw [List.take_length])
theorem told_spec {a : Option Addr} {c l : Nat} {xs : List Nat} {h0 h : Hp} (g : GotE eU64 h0 h a c xs) (hl : l = xs.length) :
    HC nat_told.id #[.slice a l c] h fun v h' => h' = h ∧ Ans h0 h v (lim (val xs)) := by
  have r := g.rd64
  refine nat_told.ok ?_
  unfold nat_told.t nat_told.D1.t
  refine hc_intro (trim_spec r hl) fun v h' ⟨e1, e2, r'⟩ => ?_
  subst e1; subst e2
  have e := digs_val r.words
  refine c_dec (fun hb => ?_) fun hb => ?_
  · refine ⟨rfl, ?_⟩
    unfold lim; rw [e, if_neg (by omega)]; exact Ans.none
  · refine ⟨rfl, ?_⟩
    unfold lim; rw [e, if_pos (by omega)]; exact Ans.mk rfl rfl g.trim (show In .i64 0 by decide)
theorem Form_spec {a : Option Addr} {c l : Nat} {xs : List Nat} {h : Hp} (r : Rd h a c xs) (hl : l = xs.length) :
    HC nat_Form.id #[.slice a l c] h fun v h' => h' = h ∧ v = .bool (decide (Frm xs)) := by
  subst hl
  have h1 := r.len
  refine nat_Form.ok ?_
  unfold nat_Form.t nat_Form.D1.t
  refine c_dec (fun hb => ?_) fun hb => ?_
  · refine c_eq (fun h0 => ?_) fun h0 => ?_
    · refine ⟨rfl, ?_⟩
      have e : xs = [] := List.length_eq_zero_iff.mp (by omega)
      subst e; rfl
    · refine k_i64 ((xs.length - 1 : Nat) : Int) (by omega) (by omega) (by omega) ?_
      refine at_intro r (j := xs.length - 1) rfl rfl (by omega) ⟨rfl, ?_⟩
      have hiff := @trimL_iff xs
      by_cases hz : xs.getD (xs.length - 1) 0 = 0
      · rw [hz]
        have : ¬ Frm xs := fun f => by
          rcases hiff.mp f.2 with e | e
          · subst e; simp at h0
          · exact e hz
        simp [this]
      · have : Frm xs := ⟨by omega, hiff.mpr (Or.inr hz)⟩
        simp only [this, decide_true]
        congr 1
        exact bne_iff_ne.mpr (by omega)
  · refine ⟨rfl, ?_⟩
    have : ¬ Frm xs := fun f => by have := f.1; omega
    simp [this]
theorem Same_loop {R : Rt} {a b : Option Addr} {c d l m : Nat} {xs ys : List Nat} {h : Hp} (r : Rd h a c xs) (s : Rd h b d ys) (hl : l = xs.length) (hm : m = ys.length) (he : xs.length = ys.length) (g : R (.bool (decide (xs = ys))) h) :
    ∀ k n : Nat, n + k = xs.length → xs.take n = ys.take n → gnomonref01_Same.L4.t R (k + 1) a l c b m d (n : Int) h := by
  subst hl; subst hm
  have h1 := r.len
  intro k
  induction k with
  | zero =>
    intro n hn ht
    refine c_dec (fun hb => absurd hb (by omega)) fun _ => ?_
    have e : xs = ys := by
      rw [← List.take_length (l := xs), ← List.take_length (l := ys), ← he, show xs.length = n by omega]; exact ht
    show R (.bool true) h
    simpa [e] using g
  | succ k ih =>
    intro n hn ht
    refine c_dec (fun hb => ?_) fun hb => absurd (by omega) hb
    refine at_intro r (j := n) rfl rfl (by omega) ?_
    refine at_intro s (j := n) rfl rfl (by omega) ?_
    refine c_ne (fun hne => ?_) fun heq => ?_
    · have e : xs ≠ ys := fun e => hne (by rw [e])
      simpa [e] using g
    · refine k_i64 ((n + 1 : Nat) : Int) (by omega) (by omega) (by omega) ?_
      refine ih (n + 1) (by omega) ?_
      rw [take_snoc (by omega), take_snoc (by omega), ht, show xs.getD n 0 = ys.getD n 0 by omega]
theorem Same_spec {a b : Option Addr} {c d l m : Nat} {xs ys : List Nat} {h : Hp} (r : Rd h a c xs) (s : Rd h b d ys) (hl : l = xs.length) (hm : m = ys.length) :
    HQC gnomonref01_Same.id #[.slice a l c, .slice b m d] h fun v => v = .bool (decide (xs = ys)) := by
  refine ⟨.bool (decide (xs = ys)), ?_, rfl⟩
  refine gnomonref01_Same.ok ?_
  unfold gnomonref01_Same.t gnomonref01_Same.D1.t
  refine c_ne (fun hne => ?_) fun he => ?_
  · have e : xs ≠ ys := fun e => hne (by rw [hl, hm, e])
    simp [e]
  · refine ⟨l + 1, ?_⟩
    refine Same_loop r s hl hm (by omega) ⟨rfl, rfl⟩ l 0 (by omega) ?_
    simp
theorem Same_intro {a b : Option Addr} {c d l m : Nat} {xs ys : List Nat} {h : Hp} (r : Rd h a c xs) (s : Rd h b d ys) (hl : l = xs.length) (hm : m = ys.length) {K : Bool → Prop} (g : K (decide (xs = ys))) :
    HQC gnomonref01_Same.id #[.slice a l c, .slice b m d] h fun v => gBool v K := by
  obtain ⟨v, hc, e⟩ := Same_spec r s hl hm
  subst e
  exact ⟨_, hc, g⟩
end Go.Proofs.Ytdpkfipkjdlmlaa.G

/- What Len64 and Bits answer. -/
namespace Go.Proofs.Ytdpkfipkjdlmlaa.G
open Go.Gv
set_option maxRecDepth 100000
/-! ### bits -/
theorem shr_k {x : Int} {y : Int} {n : Nat} (hx : x = (n : Int)) (s p : Nat) (hs : s ≤ 64) (hp : p = 2 ^ s) (hy : y = (s : Int)) {K : Int → Prop} (g : K ((n / p : Nat) : Int)) : letK (shrI .u64 x y) K := by
  subst hx; subst hy; subst hp
  refine ⟨?_⟩
  show K (Int.fdiv (n : Int) (2 ^ (min (s : Int).toNat 64)))
  have e : min (s : Int).toNat 64 = s := by omega
  rw [e]
  have e2 : Int.fdiv (n : Int) (2 ^ s) = ((n / 2 ^ s : Nat) : Int) := by
    rw [Int.fdiv_eq_ediv_of_nonneg _ (Int.le_of_lt (Int.pow_pos (by decide)))]
    norm_cast
  rw [e2]; exact g
theorem letK_intro {x y : Int} (e : x = y) {K : Int → Prop} (g : K y) : letK x K := by subst e; exact ⟨g⟩
end Go.Proofs.Ytdpkfipkjdlmlaa.G

/- Steps with bits of words. -/
namespace Go.Proofs.Ytdpkfipkjdlmlaa.G
open Go.Gv
set_option maxRecDepth 100000
/-! ### words and their bits -/
theorem shl_k {x y : Int} {n : Nat} (hx : x = (n : Int)) (s p : Nat) (hs : s ≤ 64) (hp : p = 2 ^ s) (hy : y = (s : Int)) {K : Int → Prop} (g : K ((n * p % 18446744073709551616 : Nat) : Int)) : 0 ≤ y ∧ letK (shlI .u64 x y) K := by
  subst hx; subst hy; subst hp
  refine ⟨by omega, ⟨?_⟩⟩
  show K (IntKind.u64.wrap ((n : Int) * 2 ^ (min (s : Int).toNat 64)))
  have e : min (s : Int).toNat 64 = s := by omega
  rw [e, wrap_u64]
  have e2 : ((n : Int) * 2 ^ s) % 18446744073709551616 = ((n * 2 ^ s % 18446744073709551616 : Nat) : Int) := by
    have e3 : (2 : Int) ^ s = ((2 ^ s : Nat) : Int) := by rw [Int.natCast_pow]; rfl
    rw [e3, ← Int.natCast_mul]; omega
  rw [e2]; exact g
theorem shr_k' {x y : Int} {n : Nat} (hx : x = (n : Int)) (s p : Nat) (hs : s ≤ 64) (hp : p = 2 ^ s) (hy : y = (s : Int)) {K : Int → Prop} (g : K ((n / p : Nat) : Int)) : 0 ≤ y ∧ letK (shrI .u64 x y) K :=
  ⟨by omega, shr_k hx s p hs hp hy g⟩
theorem bv_nat (a : Nat) : BitVec.ofInt 64 (a : Int) = BitVec.ofNat 64 a := BitVec.ofInt_natCast 64 a
theorem and_k {x y : Int} {a b : Nat} (hx : x = (a : Int)) (hy : y = (b : Int)) (ha : a < 18446744073709551616) (hb : b < 18446744073709551616) {K : Int → Prop} (g : K ((a &&& b : Nat) : Int)) : letK (andI .u64 x y) K := by
  subst hx; subst hy
  refine ⟨?_⟩
  show K (IntKind.u64.wrap (BitVec.ofInt 64 (a : Int) &&& BitVec.ofInt 64 (b : Int)).toNat)
  have e : (BitVec.ofInt 64 (a : Int) &&& BitVec.ofInt 64 (b : Int)).toNat = a &&& b := by
    rw [bv_nat, bv_nat, BitVec.toNat_and, BitVec.toNat_ofNat, BitVec.toNat_ofNat, Nat.mod_eq_of_lt (by omega), Nat.mod_eq_of_lt (by omega)]
  have hlt : a &&& b ≤ a := Nat.and_le_left
  rw [e, wrap_u64' (by omega) (by omega)]; exact g
theorem k_u64 {x : Int} (y : Nat) (e : x = (y : Int)) (h : y < 18446744073709551616) {K : Int → Prop} (g : K (y : Int)) : letK (IntKind.u64.wrap x) K := by
  subst e; refine ⟨?_⟩; show K _; rw [wrap_u64' (by omega) (by omega)]; exact g
theorem tdiv_nat (n m : Nat) : Int.tdiv (n : Int) (m : Int) = ((n / m : Nat) : Int) := by
  rw [Int.tdiv_eq_ediv_of_nonneg (by omega)]; norm_cast
theorem mul_lt32 {a b : Nat} (ha : a < 4294967296) (hb : b < 4294967296) : a * b ≤ 18446744065119617025 := Nat.mul_le_mul (show a ≤ 4294967295 by omega) (show b ≤ 4294967295 by omega)
theorem and32 {x : Int} {n : Nat} (hx : x = (n : Int)) (hn : n < 18446744073709551616) {K : Int → Prop} (g : K ((n % 4294967296 : Nat) : Int)) : letK (andI .u64 x 4294967295) K := by
  refine and_k (b := 4294967295) hx rfl hn (by decide) ?_
  have : n &&& 4294967295 = n % 4294967296 := Nat.and_two_pow_sub_one_eq_mod n 32
  rw [this]; exact g
end Go.Proofs.Ytdpkfipkjdlmlaa.G

/- What Mul64 answers. -/
namespace Go.Proofs.Ytdpkfipkjdlmlaa.G
open Go.Gv
set_option maxRecDepth 100000
/-- A call that answers two words. -/
def Ans2 (v : Value) (a b : Nat) : Prop := v = .tuple #[.int .u64 (a : Int), .int .u64 (b : Int)]
theorem Ans2.elim {v : Value} {a b : Nat} {K : Int → Int → Prop} (e : Ans2 v a b) (g : K (a : Int) (b : Int)) :
    gTup v fun y => uncons y fun v1 y1 => gInt .u64 v1 fun x => uncons y1 fun v2 y2 => gInt .u64 v2 fun z => unnil y2 (K x z) := by
  subst e; exact g
theorem mul64_hi {x y x0 x1 y0 y1 a b c d : Nat} (hx : x = x0 + 4294967296 * x1) (hy : y = y0 + 4294967296 * y1) (ha : a = x0 * y0) (hb : b = x1 * y0) (hc : c = x0 * y1) (hd : d = x1 * y1) : x * y = a + 4294967296 * (b + c) + 18446744073709551616 * d := by
  subst hx; subst hy; subst ha; subst hb; subst hc; subst hd
  rw [Nat.add_mul, Nat.mul_add, Nat.mul_add]
  have e1 : x0 * (4294967296 * y1) = 4294967296 * (x0 * y1) := Nat.mul_left_comm _ _ _
  have e2 : 4294967296 * x1 * y0 = 4294967296 * (x1 * y0) := Nat.mul_assoc _ _ _
  have e3 : 4294967296 * x1 * (4294967296 * y1) = 18446744073709551616 * (x1 * y1) := by
    rw [Nat.mul_assoc, Nat.mul_left_comm x1, ← Nat.mul_assoc]
  rw [e1, e2, e3]; omega
theorem Mul64_spec {x y : Nat} (hx : x < 18446744073709551616) (hy : y < 18446744073709551616) (h : Hp) :
    HC bits_Mul64.id #[.int .u64 (x : Int), .int .u64 (y : Int)] h fun v h' => h' = h ∧ Ans2 v (x * y / 18446744073709551616) (x * y % 18446744073709551616) := by
  refine bits_Mul64.ok ?_
  unfold bits_Mul64.t bits_Mul64.D1.t
  have ha := mul_lt32 (a := x % 4294967296) (b := y % 4294967296) (by omega) (by omega)
  have hb := mul_lt32 (a := x / 4294967296) (b := y % 4294967296) (by omega) (by omega)
  have hc := mul_lt32 (a := x % 4294967296) (b := y / 4294967296) (by omega) (by omega)
  have hd := mul_lt32 (a := x / 4294967296) (b := y / 4294967296) (by omega) (by omega)
  have e := mul64_hi (x := x) (y := y) (x0 := x % 4294967296) (x1 := x / 4294967296) (y0 := y % 4294967296) (y1 := y / 4294967296) (by omega) (by omega) rfl rfl rfl rfl
  refine and32 rfl hx ?_
  refine shr_k' rfl 32 4294967296 (by omega) (by decide) (by omega) ?_
  refine and32 rfl hy ?_
  refine shr_k' rfl 32 4294967296 (by omega) (by decide) (by omega) ?_
  refine k_u64 (x % 4294967296 * (y % 4294967296)) (by norm_cast) (by omega) ?_
  refine k_u64 (x / 4294967296 * (y % 4294967296)) (by norm_cast) (by omega) ?_
  have h1 : ((x % 4294967296 : Nat) : Int) * ((y / 4294967296 : Nat) : Int) = ((x % 4294967296 * (y / 4294967296) : Nat) : Int) := by norm_cast
  have h2 : ((x / 4294967296 : Nat) : Int) * ((y / 4294967296 : Nat) : Int) = ((x / 4294967296 * (y / 4294967296) : Nat) : Int) := by norm_cast
  have h3 : (x : Int) * (y : Int) = ((x * y : Nat) : Int) := by norm_cast
  rw [h1, h2, h3]
  generalize x % 4294967296 * (y % 4294967296) = a at *
  generalize x / 4294967296 * (y % 4294967296) = b at *
  generalize x % 4294967296 * (y / 4294967296) = c at *
  generalize x / 4294967296 * (y / 4294967296) = d at *
  generalize x * y = p at *
  refine shr_k' rfl 32 4294967296 (by omega) (by decide) (by omega) ?_
  refine k_u64 (b + a / 4294967296) (by omega) (by omega) ?_
  refine and32 rfl (by omega) ?_
  refine shr_k' rfl 32 4294967296 (by omega) (by decide) (by omega) ?_
  refine k_u64 c rfl (by omega) ?_
  refine k_u64 ((b + a / 4294967296) % 4294967296 + c) (by omega) (by omega) ?_
  refine k_u64 d rfl (by omega) ?_
  refine k_u64 (d + (b + a / 4294967296) / 4294967296) (by omega) (by omega) ?_
  refine shr_k' rfl 32 4294967296 (by omega) (by decide) (by omega) ?_
  refine k_u64 (p / 18446744073709551616) (by omega) (by omega) ?_
  refine letK_intro (y := ((p % 18446744073709551616 : Nat) : Int)) (by rw [wrap_u64]; omega) ?_
  exact ⟨rfl, rfl⟩
end Go.Proofs.Ytdpkfipkjdlmlaa.G

/- What Div64 answers. -/
namespace Go.Proofs.Ytdpkfipkjdlmlaa.G
open Go.Gv
set_option maxRecDepth 100000
/-! ### division of two words by one -/
/-- The guess q of a half digit, with its rest r, for u (two halves and one more) by y = (yn1, yn0). -/
structure Guess (u32 u1 yn1 yn0 q r : Nat) : Prop where
  rest : q * yn1 + r = u32
  up : u32 * 4294967296 + u1 < (q + 1) * (yn1 * 4294967296 + yn0)
theorem Guess.first {u32 u1 yn1 yn0 : Nat} (h1 : 0 < yn1) (hu : u1 < 4294967296) : Guess u32 u1 yn1 yn0 (u32 / yn1) (u32 % yn1) := by
  refine ⟨by rw [Nat.mul_comm]; exact Nat.div_add_mod _ _, ?_⟩
  have h2 : u32 < (u32 / yn1 + 1) * yn1 := by
    rw [Nat.add_mul, Nat.one_mul, Nat.mul_comm]
    have := Nat.div_add_mod u32 yn1
    have := Nat.mod_lt u32 h1
    omega
  rw [Nat.mul_add, ← Nat.mul_assoc]
  generalize (u32 / yn1 + 1) * yn1 = a at *
  omega
end Go.Proofs.Ytdpkfipkjdlmlaa.G

/- What DivWord answers. -/
namespace Go.Proofs.Ytdpkfipkjdlmlaa.G
open Go.Gv
set_option maxRecDepth 100000
abbrev Ans3 : An (List Nat × Int × Int) := s3 sW (sI .u64) (sI .i64)
theorem Ans3.elim {h0 h : Hp} {v : Value} {p : List Nat × Int × Int} {K : Option Addr → Nat → Nat → Int → Int → Prop} (a : Ans3 h0 h v p) (g : ∀ a c, GotE eU64 h0 h a c p.1 → K a p.1.length c p.2.1 p.2.2) :
    gTup v fun y => uncons y fun v1 y1 => gSlice v1 fun a l c => uncons y1 fun v2 y2 => gInt .u64 v2 fun x => uncons y2 fun v3 y3 => gInt .i64 v3 fun z => unnil y3 (K a l c x z) := by
  obtain ⟨x, y, z, e, ⟨a, c, e1, r⟩, ⟨e2, _⟩, e3, _⟩ := a
  subst e; subst e1; subst e2; subst e3; exact g a c r
end Go.Proofs.Ytdpkfipkjdlmlaa.G

/- What Shl, Shr and Low answer. -/
namespace Go.Proofs.Ytdpkfipkjdlmlaa.G
open Go.Gv
set_option maxRecDepth 100000
/-! ### to the left -/
/-! ### to the right -/
/-! ### the lowest bits -/
end Go.Proofs.Ytdpkfipkjdlmlaa.G

/- What Cmp answers. -/
namespace Go.Proofs.Ytdpkfipkjdlmlaa.G
open Go.Gv
set_option maxRecDepth 100000
end Go.Proofs.Ytdpkfipkjdlmlaa.G

/- What the digits' calls of the reference answer: Norm, From, To, Word, Cmp, Add. -/
namespace Go.Proofs.Ytdpkfipkjdlmlaa.G
open Go.Gv
set_option maxRecDepth 100000
set_option linter.unusedVariables false
theorem k_u32 {x : Int} (y : Nat) (e : x = (y : Int)) (h : y < 4294967296) {K : Int → Prop} (g : K (y : Int)) : letK (IntKind.u32.wrap x) K := by
  subst e; refine ⟨?_⟩; show K _
  have : IntKind.u32.wrap (y : Int) = (y : Int) := by
    simp only [IntKind.wrap, IntKind.bits, IntKind.signed, Bool.false_and, Bool.false_eq_true, if_false]; omega
  rw [this]; exact g
theorem shr32 {x : Int} {n : Nat} (hx : x = (n : Int)) {K : Int → Prop} (g : K ((n / 4294967296 : Nat) : Int)) : 0 ≤ (32 : Int) ∧ letK (shrI .u64 x 32) K :=
  shr_k' hx 32 4294967296 (by decide) (by decide) rfl g
theorem shl32 {x : Int} {n : Nat} (hx : x = (n : Int)) (hn : n < 4294967296) {K : Int → Prop} (g : K ((n * 4294967296 : Nat) : Int)) : 0 ≤ (32 : Int) ∧ letK (shlI .u64 x 32) K := by
  refine shl_k hx 32 4294967296 (by decide) (by decide) rfl ?_
  rw [Nat.mod_eq_of_lt (by omega)]; exact g
theorem push32 {h0 h : Hp} {a : Option Addr} {l c n : Nat} {x : Int} {xs : List Nat} (g : GotE eU32 h0 h a c xs) (k0 : Keep h0 h) (hl : l = xs.length) (hx : x = (n : Int)) (hn : n < 4294967296) (hlim : xs.length + 1 ≤ 70368744177656) (hfit : c < xs.length + 1 → xs.length + 1 ≤ 35184372088832) {K : Option Addr → Nat → Nat → Hp → Prop}
    (post : ∀ a' c' h', GotE eU32 h0 h' a' c' (xs ++ [n]) → Keep h0 h' → (xs.length + 1 ≤ c → c' = c) → K a' (xs.length + 1) c' h') : boxK h 84 [.int .u32 x] fun q h2 => apK h2 84 T84 a l c (.slice (some q) 1 1) K :=
  pushE eU32 g k0 [n] (by rw [hx]; rfl) (fun y hy => by rw [List.mem_singleton] at hy; subst hy; exact hn) hl rfl rfl 0 rfl ok32 4 rfl (by decide) hlim (fun h => by have := hfit (by simpa using h); simp; omega) post
theorem push64 {h0 h : Hp} {a : Option Addr} {l c n : Nat} {x : Int} {xs : List Nat} (g : GotE eU64 h0 h a c xs) (k0 : Keep h0 h) (hl : l = xs.length) (hx : x = (n : Int)) (hn : n < 18446744073709551616) (hlim : xs.length + 1 ≤ 35184372088828) (hfit : c < xs.length + 1 → xs.length + 1 ≤ 17592186044416) {K : Option Addr → Nat → Nat → Hp → Prop}
    (post : ∀ a' c' h', GotE eU64 h0 h' a' c' (xs ++ [n]) → Keep h0 h' → (xs.length + 1 ≤ c → c' = c) → K a' (xs.length + 1) c' h') : boxK h 27 [.int .u64 x] fun q h2 => apK h2 27 T27 a l c (.slice (some q) 1 1) K :=
  pushE eU64 g k0 [n] (by rw [hx]; rfl) (fun y hy => by rw [List.mem_singleton] at hy; subst hy; exact hn) hl rfl rfl 0 rfl ok64 8 rfl (by decide) hlim (fun h => by have := hfit (by simpa using h); simp; omega) post
/-! ### Norm -/
theorem rNorm_end {R : Rt} {a : Option Addr} {c l : Nat} {xs : List Nat} {h : Hp} (r : RdE eU32 h a c xs) (hl : l = xs.length) (n : Nat) (hn : n ≤ xs.length) (e : trimL xs = xs.take n) (g : ∀ v h', Keep h h' → sD h h' v (D.val xs) → R v h') : gnomonref01_Norm.D2.t R a l c (n : Int) h := by
  have h1 := r.len32
  unfold gnomonref01_Norm.D2.t
  refine mkE eU32 0 n n rfl ok32 4 rfl (by decide) rfl rfl (Nat.le_refl _) (by omega) fun h2 o k => ?_
  refine sl_to rfl (Nat.le_trans hn r.cap) ?_
  have r2 := (r.take n).keep k
  have hlt : (xs.take n).length = n := by rw [List.length_take]; omega
  refine cpE o r2 (by simp) hlt.symm fun h3 o3 k3 => ?_
  have e3 : (xs.take n).take (min (xs.take n).length n) ++ (List.replicate n 0).drop (min (xs.take n).length n) = D.digs (D.val xs) := by
    rw [D.digs_val r.ok, e, hlt, Nat.min_self, List.take_take]; simp
  rw [Int.toNat_natCast] at o3 ⊢
  rw [e3] at o3
  refine g _ _ (k3.keep k (Nat.le_refl _)) ⟨some ⟨h.size, 0, none⟩, n, ?_, o3.got' (Nat.le_refl _) (by rw [D.digs_val r.ok, e, hlt]; show n ≤ 70368744177656; omega) ?_⟩
  · rw [D.digs_val r.ok, e, hlt]
  · rw [D.digs_val r.ok, e, hlt]
theorem rNorm_loop {R : Rt} {a : Option Addr} {c l : Nat} {xs : List Nat} {h : Hp} (r : RdE eU32 h a c xs) (hl : l = xs.length) (g : ∀ v h', Keep h h' → sD h h' v (D.val xs) → R v h') :
    ∀ n : Nat, n ≤ xs.length → trimL (xs.take n) = trimL xs → gnomonref01_Norm.L3.t R (n + 1) a l c (n : Int) h := by
  have h1 := r.len32
  intro n
  induction n with
  | zero =>
    intro hn hz
    unfold gnomonref01_Norm.L3.t gnomonref01_Norm.D4.t
    refine c_dec (fun h => absurd h (by omega)) fun _ => rNorm_end r hl 0 hn ?_ g
    rw [← hz]; rfl
  | succ n ih =>
    intro hn hz
    refine c_dec (fun _ => ?_) fun h => absurd (by omega) h
    refine k_i64 (n : Int) (by omega) (by omega) (by omega) ?_
    refine at32 r (j := n) rfl hl (by omega) ?_
    have es := take_snoc (xs := xs) (n := n) (by omega)
    refine c_eq (fun he => ?_) fun he => ?_
    · refine k_i64 (n : Int) (by omega) (by omega) (by omega) ?_
      refine ih (by omega) ?_
      rw [← hz, es, show xs.getD n 0 = 0 by omega, trimL_zero]
    · refine rNorm_end r hl (n + 1) hn ?_ g
      rw [← hz, es, trimL_last _ (by omega)]
theorem rNorm_spec {a : Option Addr} {c l : Nat} {xs : List Nat} {h : Hp} (r : RdE eU32 h a c xs) (hl : l = xs.length) :
    HC gnomonref01_Norm.id #[.slice a l c] h fun v h' => Keep h h' ∧ sD h h' v (D.val xs) := by
  refine gnomonref01_Norm.ok ?_
  unfold gnomonref01_Norm.t gnomonref01_Norm.D1.t
  refine ⟨xs.length + 1, ?_⟩
  subst hl
  exact rNorm_loop r rfl (fun v h' k s => ⟨k, s⟩) xs.length (Nat.le_refl _) (by rw [List.take_length])
/-- The end of most calls: Norm of the list that was made. -/
theorem rNorm_tail {h0 h : Hp} {a : Option Addr} {c l X : Nat} {xs : List Nat} (g : GotE eU32 h0 h a c xs) (hl : l = xs.length) (hX : D.val xs = X) (k : Keep h0 h) {R : Rt} (post : ∀ v h', Keep h0 h' → sD h0 h' v X → R v h') :
    HC gnomonref01_Norm.id #[.slice a l c] h fun v h' => gSlice v fun a l c => R (.slice a l c) h' := by
  subst hX
  refine hc_intro (rNorm_spec g.rd hl) fun v h' ⟨k2, s⟩ => ?_
  refine s.elim fun a2 c2 g2 => ?_
  exact post _ _ (k.trans k2) ⟨_, _, rfl, g2.from k.le⟩
/-! ### From -/
/-! ### To -/
theorem To_walk {R : Rt} {a : Option Addr} {c l m : Nat} {ds : List Nat} {h0 : Hp} (r : RdE eU32 h0 a c ds) (hl : l = ds.length) (post : ∀ a c h', Keep h0 h' → GotE eU64 h0 h' a c (join ds) → R (.slice a (join ds).length c) h') (hm : (ds.length + 1) / 2 ≤ m) :
    ∀ (k i : Nat) (a2 : Option Addr) (h : Hp), i + k = (ds.length + 1) / 2 → GotE eU64 h0 h a2 m (join (ds.take (2 * i))) → Keep h0 h →
      gnomonref01_To.L4.t R (k + 1) a l c a2 i m ((2 * i : Nat) : Int) h := by
  subst hl
  have h1 := r.len32
  intro k
  induction k with
  | zero =>
    intro i a2 h hi g kp
    unfold gnomonref01_To.L4.t gnomonref01_To.D5.t
    refine c_dec (fun hb => absurd hb (by omega)) fun _ => ?_
    unfold gnomonref01_To.D2.t
    have e : ds.take (2 * i) = ds := List.take_of_length_le (by omega)
    rw [e] at g
    have := post _ _ _ kp g
    have e2 : (join ds).length = i := by rw [join_len]; omega
    rw [e2] at this; exact this
  | succ k ih =>
    intro i a2 h hi g kp
    have hw := r.word32 (2 * i)
    have hw2 := r.word32 (2 * i + 1)
    have hlen : (join (ds.take (2 * i))).length = i := by rw [join_len, List.length_take]; omega
    have hev : (ds.take (2 * i)).length % 2 = 0 := by rw [List.length_take]; omega
    unfold gnomonref01_To.L4.t gnomonref01_To.D5.t
    refine c_dec (fun _ => ?_) fun hb => absurd (by omega) hb
    refine at32 (r.keep kp) (j := 2 * i) rfl rfl (by omega) ?_
    refine k_u64 (ds.getD (2 * i) 0) rfl (by omega) ?_
    refine k_i64 ((2 * i + 1 : Nat) : Int) (by omega) (by omega) (by omega) ?_
    refine c_dec (fun hb => ?_) fun hb => ?_
    · refine k_i64 ((2 * i + 1 : Nat) : Int) (by omega) (by omega) (by omega) ?_
      refine at32 (r.keep kp) (j := 2 * i + 1) rfl rfl (by omega) ?_
      refine k_u64 (ds.getD (2 * i + 1) 0) rfl (by omega) ?_
      refine shl32 rfl hw2 ?_
      refine k_u64 (ds.getD (2 * i) 0 + ds.getD (2 * i + 1) 0 * 4294967296) (by omega) (by omega) ?_
      refine push64 g kp hlen.symm rfl (by omega) (by omega) (by omega) fun a' c' h' g' k' hc => ?_
      obtain rfl := hc (by omega)
      refine k_i64 ((2 * (i + 1) : Nat) : Int) (by omega) (by omega) (by omega) ?_
      rw [hlen]
      have e : ds.take (2 * (i + 1)) = ds.take (2 * i) ++ [ds.getD (2 * i) 0, ds.getD (2 * i + 1) 0] := by
        rw [show 2 * (i + 1) = 2 * i + 1 + 1 by omega, take_snoc (by omega), take_snoc (by omega)]; simp
      rw [← join_snoc2 hev, ← e] at g'
      exact ih (i + 1) a' h' (by omega) g' k'
    · refine push64 g kp hlen.symm rfl (by omega) (by omega) (by omega) fun a' c' h' g' k' hc => ?_
      obtain rfl := hc (by omega)
      refine k_i64 ((2 * (i + 1) : Nat) : Int) (by omega) (by omega) (by omega) ?_
      rw [hlen]
      have e : ds.take (2 * (i + 1)) = ds.take (2 * i) ++ [ds.getD (2 * i) 0] := by
        rw [← take_snoc (by omega), List.take_of_length_le (by omega), List.take_of_length_le (by omega)]
      rw [← join_snoc1 hev, ← e] at g'
      exact ih (i + 1) a' h' (by omega) g' k'
theorem To_raw {a : Option Addr} {c l : Nat} {xs : List Nat} {h : Hp} (r : RdE eU32 h a c xs) (hl : l = xs.length) :
    HC gnomonref01_To.id #[.slice a l c] h fun v h' => Keep h h' ∧ sW h h' v (digs (D.val xs)) := by
  refine gnomonref01_To.ok ?_
  unfold gnomonref01_To.t gnomonref01_To.D1.t
  refine hc_intro (rNorm_spec r hl) fun v h1 ⟨k1, s⟩ => ?_
  refine s.elim fun a1 c1 g1 => ?_
  have hl1 := g1.rd.len32
  have ed : Int.tdiv (((D.digs (D.val xs)).length : Nat) : Int) 2 = (((D.digs (D.val xs)).length / 2 : Nat) : Int) := tdiv_nat _ 2
  refine ⟨by decide, ?_⟩
  rw [ed]
  refine k_i64 (((D.digs (D.val xs)).length / 2 : Nat) : Int) rfl (by omega) (by omega) ?_
  refine k_i64 (((D.digs (D.val xs)).length / 2 + 1 : Nat) : Int) (by omega) (by omega) (by omega) ?_
  refine mkE eU64 0 0 ((D.digs (D.val xs)).length / 2 + 1) rfl ok64 8 rfl (by decide) rfl rfl (by omega) (by omega) fun h2 o k => ?_
  unfold gnomonref01_To.D3.t
  refine ⟨((D.digs (D.val xs)).length + 1) / 2 + 1, ?_⟩
  rw [Int.toNat_natCast]
  refine To_walk g1.rd rfl (fun a' c' h' k' g' => ?_) (by omega) _ 0 _ h2 (by omega) ?_ k
  · have e : join (D.digs (D.val xs)) = digs (D.val xs) := join_digs _
    rw [e] at g' ⊢
    exact ⟨k1.trans k', _, _, rfl, g'.from k1.le⟩
  · exact BlkE.got (xs := join ((D.digs (D.val xs)).take (2 * 0))) (rest := List.replicate ((D.digs (D.val xs)).length / 2 + 1) 0) (by simpa [join] using o) (Nat.le_refl _) (by simp [join]) (by simp [join]) (by simp [join])
theorem To_spec {a : Option Addr} {c l X : Nat} {h : Hp} (r : RdE eU32 h a c (D.digs X)) (hl : l = (D.digs X).length) :
    HC gnomonref01_To.id #[.slice a l c] h fun v h' => Keep h h' ∧ sW h h' v (digs X) := by
  have := To_raw r hl
  rw [D.val_digs] at this; exact this
/-! ### Word -/
theorem rWord_spec {x : Int} {w : Nat} (hx : x = (w : Int)) (hw : w < 18446744073709551616) (h : Hp) : HC gnomonref01_Word.id #[.int .u64 x] h fun v h' => Keep h h' ∧ sD h h' v w := by
  refine gnomonref01_Word.ok ?_
  unfold gnomonref01_Word.t gnomonref01_Word.D1.t
  refine and32 hx hw ?_
  refine k_u32 (w % 4294967296) rfl (by omega) ?_
  refine shr32 hx ?_
  refine k_u32 (w / 4294967296) rfl (by omega) ?_
  refine boxE eU32 [w % 4294967296, w / 4294967296] rfl (fun y hy => ?_) fun h1 o k => ?_
  · simp only [List.mem_cons, List.not_mem_nil, or_false] at hy
    show y < 4294967296
    rcases hy with e | e <;> omega
  · refine rNorm_tail (h0 := h) (R := fun v h' => Keep h h' ∧ sD h h' v w) (o.got' (c := 2) (Nat.le_refl _) (show 2 ≤ 70368744177656 by decide) rfl) (by rfl) (X := w) ?_ k (fun v h' k s => ⟨k, s⟩)
    simp only [D.val]; omega
/-! ### Cmp -/
/-! ### Add -/
end Go.Proofs.Ytdpkfipkjdlmlaa.G

/- What the digits' calls of the reference answer: Bits, Bit, Mul, DivSmall, Shr, Low. -/
namespace Go.Proofs.Ytdpkfipkjdlmlaa.G
open Go.Gv
set_option maxRecDepth 100000
set_option linter.unusedVariables false
/-! ### Bits -/
/-! ### Mul -/
/-! ### DivSmall -/
/-! ### Shr, Low -/
end Go.Proofs.Ytdpkfipkjdlmlaa.G

/- What the digits' calls of the reference answer: Sub, MulSmall, Shl, Bit, Fits. -/
namespace Go.Proofs.Ytdpkfipkjdlmlaa.G
open Go.Gv
set_option maxRecDepth 100000
set_option linter.unusedVariables false
/-! ### Sub -/
/-! ### MulSmall -/
theorem rMulSmall_walk {R : Rt} {a : Option Addr} {c w T m : Nat} {xs : List Nat} {h0 : Hp} (r : RdE eU32 h0 a c xs) (hw : w < 4294967296) (hm : m = xs.length + 1) (hmm : m ≤ 70368744177656) (post : ∀ v h', Keep h0 h' → sD h0 h' v T → R v h') :
    ∀ (k i ca : Nat) (zs : List Nat) (a2 : Option Addr) (h : Hp), i + k = xs.length → zs.length = i → ca < 4294967296 → D.val zs + (D.val (xs.drop i) * w + ca) * 2 ^ (32 * i) = T → GotE eU32 h0 h a2 m zs → Keep h0 h →
      gnomonref01_MulSmall.L4.t R (k + 1) a xs.length c (w : Int) a2 i m (ca : Int) (i : Int) h := by
  intro k
  induction k with
  | zero =>
    intro i ca zs a2 h hi hz hc e g kp
    unfold gnomonref01_MulSmall.L4.t gnomonref01_MulSmall.D5.t
    refine c_dec (fun hb => absurd hb (by omega)) fun _ => ?_
    unfold gnomonref01_MulSmall.D2.t
    refine k_u32 ca rfl hc ?_
    refine push32 g kp hz.symm rfl hc (by omega) (by omega) fun a' c' h' g' k' hc => ?_
    refine rNorm_tail g' (by simp) ?_ k' post
    rw [List.drop_of_length_le (by omega)] at e
    rw [D.val_append, hz, ← e]
    simp [D.val, Nat.mul_comm]
  | succ k ih =>
    intro i ca zs a2 h hi hz hc e g kp
    have hx := r.word32 i
    have hp := mul_lt32 hx hw
    unfold gnomonref01_MulSmall.L4.t gnomonref01_MulSmall.D5.t
    refine c_dec (fun _ => ?_) fun hb => absurd (by omega) hb
    refine at32 (r.keep kp) (j := i) rfl rfl (by omega) ?_
    refine k_u64 (xs.getD i 0) rfl (by omega) ?_
    refine k_u64 w rfl (by omega) ?_
    have em : ((xs.getD i 0 : Nat) : Int) * (w : Int) = ((xs.getD i 0 * w : Nat) : Int) := (Int.natCast_mul _ _).symm
    rw [em]
    have ev : D.val (xs.drop i) * w = xs.getD i 0 * w + 4294967296 * (D.val (xs.drop (i + 1)) * w) := by
      rw [D.val_getD_drop, Nat.add_mul, Nat.mul_assoc]
    rw [ev] at e
    generalize xs.getD i 0 * w = p at *
    refine k_u64 p rfl (by omega) ?_
    refine k_u64 (ca + p) (by omega) (by omega) ?_
    refine and32 rfl (by omega) ?_
    refine k_u32 ((ca + p) % 4294967296) rfl (by omega) ?_
    refine push32 g kp hz.symm rfl (by omega) (by omega) (by omega) fun a' c' h' g' k' hc => ?_
    obtain rfl := hc (by omega)
    refine shr32 rfl ?_
    refine k_i64 ((i + 1 : Nat) : Int) (by omega) (by omega) (by omega) ?_
    rw [hz]
    refine ih (i + 1) _ _ a' h' (by omega) (by simp [hz]) (by omega) ?_ g' k'
    rw [← e]
    exact D.push_step (s := p) (t := (ca + p) % 4294967296) (c' := (ca + p) / 4294967296) hz rfl (by omega)
theorem rMulSmall_spec {a : Option Addr} {c l w z : Nat} {xs : List Nat} {h : Hp} (r : RdE eU32 h a c xs) (hl : l = xs.length) {x y : Int} (hx : x = (w : Int)) (hy : y = (z : Int)) (hw : w < 4294967296) (hz : z < 4294967296) (hlen : xs.length ≤ 1099511627777) :
    HC gnomonref01_MulSmall.id #[.slice a l c, .int .u32 x, .int .u32 y] h fun v h' => Keep h h' ∧ sD h h' v (D.val xs * w + z) := by
  subst hl; subst hx; subst hy
  refine gnomonref01_MulSmall.ok ?_
  unfold gnomonref01_MulSmall.t gnomonref01_MulSmall.D1.t
  refine k_i64 ((xs.length + 1 : Nat) : Int) (by omega) (by omega) (by omega) ?_
  refine mkE eU32 0 0 (xs.length + 1) rfl ok32 4 rfl (by decide) rfl rfl (by omega) (by omega) fun h2 o k => ?_
  refine k_u64 z rfl (by omega) ?_
  unfold gnomonref01_MulSmall.D3.t
  refine ⟨xs.length + 1, ?_⟩
  rw [Int.toNat_natCast]
  refine rMulSmall_walk (T := D.val xs * w + z) r hw rfl (by omega) (fun v h' k s => ⟨k, s⟩) _ 0 z [] _ h2 (by omega) rfl hz ?_ ?_ k
  · simp [D.val]
  · exact BlkE.got (xs := []) (rest := List.replicate (xs.length + 1) 0) (by simpa using o) (Nat.le_refl _) (by simp) (by simp) (by simp)
/-! ### Shl -/
/-! ### Bit -/
/-! ### Fits -/
end Go.Proofs.Ytdpkfipkjdlmlaa.G

/- What the digits' calls of the reference answer: digit, DivMod. -/
namespace Go.Proofs.Ytdpkfipkjdlmlaa.G
open Go.Gv
set_option maxRecDepth 100000
set_option linter.unusedVariables false
/-! ### windows of blocks -/
/-! ### digit -/
end Go.Proofs.Ytdpkfipkjdlmlaa.G

/- What the digits' calls of the reference answer: DivMod. -/
namespace Go.Proofs.Ytdpkfipkjdlmlaa.G
open Go.Gv
set_option maxRecDepth 100000
set_option linter.unusedVariables false
end Go.Proofs.Ytdpkfipkjdlmlaa.G

/- What Told and DocForm answer. -/
namespace Go.Proofs.Ytdpkfipkjdlmlaa.G
open Go.Gv
set_option maxRecDepth 100000
set_option linter.unusedVariables false
end Go.Proofs.Ytdpkfipkjdlmlaa.G

/- What Add answers. -/
namespace Go.Proofs.Ytdpkfipkjdlmlaa.G
open Go.Gv
set_option maxRecDepth 100000
theorem add_intro {x y z : Int} {a b c : Nat} (hx : x = (a : Int)) (hy : y = (b : Int)) (hz : z = (c : Int)) (hc : c ≤ 1) {K : Int → Int → Prop}
    (g : K ((a + b + c) % 18446744073709551616 : Nat) ((a + b + c) / 18446744073709551616 : Nat)) : addK x y z K := by
  subst hx; subst hy; subst hz
  exact ⟨⟨by omega, by omega, by omega, by omega⟩, by simpa using g⟩
/-- a + b; errors as the code gives them. -/
def addS (xs ys : List Nat) : List Nat × Int := if Frm xs ∧ Frm ys then lim (val xs + val ys) else ([], 2)
theorem Add_end {R : Rt} {a : Option Addr} {c l z w : Nat} {zs : List Nat} {n : Nat} {h : Hp} {h0 : Hp} {q : Nat} {ca : Nat} (hl : l = n) (ho : Own h q zs) (hz : z = zs.length) (hw : w = zs.length) (hn : zs.length = n + 1) (hca : ca < 18446744073709551616) (hn2 : n ≤ 8192) (hq : h0.size ≤ q) (k : Keep h0 h)
    (g : ∀ v h', Keep h0 h' → Ans h0 h' v (lim (val (zs.take n ++ [ca]))) → R v h') : nat_Add.D4.t R a l c (some ⟨q, 0, none⟩) z w (ca : Int) h := by
  subst hl; subst hz; subst hw
  unfold nat_Add.D4.t
  refine put_intro ho (j := l) rfl rfl (by omega) rfl hca fun o => ?_
  have e : zs.set l ca = zs.take l ++ [ca] := by
    have := take_set_succ (s := zs) (j := l) (t := ca) (by omega)
    rw [← this, List.take_of_length_le (by rw [List.length_set]; omega)]
  rw [e] at o
  have k2 : Keep h0 (setH h ⟨q, l, none⟩ (wv ca)) := k.set hq
  have hlen : (zs.take l ++ [ca]).length = l + 1 := by simp; omega
  refine hc_intro (told_spec (o.got' (c := zs.length) hq (by omega)) (by omega)) fun v h' ⟨e1, an⟩ => ?_
  subst e1
  refine an.elimG fun a c r i => ?_
  exact g _ _ k2 (Ans.back r i)
theorem Add_walk {R : Rt} {a b : Option Addr} {c d l m z w : Nat} {xs ys : List Nat} {h0 : Hp} {q : Nat} (r : Rd h0 a c xs) (s : Rd h0 b d ys) (hl : l = xs.length) (hm : m = ys.length) (hq : h0.size ≤ q) (hx : xs.length ≤ 8192) (hz : z = xs.length + 1) (hw : w = xs.length + 1)
    (fs : List Nat) (g : ∀ v h', Keep h0 h' → Ans h0 h' v (lim (val fs)) → R v h') :
    ∀ (k n ca : Nat) (zs : List Nat) (h : Hp), n + k = xs.length → ca ≤ 1 → zs.length = xs.length + 1 → Own h q zs → Keep h0 h → zs.take n ++ addL (xs.drop n) (ys.drop n) ca = fs →
      nat_Add.L6.t R (k + 1) a l c b m d (some ⟨q, 0, none⟩) z w (ca : Int) (l : Int) (n : Int) h := by
  subst hl; subst hm
  intro k
  induction k with
  | zero =>
    intro n ca zs h hn hc hzs ho kp e
    unfold nat_Add.L6.t nat_Add.D7.t
    refine c_dec (fun hb => absurd hb (by omega)) fun _ => ?_
    have en : n = xs.length := by omega
    subst en
    rw [List.drop_length] at e
    refine Add_end (n := xs.length) rfl ho (by omega) (by omega) hzs (by omega) hx hq kp ?_
    rw [show zs.take xs.length ++ [ca] = fs from e]; exact g
  | succ k ih =>
    intro n ca zs h hn hc hzs ho kp e
    have hxn : xs.getD n 0 < 18446744073709551616 := r.word n
    have hyn : ys.getD n 0 < 18446744073709551616 := s.word n
    have step : zs.take n ++ addL (xs.drop n) (ys.drop n) ca = (zs.set n ((xs.getD n 0 + ys.getD n 0 + ca) % 18446744073709551616)).take (n + 1) ++ addL (xs.drop (n + 1)) (ys.drop (n + 1)) ((xs.getD n 0 + ys.getD n 0 + ca) / 18446744073709551616) := by
      rw [drop_getD (xs := xs) (j := n) (by omega), take_set_succ (by omega)]
      simp only [addL, headD_drop, List.tail_drop, List.append_assoc, List.cons_append, List.nil_append]
    rw [step] at e
    unfold nat_Add.L6.t nat_Add.D7.t
    refine c_dec (fun hb => ?_) fun hb => absurd (by omega) hb
    refine c_dec (fun hb => ?_) fun hb => ?_
    · refine at_intro (s.keep kp) (j := n) rfl rfl (by omega) ?_
      refine at_intro (r.keep kp) (j := n) rfl rfl (by omega) ?_
      refine add_intro rfl rfl rfl hc ?_
      refine put_intro ho (j := n) rfl (by omega) (by omega) rfl (by omega) fun o => ?_
      refine k_i64 ((n + 1 : Nat) : Int) (by omega) (by omega) (by omega) ?_
      exact ih (n + 1) _ _ _ (by omega) (by omega) (by rw [List.length_set]; omega) o (kp.set hq) e
    · refine at_intro (r.keep kp) (j := n) rfl rfl (by omega) ?_
      have hy0 : ys.getD n 0 = 0 := by simp [List.getD, show ys.length ≤ n by omega]
      rw [hy0] at e
      refine add_intro (b := 0) rfl rfl rfl hc ?_
      refine put_intro ho (j := n) rfl (by omega) (by omega) rfl (by omega) fun o => ?_
      refine k_i64 ((n + 1 : Nat) : Int) (by omega) (by omega) (by omega) ?_
      exact ih (n + 1) _ _ _ (by omega) (by omega) (by rw [List.length_set]; omega) o (kp.set hq) e
theorem Add_made {R : Rt} {a b : Option Addr} {c d l m : Nat} {xs ys : List Nat} {h : Hp} (r : Rd h a c xs) (s : Rd h b d ys) (hl : l = xs.length) (hm : m = ys.length) (hx : xs.length ≤ 8192) (hxy : ys.length ≤ xs.length)
    (g : ∀ v h', Keep h h' → Ans h h' v (lim (val xs + val ys)) → R v h') : nat_Add.D3.t R a l c b m d h := by
  subst hl; subst hm
  unfold nat_Add.D3.t
  refine k_i64 ((xs.length + 1 : Nat) : Int) (by omega) (by omega) (by omega) ?_
  refine mk_intro (xs.length + 1) rfl rfl rfl rfl (by omega) fun h1 o k => ?_
  refine ⟨xs.length + 1, ?_⟩
  refine Add_walk r s rfl rfl (Nat.le_refl _) hx rfl rfl (addL xs ys 0) ?_ xs.length 0 0 _ h1 (by omega) (by omega) (by simp) o k (by simp)
  rw [addL_val xs ys 0 hxy]; exact g
theorem Add_spec {a b : Option Addr} {c d l m : Nat} {xs ys : List Nat} {h : Hp} (r : Rd h a c xs) (s : Rd h b d ys) (hl : l = xs.length) (hm : m = ys.length) :
    HC nat_Add.id #[.slice a l c, .slice b m d] h fun v h' => Keep h h' ∧ Ans h h' v (addS xs ys) := by
  refine nat_Add.ok ?_
  unfold nat_Add.t nat_Add.D1.t
  refine hc_intro (Form_spec r hl) fun v h' ⟨e1, e2⟩ => ?_
  subst e1; subst e2
  refine gBool_intro rfl ?_
  refine c_not (fun hf => ⟨Keep.refl _, ?_⟩) fun hf => ?_
  · unfold addS; rw [if_neg (fun hh => of_decide_eq_false hf hh.1)]; exact Ans.none
  refine hc_intro (Form_spec s hm) fun v h' ⟨e1, e2⟩ => ?_
  subst e1; subst e2
  refine gBool_intro rfl ?_
  refine c_not (fun hf2 => ⟨Keep.refl _, ?_⟩) fun hf2 => ?_
  · unfold addS; rw [if_neg (fun hh => of_decide_eq_false hf2 hh.2)]; exact Ans.none
  have f1 := of_decide_eq_true hf
  have f2 := of_decide_eq_true hf2
  unfold addS; rw [if_pos ⟨f1, f2⟩]
  unfold nat_Add.D2.t
  refine c_dec (fun hb => ?_) fun hb => ?_
  · refine Add_made s r hm hl f2.1 (by omega) fun v h' k an => ⟨k, ?_⟩
    rw [Nat.add_comm]; exact an
  · exact Add_made r s hl hm f1.1 (by omega) fun v h' k an => ⟨k, an⟩
end Go.Proofs.Ytdpkfipkjdlmlaa.G

/- What Sub answers. -/
namespace Go.Proofs.Ytdpkfipkjdlmlaa.G
open Go.Gv
set_option maxRecDepth 100000
end Go.Proofs.Ytdpkfipkjdlmlaa.G

/- What MulWord and Word answer. -/
namespace Go.Proofs.Ytdpkfipkjdlmlaa.G
open Go.Gv
set_option maxRecDepth 100000
/-! ### a product with a word -/
def mulL (w : Nat) : List Nat → Nat → List Nat
  | [], c => [c]
  | x :: xs, c => (x * w + c) % 18446744073709551616 :: mulL w xs ((x * w + c) / 18446744073709551616)
theorem mulL_val (w : Nat) : ∀ (xs : List Nat) (c : Nat), val (mulL w xs c) = val xs * w + c
  | [], c => by simp [mulL, val]
  | x :: xs, c => by
    simp only [mulL, val, mulL_val w xs, Nat.add_mul, Nat.mul_assoc]
    generalize x * w = y; generalize val xs * w = z; omega
theorem MulWord_walk {R : Rt} {a : Option Addr} {c l w z y : Nat} {xs : List Nat} {h0 : Hp} {q : Nat} (r : Rd h0 a c xs) (hl : l = xs.length) (hq : h0.size ≤ q) (hx : xs.length ≤ 8192) (hw : w < 18446744073709551616) (hz : z = xs.length + 1) (hy : y = xs.length + 1)
    (fs : List Nat) (g : ∀ v h', Keep h0 h' → Ans h0 h' v (lim (val fs)) → R v h') :
    ∀ (j n ca : Nat) (zs : List Nat) (h : Hp), n + j = xs.length → zs.length = xs.length + 1 → ca < 18446744073709551616 → Own h q zs → Keep h0 h → zs.take n ++ mulL w (xs.drop n) ca = fs →
      nat_MulWord.L4.t R (j + 1) a l c (w : Int) (some ⟨q, 0, none⟩) z y (ca : Int) (l : Int) (n : Int) h := by
  subst hl
  intro j
  induction j with
  | zero =>
    intro n ca zs h hn hzs hc ho kp e
    unfold nat_MulWord.L4.t nat_MulWord.D5.t
    refine c_dec (fun hb => absurd hb (by omega)) fun _ => ?_
    have en : n = xs.length := by omega
    subst en
    rw [List.drop_length] at e
    unfold nat_MulWord.D2.t
    refine put_intro ho (j := xs.length) rfl (by omega) (by omega) rfl hc fun o => ?_
    have e2 : zs.set xs.length ca = fs := by
      rw [← e]; show _ = _ ++ [ca]
      rw [← take_set_succ (by omega), List.take_of_length_le (by rw [List.length_set]; omega)]
    rw [e2] at o
    have e3 : fs.length = xs.length + 1 := by rw [← e2, List.length_set]; exact hzs
    have k2 := kp.set (v := wv ca) (i := xs.length) hq
    refine hc_intro (told_spec (o.got' (c := y) hq (by omega)) (by omega)) fun v h' ⟨e1, an⟩ => ?_
    subst e1
    refine an.elimG fun a c r i => ?_
    exact g _ _ k2 (Ans.back r i)
  | succ j ih =>
    intro n ca zs h hn hzs hc ho kp e
    have hxn : xs.getD n 0 < 18446744073709551616 := r.word n
    rw [drop_getD (xs := xs) (j := n) (by omega)] at e
    simp only [mulL] at e
    have hp : xs.getD n 0 * w ≤ 340282366920938463426481119284349108225 := Nat.mul_le_mul (show xs.getD n 0 ≤ 18446744073709551615 by omega) (show w ≤ 18446744073709551615 by omega)
    unfold nat_MulWord.L4.t nat_MulWord.D5.t
    refine c_dec (fun hb => ?_) fun hb => absurd (by omega) hb
    refine at_intro (r.keep kp) (j := n) rfl rfl (by omega) ?_
    refine hc_intro (Mul64_spec hxn hw _) fun v h' ⟨e1, an⟩ => ?_
    subst e1
    refine an.elim ?_
    generalize xs.getD n 0 * w = p at *
    refine add_intro (c := 0) rfl rfl rfl (by omega) ?_
    have e4 : (p % 18446744073709551616 + ca + 0) % 18446744073709551616 = (p + ca) % 18446744073709551616 := by omega
    rw [e4]
    refine put_intro ho (j := n) rfl (by omega) (by omega) rfl (by omega) fun o => ?_
    refine k_u64 ((p + ca) / 18446744073709551616) (by omega) (by omega) ?_
    refine k_i64 ((n + 1 : Nat) : Int) (by omega) (by omega) (by omega) ?_
    refine ih (n + 1) _ _ _ (by omega) (by simp; omega) (by omega) o (kp.set hq) ?_
    rw [← e, take_set_succ (by omega)]; simp
def mulWS (xs : List Nat) (w : Nat) : List Nat × Int := if Frm xs then lim (val xs * w) else ([], 2)
theorem MulWord_spec {a : Option Addr} {c l w : Nat} {xs : List Nat} {h : Hp} (r : Rd h a c xs) (hl : l = xs.length) (hw : w < 18446744073709551616) :
    HC nat_MulWord.id #[.slice a l c, .int .u64 (w : Int)] h fun v h' => Keep h h' ∧ Ans h h' v (mulWS xs w) := by
  refine nat_MulWord.ok ?_
  unfold nat_MulWord.t nat_MulWord.D1.t
  refine hc_intro (Form_spec r hl) fun v h' ⟨e1, e2⟩ => ?_
  subst e1; subst e2; subst hl
  refine gBool_intro rfl ?_
  unfold mulWS
  refine c_not (fun hf => ⟨Keep.refl _, ?_⟩) fun hf => ?_
  · rw [if_neg (of_decide_eq_false hf)]; exact Ans.none
  have f := of_decide_eq_true hf
  rw [if_pos f]
  have hf1 := f.1
  refine k_i64 ((xs.length + 1 : Nat) : Int) (by omega) (by omega) (by omega) ?_
  refine mk_intro (xs.length + 1) rfl rfl rfl rfl (by omega) fun h1 o k => ?_
  unfold nat_MulWord.D3.t
  refine ⟨xs.length + 1, ?_⟩
  refine MulWord_walk r rfl (Nat.le_refl _) hf1 hw rfl rfl (mulL w xs 0) ?_ xs.length 0 0 _ h1 (by omega) (by simp) (by omega) o k (by simp)
  rw [mulL_val, Nat.add_zero]; exact fun v h' k an => ⟨k, an⟩
theorem Word_spec {w : Nat} (hw : w < 18446744073709551616) (h : Hp) : HC nat_Word.id #[.int .u64 (w : Int)] h fun v h' => Keep h h' ∧ AnsS h h' v (digs w) := by
  refine nat_Word.ok ?_
  unfold nat_Word.t nat_Word.D1.t
  refine c_eq (fun h0 => ⟨Keep.refl _, ?_⟩) fun h0 => ?_
  · have : w = 0 := by omega
    subst this; rw [digs_zero]; exact ⟨none, 0, rfl, GotE.nil _ _⟩
  · refine box_intro [w] (by rfl) (by simp) (by simpa using hw) fun h1 o k => ⟨k, ?_⟩
    have e : digs w = [w] := by
      rw [digs_pos (by omega), show w / 18446744073709551616 = 0 by omega, digs_zero, Nat.mod_eq_of_lt hw]
    rw [e]; exact ⟨_, _, rfl, o.got' (Nat.le_refl _) (by simp)⟩
end Go.Proofs.Ytdpkfipkjdlmlaa.G

/- What the document's calls of layer 1 answer: they are the program's answers. -/
namespace Go.Proofs.Ytdpkfipkjdlmlaa.G
open Go.Gv
set_option maxRecDepth 100000
set_option linter.unusedVariables false
section
variable {a b : Option Addr} {c d l m : Nat} {xs ys : List Nat} {h : Hp}
end
end Go.Proofs.Ytdpkfipkjdlmlaa.G

/- The lowest one bit, by the program and by the reference; single bits. -/
namespace Go.Proofs.Ytdpkfipkjdlmlaa.G
open Go.Gv
set_option maxRecDepth 100000
set_option linter.unusedVariables false
/-! ### how often 2 divides -/
/-! ### the table -/
def dbTab : List Nat := [0, 1, 56, 2, 57, 49, 28, 3, 61, 58, 42, 50, 38, 29, 17, 4, 62, 47, 59, 36, 45, 43, 51, 22, 53, 39, 33, 30, 24, 18, 12, 5, 63, 55, 48, 27, 60, 41, 37, 16, 46, 35, 44, 21, 52, 32, 23, 11, 54, 26, 40, 15, 34, 20, 31, 10, 25, 14, 19, 9, 13, 8, 7, 6]
def Tab (h : Hp) : Prop := ∀ i, i < 64 → cellH h ⟨0, i, none⟩ = some (.int .u8 ((dbTab.getD i 0 : Nat) : Int))
theorem Tab.keep {h h' : Hp} (t : Tab h) (k : Keep h h') : Tab h' := fun i hi => k.cell (t i hi)
/-! ### Bit -/
/-! ### Zeros -/
end Go.Proofs.Ytdpkfipkjdlmlaa.G

/- Contracts of layer 1 in the form that the lifted functions use. -/
namespace Go.Proofs.Ytdpkfipkjdlmlaa.G
open Go.Gv
set_option linter.unusedVariables false
section
variable {a b : Option Addr} {c d l m : Nat} {xs ys : List Nat} {h : Hp} {x : Int}
end
end Go.Proofs.Ytdpkfipkjdlmlaa.G

/- What the parts of a quotient answer: shifted, trial, takeMul, giveBack, long; QuoRem. -/
namespace Go.Proofs.Ytdpkfipkjdlmlaa.G
open Go.Gv
set_option maxRecDepth 100000
set_option linter.unusedVariables false
/-! ### windows of blocks of words -/
/-! ### takeMul -/
/-! ### giveBack -/
/-! ### trial -/
/-! ### one digit -/
/-! ### long -/
end Go.Proofs.Ytdpkfipkjdlmlaa.G

/- What shifted and QuoRem answer. -/
namespace Go.Proofs.Ytdpkfipkjdlmlaa.G
open Go.Gv
set_option maxRecDepth 100000
set_option linter.unusedVariables false
/-! ### QuoRem -/
abbrev AnsQ : An (List Nat × List Nat × Int) := s3 sW sW (sI .i64)
theorem AnsQ.none {h0 h : Hp} {x : Int} (i : In .i64 x := by decide) : AnsQ h0 h (.tuple #[.slice Option.none 0 0, .slice Option.none 0 0, .int .i64 x]) ([], [], x) := ⟨_, _, _, rfl, ⟨_, _, rfl, GotE.nil _ _⟩, ⟨_, _, rfl, GotE.nil _ _⟩, rfl, i⟩
theorem AnsQ.mk {h0 h : Hp} {a b : Option Addr} {c d l m : Nat} {xs ys : List Nat} {x : Int} (r : GotE eU64 h0 h a c xs) (s : GotE eU64 h0 h b d ys) (hl : l = xs.length) (hm : m = ys.length) (i : In .i64 x) : AnsQ h0 h (.tuple #[.slice a l c, .slice b m d, .int .i64 x]) (xs, ys, x) := by
  subst hl; subst hm
  exact ⟨_, _, _, rfl, ⟨_, _, rfl, r⟩, ⟨_, _, rfl, s⟩, rfl, i⟩
end Go.Proofs.Ytdpkfipkjdlmlaa.G

/- Square roots of naturals, and Newton's steps towards them: plain law. -/
namespace Go.Proofs.Ytdpkfipkjdlmlaa.G
open Go.Gv
end Go.Proofs.Ytdpkfipkjdlmlaa.G

/- What the parts of products answer: trim, cut, sum, addAt, takeAway, rows. -/
namespace Go.Proofs.Ytdpkfipkjdlmlaa.G
open Go.Gv
/-! ### adding in place -/
/-! ### taking away in place -/
end Go.Proofs.Ytdpkfipkjdlmlaa.G

/- What rows, cut and sum answer. -/
namespace Go.Proofs.Ytdpkfipkjdlmlaa.G
open Go.Gv
set_option maxRecDepth 100000
/-! ### parts and sums -/
/-- A list in new memory, whose block is the call's own. -/
def Fresh (h h' : Hp) (v : Value) (xs : List Nat) : Prop := ∃ q, h.size ≤ q ∧ v = .slice (some ⟨q, 0, none⟩) xs.length xs.length ∧ Mine h' q xs
theorem Fresh.elim {h h' : Hp} {v : Value} {xs : List Nat} {K : Option Addr → Nat → Nat → Prop} (f : Fresh h h' v xs) (g : ∀ q, h.size ≤ q → Mine h' q xs → K (some ⟨q, 0, none⟩) xs.length xs.length) : gSlice v K := by
  obtain ⟨q, hq, e, o⟩ := f
  subst e; exact g q hq o
end Go.Proofs.Ytdpkfipkjdlmlaa.G

/- What fill, slabs, thirds, product and Mul answer. -/
namespace Go.Proofs.Ytdpkfipkjdlmlaa.G
open Go.Gv
set_option maxRecDepth 100000
/-! ### the great recursion -/
end Go.Proofs.Ytdpkfipkjdlmlaa.G

/- The law NatmulRing of the translation answers true. -/
namespace Go.Proofs.Ytdpkfipkjdlmlaa.G
open Go.Gv
set_option maxRecDepth 100000
end Go.Proofs.Ytdpkfipkjdlmlaa.G

/- What next, power and Pow answer. -/
namespace Go.Proofs.Ytdpkfipkjdlmlaa.G
open Go.Gv
set_option maxRecDepth 100000
/-- A list that fills the beginning of a block of so many cells. -/
def Room (h : Hp) (q room : Nat) (xs : List Nat) : Prop := ∃ rest, Own h q (xs ++ rest) ∧ (xs ++ rest).length = room
theorem Room.nil {h : Hp} {p room : Nat} {xs : List Nat} (o : Room h p room xs) : Room h p room [] := by
  obtain ⟨r, o, e⟩ := o; exact ⟨xs ++ r, o, e⟩
theorem Room.le {h : Hp} {p room : Nat} {xs : List Nat} (o : Room h p room xs) : xs.length ≤ room := by
  obtain ⟨r, o, e⟩ := o; rw [List.length_append] at e; omega
theorem Room.take {h : Hp} {p room : Nat} {xs : List Nat} (o : Room h p room xs) (n : Nat) : Room h p room (xs.take n) := by
  obtain ⟨r, o, e⟩ := o; exact ⟨xs.drop n ++ r, by rw [← List.append_assoc, List.take_append_drop]; exact o, by rw [← List.append_assoc, List.take_append_drop]; exact e⟩
/-! ### the rounds: V is what is reached, from n's top bit down -/
structure PowSt (h0 h : Hp) (p q room : Nat) (V : Nat) : Prop where
  kp : Keep h0 h
  hp : h0.size ≤ p
  hq : h0.size ≤ q
  ne : p ≠ q
  z : Room h p room (digs V)
  s : Room h q room []
end Go.Proofs.Ytdpkfipkjdlmlaa.G

/- Answers of layers 1 and 2 on numbers whose limbs are few. -/
namespace Go.Proofs.Ytdpkfipkjdlmlaa.G
open Go.Gv
set_option linter.unusedVariables false
set_option maxRecDepth 100000
/-! ### answers on numbers -/
section
variable {X Y j k n w : Nat}
theorem frm_d (h : (digs X).length ≤ 8192) : Frm (digs X) := ⟨h, trimL_digs X⟩
theorem lim_d (h : (digs X).length ≤ 8192) : lim X = (digs X, 0) := by unfold lim; rw [if_pos h]
theorem addS_d (hx : (digs X).length ≤ 8192) (hy : (digs Y).length ≤ 8192) (hs : (digs (X + Y)).length ≤ 8192) : addS (digs X) (digs Y) = (digs (X + Y), 0) := by
  unfold addS; rw [if_pos ⟨frm_d hx, frm_d hy⟩, val_digs, val_digs, lim_d hs]
theorem mulWS_d (hx : (digs X).length ≤ 8192) (hs : (digs (X * w)).length ≤ 8192) : mulWS (digs X) w = (digs (X * w), 0) := by
  unfold mulWS; rw [if_pos (frm_d hx), val_digs, lim_d hs]
end
end Go.Proofs.Ytdpkfipkjdlmlaa.G

/- What root and Root answer, and the reference's Root, DocQuoRem, DocRoot. -/
namespace Go.Proofs.Ytdpkfipkjdlmlaa.G
open Go.Gv
set_option maxRecDepth 100000
set_option linter.unusedVariables false
theorem AnsQ.elim {h0 h : Hp} {v : Value} {p : List Nat × List Nat × Int} {K : Option Addr → Nat → Nat → Option Addr → Nat → Nat → Int → Prop} (a : AnsQ h0 h v p) (g : ∀ a c b d, GotE eU64 h0 h a c p.1 → GotE eU64 h0 h b d p.2.1 → K a p.1.length c b p.2.1.length d p.2.2) :
    gTup v fun y => uncons y fun v1 y1 => gSlice v1 fun a l c => uncons y1 fun v2 y2 => gSlice v2 fun b m d => uncons y2 fun v3 y3 => gInt .i64 v3 fun x => unnil y3 (K a l c b m d x) := by
  obtain ⟨x, y, z, e, ⟨a, c, e1, r⟩, ⟨b, d, e2, s⟩, e3, _⟩ := a
  subst e; subst e1; subst e2; subst e3; exact g a c b d r s
/-! ### the reference -/
abbrev sDD : An (Nat × Nat) := s2 sD sD
theorem sDD.elim {h0 h : Hp} {v : Value} {p : Nat × Nat} {K : Option Addr → Nat → Nat → Option Addr → Nat → Nat → Prop} (a : s2 sD sD h0 h v p) (g : ∀ a c b d, GotE eU32 h0 h a c (D.digs p.1) → GotE eU32 h0 h b d (D.digs p.2) → K a (D.digs p.1).length c b (D.digs p.2).length d) :
    gTup v fun y => uncons y fun v1 y1 => gSlice v1 fun a l c => uncons y1 fun v2 y2 => gSlice v2 fun b m d => unnil y2 (K a l c b m d) := by
  obtain ⟨x, y, e, ⟨a, c, e1, r⟩, ⟨b, d, e2, s⟩⟩ := a
  subst e; subst e1; subst e2; exact g a c b d r s
end Go.Proofs.Ytdpkfipkjdlmlaa.G

/- The laws NatdivDivides, NatdivSquares, NatdivUndoes of the translation answer true. -/
namespace Go.Proofs.Ytdpkfipkjdlmlaa.G
open Go.Gv
set_option maxRecDepth 100000
set_option linter.unusedVariables false
end Go.Proofs.Ytdpkfipkjdlmlaa.G

/- Read of decimal digits, the program's and the document's. -/
namespace Go.Proofs.Ytdpkfipkjdlmlaa.G
open Go.Gv
set_option maxRecDepth 100000
set_option linter.unusedVariables false
def readS (s : ByteArray) : List Nat × Int := if 4900 < s.size then ([], 7) else if s.size = 0 then ([], 8) else if (byt s).all isD = true then (digs (num (byt s)), 0) else ([], 8)
theorem readS_no {s : ByteArray} {i : Nat} (h1 : s.size ≤ 4900) (hi : i < s.size) (h : ¬ (48 ≤ (byt s).getD i 0 ∧ (byt s).getD i 0 ≤ 57)) : readS s = ([], 8) := by
  unfold readS
  rw [if_neg (by omega), if_neg (by omega), if_neg]
  intro ha
  have hl : i < (byt s).length := by rw [byt_len]; exact hi
  have := List.all_eq_true.mp ha ((byt s).getD i 0) (by
    have e : (byt s).getD i 0 = (byt s)[i] := by simp [List.getD, hl]
    rw [e]; exact List.getElem_mem hl)
  simp only [isD, decide_eq_true_eq] at this
  exact h this
theorem readS_yes {s : ByteArray} (h1 : s.size ≤ 4900) (h0 : s.size ≠ 0) (h : ∀ b ∈ byt s, isD b = true) : readS s = (digs (num (byt s)), 0) := by
  unfold readS
  rw [if_neg (by omega), if_neg h0, if_pos (List.all_eq_true.mpr h)]
theorem take_all {s : ByteArray} : (byt s).take s.size = byt s := by rw [← byt_len]; exact List.take_length
theorem digit_snoc {s : ByteArray} {i : Nat} (hi : i < s.size) (hd : ∀ b ∈ (byt s).take i, isD b = true) (h : 48 ≤ (byt s).getD i 0 ∧ (byt s).getD i 0 ≤ 57) : ∀ b ∈ (byt s).take (i + 1), isD b = true := by
  intro b hb
  rw [take_byt (by rw [byt_len]; exact hi)] at hb
  rcases List.mem_append.mp hb with h1 | h1
  · exact hd b h1
  · rw [List.mem_singleton.mp h1]; exact decide_eq_true h
theorem num_bound {s : ByteArray} (h1 : s.size ≤ 4900) {i : Nat} (hi : i ≤ s.size) (hd : ∀ b ∈ (byt s).take i, isD b = true) : num ((byt s).take i) < 10 ^ i := by
  have := num_lt hd i (by rw [List.length_take, byt_len]; omega)
  rwa [List.take_take, Nat.min_self] at this
/-! ### the document's -/
theorem Number_walk {R : Rt} {s : ByteArray} {h0 : Hp} (hs : s.size ≤ 4900) (hd : ∀ b ∈ byt s, isD b = true) (post : ∀ v h', Keep h0 h' → sD h0 h' v (num (byt s)) → R v h') :
    ∀ (k i : Nat) (a : Option Addr) (c : Nat) (h : Hp), i + k = s.size → GotE eU32 h0 h a c (D.digs (num ((byt s).take i))) → Keep h0 h →
      gnomonref03_Number.L4.t R (k + 1) s a (D.digs (num ((byt s).take i))).length c (i : Int) h := by
  intro k
  induction k with
  | zero =>
    intro i a c h hi g kp
    unfold gnomonref03_Number.L4.t gnomonref03_Number.D5.t
    refine c_dec (fun hb => absurd hb (by omega)) fun _ => ?_
    unfold gnomonref03_Number.D2.t
    have e : i = s.size := by omega
    subst e
    rw [take_all] at g ⊢
    exact post _ _ kp ⟨a, c, rfl, g⟩
  | succ k ih =>
    intro i a c h hi g kp
    have hl : i < (byt s).length := by rw [byt_len]; omega
    have hx := hd ((byt s).getD i 0) (by
      have e : (byt s).getD i 0 = (byt s)[i] := by simp [List.getD, hl]
      rw [e]; exact List.getElem_mem hl)
    simp only [isD, decide_eq_true_eq] at hx
    have hb := num_bound hs (i := i) (by omega) (fun b hb => hd b (List.mem_of_mem_take hb))
    unfold gnomonref03_Number.L4.t gnomonref03_Number.D5.t
    refine c_dec (fun _ => ?_) fun hb => absurd (by omega) hb
    refine idxS_at rfl (by omega) ?_
    refine letK_out ?_
    refine letK_out ?_
    have e1 : IntKind.u8.wrap (((byt s).getD i 0 : Nat) - 48 : Int) = (((byt s).getD i 0 - 48 : Nat) : Int) := by
      simp only [IntKind.wrap, IntKind.bits, IntKind.signed, Bool.false_and, Bool.false_eq_true, if_false]
      omega
    rw [e1]
    have e2 : IntKind.u32.wrap (((byt s).getD i 0 - 48 : Nat) : Int) = (((byt s).getD i 0 - 48 : Nat) : Int) := by
      simp only [IntKind.wrap, IntKind.bits, IntKind.signed, Bool.false_and, Bool.false_eq_true, if_false]
      omega
    rw [e2]
    have hlen : (D.digs (num ((byt s).take i))).length ≤ 1099511627776 := ddigs_10 hb (by omega)
    refine hc_intro (rMulSmall_spec (w := 10) (z := (byt s).getD i 0 - 48) g.rd rfl rfl rfl (by decide) (by omega) (by omega)) fun v h2 ⟨k2, s2⟩ => ?_
    rw [D.val_digs, ← num_take hl] at s2
    refine s2.elim fun a2 c2 g2 => ?_
    refine k_i64 ((i + 1 : Nat) : Int) (by omega) (by omega) (by omega) ?_
    exact ih (i + 1) a2 c2 h2 (by omega) (g2.from kp.le) (kp.trans k2)
theorem Number_spec {s : ByteArray} {h : Hp} (hs : s.size ≤ 4900) (hd : ∀ b ∈ byt s, isD b = true) : HC gnomonref03_Number.id #[.string s] h fun v h' => Keep h h' ∧ sD h h' v (num (byt s)) := by
  refine gnomonref03_Number.ok ?_
  unfold gnomonref03_Number.t gnomonref03_Number.D1.t
  refine hc_intro (rWord_spec (x := 0) (w := 0) rfl (by decide) h) fun v h1 ⟨k1, s1⟩ => ?_
  refine s1.elim fun a1 c1 g1 => ?_
  unfold gnomonref03_Number.D3.t
  refine ⟨s.size + 1, ?_⟩
  exact Number_walk hs hd (fun v h' k s => ⟨k, s⟩) s.size 0 a1 c1 h1 (by omega) g1 k1
theorem DocRead_walk {R : Rt} {s : ByteArray} {h : Hp} (hs : s.size ≤ 4900) (h0 : s.size ≠ 0) (post : ∀ v h', Keep h h' → Ans h h' v (readS s) → R v h') :
    ∀ (k i : Nat), i + k = s.size → (∀ b ∈ (byt s).take i, isD b = true) → gnomonref03_DocRead.L4.t R (k + 1) s (i : Int) h := by
  intro k
  induction k with
  | zero =>
    intro i hi hd
    unfold gnomonref03_DocRead.L4.t gnomonref03_DocRead.D5.t
    refine c_dec (fun hb => absurd hb (by omega)) fun _ => ?_
    unfold gnomonref03_DocRead.D2.t
    have e : i = s.size := by omega
    subst e
    rw [take_all] at hd
    refine hc_intro (Number_spec hs hd) fun v h1 ⟨k1, s1⟩ => ?_
    refine s1.elim fun a1 c1 g1 => ?_
    refine hc_intro (To_spec g1.rd rfl) fun v h2 ⟨k2, s2⟩ => ?_
    refine AnsS.elimG s2 fun a2 c2 g2 => ?_
    refine post _ _ (k1.trans k2) ?_
    have e := readS_yes hs h0 hd
    exact Ans.mk (by rw [e]) (by rw [e]) (by rw [e]; exact g2.from k1.le) (by rw [e]; exact (by decide : In .i64 0))
  | succ k ih =>
    intro i hi hd
    have no : ¬ (48 ≤ (byt s).getD i 0 ∧ (byt s).getD i 0 ≤ 57) → R (.tuple #[.slice none 0 0, .int .i64 8]) h := fun hx => by
      refine post _ _ (Keep.refl _) ?_
      rw [readS_no hs (by omega) hx]; exact Ans.none
    unfold gnomonref03_DocRead.L4.t gnomonref03_DocRead.D5.t
    refine c_dec (fun _ => ?_) fun hb => absurd (by omega) hb
    refine idxS_at rfl (by omega) ?_
    refine c_dec (fun hb => no (by omega)) fun h1 => ?_
    refine idxS_at rfl (by omega) ?_
    refine c_dec (fun hb => no (by omega)) fun h2 => ?_
    refine k_i64 ((i + 1 : Nat) : Int) (by omega) (by omega) (by omega) ?_
    exact ih (i + 1) (by omega) (digit_snoc (by omega) hd (by omega))
theorem readS_long {s : ByteArray} (h : 4900 < s.size) : readS s = ([], 7) := if_pos h
theorem readS_nil {s : ByteArray} (h : s.size = 0) : readS s = ([], 8) := by unfold readS; rw [if_neg (by omega), if_pos h]
theorem DocRead_spec (s : ByteArray) (h : Hp) : HC gnomonref03_DocRead.id #[.string s] h fun v h' => Keep h h' ∧ Ans h h' v (readS s) := by
  refine gnomonref03_DocRead.ok ?_
  unfold gnomonref03_DocRead.t gnomonref03_DocRead.D1.t
  refine c_dec (fun hb => ?_) fun hb => ?_
  · exact ⟨Keep.refl _, by rw [readS_long (by omega)]; exact Ans.none⟩
  refine c_str (fun e => ?_) fun e => ?_
  · exact ⟨Keep.refl _, by rw [readS_nil (by rw [e]; rfl)]; exact Ans.none⟩
  have h0 : s.size ≠ 0 := fun hh => e (ByteArray.ext (Array.eq_empty_of_size_eq_zero hh))
  unfold gnomonref03_DocRead.D3.t
  refine ⟨s.size + 1, ?_⟩
  exact DocRead_walk (by omega) h0 (fun v h' k a => ⟨k, a⟩) s.size 0 (by omega) (by simp)
/-! ### the program's -/
theorem wrap_i32 {x : Int} (h1 : -2147483648 ≤ x) (h2 : x < 2147483648) : IntKind.i32.wrap x = x := by
  have e1 : (2 : Int) ^ 32 = 4294967296 := by decide
  have e2 : (2 : Int) ^ (32 - 1) = 2147483648 := by decide
  simp only [IntKind.wrap, IntKind.bits, IntKind.signed, Bool.true_and, e1, e2]
  by_cases hx : x % 4294967296 ≥ 2147483648
  · rw [if_pos (by simpa using hx)]; omega
  · rw [if_neg (by simpa using hx)]; omega
theorem pow19 {j : Nat} (h : j ≤ 19) : 10 ^ j ≤ 10000000000000000000 := Nat.le_trans (Nat.pow_le_pow_right (by decide) h) (show 10 ^ 19 ≤ 10000000000000000000 by decide)
theorem Read_flush {K : Option Addr → Nat → Nat → Hp → Prop} {h0 h : Hp} {a : Option Addr} {c A w p T : Nat} (g : GotE eU64 h0 h a c (digs A)) (kp : Keep h0 h) (hp0 : 0 < p) (hp : p < 18446744073709551616) (hw : w < 18446744073709551616) (eT : A * p + w = T) (hT : (digs T).length ≤ 8192)
    (post : ∀ a' c' h', GotE eU64 h0 h' a' c' (digs T) → Keep h h' → K a' (digs T).length c' h') :
    HC nat_MulWord.id #[.slice a (digs A).length c, .int .u64 (p : Int)] h fun v10 h11 =>
      gTup v10 fun y12 => uncons y12 fun v13 y13 => gSlice v13 fun a_14 l_14 c_14 => uncons y13 fun v15 y15 => gInt .i64 v15 fun x_16 => unnil y15 <|
        HC nat_Word.id #[.int .u64 (w : Int)] h11 fun v17 h18 => gSlice v17 fun a_19 l_19 c_19 =>
          HC nat_Add.id #[.slice a_14 l_14 c_14, .slice a_19 l_19 c_19] h18 fun v20 h21 =>
            gTup v20 fun y22 => uncons y22 fun v23 y23 => gSlice v23 fun a_24 l_24 c_24 => uncons y23 fun v25 y25 => gInt .i64 v25 fun x_26 => unnil y25 <| K a_24 l_24 c_24 h21 := by
  subst eT
  have hA : (digs A).length ≤ 8192 := Nat.le_trans (digs_len_mono (by
    calc A = A * 1 := (Nat.mul_one _).symm
      _ ≤ A * p := Nat.mul_le_mul_left _ hp0
      _ ≤ A * p + w := Nat.le_add_right _ _)) hT
  have hAp : (digs (A * p)).length ≤ 8192 := Nat.le_trans (digs_len_mono (Nat.le_add_right _ _)) hT
  have hww : (digs w).length ≤ 8192 := Nat.le_trans (digs_len_mono (Nat.le_add_left _ _)) hT
  refine hc_intro (MulWord_spec g.rd64 rfl hp) fun v h1 ⟨k1, an⟩ => ?_
  rw [mulWS_d hA hAp] at an
  refine an.elimG fun a1 c1 g1 _ => ?_
  refine hc_intro (Word_spec hw h1) fun v h2 ⟨k2, an⟩ => ?_
  refine an.elimG fun a2 c2 g2 => ?_
  refine hc_intro (Add_spec (g1.keep k2).rd64 g2.rd64 rfl rfl) fun v h3 ⟨k3, an⟩ => ?_
  rw [addS_d hAp hww hT] at an
  refine an.elimG fun a3 c3 g3 _ => ?_
  exact post a3 c3 h3 (g3.from (Nat.le_trans kp.le (Nat.le_trans k1.le k2.le))) (k1.trans (k2.trans k3))
theorem Read_walk {R : Rt} {s : ByteArray} {h0 : Hp} {b : Nat} (hb : h0.size ≤ b) (hs : s.size ≤ 4900) (hs0 : s.size ≠ 0) (post : ∀ v h', Keep h0 h' → Ans h0 h' v (readS s) → R v h') :
    ∀ (k i j p A w : Nat) (a : Option Addr) (c : Nat) (h : Hp), i + k = s.size → j < 19 → (k = 0 → j = 0) → p = 10 ^ j → (∀ b ∈ (byt s).take i, isD b = true) → A * p + w = num ((byt s).take i) → w < p → h[b]? = some (.stringIter s i) →
      GotE eU64 h0 h a c (digs A) → Keep h0 h → natdiv_Read.L4.t R (k + 1) s a (digs A).length c (w : Int) (p : Int) ⟨b, 0, none⟩ h := by
  intro k
  induction k with
  | zero =>
    intro i j p A w a c h hi hj hj0 hp hd e hw it g kp
    unfold natdiv_Read.L4.t natdiv_Read.D5.t
    refine nx_intro it (fun _ => ?_) (fun h' h1 => absurd h1 (by omega)) (fun h' c h1 => absurd h1 (by omega))
    have e0 : i = s.size := by omega
    subst e0
    have ej := hj0 rfl
    subst ej
    subst hp
    rw [take_all] at hd e
    have ew : w = 0 := by rw [Nat.pow_zero] at hw; omega
    subst ew
    rw [Nat.pow_zero, Nat.mul_one, Nat.add_zero] at e
    subst e
    unfold natdiv_Read.D2.t
    have e := readS_yes hs hs0 hd
    exact post _ _ kp (Ans.mk (by rw [e]) (by rw [e]) (by rw [e]; exact g) (by rw [e]; exact (by decide : In .i64 0)))
  | succ k ih =>
    intro i j p A w a c h hi hj hj0 hp hd e hw it g kp
    have no : ∀ h', ¬ (48 ≤ (byt s).getD i 0 ∧ (byt s).getD i 0 ≤ 57) → KeepI b h h' → R (.tuple #[.slice none 0 0, .int .i64 8]) h' := fun h' hx k' => by
      refine post _ _ (k'.keep kp hb) ?_
      rw [readS_no hs (by omega) hx]; exact Ans.none
    have hp19 := pow19 (j := j) (by omega)
    have hp18 : 10 ^ (j + 1) ≤ 10000000000000000000 := pow19 (by omega)
    rw [Nat.pow_succ] at hp18
    rw [← hp] at hp19 hp18
    unfold natdiv_Read.L4.t natdiv_Read.D5.t
    refine nx_intro it (fun h1 => absurd h1 (by omega)) (fun h' h1 hx it' k' => ?_) (fun h' r h1 hx hr k' => ?_)
    · refine c_dec (fun hb => no h' (by omega) k') fun h2 => ?_
      refine c_dec (fun hb => no h' (by omega) k') fun h3 => ?_
      have hd' := digit_snoc (i := i) (by omega) hd (by omega)
      have hT := num_bound hs (i := i + 1) (by omega) hd'
      have hn := num_take (bs := byt s) (i := i) (by rw [byt_len]; omega)
      generalize hx' : (byt s).getD i 0 = x at *
      refine k_u64 (w * 10) (by omega) (by omega) ?_
      refine letK_out ?_
      have e1 : IntKind.i32.wrap ((x : Int) - 48) = ((x - 48 : Nat) : Int) := by rw [wrap_i32 (by omega) (by omega)]; omega
      rw [e1]
      refine k_u64 (x - 48) rfl (by omega) ?_
      refine k_u64 (w * 10 + (x - 48)) (by omega) (by omega) ?_
      refine k_u64 (p * 10) (by omega) (by omega) ?_
      have eT : A * (p * 10) + (w * 10 + (x - 48)) = num ((byt s).take (i + 1)) := by
        rw [hn, ← e, Nat.add_mul, Nat.mul_assoc]; omega
      have hTl : (digs (num ((byt s).take (i + 1)))).length ≤ 8192 := digs_10 hT (by omega)
      have flush : HC nat_MulWord.id #[.slice a (digs A).length c, .int .u64 ((p * 10 : Nat) : Int)] h' fun v10 h11 =>
          gTup v10 fun y12 => uncons y12 fun v13 y13 => gSlice v13 fun a_14 l_14 c_14 => uncons y13 fun v15 y15 => gInt .i64 v15 fun x_16 => unnil y15 <|
            HC nat_Word.id #[.int .u64 ((w * 10 + (x - 48) : Nat) : Int)] h11 fun v17 h18 => gSlice v17 fun a_19 l_19 c_19 =>
              HC nat_Add.id #[.slice a_14 l_14 c_14, .slice a_19 l_19 c_19] h18 fun v20 h21 =>
                gTup v20 fun y22 => uncons y22 fun v23 y23 => gSlice v23 fun a_24 l_24 c_24 => uncons y23 fun v25 y25 => gInt .i64 v25 fun x_26 => unnil y25 <| natdiv_Read.L4.t R (k + 1) s a_24 l_24 c_24 0 1 ⟨b, 0, none⟩ h21 := by
        refine Read_flush (g.keepI k') (k'.keep kp hb) (by omega) (by omega) (by omega) eT hTl fun a2 c2 h2 g2 k2 => ?_
        refine ih (i + 1) 0 1 (num ((byt s).take (i + 1))) 0 a2 c2 h2 (by omega) (by decide) (fun _ => rfl) rfl hd' (by rw [Nat.mul_one, Nat.add_zero]) (by decide) ?_ g2 ((k'.keep kp hb).trans k2)
        rw [k2.pre b (by
          rcases Nat.lt_or_ge b h'.size with h4 | h4
          · exact h4
          · rw [Array.getElem?_eq_none h4] at it'; cases it')]
        exact it'
      refine c_eq (fun h4 => flush) fun h4 => ?_
      refine k_i64 ((s.size : Int) - 1) rfl (by omega) (by omega) ?_
      refine c_eq (fun h5 => flush) fun h5 => ?_
      have hj1 : j + 1 < 19 := by
        refine Nat.lt_of_le_of_ne (by omega) fun hh => h4 ?_
        rw [hp, ← Nat.pow_succ, show j.succ = 19 by omega]; decide
      exact ih (i + 1) (j + 1) (p * 10) A (w * 10 + (x - 48)) a c h' (by omega) hj1 (fun hk => absurd hk (by omega)) (by rw [hp, Nat.pow_succ]) hd' eT (by omega) it' (g.keepI k') (k'.keep kp hb)
    · refine c_dec (fun hb => absurd hb (by omega)) fun _ => ?_
      exact c_dec (fun _ => no h' (by omega) k') fun hb => absurd (by omega) hb
theorem Read_spec (s : ByteArray) (h : Hp) : HC natdiv_Read.id #[.string s] h fun v h' => Keep h h' ∧ Ans h h' v (readS s) := by
  refine natdiv_Read.ok ?_
  unfold natdiv_Read.t natdiv_Read.D1.t
  refine c_dec (fun hb => ?_) fun hb => ?_
  · exact ⟨Keep.refl _, by rw [readS_long (by omega)]; exact Ans.none⟩
  refine c_str (fun e => ?_) fun e => ?_
  · exact ⟨Keep.refl _, by rw [readS_nil (by rw [e]; rfl)]; exact Ans.none⟩
  have h0 : s.size ≠ 0 := fun hh => e (ByteArray.ext (Array.eq_empty_of_size_eq_zero hh))
  unfold natdiv_Read.D3.t
  refine rg_intro fun h1 it k1 => ?_
  refine ⟨s.size + 1, ?_⟩
  have := Read_walk (R := fun v h' => Keep h h' ∧ Ans h h' v (readS s)) (Nat.le_refl h.size) (by omega) h0 (fun v h' k a => ⟨k, a⟩) s.size 0 0 1 0 0 none 0 h1 (by omega) (by decide) (fun _ => rfl) rfl (by simp) (by simp [num]) (by decide) it (by rw [digs_zero]; exact GotE.nil _ _) k1
  rw [digs_zero] at this
  exact this
theorem digs_two : digs 18446744073709551617 = [1, 1] := digs_val (xs := [1, 1]) (by intro x hx; simp at hx; omega)
theorem hread_spec (s : ByteArray) (h : Hp) : HC gnomonlaw03_read.id #[.string s] h fun v h' => Keep h h' ∧ v = .bool true := by
  refine gnomonlaw03_read.ok ?_
  unfold gnomonlaw03_read.t gnomonlaw03_read.D1.t
  refine hc_intro (Read_spec s h) fun v h1 ⟨k1, an⟩ => ?_
  refine an.elimG fun a1 c1 g1 _ => ?_
  refine hc_intro (DocRead_spec s h1) fun v h2 ⟨k2, an⟩ => ?_
  refine an.elimG fun a2 c2 g2 _ => ?_
  refine c_eq (fun _ => ?_) fun hh => absurd rfl hh
  refine Same_intro (g1.keep k2).rd64 g2.rd64 rfl rfl ?_
  rw [decide_eq_true rfl]
  exact ⟨k1.trans k2, rfl⟩
theorem readS_ten : readS ⟨#[48, 48, 49, 56, 52, 52, 54, 55, 52, 52, 48, 55, 51, 55, 48, 57, 53, 53, 49, 54, 49, 55]⟩ = ([1, 1], 0) := by
  rw [readS_yes (by decide) (by decide) (by decide)]
  rw [show num (byt ⟨#[48, 48, 49, 56, 52, 52, 54, 55, 52, 52, 48, 55, 51, 55, 48, 57, 53, 53, 49, 54, 49, 55]⟩) = 18446744073709551617 by rfl, digs_two]
theorem NatdivReads_law {h : Hp} {s : ByteArray} (_ : s.size ≤ 140737488351232) : HC gnomonlaw03_NatdivReads.id #[.string s] h fun v h' => Keep h h' ∧ v = .bool true := by
  refine gnomonlaw03_NatdivReads.ok ?_
  unfold gnomonlaw03_NatdivReads.t gnomonlaw03_NatdivReads.D1.t
  refine hc_intro (Read_spec _ h) fun v h1 ⟨k1, an⟩ => ?_
  rw [readS_ten] at an
  refine an.elimG fun a1 c1 g1 _ => ?_
  refine c_eq (fun _ => ?_) fun hh => absurd rfl hh
  refine box_intro [1, 1] (by rfl) (by decide) (by decide) fun h2 o2 k2 => ?_
  refine Same_intro (g1.keep k2).rd64 (o2.rd (by decide)) rfl rfl ?_
  rw [decide_eq_true rfl]
  simp only [cond_true]
  refine hc_intro (hread_spec s h2) fun v h3 ⟨k3, e⟩ => ?_
  subst e
  exact gBool_intro rfl ⟨k1.trans (k2.trans k3), rfl⟩
end Go.Proofs.Ytdpkfipkjdlmlaa.G
