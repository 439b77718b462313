/- Texts of this work, joined: NatSpec, NatBits, NatOps, NatMul64, NatDiv64, NatDivWord, NatShift, NatCmp, Ref01a, Ref01b, Ref01c, Ref01d, Ref01e, Ref01t, NatAdd, NatSub, NatMulWord, Ref01f, Ref01g, NatHv, DivQ, DivQ2, RootN, MulSpec, MulSpec2, MulSpec3, MulRing, MulPow, NatD, DivRoot, DivLaws, StrRead, StrApart, StrApart2, BldW, StrBld, StrText, StrDig, StrBack, StrMem. -/
import Derived.Test.YtdpkfipkjdlmlaaProg
import Derived.Shelf.Strings.Builder1
import Derived.Test.YtdpkfipkjdlmlaaKF
import Derived.Test.YtdpkfipkjdlmlaaKB
/- What the functions of nat answer, by values of lists. -/
namespace Go.Proofs.Ytdpkfipkjdlmlaa.G
open Go.Gv
theorem trim_loop {R : Rt} {a : Option Addr} {c l : Nat} {xs : List Nat} {h : Hp} (r : Rd h a c xs) (hl : l = xs.length) (g : R (.slice a (trimL xs).length c) h) :
    ∀ n : Nat, n ≤ xs.length → trimL (xs.take n) = trimL xs → nat_trim.L3.t R (n + 1) a l c (n : Int) h := by
  have h1 := r.len
  intro n
  have fin : ∀ n : Nat, n ≤ xs.length → trimL xs = xs.take n → nat_trim.D2.t R a l c (n : Int) h := by
    intro n hn e
    refine sl_to rfl (Nat.le_trans hn r.cap) ?_
    have e2 : (trimL xs).length = n := by rw [e, List.length_take]; omega
    rw [← e2]; exact g
  induction n with
  | zero =>
    intro hn hz
    unfold nat_trim.L3.t nat_trim.D4.t
    refine c_dec (fun h => absurd h (by omega)) fun _ => fin 0 hn ?_
    rw [← hz]; rfl
  | succ n ih =>
    intro hn hz
    refine c_dec (fun _ => ?_) fun h => absurd (by omega) h
    refine k_i64 (n : Int) (by omega) (by omega) (by omega) ?_
    refine at_intro r (j := n) rfl hl (by omega) ?_
    have es := take_snoc (xs := xs) (n := n) (by omega)
    refine c_eq (fun he => ?_) fun he => ?_
    · refine k_i64 (n : Int) (by omega) (by omega) (by omega) ?_
      refine ih (by omega) ?_
      rw [← hz, es, show xs.getD n 0 = 0 by omega, trimL_zero]
    · refine fin (n + 1) hn ?_
      rw [← hz, es, trimL_last _ (by omega)]
theorem trim_spec {a : Option Addr} {c l : Nat} {xs : List Nat} {h : Hp} (r : Rd h a c xs) (hl : l = xs.length) :
    HC nat_trim.id #[.slice a l c] h fun v h' => h' = h ∧ v = .slice a (trimL xs).length c ∧ Rd h a c (trimL xs) := by
  have hr : Rd h a c (trimL xs) := by
    have : ∀ n : Nat, n ≤ xs.length → trimL (xs.take n) = trimL xs → ∃ m, trimL xs = xs.take m := by
      intro n
      induction n with
      | zero => intro _ e; exact ⟨0, by rw [← e]; rfl⟩
      | succ n ih =>
        intro hn e
        have es := take_snoc (xs := xs) (n := n) (by omega)
        by_cases h0 : xs.getD n 0 = 0
        · refine ih (by omega) ?_; rw [← e, es, h0, trimL_zero]
        · refine ⟨n + 1, ?_⟩; rw [← e, es, trimL_last _ h0]
    obtain ⟨m, e⟩ := this xs.length (Nat.le_refl _) (by rw [List.take_length])
    rw [e]; exact r.take m
  refine nat_trim.ok ?_
  unfold nat_trim.t nat_trim.D1.t
  refine ⟨xs.length + 1, ?_⟩
  subst hl
  exact trim_loop r rfl ⟨rfl, rfl, hr⟩ xs.length (Nat.le_refl _) (by rw [List.take_length])
theorem told_spec {a : Option Addr} {c l : Nat} {xs : List Nat} {h0 h : Hp} (g : GotE eU64 h0 h a c xs) (hl : l = xs.length) :
    HC nat_told.id #[.slice a l c] h fun v h' => h' = h ∧ Ans h0 h v (lim (val xs)) := by
  have r := g.rd64
  refine nat_told.ok ?_
  unfold nat_told.t nat_told.D1.t
  refine hc_intro (trim_spec r hl) fun v h' ⟨e1, e2, r'⟩ => ?_
  subst e1; subst e2
  have e := digs_val r.words
  refine c_dec (fun hb => ?_) fun hb => ?_
  · refine ⟨rfl, ?_⟩
    unfold lim; rw [e, if_neg (by omega)]; exact Ans.none
  · refine ⟨rfl, ?_⟩
    unfold lim; rw [e, if_pos (by omega)]; exact Ans.mk rfl rfl g.trim (show In .i64 0 by decide)
theorem Form_spec {a : Option Addr} {c l : Nat} {xs : List Nat} {h : Hp} (r : Rd h a c xs) (hl : l = xs.length) :
    HC nat_Form.id #[.slice a l c] h fun v h' => h' = h ∧ v = .bool (decide (Frm xs)) := by
  subst hl
  have h1 := r.len
  refine nat_Form.ok ?_
  unfold nat_Form.t nat_Form.D1.t
  refine c_dec (fun hb => ?_) fun hb => ?_
  · refine c_eq (fun h0 => ?_) fun h0 => ?_
    · refine ⟨rfl, ?_⟩
      have e : xs = [] := List.length_eq_zero_iff.mp (by omega)
      subst e; rfl
    · refine k_i64 ((xs.length - 1 : Nat) : Int) (by omega) (by omega) (by omega) ?_
      refine at_intro r (j := xs.length - 1) rfl rfl (by omega) ⟨rfl, ?_⟩
      have hiff := @trimL_iff xs
      by_cases hz : xs.getD (xs.length - 1) 0 = 0
      · rw [hz]
        have : ¬ Frm xs := fun f => by
          rcases hiff.mp f.2 with e | e
          · subst e; simp at h0
          · exact e hz
        simp [this]
      · have : Frm xs := ⟨by omega, hiff.mpr (Or.inr hz)⟩
        simp only [this, decide_true]
        congr 1
        exact bne_iff_ne.mpr (by omega)
  · refine ⟨rfl, ?_⟩
    have : ¬ Frm xs := fun f => by have := f.1; omega
    simp [this]
theorem Same_loop {R : Rt} {a b : Option Addr} {c d l m : Nat} {xs ys : List Nat} {h : Hp} (r : Rd h a c xs) (s : Rd h b d ys) (hl : l = xs.length) (hm : m = ys.length) (he : xs.length = ys.length) (g : R (.bool (decide (xs = ys))) h) :
    ∀ k n : Nat, n + k = xs.length → xs.take n = ys.take n → gnomonref01_Same.L4.t R (k + 1) a l c b m d (n : Int) h := by
  subst hl; subst hm
  have h1 := r.len
  intro k
  induction k with
  | zero =>
    intro n hn ht
    refine c_dec (fun hb => absurd hb (by omega)) fun _ => ?_
    have e : xs = ys := by
      rw [← List.take_length (l := xs), ← List.take_length (l := ys), ← he, show xs.length = n by omega]; exact ht
    show R (.bool true) h
    simpa [e] using g
  | succ k ih =>
    intro n hn ht
    refine c_dec (fun hb => ?_) fun hb => absurd (by omega) hb
    refine at_intro r (j := n) rfl rfl (by omega) ?_
    refine at_intro s (j := n) rfl rfl (by omega) ?_
    refine c_ne (fun hne => ?_) fun heq => ?_
    · have e : xs ≠ ys := fun e => hne (by rw [e])
      simpa [e] using g
    · refine k_i64 ((n + 1 : Nat) : Int) (by omega) (by omega) (by omega) ?_
      refine ih (n + 1) (by omega) ?_
      rw [take_snoc (by omega), take_snoc (by omega), ht, show xs.getD n 0 = ys.getD n 0 by omega]
theorem Same_spec {a b : Option Addr} {c d l m : Nat} {xs ys : List Nat} {h : Hp} (r : Rd h a c xs) (s : Rd h b d ys) (hl : l = xs.length) (hm : m = ys.length) :
    HQC gnomonref01_Same.id #[.slice a l c, .slice b m d] h fun v => v = .bool (decide (xs = ys)) := by
  refine ⟨.bool (decide (xs = ys)), ?_, rfl⟩
  refine gnomonref01_Same.ok ?_
  unfold gnomonref01_Same.t gnomonref01_Same.D1.t
  refine c_ne (fun hne => ?_) fun he => ?_
  · have e : xs ≠ ys := fun e => hne (by rw [hl, hm, e])
    simp [e]
  · refine ⟨l + 1, ?_⟩
    refine Same_loop r s hl hm (by omega) ⟨rfl, rfl⟩ l 0 (by omega) ?_
    simp
theorem Same_intro {a b : Option Addr} {c d l m : Nat} {xs ys : List Nat} {h : Hp} (r : Rd h a c xs) (s : Rd h b d ys) (hl : l = xs.length) (hm : m = ys.length) {K : Bool → Prop} (g : K (decide (xs = ys))) :
    HQC gnomonref01_Same.id #[.slice a l c, .slice b m d] h fun v => gBool v K := by
  obtain ⟨v, hc, e⟩ := Same_spec r s hl hm
  subst e
  exact ⟨_, hc, g⟩
end Go.Proofs.Ytdpkfipkjdlmlaa.G

/- What Len64 and Bits answer. -/
namespace Go.Proofs.Ytdpkfipkjdlmlaa.G
open Go.Gv
set_option maxRecDepth 100000
/-! ### bits -/
theorem shr_k {x : Int} {y : Int} {n : Nat} (hx : x = (n : Int)) (s p : Nat) (hs : s ≤ 64) (hp : p = 2 ^ s) (hy : y = (s : Int)) {K : Int → Prop} (g : K ((n / p : Nat) : Int)) : letK (shrI .u64 x y) K := by
  subst hx; subst hy; subst hp
  refine ⟨?_⟩
  show K (Int.fdiv (n : Int) (2 ^ (min (s : Int).toNat 64)))
  have e : min (s : Int).toNat 64 = s := by omega
  rw [e]
  have e2 : Int.fdiv (n : Int) (2 ^ s) = ((n / 2 ^ s : Nat) : Int) := by
    rw [Int.fdiv_eq_ediv_of_nonneg _ (Int.le_of_lt (Int.pow_pos (by decide)))]
    norm_cast
  rw [e2]; exact g
theorem letK_intro {x y : Int} (e : x = y) {K : Int → Prop} (g : K y) : letK x K := by subst e; exact ⟨g⟩
theorem idxS_intro {s : ByteArray} {x : Int} {n : Nat} {b : UInt8} (hx : x = (n : Int)) (e : s[n]? = some b) {K : Int → Prop} (g : K (b.toNat : Int)) : idxS s x K := by
  subst hx
  refine ⟨by omega, ?_⟩
  rw [Int.toNat_natCast, e]; exact g
theorem tab_ok : (List.range 256).all (fun x => decide ((⟨#[0, 1, 2, 2, 3, 3, 3, 3, 4, 4, 4, 4, 4, 4, 4, 4, 5, 5, 5, 5, 5, 5, 5, 5, 5, 5, 5, 5, 5, 5, 5, 5, 6, 6, 6, 6, 6, 6, 6, 6, 6, 6, 6, 6, 6, 6, 6, 6, 6, 6, 6, 6, 6, 6, 6, 6, 6, 6, 6, 6, 6, 6, 6, 6, 7, 7, 7, 7, 7, 7, 7, 7, 7, 7, 7, 7, 7, 7, 7, 7, 7, 7, 7, 7, 7, 7, 7, 7, 7, 7, 7, 7, 7, 7, 7, 7, 7, 7, 7, 7, 7, 7, 7, 7, 7, 7, 7, 7, 7, 7, 7, 7, 7, 7, 7, 7, 7, 7, 7, 7, 7, 7, 7, 7, 7, 7, 7, 7, 8, 8, 8, 8, 8, 8, 8, 8, 8, 8, 8, 8, 8, 8, 8, 8, 8, 8, 8, 8, 8, 8, 8, 8, 8, 8, 8, 8, 8, 8, 8, 8, 8, 8, 8, 8, 8, 8, 8, 8, 8, 8, 8, 8, 8, 8, 8, 8, 8, 8, 8, 8, 8, 8, 8, 8, 8, 8, 8, 8, 8, 8, 8, 8, 8, 8, 8, 8, 8, 8, 8, 8, 8, 8, 8, 8, 8, 8, 8, 8, 8, 8, 8, 8, 8, 8, 8, 8, 8, 8, 8, 8, 8, 8, 8, 8, 8, 8, 8, 8, 8, 8, 8, 8, 8, 8, 8, 8, 8, 8, 8, 8, 8, 8, 8, 8, 8, 8, 8, 8, 8, 8, 8, 8, 8, 8, 8, 8]⟩ : ByteArray)[x]? = some (UInt8.ofNat (blen x)))) = true := by decide +kernel
theorem Len64_end {R : Rt} {n s : Nat} {x y : Int} (hx : x = (n : Int)) (hy : y = (s : Int)) (hn : n < 256) (hs : s ≤ 64) {h : Hp} (g : R (.int .i64 ((s + blen n : Nat) : Int)) h) : bits_Len64.D4.t R x y h := by
  subst hx; subst hy
  unfold bits_Len64.D4.t
  have hb : blen n ≤ 8 := blen_le.mpr (by omega)
  have ht := List.all_eq_true.mp tab_ok n (by simpa using hn)
  have ht := of_decide_eq_true ht
  have ew : IntKind.u8.wrap (n : Int) = (n : Int) := by
    simp only [IntKind.wrap, IntKind.bits, IntKind.signed, Bool.false_and, Bool.false_eq_true, if_false]; omega
  refine letK_intro ew ?_
  refine idxS_intro rfl ht ?_
  have e2 : ((UInt8.ofNat (blen n)).toNat : Int) = (blen n : Int) := by
    rw [UInt8.toNat_ofNat']; omega
  refine k_i64 (blen n : Int) e2 (by omega) (by omega) ?_
  refine k_i64 ((s + blen n : Nat) : Int) (by omega) (by omega) (by omega) ?_
  exact g
theorem Len64_spec {x : Int} {n : Nat} (hx : x = (n : Int)) (hn : n < 18446744073709551616) (h : Hp) :
    HC bits_Len64.id #[.int .u64 x] h fun v h' => h' = h ∧ v = .int .i64 (blen n : Int) := by
  subst hx
  refine bits_Len64.ok ?_
  unfold bits_Len64.t bits_Len64.D1.t
  have low : ∀ (m s : Nat) (x y : Int), x = (m : Int) → y = (s : Int) → m < 65536 → s ≤ 48 → s + blen m = blen n → bits_Len64.D3.t (fun v h' => h' = h ∧ v = .int .i64 (blen n : Int)) x y h := by
    intro m s x y hx hy hm hs e
    subst hx; subst hy
    unfold bits_Len64.D3.t
    refine c_dec (fun hb => ⟨by omega, ?_⟩) fun hb => ?_
    · refine shr_k rfl 8 256 (by omega) (by omega) rfl ?_
      refine k_i64 ((s + 8 : Nat) : Int) (by omega) (by omega) (by omega) ?_
      have := blen_div m 8
      have hp : 8 < blen m := Nat.lt_of_not_le fun hh => by have := blen_le.mp hh; omega
      refine Len64_end rfl rfl (by omega) (by omega) ⟨rfl, ?_⟩
      rw [← e, show (256 : Nat) = 2 ^ 8 by decide, this]
      congr 2; omega
    · refine Len64_end rfl rfl (by omega) (by omega) ⟨rfl, by rw [e]⟩
  have mid : ∀ (m s : Nat) (x y : Int), x = (m : Int) → y = (s : Int) → m < 4294967296 → s ≤ 32 → s + blen m = blen n → bits_Len64.D2.t (fun v h' => h' = h ∧ v = .int .i64 (blen n : Int)) x y h := by
    intro m s x y hx hy hm hs e
    subst hx; subst hy
    unfold bits_Len64.D2.t
    refine c_dec (fun hb => ⟨by omega, ?_⟩) fun hb => ?_
    · refine shr_k rfl 16 65536 (by omega) (by omega) rfl ?_
      refine k_i64 ((s + 16 : Nat) : Int) (by omega) (by omega) (by omega) ?_
      have := blen_div m 16
      have hp : 16 < blen m := Nat.lt_of_not_le fun hh => by have := blen_le.mp hh; omega
      refine low _ _ _ _ rfl rfl (by omega) (by omega) ?_
      rw [← e, show (65536 : Nat) = 2 ^ 16 by decide, this]; omega
    · exact low _ _ _ _ rfl rfl (by omega) (by omega) e
  refine c_dec (fun hb => ⟨by omega, ?_⟩) fun hb => ?_
  · refine shr_k rfl 32 4294967296 (by omega) (by omega) rfl ?_
    have := blen_div n 32
    have hp : 32 < blen n := Nat.lt_of_not_le fun hh => by have := blen_le.mp hh; omega
    refine mid _ 32 _ _ rfl rfl (by omega) (by omega) ?_
    rw [show (4294967296 : Nat) = 2 ^ 32 by decide, this]; omega
  · exact mid _ 0 _ _ rfl rfl (by omega) (by omega) (by omega)
theorem Bits_spec {a : Option Addr} {c l : Nat} {xs : List Nat} {h : Hp} (r : Rd h a c xs) (hl : l = xs.length) :
    HC nat_Bits.id #[.slice a l c] h fun v h' => h' = h ∧ v = .int .i64 (blen (val xs) : Int) := by
  refine nat_Bits.ok ?_
  unfold nat_Bits.t nat_Bits.D1.t
  refine hc_intro (trim_spec r hl) fun v h' ⟨e1, e2, r'⟩ => ?_
  subst e1; subst e2
  refine gSlice_intro rfl ?_
  rw [← val_trimL xs]
  have h1 := r'.len
  refine c_eq (fun h0 => ⟨rfl, ?_⟩) fun h0 => ?_
  · have e : trimL xs = [] := List.length_eq_zero_iff.mp (by omega)
    rw [e]; rfl
  · obtain ⟨n, hn⟩ : ∃ n, (trimL xs).length = n + 1 := ⟨(trimL xs).length - 1, by omega⟩
    rw [hn]
    refine k_i64 (n : Int) (by omega) (by omega) (by omega) ?_
    refine k_i64 ((64 * n : Nat) : Int) (by omega) (by omega) (by omega) ?_
    refine k_i64 (n : Int) (by omega) (by omega) (by omega) ?_
    refine at_intro r' (j := n) rfl hn.symm (by omega) ?_
    have hlast : (trimL xs).getD n 0 ≠ 0 := by
      rcases trimL_iff.mp (trimL_trimL xs) with e | e
      · rw [e] at hn; simp at hn
      · rwa [hn] at e
    have hb := blen_trim r'.words hn hlast
    have hle : blen ((trimL xs).getD n 0) ≤ 64 := blen_le.mpr (r'.word n)
    refine hc_intro (Len64_spec rfl (r'.word n) _) fun v h' ⟨e1, e2⟩ => ?_
    subst e1; subst e2
    refine gInt_intro rfl ?_
    refine k_i64 (blen (val (trimL xs)) : Int) (by omega) (by omega) (by omega) ⟨rfl, rfl⟩
end Go.Proofs.Ytdpkfipkjdlmlaa.G

/- Steps with bits of words. -/
namespace Go.Proofs.Ytdpkfipkjdlmlaa.G
open Go.Gv
set_option maxRecDepth 100000
/-! ### words and their bits -/
theorem shl_k {x y : Int} {n : Nat} (hx : x = (n : Int)) (s p : Nat) (hs : s ≤ 64) (hp : p = 2 ^ s) (hy : y = (s : Int)) {K : Int → Prop} (g : K ((n * p % 18446744073709551616 : Nat) : Int)) : 0 ≤ y ∧ letK (shlI .u64 x y) K := by
  subst hx; subst hy; subst hp
  refine ⟨by omega, ⟨?_⟩⟩
  show K (IntKind.u64.wrap ((n : Int) * 2 ^ (min (s : Int).toNat 64)))
  have e : min (s : Int).toNat 64 = s := by omega
  rw [e, wrap_u64]
  have e2 : ((n : Int) * 2 ^ s) % 18446744073709551616 = ((n * 2 ^ s % 18446744073709551616 : Nat) : Int) := by
    have e3 : (2 : Int) ^ s = ((2 ^ s : Nat) : Int) := by rw [Int.natCast_pow]; rfl
    rw [e3, ← Int.natCast_mul]; omega
  rw [e2]; exact g
theorem shr_k' {x y : Int} {n : Nat} (hx : x = (n : Int)) (s p : Nat) (hs : s ≤ 64) (hp : p = 2 ^ s) (hy : y = (s : Int)) {K : Int → Prop} (g : K ((n / p : Nat) : Int)) : 0 ≤ y ∧ letK (shrI .u64 x y) K :=
  ⟨by omega, shr_k hx s p hs hp hy g⟩
theorem bv_nat (a : Nat) : BitVec.ofInt 64 (a : Int) = BitVec.ofNat 64 a := BitVec.ofInt_natCast 64 a
theorem or_k {x y : Int} {a b : Nat} (hx : x = (a : Int)) (hy : y = (b : Int)) (ha : a < 18446744073709551616) (hb : b < 18446744073709551616) {K : Int → Prop} (g : K ((a ||| b : Nat) : Int)) : letK (orI .u64 x y) K := by
  subst hx; subst hy
  refine ⟨?_⟩
  show K (IntKind.u64.wrap (BitVec.ofInt 64 (a : Int) ||| BitVec.ofInt 64 (b : Int)).toNat)
  have e : (BitVec.ofInt 64 (a : Int) ||| BitVec.ofInt 64 (b : Int)).toNat = a ||| b := by
    rw [bv_nat, bv_nat, BitVec.toNat_or, BitVec.toNat_ofNat, BitVec.toNat_ofNat, Nat.mod_eq_of_lt (by omega), Nat.mod_eq_of_lt (by omega)]
  have hlt : a ||| b < 18446744073709551616 := Nat.or_lt_two_pow (n := 64) ha hb
  rw [e, wrap_u64' (by omega) (by omega)]; exact g
theorem and_k {x y : Int} {a b : Nat} (hx : x = (a : Int)) (hy : y = (b : Int)) (ha : a < 18446744073709551616) (hb : b < 18446744073709551616) {K : Int → Prop} (g : K ((a &&& b : Nat) : Int)) : letK (andI .u64 x y) K := by
  subst hx; subst hy
  refine ⟨?_⟩
  show K (IntKind.u64.wrap (BitVec.ofInt 64 (a : Int) &&& BitVec.ofInt 64 (b : Int)).toNat)
  have e : (BitVec.ofInt 64 (a : Int) &&& BitVec.ofInt 64 (b : Int)).toNat = a &&& b := by
    rw [bv_nat, bv_nat, BitVec.toNat_and, BitVec.toNat_ofNat, BitVec.toNat_ofNat, Nat.mod_eq_of_lt (by omega), Nat.mod_eq_of_lt (by omega)]
  have hlt : a &&& b ≤ a := Nat.and_le_left
  rw [e, wrap_u64' (by omega) (by omega)]; exact g
theorem k_u64 {x : Int} (y : Nat) (e : x = (y : Int)) (h : y < 18446744073709551616) {K : Int → Prop} (g : K (y : Int)) : letK (IntKind.u64.wrap x) K := by
  subst e; refine ⟨?_⟩; show K _; rw [wrap_u64' (by omega) (by omega)]; exact g
theorem tdiv_nat (n m : Nat) : Int.tdiv (n : Int) (m : Int) = ((n / m : Nat) : Int) := by
  rw [Int.tdiv_eq_ediv_of_nonneg (by omega)]; norm_cast
theorem tmod_nat (n m : Nat) : Int.tmod (n : Int) (m : Int) = ((n % m : Nat) : Int) := by
  rw [Int.tmod_eq_emod_of_nonneg (by omega)]; norm_cast
theorem mul_lt32 {a b : Nat} (ha : a < 4294967296) (hb : b < 4294967296) : a * b ≤ 18446744065119617025 := Nat.mul_le_mul (show a ≤ 4294967295 by omega) (show b ≤ 4294967295 by omega)
theorem and32 {x : Int} {n : Nat} (hx : x = (n : Int)) (hn : n < 18446744073709551616) {K : Int → Prop} (g : K ((n % 4294967296 : Nat) : Int)) : letK (andI .u64 x 4294967295) K := by
  refine and_k (b := 4294967295) hx rfl hn (by decide) ?_
  have : n &&& 4294967295 = n % 4294967296 := Nat.and_two_pow_sub_one_eq_mod n 32
  rw [this]; exact g
end Go.Proofs.Ytdpkfipkjdlmlaa.G

/- What Mul64 answers. -/
namespace Go.Proofs.Ytdpkfipkjdlmlaa.G
open Go.Gv
set_option maxRecDepth 100000
/-- A call that answers two words. -/
def Ans2 (v : Value) (a b : Nat) : Prop := v = .tuple #[.int .u64 (a : Int), .int .u64 (b : Int)]
theorem Ans2.elim {v : Value} {a b : Nat} {K : Int → Int → Prop} (e : Ans2 v a b) (g : K (a : Int) (b : Int)) :
    gTup v fun y => uncons y fun v1 y1 => gInt .u64 v1 fun x => uncons y1 fun v2 y2 => gInt .u64 v2 fun z => unnil y2 (K x z) := by
  subst e; exact g
theorem mul64_hi {x y x0 x1 y0 y1 a b c d : Nat} (hx : x = x0 + 4294967296 * x1) (hy : y = y0 + 4294967296 * y1) (ha : a = x0 * y0) (hb : b = x1 * y0) (hc : c = x0 * y1) (hd : d = x1 * y1) : x * y = a + 4294967296 * (b + c) + 18446744073709551616 * d := by
  subst hx; subst hy; subst ha; subst hb; subst hc; subst hd
  rw [Nat.add_mul, Nat.mul_add, Nat.mul_add]
  have e1 : x0 * (4294967296 * y1) = 4294967296 * (x0 * y1) := Nat.mul_left_comm _ _ _
  have e2 : 4294967296 * x1 * y0 = 4294967296 * (x1 * y0) := Nat.mul_assoc _ _ _
  have e3 : 4294967296 * x1 * (4294967296 * y1) = 18446744073709551616 * (x1 * y1) := by
    rw [Nat.mul_assoc, Nat.mul_left_comm x1, ← Nat.mul_assoc]
  rw [e1, e2, e3]; omega
theorem Mul64_spec {x y : Nat} (hx : x < 18446744073709551616) (hy : y < 18446744073709551616) (h : Hp) :
    HC bits_Mul64.id #[.int .u64 (x : Int), .int .u64 (y : Int)] h fun v h' => h' = h ∧ Ans2 v (x * y / 18446744073709551616) (x * y % 18446744073709551616) := by
  refine bits_Mul64.ok ?_
  unfold bits_Mul64.t bits_Mul64.D1.t
  have ha := mul_lt32 (a := x % 4294967296) (b := y % 4294967296) (by omega) (by omega)
  have hb := mul_lt32 (a := x / 4294967296) (b := y % 4294967296) (by omega) (by omega)
  have hc := mul_lt32 (a := x % 4294967296) (b := y / 4294967296) (by omega) (by omega)
  have hd := mul_lt32 (a := x / 4294967296) (b := y / 4294967296) (by omega) (by omega)
  have e := mul64_hi (x := x) (y := y) (x0 := x % 4294967296) (x1 := x / 4294967296) (y0 := y % 4294967296) (y1 := y / 4294967296) (by omega) (by omega) rfl rfl rfl rfl
  refine and32 rfl hx ?_
  refine shr_k' rfl 32 4294967296 (by omega) (by decide) (by omega) ?_
  refine and32 rfl hy ?_
  refine shr_k' rfl 32 4294967296 (by omega) (by decide) (by omega) ?_
  refine k_u64 (x % 4294967296 * (y % 4294967296)) (by norm_cast) (by omega) ?_
  refine k_u64 (x / 4294967296 * (y % 4294967296)) (by norm_cast) (by omega) ?_
  have h1 : ((x % 4294967296 : Nat) : Int) * ((y / 4294967296 : Nat) : Int) = ((x % 4294967296 * (y / 4294967296) : Nat) : Int) := by norm_cast
  have h2 : ((x / 4294967296 : Nat) : Int) * ((y / 4294967296 : Nat) : Int) = ((x / 4294967296 * (y / 4294967296) : Nat) : Int) := by norm_cast
  have h3 : (x : Int) * (y : Int) = ((x * y : Nat) : Int) := by norm_cast
  rw [h1, h2, h3]
  generalize x % 4294967296 * (y % 4294967296) = a at *
  generalize x / 4294967296 * (y % 4294967296) = b at *
  generalize x % 4294967296 * (y / 4294967296) = c at *
  generalize x / 4294967296 * (y / 4294967296) = d at *
  generalize x * y = p at *
  refine shr_k' rfl 32 4294967296 (by omega) (by decide) (by omega) ?_
  refine k_u64 (b + a / 4294967296) (by omega) (by omega) ?_
  refine and32 rfl (by omega) ?_
  refine shr_k' rfl 32 4294967296 (by omega) (by decide) (by omega) ?_
  refine k_u64 c rfl (by omega) ?_
  refine k_u64 ((b + a / 4294967296) % 4294967296 + c) (by omega) (by omega) ?_
  refine k_u64 d rfl (by omega) ?_
  refine k_u64 (d + (b + a / 4294967296) / 4294967296) (by omega) (by omega) ?_
  refine shr_k' rfl 32 4294967296 (by omega) (by decide) (by omega) ?_
  refine k_u64 (p / 18446744073709551616) (by omega) (by omega) ?_
  refine letK_intro (y := ((p % 18446744073709551616 : Nat) : Int)) (by rw [wrap_u64]; omega) ?_
  exact ⟨rfl, rfl⟩
end Go.Proofs.Ytdpkfipkjdlmlaa.G

/- What Div64 answers. -/
namespace Go.Proofs.Ytdpkfipkjdlmlaa.G
open Go.Gv
set_option maxRecDepth 100000
/-! ### division of two words by one -/
theorem Lead_spec {x : Nat} (hx : x < 18446744073709551616) (h : Hp) : HC bits_LeadingZeros64.id #[.int .u64 (x : Int)] h fun v h' => h' = h ∧ v = .int .i64 ((64 - blen x : Nat) : Int) := by
  refine bits_LeadingZeros64.ok ?_
  unfold bits_LeadingZeros64.t bits_LeadingZeros64.D1.t
  refine hc_intro (Len64_spec rfl hx _) fun v h' ⟨e1, e2⟩ => ?_
  subst e1; subst e2
  refine gInt_intro rfl ?_
  have : blen x ≤ 64 := blen_le.mpr hx
  exact k_i64 ((64 - blen x : Nat) : Int) (by omega) (by omega) (by omega) ⟨rfl, rfl⟩
/-- The guess q of a half digit, with its rest r, for u (two halves and one more) by y = (yn1, yn0). -/
structure Guess (u32 u1 yn1 yn0 q r : Nat) : Prop where
  rest : q * yn1 + r = u32
  up : u32 * 4294967296 + u1 < (q + 1) * (yn1 * 4294967296 + yn0)
theorem Guess.big {u32 u1 yn1 yn0 q r : Nat} (g : Guess u32 u1 yn1 yn0 q r) (hy : u32 < yn1 * 4294967296 + yn0) (hu : u1 < 4294967296) (hb : 4294967296 ≤ q ∨ q * yn0 > 4294967296 * r + u1) : 1 ≤ q ∧ Guess u32 u1 yn1 yn0 (q - 1) (r + yn1) := by
  have hq : 1 ≤ q := by
    rcases hb with h | h
    · omega
    · exact Nat.pos_of_ne_zero fun e => by subst e; simp at h
  obtain ⟨p, rfl⟩ : ∃ p, q = p + 1 := ⟨q - 1, by omega⟩
  refine ⟨hq, ?_, ?_⟩
  · have := g.rest
    rw [Nat.add_mul, Nat.one_mul] at this
    rw [Nat.add_sub_cancel]; omega
  · rw [Nat.add_sub_cancel]
    rcases hb with h | h
    · have h1 : 4294967296 * (yn1 * 4294967296 + yn0) ≤ (p + 1) * (yn1 * 4294967296 + yn0) := Nat.mul_le_mul_right _ h
      generalize (p + 1) * (yn1 * 4294967296 + yn0) = z at *; omega
    · have h1 := g.rest
      rw [Nat.mul_add, ← Nat.mul_assoc]
      generalize (p + 1) * yn1 = a at *
      generalize (p + 1) * yn0 = b at *
      omega
theorem Guess.fits {u32 u1 yn1 yn0 q r : Nat} (g : Guess u32 u1 yn1 yn0 q r) (hb : q * yn0 ≤ 4294967296 * r + u1) : q = (u32 * 4294967296 + u1) / (yn1 * 4294967296 + yn0) := by
  have h1 := g.rest
  have h2 : q * (yn1 * 4294967296 + yn0) ≤ u32 * 4294967296 + u1 := by
    rw [Nat.mul_add, ← Nat.mul_assoc]
    generalize q * yn1 = a at *; generalize q * yn0 = b at *; omega
  have h3 := g.up
  have hpos : 0 < yn1 * 4294967296 + yn0 := Nat.pos_of_ne_zero fun e => by rw [e] at h3; simp at h3
  refine (Nat.div_eq_of_lt_le ?_ ?_).symm
  · exact h2
  · exact h3
/-- One half digit's loop, the second of the two. -/
theorem Div_loop2 {R : Rt} {Y s yn1 yn0 u1 Q u32 : Nat} {h : Hp} (hy : u32 < yn1 * 4294967296 + yn0) (hu : u1 < 4294967296) (hy1 : yn1 < 4294967296) (hy0 : yn0 < 4294967296)
    (hD : bits_Div64.D5.t R (Y : Int) (s : Int) (u1 : Int) (Q : Int) (u32 : Int) (((u32 * 4294967296 + u1) / (yn1 * 4294967296 + yn0) : Nat) : Int) h) :
    ∀ (k q r : Nat), Guess u32 u1 yn1 yn0 q r → q ≤ 4294967297 → r < 4294967296 → 4294967296 ≤ r + (k + 1) * yn1 →
      bits_Div64.L6.t R (k + 1) (Y : Int) (s : Int) (yn1 : Int) (yn0 : Int) (u1 : Int) (Q : Int) (r : Int) (u32 : Int) (q : Int) h := by
  intro k
  induction k with
  | zero =>
    intro q r g hq hr hk
    have step : (4294967296 ≤ q ∨ q * yn0 > 4294967296 * r + u1) → bits_Div64.D8.t R (bits_Div64.L6.t R 0) (Y : Int) (s : Int) (yn1 : Int) (yn0 : Int) (u1 : Int) (Q : Int) (r : Int) (u32 : Int) (q : Int) h := by
      intro hb
      obtain ⟨h1, g'⟩ := g.big hy hu hb
      unfold bits_Div64.D8.t
      refine k_u64 (q - 1) (by omega) (by omega) ?_
      refine k_u64 (r + yn1) (by omega) (by omega) ?_
      refine c_dec (fun _ => ?_) fun hh => absurd (by omega) hh
      have hp : (q - 1) * yn0 ≤ 4294967296 * 4294967295 := Nat.mul_le_mul (by omega) (by omega)
      rw [← g'.fits (by omega)] at hD; exact hD
    unfold bits_Div64.L6.t bits_Div64.D7.t
    refine c_dec (fun hb => step (Or.inl (by omega))) fun hb => ?_
    have hp : q * yn0 ≤ 4294967295 * 4294967295 := Nat.mul_le_mul (by omega) (by omega)
    refine k_u64 (q * yn0) (by norm_cast) (by omega) ?_
    refine k_u64 (4294967296 * r) (by omega) (by omega) ?_
    refine k_u64 (4294967296 * r + u1) (by omega) (by omega) ?_
    refine c_dec (fun hb => step (Or.inr (by omega))) fun hb => ?_
    rw [← g.fits (by omega)] at hD; exact hD
  | succ k ih =>
    intro q r g hq hr hk
    have step : (4294967296 ≤ q ∨ q * yn0 > 4294967296 * r + u1) → bits_Div64.D8.t R (bits_Div64.L6.t R (k + 1)) (Y : Int) (s : Int) (yn1 : Int) (yn0 : Int) (u1 : Int) (Q : Int) (r : Int) (u32 : Int) (q : Int) h := by
      intro hb
      obtain ⟨h1, g'⟩ := g.big hy hu hb
      unfold bits_Div64.D8.t
      refine k_u64 (q - 1) (by omega) (by omega) ?_
      refine k_u64 (r + yn1) (by omega) (by omega) ?_
      refine c_dec (fun _ => ?_) fun hh => ?_
      · have hp : (q - 1) * yn0 ≤ 4294967296 * 4294967295 := Nat.mul_le_mul (by omega) (by omega)
        rw [← g'.fits (by omega)] at hD; exact hD
      · refine ih _ _ g' (by omega) (by omega) ?_
        rw [Nat.add_mul, Nat.one_mul] at hk
        omega
    unfold bits_Div64.L6.t bits_Div64.D7.t
    refine c_dec (fun hb => step (Or.inl (by omega))) fun hb => ?_
    have hp : q * yn0 ≤ 4294967295 * 4294967295 := Nat.mul_le_mul (by omega) (by omega)
    refine k_u64 (q * yn0) (by norm_cast) (by omega) ?_
    refine k_u64 (4294967296 * r) (by omega) (by omega) ?_
    refine k_u64 (4294967296 * r + u1) (by omega) (by omega) ?_
    refine c_dec (fun hb => step (Or.inr (by omega))) fun hb => ?_
    rw [← g.fits (by omega)] at hD; exact hD
theorem Div_loop1 {R : Rt} {Y s yn1 yn0 u1 u0 u32 : Nat} {h : Hp} (hy : u32 < yn1 * 4294967296 + yn0) (hu : u1 < 4294967296) (hy1 : yn1 < 4294967296) (hy0 : yn0 < 4294967296)
    (hD : bits_Div64.D4.t R (Y : Int) (s : Int) (yn1 : Int) (yn0 : Int) (u32 : Int) (u1 : Int) (u0 : Int) (((u32 * 4294967296 + u1) / (yn1 * 4294967296 + yn0) : Nat) : Int) h) :
    ∀ (k q r : Nat), Guess u32 u1 yn1 yn0 q r → q ≤ 4294967297 → r < 4294967296 → 4294967296 ≤ r + (k + 1) * yn1 →
      bits_Div64.L11.t R (k + 1) (Y : Int) (s : Int) (yn1 : Int) (yn0 : Int) (u32 : Int) (u1 : Int) (u0 : Int) (q : Int) (r : Int) h := by
  intro k
  induction k with
  | zero =>
    intro q r g hq hr hk
    have step : (4294967296 ≤ q ∨ q * yn0 > 4294967296 * r + u1) → bits_Div64.D13.t R (bits_Div64.L11.t R 0) (Y : Int) (s : Int) (yn1 : Int) (yn0 : Int) (u32 : Int) (u1 : Int) (u0 : Int) (q : Int) (r : Int) h := by
      intro hb
      obtain ⟨h1, g'⟩ := g.big hy hu hb
      unfold bits_Div64.D13.t
      refine k_u64 (q - 1) (by omega) (by omega) ?_
      refine k_u64 (r + yn1) (by omega) (by omega) ?_
      refine c_dec (fun _ => ?_) fun hh => absurd (by omega) hh
      have hp : (q - 1) * yn0 ≤ 4294967296 * 4294967295 := Nat.mul_le_mul (by omega) (by omega)
      rw [← g'.fits (by omega)] at hD; exact hD
    unfold bits_Div64.L11.t bits_Div64.D12.t
    refine c_dec (fun hb => step (Or.inl (by omega))) fun hb => ?_
    have hp : q * yn0 ≤ 4294967295 * 4294967295 := Nat.mul_le_mul (by omega) (by omega)
    refine k_u64 (q * yn0) (by norm_cast) (by omega) ?_
    refine k_u64 (4294967296 * r) (by omega) (by omega) ?_
    refine k_u64 (4294967296 * r + u1) (by omega) (by omega) ?_
    refine c_dec (fun hb => step (Or.inr (by omega))) fun hb => ?_
    rw [← g.fits (by omega)] at hD; exact hD
  | succ k ih =>
    intro q r g hq hr hk
    have step : (4294967296 ≤ q ∨ q * yn0 > 4294967296 * r + u1) → bits_Div64.D13.t R (bits_Div64.L11.t R (k + 1)) (Y : Int) (s : Int) (yn1 : Int) (yn0 : Int) (u32 : Int) (u1 : Int) (u0 : Int) (q : Int) (r : Int) h := by
      intro hb
      obtain ⟨h1, g'⟩ := g.big hy hu hb
      unfold bits_Div64.D13.t
      refine k_u64 (q - 1) (by omega) (by omega) ?_
      refine k_u64 (r + yn1) (by omega) (by omega) ?_
      refine c_dec (fun _ => ?_) fun hh => ?_
      · have hp : (q - 1) * yn0 ≤ 4294967296 * 4294967295 := Nat.mul_le_mul (by omega) (by omega)
        rw [← g'.fits (by omega)] at hD; exact hD
      · refine ih _ _ g' (by omega) (by omega) ?_
        rw [Nat.add_mul, Nat.one_mul] at hk
        omega
    unfold bits_Div64.L11.t bits_Div64.D12.t
    refine c_dec (fun hb => step (Or.inl (by omega))) fun hb => ?_
    have hp : q * yn0 ≤ 4294967295 * 4294967295 := Nat.mul_le_mul (by omega) (by omega)
    refine k_u64 (q * yn0) (by norm_cast) (by omega) ?_
    refine k_u64 (4294967296 * r) (by omega) (by omega) ?_
    refine k_u64 (4294967296 * r + u1) (by omega) (by omega) ?_
    refine c_dec (fun hb => step (Or.inr (by omega))) fun hb => ?_
    rw [← g.fits (by omega)] at hD; exact hD
theorem Guess.first {u32 u1 yn1 yn0 : Nat} (h1 : 0 < yn1) (hu : u1 < 4294967296) : Guess u32 u1 yn1 yn0 (u32 / yn1) (u32 % yn1) := by
  refine ⟨by rw [Nat.mul_comm]; exact Nat.div_add_mod _ _, ?_⟩
  have h2 : u32 < (u32 / yn1 + 1) * yn1 := by
    rw [Nat.add_mul, Nat.one_mul, Nat.mul_comm]
    have := Nat.div_add_mod u32 yn1
    have := Nat.mod_lt u32 h1
    omega
  rw [Nat.mul_add, ← Nat.mul_assoc]
  generalize (u32 / yn1 + 1) * yn1 = a at *
  omega
theorem first_le {u32 yn1 yn0 : Nat} (h1 : 2147483648 ≤ yn1) (hy : u32 < yn1 * 4294967296 + yn0) (hy0 : yn0 < 4294967296) : u32 / yn1 ≤ 4294967297 := by
  have : u32 / yn1 < 4294967298 := by
    rw [Nat.div_lt_iff_lt_mul (by omega)]; omega
  omega
theorem div_is {n y q r : Nat} (e : q * y + r = n) (l : r < y) : n / y = q ∧ n % y = r := by
  have hy : 0 < y := Nat.lt_of_le_of_lt (Nat.zero_le _) l
  subst e
  rw [Nat.add_comm, Nat.mul_comm]
  exact ⟨by rw [Nat.add_mul_div_left _ _ hy, Nat.div_eq_of_lt l, Nat.zero_add], by rw [Nat.add_mul_mod_self_left, Nat.mod_eq_of_lt l]⟩
theorem long_div {u32 u1 u0 Y q1 r1 q0 r0 : Nat} (eU : q1 * Y + r1 = u32 * 4294967296 + u1) (eV : q0 * Y + r0 = r1 * 4294967296 + u0) : (q1 * 4294967296 + q0) * Y + r0 = u32 * 18446744073709551616 + u1 * 4294967296 + u0 := by
  rw [Nat.add_mul, Nat.mul_right_comm]
  generalize q1 * Y = a at *; generalize q0 * Y = b at *; omega
/-- The middle: the first digit is right; the second one is sought. -/
theorem Div_mid {R : Rt} {Y s yn1 yn0 u1 u0 u32 q1 r1 q0 r0 : Nat} {h : Hp} (hY : Y = yn1 * 4294967296 + yn0) (hu0 : u0 < 4294967296) (hy1 : yn1 < 4294967296) (hy2 : 2147483648 ≤ yn1) (hy0 : yn0 < 4294967296) (hs : s < 64)
    (eU : q1 * Y + r1 = u32 * 4294967296 + u1) (lU : r1 < Y) (hq1 : q1 < 4294967296) (eV : q0 * Y + r0 = r1 * 4294967296 + u0) (lV : r0 < Y) (hq0 : q0 < 4294967296)
    (g : R (.tuple #[.int .u64 ((q1 * 4294967296 + q0 : Nat) : Int), .int .u64 ((r0 / 2 ^ s : Nat) : Int)]) h) :
    bits_Div64.D4.t R (Y : Int) (s : Int) (yn1 : Int) (yn0 : Int) (u32 : Int) (u1 : Int) (u0 : Int) (q1 : Int) h := by
  have hYlt : Y < 18446744073709551616 := by omega
  have hq := (div_is eV lV).1
  unfold bits_Div64.D4.t
  refine letK_intro (y := ((u32 * 4294967296 % 18446744073709551616 : Nat) : Int)) (by rw [wrap_u64]; omega) ?_
  refine letK_intro (y := (((u32 * 4294967296 + u1) % 18446744073709551616 : Nat) : Int)) (by rw [wrap_u64]; omega) ?_
  refine letK_intro (y := ((q1 * Y % 18446744073709551616 : Nat) : Int)) (by rw [wrap_u64, ← Int.natCast_mul]; omega) ?_
  refine letK_intro (y := (r1 : Int)) (by rw [wrap_u64]; generalize q1 * Y = z at *; omega) ?_
  have hd1 : r1 / yn1 ≤ 4294967297 := first_le hy2 (by omega) hy0
  refine ⟨by omega, k_u64 (r1 / yn1) (tdiv_nat _ _) (by omega) ?_⟩
  have hm1 : r1 / yn1 * yn1 ≤ r1 := Nat.div_mul_le_self _ _
  have hmm : r1 % yn1 = r1 - r1 / yn1 * yn1 := by
    have := Nat.div_add_mod r1 yn1
    rw [Nat.mul_comm] at this; omega
  have hlt := Nat.mod_lt r1 (show 0 < yn1 by omega)
  refine k_u64 (r1 / yn1 * yn1) (by rw [Int.natCast_mul]) (by omega) ?_
  refine k_u64 (r1 % yn1) (by omega) (by omega) ?_
  refine ⟨1 + 1, ?_⟩
  refine Div_loop2 (by omega) hu0 hy1 hy0 ?_ 1 _ _ (Guess.first (by omega) hu0) hd1 (by omega) (by omega)
  rw [← hY, hq]
  unfold bits_Div64.D5.t
  refine k_u64 (q1 * 4294967296) (by omega) (by omega) ?_
  refine k_u64 (q1 * 4294967296 + q0) (by omega) (by omega) ?_
  refine letK_intro (y := ((r1 * 4294967296 % 18446744073709551616 : Nat) : Int)) (by rw [wrap_u64]; omega) ?_
  refine letK_intro (y := (((r1 * 4294967296 + u0) % 18446744073709551616 : Nat) : Int)) (by rw [wrap_u64]; omega) ?_
  refine letK_intro (y := ((q0 * Y % 18446744073709551616 : Nat) : Int)) (by rw [wrap_u64, ← Int.natCast_mul]; omega) ?_
  refine letK_intro (y := (r0 : Int)) (by rw [wrap_u64]; generalize q0 * Y = z at *; omega) ?_
  exact shr_k' rfl s _ (by omega) rfl rfl g
theorem split_lo (U L : Nat) : U * 18446744073709551616 + L / 4294967296 * 4294967296 + L % 4294967296 = U * 18446744073709551616 + L := by omega
theorem Div64_spec {hi lo y : Nat} (hh : hi < y) (hl : lo < 18446744073709551616) (hy : y < 18446744073709551616) (h : Hp) :
    HC bits_Div64.id #[.int .u64 (hi : Int), .int .u64 (lo : Int), .int .u64 (y : Int)] h fun v h' => h' = h ∧ Ans2 v ((hi * 18446744073709551616 + lo) / y) ((hi * 18446744073709551616 + lo) % y) := by
  refine bits_Div64.ok ?_
  unfold bits_Div64.t bits_Div64.D1.t
  refine c_eq (fun hz => absurd hz (by omega)) fun hz => ?_
  unfold bits_Div64.D2.t
  refine c_dec (fun hz => absurd hz (by omega)) fun hz => ?_
  unfold bits_Div64.D3.t
  refine c_eq (fun h0 => ?_) fun h0 => ?_
  · have e : hi = 0 := by omega
    subst e
    have hdl := Nat.div_le_self lo y
    refine ⟨by omega, k_u64 (lo / y) (tdiv_nat _ _) (by omega) ?_⟩
    refine ⟨by omega, letK_intro (tmod_nat _ _) ?_⟩
    rw [Nat.zero_mul, Nat.zero_add]; exact ⟨rfl, rfl⟩
  · refine hc_intro (Lead_spec hy _) fun v h' ⟨e1, e2⟩ => ?_
    subst e1; subst e2
    refine gInt_intro rfl ?_
    have hb1 : blen y ≤ 64 := blen_le.mpr hy
    have hb0 := blen_pos (show y ≠ 0 by omega)
    obtain ⟨s, hs⟩ : ∃ s, s = 64 - blen y := ⟨_, rfl⟩
    rw [← hs]
    have hs63 : s ≤ 63 := by omega
    refine k_u64 s rfl (by omega) ?_
    -- the divisor, moved up
    have hp0 : 0 < 2 ^ s := Nat.pow_pos (by decide)
    have hYlt : y * 2 ^ s < 18446744073709551616 := by
      have := blen_le (n := y * 2 ^ s) (k := 64)
      rw [blen_mul s (by omega)] at this
      exact this.mp (by omega)
    have hYge : 9223372036854775808 ≤ y * 2 ^ s := Nat.le_of_not_lt fun hlt => by
      have := (blen_le (n := y * 2 ^ s) (k := 63)).mpr hlt
      rw [blen_mul s (by omega)] at this; omega
    have hqs : 2 ^ s * 2 ^ (64 - s) = 18446744073709551616 := pq (by omega)
    have hi1 : hi * 2 ^ s + 2 ^ s ≤ y * 2 ^ s := by
      have := Nat.mul_le_mul_right (2 ^ s) hh
      rw [Nat.succ_mul] at this; exact this
    have hlo : lo / 2 ^ (64 - s) < 2 ^ s := by
      rw [Nat.div_lt_iff_lt_mul (Nat.pow_pos (by decide)), hqs]; exact hl
    have elo : lo * 2 ^ s = lo / 2 ^ (64 - s) * 18446744073709551616 + lo * 2 ^ s % 18446744073709551616 := by
      have e : lo * 2 ^ s / 18446744073709551616 = lo / 2 ^ (64 - s) := by
        rw [← hqs, Nat.mul_comm lo, Nat.mul_div_mul_left _ _ hp0]
      have := Nat.div_add_mod (lo * 2 ^ s) 18446744073709551616
      rw [e] at this; omega
    have eN : (hi * 18446744073709551616 + lo) * 2 ^ s = (hi * 2 ^ s + lo / 2 ^ (64 - s)) * 18446744073709551616 + lo * 2 ^ s % 18446744073709551616 := by
      rw [Nat.add_mul, Nat.mul_right_comm]
      generalize hi * 2 ^ s = a at *
      generalize lo * 2 ^ s = b at *
      omega
    have eor : hi * 2 ^ s ||| lo / 2 ^ (64 - s) = hi * 2 ^ s + lo / 2 ^ (64 - s) := by
      rw [Nat.mul_comm, ← Nat.two_pow_add_eq_or_of_lt hlo]
    refine shl_k rfl s _ (by omega) rfl rfl ?_
    rw [Nat.mod_eq_of_lt hYlt]
    refine shr_k' rfl 32 4294967296 (by omega) (by decide) (by omega) ?_
    refine and32 rfl hYlt ?_
    refine shl_k rfl s _ (by omega) rfl rfl ?_
    rw [Nat.mod_eq_of_lt (show hi * 2 ^ s < 18446744073709551616 by omega)]
    refine k_u64 (64 - s) (by omega) (by omega) ?_
    refine shr_k' rfl (64 - s) _ (by omega) rfl rfl ?_
    have hlo64 : lo / 2 ^ (64 - s) < 18446744073709551616 := Nat.lt_of_le_of_lt (Nat.div_le_self _ _) hl
    refine or_k rfl rfl (by omega) hlo64 ?_
    rw [eor]
    refine shl_k rfl s _ (by omega) rfl rfl ?_
    have hl2 : lo * 2 ^ s % 18446744073709551616 < 18446744073709551616 := Nat.mod_lt _ (by decide)
    refine shr_k' rfl 32 4294967296 (by omega) (by decide) (by omega) ?_
    refine and32 rfl hl2 ?_
    -- names
    have g1 : (hi * 18446744073709551616 + lo) / y = ((hi * 2 ^ s + lo / 2 ^ (64 - s)) * 18446744073709551616 + lo * 2 ^ s % 18446744073709551616) / (y * 2 ^ s) := by
      rw [← eN, Nat.mul_div_mul_right _ _ hp0]
    have g2 : (hi * 18446744073709551616 + lo) % y = ((hi * 2 ^ s + lo / 2 ^ (64 - s)) * 18446744073709551616 + lo * 2 ^ s % 18446744073709551616) % (y * 2 ^ s) / 2 ^ s := by
      rw [← eN, Nat.mul_mod_mul_right, Nat.mul_div_cancel _ hp0]
    have hU : hi * 2 ^ s + lo / 2 ^ (64 - s) < y * 2 ^ s := by omega
    rw [g1, g2]
    generalize hi * 2 ^ s + lo / 2 ^ (64 - s) = U at *
    generalize lo * 2 ^ s % 18446744073709551616 = L at *
    generalize y * 2 ^ s = Y at *
    have hy2 : 2147483648 ≤ Y / 4294967296 := by omega
    have hd1 : U / (Y / 4294967296) ≤ 4294967297 := first_le (yn0 := Y % 4294967296) hy2 (by omega) (by omega)
    refine ⟨by omega, k_u64 (U / (Y / 4294967296)) (tdiv_nat _ _) (by omega) ?_⟩
    have hm1 : U / (Y / 4294967296) * (Y / 4294967296) ≤ U := Nat.div_mul_le_self _ _
    have hmm : U % (Y / 4294967296) = U - U / (Y / 4294967296) * (Y / 4294967296) := by
      have := Nat.div_add_mod U (Y / 4294967296)
      rw [Nat.mul_comm] at this; omega
    have hlt := Nat.mod_lt U (show 0 < Y / 4294967296 by omega)
    refine k_u64 (U / (Y / 4294967296) * (Y / 4294967296)) (by rw [Int.natCast_mul]) (by omega) ?_
    refine k_u64 (U % (Y / 4294967296)) (by omega) (by omega) ?_
    refine ⟨1 + 1, ?_⟩
    refine Div_loop1 (by omega) (by omega) (by omega) (by omega) ?_ 1 _ _ (Guess.first (by omega) (by omega)) hd1 (by omega) (by omega)
    have eY : Y / 4294967296 * 4294967296 + Y % 4294967296 = Y := by omega
    rw [eY]
    have hYp : 0 < Y := Nat.lt_of_le_of_lt (Nat.zero_le _) hU
    have eU : (U * 4294967296 + L / 4294967296) / Y * Y + (U * 4294967296 + L / 4294967296) % Y = U * 4294967296 + L / 4294967296 := by rw [Nat.mul_comm]; exact Nat.div_add_mod _ _
    have lU := Nat.mod_lt (U * 4294967296 + L / 4294967296) hYp
    have hq1 : (U * 4294967296 + L / 4294967296) / Y < 4294967296 := by
      rw [Nat.div_lt_iff_lt_mul hYp]; omega
    obtain ⟨q1, hq1e⟩ : ∃ q1, q1 = (U * 4294967296 + L / 4294967296) / Y := ⟨_, rfl⟩
    obtain ⟨r1, hr1e⟩ : ∃ r1, r1 = (U * 4294967296 + L / 4294967296) % Y := ⟨_, rfl⟩
    rw [← hq1e, ← hr1e] at eU
    rw [← hr1e] at lU
    rw [← hq1e] at hq1 ⊢
    have eV : (r1 * 4294967296 + L % 4294967296) / Y * Y + (r1 * 4294967296 + L % 4294967296) % Y = r1 * 4294967296 + L % 4294967296 := by rw [Nat.mul_comm]; exact Nat.div_add_mod _ _
    have lV := Nat.mod_lt (r1 * 4294967296 + L % 4294967296) hYp
    have hq0 : (r1 * 4294967296 + L % 4294967296) / Y < 4294967296 := by
      rw [Nat.div_lt_iff_lt_mul hYp]; omega
    refine Div_mid eY.symm (by omega) (by omega) hy2 (by omega) (by omega) eU lU hq1 eV lV hq0 ?_
    have el := div_is (long_div eU eV) lV
    rw [split_lo] at el
    rw [el.1, el.2]; exact ⟨rfl, rfl⟩
end Go.Proofs.Ytdpkfipkjdlmlaa.G

/- What DivWord answers. -/
namespace Go.Proofs.Ytdpkfipkjdlmlaa.G
open Go.Gv
set_option maxRecDepth 100000
/-- quotient, rest and error; errors as the code gives them. -/
def divWS (xs : List Nat) (w : Nat) : List Nat × Int × Int := if Frm xs then (if w = 0 then ([], 0, 4) else (digs (val xs / w), ((val xs % w : Nat) : Int), 0)) else ([], 0, 2)
abbrev Ans3 : An (List Nat × Int × Int) := s3 sW (sI .u64) (sI .i64)
theorem Ans3.elim {h0 h : Hp} {v : Value} {p : List Nat × Int × Int} {K : Option Addr → Nat → Nat → Int → Int → Prop} (a : Ans3 h0 h v p) (g : ∀ a c, GotE eU64 h0 h a c p.1 → K a p.1.length c p.2.1 p.2.2) :
    gTup v fun y => uncons y fun v1 y1 => gSlice v1 fun a l c => uncons y1 fun v2 y2 => gInt .u64 v2 fun x => uncons y2 fun v3 y3 => gInt .i64 v3 fun z => unnil y3 (K a l c x z) := by
  obtain ⟨x, y, z, e, ⟨a, c, e1, r⟩, ⟨e2, _⟩, e3, _⟩ := a
  subst e; subst e1; subst e2; subst e3; exact g a c r
theorem DivWord_walk {R : Rt} {a : Option Addr} {c l w z y : Nat} {xs : List Nat} {h0 : Hp} {q : Nat} (r : Rd h0 a c xs) (hl : l = xs.length) (hq : h0.size ≤ q) (hx : xs.length ≤ 8192) (hw : w < 18446744073709551616) (hz : z = xs.length) (hy : y = xs.length)
    (g : ∀ v h', Keep h0 h' → Ans3 h0 h' v (digs (val xs / w), ((val xs % w : Nat) : Int), 0) → R v h') :
    ∀ (n le : Nat) (zs : List Nat) (h : Hp), n ≤ xs.length → zs.length = xs.length → le < w → Own h q zs → Keep h0 h → val (zs.drop n) * w + le = val (xs.drop n) →
      nat_DivWord.L4.t R (n + 1) a l c (w : Int) (some ⟨q, 0, none⟩) z y (le : Int) ((n : Int) - 1) h := by
  subst hl
  intro n
  induction n with
  | zero =>
    intro le zs h hn hzs hc ho kp e
    unfold nat_DivWord.L4.t nat_DivWord.D5.t
    refine c_dec (fun hb => absurd hb (by omega)) fun _ => ?_
    rw [List.drop_zero, List.drop_zero] at e
    have hd := div_is e hc
    unfold nat_DivWord.D2.t
    refine hc_intro (told_spec (ho.got' (c := y) hq (by omega)) (by omega)) fun v h' ⟨e1, an⟩ => ?_
    subst e1
    have hlen : (digs (val zs)).length ≤ 8192 := by
      rw [digs_val ho.words]
      have := trimL_le zs; omega
    have el : lim (val zs) = (digs (val zs), 0) := by unfold lim; rw [if_pos hlen]
    rw [el] at an
    refine an.elimG fun a c r _ => ?_
    refine g _ _ kp ?_
    rw [hd.1, hd.2]; exact ⟨_, _, _, rfl, ⟨_, _, rfl, r⟩, ⟨rfl, by rw [in_u64]; show 0 ≤ (le : Int) ∧ (le : Int) < 18446744073709551616; omega⟩, rfl, (by decide : In .i64 0)⟩
  | succ n ih =>
    intro le zs h hn hzs hc ho kp e
    have hxn : xs.getD n 0 < 18446744073709551616 := r.word n
    unfold nat_DivWord.L4.t nat_DivWord.D5.t
    refine c_dec (fun hb => ?_) fun hb => absurd (by omega) hb
    refine at_intro (r.keep kp) (j := n) (by omega) rfl (by omega) ?_
    refine hc_intro (Div64_spec hc hxn hw _) fun v h' ⟨e1, an⟩ => ?_
    subst e1
    refine an.elim ?_
    have hwp : 0 < w := Nat.lt_of_le_of_lt (Nat.zero_le _) hc
    have hq1 : (le * 18446744073709551616 + xs.getD n 0) / w < 18446744073709551616 := by
      rw [Nat.div_lt_iff_lt_mul hwp]; omega
    have eD := Nat.div_add_mod (le * 18446744073709551616 + xs.getD n 0) w
    have lD := Nat.mod_lt (le * 18446744073709551616 + xs.getD n 0) hwp
    refine put_intro ho (j := n) (by omega) (by omega) (by omega) rfl hq1 fun o => ?_
    refine k_i64 ((n : Int) - 1) (by omega) (by omega) (by omega) ?_
    refine ih _ _ _ (by omega) (by simp; omega) lD o (kp.set hq) ?_
    have ed : (zs.set n ((le * 18446744073709551616 + xs.getD n 0) / w)).drop n = (le * 18446744073709551616 + xs.getD n 0) / w :: zs.drop (n + 1) := by
      rw [drop_getD (by simp; omega), List.drop_set_of_lt (by omega)]
      simp [List.getD, show n < zs.length by omega]
    rw [ed, drop_getD (xs := xs) (by omega)]
    simp only [val]
    rw [Nat.add_mul, Nat.mul_assoc, Nat.mul_comm _ w]
    generalize w * ((le * 18446744073709551616 + xs.getD n 0) / w) = A at *
    generalize (le * 18446744073709551616 + xs.getD n 0) % w = B at *
    generalize val (zs.drop (n + 1)) * w = C at *
    omega
theorem DivWord_spec {a : Option Addr} {c l w : Nat} {xs : List Nat} {h : Hp} (r : Rd h a c xs) (hl : l = xs.length) (hw : w < 18446744073709551616) :
    HC nat_DivWord.id #[.slice a l c, .int .u64 (w : Int)] h fun v h' => Keep h h' ∧ Ans3 h h' v (divWS xs w) := by
  refine nat_DivWord.ok ?_
  unfold nat_DivWord.t nat_DivWord.D1.t
  refine hc_intro (Form_spec r hl) fun v h' ⟨e1, e2⟩ => ?_
  subst e1; subst e2; subst hl
  refine gBool_intro rfl ?_
  have nil : ∀ x : Int, In .i64 x → Ans3 h' h' (.tuple #[.slice none 0 0, .int .u64 0, .int .i64 x]) ([], 0, x) := fun x i => ⟨_, _, _, rfl, ⟨none, 0, rfl, GotE.nil _ _⟩, ⟨rfl, (by decide : In .u64 0)⟩, rfl, i⟩
  refine c_not (fun hf => ⟨Keep.refl _, ?_⟩) fun hf => ?_
  · unfold divWS; rw [if_neg (of_decide_eq_false hf)]; exact nil 2 (by decide)
  have hf0 := of_decide_eq_true hf
  have hf1 := hf0.1
  unfold divWS; rw [if_pos hf0]
  refine c_eq (fun h0 => ⟨Keep.refl _, ?_⟩) fun h0 => ?_
  · rw [if_pos (by omega)]; exact nil 4 (by decide)
  have hw0 : ¬ w = 0 := by omega
  simp only [if_neg hw0]
  refine mk_intro xs.length rfl rfl rfl rfl (by omega) fun h1 o k => ?_
  unfold nat_DivWord.D3.t
  refine k_i64 ((xs.length : Int) - 1) rfl (by omega) (by omega) ?_
  refine ⟨xs.length + 1, ?_⟩
  refine DivWord_walk r rfl (Nat.le_refl _) hf1 hw rfl rfl (fun v h' k an => ⟨k, an⟩) xs.length 0 _ h1 (Nat.le_refl _) (by simp) (by omega) o k ?_
  rw [List.drop_length, List.drop_of_length_le (by simp)]; simp [val]
end Go.Proofs.Ytdpkfipkjdlmlaa.G

/- What Shl, Shr and Low answer. -/
namespace Go.Proofs.Ytdpkfipkjdlmlaa.G
open Go.Gv
set_option maxRecDepth 100000
/-! ### to the left -/
/-! ### to the right -/
/-! ### the lowest bits -/
end Go.Proofs.Ytdpkfipkjdlmlaa.G

/- What Cmp answers. -/
namespace Go.Proofs.Ytdpkfipkjdlmlaa.G
open Go.Gv
set_option maxRecDepth 100000
end Go.Proofs.Ytdpkfipkjdlmlaa.G

/- What the digits' calls of the reference answer: Norm, From, To, Word, Cmp, Add. -/
namespace Go.Proofs.Ytdpkfipkjdlmlaa.G
open Go.Gv
set_option maxRecDepth 100000
set_option linter.unusedVariables false
/-! ### Norm -/
/-! ### From -/
/-! ### To -/
/-! ### Word -/
/-! ### Cmp -/
/-! ### Add -/
end Go.Proofs.Ytdpkfipkjdlmlaa.G

/- What the digits' calls of the reference answer: Bits, Bit, Mul, DivSmall, Shr, Low. -/
namespace Go.Proofs.Ytdpkfipkjdlmlaa.G
open Go.Gv
set_option maxRecDepth 100000
set_option linter.unusedVariables false
/-! ### Bits -/
/-! ### Mul -/
/-! ### DivSmall -/
/-! ### Shr, Low -/
end Go.Proofs.Ytdpkfipkjdlmlaa.G

/- What the digits' calls of the reference answer: Sub, MulSmall, Shl, Bit, Fits. -/
namespace Go.Proofs.Ytdpkfipkjdlmlaa.G
open Go.Gv
set_option maxRecDepth 100000
set_option linter.unusedVariables false
/-! ### Sub -/
/-! ### MulSmall -/
/-! ### Shl -/
/-! ### Bit -/
/-! ### Fits -/
end Go.Proofs.Ytdpkfipkjdlmlaa.G

/- What the digits' calls of the reference answer: digit, DivMod. -/
namespace Go.Proofs.Ytdpkfipkjdlmlaa.G
open Go.Gv
set_option maxRecDepth 100000
set_option linter.unusedVariables false
/-! ### windows of blocks -/
/-! ### digit -/
end Go.Proofs.Ytdpkfipkjdlmlaa.G

/- What the digits' calls of the reference answer: DivMod. -/
namespace Go.Proofs.Ytdpkfipkjdlmlaa.G
open Go.Gv
set_option maxRecDepth 100000
set_option linter.unusedVariables false
end Go.Proofs.Ytdpkfipkjdlmlaa.G

/- What Told and DocForm answer. -/
namespace Go.Proofs.Ytdpkfipkjdlmlaa.G
open Go.Gv
set_option maxRecDepth 100000
set_option linter.unusedVariables false
end Go.Proofs.Ytdpkfipkjdlmlaa.G

/- What Add answers. -/
namespace Go.Proofs.Ytdpkfipkjdlmlaa.G
open Go.Gv
set_option maxRecDepth 100000
theorem add_intro {x y z : Int} {a b c : Nat} (hx : x = (a : Int)) (hy : y = (b : Int)) (hz : z = (c : Int)) (hc : c ≤ 1) {K : Int → Int → Prop}
    (g : K ((a + b + c) % 18446744073709551616 : Nat) ((a + b + c) / 18446744073709551616 : Nat)) : addK x y z K := by
  subst hx; subst hy; subst hz
  exact ⟨⟨by omega, by omega, by omega, by omega⟩, by simpa using g⟩
/-- a + b; errors as the code gives them. -/
def addS (xs ys : List Nat) : List Nat × Int := if Frm xs ∧ Frm ys then lim (val xs + val ys) else ([], 2)
theorem Add_end {R : Rt} {a : Option Addr} {c l z w : Nat} {zs : List Nat} {n : Nat} {h : Hp} {h0 : Hp} {q : Nat} {ca : Nat} (hl : l = n) (ho : Own h q zs) (hz : z = zs.length) (hw : w = zs.length) (hn : zs.length = n + 1) (hca : ca < 18446744073709551616) (hn2 : n ≤ 8192) (hq : h0.size ≤ q) (k : Keep h0 h)
    (g : ∀ v h', Keep h0 h' → Ans h0 h' v (lim (val (zs.take n ++ [ca]))) → R v h') : nat_Add.D4.t R a l c (some ⟨q, 0, none⟩) z w (ca : Int) h := by
  subst hl; subst hz; subst hw
  unfold nat_Add.D4.t
  refine put_intro ho (j := l) rfl rfl (by omega) rfl hca fun o => ?_
  have e : zs.set l ca = zs.take l ++ [ca] := by
    have := take_set_succ (s := zs) (j := l) (t := ca) (by omega)
    rw [← this, List.take_of_length_le (by rw [List.length_set]; omega)]
  rw [e] at o
  have k2 : Keep h0 (setH h ⟨q, l, none⟩ (wv ca)) := k.set hq
  have hlen : (zs.take l ++ [ca]).length = l + 1 := by simp; omega
  refine hc_intro (told_spec (o.got' (c := zs.length) hq (by omega)) (by omega)) fun v h' ⟨e1, an⟩ => ?_
  subst e1
  refine an.elimG fun a c r i => ?_
  exact g _ _ k2 (Ans.back r i)
theorem Add_walk {R : Rt} {a b : Option Addr} {c d l m z w : Nat} {xs ys : List Nat} {h0 : Hp} {q : Nat} (r : Rd h0 a c xs) (s : Rd h0 b d ys) (hl : l = xs.length) (hm : m = ys.length) (hq : h0.size ≤ q) (hx : xs.length ≤ 8192) (hz : z = xs.length + 1) (hw : w = xs.length + 1)
    (fs : List Nat) (g : ∀ v h', Keep h0 h' → Ans h0 h' v (lim (val fs)) → R v h') :
    ∀ (k n ca : Nat) (zs : List Nat) (h : Hp), n + k = xs.length → ca ≤ 1 → zs.length = xs.length + 1 → Own h q zs → Keep h0 h → zs.take n ++ addL (xs.drop n) (ys.drop n) ca = fs →
      nat_Add.L6.t R (k + 1) a l c b m d (some ⟨q, 0, none⟩) z w (ca : Int) (l : Int) (n : Int) h := by
  subst hl; subst hm
  intro k
  induction k with
  | zero =>
    intro n ca zs h hn hc hzs ho kp e
    unfold nat_Add.L6.t nat_Add.D7.t
    refine c_dec (fun hb => absurd hb (by omega)) fun _ => ?_
    have en : n = xs.length := by omega
    subst en
    rw [List.drop_length] at e
    refine Add_end (n := xs.length) rfl ho (by omega) (by omega) hzs (by omega) hx hq kp ?_
    rw [show zs.take xs.length ++ [ca] = fs from e]; exact g
  | succ k ih =>
    intro n ca zs h hn hc hzs ho kp e
    have hxn : xs.getD n 0 < 18446744073709551616 := r.word n
    have hyn : ys.getD n 0 < 18446744073709551616 := s.word n
    have step : zs.take n ++ addL (xs.drop n) (ys.drop n) ca = (zs.set n ((xs.getD n 0 + ys.getD n 0 + ca) % 18446744073709551616)).take (n + 1) ++ addL (xs.drop (n + 1)) (ys.drop (n + 1)) ((xs.getD n 0 + ys.getD n 0 + ca) / 18446744073709551616) := by
      rw [drop_getD (xs := xs) (j := n) (by omega), take_set_succ (by omega)]
      simp only [addL, headD_drop, List.tail_drop, List.append_assoc, List.cons_append, List.nil_append]
    rw [step] at e
    unfold nat_Add.L6.t nat_Add.D7.t
    refine c_dec (fun hb => ?_) fun hb => absurd (by omega) hb
    refine c_dec (fun hb => ?_) fun hb => ?_
    · refine at_intro (s.keep kp) (j := n) rfl rfl (by omega) ?_
      refine at_intro (r.keep kp) (j := n) rfl rfl (by omega) ?_
      refine add_intro rfl rfl rfl hc ?_
      refine put_intro ho (j := n) rfl (by omega) (by omega) rfl (by omega) fun o => ?_
      refine k_i64 ((n + 1 : Nat) : Int) (by omega) (by omega) (by omega) ?_
      exact ih (n + 1) _ _ _ (by omega) (by omega) (by rw [List.length_set]; omega) o (kp.set hq) e
    · refine at_intro (r.keep kp) (j := n) rfl rfl (by omega) ?_
      have hy0 : ys.getD n 0 = 0 := by simp [List.getD, show ys.length ≤ n by omega]
      rw [hy0] at e
      refine add_intro (b := 0) rfl rfl rfl hc ?_
      refine put_intro ho (j := n) rfl (by omega) (by omega) rfl (by omega) fun o => ?_
      refine k_i64 ((n + 1 : Nat) : Int) (by omega) (by omega) (by omega) ?_
      exact ih (n + 1) _ _ _ (by omega) (by omega) (by rw [List.length_set]; omega) o (kp.set hq) e
theorem Add_made {R : Rt} {a b : Option Addr} {c d l m : Nat} {xs ys : List Nat} {h : Hp} (r : Rd h a c xs) (s : Rd h b d ys) (hl : l = xs.length) (hm : m = ys.length) (hx : xs.length ≤ 8192) (hxy : ys.length ≤ xs.length)
    (g : ∀ v h', Keep h h' → Ans h h' v (lim (val xs + val ys)) → R v h') : nat_Add.D3.t R a l c b m d h := by
  subst hl; subst hm
  unfold nat_Add.D3.t
  refine k_i64 ((xs.length + 1 : Nat) : Int) (by omega) (by omega) (by omega) ?_
  refine mk_intro (xs.length + 1) rfl rfl rfl rfl (by omega) fun h1 o k => ?_
  refine ⟨xs.length + 1, ?_⟩
  refine Add_walk r s rfl rfl (Nat.le_refl _) hx rfl rfl (addL xs ys 0) ?_ xs.length 0 0 _ h1 (by omega) (by omega) (by simp) o k (by simp)
  rw [addL_val xs ys 0 hxy]; exact g
theorem Add_spec {a b : Option Addr} {c d l m : Nat} {xs ys : List Nat} {h : Hp} (r : Rd h a c xs) (s : Rd h b d ys) (hl : l = xs.length) (hm : m = ys.length) :
    HC nat_Add.id #[.slice a l c, .slice b m d] h fun v h' => Keep h h' ∧ Ans h h' v (addS xs ys) := by
  refine nat_Add.ok ?_
  unfold nat_Add.t nat_Add.D1.t
  refine hc_intro (Form_spec r hl) fun v h' ⟨e1, e2⟩ => ?_
  subst e1; subst e2
  refine gBool_intro rfl ?_
  refine c_not (fun hf => ⟨Keep.refl _, ?_⟩) fun hf => ?_
  · unfold addS; rw [if_neg (fun hh => of_decide_eq_false hf hh.1)]; exact Ans.none
  refine hc_intro (Form_spec s hm) fun v h' ⟨e1, e2⟩ => ?_
  subst e1; subst e2
  refine gBool_intro rfl ?_
  refine c_not (fun hf2 => ⟨Keep.refl _, ?_⟩) fun hf2 => ?_
  · unfold addS; rw [if_neg (fun hh => of_decide_eq_false hf2 hh.2)]; exact Ans.none
  have f1 := of_decide_eq_true hf
  have f2 := of_decide_eq_true hf2
  unfold addS; rw [if_pos ⟨f1, f2⟩]
  unfold nat_Add.D2.t
  refine c_dec (fun hb => ?_) fun hb => ?_
  · refine Add_made s r hm hl f2.1 (by omega) fun v h' k an => ⟨k, ?_⟩
    rw [Nat.add_comm]; exact an
  · exact Add_made r s hl hm f1.1 (by omega) fun v h' k an => ⟨k, an⟩
end Go.Proofs.Ytdpkfipkjdlmlaa.G

/- What Sub answers. -/
namespace Go.Proofs.Ytdpkfipkjdlmlaa.G
open Go.Gv
set_option maxRecDepth 100000
end Go.Proofs.Ytdpkfipkjdlmlaa.G

/- What MulWord and Word answer. -/
namespace Go.Proofs.Ytdpkfipkjdlmlaa.G
open Go.Gv
set_option maxRecDepth 100000
/-! ### a product with a word -/
def mulL (w : Nat) : List Nat → Nat → List Nat
  | [], c => [c]
  | x :: xs, c => (x * w + c) % 18446744073709551616 :: mulL w xs ((x * w + c) / 18446744073709551616)
theorem mulL_val (w : Nat) : ∀ (xs : List Nat) (c : Nat), val (mulL w xs c) = val xs * w + c
  | [], c => by simp [mulL, val]
  | x :: xs, c => by
    simp only [mulL, val, mulL_val w xs, Nat.add_mul, Nat.mul_assoc]
    generalize x * w = y; generalize val xs * w = z; omega
theorem MulWord_walk {R : Rt} {a : Option Addr} {c l w z y : Nat} {xs : List Nat} {h0 : Hp} {q : Nat} (r : Rd h0 a c xs) (hl : l = xs.length) (hq : h0.size ≤ q) (hx : xs.length ≤ 8192) (hw : w < 18446744073709551616) (hz : z = xs.length + 1) (hy : y = xs.length + 1)
    (fs : List Nat) (g : ∀ v h', Keep h0 h' → Ans h0 h' v (lim (val fs)) → R v h') :
    ∀ (j n ca : Nat) (zs : List Nat) (h : Hp), n + j = xs.length → zs.length = xs.length + 1 → ca < 18446744073709551616 → Own h q zs → Keep h0 h → zs.take n ++ mulL w (xs.drop n) ca = fs →
      nat_MulWord.L4.t R (j + 1) a l c (w : Int) (some ⟨q, 0, none⟩) z y (ca : Int) (l : Int) (n : Int) h := by
  subst hl
  intro j
  induction j with
  | zero =>
    intro n ca zs h hn hzs hc ho kp e
    unfold nat_MulWord.L4.t nat_MulWord.D5.t
    refine c_dec (fun hb => absurd hb (by omega)) fun _ => ?_
    have en : n = xs.length := by omega
    subst en
    rw [List.drop_length] at e
    unfold nat_MulWord.D2.t
    refine put_intro ho (j := xs.length) rfl (by omega) (by omega) rfl hc fun o => ?_
    have e2 : zs.set xs.length ca = fs := by
      rw [← e]; show _ = _ ++ [ca]
      rw [← take_set_succ (by omega), List.take_of_length_le (by rw [List.length_set]; omega)]
    rw [e2] at o
    have e3 : fs.length = xs.length + 1 := by rw [← e2, List.length_set]; exact hzs
    have k2 := kp.set (v := wv ca) (i := xs.length) hq
    refine hc_intro (told_spec (o.got' (c := y) hq (by omega)) (by omega)) fun v h' ⟨e1, an⟩ => ?_
    subst e1
    refine an.elimG fun a c r i => ?_
    exact g _ _ k2 (Ans.back r i)
  | succ j ih =>
    intro n ca zs h hn hzs hc ho kp e
    have hxn : xs.getD n 0 < 18446744073709551616 := r.word n
    rw [drop_getD (xs := xs) (j := n) (by omega)] at e
    simp only [mulL] at e
    have hp : xs.getD n 0 * w ≤ 340282366920938463426481119284349108225 := Nat.mul_le_mul (show xs.getD n 0 ≤ 18446744073709551615 by omega) (show w ≤ 18446744073709551615 by omega)
    unfold nat_MulWord.L4.t nat_MulWord.D5.t
    refine c_dec (fun hb => ?_) fun hb => absurd (by omega) hb
    refine at_intro (r.keep kp) (j := n) rfl rfl (by omega) ?_
    refine hc_intro (Mul64_spec hxn hw _) fun v h' ⟨e1, an⟩ => ?_
    subst e1
    refine an.elim ?_
    generalize xs.getD n 0 * w = p at *
    refine add_intro (c := 0) rfl rfl rfl (by omega) ?_
    have e4 : (p % 18446744073709551616 + ca + 0) % 18446744073709551616 = (p + ca) % 18446744073709551616 := by omega
    rw [e4]
    refine put_intro ho (j := n) rfl (by omega) (by omega) rfl (by omega) fun o => ?_
    refine k_u64 ((p + ca) / 18446744073709551616) (by omega) (by omega) ?_
    refine k_i64 ((n + 1 : Nat) : Int) (by omega) (by omega) (by omega) ?_
    refine ih (n + 1) _ _ _ (by omega) (by simp; omega) (by omega) o (kp.set hq) ?_
    rw [← e, take_set_succ (by omega)]; simp
def mulWS (xs : List Nat) (w : Nat) : List Nat × Int := if Frm xs then lim (val xs * w) else ([], 2)
theorem MulWord_spec {a : Option Addr} {c l w : Nat} {xs : List Nat} {h : Hp} (r : Rd h a c xs) (hl : l = xs.length) (hw : w < 18446744073709551616) :
    HC nat_MulWord.id #[.slice a l c, .int .u64 (w : Int)] h fun v h' => Keep h h' ∧ Ans h h' v (mulWS xs w) := by
  refine nat_MulWord.ok ?_
  unfold nat_MulWord.t nat_MulWord.D1.t
  refine hc_intro (Form_spec r hl) fun v h' ⟨e1, e2⟩ => ?_
  subst e1; subst e2; subst hl
  refine gBool_intro rfl ?_
  unfold mulWS
  refine c_not (fun hf => ⟨Keep.refl _, ?_⟩) fun hf => ?_
  · rw [if_neg (of_decide_eq_false hf)]; exact Ans.none
  have f := of_decide_eq_true hf
  rw [if_pos f]
  have hf1 := f.1
  refine k_i64 ((xs.length + 1 : Nat) : Int) (by omega) (by omega) (by omega) ?_
  refine mk_intro (xs.length + 1) rfl rfl rfl rfl (by omega) fun h1 o k => ?_
  unfold nat_MulWord.D3.t
  refine ⟨xs.length + 1, ?_⟩
  refine MulWord_walk r rfl (Nat.le_refl _) hf1 hw rfl rfl (mulL w xs 0) ?_ xs.length 0 0 _ h1 (by omega) (by simp) (by omega) o k (by simp)
  rw [mulL_val, Nat.add_zero]; exact fun v h' k an => ⟨k, an⟩
theorem Word_spec {w : Nat} (hw : w < 18446744073709551616) (h : Hp) : HC nat_Word.id #[.int .u64 (w : Int)] h fun v h' => Keep h h' ∧ AnsS h h' v (digs w) := by
  refine nat_Word.ok ?_
  unfold nat_Word.t nat_Word.D1.t
  refine c_eq (fun h0 => ⟨Keep.refl _, ?_⟩) fun h0 => ?_
  · have : w = 0 := by omega
    subst this; rw [digs_zero]; exact ⟨none, 0, rfl, GotE.nil _ _⟩
  · refine box_intro [w] (by rfl) (by simp) (by simpa using hw) fun h1 o k => ⟨k, ?_⟩
    have e : digs w = [w] := by
      rw [digs_pos (by omega), show w / 18446744073709551616 = 0 by omega, digs_zero, Nat.mod_eq_of_lt hw]
    rw [e]; exact ⟨_, _, rfl, o.got' (Nat.le_refl _) (by simp)⟩
end Go.Proofs.Ytdpkfipkjdlmlaa.G

/- What the document's calls of layer 1 answer: they are the program's answers. -/
namespace Go.Proofs.Ytdpkfipkjdlmlaa.G
open Go.Gv
set_option maxRecDepth 100000
set_option linter.unusedVariables false
section
variable {a b : Option Addr} {c d l m : Nat} {xs ys : List Nat} {h : Hp}
end
end Go.Proofs.Ytdpkfipkjdlmlaa.G

/- The lowest one bit, by the program and by the reference; single bits. -/
namespace Go.Proofs.Ytdpkfipkjdlmlaa.G
open Go.Gv
set_option maxRecDepth 100000
set_option linter.unusedVariables false
/-! ### how often 2 divides -/
/-! ### the table -/
def dbTab : List Nat := [0, 1, 56, 2, 57, 49, 28, 3, 61, 58, 42, 50, 38, 29, 17, 4, 62, 47, 59, 36, 45, 43, 51, 22, 53, 39, 33, 30, 24, 18, 12, 5, 63, 55, 48, 27, 60, 41, 37, 16, 46, 35, 44, 21, 52, 32, 23, 11, 54, 26, 40, 15, 34, 20, 31, 10, 25, 14, 19, 9, 13, 8, 7, 6]
def Tab (h : Hp) : Prop := ∀ i, i < 64 → cellH h ⟨0, i, none⟩ = some (.int .u8 ((dbTab.getD i 0 : Nat) : Int))
theorem Tab.keep {h h' : Hp} (t : Tab h) (k : Keep h h') : Tab h' := fun i hi => k.cell (t i hi)
/-! ### Bit -/
/-! ### Zeros -/
end Go.Proofs.Ytdpkfipkjdlmlaa.G

/- Contracts of layer 1 in the form that the lifted functions use. -/
namespace Go.Proofs.Ytdpkfipkjdlmlaa.G
open Go.Gv
set_option linter.unusedVariables false
section
variable {a b : Option Addr} {c d l m : Nat} {xs ys : List Nat} {h : Hp} {x : Int}
end
end Go.Proofs.Ytdpkfipkjdlmlaa.G

/- What the parts of a quotient answer: shifted, trial, takeMul, giveBack, long; QuoRem. -/
namespace Go.Proofs.Ytdpkfipkjdlmlaa.G
open Go.Gv
set_option maxRecDepth 100000
set_option linter.unusedVariables false
/-! ### windows of blocks of words -/
/-! ### takeMul -/
/-! ### giveBack -/
/-! ### trial -/
/-! ### one digit -/
/-! ### long -/
end Go.Proofs.Ytdpkfipkjdlmlaa.G

/- What shifted and QuoRem answer. -/
namespace Go.Proofs.Ytdpkfipkjdlmlaa.G
open Go.Gv
set_option maxRecDepth 100000
set_option linter.unusedVariables false
/-! ### QuoRem -/
abbrev AnsQ : An (List Nat × List Nat × Int) := s3 sW sW (sI .i64)
theorem AnsQ.none {h0 h : Hp} {x : Int} (i : In .i64 x := by decide) : AnsQ h0 h (.tuple #[.slice Option.none 0 0, .slice Option.none 0 0, .int .i64 x]) ([], [], x) := ⟨_, _, _, rfl, ⟨_, _, rfl, GotE.nil _ _⟩, ⟨_, _, rfl, GotE.nil _ _⟩, rfl, i⟩
theorem AnsQ.mk {h0 h : Hp} {a b : Option Addr} {c d l m : Nat} {xs ys : List Nat} {x : Int} (r : GotE eU64 h0 h a c xs) (s : GotE eU64 h0 h b d ys) (hl : l = xs.length) (hm : m = ys.length) (i : In .i64 x) : AnsQ h0 h (.tuple #[.slice a l c, .slice b m d, .int .i64 x]) (xs, ys, x) := by
  subst hl; subst hm
  exact ⟨_, _, _, rfl, ⟨_, _, rfl, r⟩, ⟨_, _, rfl, s⟩, rfl, i⟩
end Go.Proofs.Ytdpkfipkjdlmlaa.G

/- Square roots of naturals, and Newton's steps towards them: plain law. -/
namespace Go.Proofs.Ytdpkfipkjdlmlaa.G
open Go.Gv
end Go.Proofs.Ytdpkfipkjdlmlaa.G

/- What the parts of products answer: trim, cut, sum, addAt, takeAway, rows. -/
namespace Go.Proofs.Ytdpkfipkjdlmlaa.G
open Go.Gv
/-! ### adding in place -/
/-! ### taking away in place -/
end Go.Proofs.Ytdpkfipkjdlmlaa.G

/- What rows, cut and sum answer. -/
namespace Go.Proofs.Ytdpkfipkjdlmlaa.G
open Go.Gv
set_option maxRecDepth 100000
/-! ### parts and sums -/
/-- A list in new memory, whose block is the call's own. -/
def Fresh (h h' : Hp) (v : Value) (xs : List Nat) : Prop := ∃ q, h.size ≤ q ∧ v = .slice (some ⟨q, 0, none⟩) xs.length xs.length ∧ Mine h' q xs
theorem Fresh.elim {h h' : Hp} {v : Value} {xs : List Nat} {K : Option Addr → Nat → Nat → Prop} (f : Fresh h h' v xs) (g : ∀ q, h.size ≤ q → Mine h' q xs → K (some ⟨q, 0, none⟩) xs.length xs.length) : gSlice v K := by
  obtain ⟨q, hq, e, o⟩ := f
  subst e; exact g q hq o
end Go.Proofs.Ytdpkfipkjdlmlaa.G

/- What fill, slabs, thirds, product and Mul answer. -/
namespace Go.Proofs.Ytdpkfipkjdlmlaa.G
open Go.Gv
set_option maxRecDepth 100000
/-! ### the great recursion -/
end Go.Proofs.Ytdpkfipkjdlmlaa.G

/- The law NatmulRing of the translation answers true. -/
namespace Go.Proofs.Ytdpkfipkjdlmlaa.G
open Go.Gv
set_option maxRecDepth 100000
end Go.Proofs.Ytdpkfipkjdlmlaa.G

/- What next, power and Pow answer. -/
namespace Go.Proofs.Ytdpkfipkjdlmlaa.G
open Go.Gv
set_option maxRecDepth 100000
/-- A list that fills the beginning of a block of so many cells. -/
def Room (h : Hp) (q room : Nat) (xs : List Nat) : Prop := ∃ rest, Own h q (xs ++ rest) ∧ (xs ++ rest).length = room
theorem Room.keepB {h h' : Hp} {q p room : Nat} {xs : List Nat} (o : Room h p room xs) (hb : p ≠ q) (k : KeepB q h h') : Room h' p room xs := by
  obtain ⟨r, o, e⟩ := o; exact ⟨r, o.keepB hb k, e⟩
theorem Room.nil {h : Hp} {p room : Nat} {xs : List Nat} (o : Room h p room xs) : Room h p room [] := by
  obtain ⟨r, o, e⟩ := o; exact ⟨xs ++ r, o, e⟩
theorem Room.le {h : Hp} {p room : Nat} {xs : List Nat} (o : Room h p room xs) : xs.length ≤ room := by
  obtain ⟨r, o, e⟩ := o; rw [List.length_append] at e; omega
theorem Room.take {h : Hp} {p room : Nat} {xs : List Nat} (o : Room h p room xs) (n : Nat) : Room h p room (xs.take n) := by
  obtain ⟨r, o, e⟩ := o; exact ⟨xs.drop n ++ r, by rw [← List.append_assoc, List.take_append_drop]; exact o, by rw [← List.append_assoc, List.take_append_drop]; exact e⟩
/-! ### the rounds: V is what is reached, from n's top bit down -/
structure PowSt (h0 h : Hp) (p q room : Nat) (V : Nat) : Prop where
  kp : Keep h0 h
  hp : h0.size ≤ p
  hq : h0.size ≤ q
  ne : p ≠ q
  z : Room h p room (digs V)
  s : Room h q room []
end Go.Proofs.Ytdpkfipkjdlmlaa.G

/- Answers of layers 1 and 2 on numbers whose limbs are few. -/
namespace Go.Proofs.Ytdpkfipkjdlmlaa.G
open Go.Gv
set_option linter.unusedVariables false
set_option maxRecDepth 100000
/-! ### answers on numbers -/
section
variable {X Y j k n w : Nat}
theorem frm_d (h : (digs X).length ≤ 8192) : Frm (digs X) := ⟨h, trimL_digs X⟩
theorem lim_d (h : (digs X).length ≤ 8192) : lim X = (digs X, 0) := by unfold lim; rw [if_pos h]
theorem addS_d (hx : (digs X).length ≤ 8192) (hy : (digs Y).length ≤ 8192) (hs : (digs (X + Y)).length ≤ 8192) : addS (digs X) (digs Y) = (digs (X + Y), 0) := by
  unfold addS; rw [if_pos ⟨frm_d hx, frm_d hy⟩, val_digs, val_digs, lim_d hs]
theorem mulWS_d (hx : (digs X).length ≤ 8192) (hs : (digs (X * w)).length ≤ 8192) : mulWS (digs X) w = (digs (X * w), 0) := by
  unfold mulWS; rw [if_pos (frm_d hx), val_digs, lim_d hs]
theorem divWS_d (hx : (digs X).length ≤ 8192) (hw : w ≠ 0) : divWS (digs X) w = (digs (X / w), ((X % w : Nat) : Int), 0) := by
  unfold divWS; rw [if_pos (frm_d hx), if_neg hw, val_digs]
theorem dl_pos (h : X ≠ 0) : 1 ≤ (digs X).length := by rw [digs_pos h]; simp
end
end Go.Proofs.Ytdpkfipkjdlmlaa.G

/- What root and Root answer, and the reference's Root, DocQuoRem, DocRoot. -/
namespace Go.Proofs.Ytdpkfipkjdlmlaa.G
open Go.Gv
set_option maxRecDepth 100000
set_option linter.unusedVariables false
theorem AnsQ.elim {h0 h : Hp} {v : Value} {p : List Nat × List Nat × Int} {K : Option Addr → Nat → Nat → Option Addr → Nat → Nat → Int → Prop} (a : AnsQ h0 h v p) (g : ∀ a c b d, GotE eU64 h0 h a c p.1 → GotE eU64 h0 h b d p.2.1 → K a p.1.length c b p.2.1.length d p.2.2) :
    gTup v fun y => uncons y fun v1 y1 => gSlice v1 fun a l c => uncons y1 fun v2 y2 => gSlice v2 fun b m d => uncons y2 fun v3 y3 => gInt .i64 v3 fun x => unnil y3 (K a l c b m d x) := by
  obtain ⟨x, y, z, e, ⟨a, c, e1, r⟩, ⟨b, d, e2, s⟩, e3, _⟩ := a
  subst e; subst e1; subst e2; subst e3; exact g a c b d r s
/-! ### the reference -/
abbrev sDD : An (Nat × Nat) := s2 sD sD
theorem sDD.elim {h0 h : Hp} {v : Value} {p : Nat × Nat} {K : Option Addr → Nat → Nat → Option Addr → Nat → Nat → Prop} (a : s2 sD sD h0 h v p) (g : ∀ a c b d, GotE eU32 h0 h a c (D.digs p.1) → GotE eU32 h0 h b d (D.digs p.2) → K a (D.digs p.1).length c b (D.digs p.2).length d) :
    gTup v fun y => uncons y fun v1 y1 => gSlice v1 fun a l c => uncons y1 fun v2 y2 => gSlice v2 fun b m d => unnil y2 (K a l c b m d) := by
  obtain ⟨x, y, e, ⟨a, c, e1, r⟩, ⟨b, d, e2, s⟩⟩ := a
  subst e; subst e1; subst e2; exact g a c b d r s
end Go.Proofs.Ytdpkfipkjdlmlaa.G

/- The laws NatdivDivides, NatdivSquares, NatdivUndoes of the translation answer true. -/
namespace Go.Proofs.Ytdpkfipkjdlmlaa.G
open Go.Gv
set_option maxRecDepth 100000
set_option linter.unusedVariables false
theorem digs1 {w : Nat} (h0 : w ≠ 0) (h : w < 18446744073709551616) : digs w = [w] := by
  rw [digs_pos h0, Nat.mod_eq_of_lt h, Nat.div_eq_of_lt h, digs_zero]
end Go.Proofs.Ytdpkfipkjdlmlaa.G

/- Read of decimal digits, the program's and the document's. -/
namespace Go.Proofs.Ytdpkfipkjdlmlaa.G
open Go.Gv
set_option maxRecDepth 100000
set_option linter.unusedVariables false
def readS (s : ByteArray) : List Nat × Int := if 4900 < s.size then ([], 7) else if s.size = 0 then ([], 8) else if (byt s).all isD = true then (digs (num (byt s)), 0) else ([], 8)
theorem readS_no {s : ByteArray} {i : Nat} (h1 : s.size ≤ 4900) (hi : i < s.size) (h : ¬ (48 ≤ (byt s).getD i 0 ∧ (byt s).getD i 0 ≤ 57)) : readS s = ([], 8) := by
  unfold readS
  rw [if_neg (by omega), if_neg (by omega), if_neg]
  intro ha
  have hl : i < (byt s).length := by rw [byt_len]; exact hi
  have := List.all_eq_true.mp ha ((byt s).getD i 0) (by
    have e : (byt s).getD i 0 = (byt s)[i] := by simp [List.getD, hl]
    rw [e]; exact List.getElem_mem hl)
  simp only [isD, decide_eq_true_eq] at this
  exact h this
theorem readS_yes {s : ByteArray} (h1 : s.size ≤ 4900) (h0 : s.size ≠ 0) (h : ∀ b ∈ byt s, isD b = true) : readS s = (digs (num (byt s)), 0) := by
  unfold readS
  rw [if_neg (by omega), if_neg h0, if_pos (List.all_eq_true.mpr h)]
theorem take_all {s : ByteArray} : (byt s).take s.size = byt s := by rw [← byt_len]; exact List.take_length
theorem digit_snoc {s : ByteArray} {i : Nat} (hi : i < s.size) (hd : ∀ b ∈ (byt s).take i, isD b = true) (h : 48 ≤ (byt s).getD i 0 ∧ (byt s).getD i 0 ≤ 57) : ∀ b ∈ (byt s).take (i + 1), isD b = true := by
  intro b hb
  rw [take_byt (by rw [byt_len]; exact hi)] at hb
  rcases List.mem_append.mp hb with h1 | h1
  · exact hd b h1
  · rw [List.mem_singleton.mp h1]; exact decide_eq_true h
theorem num_bound {s : ByteArray} (h1 : s.size ≤ 4900) {i : Nat} (hi : i ≤ s.size) (hd : ∀ b ∈ (byt s).take i, isD b = true) : num ((byt s).take i) < 10 ^ i := by
  have := num_lt hd i (by rw [List.length_take, byt_len]; omega)
  rwa [List.take_take, Nat.min_self] at this
/-! ### the document's -/
theorem readS_long {s : ByteArray} (h : 4900 < s.size) : readS s = ([], 7) := if_pos h
theorem readS_nil {s : ByteArray} (h : s.size = 0) : readS s = ([], 8) := by unfold readS; rw [if_neg (by omega), if_pos h]
/-! ### the program's -/
theorem wrap_i32 {x : Int} (h1 : -2147483648 ≤ x) (h2 : x < 2147483648) : IntKind.i32.wrap x = x := by
  have e1 : (2 : Int) ^ 32 = 4294967296 := by decide
  have e2 : (2 : Int) ^ (32 - 1) = 2147483648 := by decide
  simp only [IntKind.wrap, IntKind.bits, IntKind.signed, Bool.true_and, e1, e2]
  by_cases hx : x % 4294967296 ≥ 2147483648
  · rw [if_pos (by simpa using hx)]; omega
  · rw [if_neg (by simpa using hx)]; omega
theorem pow19 {j : Nat} (h : j ≤ 19) : 10 ^ j ≤ 10000000000000000000 := Nat.le_trans (Nat.pow_le_pow_right (by decide) h) (show 10 ^ 19 ≤ 10000000000000000000 by decide)
theorem Read_flush {K : Option Addr → Nat → Nat → Hp → Prop} {h0 h : Hp} {a : Option Addr} {c A w p T : Nat} (g : GotE eU64 h0 h a c (digs A)) (kp : Keep h0 h) (hp0 : 0 < p) (hp : p < 18446744073709551616) (hw : w < 18446744073709551616) (eT : A * p + w = T) (hT : (digs T).length ≤ 8192)
    (post : ∀ a' c' h', GotE eU64 h0 h' a' c' (digs T) → Keep h h' → K a' (digs T).length c' h') :
    HC nat_MulWord.id #[.slice a (digs A).length c, .int .u64 (p : Int)] h fun v10 h11 =>
      gTup v10 fun y12 => uncons y12 fun v13 y13 => gSlice v13 fun a_14 l_14 c_14 => uncons y13 fun v15 y15 => gInt .i64 v15 fun x_16 => unnil y15 <|
        HC nat_Word.id #[.int .u64 (w : Int)] h11 fun v17 h18 => gSlice v17 fun a_19 l_19 c_19 =>
          HC nat_Add.id #[.slice a_14 l_14 c_14, .slice a_19 l_19 c_19] h18 fun v20 h21 =>
            gTup v20 fun y22 => uncons y22 fun v23 y23 => gSlice v23 fun a_24 l_24 c_24 => uncons y23 fun v25 y25 => gInt .i64 v25 fun x_26 => unnil y25 <| K a_24 l_24 c_24 h21 := by
  subst eT
  have hA : (digs A).length ≤ 8192 := Nat.le_trans (digs_len_mono (by
    calc A = A * 1 := (Nat.mul_one _).symm
      _ ≤ A * p := Nat.mul_le_mul_left _ hp0
      _ ≤ A * p + w := Nat.le_add_right _ _)) hT
  have hAp : (digs (A * p)).length ≤ 8192 := Nat.le_trans (digs_len_mono (Nat.le_add_right _ _)) hT
  have hww : (digs w).length ≤ 8192 := Nat.le_trans (digs_len_mono (Nat.le_add_left _ _)) hT
  refine hc_intro (MulWord_spec g.rd64 rfl hp) fun v h1 ⟨k1, an⟩ => ?_
  rw [mulWS_d hA hAp] at an
  refine an.elimG fun a1 c1 g1 _ => ?_
  refine hc_intro (Word_spec hw h1) fun v h2 ⟨k2, an⟩ => ?_
  refine an.elimG fun a2 c2 g2 => ?_
  refine hc_intro (Add_spec (g1.keep k2).rd64 g2.rd64 rfl rfl) fun v h3 ⟨k3, an⟩ => ?_
  rw [addS_d hAp hww hT] at an
  refine an.elimG fun a3 c3 g3 _ => ?_
  exact post a3 c3 h3 (g3.from (Nat.le_trans kp.le (Nat.le_trans k1.le k2.le))) (k1.trans (k2.trans k3))
theorem Read_walk {R : Rt} {s : ByteArray} {h0 : Hp} {b : Nat} (hb : h0.size ≤ b) (hs : s.size ≤ 4900) (hs0 : s.size ≠ 0) (post : ∀ v h', Keep h0 h' → Ans h0 h' v (readS s) → R v h') :
    ∀ (k i j p A w : Nat) (a : Option Addr) (c : Nat) (h : Hp), i + k = s.size → j < 19 → (k = 0 → j = 0) → p = 10 ^ j → (∀ b ∈ (byt s).take i, isD b = true) → A * p + w = num ((byt s).take i) → w < p → h[b]? = some (.stringIter s i) →
      GotE eU64 h0 h a c (digs A) → Keep h0 h → natdiv_Read.L4.t R (k + 1) s a (digs A).length c (w : Int) (p : Int) ⟨b, 0, none⟩ h := by
  intro k
  induction k with
  | zero =>
    intro i j p A w a c h hi hj hj0 hp hd e hw it g kp
    unfold natdiv_Read.L4.t natdiv_Read.D5.t
    refine nx_intro it (fun _ => ?_) (fun h' h1 => absurd h1 (by omega)) (fun h' c h1 => absurd h1 (by omega))
    have e0 : i = s.size := by omega
    subst e0
    have ej := hj0 rfl
    subst ej
    subst hp
    rw [take_all] at hd e
    have ew : w = 0 := by rw [Nat.pow_zero] at hw; omega
    subst ew
    rw [Nat.pow_zero, Nat.mul_one, Nat.add_zero] at e
    subst e
    unfold natdiv_Read.D2.t
    have e := readS_yes hs hs0 hd
    exact post _ _ kp (Ans.mk (by rw [e]) (by rw [e]) (by rw [e]; exact g) (by rw [e]; exact (by decide : In .i64 0)))
  | succ k ih =>
    intro i j p A w a c h hi hj hj0 hp hd e hw it g kp
    have no : ∀ h', ¬ (48 ≤ (byt s).getD i 0 ∧ (byt s).getD i 0 ≤ 57) → KeepI b h h' → R (.tuple #[.slice none 0 0, .int .i64 8]) h' := fun h' hx k' => by
      refine post _ _ (k'.keep kp hb) ?_
      rw [readS_no hs (by omega) hx]; exact Ans.none
    have hp19 := pow19 (j := j) (by omega)
    have hp18 : 10 ^ (j + 1) ≤ 10000000000000000000 := pow19 (by omega)
    rw [Nat.pow_succ] at hp18
    rw [← hp] at hp19 hp18
    unfold natdiv_Read.L4.t natdiv_Read.D5.t
    refine nx_intro it (fun h1 => absurd h1 (by omega)) (fun h' h1 hx it' k' => ?_) (fun h' r h1 hx hr k' => ?_)
    · refine c_dec (fun hb => no h' (by omega) k') fun h2 => ?_
      refine c_dec (fun hb => no h' (by omega) k') fun h3 => ?_
      have hd' := digit_snoc (i := i) (by omega) hd (by omega)
      have hT := num_bound hs (i := i + 1) (by omega) hd'
      have hn := num_take (bs := byt s) (i := i) (by rw [byt_len]; omega)
      generalize hx' : (byt s).getD i 0 = x at *
      refine k_u64 (w * 10) (by omega) (by omega) ?_
      refine letK_out ?_
      have e1 : IntKind.i32.wrap ((x : Int) - 48) = ((x - 48 : Nat) : Int) := by rw [wrap_i32 (by omega) (by omega)]; omega
      rw [e1]
      refine k_u64 (x - 48) rfl (by omega) ?_
      refine k_u64 (w * 10 + (x - 48)) (by omega) (by omega) ?_
      refine k_u64 (p * 10) (by omega) (by omega) ?_
      have eT : A * (p * 10) + (w * 10 + (x - 48)) = num ((byt s).take (i + 1)) := by
        rw [hn, ← e, Nat.add_mul, Nat.mul_assoc]; omega
      have hTl : (digs (num ((byt s).take (i + 1)))).length ≤ 8192 := digs_10 hT (by omega)
      have flush : HC nat_MulWord.id #[.slice a (digs A).length c, .int .u64 ((p * 10 : Nat) : Int)] h' fun v10 h11 =>
          gTup v10 fun y12 => uncons y12 fun v13 y13 => gSlice v13 fun a_14 l_14 c_14 => uncons y13 fun v15 y15 => gInt .i64 v15 fun x_16 => unnil y15 <|
            HC nat_Word.id #[.int .u64 ((w * 10 + (x - 48) : Nat) : Int)] h11 fun v17 h18 => gSlice v17 fun a_19 l_19 c_19 =>
              HC nat_Add.id #[.slice a_14 l_14 c_14, .slice a_19 l_19 c_19] h18 fun v20 h21 =>
                gTup v20 fun y22 => uncons y22 fun v23 y23 => gSlice v23 fun a_24 l_24 c_24 => uncons y23 fun v25 y25 => gInt .i64 v25 fun x_26 => unnil y25 <| natdiv_Read.L4.t R (k + 1) s a_24 l_24 c_24 0 1 ⟨b, 0, none⟩ h21 := by
        refine Read_flush (g.keepI k') (k'.keep kp hb) (by omega) (by omega) (by omega) eT hTl fun a2 c2 h2 g2 k2 => ?_
        refine ih (i + 1) 0 1 (num ((byt s).take (i + 1))) 0 a2 c2 h2 (by omega) (by decide) (fun _ => rfl) rfl hd' (by rw [Nat.mul_one, Nat.add_zero]) (by decide) ?_ g2 ((k'.keep kp hb).trans k2)
        rw [k2.pre b (by
          rcases Nat.lt_or_ge b h'.size with h4 | h4
          · exact h4
          · rw [Array.getElem?_eq_none h4] at it'; cases it')]
        exact it'
      refine c_eq (fun h4 => flush) fun h4 => ?_
      refine k_i64 ((s.size : Int) - 1) rfl (by omega) (by omega) ?_
      refine c_eq (fun h5 => flush) fun h5 => ?_
      have hj1 : j + 1 < 19 := by
        refine Nat.lt_of_le_of_ne (by omega) fun hh => h4 ?_
        rw [hp, ← Nat.pow_succ, show j.succ = 19 by omega]; decide
      exact ih (i + 1) (j + 1) (p * 10) A (w * 10 + (x - 48)) a c h' (by omega) hj1 (fun hk => absurd hk (by omega)) (by rw [hp, Nat.pow_succ]) hd' eT (by omega) it' (g.keepI k') (k'.keep kp hb)
    · refine c_dec (fun hb => absurd hb (by omega)) fun _ => ?_
      exact c_dec (fun _ => no h' (by omega) k') fun hb => absurd (by omega) hb
theorem Read_spec (s : ByteArray) (h : Hp) : HC natdiv_Read.id #[.string s] h fun v h' => Keep h h' ∧ Ans h h' v (readS s) := by
  refine natdiv_Read.ok ?_
  unfold natdiv_Read.t natdiv_Read.D1.t
  refine c_dec (fun hb => ?_) fun hb => ?_
  · exact ⟨Keep.refl _, by rw [readS_long (by omega)]; exact Ans.none⟩
  refine c_str (fun e => ?_) fun e => ?_
  · exact ⟨Keep.refl _, by rw [readS_nil (by rw [e]; rfl)]; exact Ans.none⟩
  have h0 : s.size ≠ 0 := fun hh => e (ByteArray.ext (Array.eq_empty_of_size_eq_zero hh))
  unfold natdiv_Read.D3.t
  refine rg_intro fun h1 it k1 => ?_
  refine ⟨s.size + 1, ?_⟩
  have := Read_walk (R := fun v h' => Keep h h' ∧ Ans h h' v (readS s)) (Nat.le_refl h.size) (by omega) h0 (fun v h' k a => ⟨k, a⟩) s.size 0 0 1 0 0 none 0 h1 (by omega) (by decide) (fun _ => rfl) rfl (by simp) (by simp [num]) (by decide) it (by rw [digs_zero]; exact GotE.nil _ _) k1
  rw [digs_zero] at this
  exact this
end Go.Proofs.Ytdpkfipkjdlmlaa.G

/- apart answers true where each of the lists has memory of its own. -/
namespace Go.Proofs.Ytdpkfipkjdlmlaa.G
open Go.Gv
set_option maxRecDepth 100000
set_option linter.unusedVariables false
/-! ### marks -/
def m3 (x y : Int) : Nat := (IntKind.u64.wrap (IntKind.u64.wrap (IntKind.u64.wrap (IntKind.u64.wrap (IntKind.i64.wrap (x + 1)) * 1000003) + IntKind.u64.wrap (IntKind.u64.wrap y * 7919)) + 6485183463413514240)).toNat
theorem m3_lt (x y : Int) : m3 x y < 18446744073709551616 := by
  unfold m3; rw [wrap_u64]; omega
theorem mark_intro {h : Hp} {x y : Int} {K : Int → Prop} (g : K (m3 x y : Nat)) : HQC gnomonlaw03_mark.id #[.int .i64 x, .int .i64 y] h fun v => gInt .u64 v K := by
  refine ⟨.int .u64 (m3 x y : Nat), ?_, gInt_intro rfl g⟩
  refine gnomonlaw03_mark.ok ?_
  unfold gnomonlaw03_mark.t gnomonlaw03_mark.D1.t
  refine letK_out (letK_out (letK_out (letK_out (letK_out (letK_out (letK_out ?_))))))
  refine ⟨?_, rfl⟩
  have : ((m3 x y : Nat) : Int) = IntKind.u64.wrap (IntKind.u64.wrap (IntKind.u64.wrap (IntKind.u64.wrap (IntKind.i64.wrap (x + 1)) * 1000003) + IntKind.u64.wrap (IntKind.u64.wrap y * 7919)) + 6485183463413514240) := by
    unfold m3; rw [Int.toNat_of_nonneg]; rw [wrap_u64]; omega
  rw [this]
def mks (i : Nat) : Nat → Nat → List Nat
  | _, 0 => []
  | k, n + 1 => m3 (i : Int) (k : Int) :: mks i (k + 1) n
theorem mks_len (i : Nat) : ∀ k n, (mks i k n).length = n
  | _, 0 => rfl
  | k, n + 1 => by simp [mks, mks_len i (k + 1) n]
theorem mks_ok (i : Nat) : ∀ k n, ∀ x ∈ mks i k n, x < 18446744073709551616
  | _, 0 => by simp [mks]
  | k, n + 1 => by
    intro x hx
    rcases List.mem_cons.mp hx with e | e
    · subst e; exact m3_lt _ _
    · exact mks_ok i (k + 1) n x e
theorem mks_add (i : Nat) : ∀ k n m, mks i k (n + m) = mks i k n ++ mks i (k + n) m
  | k, 0, m => by simp [mks]
  | k, n + 1, m => by
    rw [show n + 1 + m = (n + m) + 1 by omega]
    simp only [mks, List.cons_append]
    rw [mks_add i (k + 1) n m, show k + 1 + n = k + (n + 1) by omega]
theorem mks_snoc (i k n : Nat) : mks i k (n + 1) = mks i k n ++ [m3 (i : Int) ((k + n : Nat) : Int)] := by rw [mks_add]; rfl
theorem mks_get (i : Nat) : ∀ k n j, j < n → (mks i k n)[j]? = some (m3 (i : Int) ((k + j : Nat) : Int))
  | k, 0, j, h => absurd h (by omega)
  | k, n + 1, 0, _ => by simp [mks]
  | k, n + 1, j + 1, h => by
    simp only [mks, List.getElem?_cons_succ]
    rw [mks_get i (k + 1) n j (by omega), show k + 1 + j = k + (j + 1) by omega]
theorem mks_getD {i k n j : Nat} (h : j < n) : (mks i k n).getD j 0 = m3 (i : Int) ((k + j : Nat) : Int) := by simp [List.getD, mks_get i k n j h]
/-- What a list grown by marks from p on holds at a place. -/
theorem grown_lo {i l p n j : Nat} (h : j < l) : (mks i 0 l ++ mks i p n).getD j 0 = m3 (i : Int) (j : Int) := by
  simp only [List.getD]
  rw [List.getElem?_append_left (by rw [mks_len]; exact h), mks_get i 0 l j h, Nat.zero_add]; rfl
theorem grown_hi {i l p n j : Nat} (h : l ≤ j) (h2 : j < l + n) : (mks i 0 l ++ mks i p n).getD j 0 = m3 (i : Int) ((p + (j - l) : Nat) : Int) := by
  simp only [List.getD]
  rw [List.getElem?_append_right (by rw [mks_len]; exact h), mks_len, mks_get i p n (j - l) (by omega)]; rfl
/-! ### whose a block is -/
abbrev Om := Nat → Option Nat
structure Ow (O : Om) (h : Hp) (i : Nat) (s : Sl) (xs : List Nat) : Prop where
  l : s.2.1 = xs.length
  cap : xs.length ≤ s.2.2
  lim : xs.length ≤ 17592186044400
  here : (xs = [] ∧ s.1 = none ∧ s.2.2 = 0) ∨ ∃ b rest, s.1 = some ⟨b, 0, none⟩ ∧ O b = some i ∧ BlkE eU64 h b (xs ++ rest) ∧ s.2.2 ≤ (xs ++ rest).length
/-- A step of owner i: it writes its own blocks and makes new ones. -/
structure Fm (O : Om) (i : Nat) (h : Hp) (O' : Om) (h' : Hp) : Prop where
  le : h.size ≤ h'.size
  own : ∀ b, b < h.size → O' b = O b
  pre : ∀ b, b < h.size → O b ≠ some i → h'[b]? = h[b]?
  top : (∀ b, h.size ≤ b → O b = none) → ∀ b, h'.size ≤ b → O' b = none
theorem Fm.refl (O : Om) (i : Nat) (h : Hp) : Fm O i h O h := ⟨Nat.le_refl _, fun _ _ => rfl, fun _ _ _ => rfl, fun t => t⟩
theorem Fm.trans {O O' O'' : Om} {i : Nat} {h h' h'' : Hp} (x : Fm O i h O' h') (y : Fm O' i h' O'' h'') : Fm O i h O'' h'' :=
  ⟨Nat.le_trans x.le y.le, fun b hb => (y.own b (Nat.lt_of_lt_of_le hb x.le)).trans (x.own b hb), fun b hb ho => (y.pre b (Nat.lt_of_lt_of_le hb x.le) (by rw [x.own b hb]; exact ho)).trans (x.pre b hb ho), fun t => y.top (x.top t)⟩
theorem Fm.of_keep {h h' : Hp} (k : Keep h h') (O : Om) (i : Nat) : Fm O i h O h' := ⟨k.le, fun _ _ => rfl, fun b hb _ => k.pre b hb, fun t b hb => t b (Nat.le_trans k.le hb)⟩
theorem Fm.of_keepB {h h' : Hp} {q : Nat} (k : KeepB q h h') {O : Om} {i : Nat} (hq : O q = some i) : Fm O i h O h' := ⟨k.le, fun _ _ => rfl, fun b hb ho => k.pre b hb (fun e => ho (by rw [e]; exact hq)), fun t b hb => t b (Nat.le_trans k.le hb)⟩
theorem Fm.keep {O O' : Om} {i : Nat} {h0 h h' : Hp} (f : Fm O i h O' h') (k : Keep h0 h) (ho : ∀ b, b < h0.size → O b = none) : Keep h0 h' :=
  ⟨Nat.le_trans k.le f.le, fun b hb => (f.pre b (Nat.lt_of_lt_of_le hb k.le) (by rw [ho b hb]; intro e; cases e)).trans (k.pre b hb)⟩
theorem Fm.old {O O' : Om} {i : Nat} {h0 h h' : Hp} (f : Fm O i h O' h') (k : Keep h0 h) (ho : ∀ b, b < h0.size → O b = none) : ∀ b, b < h0.size → O' b = none :=
  fun b hb => (f.own b (Nat.lt_of_lt_of_le hb k.le)).trans (ho b hb)
theorem Fm.blk {α : Type} {E : El α} {O O' : Om} {i b : Nat} {h h' : Hp} {zs : List α} (f : Fm O i h O' h') (o : BlkE E h b zs) (hb : O b = none) : BlkE E h' b zs ∧ O' b = none := by
  obtain ⟨e, g⟩ := o.at_
  exact ⟨⟨o.ok, e, by rw [f.pre b o.lt (by rw [hb]; intro e; cases e)]; exact g⟩, (f.own b o.lt).trans hb⟩
theorem Ow.rd {O : Om} {h : Hp} {i : Nat} {s : Sl} {xs : List Nat} (w : Ow O h i s xs) : Rd h s.1 s.2.2 xs := by
  rcases w.here with ⟨e1, e2, e3⟩ | ⟨b, rest, e1, _, o, _⟩
  · subst e1; exact Rd.nil _ _ _
  · rw [e1]; exact (o.rd (Nat.le_trans w.lim (by show _ ≤ 35184372088828; decide)) w.cap).to64
theorem Ow.other {O O' : Om} {h h' : Hp} {i j : Nat} {s : Sl} {xs : List Nat} (w : Ow O h j s xs) (f : Fm O i h O' h') (hij : j ≠ i) : Ow O' h' j s xs :=
  ⟨w.l, w.cap, w.lim, w.here.imp id fun ⟨b, rest, e1, e2, o, e3⟩ => by
    obtain ⟨e, g⟩ := o.at_
    exact ⟨b, rest, e1, (f.own b o.lt).trans e2, ⟨o.ok, e, by rw [f.pre b o.lt (by rw [e2]; intro hh; cases hh; exact hij rfl)]; exact g⟩, e3⟩⟩
theorem Ow.keep {O : Om} {h h' : Hp} {i : Nat} {s : Sl} {xs : List Nat} (w : Ow O h i s xs) (k : Keep h h') : Ow O h' i s xs :=
  ⟨w.l, w.cap, w.lim, w.here.imp id fun ⟨b, rest, e1, e2, o, e3⟩ => ⟨b, rest, e1, e2, o.keep k, e3⟩⟩
theorem Ow.keepB {O : Om} {h h' : Hp} {q i : Nat} {s : Sl} {xs : List Nat} (w : Ow O h i s xs) (k : KeepB q h h') (hq : O q = none) : Ow O h' i s xs :=
  ⟨w.l, w.cap, w.lim, w.here.imp id fun ⟨b, rest, e1, e2, o, e3⟩ => ⟨b, rest, e1, e2, o.keepB (fun hh => by rw [hh, hq] at e2; cases e2) k, e3⟩⟩
/-- A place of a list is written by its owner. -/
theorem ow_put {O : Om} {h : Hp} {i j : Nat} {s : Sl} {xs : List Nat} {v : Nat} (w : Ow O h i s xs) {x : Int} (hx : x = (j : Int)) (hj : j < xs.length) (hv : v < 18446744073709551616) {K : Hp → Prop}
    (g : ∀ h', Ow O h' i s (xs.set j v) → Fm O i h O h' → K h') : idxK s.1 s.2.1 x 1 fun q => stK h q (.int .u64 (v : Int)) K := by
  rcases w.here with ⟨e1, _, _⟩ | ⟨b, rest, e1, e2, o, e3⟩
  · subst e1; simp at hj
  · rw [e1, w.l]
    refine putE0 o hx hj (by rw [List.length_append]; omega) rfl hv fun o2 k2 => ?_
    refine g _ ⟨by rw [List.length_set]; exact w.l, by rw [List.length_set]; exact w.cap, by rw [List.length_set]; exact w.lim, Or.inr ⟨b, rest, e1, e2, ?_, ?_⟩⟩ (Fm.of_keepB k2 e2)
    · rw [List.set_append_left _ _ hj] at o2; exact o2
    · rw [List.length_append, List.length_set]; rw [List.length_append] at e3; exact e3
/-- append, in place or into a new block. -/
theorem apE4 {α : Type} {E : El α} {h0 h : Hp} {e : TypeId} {i : TyI} {a a2 : Option Addr} {l c c2 c3 n : Nat} {xs ys : List α} (g : GotE E h0 h a c xs) (k0 : h0.size ≤ h.size) (r : RdE E h a2 c2 ys) (hl : l = xs.length) (hn : n = ys.length) (hlv : i.leaves.length = 1) (z : α) (hz : i.zs = [E.enc z]) (hzo : E.ok z)
    (by_ : Nat) (hb : i.bytes = by_) (hb1 : 1 ≤ by_) (hlim : xs.length + ys.length ≤ E.lim) (hfit : c < xs.length + ys.length → (xs.length + ys.length) * by_ ≤ 140737488355328) {K : Option Addr → Nat → Nat → Hp → Prop}
    (stay : xs.length + ys.length ≤ c → ∀ h', GotE E h0 h' a c (xs ++ ys) → KeepX a h h' → K a (xs.length + ys.length) c h')
    (move : ¬ xs.length + ys.length ≤ c → ∀ b c' h', GotE E h0 h' (some ⟨b, 0, none⟩) c' (xs ++ ys) → Keep h h' → h.size ≤ b → K (some ⟨b, 0, none⟩) (xs.length + ys.length) c' h') : apK h e i a l c (.slice a2 n c3) K := by
  subst hl; subst hn; subst hb
  have hm := g.cap
  refine ⟨ys.length, ys.map E.enc, rfl, ?_, ?_, ?_⟩
  · rw [hlv]; have := r.srcL (l := ys.length) (c2 := c3) ys.length (Nat.le_refl _); rw [List.take_length] at this; exact this
  · intro hfc
    rcases g.here with ⟨e1, e2, e3⟩ | ⟨b, rest, e1, e2, o, e3⟩
    · subst e1; subst e2; subst e3
      have : ys = [] := List.length_eq_zero_iff.mp (by simpa using hfc)
      subst this
      exact stay (Nat.zero_le _) h (GotE.nil _ _) (KeepX.refl _ _)
    · subst e1
      rw [hlv, Nat.mul_one]
      show StL h ((⟨b, 0, none⟩ : Addr).add xs.length) 0 (List.map E.enc ys).length ∧ K (some ⟨b, 0, none⟩) (xs.length + ys.length) c (stH h ((⟨b, 0, none⟩ : Addr).add xs.length) 0 (List.map E.enc ys))
      rw [base_add]
      have hrest : ys.length ≤ rest.length := by rw [List.length_append] at e3; omega
      have st := stHE (vs := ys) (off := xs.length) (i := 0) o r.ok (by rw [List.length_append]; omega)
      refine ⟨stLE_of fun j hj => ?_, ?_⟩
      · rw [List.length_map] at hj
        have e : (⟨b, xs.length, none⟩ : Addr).add (0 + j) = ⟨b, xs.length + j, none⟩ := by
          rw [Nat.zero_add, ← base_add b xs.length, add_add, base_add]
        rw [e]
        obtain ⟨w, hw⟩ : ∃ w, (xs ++ rest)[xs.length + j]? = some w := ⟨_, List.getElem?_eq_getElem (by rw [List.length_append]; omega)⟩
        exact ⟨⟨_, o.cell hw⟩, o.frozen _⟩
      · have ez : (xs ++ rest).take (xs.length + 0) ++ (ys ++ (xs ++ rest).drop (xs.length + 0 + ys.length)) = (xs ++ ys) ++ rest.drop ys.length := by
          rw [Nat.add_zero, List.take_left, List.drop_append, List.drop_of_length_le (by omega), List.nil_append, List.append_assoc]
          congr 3; omega
        rw [ez] at st
        refine stay hfc _ ?_ ⟨st.2.le, fun b' hb' ho => st.2.pre b' hb' (fun e => ho _ rfl e.symm)⟩
        refine ⟨by rw [List.length_append]; exact hlim, by rw [List.length_append]; exact hfc, Or.inr ⟨b, rest.drop ys.length, rfl, e2, st.1, ?_⟩⟩
        rw [List.length_append] at e3
        rw [List.length_append, List.length_append, List.length_drop]; omega
  · intro hfc
    have hlt : c < xs.length + ys.length := by omega
    have hfit := hfit hlt
    refine ⟨growslice_fits hlt hfit, hb1, ?_, (xs.map E.enc), ?_, ?_⟩
    · have : (xs.length + ys.length) * 1 ≤ (xs.length + ys.length) * i.bytes := Nat.mul_le_mul_left _ hb1
      omega
    · rw [hlv]; have := g.rd.srcL (l := xs.length) (c2 := c) xs.length (Nat.le_refl _); rw [List.take_length] at this; exact this
    · intro nc hnc
      refine move hfc _ _ _ ?_ ⟨by simp, fun b' hb' => by rw [Array.getElem?_push]; rw [if_neg (by omega)]⟩ (Nat.le_refl _)
      have o : BlkE E (h.push (.cells (xs.map E.enc ++ (ys.map E.enc ++ zerosL i.zs (nc - (xs.length + ys.length)))).toArray e (0, 0))) h.size ((xs ++ ys) ++ List.replicate (nc - (xs.length + ys.length)) z) := by
        refine ⟨fun x hx => ?_, e, ?_⟩
        · rcases List.mem_append.mp hx with h1 | h1
          · rcases List.mem_append.mp h1 with h2 | h2
            · exact g.rd.ok x h2
            · exact r.ok x h2
          · rw [List.eq_of_mem_replicate h1]; exact hzo
        · rw [hz, zerosL_one]; simp
      exact o.got k0 (by rw [List.length_append]; exact hlim) (by rw [List.length_append]; exact hnc) (by simp; omega)
/-- append by the owner. -/
theorem ow_ap {O : Om} {h : Hp} {i n c2 c3 : Nat} {s : Sl} {xs ys : List Nat} {a2 : Option Addr} (w : Ow O h i s xs) (r : RdE eU64 h a2 c2 ys) (hn : n = ys.length) (hy : ys ≠ []) (hl : xs.length + ys.length ≤ 17592186044400) {K : Option Addr → Nat → Nat → Hp → Prop}
    (post : ∀ a' c' h' O', Ow O' h' i (a', (xs ++ ys).length, c') (xs ++ ys) → Fm O i h O' h' →
      (∀ (t : Sl) (zs : List Nat), Ow O h i t zs → zs.length ≤ xs.length → (t.1 = s.1 → t.2.2 ≤ s.2.2) → Ow O' h' i t zs ∧ (t.1 = a' → t.2.2 ≤ c')) → K a' (xs ++ ys).length c' h') : apK h 27 T27 s.1 s.2.1 s.2.2 (.slice a2 n c3) K := by
  have g0 : GotE eU64 #[] h s.1 s.2.2 xs := ⟨Nat.le_trans w.lim (by show _ ≤ 35184372088828; decide), w.cap, w.here.imp id fun ⟨b, rest, e1, _, o, e3⟩ => ⟨b, rest, e1, Nat.zero_le _, o, e3⟩⟩
  have hne : xs ++ ys ≠ [] := fun e => hy (List.append_eq_nil_iff.mp e).2
  refine apE4 g0 (Nat.zero_le _) r w.l hn rfl 0 rfl ok64 8 rfl (by decide) (by show _ ≤ 35184372088828; omega) (fun _ => by omega) (fun hf h' g' kx => ?_) (fun hf b' c' h' g' k' hb' => ?_)
  · rw [← List.length_append]
    rcases w.here with ⟨e6, e7, e8⟩ | ⟨b, rest3, e6, e7, o3, e8⟩
    · have := List.length_pos_iff.mpr hy; omega
    · rcases g'.here with ⟨e4, _, _⟩ | ⟨b2, rest2, e4, _, o2, e5⟩
      · exact absurd e4 hne
      have e9 : b2 = b := by rw [e6] at e4; cases e4; rfl
      subst e9
      have fm : Fm O i h O h' := ⟨kx.le, fun _ _ => rfl, fun c hc ho => kx.pre c hc fun p ep eb => ho (by rw [e6] at ep; cases ep; rw [← eb]; exact e7), fun t c hc => t c (Nat.le_trans kx.le hc)⟩
      refine post s.1 s.2.2 h' O ⟨rfl, g'.cap, by rw [List.length_append]; exact hl, Or.inr ⟨b2, rest2, e6, e7, o2, e5⟩⟩ fm fun t zs wt hz htc => ⟨⟨wt.l, wt.cap, wt.lim, ?_⟩, htc⟩
      rcases wt.here with h1 | ⟨b, rest, f1, f2, o, f3⟩
      · exact Or.inl h1
      · refine Or.inr ?_
        by_cases hs : t.1 = s.1
        · have eb : b2 = b := by rw [hs, e6] at f1; cases f1; rfl
          subst eb
          have ec : xs ++ rest3 = zs ++ rest := by
            obtain ⟨t1, g1⟩ := o3.at_
            obtain ⟨t2, g2⟩ := o.at_
            rw [g1] at g2
            simp only [Option.some.injEq, Obj.cells.injEq] at g2
            have h6 := congrArg Array.toList g2.1
            simp only at h6
            exact (List.map_inj_right (fun x y e => by simp [eU64] at e; omega)).mp h6
          have hlz : zs.length ≤ (xs ++ ys ++ rest2).length := by rw [List.length_append, List.length_append]; omega
          refine ⟨b2, (xs ++ ys ++ rest2).drop zs.length, f1, f2, ?_, ?_⟩
          · have ez : zs = (xs ++ ys ++ rest2).take zs.length := by
              rw [List.append_assoc, List.take_append_of_le_length hz]
              have := congrArg (List.take zs.length) ec
              rw [List.take_append_of_le_length hz, List.take_left] at this
              exact this.symm
            have : zs ++ (xs ++ ys ++ rest2).drop zs.length = xs ++ ys ++ rest2 := by
              conv => lhs; rw [ez]
              rw [List.length_take, Nat.min_eq_left hlz, List.take_append_drop]
            rw [this]; exact o2
          · rw [List.length_append, List.length_drop]
            have h7 := htc hs
            omega
        · refine ⟨b, rest, f1, f2, ?_, f3⟩
          refine o.keepX kx fun p ep eb => hs ?_
          rw [e6] at ep; cases ep
          rw [f1, e6, ← eb]
  · rw [← List.length_append]
    rcases g'.here with ⟨e4, _, _⟩ | ⟨b2, rest2, e4, _, o2, e5⟩
    · exact absurd e4 hne
    cases e4
    have fm : Fm O i h (fun c => if c = b' then some i else O c) h' := ⟨k'.le, fun c hc => if_neg (by omega), fun c hc _ => k'.pre c hc, fun t c hc => by
      have h9 := o2.lt
      show (if c = b' then some i else O c) = none
      rw [if_neg (by omega)]; exact t c (Nat.le_trans k'.le hc)⟩
    refine post _ c' h' _ ⟨rfl, g'.cap, by rw [List.length_append]; exact hl, Or.inr ⟨b', rest2, rfl, if_pos rfl, o2, e5⟩⟩ fm fun t zs wt hz htc => ⟨⟨wt.l, wt.cap, wt.lim, ?_⟩, fun et => ?_⟩
    · exact wt.here.imp id fun ⟨b, rest, f1, f2, o, f3⟩ => ⟨b, rest, f1, (fm.own b o.lt).trans f2, o.keep k', f3⟩
    · exfalso
      rcases wt.here with ⟨_, f1, _⟩ | ⟨b, rest, f1, _, o, _⟩
      · rw [f1] at et; cases et
      · rw [f1] at et; cases et
        have := o.lt
        omega
end Go.Proofs.Ytdpkfipkjdlmlaa.G

/- The walk through apart. -/
namespace Go.Proofs.Ytdpkfipkjdlmlaa.G
open Go.Gv
set_option maxRecDepth 100000
set_option linter.unusedVariables false
structure Hdr (O : Om) (h : Hp) (bl : Nat) (hs : List Sl) : Prop where
  blk : BlkE eSl h bl hs
  own : O bl = none
theorem Hdr.fm {O O' : Om} {i bl : Nat} {h h' : Hp} {hs : List Sl} (d : Hdr O h bl hs) (f : Fm O i h O' h') : Hdr O' h' bl hs := ⟨(f.blk d.blk d.own).1, (f.blk d.blk d.own).2⟩
theorem Hdr.keep {O : Om} {bl : Nat} {h h' : Hp} {hs : List Sl} (d : Hdr O h bl hs) (k : Keep h h') : Hdr O h' bl hs := ⟨d.blk.keep k, d.own⟩
theorem Hdr.keepB {O : Om} {bl q : Nat} {h h' : Hp} {hs : List Sl} (d : Hdr O h bl hs) (k : KeepB q h h') (hq : bl ≠ q) : Hdr O h' bl hs := ⟨d.blk.keepB hq k, d.own⟩
theorem at_hdr {O : Om} {bl n j : Nat} {h : Hp} {hs : List Sl} {s : Sl} (d : Hdr O h bl hs) (hn : n = hs.length) (hm : n ≤ 1000) (hj : hs[j]? = some s) {K : Option Addr → Nat → Nat → Prop} (g : K s.1 s.2.1 s.2.2) :
    idxK (some ⟨bl, 0, none⟩) n (j : Int) 1 fun q => ldK h q fun v => gSlice v K :=
  atSl (d.blk.rd' (c := n) (by show _ ≤ 11728124029610; omega) (by omega)) rfl hn hj g
theorem set_take {xs : List Nat} {j v : Nat} (hj : j < xs.length) : (xs.set j v).take (j + 1) = xs.take j ++ [v] := by
  rw [List.take_add_one, List.take_set_of_le (Nat.le_refl j)]
  congr 1
  rw [List.getElem?_set_self hj]; rfl
/-! ### all are written full -/
theorem fill_inner {R : Rt} {N59 : Option Addr → Nat → Nat → Int → Hp → Prop} {O : Om} {bl n i : Nat} {hs : List Sl} {s : Sl} {h0 : Hp} (hlen : n = hs.length) (hn : n ≤ 1000) (hi : hs[i]? = some s)
    (post : ∀ h', Ow O h' i s (mks i 0 s.2.1) → Fm O i h0 O h' → N59 (some ⟨bl, 0, none⟩) n n ((i + 1 : Nat) : Int) h') :
    ∀ (k j : Nat) (xs : List Nat) (h : Hp), j + k = s.2.1 → xs.take j = mks i 0 j → Ow O h i s xs → Hdr O h bl hs → Fm O i h0 O h → gnomonlaw03_apart.L63.t R N59 (k + 1) (some ⟨bl, 0, none⟩) n n (i : Int) (j : Int) h := by
  have hi' := (List.getElem?_eq_some_iff.mp hi).1
  intro k
  induction k with
  | zero =>
    intro j xs h hj hp w d f
    have hl := w.l
    have h9 := w.lim
    unfold gnomonlaw03_apart.L63.t gnomonlaw03_apart.D64.t
    refine at_hdr d hlen hn hi ?_
    refine c_dec (fun hb => absurd hb (by omega)) fun _ => ?_
    unfold gnomonlaw03_apart.D61.t
    refine k_i64 ((i + 1 : Nat) : Int) (by omega) (by omega) (by omega) ?_
    refine post h ?_ f
    rw [List.take_of_length_le (by omega)] at hp
    have : j = s.2.1 := by omega
    rw [← this, ← hp]; exact w
  | succ k ih =>
    intro j xs h hj hp w d f
    have hl := w.l
    have h9 := w.lim
    unfold gnomonlaw03_apart.L63.t gnomonlaw03_apart.D64.t
    refine at_hdr d hlen hn hi ?_
    refine c_dec (fun _ => ?_) fun hb => absurd (by omega) hb
    refine at_hdr d hlen hn hi ?_
    refine mark_intro ?_
    refine ow_put w (j := j) rfl (by omega) (m3_lt _ _) fun h' w' f' => ?_
    refine k_i64 ((j + 1 : Nat) : Int) (by omega) (by omega) (by omega) ?_
    refine ih (j + 1) _ h' (by omega) ?_ w' (d.fm f') (f.trans f')
    rw [set_take (by omega), hp, mks_snoc, Nat.zero_add]
theorem fill_outer {R : Rt} {O : Om} {bl n : Nat} {hs : List Sl} {h00 : Hp} (hlen : n = hs.length) (hn : n ≤ 1000) (old : ∀ b, b < h00.size → O b = none)
    (post : ∀ h', (∀ j s, hs[j]? = some s → Ow O h' j s (mks j 0 s.2.1)) → Hdr O h' bl hs → Keep h00 h' → (∀ b, h'.size ≤ b → O b = none) → gnomonlaw03_apart.D2.t R (some ⟨bl, 0, none⟩) n n h') :
    ∀ (k i : Nat) (h : Hp), i + k = n → (∀ j s, hs[j]? = some s → ∃ xs, Ow O h j s xs ∧ (j < i → xs = mks j 0 s.2.1)) → Hdr O h bl hs → Keep h00 h → (∀ b, h.size ≤ b → O b = none) → gnomonlaw03_apart.L59.t R (k + 1) (some ⟨bl, 0, none⟩) n n (i : Int) h := by
  intro k
  induction k with
  | zero =>
    intro i h hi ws d kp tp
    unfold gnomonlaw03_apart.L59.t gnomonlaw03_apart.D60.t
    refine c_dec (fun hb => absurd hb (by omega)) fun _ => ?_
    refine post h (fun j s hj => ?_) d kp tp
    obtain ⟨xs, w, e⟩ := ws j s hj
    have := (List.getElem?_eq_some_iff.mp hj).1
    rw [← e (by omega)]; exact w
  | succ k ih =>
    intro i h hi ws d kp tp
    unfold gnomonlaw03_apart.L59.t gnomonlaw03_apart.D60.t
    refine c_dec (fun _ => ?_) fun hb => absurd (by omega) hb
    unfold gnomonlaw03_apart.D62.t
    obtain ⟨s, hs'⟩ : ∃ s, hs[i]? = some s := ⟨hs[i]'(by omega), by simp⟩
    obtain ⟨xs, w, _⟩ := ws i s hs'
    refine ⟨s.2.1 + 1, fill_inner (h0 := h) hlen hn hs' (fun h' w' f => ?_) s.2.1 0 xs h (by omega) rfl w d (Fm.refl _ _ _)⟩
    refine ih (i + 1) h' (by omega) (fun j t hj => ?_) (d.fm f) (f.keep kp old) (f.top tp)
    by_cases e : j = i
    · subst e
      rw [hs'] at hj; cases hj
      exact ⟨_, w', fun _ => rfl⟩
    · obtain ⟨ys, w2, e2⟩ := ws j t hj
      exact ⟨ys, w2.other f e, fun hh => e2 (by omega)⟩
/-! ### all are grown one by one -/
theorem grow_inner {R : Rt} {N44 : Option Addr → Nat → Nat → Option Addr → Nat → Nat → Int → Hp → Prop} {O0 : Om} {A G : Option Addr} {n i : Nat} {s : Sl} {h0 : Hp} (hl : s.2.1 + 64 ≤ 17592186044400)
    (post : ∀ a7 c7 O' h', Ow O' h' i s (mks i 0 s.2.1) → Ow O' h' i (a7, (mks i 0 s.2.1 ++ mks i 100000 16).length, c7) (mks i 0 s.2.1 ++ mks i 100000 16) → Fm O0 i h0 O' h' →
      gnomonlaw03_apart.D48.t R N44 A n n G n n (i : Int) a7 (mks i 0 s.2.1 ++ mks i 100000 16).length c7 h') :
    ∀ (k t : Nat) (a7 : Option Addr) (c7 : Nat) (O : Om) (h : Hp), t + k = 16 → Ow O h i s (mks i 0 s.2.1) → Ow O h i (a7, (mks i 0 s.2.1 ++ mks i 100000 t).length, c7) (mks i 0 s.2.1 ++ mks i 100000 t) → (s.1 = a7 → s.2.2 ≤ c7) → Fm O0 i h0 O h →
      gnomonlaw03_apart.L50.t R N44 (k + 1) A n n G n n (i : Int) a7 (mks i 0 s.2.1 ++ mks i 100000 t).length c7 (t : Int) h := by
  intro k
  induction k with
  | zero =>
    intro t a7 c7 O h ht w g hc f
    unfold gnomonlaw03_apart.L50.t gnomonlaw03_apart.D51.t
    refine c_dec (fun hb => absurd hb (by omega)) fun _ => ?_
    have e : t = 16 := by omega
    subst e
    exact post a7 c7 O h w g f
  | succ k ih =>
    intro t a7 c7 O h ht w g hc f
    have ih := ih (t + 1)
    rw [mks_snoc, ← List.append_assoc] at ih
    unfold gnomonlaw03_apart.L50.t gnomonlaw03_apart.D51.t
    refine c_dec (fun _ => ?_) fun hb => absurd (by omega) hb
    refine k_i64 ((100000 + t : Nat) : Int) (by omega) (by omega) (by omega) ?_
    refine mark_intro ?_
    refine boxE eU64 [m3 (i : Int) ((100000 + t : Nat) : Int)] rfl (fun y hy => by rw [List.mem_singleton.mp hy]; exact m3_lt _ _) fun h2 o2 k2 => ?_
    have hlen : (mks i 0 s.2.1 ++ mks i 100000 t).length = s.2.1 + t := by rw [List.length_append, mks_len, mks_len]
    refine ow_ap (s := (a7, _, c7)) (g.keep k2) (o2.rd' (c := 1) (by show 1 ≤ 35184372088828; decide) (Nat.le_refl _)) rfl (by simp) (by rw [hlen, List.length_singleton]; omega) fun a' c' h' O' w' f' tr => ?_
    obtain ⟨ws, hc'⟩ := tr s _ (w.keep k2) (by rw [hlen, mks_len]; omega) hc
    refine k_i64 ((t + 1 : Nat) : Int) (by omega) (by omega) (by omega) ?_
    exact ih a' c' O' h' (by omega) ws w' hc' (f.trans ((Fm.of_keep k2 O i).trans f'))
/-- What the grown lists hold, for the first i of them. -/
def Gr (P q : Nat) (O : Om) (h : Hp) (hs gs : List Sl) (i : Nat) : Prop := ∀ j s, j < i → hs[j]? = some s → ∃ g, gs[j]? = some g ∧ Ow O h j g (mks j 0 s.2.1 ++ mks j P q)
theorem Gr.step {P q i bg : Nat} {O O' : Om} {h h' h'' : Hp} {hs gs : List Sl} {s g : Sl} (gr : Gr P q O h hs gs i) (f : Fm O i h O' h') (k : KeepB bg h' h'') (hbg : O' bg = none) (hi : hs[i]? = some s) (hg : i < gs.length) (w : Ow O' h' i g (mks i 0 s.2.1 ++ mks i P q)) :
    Gr P q O' h'' hs (gs.set i g) (i + 1) := by
  intro j t hj ht
  by_cases e : j = i
  · subst e
    rw [hi] at ht; cases ht
    exact ⟨g, List.getElem?_set_self hg, w.keepB k hbg⟩
  · obtain ⟨g2, e2, w2⟩ := gr j t (by omega) ht
    exact ⟨g2, by rw [List.getElem?_set_ne (fun hh => e hh.symm)]; exact e2, (w2.other f e).keepB k hbg⟩
theorem grow_outer {R : Rt} {bl bg n : Nat} {hs : List Sl} {h00 : Hp} (hlen : n = hs.length) (hn : n ≤ 1000) (hne : bl ≠ bg) (hbg : h00.size ≤ bg) (hl : ∀ (j : Nat) (s : Sl), hs[j]? = some s → s.2.1 + 64 ≤ 17592186044400)
    (post : ∀ O' h' gs, (∀ j s, hs[j]? = some s → Ow O' h' j s (mks j 0 s.2.1)) → Gr 100000 16 O' h' hs gs n → Hdr O' h' bl hs → Hdr O' h' bg gs → gs.length = n → Keep h00 h' → (∀ b, b < h00.size → O' b = none) → (∀ b, h'.size ≤ b → O' b = none) → gnomonlaw03_apart.D31.t R (some ⟨bl, 0, none⟩) n n (some ⟨bg, 0, none⟩) n n h') :
    ∀ (k i : Nat) (O : Om) (h : Hp) (gs : List Sl), i + k = n → (∀ j s, hs[j]? = some s → Ow O h j s (mks j 0 s.2.1)) → Gr 100000 16 O h hs gs i → Hdr O h bl hs → Hdr O h bg gs → gs.length = n → Keep h00 h → (∀ b, b < h00.size → O b = none) → (∀ b, h.size ≤ b → O b = none) →
      gnomonlaw03_apart.L44.t R (k + 1) (some ⟨bl, 0, none⟩) n n (some ⟨bg, 0, none⟩) n n (i : Int) h := by
  intro k
  induction k with
  | zero =>
    intro i O h gs hi ws gr d e hg kp old tp
    unfold gnomonlaw03_apart.L44.t gnomonlaw03_apart.D45.t
    refine c_dec (fun hb => absurd hb (by omega)) fun _ => ?_
    have ei : i = n := by omega
    subst ei
    exact post O h gs ws gr d e hg kp old tp
  | succ k ih =>
    intro i O h gs hi ws gr d e hg kp old tp
    unfold gnomonlaw03_apart.L44.t gnomonlaw03_apart.D45.t
    refine c_dec (fun _ => ?_) fun hb => absurd (by omega) hb
    obtain ⟨s, hs'⟩ : ∃ s, hs[i]? = some s := ⟨hs[i]'(by omega), by simp⟩
    have w := ws i s hs'
    unfold gnomonlaw03_apart.D47.t
    refine at_hdr d hlen hn hs' ?_
    unfold gnomonlaw03_apart.D49.t
    have hsl : s.2.1 = (mks i 0 s.2.1 ++ mks i 100000 0).length := by rw [List.length_append, mks_len, mks_len]; rfl
    have w0 : Ow O h i (s.1, (mks i 0 s.2.1 ++ mks i 100000 0).length, s.2.2) (mks i 0 s.2.1 ++ mks i 100000 0) := by
      rw [← hsl]
      have : mks i 0 s.2.1 ++ mks i 100000 0 = mks i 0 s.2.1 := by simp [mks]
      rw [this]; exact w
    refine ⟨17, ?_⟩
    rw [hsl]
    have := grow_inner (R := R) (N44 := gnomonlaw03_apart.L44.t R (k + 1)) (O0 := O) (A := some ⟨bl, 0, none⟩) (G := some ⟨bg, 0, none⟩) (n := n) (i := i) (s := s) (h0 := h) (hl i s hs') (fun a7 c7 O' h' w' g' f => ?_) 16 0 s.1 s.2.2 O h rfl w w0 (fun _ => Nat.le_refl _) (Fm.refl _ _ _)
    · rw [← hsl] at this ⊢
      exact this
    · unfold gnomonlaw03_apart.D48.t
      have d' := d.fm f
      have e' := e.fm f
      refine putE0 e'.blk (j := i) (v := (a7, _, c7)) rfl (by omega) (by omega) rfl trivial fun o2 k2 => ?_
      unfold gnomonlaw03_apart.D46.t
      refine k_i64 ((i + 1 : Nat) : Int) (by omega) (by omega) (by omega) ?_
      refine ih (i + 1) O' _ _ (by omega) (fun j t hj => ?_) (gr.step f k2 e'.own hs' (by omega) g') (d'.keepB k2 hne) ⟨o2, e'.own⟩ (by rw [List.length_set]; exact hg) (k2.keepN (f.keep kp old) hbg) (f.old kp old) (fun b hb => f.top tp b (Nat.le_trans k2.le hb))
      by_cases e : j = i
      · subst e
        rw [hs'] at hj; cases hj
        exact w'.keepB k2 e'.own
      · exact ((ws j t hj).other f e).keepB k2 e'.own
/-! ### all are looked at -/
theorem look1_inner {R : Rt} {N32 : Option Addr → Nat → Nat → Option Addr → Nat → Nat → Int → Hp → Prop} {O : Om} {bl bg n i : Nat} {hs gs : List Sl} {s g : Sl} {h : Hp} (hlen : n = hs.length) (hg : gs.length = n) (hn : n ≤ 1000) (d : Hdr O h bl hs) (e : Hdr O h bg gs) (hi : hs[i]? = some s) (hgi : gs[i]? = some g)
    (w : Ow O h i s (mks i 0 s.2.1)) (v : Ow O h i g (mks i 0 s.2.1 ++ mks i 100000 16)) (post : N32 (some ⟨bl, 0, none⟩) n n (some ⟨bg, 0, none⟩) n n ((i + 1 : Nat) : Int) h) :
    ∀ (k j : Nat), j + k = s.2.1 + 16 → gnomonlaw03_apart.L36.t R N32 (k + 1) (some ⟨bl, 0, none⟩) n n (some ⟨bg, 0, none⟩) n n (i : Int) (s.2.1 : Int) (j : Int) h := by
  have hi' := (List.getElem?_eq_some_iff.mp hi).1
  have h9 := w.lim
  rw [mks_len] at h9
  intro k
  induction k with
  | zero =>
    intro j hj
    unfold gnomonlaw03_apart.L36.t gnomonlaw03_apart.D37.t
    refine k_i64 ((s.2.1 + 16 : Nat) : Int) (by omega) (by omega) (by omega) ?_
    refine c_dec (fun hb => absurd hb (by omega)) fun _ => ?_
    unfold gnomonlaw03_apart.D34.t
    exact k_i64 ((i + 1 : Nat) : Int) (by omega) (by omega) (by omega) post
  | succ k ih =>
    intro j hj
    unfold gnomonlaw03_apart.L36.t gnomonlaw03_apart.D37.t
    refine k_i64 ((s.2.1 + 16 : Nat) : Int) (by omega) (by omega) (by omega) ?_
    refine c_dec (fun _ => ?_) fun hb => absurd (by omega) hb
    refine c_dec (fun hb => ?_) fun hb => ?_
    · refine at_hdr d hlen hn hi ?_
      refine at64 w.rd.toE (j := j) rfl w.l (by rw [mks_len]; omega) ?_
      refine mark_intro ?_
      rw [mks_getD (by omega), Nat.zero_add]
      refine c_ne (fun hh => absurd rfl hh) fun _ => ?_
      refine at_hdr e hg.symm hn hgi ?_
      refine at64 v.rd.toE (j := j) rfl v.l (by rw [List.length_append, mks_len, mks_len]; omega) ?_
      refine mark_intro ?_
      rw [grown_lo (by omega)]
      refine c_ne (fun hh => absurd rfl hh) fun _ => ?_
      refine c_dec (fun hb => absurd hb (by omega)) fun _ => ?_
      refine k_i64 ((j + 1 : Nat) : Int) (by omega) (by omega) (by omega) ?_
      exact ih (j + 1) (by omega)
    · refine c_dec (fun _ => ?_) fun hb => absurd (by omega) hb
      refine at_hdr e hg.symm hn hgi ?_
      refine at64 v.rd.toE (j := j) rfl v.l (by rw [List.length_append, mks_len, mks_len]; omega) ?_
      refine k_i64 ((100000 + j : Nat) : Int) (by omega) (by omega) (by omega) ?_
      refine k_i64 ((100000 + (j - s.2.1) : Nat) : Int) (by omega) (by omega) (by omega) ?_
      refine mark_intro ?_
      rw [grown_hi (by omega) (by omega)]
      refine c_ne (fun hh => absurd rfl hh) fun _ => ?_
      refine k_i64 ((j + 1 : Nat) : Int) (by omega) (by omega) (by omega) ?_
      exact ih (j + 1) (by omega)
theorem look1_outer {R : Rt} {O : Om} {bl bg n : Nat} {hs gs : List Sl} {h : Hp} (hlen : n = hs.length) (hg : gs.length = n) (hn : n ≤ 1000) (d : Hdr O h bl hs) (e : Hdr O h bg gs) (ws : ∀ j s, hs[j]? = some s → Ow O h j s (mks j 0 s.2.1)) (gr : Gr 100000 16 O h hs gs n)
    (post : gnomonlaw03_apart.D3.t R (some ⟨bl, 0, none⟩) n n (some ⟨bg, 0, none⟩) n n h) :
    ∀ (k i : Nat), i + k = n → gnomonlaw03_apart.L32.t R (k + 1) (some ⟨bl, 0, none⟩) n n (some ⟨bg, 0, none⟩) n n (i : Int) h := by
  intro k
  induction k with
  | zero =>
    intro i hi
    unfold gnomonlaw03_apart.L32.t gnomonlaw03_apart.D33.t
    exact c_dec (fun hb => absurd hb (by omega)) fun _ => post
  | succ k ih =>
    intro i hi
    unfold gnomonlaw03_apart.L32.t gnomonlaw03_apart.D33.t
    refine c_dec (fun _ => ?_) fun hb => absurd (by omega) hb
    obtain ⟨s, hs'⟩ : ∃ s, hs[i]? = some s := ⟨hs[i]'(by omega), by simp⟩
    obtain ⟨g, hg', v⟩ := gr i s (by omega) hs'
    unfold gnomonlaw03_apart.D35.t
    refine at_hdr d hlen hn hs' ?_
    exact ⟨s.2.1 + 16 + 1, look1_inner hlen hg hn d e hs' hg' (ws i s hs') v (ih (i + 1) (by omega)) (s.2.1 + 16) 0 (by omega)⟩
theorem look2_inner {R : Rt} {N6 : Option Addr → Nat → Nat → Option Addr → Nat → Nat → Int → Hp → Prop} {O : Om} {bl bg n i : Nat} {hs gs : List Sl} {s g : Sl} {h : Hp} (hlen : n = hs.length) (hg : gs.length = n) (hn : n ≤ 1000) (d : Hdr O h bl hs) (e : Hdr O h bg gs) (hi : hs[i]? = some s) (hgi : gs[i]? = some g)
    (w : Ow O h i s (mks i 0 s.2.1)) (v : Ow O h i g (mks i 0 s.2.1 ++ mks i 200000 64)) (post : N6 (some ⟨bl, 0, none⟩) n n (some ⟨bg, 0, none⟩) n n ((i + 1 : Nat) : Int) h) :
    ∀ (k j : Nat), j + k = s.2.1 + 64 → gnomonlaw03_apart.L10.t R N6 (k + 1) (some ⟨bl, 0, none⟩) n n (some ⟨bg, 0, none⟩) n n (i : Int) (s.2.1 : Int) (j : Int) h := by
  have hi' := (List.getElem?_eq_some_iff.mp hi).1
  have h9 := w.lim
  rw [mks_len] at h9
  intro k
  induction k with
  | zero =>
    intro j hj
    unfold gnomonlaw03_apart.L10.t gnomonlaw03_apart.D11.t
    refine k_i64 ((s.2.1 + 64 : Nat) : Int) (by omega) (by omega) (by omega) ?_
    refine c_dec (fun hb => absurd hb (by omega)) fun _ => ?_
    unfold gnomonlaw03_apart.D8.t
    exact k_i64 ((i + 1 : Nat) : Int) (by omega) (by omega) (by omega) post
  | succ k ih =>
    intro j hj
    unfold gnomonlaw03_apart.L10.t gnomonlaw03_apart.D11.t
    refine k_i64 ((s.2.1 + 64 : Nat) : Int) (by omega) (by omega) (by omega) ?_
    refine c_dec (fun _ => ?_) fun hb => absurd (by omega) hb
    refine c_dec (fun hb => ?_) fun hb => ?_
    · refine at_hdr d hlen hn hi ?_
      refine at64 w.rd.toE (j := j) rfl w.l (by rw [mks_len]; omega) ?_
      refine mark_intro ?_
      rw [mks_getD (by omega), Nat.zero_add]
      refine c_ne (fun hh => absurd rfl hh) fun _ => ?_
      refine c_dec (fun hb => absurd hb (by omega)) fun _ => ?_
      refine k_i64 ((j + 1 : Nat) : Int) (by omega) (by omega) (by omega) ?_
      exact ih (j + 1) (by omega)
    · refine c_dec (fun _ => ?_) fun hb => absurd (by omega) hb
      refine at_hdr e hg.symm hn hgi ?_
      refine at64 v.rd.toE (j := j) rfl v.l (by rw [List.length_append, mks_len, mks_len]; omega) ?_
      refine k_i64 ((200000 + j : Nat) : Int) (by omega) (by omega) (by omega) ?_
      refine k_i64 ((200000 + (j - s.2.1) : Nat) : Int) (by omega) (by omega) (by omega) ?_
      refine mark_intro ?_
      rw [grown_hi (by omega) (by omega)]
      refine c_ne (fun hh => absurd rfl hh) fun _ => ?_
      refine k_i64 ((j + 1 : Nat) : Int) (by omega) (by omega) (by omega) ?_
      exact ih (j + 1) (by omega)
theorem look2_outer {R : Rt} {O : Om} {bl bg n : Nat} {hs gs : List Sl} {h : Hp} (hlen : n = hs.length) (hg : gs.length = n) (hn : n ≤ 1000) (d : Hdr O h bl hs) (e : Hdr O h bg gs) (ws : ∀ j s, hs[j]? = some s → Ow O h j s (mks j 0 s.2.1)) (gr : Gr 200000 64 O h hs gs n)
    (post : R (.bool true) h) :
    ∀ (k i : Nat), i + k = n → gnomonlaw03_apart.L6.t R (k + 1) (some ⟨bl, 0, none⟩) n n (some ⟨bg, 0, none⟩) n n (i : Int) h := by
  intro k
  induction k with
  | zero =>
    intro i hi
    unfold gnomonlaw03_apart.L6.t gnomonlaw03_apart.D7.t
    exact c_dec (fun hb => absurd hb (by omega)) fun _ => post
  | succ k ih =>
    intro i hi
    unfold gnomonlaw03_apart.L6.t gnomonlaw03_apart.D7.t
    refine c_dec (fun _ => ?_) fun hb => absurd (by omega) hb
    obtain ⟨s, hs'⟩ : ∃ s, hs[i]? = some s := ⟨hs[i]'(by omega), by simp⟩
    obtain ⟨g, hg', v⟩ := gr i s (by omega) hs'
    unfold gnomonlaw03_apart.D9.t
    refine at_hdr d hlen hn hs' ?_
    exact ⟨s.2.1 + 64 + 1, look2_inner hlen hg hn d e hs' hg' (ws i s hs') v (ih (i + 1) (by omega)) (s.2.1 + 64) 0 (by omega)⟩
/-! ### all are grown by many -/
theorem many_fill {R : Rt} {N18 : Option Addr → Nat → Nat → Option Addr → Nat → Nat → Option Addr → Nat → Nat → Int → Hp → Prop} {A G : Option Addr} {n i bm : Nat} {h0 : Hp}
    (post : ∀ h', BlkE eU64 h' bm (mks i 200000 64) → KeepB bm h0 h' → gnomonlaw03_apart.D21.t R N18 A n n G n n (some ⟨bm, 0, none⟩) 64 64 (i : Int) h') :
    ∀ (k j : Nat) (zs : List Nat) (h : Hp), j + k = 64 → zs.length = 64 → zs.take j = mks i 200000 j → BlkE eU64 h bm zs → KeepB bm h0 h → gnomonlaw03_apart.L23.t R N18 (k + 1) A n n G n n (some ⟨bm, 0, none⟩) 64 64 (i : Int) (j : Int) h := by
  intro k
  induction k with
  | zero =>
    intro j zs h hj hz hp o kb
    unfold gnomonlaw03_apart.L23.t gnomonlaw03_apart.D24.t
    refine c_dec (fun hb => absurd hb (by omega)) fun _ => ?_
    rw [List.take_of_length_le (by omega), show j = 64 by omega] at hp
    subst hp
    exact post h o kb
  | succ k ih =>
    intro j zs h hj hz hp o kb
    unfold gnomonlaw03_apart.L23.t gnomonlaw03_apart.D24.t
    refine c_dec (fun _ => ?_) fun hb => absurd (by omega) hb
    refine k_i64 ((200000 + j : Nat) : Int) (by omega) (by omega) (by omega) ?_
    refine mark_intro ?_
    refine putE0 o (j := j) (v := m3 (i : Int) ((200000 + j : Nat) : Int)) rfl (by omega) (by omega) rfl (m3_lt _ _) fun o2 k2 => ?_
    refine k_i64 ((j + 1 : Nat) : Int) (by omega) (by omega) (by omega) ?_
    refine ih (j + 1) _ _ (by omega) (by rw [List.length_set]; exact hz) ?_ o2 (kb.trans k2)
    rw [set_take (by omega), hp, mks_snoc]
theorem many_outer {R : Rt} {bl bg bm n : Nat} {hs : List Sl} {h00 : Hp} (hlen : n = hs.length) (hn : n ≤ 1000) (hne : bl ≠ bg) (hm1 : bl ≠ bm) (hm2 : bg ≠ bm) (hbg : h00.size ≤ bg) (hbm : h00.size ≤ bm) (hl : ∀ (j : Nat) (s : Sl), hs[j]? = some s → s.2.1 + 64 ≤ 17592186044400)
    (post : ∀ O' h' gs, (∀ j s, hs[j]? = some s → Ow O' h' j s (mks j 0 s.2.1)) → Gr 200000 64 O' h' hs gs n → Hdr O' h' bl hs → Hdr O' h' bg gs → gs.length = n → Keep h00 h' → gnomonlaw03_apart.D5.t R (some ⟨bl, 0, none⟩) n n (some ⟨bg, 0, none⟩) n n h') :
    ∀ (k i : Nat) (O : Om) (h : Hp) (gs : List Sl) (zs : List Nat), i + k = n → (∀ j s, hs[j]? = some s → Ow O h j s (mks j 0 s.2.1)) → Gr 200000 64 O h hs gs i → Hdr O h bl hs → Hdr O h bg gs → gs.length = n → BlkE eU64 h bm zs → zs.length = 64 → O bm = none → Keep h00 h → (∀ b, b < h00.size → O b = none) →
      gnomonlaw03_apart.L18.t R (k + 1) (some ⟨bl, 0, none⟩) n n (some ⟨bg, 0, none⟩) n n (some ⟨bm, 0, none⟩) 64 64 (i : Int) h := by
  intro k
  induction k with
  | zero =>
    intro i O h gs zs hi ws gr d e hg o hz hb kp old
    unfold gnomonlaw03_apart.L18.t gnomonlaw03_apart.D19.t
    refine c_dec (fun hb => absurd hb (by omega)) fun _ => ?_
    have ei : i = n := by omega
    subst ei
    exact post O h gs ws gr d e hg kp
  | succ k ih =>
    intro i O h gs zs hi ws gr d e hg o hz hb kp old
    unfold gnomonlaw03_apart.L18.t gnomonlaw03_apart.D19.t
    refine c_dec (fun _ => ?_) fun hb => absurd (by omega) hb
    unfold gnomonlaw03_apart.D22.t
    obtain ⟨s, hs'⟩ : ∃ s, hs[i]? = some s := ⟨hs[i]'(by omega), by simp⟩
    refine ⟨65, many_fill (h0 := h) (fun h1 o1 k1 => ?_) 64 0 zs h rfl hz rfl o (KeepB.refl _ _)⟩
    have ws1 : ∀ j s, hs[j]? = some s → Ow O h1 j s (mks j 0 s.2.1) := fun j t hj => (ws j t hj).keepB k1 hb
    have gr1 : Gr 200000 64 O h1 hs gs i := fun j t hj ht => let ⟨g, e1, w⟩ := gr j t hj ht; ⟨g, e1, w.keepB k1 hb⟩
    have d1 := d.keepB k1 hm1
    have e1 := e.keepB k1 hm2
    have kp1 := k1.keepN kp hbm
    have w := ws1 i s hs'
    unfold gnomonlaw03_apart.D21.t
    refine at_hdr d1 hlen hn hs' ?_
    refine ow_ap w (o1.rd' (c := 64) (by rw [mks_len]; show 64 ≤ 35184372088828; decide) (by rw [mks_len]; exact Nat.le_refl _)) (mks_len _ _ _).symm (by simp [mks]) (by rw [mks_len, mks_len]; exact hl i s hs') fun a' c' h2 O' g' f tr => ?_
    obtain ⟨w', _⟩ := tr s _ w (Nat.le_refl _) (fun _ => Nat.le_refl _)
    have d2 := d1.fm f
    have e2 := e1.fm f
    obtain ⟨o2, hb2⟩ := f.blk o1 hb
    refine putE0 e2.blk (j := i) (v := (a', _, c')) rfl (by omega) (by omega) rfl trivial fun o3 k3 => ?_
    unfold gnomonlaw03_apart.D20.t
    refine k_i64 ((i + 1 : Nat) : Int) (by omega) (by omega) (by omega) ?_
    refine ih (i + 1) O' _ _ (mks i 200000 64) (by omega) (fun j t hj => ?_) (gr1.step f k3 e2.own hs' (by omega) g') (d2.keepB k3 hne) ⟨o3, e2.own⟩ (by rw [List.length_set]; exact hg) (o2.keepB (fun hh => hm2 hh.symm) k3) (mks_len _ _ _) hb2 (k3.keepN (f.keep kp1 old) hbg) (f.old kp1 old)
    by_cases ej : j = i
    · subst ej
      rw [hs'] at hj; cases hj
      exact w'.keepB k3 e2.own
    · exact ((ws1 j t hj).other f ej).keepB k3 e2.own
/-- apart answers true. -/
theorem apart3_spec {h00 h : Hp} {bl n : Nat} {hs : List Sl} {O : Om} (hlen : n = hs.length) (hn : n ≤ 1000) (d : Hdr O h bl hs) (kp : Keep h00 h) (old : ∀ b, b < h00.size → O b = none) (tp : ∀ b, h.size ≤ b → O b = none)
    (ws : ∀ j s, hs[j]? = some s → ∃ xs, Ow O h j s xs) (hl : ∀ (j : Nat) (s : Sl), hs[j]? = some s → s.2.1 + 64 ≤ 17592186044400) :
    HC gnomonlaw03_apart.id #[.slice (some ⟨bl, 0, none⟩) n n] h fun v h' => Keep h00 h' ∧ v = .bool true := by
  refine gnomonlaw03_apart.ok ?_
  unfold gnomonlaw03_apart.t gnomonlaw03_apart.D1.t gnomonlaw03_apart.D58.t
  refine ⟨n + 1, fill_outer hlen hn old (fun h1 ws1 d1 kp1 tp1 => ?_) n 0 h (by omega) (fun j s hj => let ⟨xs, w⟩ := ws j s hj; ⟨xs, w, fun hh => absurd hh (by omega)⟩) d kp tp⟩
  unfold gnomonlaw03_apart.D2.t
  refine mkE eSl (none, 0, 0) n n rfl trivial 24 rfl (by decide) rfl rfl (Nat.le_refl _) (by omega) fun h2 o2 k2 => ?_
  unfold gnomonlaw03_apart.D43.t
  rw [Int.toNat_natCast]
  have hbl := d1.blk.lt
  have hbg : h00.size ≤ h1.size := kp1.le
  refine ⟨n + 1, grow_outer (bl := bl) (bg := h1.size) (h00 := h00) hlen hn (by omega) hbg hl (fun O3 h3 gs ws3 gr3 d3 e3 hg3 kp3 old3 tp3 => ?_) n 0 O h2 (List.replicate n (none, 0, 0)) (by omega) (fun j s hj => (ws1 j s hj).keep k2) (fun j s hj => absurd hj (by omega)) (d1.keep k2) ⟨o2, tp1 _ (Nat.le_refl _)⟩ (by rw [List.length_replicate]) (kp1.trans k2) old (fun b hb => tp1 b (Nat.le_trans k2.le hb))⟩
  unfold gnomonlaw03_apart.D31.t
  refine ⟨n + 1, look1_outer hlen hg3 hn d3 e3 ws3 gr3 ?_ n 0 (by omega)⟩
  unfold gnomonlaw03_apart.D3.t
  refine mkE eU64 0 64 64 rfl ok64 8 rfl (by decide) rfl rfl (Nat.le_refl _) (by decide) fun h4 o4 k4 => ?_
  unfold gnomonlaw03_apart.D17.t
  have hb3 := d3.blk.lt
  have hb4 := e3.blk.lt
  refine ⟨n + 1, many_outer (bl := bl) (bg := h1.size) (bm := h3.size) (h00 := h00) hlen hn (by omega) (by omega) (by omega) hbg kp3.le hl (fun O5 h5 gs5 ws5 gr5 d5 e5 hg5 kp5 => ?_) n 0 O3 h4 gs (List.replicate 64 0) (by omega) (fun j s hj => (ws3 j s hj).keep k4) (fun j s hj => absurd hj (by omega)) (d3.keep k4) (e3.keep k4) hg3 o4 (by rw [List.length_replicate]) (tp3 _ (Nat.le_refl _)) (kp3.trans k4) old3⟩
  unfold gnomonlaw03_apart.D5.t
  exact ⟨n + 1, look2_outer hlen hg5 hn d5 e5 ws5 gr5 ⟨kp5, rfl⟩ n 0 (by omega)⟩
end Go.Proofs.Ytdpkfipkjdlmlaa.G

/- strings.Builder's copyCheck at this program: what it does to a builder, fresh or used. -/
set_option linter.unusedVariables false
namespace Go.Proofs
open Go.Shelf Go.RowKit
set_option maxHeartbeats 1000000 in
set_option maxRecDepth 100000 in
theorem Try.copyCheck_used (b : Nat) (w : World) (h0 : w.cell? ⟨b, 0, none⟩ = some (.pointer (some ⟨b, 0, none⟩))) :
    Calls Try.prog 70 #[.pointer (some ⟨b, 0, none⟩)] w fun e w' => e = .returned (.tuple #[]) ∧ w' = w := by
  obtain ⟨j, hj, _⟩ := Option.map_eq_some_iff.1 (show (Try.prog.info? 70).map (·.size) = some 2 from by kernel_rfl)
  go_enter Try.func70, Try.ntmps70
  go_wp2
  rw [Lib.run_neq_ptr_same w _ Try.underlying68 hj]
  go_wp2
  go_end0
  exact ⟨rfl, rfl⟩
set_option maxHeartbeats 1000000 in
set_option maxRecDepth 100000 in
theorem Try.copyCheck_fresh (b : Nat) (w : World) (h0 : w.cell? ⟨b, 0, none⟩ = some (.pointer none)) (hsh : w.shape? b = some (70, 2)) (hfz : w.frozen? ⟨b, 0, none⟩ = false) :
    Calls Try.prog 70 #[.pointer (some ⟨b, 0, none⟩)] w fun e w' => e = .returned (.tuple #[]) ∧ w' = w.setCell ⟨b, 0, none⟩ (.pointer (some ⟨b, 0, none⟩)) := by
  obtain ⟨j, hj, hjs⟩ := Option.map_eq_some_iff.1 (show (Try.prog.info? 70).map (·.size) = some 2 from by kernel_rfl)
  go_enter Try.func70, Try.ntmps70
  go_wp2
  rw [Lib.run_to_unsafe w ⟨b, 0, none⟩ Try.underlying68 (Try.underlying101) hj (by rw [hjs]; decide) hsh (Nat.zero_lt_succ 1)]
  simp only [Result.andThen]
  rw [Oper.upon_value]
  go_wp2
  rw [run_callFunc_extern Try.func81 (by kernel_rfl) (by kernel_rfl) (by kernel_rfl) (e := Extern.AbiNoEscape.same) (by kernel_rfl)]
  rw [Lib.run_noEscape]
  simp only [Result.andThen]
  rw [Oper.upon_value]
  go_wp2
  rw [Lib.run_from_unsafe w ⟨b, 0, none⟩ Try.underlying101 Try.underlying68 hj hsh (by kernel_rfl)]
  simp only [Result.andThen]
  rw [Oper.upon_value]
  go_wp2
  go_end0
  exact ⟨rfl, rfl⟩
theorem Try.copyCheck (B b : Nat) (bs : List Value) (w : World) (h : Lib.IsBuilder 70 5 B b bs w) :
    Calls Try.prog 70 #[.pointer (some ⟨b, 0, none⟩)] w fun e w' => e = .returned (.tuple #[]) ∧ Lib.BuilderAt 70 5 B b (.pointer (some ⟨b, 0, none⟩)) bs w' ∧ Below B w w' := by
  rcases h with h | h
  · refine (Try.copyCheck_fresh b w h.cell0 h.shape h.frozen0).mono ?_
    rintro e w' ⟨rfl, rfl⟩
    exact ⟨rfl, h.used _, (Below.refl B w).setCell (p := ⟨b, 0, none⟩) h.1 _⟩
  · refine (Try.copyCheck_used b w h.cell0).mono ?_
    rintro e w' ⟨rfl, rfl⟩
    exact ⟨rfl, h, Below.refl B _⟩
set_option maxHeartbeats 2000000 in
set_option maxRecDepth 100000 in
theorem Try.writeByte (B b : Nat) (bs : List Value) (c : Int) (w : World) (h : Lib.IsBuilder 70 5 B b bs w) (hlen : bs.length + 1 ≤ 140737488355328) (hBw : B ≤ w.heap.size) :
    Calls Try.prog 45 #[.pointer (some ⟨b, 0, none⟩), .int .u8 c] w fun e w' => e = .returned .nilIface ∧ Lib.BuilderAt 70 5 B b (.pointer (some ⟨b, 0, none⟩)) (bs ++ [.int .u8 c]) w' ∧ Below B w w' := by
  obtain ⟨i0, hi, hz0, hz1, hz2⟩ := info_parts (show (Try.prog.info? 5).map (fun i => (i.zero, i.size, i.bytes)) = some (some (.int .u8 0), 1, 1) from by kernel_rfl)
  go_enter Try.func45, Try.ntmps45
  go_wp2_with (go_at_call 70; refine (Try.copyCheck B b bs _ h).mono ?_)
  rintro e w1 ⟨rfl, h1, hb1⟩
  obtain ⟨hB, v, hbk, hown, hne⟩ := h1
  have c0 : w1.cell? ⟨b, 0, none⟩ = some (.pointer (some ⟨b, 0, none⟩)) := by rw [Lib.cell_of_heap hbk]; rfl
  have c1 : w1.cell? ⟨b, 1, none⟩ = some v := by rw [Lib.cell_of_heap hbk]; rfl
  go_wp2_with (at_builtin; refine wpList_append_own _ rfl _ _ 58 rfl B 5 i0 (.int .u8 0) 1 1 Try.underlying58 hi hz0 hz1 hz2 rfl (by decide) _ _ _ rfl (hown.alloc _) ⟨w1.heap.size, 0, none⟩ 1 1 [.int .u8 c] rfl rfl ?c1 ?c2 ?c3 ?c4 ?c5 ?_)
  case c1 =>
    intro j u hj
    match j, hj with
    | 0, hj => simp at hj; subst hj; simp [Addr.add]
  case c2 => intro u hu; simp at hu; subst hu; rfl
  case c3 => unfold maxLen; omega
  case c4 => omega
  case c5 => have := hb1.size; simp; omega
  intro v' w2 hown' hgrow _
  have hlt : b < w1.heap.size := by
    rcases Nat.lt_or_ge b w1.heap.size with h' | h'
    · exact h'
    · simp [Array.getElem?_eq_none h'] at hbk
  have hb2 : w2.heap[b]? = some (.cells #[.pointer (some ⟨b, 0, none⟩), v] 70 (0, 0)) := by
    rw [hgrow.block b (by simp; omega) (fun e => hne e.symm), Lib.alloc_old w1 _ b hlt]
    exact hbk
  have d0 : w2.cell? ⟨b, 0, none⟩ = some (.pointer (some ⟨b, 0, none⟩)) := by rw [Lib.cell_of_heap hb2]; rfl
  have d1 : w2.cell? ⟨b, 1, none⟩ = some v := by rw [Lib.cell_of_heap hb2]; rfl
  have f1 : w2.frozen? ⟨b, 1, none⟩ = false := Lib.frozen_of_heap hb2 1
  obtain ⟨g, cap, rfl⟩ : ∃ g cap, v' = .slice (some ⟨g, 0, none⟩) (bs.length + 1) cap := by
    rcases hown'.2 with ⟨_, h0⟩ | ⟨g, cap, cur, hv, _⟩
    · omega
    · exact ⟨g, cap, hv⟩
  go_wp2
  go_ret
  refine ⟨rfl, ?_, ?_⟩
  · exact Lib.BuilderAt.put (T := 70) (e := 5) hB hb2 (bs' := bs ++ [.int .u8 c]) (by simpa using hown') (by decide)
  · exact ((hb1.alloc (by have := hb1.size; omega) _).grown hgrow (by have := hb1.size; simp; omega) (fun k hk => (hown.lt k hk).1)).setCell (p := ⟨b, 1, none⟩) hB _
def Try.lays170_ren : Go.Shelf.Ren := ⟨fun | 170 => 44 | n => n, fun | 70 => 68 | 3 => 3 | 0 => 0 | 72 => 70 | 37 => 58 | 5 => 5 | n => n, fun | n => n⟩
theorem Try.lays170 : Go.Proofs.Lays.n170 Try.prog Try.lays170_ren := {
  mixed := by kernel_rfl
  f170 := Try.func44.trans (congrArg some (by kernel_rfl))
  t0 := Try.underlying0
  a0 := Try.isAgg0
  z0 := Try.sizeOf0
  v0 := Try.zeroValue0
  t3 := Try.underlying3
  a3 := Try.isAgg3
  z3 := Try.sizeOf3
  v3 := Try.zeroValue3
  t37 := Try.underlying58
  a37 := Try.isAgg58
  z37 := Try.sizeOf58
  v37 := Try.zeroValue58
  t70 := Try.underlying68
  a70 := Try.isAgg68
  z70 := Try.sizeOf68
  v70 := Try.zeroValue68
  t72 := Try.underlying70
  a72 := Try.isAgg70
  z72 := Try.sizeOf70
  v72 := Try.zeroValue70 }
theorem Try.Builder_Len (B b : Nat) (bs : List Value) (w : World) (h : Lib.IsBuilder 70 5 B b bs w) :
    Calls Try.prog 44 #[.pointer (some ⟨b, 0, none⟩)] w fun e w' => e = .returned (.int .i64 bs.length) ∧ w' = w := Any.Builder_Len Try.lays170 B b bs w h
def Try.lays169_ren : Go.Shelf.Ren := ⟨fun | 169 => 46 | n => n, fun | 70 => 68 | 9 => 9 | 0 => 0 | 72 => 70 | 37 => 58 | 127 => 92 | 3 => 3 | 5 => 5 | n => n, fun | n => n⟩
theorem Try.lays169 : Go.Proofs.Lays.n169 Try.prog Try.lays169_ren := {
  mixed := by kernel_rfl
  f169 := Try.func46.trans (congrArg some (by kernel_rfl))
  t0 := Try.underlying0
  a0 := Try.isAgg0
  z0 := Try.sizeOf0
  v0 := Try.zeroValue0
  t3 := Try.underlying3
  a3 := Try.isAgg3
  z3 := Try.sizeOf3
  v3 := Try.zeroValue3
  t9 := Try.underlying9
  a9 := Try.isAgg9
  z9 := Try.sizeOf9
  v9 := Try.zeroValue9
  t37 := Try.underlying58
  a37 := Try.isAgg58
  z37 := Try.sizeOf58
  v37 := Try.zeroValue58
  t70 := Try.underlying68
  a70 := Try.isAgg68
  z70 := Try.sizeOf68
  v70 := Try.zeroValue68
  t72 := Try.underlying70
  a72 := Try.isAgg70
  z72 := Try.sizeOf70
  v72 := Try.zeroValue70
  t127 := Try.underlying92
  a127 := Try.isAgg92
  z127 := Try.sizeOf92
  v127 := Try.zeroValue92 }
theorem Try.Builder_Extra_169 : Builder.Extra Try.prog Try.lays169_ren := {
  sizeBuilder := by kernel_rfl
  liesBuilder := by kernel_rfl
  t5 := Try.underlying5
  a5 := Try.isAgg5
  z5 := Try.sizeOf5
  v5 := Try.zeroValue5
  infoByte := by kernel_rfl
  cellsByte := by kernel_rfl
  sizeByte := by kernel_rfl
  neB5 := by decide }
theorem Try.Builder_String_any (B b : Nat) (l : List UInt8) (w : World) (h : Lib.IsBuilder 70 5 B b (Lib.byteCells l) w) (hBw : B ≤ w.heap.size) :
    Calls Try.prog 46 #[.pointer (some ⟨b, 0, none⟩)] w fun e w' => e = .returned (.string ⟨l.toArray⟩) ∧ Below B w w' := Any.Builder_String_any Try.lays169 Try.Builder_Extra_169 B b l w h hBw
end Go.Proofs

/- strings.Builder over heaps; appends of one byte beside another list. -/
namespace Go.Proofs.Ytdpkfipkjdlmlaa.G
open Go.Gv
set_option maxRecDepth 100000
set_option linter.unusedVariables false
/-- The builder at block b holds the bytes l. -/
def IsB (B b : Nat) (l : List Nat) (h : Hp) : Prop := ∀ w : World, w.heap = h → Lib.IsBuilder 70 5 B b (l.map eU8.enc) w
theorem isb_heap {B b : Nat} {bs : List Value} {w w2 : World} (e : w2.heap = w.heap) (h : Lib.IsBuilder 70 5 B b bs w) : Lib.IsBuilder 70 5 B b bs w2 := by
  unfold Lib.IsBuilder Lib.BuilderAt World.ownsRow at *; rw [e]; exact h
theorem bld_new {h : Hp} {K : Addr → Hp → Prop} (g : ∀ h', IsB h.size h.size [] h' → Keep h h' → K ⟨h.size, 0, none⟩ h') : boxK h 70 T70.zs K := by
  refine g _ (fun w e => Or.inl ⟨Nat.le_refl _, .slice none 0 0, ?_, ?_, ?_⟩) ⟨by simp, fun b hb => ?_⟩
  · rw [e]; simp; rfl
  · exact ⟨rfl, Or.inl ⟨rfl, rfl⟩⟩
  · intro hh; cases hh
  · rw [Array.getElem?_push]; rw [if_neg (by omega)]
theorem BLen_hc {B b : Nat} {l : List Nat} {h : Hp} {R : Value → Hp → Prop} (ib : IsB B b l h) (g : R (.int .i64 (l.length : Int)) h) : HC strings_Builder_Len.id #[.pointer (some ⟨b, 0, none⟩)] h R :=
  fun w hw => (Try.Builder_Len B b _ w (ib w hw)).mono fun e w' ⟨e1, e2⟩ => by
    subst e2
    rw [List.length_map] at e1
    exact ⟨_, e1, Same.refl _, by rw [hw]; exact g⟩
theorem BWrite_hc {h1 h : Hp} {b : Nat} {l : List Nat} {x : Int} {n : Nat} {R : Value → Hp → Prop} (ib : IsB h1.size b l h) (k : Keep h1 h) (hx : x = (n : Int)) (hl : l.length + 1 ≤ 140737488355328)
    (g : ∀ h', IsB h1.size b (l ++ [n]) h' → Keep h1 h' → R .nilIface h') : HC strings_Builder_WriteByte.id #[.pointer (some ⟨b, 0, none⟩), .int .u8 x] h R := by
  subst hx
  intro w hw
  refine (Try.writeByte h1.size b _ (n : Int) w (ib w hw) (by rw [List.length_map]; exact hl) (by rw [hw]; exact k.le)).mono fun e w' ⟨e1, e2, e3⟩ => ?_
  refine ⟨_, e1, ⟨e3.os, e3.tape, e3.output⟩, g w'.heap (fun w2 e => isb_heap e (Or.inr ?_)) ?_⟩
  · have : (l ++ [n]).map eU8.enc = l.map eU8.enc ++ [.int .u8 (n : Int)] := by simp; rfl
    rw [this]; exact e2
  · have h5 := e3.size
    rw [hw] at h5
    exact ⟨Nat.le_trans k.le h5, fun i hi => (e3.block i hi).trans (by rw [hw]; exact k.pre i hi)⟩
theorem BString_hc {h1 h : Hp} {b : Nat} {l : List Nat} {R : Value → Hp → Prop} (ib : IsB h1.size b l h) (k : Keep h1 h) (hl : ∀ x ∈ l, x < 256)
    (g : ∀ h', Keep h1 h' → R (.string (bstr l)) h') : HC strings_Builder_String.id #[.pointer (some ⟨b, 0, none⟩)] h R := by
  intro w hw
  have e : Lib.byteCells (l.map UInt8.ofNat) = l.map eU8.enc := by
    unfold Lib.byteCells
    rw [List.map_map]
    refine List.map_congr_left fun x hx => ?_
    have := hl x hx
    simp [Function.comp, eU8]
    omega
  refine (Try.Builder_String_any h1.size b (l.map UInt8.ofNat) w (by rw [e]; exact ib w hw) (by rw [hw]; exact k.le)).mono fun e w' ⟨e1, e3⟩ => ?_
  have h5 := e3.size
  rw [hw] at h5
  exact ⟨_, e1, ⟨e3.os, e3.tape, e3.output⟩, g w'.heap ⟨Nat.le_trans k.le h5, fun i hi => (e3.block i hi).trans (by rw [hw]; exact k.pre i hi)⟩⟩
/-! ### appends of a byte -/
/-- A list beside a list that grows. -/
structure Beside {α : Type} (E : El α) (h : Hp) (am : Option Addr) (cm : Nat) (ms : List α) (a : Option Addr) : Prop where
  rd : RdE E h am cm ms
  off : ms = [] ∨ ∀ p, am = some p → Off p.block a
theorem Beside.new {α β : Type} {E : El α} {F : El β} {h0 hb h : Hp} {am a : Option Addr} {cm c : Nat} {ms : List α} {xs : List β} (g : GotE E hb h am cm ms) (x : GotE F h0 hb a c xs) : Beside E h am cm ms a := by
  refine ⟨g.rd, ?_⟩
  rcases g.here with ⟨e1, _, _⟩ | ⟨b, rest, e1, e2, _, _⟩
  · exact Or.inl e1
  · refine Or.inr fun p e => ?_
    rw [e1] at e; cases e
    intro q eq
    rcases x.here with ⟨_, e3, _⟩ | ⟨b2, rest2, e3, _, o2, _⟩
    · rw [e3] at eq; cases eq
    · rw [e3] at eq; cases eq
      have := o2.lt
      show b2 ≠ b
      omega
theorem push8 {α : Type} {E : El α} {h0 h : Hp} {a am : Option Addr} {l c cm n : Nat} {x : Int} {xs : List Nat} {ms : List α} (g : GotE eU8 h0 h a c xs) (k0 : Keep h0 h) (hl : l = xs.length) (hx : x = (n : Int)) (hn : n < 256) (hlim : xs.length + 1 ≤ 140737488355328)
    (be : Beside E h am cm ms a) {K : Option Addr → Nat → Nat → Hp → Prop}
    (post : ∀ a' c' h', GotE eU8 h0 h' a' c' (xs ++ [n]) → Keep h0 h' → Beside E h' am cm ms a' → (xs.length + 1 ≤ c → c' = c) → K a' (xs ++ [n]).length c' h') : boxK h 5 [.int .u8 x] fun q h2 => apK h2 5 T5 a l c (.slice (some q) 1 1) K := by
  subst hx
  refine boxE eU8 [n] rfl (fun y hy => by rw [List.mem_singleton.mp hy]; exact hn) fun h2 o2 k2 => ?_
  have r := o2.rd' (c := 1) (by show 1 ≤ 281474976710656; decide) (Nat.le_refl _)
  refine apE3 (g.keep k2) (Nat.le_trans k0.le k2.le) r hl rfl rfl 0 rfl ok8 1 rfl (by decide) (by show _ ≤ 281474976710656; simp; omega) (fun _ => by simp; omega) fun a' c' h' g' kx e1 e2 => ?_
  rw [show xs.length + [n].length = (xs ++ [n]).length by simp]
  refine post a' c' h' g' (kx.keep (k0.trans k2) g.offs) ?_ (fun hc => (e1 (by simpa using hc)).1)
  refine ⟨?_, ?_⟩
  · rcases be.off with e | o
    · subst e; exact RdE.nil _ _ _
    · have r2 := be.rd.keep k2
      refine ⟨r2.len, r2.cap, r2.ok, fun i y hi => ?_⟩
      obtain ⟨p, e, gc⟩ := r2.at_ i y hi
      refine ⟨p, e, ?_⟩
      have hb := cellH_lt gc
      rw [cellH_congr (kx.pre _ hb (by rw [add_block]; exact o p e))]; exact gc
  · rcases be.off with e | o
    · exact Or.inl e
    · cases ms with
      | nil => exact Or.inl rfl
      | cons y ys =>
        refine Or.inr fun p e => ?_
        rcases e2 with e2 | ⟨b, e2, hb⟩
        · rw [e2]; exact o p e
        · intro q eq
          rw [e2] at eq; cases eq
          obtain ⟨p', e', gc⟩ := be.rd.at_ 0 y (by simp)
          rw [e] at e'; cases e'
          have h3 := cellH_lt gc
          rw [add_block] at h3
          have h4 := k2.le
          show b ≠ p.block
          omega
theorem k_u8 {x : Int} (y : Nat) (e : x = (y : Int)) (h : y < 256) {K : Int → Prop} (g : K (y : Int)) : letK (IntKind.u8.wrap x) K := by
  subst e
  refine ⟨?_⟩
  have e : IntKind.u8.wrap (y : Int) = (y : Int) := by
    simp only [IntKind.wrap, IntKind.bits, IntKind.signed, Bool.false_and, Bool.false_eq_true, if_false]
    omega
  rw [e]; exact g
theorem mod10 {n : Nat} {K : Int → Prop} (g : K ((n % 10 : Nat) : Int)) : (10 : Int) ≠ 0 ∧ letK (Int.tmod (n : Int) 10) K := by
  refine ⟨by decide, ?_⟩
  have e : Int.tmod (n : Int) 10 = ((n % 10 : Nat) : Int) := tmod_nat n 10
  rw [e]; exact ⟨g⟩
theorem div10 (n : Nat) : Int.tdiv (n : Int) 10 = ((n / 10 : Nat) : Int) := by
  rw [Int.tdiv_eq_ediv_of_nonneg (by omega)]; rfl
end Go.Proofs.Ytdpkfipkjdlmlaa.G

/- Text: the decimal digits of a natural, the program's and the document's. -/
namespace Go.Proofs.Ytdpkfipkjdlmlaa.G
open Go.Gv
set_option maxRecDepth 100000
set_option linter.unusedVariables false
def textS (xs : List Nat) : ByteArray × Int := if Frm xs then (if 4900 < (txt (val xs)).length then (⟨#[]⟩, 5) else (bstr (txt (val xs)), 0)) else (⟨#[]⟩, 2)
/-! ### the program's -/
theorem Text_inner {R : Rt} {N9 : Option Addr → Nat → Nat → Option Addr → Nat → Nat → Hp → Prop} {h0 : Hp} {aq : Option Addr} {cq lq r0 : Nat} {qs bs0 : List Nat} (hb : bs0.length ≤ 1000000) (hr : r0 < 18446744073709551616)
    (post : ∀ a c h', GotE eU8 h0 h' a c (bs0 ++ lowD 19 r0) → Keep h0 h' → Beside eU64 h' aq cq qs a → N9 aq lq cq a (bs0 ++ lowD 19 r0).length c h') :
    ∀ (k i : Nat) (a : Option Addr) (c : Nat) (h : Hp), i + k = 19 → GotE eU8 h0 h a c (bs0 ++ lowD i r0) → Keep h0 h → Beside eU64 h aq cq qs a →
      natdiv_Text.L14.t R N9 (k + 1) a (bs0 ++ lowD i r0).length c aq lq cq ((r0 / 10 ^ i : Nat) : Int) (i : Int) h := by
  intro k
  induction k with
  | zero =>
    intro i a c h hi g kp be
    unfold natdiv_Text.L14.t natdiv_Text.D15.t
    refine c_dec (fun hb => absurd hb (by omega)) fun _ => ?_
    unfold natdiv_Text.D12.t
    have e : i = 19 := by omega
    subst e
    exact post a c h g kp be
  | succ k ih =>
    intro i a c h hi g kp be
    have hq : r0 / 10 ^ i ≤ r0 := Nat.div_le_self _ _
    have e1 : r0 / 10 ^ (i + 1) = r0 / 10 ^ i / 10 := by rw [Nat.pow_succ, Nat.div_div_eq_div_mul]
    have e2 := lowD_snoc i r0
    have ih := ih (i + 1)
    rw [e1, e2, ← List.append_assoc] at ih
    generalize r0 / 10 ^ i = r at *
    unfold natdiv_Text.L14.t natdiv_Text.D15.t
    refine c_dec (fun _ => ?_) fun hb => absurd (by omega) hb
    refine mod10 ?_
    refine k_u64 (48 + r % 10) (by omega) (by omega) ?_
    refine k_u8 (48 + r % 10) rfl (by omega) ?_
    refine push8 g kp rfl rfl (by omega) (by rw [List.length_append, lowD_len]; omega) be fun a' c' h' g' k' be' _ => ?_
    refine ⟨by decide, ?_⟩
    rw [div10]
    refine k_u64 (r / 10) rfl (by omega) ?_
    refine k_i64 ((i + 1 : Nat) : Int) (by omega) (by omega) (by omega) ?_
    exact ih a' c' h' (by omega) g' k' be'
theorem Text_inner0 {R : Rt} {N9 : Option Addr → Nat → Nat → Option Addr → Nat → Nat → Hp → Prop} {h0 : Hp} {aq : Option Addr} {cq lq r0 : Nat} {qs bs0 : List Nat} (hb : bs0.length ≤ 1000000) (hr : r0 < 18446744073709551616)
    (post : ∀ a c h', GotE eU8 h0 h' a c (bs0 ++ lowD 19 r0) → Keep h0 h' → Beside eU64 h' aq cq qs a → N9 aq lq cq a (bs0 ++ lowD 19 r0).length c h')
    {a : Option Addr} {c : Nat} {h : Hp} (g : GotE eU8 h0 h a c bs0) (kp : Keep h0 h) (be : Beside eU64 h aq cq qs a) : natdiv_Text.L14.t R N9 20 a bs0.length c aq lq cq (r0 : Int) 0 h := by
  have := Text_inner (R := R) (N9 := N9) hb hr post 19 0 a c h rfl (by simpa [lowD] using g) kp be
  simpa [lowD] using this
/-- The builder's loop. -/
theorem Text_build {R : Rt} {h0 h1 : Hp} {ab : Option Addr} {cb b : Nat} {bs : List Nat} (k0 : Keep h0 h1) (r : RdE eU8 h1 ab cb bs) (hl : bs.length ≤ 2000000)
    (post : ∀ h', Keep h1 h' → IsB h1.size b (bs.reverse.dropWhile zz8) h' → natdiv_Text.D3.t R ⟨b, 0, none⟩ h') :
    ∀ (k i : Nat) (h : Hp), i + k = bs.length → Keep h1 h → IsB h1.size b ((bs.reverse.take i).dropWhile zz8) h → natdiv_Text.L5.t R (k + 1) ab bs.length cb ⟨b, 0, none⟩ (bs.length : Int) (i : Int) h := by
  intro k
  induction k with
  | zero =>
    intro i h hi kp ib
    unfold natdiv_Text.L5.t natdiv_Text.D6.t
    refine c_dec (fun hb => absurd hb (by omega)) fun _ => ?_
    rw [List.take_of_length_le (by rw [List.length_reverse]; omega)] at ib
    exact post h kp ib
  | succ k ih =>
    intro i h hi kp ib
    have hj : bs.length - 1 - i < bs.length := by omega
    have er : bs.reverse[i]? = some (bs.getD (bs.length - 1 - i) 0) := by
      rw [List.getElem?_reverse (by omega), getD_some hj]
    have et : bs.reverse.take (i + 1) = bs.reverse.take i ++ [bs.getD (bs.length - 1 - i) 0] := by rw [List.take_add_one, er]; rfl
    have hlen : ((bs.reverse.take i).dropWhile zz8).length + 1 ≤ 140737488355328 := by
      have := (List.dropWhile_sublist zz8 (l := bs.reverse.take i)).length_le
      rw [List.length_take, List.length_reverse] at this
      omega
    unfold natdiv_Text.L5.t natdiv_Text.D6.t
    refine c_dec (fun _ => ?_) fun hb => absurd (by omega) hb
    refine k_i64 ((bs.length : Int) - 1) rfl (by omega) (by omega) ?_
    refine k_i64 (((bs.length - 1 - i : Nat)) : Int) (by omega) (by omega) (by omega) ?_
    refine at8 (r.keep kp) (j := bs.length - 1 - i) rfl rfl hj ?_
    have ih := ih (i + 1)
    rw [et, List.dropWhile_append] at ih
    generalize bs.getD (bs.length - 1 - i) 0 = d at *
    have dz : ∀ {x : Nat}, x ≠ 48 → List.dropWhile zz8 [x] = [x] := fun {x} hx => by
      have : zz8 x = false := by rw [beq_eq_false_iff_ne]; exact hx
      simp [List.dropWhile, this]
    have write : ∀ h2, Keep h1 h2 → IsB h1.size b ((bs.reverse.take i).dropWhile zz8) h2 → ((bs.reverse.take i).dropWhile zz8 = [] → d ≠ 48) →
        HC strings_Builder_WriteByte.id #[.pointer (some ⟨b, 0, none⟩), .int .u8 (d : Int)] h2 fun v23 h24 => letK (IntKind.i64.wrap ((i : Int) + 1)) fun n25 => natdiv_Text.L5.t R (k + 1) ab bs.length cb ⟨b, 0, none⟩ (bs.length : Int) n25 h24 := by
      intro h2 k2 ib2 hd
      refine BWrite_hc ib2 k2 rfl hlen fun h3 ib3 k3 => ?_
      refine k_i64 ((i + 1 : Nat) : Int) (by omega) (by omega) (by omega) ?_
      refine ih h3 (by omega) k3 ?_
      split
      · next he =>
        have he := List.isEmpty_iff.mp he
        rw [he] at ib3
        rw [dz (hd he)]
        exact ib3
      · exact ib3
    refine c_ne (fun hd => write h kp ib fun _ hh => hd (by rw [hh]; rfl)) fun hd => ?_
    refine BLen_hc ib ?_
    refine gInt_intro rfl ?_
    refine c_dec (fun hp => write h kp ib fun he => absurd hp (by rw [he]; decide)) fun hp => ?_
    refine k_i64 ((i + 1 : Nat) : Int) (by omega) (by omega) (by omega) ?_
    refine ih h (by omega) kp ?_
    have he : (bs.reverse.take i).dropWhile zz8 = [] := List.length_eq_zero_iff.mp (by omega)
    rw [he] at ib ⊢
    have hd' : d = 48 := by omega
    subst hd'
    exact ib
theorem Text_end {R : Rt} {h0 h1 : Hp} {ab : Option Addr} {cb m X : Nat} (k0 : Keep h0 h1) (r : RdE eU8 h1 ab cb (lowD m X)) (hm : m ≤ 1000000) (hX : X < 10 ^ m)
    (post : ∀ h', Keep h0 h' → R (.tuple #[.string (if 4900 < (txt X).length then (⟨#[]⟩, 5) else (bstr (txt X), 0) : ByteArray × Int).1, .int .i64 (if 4900 < (txt X).length then (⟨#[]⟩, 5) else (bstr (txt X), 0) : ByteArray × Int).2]) h') :
    natdiv_Text.D2.t R ab (lowD m X).length cb h1 := by
  unfold natdiv_Text.D2.t
  refine bld_new fun h2 ib k2 => ?_
  unfold natdiv_Text.D4.t
  refine ⟨(lowD m X).length + 1, ?_⟩
  have hl := lowD_len m X
  have ib0 : ∀ w : World, w.heap = h2 → Lib.IsBuilder 70 5 h1.size h1.size (([] : List Nat).map eU8.enc) w := ib
  -- the frame begins at h1
  refine Text_build (h0 := h0) (h1 := h1) (b := h1.size) k0 r (by omega) (fun h3 k3 ib3 => ?_) (lowD m X).length 0 h2 (by omega) k2 (by rw [List.take_zero]; exact ib)
  rw [low_strip hX] at ib3
  have htx : ∀ x ∈ (dec X).reverse, x < 256 := fun x hx => by have := dec_digit (List.mem_reverse.mp hx); omega
  unfold natdiv_Text.D3.t
  refine BLen_hc ib3 ?_
  refine gInt_intro rfl ?_
  refine c_eq (fun hz => ?_) fun hz => ?_
  · have e : X = 0 := by
      refine dec_nil.mp (List.length_eq_zero_iff.mp ?_)
      rw [List.length_reverse] at hz; omega
    subst e
    have := post h3 (k0.trans k3)
    have e2 : (txt 0).length = 1 := by rfl
    rw [if_neg (by rw [e2]; decide)] at this
    exact this
  · have e : X ≠ 0 := fun hh => hz (by rw [hh, dec_zero]; rfl)
    have et : (dec X).reverse = txt X := by unfold txt; rw [if_neg e]
    rw [et] at ib3 hz htx
    refine BLen_hc ib3 ?_
    refine gInt_intro rfl ?_
    refine c_dec (fun hp => ?_) fun hp => ?_
    · have := post h3 (k0.trans k3)
      rw [if_pos (by omega)] at this
      exact this
    · refine BString_hc ib3 k3 htx fun h4 k4 => ?_
      refine gStr_intro rfl ?_
      have := post h4 (k0.trans k4)
      rw [if_neg (by omega)] at this
      exact this
theorem Text_outer {R : Rt} {h0 : Hp} {X M : Nat} (hX : (digs X).length ≤ 8192) (hM : M ≤ 40000) (hX2 : X < 10 ^ M)
    (post : ∀ h', Keep h0 h' → R (.tuple #[.string (if 4900 < (txt X).length then (⟨#[]⟩, 5) else (bstr (txt X), 0) : ByteArray × Int).1, .int .i64 (if 4900 < (txt X).length then (⟨#[]⟩, 5) else (bstr (txt X), 0) : ByteArray × Int).2]) h') :
    ∀ (n t : Nat) (a0 : Option Addr) (c0 : Nat) (a : Option Addr) (c : Nat) (h : Hp), X / 10 ^ (19 * t) < 10 ^ (19 * n) → t ≤ 40000 → Beside eU64 h a0 c0 (digs (X / 10 ^ (19 * t))) a → GotE eU8 h0 h a c (lowD (19 * t) X) → Keep h0 h →
      natdiv_Text.L9.t R (n + 1) a0 (digs (X / 10 ^ (19 * t))).length c0 a (lowD (19 * t) X).length c h := by
  intro n
  induction n with
  | zero =>
    intro t a0 c0 a c h hA ht be g kp
    have e : X / 10 ^ (19 * t) = 0 := by
      rw [Nat.mul_zero, Nat.pow_zero] at hA
      exact Nat.lt_one_iff.mp hA
    rw [e] at be ⊢
    unfold natdiv_Text.L9.t natdiv_Text.D10.t
    rw [digs_zero]
    refine c_dec (fun hb => absurd hb (by decide)) fun _ => ?_
    refine Text_end kp g.rd (by omega) ?_ post
    exact (Nat.div_eq_zero_iff_lt (Nat.pow_pos (by decide))).mp e
  | succ n ih =>
    intro t a0 c0 a c h hA ht be g kp
    have ih := ih (t + 1)
    have e1 : 10 ^ (19 * (t + 1)) = 10 ^ (19 * t) * 10 ^ 19 := by rw [← Nat.pow_add]; rfl
    have e2 : X / 10 ^ (19 * (t + 1)) = X / 10 ^ (19 * t) / 10 ^ 19 := by rw [e1, Nat.div_div_eq_div_mul]
    have e3 : lowD (19 * (t + 1)) X = lowD (19 * t) X ++ lowD 19 (X / 10 ^ (19 * t) % 10 ^ 19) := by rw [lowD_mod, ← lowD_add]; rfl
    have hle : X / 10 ^ (19 * t) ≤ X := Nat.div_le_self _ _
    have hA0 : (digs (X / 10 ^ (19 * t))).length ≤ 8192 := Nat.le_trans (digs_len_mono hle) hX
    by_cases e : X / 10 ^ (19 * t) = 0
    · rw [e] at be ⊢
      unfold natdiv_Text.L9.t natdiv_Text.D10.t
      rw [digs_zero]
      refine c_dec (fun hb => absurd hb (by decide)) fun _ => ?_
      refine Text_end kp g.rd (by omega) ?_ post
      exact (Nat.div_eq_zero_iff_lt (Nat.pow_pos (by decide))).mp e
    · have ht1 : t < 40000 := by
        refine Nat.lt_of_not_le fun hh => e ?_
        refine Nat.div_eq_of_lt (Nat.lt_of_lt_of_le hX2 (Nat.pow_le_pow_right (by decide) (by omega)))
      rw [e2, e3] at ih
      have hl := lowD_len (19 * t) X
      have hA' : X / 10 ^ (19 * t) / 10 ^ 19 < 10 ^ (19 * n) := by
        rw [Nat.div_lt_iff_lt_mul (Nat.pow_pos (by decide)), ← Nat.pow_add]; exact hA
      have hp := dl_pos e
      generalize hq : X / 10 ^ (19 * t) = A at *
      unfold natdiv_Text.L9.t natdiv_Text.D10.t
      refine c_dec (fun _ => ?_) fun hb => absurd (by omega) hb
      unfold natdiv_Text.D11.t
      have w0 : (10000000000000000000 : Int) = ((10 ^ 19 : Nat) : Int) := by decide
      rw [w0]
      refine hc_intro (DivWord_spec (w := 10 ^ 19) be.rd.to64 rfl (by decide)) fun v h1 ⟨k1, an⟩ => ?_
      rw [divWS_d hA0 (by decide)] at an
      refine an.elim fun a1 c1 g1 => ?_
      unfold natdiv_Text.D13.t
      refine ⟨20, ?_⟩
      refine Text_inner0 (qs := digs (A / 10 ^ 19)) (r0 := A % 10 ^ 19) (bs0 := lowD (19 * t) X) (by rw [hl]; omega) (Nat.lt_trans (Nat.mod_lt _ (Nat.pow_pos (by decide))) (by decide)) (fun a2 c2 h2 g2 k2 be2 => ?_) (g.keep k1) (kp.trans k1) (Beside.new g1 g)
      exact ih a1 c1 a2 c2 h2 hA' (by omega) be2 g2 k2
theorem Text_spec {a : Option Addr} {c l : Nat} {xs : List Nat} {h : Hp} (r : Rd h a c xs) (hl : l = xs.length) : HC natdiv_Text.id #[.slice a l c] h fun v h' => Keep h h' ∧ v = .tuple #[.string (textS xs).1, .int .i64 (textS xs).2] := by
  subst hl
  refine natdiv_Text.ok ?_
  unfold natdiv_Text.t natdiv_Text.D1.t
  refine hc_intro (Form_spec r rfl) fun v h1 ⟨e1, e2⟩ => ?_
  subst e1; subst e2
  refine gBool_intro rfl ?_
  refine c_not (fun hf => ?_) fun hf => ?_
  · have hf := of_decide_eq_false hf
    unfold textS; rw [if_neg hf]; exact ⟨Keep.refl _, rfl⟩
  have hf := of_decide_eq_true hf
  refine hc_intro (Bits_spec r rfl) fun v h2 ⟨e1, e2⟩ => ?_
  subst e1; subst e2
  refine gInt_intro rfl ?_
  have ex := hf.digs r.words
  have h8 := hf.1
  unfold textS
  rw [if_pos hf]
  generalize val xs = X at *
  subst ex
  refine c_dec (fun hb => ?_) fun hb => ?_
  · have : 4900 < (txt X).length := by
      obtain ⟨m, hm⟩ : ∃ m, m = 4900 := ⟨_, rfl⟩
      obtain ⟨b, hb2⟩ : ∃ b, b = 16278 := ⟨_, rfl⟩
      rw [← hm]
      refine Nat.lt_of_not_le fun hh => ?_
      have h1 := Nat.lt_of_lt_of_le ((txt_len (by omega)).mp hh) (ten_4900 hm hb2)
      have := blen_le.mpr h1
      omega
    rw [if_pos this]; exact ⟨Keep.refl _, rfl⟩
  · obtain ⟨m, hm⟩ : ∃ m, m = 16278 := ⟨_, rfl⟩
    have hX := blen_le.mp (show blen X ≤ m by omega)
    have e0 : X / 10 ^ (19 * 0) = X := by rw [Nat.mul_zero, Nat.pow_zero, Nat.div_one]
    refine ⟨X + 1, ?_⟩
    have := Text_outer (R := fun v h' => Keep h2 h' ∧ v = .tuple #[.string (if 4900 < (txt X).length then (⟨#[]⟩, 5) else (bstr (txt X), 0) : ByteArray × Int).1, .int .i64 (if 4900 < (txt X).length then (⟨#[]⟩, 5) else (bstr (txt X), 0) : ByteArray × Int).2]) (M := m) h8 (by omega) (Nat.lt_of_lt_of_le hX (Nat.pow_le_pow_left (by decide) _)) (fun h' k => ⟨k, rfl⟩) X 0 a c none 0 h2
      (by rw [e0]; exact Nat.lt_of_lt_of_le (Nat.lt_pow_self (by decide)) (Nat.pow_le_pow_right (by decide) (by omega))) (by decide) (by rw [e0]; exact ⟨r.toE, Or.inr fun p e q eq => by cases eq⟩) (GotE.nil _ _) (Keep.refl _)
    rw [e0] at this
    exact this
end Go.Proofs.Ytdpkfipkjdlmlaa.G

/- The document's digits, and its Text; the statement NatdivTexts. -/
namespace Go.Proofs.Ytdpkfipkjdlmlaa.G
open Go.Gv
set_option maxRecDepth 100000
set_option linter.unusedVariables false
end Go.Proofs.Ytdpkfipkjdlmlaa.G

/- The statement NatdivReadsBack: Read takes back what Text told, and Text tells what Read took. -/
namespace Go.Proofs.Ytdpkfipkjdlmlaa.G
open Go.Gv
set_option maxRecDepth 100000
set_option linter.unusedVariables false
theorem txt_lt {X : Nat} : ∀ b ∈ txt X, b < 256 := fun b hb => by have := txt_digit hb; omega
theorem readS_txt {X : Nat} (h : (txt X).length ≤ 4900) : readS (bstr (txt X)) = (digs X, 0) := by
  have hs : (bstr (txt X)).size = (txt X).length := bstr_size _
  have h0 : (txt X).length ≠ 0 := fun hh => txt_ne X (List.length_eq_zero_iff.mp hh)
  rw [readS_yes (by omega) (by omega) (by
    rw [byt_bstr txt_lt]
    intro b hb; have := txt_digit hb; exact decide_eq_true this)]
  rw [byt_bstr txt_lt, num_txt]
theorem readS_ok {s : ByteArray} (h : (readS s).2 = 0) : s.size ≤ 4900 ∧ s.size ≠ 0 ∧ (∀ b ∈ byt s, isD b = true) ∧ readS s = (digs (num (byt s)), 0) := by
  unfold readS at *
  by_cases h1 : 4900 < s.size
  · rw [if_pos h1] at h; exact absurd h (by decide)
  rw [if_neg h1] at h ⊢
  by_cases h2 : s.size = 0
  · rw [if_pos h2] at h; exact absurd h (by decide)
  rw [if_neg h2] at h ⊢
  by_cases h3 : (byt s).all isD = true
  · rw [if_pos h3]; exact ⟨by omega, h2, List.all_eq_true.mp h3, rfl⟩
  · rw [if_neg h3] at h; exact absurd h (by decide)
theorem readS_40 : readS ⟨#[48, 48, 52, 48]⟩ = ([40], 0) := by
  rw [readS_yes (by decide) (by decide) (by decide)]
  rw [show num (byt ⟨#[48, 48, 52, 48]⟩) = 40 by rfl, digs1 (by decide) (by decide)]
end Go.Proofs.Ytdpkfipkjdlmlaa.G

/- roomy and kept; owners out of lists made one behind the other; the statement NatdivReadMemory. -/
namespace Go.Proofs.Ytdpkfipkjdlmlaa.G
open Go.Gv
set_option maxRecDepth 100000
set_option linter.unusedVariables false
/-! ### spare room -/
theorem roomy_loop {R : Rt} {h0 : Hp} {A : Option Addr} {C c i b : Nat} {xs : List Nat} (hb : xs.length ≤ 17592186044000) (hc : xs.length + 6 ≤ c)
    (post : ∀ h', Keep h0 h' → GotE eU64 h0 h' (some ⟨b, 0, none⟩) c (xs ++ mks i 300000 6) → gnomonlaw03_roomy.D2.t R A xs.length C (some ⟨b, 0, none⟩) (xs ++ mks i 300000 6).length c h') :
    ∀ (k t : Nat) (h : Hp), t + k = 6 → GotE eU64 h0 h (some ⟨b, 0, none⟩) c (xs ++ mks i 300000 t) → Keep h0 h → gnomonlaw03_roomy.L4.t R (k + 1) A xs.length C (i : Int) (some ⟨b, 0, none⟩) (xs ++ mks i 300000 t).length c (t : Int) h := by
  intro k
  induction k with
  | zero =>
    intro t h ht g kp
    unfold gnomonlaw03_roomy.L4.t gnomonlaw03_roomy.D5.t
    refine c_dec (fun hb => absurd hb (by omega)) fun _ => ?_
    have e : t = 6 := by omega
    subst e
    exact post h kp g
  | succ k ih =>
    intro t h ht g kp
    have ih := ih (t + 1)
    rw [mks_snoc, ← List.append_assoc] at ih
    unfold gnomonlaw03_roomy.L4.t gnomonlaw03_roomy.D5.t
    refine c_dec (fun _ => ?_) fun hb => absurd (by omega) hb
    refine k_i64 ((300000 + t : Nat) : Int) (by omega) (by omega) (by omega) ?_
    refine mark_intro ?_
    refine boxE eU64 [m3 (i : Int) ((300000 + t : Nat) : Int)] rfl (fun y hy => by rw [List.mem_singleton.mp hy]; exact m3_lt _ _) fun h2 o2 k2 => ?_
    have hlen : (xs ++ mks i 300000 t).length = xs.length + t := by rw [List.length_append, mks_len]
    refine apE4 (g.keep k2) (Nat.le_trans kp.le k2.le) (o2.rd' (c := 1) (by show 1 ≤ 35184372088828; decide) (Nat.le_refl _)) rfl rfl rfl 0 rfl ok64 8 rfl (by decide) (by rw [hlen]; show _ + 1 ≤ 35184372088828; omega) (fun hh => by rw [hlen, List.length_singleton] at hh; omega) (fun _ h' g' kx => ?_) (fun hh => absurd (by rw [hlen, List.length_singleton]; omega) hh)
    refine k_i64 ((t + 1 : Nat) : Int) (by omega) (by omega) (by omega) ?_
    rw [← List.length_append]
    exact ih h' (by omega) g' (kx.keep (kp.trans k2) g.offs)
theorem roomy_spec {a : Option Addr} {c l i : Nat} {xs : List Nat} {h : Hp} (r : Rd h a c xs) (hl : l = xs.length) (hb : xs.length ≤ 17592186044000) :
    HC gnomonlaw03_roomy.id #[.slice a l c, .int .i64 (i : Int)] h fun v h' => Keep h h' ∧ ∃ b rest, v = .tuple #[.slice (some ⟨b, 0, none⟩) xs.length (xs.length + 6), .slice (some ⟨b, 0, none⟩) (xs.length + 6) (xs.length + 6)] ∧ h.size ≤ b ∧ BlkE eU64 h' b (xs ++ mks i 300000 6 ++ rest) := by
  subst hl
  refine gnomonlaw03_roomy.ok ?_
  unfold gnomonlaw03_roomy.t gnomonlaw03_roomy.D1.t
  refine k_i64 ((xs.length + 6 : Nat) : Int) (by omega) (by omega) (by omega) ?_
  refine mkE eU64 0 0 (xs.length + 6) rfl ok64 8 rfl (by decide) rfl rfl (by omega) (by omega) fun h1 o1 k1 => ?_
  rw [Int.toNat_natCast, show ((0 : Int).toNat) = 0 from rfl]
  have g1 : GotE eU64 h h1 (some ⟨h.size, 0, none⟩) (xs.length + 6) [] := BlkE.got (xs := []) (rest := List.replicate (xs.length + 6) 0) (by simpa using o1) (Nat.le_refl _) (by simp) (by simp) (by simp)
  refine apE4 g1 k1.le (r.keep k1).toE rfl rfl rfl 0 rfl ok64 8 rfl (by decide) (by show _ + _ ≤ 35184372088828; simp; omega) (fun hh => by simp at hh; omega) (fun _ h2 g2 kx => ?_) (fun hh => absurd (by simp) hh)
  have k2 : Keep h h2 := kx.keep k1 g1.offs
  rw [List.nil_append] at g2
  rw [show ([] : List Nat).length + xs.length = (xs ++ mks i 300000 0).length by simp [mks]]
  unfold gnomonlaw03_roomy.D3.t
  refine ⟨7, roomy_loop hb (Nat.le_refl _) (fun h3 k3 g3 => ?_) 6 0 h2 rfl (by simpa [mks] using g2) k2⟩
  unfold gnomonlaw03_roomy.D2.t
  refine sl_to (n := xs.length) rfl (by omega) ?_
  refine ⟨k3, ?_⟩
  have hlen : (xs ++ mks i 300000 6).length = xs.length + 6 := by rw [List.length_append, mks_len]
  rcases g3.here with ⟨e1, _, _⟩ | ⟨b, rest, e1, e2, o, _⟩
  · rw [e1] at hlen; simp at hlen
  · cases e1
    exact ⟨_, rest, by rw [hlen], e2, o⟩
theorem kept_loop {R : Rt} {a b : Option Addr} {c d i n : Nat} {xs : List Nat} {h : Hp} (r : Rd h a c xs) (w : Rd h b d (xs ++ mks i 300000 6)) (hb : xs.length ≤ 17592186044000) (hn : n = xs.length + 6)
    (post : R (.bool true) h) : ∀ (k j : Nat), j + k = n → gnomonlaw03_kept.L4.t R (k + 1) a xs.length c b n d (i : Int) (j : Int) h := by
  have hlen : (xs ++ mks i 300000 6).length = xs.length + 6 := by rw [List.length_append, mks_len]
  intro k
  induction k with
  | zero =>
    intro j hj
    unfold gnomonlaw03_kept.L4.t gnomonlaw03_kept.D5.t
    refine c_dec (fun hb => absurd hb (by omega)) fun _ => ?_
    unfold gnomonlaw03_kept.D2.t
    refine k_i64 ((n : Nat) : Int) (by omega) (by omega) (by omega) ?_
    rw [beq_self_eq_true]; exact post
  | succ k ih =>
    intro j hj
    unfold gnomonlaw03_kept.L4.t gnomonlaw03_kept.D5.t
    refine c_dec (fun _ => ?_) fun hb => absurd (by omega) hb
    refine c_dec (fun hb => ?_) fun hb => ?_
    · refine at64 w.toE (j := j) rfl (by omega) (by omega) ?_
      refine at64 r.toE (j := j) rfl rfl (by omega) ?_
      have e : (xs ++ mks i 300000 6).getD j 0 = xs.getD j 0 := by
        simp only [List.getD]; rw [List.getElem?_append_left (by omega)]
      rw [e]
      refine c_ne (fun hh => absurd rfl hh) fun _ => ?_
      refine c_dec (fun hb => absurd hb (by omega)) fun _ => ?_
      refine k_i64 ((j + 1 : Nat) : Int) (by omega) (by omega) (by omega) ?_
      exact ih (j + 1) (by omega)
    · refine c_dec (fun _ => ?_) fun hb => absurd (by omega) hb
      refine at64 w.toE (j := j) rfl (by omega) (by omega) ?_
      refine k_i64 ((300000 + j : Nat) : Int) (by omega) (by omega) (by omega) ?_
      refine k_i64 ((300000 + (j - xs.length) : Nat) : Int) (by omega) (by omega) (by omega) ?_
      refine mark_intro ?_
      have e : (xs ++ mks i 300000 6).getD j 0 = m3 (i : Int) ((300000 + (j - xs.length) : Nat) : Int) := by
        simp only [List.getD]
        rw [List.getElem?_append_right (by omega), mks_get i 300000 6 (j - xs.length) (by omega)]; rfl
      rw [e]
      refine c_ne (fun hh => absurd rfl hh) fun _ => ?_
      refine k_i64 ((j + 1 : Nat) : Int) (by omega) (by omega) (by omega) ?_
      exact ih (j + 1) (by omega)
theorem kept_spec {a b : Option Addr} {c d i l n : Nat} {xs : List Nat} {h : Hp} (r : Rd h a c xs) (hl : l = xs.length) (w : Rd h b d (xs ++ mks i 300000 6)) (hn : n = xs.length + 6) (hb : xs.length ≤ 17592186044000) :
    HC gnomonlaw03_kept.id #[.slice a l c, .slice b n d, .int .i64 (i : Int)] h fun v h' => h' = h ∧ v = .bool true := by
  subst hl
  refine gnomonlaw03_kept.ok ?_
  unfold gnomonlaw03_kept.t gnomonlaw03_kept.D1.t gnomonlaw03_kept.D3.t
  exact ⟨n + 1, kept_loop r w hb hn ⟨rfl, rfl⟩ n 0 (by omega)⟩
/-! ### owners -/
theorem owners {lo hi : Nat} {h : Hp} {hs : List Sl} {lls : List (List Nat)} (f : FreshL lo hi h hs lls) : ∃ O : Om, (∀ b, b < lo → O b = none) ∧ (∀ b, hi ≤ b → O b = none) ∧
    ∀ (i : Nat) (s : Sl) (xs : List Nat), hs[i]? = some s → lls[i]? = some xs → xs.length ≤ 17592186044400 → Ow O h i s xs := by
  classical
  let P : Nat → Nat → Prop := fun b i => ∃ s p, hs[i]? = some s ∧ s.1 = some p ∧ p.block = b
  have hblk : ∀ b i, P b i → lo ≤ b ∧ b < hi := by
    rintro b i ⟨s, p, h1, h2, h3⟩
    rw [← h3]
    exact f.block s (List.mem_of_getElem? h1) p h2
  refine ⟨fun b => if hb : ∃ i, P b i then some (Classical.choose hb) else none, fun b hb => dif_neg (fun ⟨i, hi⟩ => by have := hblk b i hi; omega), fun b hb => dif_neg (fun ⟨i, hi⟩ => by have := hblk b i hi; omega), fun i s xs e1 e2 hx => ?_⟩
  obtain ⟨w1, w2, w3, w4⟩ := f.at_ i s xs e1 e2
  refine ⟨w1, w2, hx, w4.imp id ?_⟩
  rintro ⟨b, rest, f1, _, _, o, f4⟩
  have hb : ∃ i, P b i := ⟨i, s, _, e1, f1, rfl⟩
  refine ⟨b, rest, f1, ?_, o, f4⟩
  show (if hb : ∃ i, P b i then some (Classical.choose hb) else none) = some i
  rw [dif_pos hb]
  obtain ⟨t, q, g1, g2, g3⟩ := Classical.choose_spec hb
  exact congrArg some (f.two _ _ t s q _ g1 e1 g2 f1 g3)
/-- Lists that were made in different spans of time. -/
theorem fresh_slots {lo hi : Nat} {h : Hp} {f : Nat → Nat} (mono : ∀ k, f k ≤ f (k + 1)) (flo : lo ≤ f 0) (fhi : ∀ k, f k ≤ hi) {hs : List Sl} {lls : List (List Nat)} {σ : List Nat} (hl : hs.length = lls.length) (nd : σ.Nodup)
    (own : ∀ (i : Nat) (s : Sl) (xs : List Nat), hs[i]? = some s → lls[i]? = some xs → ∃ k, σ[i]? = some k ∧ Own1 (f k) (f (k + 1)) h s xs) : FreshL lo hi h hs lls := by
  have mle : ∀ i j, i ≤ j → f i ≤ f j := by
    intro i j hij
    induction hij with
    | refl => exact Nat.le_refl _
    | step _ ih => exact Nat.le_trans ih (mono _)
  have get : ∀ (i : Nat) (s : Sl), hs[i]? = some s → ∃ xs, lls[i]? = some xs := fun i s e => by
    have := (List.getElem?_eq_some_iff.mp e).1
    exact ⟨lls[i]'(by omega), by simp⟩
  refine ⟨hl, fun i s xs e1 e2 => ?_, fun i j s t p q e1 e2 f1 f2 e => ?_⟩
  · obtain ⟨k, _, o⟩ := own i s xs e1 e2
    exact o.wide (Nat.le_trans flo (mle 0 k (Nat.zero_le _))) (fhi _)
  · obtain ⟨xs, ex⟩ := get i s e1
    obtain ⟨ys, ey⟩ := get j t e2
    obtain ⟨k, ek, o1⟩ := own i s xs e1 ex
    obtain ⟨m, em, o2⟩ := own j t ys e2 ey
    have b1 := o1.block p f1
    have b2 := o2.block q f2
    have hkm : k = m := by
      rcases Nat.lt_trichotomy k m with h1 | h1 | h1
      · have := mle (k + 1) m h1; omega
      · exact h1
      · have := mle (m + 1) k h1; omega
    subst hkm
    obtain ⟨hi1, hi2⟩ := (List.getElem?_eq_some_iff.mp ek)
    obtain ⟨hj1, hj2⟩ := (List.getElem?_eq_some_iff.mp em)
    rcases Nat.lt_trichotomy i j with h1 | h1 | h1
    · exact absurd (hi2.trans hj2.symm) (List.pairwise_iff_getElem.mp nd i j hi1 hj1 h1)
    · exact h1
    · exact absurd (hj2.trans hi2.symm) (List.pairwise_iff_getElem.mp nd j i hj1 hi1 h1)
/-! ### the list written over -/
theorem m3_92 {j : Nat} (h : j ≤ 100000) : m3 92 (j : Int) ≠ 0 := by
  have e : m3 92 (j : Int) = j * 7919 + 6485183463506514519 := by
    unfold m3
    rw [show IntKind.i64.wrap (92 + 1) = 93 from wrap_i64 (by decide) (by decide), wrap_u64' (x := 93) (by decide) (by decide), show (93 : Int) * 1000003 = 93000279 by decide, wrap_u64' (x := 93000279) (by decide) (by decide),
      wrap_u64' (x := (j : Int)) (by omega) (by omega), wrap_u64' (x := (j : Int) * 7919) (by omega) (by omega), wrap_u64' (x := 93000279 + (j : Int) * 7919) (by omega) (by omega), wrap_u64' (x := 93000279 + (j : Int) * 7919 + 6485183463413514240) (by omega) (by omega)]
    omega
  rw [e]; omega
theorem frm_mks {n : Nat} (hn : n ≤ 8192) : Frm (mks 92 0 n) := by
  refine ⟨by rw [mks_len]; exact hn, ?_⟩
  cases n with
  | zero => rfl
  | succ n =>
    rw [mks_snoc]
    exact trimL_last _ (by rw [Nat.zero_add]; exact m3_92 (by omega))
theorem textS_mks {n : Nat} (hn : n ≤ 200) : textS (mks 92 0 n) = (bstr (txt (val (mks 92 0 n))), 0) ∧ (txt (val (mks 92 0 n))).length ≤ 4900 := by
  have hf := frm_mks (n := n) (by omega)
  have hd := hf.digs (mks_ok 92 0 n)
  obtain ⟨q, hq⟩ : ∃ q, q = 4900 := ⟨_, rfl⟩
  have hlt := digs_len.mp (show (digs (val (mks 92 0 n))).length ≤ n by rw [hd, mks_len]; exact Nat.le_refl _)
  have hX : (txt (val (mks 92 0 n))).length ≤ q := by
    rw [txt_len (by omega)]
    refine Nat.lt_of_lt_of_le hlt (Nat.le_trans (Nat.pow_le_pow_right (by decide) (show 64 * n ≤ 3 * q by omega)) ?_)
    rw [Nat.pow_mul]; exact Nat.pow_le_pow_left (by decide) q
  rw [hq] at hX
  refine ⟨?_, hX⟩
  unfold textS
  rw [if_pos hf, if_neg (by omega)]
theorem over_loop {R : Rt} {h0 : Hp} {a7 a9 : Option Addr} {l7 c7 l9 c9 n cx b : Nat} (hn : n ≤ 17592186044000)
    (post : ∀ h' zs, BlkE eU64 h' b zs → zs.take n = mks 92 0 n → n + 6 ≤ zs.length → KeepB b h0 h' → gnomonlaw03_NatdivReadMemory.D4.t R a7 l7 c7 a9 l9 c9 (some ⟨b, 0, none⟩) n cx h') :
    ∀ (k j : Nat) (zs : List Nat) (h : Hp), j + k = n → n + 6 ≤ zs.length → zs.take j = mks 92 0 j → BlkE eU64 h b zs → KeepB b h0 h → gnomonlaw03_NatdivReadMemory.L7.t R (k + 1) a7 l7 c7 a9 l9 c9 (some ⟨b, 0, none⟩) n cx (j : Int) h := by
  intro k
  induction k with
  | zero =>
    intro j zs h hj hz hp o kb
    unfold gnomonlaw03_NatdivReadMemory.L7.t gnomonlaw03_NatdivReadMemory.D8.t
    refine c_dec (fun hb => absurd hb (by omega)) fun _ => ?_
    have e : j = n := by omega
    subst e
    exact post h zs o hp hz kb
  | succ k ih =>
    intro j zs h hj hz hp o kb
    unfold gnomonlaw03_NatdivReadMemory.L7.t gnomonlaw03_NatdivReadMemory.D8.t
    refine c_dec (fun _ => ?_) fun hb => absurd (by omega) hb
    refine mark_intro (x := 92) ?_
    refine putE0 o (j := j) (v := m3 92 (j : Int)) rfl (by omega) (by omega) rfl (m3_lt _ _) fun o2 k2 => ?_
    refine k_i64 ((j + 1 : Nat) : Int) (by omega) (by omega) (by omega) ?_
    refine ih (j + 1) _ _ (by omega) (by rw [List.length_set]; exact hz) ?_ o2 (kb.trans k2)
    rw [set_take (by omega), hp, mks_snoc, Nat.zero_add]; rfl
theorem readS_len (s : ByteArray) : (readS s).1.length ≤ 8192 := by
  by_cases h : (readS s).2 = 0
  · obtain ⟨h1, h2, h3, h4⟩ := readS_ok h
    have := num_lt h3 (byt s).length (Nat.le_refl _)
    rw [List.take_length] at this
    rw [h4]
    exact digs_10 this (by rw [byt_len]; omega)
  · unfold readS at *
    split
    · decide
    · split
      · decide
      · split
        · next h1 h2 h3 => rw [if_neg h1, if_neg h2, if_pos h3] at h; exact absurd rfl h
        · decide
theorem NatdivReadMemory_law {h : Hp} {s : ByteArray} {a : Option Addr} {c l : Nat} {xs : List Nat} (_ : s.size ≤ 140737488351232) (r : Rd h a c xs) (hl : l = xs.length) (hb : xs.length ≤ 17592186043904) :
    HC gnomonlaw03_NatdivReadMemory.id #[.string s, .slice a l c] h fun v h' => Keep h h' ∧ v = .bool true := by
  subst hl
  refine gnomonlaw03_NatdivReadMemory.ok ?_
  unfold gnomonlaw03_NatdivReadMemory.t gnomonlaw03_NatdivReadMemory.D1.t
  refine hc_intro (Read_spec _ h) fun v h1 ⟨k1, an⟩ => ?_
  rw [readS_40] at an
  refine an.elimG fun a1 c1 g1 _ => ?_
  refine c_ne (fun hh => absurd rfl hh) fun _ => ?_
  refine box_intro [40] (by rfl) (by decide) (by decide) fun h2 o2 k2 => ?_
  refine Same_intro (g1.keep k2).rd64 (o2.rd (by decide)) rfl rfl ?_
  rw [decide_eq_true rfl]
  simp only [Bool.not_true, cond_false]
  have k02 := k1.trans k2
  unfold gnomonlaw03_NatdivReadMemory.D2.t
  refine hc_intro (Read_spec s h2) fun v h3 ⟨k3, an⟩ => ?_
  refine an.elimG fun a3 c3 g3 _ => ?_
  refine hc_intro (Read_spec s h3) fun v h4 ⟨k4, an⟩ => ?_
  refine an.elimG fun a4 c4 g4 _ => ?_
  refine c_ne (fun hh => absurd rfl hh) fun _ => ?_
  refine Same_intro (g3.keep k4).rd64 g4.rd64 rfl rfl ?_
  rw [decide_eq_true rfl]
  simp only [Bool.not_true, cond_false]
  have k04 := k02.trans (k3.trans k4)
  unfold gnomonlaw03_NatdivReadMemory.D3.t
  refine hc_intro (roomy_spec (i := 90) (r.keep k04) rfl (by omega)) fun v h5 ⟨k5, b, rest, e, hb5, o5⟩ => ?_
  subst e
  refine gTup_intro rfl (uncons_intro (gSlice_intro rfl (uncons_intro (gSlice_intro rfl (unnil_intro ?_)))))
  have hlw : (xs ++ mks 90 300000 6).length = xs.length + 6 := by rw [List.length_append, mks_len]
  have rw5 : Rd h5 (some ⟨b, 0, none⟩) (xs.length + 6) (xs ++ mks 90 300000 6) := (o5.rd (by rw [hlw]; show _ ≤ 35184372088828; omega) (by rw [hlw]; exact Nat.le_refl _)).to64
  have rx5 : Rd h5 (some ⟨b, 0, none⟩) (xs.length + 6) xs := by
    have := rw5.take xs.length
    rwa [List.take_left] at this
  refine hc_intro (Text_spec rx5 rfl) fun v h6 ⟨k6, e⟩ => ?_
  subst e
  refine gTup_intro rfl (uncons_intro (gStr_intro rfl (uncons_intro (gInt_intro rfl (unnil_intro ?_)))))
  refine hc_intro (Text_spec (rx5.keep k6) rfl) fun v h7 ⟨k7, e⟩ => ?_
  subst e
  refine gTup_intro rfl (uncons_intro (gStr_intro rfl (uncons_intro (gInt_intro rfl (unnil_intro ?_)))))
  refine c_ne (fun hh => absurd rfl hh) fun _ => ?_
  simp only [beq_self_eq_true, Bool.not_true, cond_false]
  have k57 := k6.trans k7
  have k07 := k04.trans (k5.trans k57)
  refine hc_intro (kept_spec (i := 90) (r.keep k07) rfl (rw5.keep k57) rfl (by omega)) fun v h8 ⟨e1, e2⟩ => ?_
  subst e1; subst e2
  refine gBool_intro rfl ?_
  simp only [Bool.not_true, cond_false]
  unfold gnomonlaw03_NatdivReadMemory.D6.t
  refine ⟨xs.length + 1, over_loop (h0 := h8) (b := b) (by omega) (fun h9 zs o9 hz9 hl9 kb9 => ?_) xs.length 0 _ h8 (by omega) (by rw [List.length_append, hlw]; omega) rfl (o5.keep k57) (KeepB.refl _ _)⟩
  have rx9 : ∀ h', Keep h9 h' → Rd h' (some ⟨b, 0, none⟩) (xs.length + 6) (mks 92 0 xs.length) := fun h' k' => by
    have := ((o9.keep k').rdAt (off := 0) (n := xs.length) (c := xs.length + 6) (by show _ ≤ 35184372088828; omega) (by omega) (by omega)).to64
    rwa [List.drop_zero, hz9] at this
  have hlm : xs.length = (mks 92 0 xs.length).length := (mks_len _ _ _).symm
  unfold gnomonlaw03_NatdivReadMemory.D4.t
  refine hc_intro (Text_spec (rx9 h9 (Keep.refl _)) hlm) fun v h10 ⟨k10, e⟩ => ?_
  subst e
  refine gTup_intro rfl (uncons_intro (gStr_intro rfl (uncons_intro (gInt_intro rfl (unnil_intro ?_)))))
  refine hc_intro (Read_spec _ h10) fun v h11 ⟨k11, an⟩ => ?_
  refine an.elimG fun a11 c11 g11 _ => ?_
  have hsz5 := k5.le
  have hsz57 := k57.le
  have k4b : Keep h4 h9 := kb9.keepN (k5.trans k57) hb5
  have k911 := k10.trans k11
  have fin : gnomonlaw03_NatdivReadMemory.D5.t (fun v h' => Keep h h' ∧ v = .bool true) a3 (readS s).1.length c3 a4 (readS s).1.length c4 (some ⟨b, 0, none⟩) xs.length (xs.length + 6) a11 (readS (textS (mks 92 0 xs.length)).1).1.length c11 h11 := by
    unfold gnomonlaw03_NatdivReadMemory.D5.t
    refine boxE eSl [(a3, (readS s).1.length, c3), (a4, (readS s).1.length, c4), (a11, (readS (textS (mks 92 0 xs.length)).1).1.length, c11), (some ⟨b, 0, none⟩, xs.length, xs.length + 6)] rfl (fun _ _ => trivial) fun h12 o12 k12 => ?_
    have fr : FreshL h2.size h11.size h12 [(a3, (readS s).1.length, c3), (a4, (readS s).1.length, c4), (a11, (readS (textS (mks 92 0 xs.length)).1).1.length, c11), (some ⟨b, 0, none⟩, xs.length, xs.length + 6)] [(readS s).1, (readS s).1, (readS (textS (mks 92 0 xs.length)).1).1, mks 92 0 xs.length] := by
      refine fresh_slots (f := fun k => match k with | 0 => h2.size | 1 => h3.size | 2 => h4.size | 3 => h5.size | 4 => h10.size | _ => h11.size) (σ := [0, 1, 4, 2]) (fun k => ?_) (Nat.le_refl _) (fun k => ?_) rfl (by decide) (fun i t ys e1 e2 => ?_)
      · have := k3.le; have := k4.le; have := k57.le; have := kb9.le; have := k10.le; have := k11.le
        match k with
        | 0 => exact k3.le
        | 1 => exact k4.le
        | 2 => exact hsz5
        | 3 => show h5.size ≤ h10.size; omega
        | 4 => exact k11.le
        | k + 5 => exact Nat.le_refl _
      · have := k3.le; have := k4.le; have := k57.le; have := kb9.le; have := k10.le; have := k11.le
        match k with
        | 0 => show h2.size ≤ h11.size; omega
        | 1 => show h3.size ≤ h11.size; omega
        | 2 => show h4.size ≤ h11.size; omega
        | 3 => show h5.size ≤ h11.size; omega
        | 4 => exact k11.le
        | k + 5 => exact Nat.le_refl _
      · match i with
        | 0 =>
          simp at e1 e2; subst e1; subst e2
          exact ⟨0, rfl, (((Own1.of_got g3 rfl (Nat.le_refl _) (Nat.le_refl _)).keep (k4.trans k4b)).keep k911).keep k12⟩
        | 1 =>
          simp at e1 e2; subst e1; subst e2
          exact ⟨1, rfl, (((Own1.of_got g4 rfl (Nat.le_refl _) (Nat.le_refl _)).keep k4b).keep k911).keep k12⟩
        | 2 =>
          simp at e1 e2; subst e1; subst e2
          exact ⟨4, rfl, (Own1.of_got g11 rfl (Nat.le_refl _) (Nat.le_refl _)).keep k12⟩
        | 3 =>
          simp at e1 e2; subst e1; subst e2
          refine ⟨2, rfl, hlm, by rw [mks_len]; show _ ≤ xs.length + 6; omega, by rw [mks_len]; omega, Or.inr ⟨b, zs.drop xs.length, rfl, hb5, o5.lt, ?_, ?_⟩⟩
          · rw [← hz9, List.take_append_drop]; exact (o9.keep k911).keep k12
          · rw [List.length_append, mks_len, List.length_drop]; show xs.length + 6 ≤ _; omega
        | i + 4 => simp at e1
    obtain ⟨O, old, top, ows⟩ := owners fr
    refine hc_intro (apart3_spec (h00 := h) (O := O) (hs := [(a3, (readS s).1.length, c3), (a4, (readS s).1.length, c4), (a11, (readS (textS (mks 92 0 xs.length)).1).1.length, c11), (some ⟨b, 0, none⟩, xs.length, xs.length + 6)]) rfl (by decide) ⟨o12, top _ (Nat.le_refl _)⟩
      ((k04.trans k4b).trans (k911.trans k12)) (fun b' hb' => old b' (Nat.lt_of_lt_of_le hb' k02.le)) (fun b' hb' => top b' (Nat.le_trans k12.le hb')) (fun j t hj => ?_) (fun j t hj => ?_)) fun v h13 ⟨k13, e⟩ => ?_
    · have r1 := readS_len s
      have r2 := readS_len (textS (mks 92 0 xs.length)).1
      match j, hj with
      | 0, hj => exact ⟨_, ows 0 t _ hj rfl (by omega)⟩
      | 1, hj => exact ⟨_, ows 1 t _ hj rfl (by omega)⟩
      | 2, hj => exact ⟨_, ows 2 t _ hj rfl (by omega)⟩
      | 3, hj => exact ⟨_, ows 3 t _ hj rfl (by rw [mks_len]; omega)⟩
      | j + 4, hj => simp at hj
    · have r1 := readS_len s
      have r2 := readS_len (textS (mks 92 0 xs.length)).1
      match j, hj with
      | 0, hj => simp at hj; subst hj; show (readS s).1.length + 64 ≤ _; omega
      | 1, hj => simp at hj; subst hj; show (readS s).1.length + 64 ≤ _; omega
      | 2, hj => simp at hj; subst hj; show (readS (textS (mks 92 0 xs.length)).1).1.length + 64 ≤ _; omega
      | 3, hj => simp at hj; subst hj; show xs.length + 64 ≤ _; omega
      | j + 4, hj => simp at hj
    · subst e
      exact gBool_intro rfl ⟨k13, rfl⟩
  refine c_dec (fun _ => ?_) fun _ => fin
  refine c_dec (fun h200 => ?_) fun _ => fin
  obtain ⟨et, hlt⟩ := textS_mks (n := xs.length) (by omega)
  have er : readS (textS (mks 92 0 xs.length)).1 = (mks 92 0 xs.length, 0) := by
    rw [et]
    dsimp only
    rw [readS_txt hlt, (frm_mks (n := xs.length) (by omega)).digs (mks_ok _ _ _)]
  rw [show (textS (mks 92 0 xs.length)).2 = 0 by rw [et]]
  refine c_ne (fun hh => absurd rfl hh) fun _ => ?_
  rw [show (readS (textS (mks 92 0 xs.length)).1).2 = 0 by rw [er]]
  refine c_ne (fun hh => absurd rfl hh) fun _ => ?_
  refine Same_intro g11.rd64 (rx9 h11 k911) rfl hlm ?_
  rw [decide_eq_true (by rw [er])]
  simp only [Bool.not_true, cond_false]
  exact fin
end Go.Proofs.Ytdpkfipkjdlmlaa.G
