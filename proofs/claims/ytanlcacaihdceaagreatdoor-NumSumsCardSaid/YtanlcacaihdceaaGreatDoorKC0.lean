/- Texts of this work, joined: NatSpec, NatBits, NatOps, Ref01a, Ref01b, Ref01c, Ref01d, Ref01e, Ref01t, NatCmp, NatAdd, NatSub, NatShift, NatMul64, NatMulWord, NatDiv64, NatDivWord, Ref01f, Ref01g, NatHv, DivQ, DivQ2, MulSpec, MulSpec2, MulSpec3, ZInt, ZSpec, ZHv, ZNum, ZNum2, ZNum3, ZNum4, ZRef, ZRefL, ZRef2. -/
import Derived.Test.YtanlcacaihdceaaGreatDoorKF
import Derived.Test.YtanlcacaihdceaaGreatDoorKB
/- What the functions of nat answer, by values of lists. -/
namespace Go.Proofs.YtanlcacaihdceaaGreatDoor.G
open Go.Gv
theorem trim_loop {R : Rt} {a : Option Addr} {c l : Nat} {xs : List Nat} {h : Hp} (r : Rd h a c xs) (hl : l = xs.length) (g : R (.slice a (trimL xs).length c) h) :
    ∀ n : Nat, n ≤ xs.length → trimL (xs.take n) = trimL xs → nat_trim.L3.t R (n + 1) a l c (n : Int) h := by
  have h1 := r.len
  intro n
  have fin : ∀ n : Nat, n ≤ xs.length → trimL xs = xs.take n → nat_trim.D2.t R a l c (n : Int) h := by
    intro n hn e
    refine sl_to rfl (Nat.le_trans hn r.cap) ?_
    have e2 : (trimL xs).length = n := by rw [e, List.length_take]; omega
    rw [← e2]; exact g
  induction n with
  | zero =>
    intro hn hz
    unfold nat_trim.L3.t nat_trim.D4.t
    refine c_dec (fun h => absurd h (by omega)) fun _ => fin 0 hn ?_
    rw [← hz]; rfl
  | succ n ih =>
    intro hn hz
    refine c_dec (fun _ => ?_) fun h => absurd (by omega) h
    refine k_i64 (n : Int) (by omega) (by omega) (by omega) ?_
    refine at_intro r (j := n) rfl hl (by omega) ?_
    have es := take_snoc (xs := xs) (n := n) (by omega)
    refine c_eq (fun he => ?_) fun he => ?_
    · refine k_i64 (n : Int) (by omega) (by omega) (by omega) ?_
      refine ih (by omega) ?_
      rw [← hz, es, show xs.getD n 0 = 0 by omega, trimL_zero]
    · refine fin (n + 1) hn ?_
      rw [← hz, es, trimL_last _ (by omega)]
theorem trim_spec {a : Option Addr} {c l : Nat} {xs : List Nat} {h : Hp} (r : Rd h a c xs) (hl : l = xs.length) :
    HC nat_trim.id #[.slice a l c] h fun v h' => h' = h ∧ v = .slice a (trimL xs).length c ∧ Rd h a c (trimL xs) := by
  have hr : Rd h a c (trimL xs) := by
    have : ∀ n : Nat, n ≤ xs.length → trimL (xs.take n) = trimL xs → ∃ m, trimL xs = xs.take m := by
      intro n
      induction n with
      | zero => intro _ e; exact ⟨0, by rw [← e]; rfl⟩
      | succ n ih =>
        intro hn e
        have es := take_snoc (xs := xs) (n := n) (by omega)
        by_cases h0 : xs.getD n 0 = 0
        · refine ih (by omega) ?_; rw [← e, es, h0, trimL_zero]
        · refine ⟨n + 1, ?_⟩; rw [← e, es, trimL_last _ h0]
    obtain ⟨m, e⟩ := this xs.length (Nat.le_refl _) (by rw [List.take_length])
    rw [e]; exact r.take m
  refine nat_trim.ok ?_
  unfold nat_trim.t nat_trim.D1.t
  refine ⟨xs.length + 1, ?_⟩
  subst hl
  exact trim_loop r rfl ⟨rfl, rfl, hr⟩ xs.length (Nat.le_refl _) (by rw [List.take_length])
theorem told_spec {a : Option Addr} {c l : Nat} {xs : List Nat} {h0 h : Hp} (g : GotE eU64 h0 h a c xs) (hl : l = xs.length) :
    HC nat_told.id #[.slice a l c] h fun v h' => h' = h ∧ Ans h0 h v (lim (val xs)) := by
  have r := g.rd64
  refine nat_told.ok ?_
  unfold nat_told.t nat_told.D1.t
  refine hc_intro (trim_spec r hl) fun v h' ⟨e1, e2, r'⟩ => ?_
  subst e1; subst e2
  have e := digs_val r.words
  refine c_dec (fun hb => ?_) fun hb => ?_
  · refine ⟨rfl, ?_⟩
    unfold lim; rw [e, if_neg (by omega)]; exact Ans.none
  · refine ⟨rfl, ?_⟩
    unfold lim; rw [e, if_pos (by omega)]; exact Ans.mk rfl rfl g.trim (show In .i64 0 by decide)
theorem Form_spec {a : Option Addr} {c l : Nat} {xs : List Nat} {h : Hp} (r : Rd h a c xs) (hl : l = xs.length) :
    HC nat_Form.id #[.slice a l c] h fun v h' => h' = h ∧ v = .bool (decide (Frm xs)) := by
  subst hl
  have h1 := r.len
  refine nat_Form.ok ?_
  unfold nat_Form.t nat_Form.D1.t
  refine c_dec (fun hb => ?_) fun hb => ?_
  · refine c_eq (fun h0 => ?_) fun h0 => ?_
    · refine ⟨rfl, ?_⟩
      have e : xs = [] := List.length_eq_zero_iff.mp (by omega)
      subst e; rfl
    · refine k_i64 ((xs.length - 1 : Nat) : Int) (by omega) (by omega) (by omega) ?_
      refine at_intro r (j := xs.length - 1) rfl rfl (by omega) ⟨rfl, ?_⟩
      have hiff := @trimL_iff xs
      by_cases hz : xs.getD (xs.length - 1) 0 = 0
      · rw [hz]
        have : ¬ Frm xs := fun f => by
          rcases hiff.mp f.2 with e | e
          · subst e; simp at h0
          · exact e hz
        simp [this]
      · have : Frm xs := ⟨by omega, hiff.mpr (Or.inr hz)⟩
        simp only [this, decide_true]
        congr 1
        exact bne_iff_ne.mpr (by omega)
  · refine ⟨rfl, ?_⟩
    have : ¬ Frm xs := fun f => by have := f.1; omega
    simp [this]
theorem Norm_spec {a : Option Addr} {c l : Nat} {xs : List Nat} {h : Hp} (r : Rd h a c xs) (hl : l = xs.length) :
    HC nat_Norm.id #[.slice a l c] h fun v h' => Keep h h' ∧ Ans h h' v (lim (val xs)) := by
  refine nat_Norm.ok ?_
  unfold nat_Norm.t nat_Norm.D1.t
  refine hc_intro (trim_spec r hl) fun v h' ⟨e1, e2, r'⟩ => ?_
  subst e1; subst e2
  have e := digs_val r.words
  refine c_dec (fun hb => ?_) fun hb => ?_
  · refine ⟨Keep.refl _, ?_⟩
    unfold lim; rw [e, if_neg (by omega)]; exact Ans.none
  · have h1 := r'.len
    refine mk_intro (trimL xs).length rfl rfl rfl rfl h1 fun h1 o k => ?_
    refine cp_intro o (r'.keep k) (by simp) rfl (Nat.le_refl _) k fun h2 o2 k2 => ?_
    refine ⟨k2, ?_⟩
    unfold lim; rw [e, if_pos (by omega)]
    have e3 : List.take (List.replicate (trimL xs).length 0).length (trimL xs) ++ List.drop (trimL xs).length (List.replicate (trimL xs).length 0) = trimL xs := by simp
    rw [e3] at o2
    exact Ans.mk (by simp) rfl (o2.got' (Nat.le_refl _) (by simp)) (show In .i64 0 by decide)
theorem Twin_spec {a : Option Addr} {c l : Nat} {xs : List Nat} {h : Hp} (r : Rd h a c xs) (hl : l = xs.length) :
    HC gnomonref01_Twin.id #[.slice a l c] h fun v h' => Keep h h' ∧ AnsS h h' v xs := by
  refine gnomonref01_Twin.ok ?_
  unfold gnomonref01_Twin.t gnomonref01_Twin.D1.t
  subst hl
  have h1 := r.len
  refine mk_intro xs.length rfl rfl rfl rfl h1 fun h1 o k => ?_
  refine cp_intro o (r.keep k) (by simp) rfl (Nat.le_refl _) k fun h2 o2 k2 => ?_
  refine ⟨k2, ?_⟩
  have e3 : List.take (List.replicate xs.length 0).length xs ++ List.drop xs.length (List.replicate xs.length 0) = xs := by simp
  rw [e3] at o2
  exact ⟨_, _, rfl, o2.got' (Nat.le_refl _) (by simp)⟩
theorem Same_loop {R : Rt} {a b : Option Addr} {c d l m : Nat} {xs ys : List Nat} {h : Hp} (r : Rd h a c xs) (s : Rd h b d ys) (hl : l = xs.length) (hm : m = ys.length) (he : xs.length = ys.length) (g : R (.bool (decide (xs = ys))) h) :
    ∀ k n : Nat, n + k = xs.length → xs.take n = ys.take n → gnomonref01_Same.L4.t R (k + 1) a l c b m d (n : Int) h := by
  subst hl; subst hm
  have h1 := r.len
  intro k
  induction k with
  | zero =>
    intro n hn ht
    refine c_dec (fun hb => absurd hb (by omega)) fun _ => ?_
    have e : xs = ys := by
      rw [← List.take_length (l := xs), ← List.take_length (l := ys), ← he, show xs.length = n by omega]; exact ht
    show R (.bool true) h
    simpa [e] using g
  | succ k ih =>
    intro n hn ht
    refine c_dec (fun hb => ?_) fun hb => absurd (by omega) hb
    refine at_intro r (j := n) rfl rfl (by omega) ?_
    refine at_intro s (j := n) rfl rfl (by omega) ?_
    refine c_ne (fun hne => ?_) fun heq => ?_
    · have e : xs ≠ ys := fun e => hne (by rw [e])
      simpa [e] using g
    · refine k_i64 ((n + 1 : Nat) : Int) (by omega) (by omega) (by omega) ?_
      refine ih (n + 1) (by omega) ?_
      rw [take_snoc (by omega), take_snoc (by omega), ht, show xs.getD n 0 = ys.getD n 0 by omega]
theorem Same_spec {a b : Option Addr} {c d l m : Nat} {xs ys : List Nat} {h : Hp} (r : Rd h a c xs) (s : Rd h b d ys) (hl : l = xs.length) (hm : m = ys.length) :
    HQC gnomonref01_Same.id #[.slice a l c, .slice b m d] h fun v => v = .bool (decide (xs = ys)) := by
  refine ⟨.bool (decide (xs = ys)), ?_, rfl⟩
  refine gnomonref01_Same.ok ?_
  unfold gnomonref01_Same.t gnomonref01_Same.D1.t
  refine c_ne (fun hne => ?_) fun he => ?_
  · have e : xs ≠ ys := fun e => hne (by rw [hl, hm, e])
    simp [e]
  · refine ⟨l + 1, ?_⟩
    refine Same_loop r s hl hm (by omega) ⟨rfl, rfl⟩ l 0 (by omega) ?_
    simp
end Go.Proofs.YtanlcacaihdceaaGreatDoor.G

/- What Len64 and Bits answer. -/
namespace Go.Proofs.YtanlcacaihdceaaGreatDoor.G
open Go.Gv
set_option maxRecDepth 100000
/-! ### bits -/
theorem shr_k {x : Int} {y : Int} {n : Nat} (hx : x = (n : Int)) (s p : Nat) (hs : s ≤ 64) (hp : p = 2 ^ s) (hy : y = (s : Int)) {K : Int → Prop} (g : K ((n / p : Nat) : Int)) : letK (shrI .u64 x y) K := by
  subst hx; subst hy; subst hp
  refine ⟨?_⟩
  show K (Int.fdiv (n : Int) (2 ^ (min (s : Int).toNat 64)))
  have e : min (s : Int).toNat 64 = s := by omega
  rw [e]
  have e2 : Int.fdiv (n : Int) (2 ^ s) = ((n / 2 ^ s : Nat) : Int) := by
    rw [Int.fdiv_eq_ediv_of_nonneg _ (Int.le_of_lt (Int.pow_pos (by decide)))]
    norm_cast
  rw [e2]; exact g
theorem letK_intro {x y : Int} (e : x = y) {K : Int → Prop} (g : K y) : letK x K := by subst e; exact ⟨g⟩
theorem idxS_intro {s : ByteArray} {x : Int} {n : Nat} {b : UInt8} (hx : x = (n : Int)) (e : s[n]? = some b) {K : Int → Prop} (g : K (b.toNat : Int)) : idxS s x K := by
  subst hx
  refine ⟨by omega, ?_⟩
  rw [Int.toNat_natCast, e]; exact g
theorem tab_ok : (List.range 256).all (fun x => decide ((⟨#[0, 1, 2, 2, 3, 3, 3, 3, 4, 4, 4, 4, 4, 4, 4, 4, 5, 5, 5, 5, 5, 5, 5, 5, 5, 5, 5, 5, 5, 5, 5, 5, 6, 6, 6, 6, 6, 6, 6, 6, 6, 6, 6, 6, 6, 6, 6, 6, 6, 6, 6, 6, 6, 6, 6, 6, 6, 6, 6, 6, 6, 6, 6, 6, 7, 7, 7, 7, 7, 7, 7, 7, 7, 7, 7, 7, 7, 7, 7, 7, 7, 7, 7, 7, 7, 7, 7, 7, 7, 7, 7, 7, 7, 7, 7, 7, 7, 7, 7, 7, 7, 7, 7, 7, 7, 7, 7, 7, 7, 7, 7, 7, 7, 7, 7, 7, 7, 7, 7, 7, 7, 7, 7, 7, 7, 7, 7, 7, 8, 8, 8, 8, 8, 8, 8, 8, 8, 8, 8, 8, 8, 8, 8, 8, 8, 8, 8, 8, 8, 8, 8, 8, 8, 8, 8, 8, 8, 8, 8, 8, 8, 8, 8, 8, 8, 8, 8, 8, 8, 8, 8, 8, 8, 8, 8, 8, 8, 8, 8, 8, 8, 8, 8, 8, 8, 8, 8, 8, 8, 8, 8, 8, 8, 8, 8, 8, 8, 8, 8, 8, 8, 8, 8, 8, 8, 8, 8, 8, 8, 8, 8, 8, 8, 8, 8, 8, 8, 8, 8, 8, 8, 8, 8, 8, 8, 8, 8, 8, 8, 8, 8, 8, 8, 8, 8, 8, 8, 8, 8, 8, 8, 8, 8, 8, 8, 8, 8, 8, 8, 8, 8, 8, 8, 8, 8, 8]⟩ : ByteArray)[x]? = some (UInt8.ofNat (blen x)))) = true := by decide +kernel
theorem Len64_end {R : Rt} {n s : Nat} {x y : Int} (hx : x = (n : Int)) (hy : y = (s : Int)) (hn : n < 256) (hs : s ≤ 64) {h : Hp} (g : R (.int .i64 ((s + blen n : Nat) : Int)) h) : bits_Len64.D4.t R x y h := by
  subst hx; subst hy
  unfold bits_Len64.D4.t
  have hb : blen n ≤ 8 := blen_le.mpr (by omega)
  have ht := List.all_eq_true.mp tab_ok n (by simpa using hn)
  have ht := of_decide_eq_true ht
  have ew : IntKind.u8.wrap (n : Int) = (n : Int) := by
    simp only [IntKind.wrap, IntKind.bits, IntKind.signed, Bool.false_and, Bool.false_eq_true, if_false]; omega
  refine letK_intro ew ?_
  refine idxS_intro rfl ht ?_
  have e2 : ((UInt8.ofNat (blen n)).toNat : Int) = (blen n : Int) := by
    rw [UInt8.toNat_ofNat']; omega
  refine k_i64 (blen n : Int) e2 (by omega) (by omega) ?_
  refine k_i64 ((s + blen n : Nat) : Int) (by omega) (by omega) (by omega) ?_
  exact g
theorem Len64_spec {x : Int} {n : Nat} (hx : x = (n : Int)) (hn : n < 18446744073709551616) (h : Hp) :
    HC bits_Len64.id #[.int .u64 x] h fun v h' => h' = h ∧ v = .int .i64 (blen n : Int) := by
  subst hx
  refine bits_Len64.ok ?_
  unfold bits_Len64.t bits_Len64.D1.t
  have low : ∀ (m s : Nat) (x y : Int), x = (m : Int) → y = (s : Int) → m < 65536 → s ≤ 48 → s + blen m = blen n → bits_Len64.D3.t (fun v h' => h' = h ∧ v = .int .i64 (blen n : Int)) x y h := by
    intro m s x y hx hy hm hs e
    subst hx; subst hy
    unfold bits_Len64.D3.t
    refine c_dec (fun hb => ⟨by omega, ?_⟩) fun hb => ?_
    · refine shr_k rfl 8 256 (by omega) (by omega) rfl ?_
      refine k_i64 ((s + 8 : Nat) : Int) (by omega) (by omega) (by omega) ?_
      have := blen_div m 8
      have hp : 8 < blen m := Nat.lt_of_not_le fun hh => by have := blen_le.mp hh; omega
      refine Len64_end rfl rfl (by omega) (by omega) ⟨rfl, ?_⟩
      rw [← e, show (256 : Nat) = 2 ^ 8 by decide, this]
      congr 2; omega
    · refine Len64_end rfl rfl (by omega) (by omega) ⟨rfl, by rw [e]⟩
  have mid : ∀ (m s : Nat) (x y : Int), x = (m : Int) → y = (s : Int) → m < 4294967296 → s ≤ 32 → s + blen m = blen n → bits_Len64.D2.t (fun v h' => h' = h ∧ v = .int .i64 (blen n : Int)) x y h := by
    intro m s x y hx hy hm hs e
    subst hx; subst hy
    unfold bits_Len64.D2.t
    refine c_dec (fun hb => ⟨by omega, ?_⟩) fun hb => ?_
    · refine shr_k rfl 16 65536 (by omega) (by omega) rfl ?_
      refine k_i64 ((s + 16 : Nat) : Int) (by omega) (by omega) (by omega) ?_
      have := blen_div m 16
      have hp : 16 < blen m := Nat.lt_of_not_le fun hh => by have := blen_le.mp hh; omega
      refine low _ _ _ _ rfl rfl (by omega) (by omega) ?_
      rw [← e, show (65536 : Nat) = 2 ^ 16 by decide, this]; omega
    · exact low _ _ _ _ rfl rfl (by omega) (by omega) e
  refine c_dec (fun hb => ⟨by omega, ?_⟩) fun hb => ?_
  · refine shr_k rfl 32 4294967296 (by omega) (by omega) rfl ?_
    have := blen_div n 32
    have hp : 32 < blen n := Nat.lt_of_not_le fun hh => by have := blen_le.mp hh; omega
    refine mid _ 32 _ _ rfl rfl (by omega) (by omega) ?_
    rw [show (4294967296 : Nat) = 2 ^ 32 by decide, this]; omega
  · exact mid _ 0 _ _ rfl rfl (by omega) (by omega) (by omega)
theorem Bits_spec {a : Option Addr} {c l : Nat} {xs : List Nat} {h : Hp} (r : Rd h a c xs) (hl : l = xs.length) :
    HC nat_Bits.id #[.slice a l c] h fun v h' => h' = h ∧ v = .int .i64 (blen (val xs) : Int) := by
  refine nat_Bits.ok ?_
  unfold nat_Bits.t nat_Bits.D1.t
  refine hc_intro (trim_spec r hl) fun v h' ⟨e1, e2, r'⟩ => ?_
  subst e1; subst e2
  refine gSlice_intro rfl ?_
  rw [← val_trimL xs]
  have h1 := r'.len
  refine c_eq (fun h0 => ⟨rfl, ?_⟩) fun h0 => ?_
  · have e : trimL xs = [] := List.length_eq_zero_iff.mp (by omega)
    rw [e]; rfl
  · obtain ⟨n, hn⟩ : ∃ n, (trimL xs).length = n + 1 := ⟨(trimL xs).length - 1, by omega⟩
    rw [hn]
    refine k_i64 (n : Int) (by omega) (by omega) (by omega) ?_
    refine k_i64 ((64 * n : Nat) : Int) (by omega) (by omega) (by omega) ?_
    refine k_i64 (n : Int) (by omega) (by omega) (by omega) ?_
    refine at_intro r' (j := n) rfl hn.symm (by omega) ?_
    have hlast : (trimL xs).getD n 0 ≠ 0 := by
      rcases trimL_iff.mp (trimL_trimL xs) with e | e
      · rw [e] at hn; simp at hn
      · rwa [hn] at e
    have hb := blen_trim r'.words hn hlast
    have hle : blen ((trimL xs).getD n 0) ≤ 64 := blen_le.mpr (r'.word n)
    refine hc_intro (Len64_spec rfl (r'.word n) _) fun v h' ⟨e1, e2⟩ => ?_
    subst e1; subst e2
    refine gInt_intro rfl ?_
    refine k_i64 (blen (val (trimL xs)) : Int) (by omega) (by omega) (by omega) ⟨rfl, rfl⟩
end Go.Proofs.YtanlcacaihdceaaGreatDoor.G

/- Steps with bits of words. -/
namespace Go.Proofs.YtanlcacaihdceaaGreatDoor.G
open Go.Gv
set_option maxRecDepth 100000
/-! ### words and their bits -/
theorem shl_k {x y : Int} {n : Nat} (hx : x = (n : Int)) (s p : Nat) (hs : s ≤ 64) (hp : p = 2 ^ s) (hy : y = (s : Int)) {K : Int → Prop} (g : K ((n * p % 18446744073709551616 : Nat) : Int)) : 0 ≤ y ∧ letK (shlI .u64 x y) K := by
  subst hx; subst hy; subst hp
  refine ⟨by omega, ⟨?_⟩⟩
  show K (IntKind.u64.wrap ((n : Int) * 2 ^ (min (s : Int).toNat 64)))
  have e : min (s : Int).toNat 64 = s := by omega
  rw [e, wrap_u64]
  have e2 : ((n : Int) * 2 ^ s) % 18446744073709551616 = ((n * 2 ^ s % 18446744073709551616 : Nat) : Int) := by
    have e3 : (2 : Int) ^ s = ((2 ^ s : Nat) : Int) := by rw [Int.natCast_pow]; rfl
    rw [e3, ← Int.natCast_mul]; omega
  rw [e2]; exact g
theorem shr_k' {x y : Int} {n : Nat} (hx : x = (n : Int)) (s p : Nat) (hs : s ≤ 64) (hp : p = 2 ^ s) (hy : y = (s : Int)) {K : Int → Prop} (g : K ((n / p : Nat) : Int)) : 0 ≤ y ∧ letK (shrI .u64 x y) K :=
  ⟨by omega, shr_k hx s p hs hp hy g⟩
theorem bv_nat (a : Nat) : BitVec.ofInt 64 (a : Int) = BitVec.ofNat 64 a := BitVec.ofInt_natCast 64 a
theorem and_k {x y : Int} {a b : Nat} (hx : x = (a : Int)) (hy : y = (b : Int)) (ha : a < 18446744073709551616) (hb : b < 18446744073709551616) {K : Int → Prop} (g : K ((a &&& b : Nat) : Int)) : letK (andI .u64 x y) K := by
  subst hx; subst hy
  refine ⟨?_⟩
  show K (IntKind.u64.wrap (BitVec.ofInt 64 (a : Int) &&& BitVec.ofInt 64 (b : Int)).toNat)
  have e : (BitVec.ofInt 64 (a : Int) &&& BitVec.ofInt 64 (b : Int)).toNat = a &&& b := by
    rw [bv_nat, bv_nat, BitVec.toNat_and, BitVec.toNat_ofNat, BitVec.toNat_ofNat, Nat.mod_eq_of_lt (by omega), Nat.mod_eq_of_lt (by omega)]
  have hlt : a &&& b ≤ a := Nat.and_le_left
  rw [e, wrap_u64' (by omega) (by omega)]; exact g
theorem k_u64 {x : Int} (y : Nat) (e : x = (y : Int)) (h : y < 18446744073709551616) {K : Int → Prop} (g : K (y : Int)) : letK (IntKind.u64.wrap x) K := by
  subst e; refine ⟨?_⟩; show K _; rw [wrap_u64' (by omega) (by omega)]; exact g
theorem tdiv_nat (n m : Nat) : Int.tdiv (n : Int) (m : Int) = ((n / m : Nat) : Int) := by
  rw [Int.tdiv_eq_ediv_of_nonneg (by omega)]; norm_cast
theorem mul_lt32 {a b : Nat} (ha : a < 4294967296) (hb : b < 4294967296) : a * b ≤ 18446744065119617025 := Nat.mul_le_mul (show a ≤ 4294967295 by omega) (show b ≤ 4294967295 by omega)
theorem and32 {x : Int} {n : Nat} (hx : x = (n : Int)) (hn : n < 18446744073709551616) {K : Int → Prop} (g : K ((n % 4294967296 : Nat) : Int)) : letK (andI .u64 x 4294967295) K := by
  refine and_k (b := 4294967295) hx rfl hn (by decide) ?_
  have : n &&& 4294967295 = n % 4294967296 := Nat.and_two_pow_sub_one_eq_mod n 32
  rw [this]; exact g
end Go.Proofs.YtanlcacaihdceaaGreatDoor.G

/- What the digits' calls of the reference answer: Norm, From, To, Word, Cmp, Add. -/
namespace Go.Proofs.YtanlcacaihdceaaGreatDoor.G
open Go.Gv
set_option maxRecDepth 100000
set_option linter.unusedVariables false
theorem k_u32 {x : Int} (y : Nat) (e : x = (y : Int)) (h : y < 4294967296) {K : Int → Prop} (g : K (y : Int)) : letK (IntKind.u32.wrap x) K := by
  subst e; refine ⟨?_⟩; show K _
  have : IntKind.u32.wrap (y : Int) = (y : Int) := by
    simp only [IntKind.wrap, IntKind.bits, IntKind.signed, Bool.false_and, Bool.false_eq_true, if_false]; omega
  rw [this]; exact g
theorem shr32 {x : Int} {n : Nat} (hx : x = (n : Int)) {K : Int → Prop} (g : K ((n / 4294967296 : Nat) : Int)) : 0 ≤ (32 : Int) ∧ letK (shrI .u64 x 32) K :=
  shr_k' hx 32 4294967296 (by decide) (by decide) rfl g
theorem shl32 {x : Int} {n : Nat} (hx : x = (n : Int)) (hn : n < 4294967296) {K : Int → Prop} (g : K ((n * 4294967296 : Nat) : Int)) : 0 ≤ (32 : Int) ∧ letK (shlI .u64 x 32) K := by
  refine shl_k hx 32 4294967296 (by decide) (by decide) rfl ?_
  rw [Nat.mod_eq_of_lt (by omega)]; exact g
theorem push32 {h0 h : Hp} {a : Option Addr} {l c n : Nat} {x : Int} {xs : List Nat} (g : GotE eU32 h0 h a c xs) (k0 : Keep h0 h) (hl : l = xs.length) (hx : x = (n : Int)) (hn : n < 4294967296) (hlim : xs.length + 1 ≤ 70368744177656) (hfit : c < xs.length + 1 → xs.length + 1 ≤ 35184372088832) {K : Option Addr → Nat → Nat → Hp → Prop}
    (post : ∀ a' c' h', GotE eU32 h0 h' a' c' (xs ++ [n]) → Keep h0 h' → (xs.length + 1 ≤ c → c' = c) → K a' (xs.length + 1) c' h') : boxK h 108 [.int .u32 x] fun q h2 => apK h2 108 T108 a l c (.slice (some q) 1 1) K :=
  pushE eU32 g k0 [n] (by rw [hx]; rfl) (fun y hy => by rw [List.mem_singleton] at hy; subst hy; exact hn) hl rfl rfl 0 rfl ok32 4 rfl (by decide) hlim (fun h => by have := hfit (by simpa using h); simp; omega) post
theorem push64 {h0 h : Hp} {a : Option Addr} {l c n : Nat} {x : Int} {xs : List Nat} (g : GotE eU64 h0 h a c xs) (k0 : Keep h0 h) (hl : l = xs.length) (hx : x = (n : Int)) (hn : n < 18446744073709551616) (hlim : xs.length + 1 ≤ 35184372088828) (hfit : c < xs.length + 1 → xs.length + 1 ≤ 17592186044416) {K : Option Addr → Nat → Nat → Hp → Prop}
    (post : ∀ a' c' h', GotE eU64 h0 h' a' c' (xs ++ [n]) → Keep h0 h' → (xs.length + 1 ≤ c → c' = c) → K a' (xs.length + 1) c' h') : boxK h 48 [.int .u64 x] fun q h2 => apK h2 48 T48 a l c (.slice (some q) 1 1) K :=
  pushE eU64 g k0 [n] (by rw [hx]; rfl) (fun y hy => by rw [List.mem_singleton] at hy; subst hy; exact hn) hl rfl rfl 0 rfl ok64 8 rfl (by decide) hlim (fun h => by have := hfit (by simpa using h); simp; omega) post
/-! ### Norm -/
theorem rNorm_end {R : Rt} {a : Option Addr} {c l : Nat} {xs : List Nat} {h : Hp} (r : RdE eU32 h a c xs) (hl : l = xs.length) (n : Nat) (hn : n ≤ xs.length) (e : trimL xs = xs.take n) (g : ∀ v h', Keep h h' → sD h h' v (D.val xs) → R v h') : gnomonref01_Norm.D2.t R a l c (n : Int) h := by
  have h1 := r.len32
  unfold gnomonref01_Norm.D2.t
  refine mkE eU32 0 n n rfl ok32 4 rfl (by decide) rfl rfl (Nat.le_refl _) (by omega) fun h2 o k => ?_
  refine sl_to rfl (Nat.le_trans hn r.cap) ?_
  have r2 := (r.take n).keep k
  have hlt : (xs.take n).length = n := by rw [List.length_take]; omega
  refine cpE o r2 (by simp) hlt.symm fun h3 o3 k3 => ?_
  have e3 : (xs.take n).take (min (xs.take n).length n) ++ (List.replicate n 0).drop (min (xs.take n).length n) = D.digs (D.val xs) := by
    rw [D.digs_val r.ok, e, hlt, Nat.min_self, List.take_take]; simp
  rw [Int.toNat_natCast] at o3 ⊢
  rw [e3] at o3
  refine g _ _ (k3.keep k (Nat.le_refl _)) ⟨some ⟨h.size, 0, none⟩, n, ?_, o3.got' (Nat.le_refl _) (by rw [D.digs_val r.ok, e, hlt]; show n ≤ 70368744177656; omega) ?_⟩
  · rw [D.digs_val r.ok, e, hlt]
  · rw [D.digs_val r.ok, e, hlt]
theorem rNorm_loop {R : Rt} {a : Option Addr} {c l : Nat} {xs : List Nat} {h : Hp} (r : RdE eU32 h a c xs) (hl : l = xs.length) (g : ∀ v h', Keep h h' → sD h h' v (D.val xs) → R v h') :
    ∀ n : Nat, n ≤ xs.length → trimL (xs.take n) = trimL xs → gnomonref01_Norm.L3.t R (n + 1) a l c (n : Int) h := by
  have h1 := r.len32
  intro n
  induction n with
  | zero =>
    intro hn hz
    unfold gnomonref01_Norm.L3.t gnomonref01_Norm.D4.t
    refine c_dec (fun h => absurd h (by omega)) fun _ => rNorm_end r hl 0 hn ?_ g
    rw [← hz]; rfl
  | succ n ih =>
    intro hn hz
    refine c_dec (fun _ => ?_) fun h => absurd (by omega) h
    refine k_i64 (n : Int) (by omega) (by omega) (by omega) ?_
    refine at32 r (j := n) rfl hl (by omega) ?_
    have es := take_snoc (xs := xs) (n := n) (by omega)
    refine c_eq (fun he => ?_) fun he => ?_
    · refine k_i64 (n : Int) (by omega) (by omega) (by omega) ?_
      refine ih (by omega) ?_
      rw [← hz, es, show xs.getD n 0 = 0 by omega, trimL_zero]
    · refine rNorm_end r hl (n + 1) hn ?_ g
      rw [← hz, es, trimL_last _ (by omega)]
theorem rNorm_spec {a : Option Addr} {c l : Nat} {xs : List Nat} {h : Hp} (r : RdE eU32 h a c xs) (hl : l = xs.length) :
    HC gnomonref01_Norm.id #[.slice a l c] h fun v h' => Keep h h' ∧ sD h h' v (D.val xs) := by
  refine gnomonref01_Norm.ok ?_
  unfold gnomonref01_Norm.t gnomonref01_Norm.D1.t
  refine ⟨xs.length + 1, ?_⟩
  subst hl
  exact rNorm_loop r rfl (fun v h' k s => ⟨k, s⟩) xs.length (Nat.le_refl _) (by rw [List.take_length])
/-- The end of most calls: Norm of the list that was made. -/
theorem rNorm_tail {h0 h : Hp} {a : Option Addr} {c l X : Nat} {xs : List Nat} (g : GotE eU32 h0 h a c xs) (hl : l = xs.length) (hX : D.val xs = X) (k : Keep h0 h) {R : Rt} (post : ∀ v h', Keep h0 h' → sD h0 h' v X → R v h') :
    HC gnomonref01_Norm.id #[.slice a l c] h fun v h' => gSlice v fun a l c => R (.slice a l c) h' := by
  subst hX
  refine hc_intro (rNorm_spec g.rd hl) fun v h' ⟨k2, s⟩ => ?_
  refine s.elim fun a2 c2 g2 => ?_
  exact post _ _ (k.trans k2) ⟨_, _, rfl, g2.from k.le⟩
/-! ### From -/
theorem From_walk {R : Rt} {a : Option Addr} {c l : Nat} {xs : List Nat} {h0 : Hp} (r : Rd h0 a c xs) (hl : l = xs.length) (post : ∀ v h', Keep h0 h' → sD h0 h' v (val xs) → R v h') :
    ∀ (k i : Nat) (a2 : Option Addr) (h : Hp), i + k = xs.length → GotE eU32 h0 h a2 (2 * xs.length) (split (xs.take i)) → Keep h0 h →
      gnomonref01_From.L4.t R (k + 1) a l c a2 (2 * i) (2 * xs.length) (i : Int) h := by
  subst hl
  have h1 := r.len
  intro k
  induction k with
  | zero =>
    intro i a2 h hi g kp
    unfold gnomonref01_From.L4.t gnomonref01_From.D5.t
    refine c_dec (fun hb => absurd hb (by omega)) fun _ => ?_
    unfold gnomonref01_From.D2.t
    refine rNorm_tail g ?_ ?_ kp post
    · rw [split_len, List.length_take]; omega
    · rw [split_val, List.take_of_length_le (by omega)]
  | succ k ih =>
    intro i a2 h hi g kp
    have hw := r.word i
    unfold gnomonref01_From.L4.t gnomonref01_From.D5.t
    refine c_dec (fun _ => ?_) fun hb => absurd (by omega) hb
    refine at_intro (r.keep kp) (j := i) rfl rfl (by omega) ?_
    refine and32 rfl hw ?_
    refine k_u32 (xs.getD i 0 % 4294967296) rfl (by omega) ?_
    refine at_intro (r.keep kp) (j := i) rfl rfl (by omega) ?_
    refine shr32 rfl ?_
    refine k_u32 (xs.getD i 0 / 4294967296) rfl (by omega) ?_
    have hlen : (split (xs.take i)).length = 2 * i := by rw [split_len, List.length_take]; omega
    refine pushE eU32 g kp [xs.getD i 0 % 4294967296, xs.getD i 0 / 4294967296] rfl (fun y hy => ?_) hlen.symm rfl rfl 0 rfl ok32 4 rfl (by decide) ?_ ?_ fun a' c' h' g' k' hc => ?_
    · simp only [List.mem_cons, List.not_mem_nil, or_false] at hy
      show y < 4294967296
      rcases hy with e | e <;> omega
    · rw [hlen]; show 2 * i + 2 ≤ 70368744177656; omega
    · rw [hlen]; intro hh; simp at hh; omega
    · have hc2 := hc (by rw [hlen]; simp; omega)
      subst hc2
      refine k_i64 ((i + 1 : Nat) : Int) (by omega) (by omega) (by omega) ?_
      rw [hlen]
      have e : split (xs.take (i + 1)) = split (xs.take i) ++ [xs.getD i 0 % 4294967296, xs.getD i 0 / 4294967296] := by
        rw [take_snoc (by omega), split_append]; rfl
      rw [← e] at g'
      exact ih (i + 1) a' h' (by omega) g' k'
theorem From_spec {a : Option Addr} {c l : Nat} {xs : List Nat} {h : Hp} (r : Rd h a c xs) (hl : l = xs.length) :
    HC gnomonref01_From.id #[.slice a l c] h fun v h' => Keep h h' ∧ sD h h' v (val xs) := by
  refine gnomonref01_From.ok ?_
  unfold gnomonref01_From.t gnomonref01_From.D1.t
  subst hl
  have h1 := r.len
  refine k_i64 ((2 * xs.length : Nat) : Int) (by omega) (by omega) (by omega) ?_
  refine mkE eU32 0 0 (2 * xs.length) rfl ok32 4 rfl (by decide) rfl rfl (by omega) (by omega) fun h2 o k => ?_
  unfold gnomonref01_From.D3.t
  refine ⟨xs.length + 1, ?_⟩
  rw [Int.toNat_natCast]
  refine From_walk r rfl (fun v h' k s => ⟨k, s⟩) xs.length 0 _ h2 (by omega) ?_ k
  exact BlkE.got (xs := split (xs.take 0)) (rest := List.replicate (2 * xs.length) 0) (by simpa [split] using o) (Nat.le_refl _) (by simp [split]) (by simp [split]) (by simp [split])
/-! ### To -/
theorem To_walk {R : Rt} {a : Option Addr} {c l m : Nat} {ds : List Nat} {h0 : Hp} (r : RdE eU32 h0 a c ds) (hl : l = ds.length) (post : ∀ a c h', Keep h0 h' → GotE eU64 h0 h' a c (join ds) → R (.slice a (join ds).length c) h') (hm : (ds.length + 1) / 2 ≤ m) :
    ∀ (k i : Nat) (a2 : Option Addr) (h : Hp), i + k = (ds.length + 1) / 2 → GotE eU64 h0 h a2 m (join (ds.take (2 * i))) → Keep h0 h →
      gnomonref01_To.L4.t R (k + 1) a l c a2 i m ((2 * i : Nat) : Int) h := by
  subst hl
  have h1 := r.len32
  intro k
  induction k with
  | zero =>
    intro i a2 h hi g kp
    unfold gnomonref01_To.L4.t gnomonref01_To.D5.t
    refine c_dec (fun hb => absurd hb (by omega)) fun _ => ?_
    unfold gnomonref01_To.D2.t
    have e : ds.take (2 * i) = ds := List.take_of_length_le (by omega)
    rw [e] at g
    have := post _ _ _ kp g
    have e2 : (join ds).length = i := by rw [join_len]; omega
    rw [e2] at this; exact this
  | succ k ih =>
    intro i a2 h hi g kp
    have hw := r.word32 (2 * i)
    have hw2 := r.word32 (2 * i + 1)
    have hlen : (join (ds.take (2 * i))).length = i := by rw [join_len, List.length_take]; omega
    have hev : (ds.take (2 * i)).length % 2 = 0 := by rw [List.length_take]; omega
    unfold gnomonref01_To.L4.t gnomonref01_To.D5.t
    refine c_dec (fun _ => ?_) fun hb => absurd (by omega) hb
    refine at32 (r.keep kp) (j := 2 * i) rfl rfl (by omega) ?_
    refine k_u64 (ds.getD (2 * i) 0) rfl (by omega) ?_
    refine k_i64 ((2 * i + 1 : Nat) : Int) (by omega) (by omega) (by omega) ?_
    refine c_dec (fun hb => ?_) fun hb => ?_
    · refine k_i64 ((2 * i + 1 : Nat) : Int) (by omega) (by omega) (by omega) ?_
      refine at32 (r.keep kp) (j := 2 * i + 1) rfl rfl (by omega) ?_
      refine k_u64 (ds.getD (2 * i + 1) 0) rfl (by omega) ?_
      refine shl32 rfl hw2 ?_
      refine k_u64 (ds.getD (2 * i) 0 + ds.getD (2 * i + 1) 0 * 4294967296) (by omega) (by omega) ?_
      refine push64 g kp hlen.symm rfl (by omega) (by omega) (by omega) fun a' c' h' g' k' hc => ?_
      obtain rfl := hc (by omega)
      refine k_i64 ((2 * (i + 1) : Nat) : Int) (by omega) (by omega) (by omega) ?_
      rw [hlen]
      have e : ds.take (2 * (i + 1)) = ds.take (2 * i) ++ [ds.getD (2 * i) 0, ds.getD (2 * i + 1) 0] := by
        rw [show 2 * (i + 1) = 2 * i + 1 + 1 by omega, take_snoc (by omega), take_snoc (by omega)]; simp
      rw [← join_snoc2 hev, ← e] at g'
      exact ih (i + 1) a' h' (by omega) g' k'
    · refine push64 g kp hlen.symm rfl (by omega) (by omega) (by omega) fun a' c' h' g' k' hc => ?_
      obtain rfl := hc (by omega)
      refine k_i64 ((2 * (i + 1) : Nat) : Int) (by omega) (by omega) (by omega) ?_
      rw [hlen]
      have e : ds.take (2 * (i + 1)) = ds.take (2 * i) ++ [ds.getD (2 * i) 0] := by
        rw [← take_snoc (by omega), List.take_of_length_le (by omega), List.take_of_length_le (by omega)]
      rw [← join_snoc1 hev, ← e] at g'
      exact ih (i + 1) a' h' (by omega) g' k'
theorem To_raw {a : Option Addr} {c l : Nat} {xs : List Nat} {h : Hp} (r : RdE eU32 h a c xs) (hl : l = xs.length) :
    HC gnomonref01_To.id #[.slice a l c] h fun v h' => Keep h h' ∧ sW h h' v (digs (D.val xs)) := by
  refine gnomonref01_To.ok ?_
  unfold gnomonref01_To.t gnomonref01_To.D1.t
  refine hc_intro (rNorm_spec r hl) fun v h1 ⟨k1, s⟩ => ?_
  refine s.elim fun a1 c1 g1 => ?_
  have hl1 := g1.rd.len32
  have ed : Int.tdiv (((D.digs (D.val xs)).length : Nat) : Int) 2 = (((D.digs (D.val xs)).length / 2 : Nat) : Int) := tdiv_nat _ 2
  refine ⟨by decide, ?_⟩
  rw [ed]
  refine k_i64 (((D.digs (D.val xs)).length / 2 : Nat) : Int) rfl (by omega) (by omega) ?_
  refine k_i64 (((D.digs (D.val xs)).length / 2 + 1 : Nat) : Int) (by omega) (by omega) (by omega) ?_
  refine mkE eU64 0 0 ((D.digs (D.val xs)).length / 2 + 1) rfl ok64 8 rfl (by decide) rfl rfl (by omega) (by omega) fun h2 o k => ?_
  unfold gnomonref01_To.D3.t
  refine ⟨((D.digs (D.val xs)).length + 1) / 2 + 1, ?_⟩
  rw [Int.toNat_natCast]
  refine To_walk g1.rd rfl (fun a' c' h' k' g' => ?_) (by omega) _ 0 _ h2 (by omega) ?_ k
  · have e : join (D.digs (D.val xs)) = digs (D.val xs) := join_digs _
    rw [e] at g' ⊢
    exact ⟨k1.trans k', _, _, rfl, g'.from k1.le⟩
  · exact BlkE.got (xs := join ((D.digs (D.val xs)).take (2 * 0))) (rest := List.replicate ((D.digs (D.val xs)).length / 2 + 1) 0) (by simpa [join] using o) (Nat.le_refl _) (by simp [join]) (by simp [join]) (by simp [join])
theorem To_spec {a : Option Addr} {c l X : Nat} {h : Hp} (r : RdE eU32 h a c (D.digs X)) (hl : l = (D.digs X).length) :
    HC gnomonref01_To.id #[.slice a l c] h fun v h' => Keep h h' ∧ sW h h' v (digs X) := by
  have := To_raw r hl
  rw [D.val_digs] at this; exact this
/-! ### Word -/
theorem rWord_spec {x : Int} {w : Nat} (hx : x = (w : Int)) (hw : w < 18446744073709551616) (h : Hp) : HC gnomonref01_Word.id #[.int .u64 x] h fun v h' => Keep h h' ∧ sD h h' v w := by
  refine gnomonref01_Word.ok ?_
  unfold gnomonref01_Word.t gnomonref01_Word.D1.t
  refine and32 hx hw ?_
  refine k_u32 (w % 4294967296) rfl (by omega) ?_
  refine shr32 hx ?_
  refine k_u32 (w / 4294967296) rfl (by omega) ?_
  refine boxE eU32 [w % 4294967296, w / 4294967296] rfl (fun y hy => ?_) fun h1 o k => ?_
  · simp only [List.mem_cons, List.not_mem_nil, or_false] at hy
    show y < 4294967296
    rcases hy with e | e <;> omega
  · refine rNorm_tail (h0 := h) (R := fun v h' => Keep h h' ∧ sD h h' v w) (o.got' (c := 2) (Nat.le_refl _) (show 2 ≤ 70368744177656 by decide) rfl) (by rfl) (X := w) ?_ k (fun v h' k s => ⟨k, s⟩)
    simp only [D.val]; omega
/-! ### Cmp -/
theorem rCmp_walk {R : Rt} {a b : Option Addr} {c d : Nat} {xs ys : List Nat} {h : Hp} (r : RdE eU32 h a c xs) (s : RdE eU32 h b d ys) (he : xs.length = ys.length) (g : R (.int .i64 (cmpI (D.val xs) (D.val ys))) h) :
    ∀ n : Nat, n ≤ xs.length → xs.drop n = ys.drop n → gnomonref01_Cmp.L4.t R (n + 1) a xs.length c b ys.length d ((n : Int) - 1) h := by
  have h1 := r.len32
  intro n
  induction n with
  | zero =>
    intro hn ht
    unfold gnomonref01_Cmp.L4.t gnomonref01_Cmp.D5.t
    refine c_dec (fun hb => absurd hb (by omega)) fun _ => ?_
    unfold gnomonref01_Cmp.D2.t
    rw [List.drop_zero, List.drop_zero] at ht
    rw [ht] at g
    simpa [cmpI] using g
  | succ n ih =>
    intro hn ht
    unfold gnomonref01_Cmp.L4.t gnomonref01_Cmp.D5.t
    refine c_dec (fun hb => ?_) fun hb => absurd (by omega) hb
    refine at32 r (j := n) (by omega) rfl (by omega) ?_
    refine at32 s (j := n) (by omega) rfl (by omega) ?_
    refine c_dec (fun hb => ?_) fun hb => ?_
    · have hv := D.val_lt_at r.ok s.ok he (j := n) (by omega) ht (by omega)
      unfold cmpI at g; rw [if_pos hv] at g; exact g
    · refine at32 r (j := n) (by omega) rfl (by omega) ?_
      refine at32 s (j := n) (by omega) rfl (by omega) ?_
      refine c_dec (fun hb2 => ?_) fun hb2 => ?_
      · have hv := D.val_lt_at s.ok r.ok he.symm (j := n) (by omega) ht.symm (by omega)
        unfold cmpI at g; rw [if_neg (by omega), if_neg (by omega)] at g; exact g
      · refine k_i64 ((n : Int) - 1) (by omega) (by omega) (by omega) ?_
        refine ih (by omega) ?_
        rw [drop_getD (xs := xs) (by omega), drop_getD (xs := ys) (by omega), ht, show xs.getD n 0 = ys.getD n 0 by omega]
theorem rCmp_spec {a b : Option Addr} {c d l m X Y : Nat} {h : Hp} (r : RdE eU32 h a c (D.digs X)) (s : RdE eU32 h b d (D.digs Y)) (hl : l = (D.digs X).length) (hm : m = (D.digs Y).length) :
    HC gnomonref01_Cmp.id #[.slice a l c, .slice b m d] h fun v h' => h' = h ∧ v = .int .i64 (cmpI X Y) := by
  subst hl; subst hm
  have h1 := r.len32
  refine gnomonref01_Cmp.ok ?_
  unfold gnomonref01_Cmp.t gnomonref01_Cmp.D1.t
  have hX : D.val (D.digs X) = X := D.val_digs X
  have hY : D.val (D.digs Y) = Y := D.val_digs Y
  refine c_ne (fun hne => ?_) fun he => ?_
  · refine c_dec (fun hb => ⟨rfl, ?_⟩) fun hb => ⟨rfl, ?_⟩
    · have := D.val_lt_len r.ok (D.trimL_digs Y) (by omega)
      rw [hX, hY] at this
      unfold cmpI; rw [if_pos this]
    · have := D.val_lt_len s.ok (D.trimL_digs X) (by omega)
      rw [hX, hY] at this
      unfold cmpI; rw [if_neg (by omega), if_neg (by omega)]
  · unfold gnomonref01_Cmp.D3.t
    refine k_i64 (((D.digs X).length : Int) - 1) rfl (by omega) (by omega) ?_
    refine ⟨(D.digs X).length + 1, ?_⟩
    refine rCmp_walk r s (by omega) ?_ _ (Nat.le_refl _) ?_
    · rw [hX, hY]; exact ⟨rfl, rfl⟩
    · rw [List.drop_length, List.drop_of_length_le (by omega)]
/-! ### Add -/
theorem rAdd_push {R : Rt} {a b : Option Addr} {c d k m T : Nat} {xs ys : List Nat} {h0 : Hp} (i : Nat) (zs : List Nat) (ca : Nat) (a2 : Option Addr) (h : Hp) (x : Int) (hx : x = (ca : Int)) (hca : ca < 18446744073709551616) (hi : i < m) (hm : m ≤ 35184372088832) (g : GotE eU32 h0 h a2 m zs) (kp : Keep h0 h) (hz : zs.length = i)
    (ih : ∀ a2 h, GotE eU32 h0 h a2 m (zs ++ [ca % 4294967296]) → Keep h0 h → gnomonref01_Add.L4.t R k a xs.length c b ys.length d a2 (i + 1) m ((ca / 4294967296 : Nat) : Int) ((i + 1 : Nat) : Int) h) :
    letK (andI .u64 x 4294967295) fun n17 => letK (IntKind.u32.wrap n17) fun n18 => boxK h 108 [.int .u32 n18] fun q19 h20 => apK h20 108 T108 a2 i m (.slice (some q19) 1 1) fun a_21 l_21 c_21 h21 =>
      0 ≤ (32 : Int) ∧ letK (shrI .u64 x 32) fun n22 => letK (IntKind.i64.wrap ((i : Int) + 1)) fun n23 => gnomonref01_Add.L4.t R k a xs.length c b ys.length d a_21 l_21 c_21 n22 n23 h21 := by
  refine and32 hx hca ?_
  refine k_u32 (ca % 4294967296) rfl (by omega) ?_
  refine push32 g kp hz.symm rfl (by omega) (by omega) (by omega) fun a' c' h' g' k' hc => ?_
  obtain rfl := hc (by omega)
  refine shr32 hx ?_
  refine k_i64 ((i + 1 : Nat) : Int) (by omega) (by omega) (by omega) ?_
  rw [hz]
  exact ih a' h' g' k'
theorem rAdd_walk {R : Rt} {a b : Option Addr} {c d m T : Nat} {xs ys : List Nat} {h0 : Hp} (r : RdE eU32 h0 a c xs) (s : RdE eU32 h0 b d ys) (hxm : xs.length < m) (hym : ys.length < m) (hm : m ≤ 35184372088832) (post : ∀ v h', Keep h0 h' → sD h0 h' v T → R v h') :
    ∀ (k i ca : Nat) (zs : List Nat) (a2 : Option Addr) (h : Hp), i + k = m → zs.length = i → ca ≤ 1 → (m ≤ i → ca = 0) → D.val zs + (D.val (xs.drop i) + D.val (ys.drop i) + ca) * 2 ^ (32 * i) = T → GotE eU32 h0 h a2 m zs → Keep h0 h →
      gnomonref01_Add.L4.t R (k + 1) a xs.length c b ys.length d a2 i m (ca : Int) (i : Int) h := by
  intro k
  induction k with
  | zero =>
    intro i ca zs a2 h hi hz hc hlast e g kp
    unfold gnomonref01_Add.L4.t gnomonref01_Add.D5.t
    refine c_dec (fun hb => absurd hb (by omega)) fun _ => ?_
    refine c_dec (fun hb => absurd hb (by omega)) fun _ => ?_
    rw [List.drop_of_length_le (by omega), List.drop_of_length_le (by omega)] at e
    have hc0 := hlast (by omega)
    refine c_dec (fun hb => absurd hb (by omega)) fun _ => ?_
    unfold gnomonref01_Add.D2.t
    refine rNorm_tail g hz.symm ?_ kp post
    rw [hc0] at e
    simpa [D.val] using e
  | succ k ih =>
    intro i ca zs a2 h hi hz hc hlast e g kp
    have hw := r.word32 i
    have hw2 := s.word32 i
    have ev : ∀ t c', (xs.getD i 0 + ys.getD i 0 + ca) = t + 4294967296 * c' → D.val (zs ++ [t]) + (D.val (xs.drop (i + 1)) + D.val (ys.drop (i + 1)) + c') * 2 ^ (32 * (i + 1)) = T := by
      intro t c' ht
      have h1 := D.val_getD_drop xs i
      have h2 := D.val_getD_drop ys i
      rw [← e]
      exact D.push_step (s := xs.getD i 0 + ys.getD i 0) hz (by omega) (by omega)
    have more : i < xs.length ∨ i < ys.length ∨ 0 < ca → gnomonref01_Add.D6.t R (gnomonref01_Add.L4.t R (k + 1)) a xs.length c b ys.length d a2 i m (ca : Int) (i : Int) h := by
      intro _
      unfold gnomonref01_Add.D6.t
      refine c_dec (fun hb => ?_) fun hb => ?_
      · refine at32 (r.keep kp) (j := i) rfl rfl (by omega) ?_
        refine k_u64 (xs.getD i 0) rfl (by omega) ?_
        refine k_u64 (ca + xs.getD i 0) (by omega) (by omega) ?_
        refine c_dec (fun hb2 => ?_) fun hb2 => ?_
        · refine at32 (s.keep kp) (j := i) rfl rfl (by omega) ?_
          refine k_u64 (ys.getD i 0) rfl (by omega) ?_
          refine k_u64 (ca + xs.getD i 0 + ys.getD i 0) (by omega) (by omega) ?_
          exact rAdd_push (T := T) i zs _ a2 h _ rfl (by omega) (by omega) hm g kp hz fun a' h' g' k' => ih (i + 1) _ _ a' h' (by omega) (by simp [hz]) (by omega) (by omega) (ev _ _ (by omega)) g' k'
        · have hy : ys.getD i 0 = 0 := by simp [List.getD, show ys.length ≤ i by omega]
          exact rAdd_push (T := T) i zs _ a2 h _ rfl (by omega) (by omega) hm g kp hz fun a' h' g' k' => ih (i + 1) _ _ a' h' (by omega) (by simp [hz]) (by omega) (by omega) (ev _ _ (by omega)) g' k'
      · have hx : xs.getD i 0 = 0 := by simp [List.getD, show xs.length ≤ i by omega]
        refine c_dec (fun hb2 => ?_) fun hb2 => ?_
        · refine at32 (s.keep kp) (j := i) rfl rfl (by omega) ?_
          refine k_u64 (ys.getD i 0) rfl (by omega) ?_
          refine k_u64 (ca + ys.getD i 0) (by omega) (by omega) ?_
          exact rAdd_push (T := T) i zs _ a2 h _ rfl (by omega) (by omega) hm g kp hz fun a' h' g' k' => ih (i + 1) _ _ a' h' (by omega) (by simp [hz]) (by omega) (by omega) (ev _ _ (by omega)) g' k'
        · have hy : ys.getD i 0 = 0 := by simp [List.getD, show ys.length ≤ i by omega]
          exact rAdd_push (T := T) i zs _ a2 h _ rfl (by omega) (by omega) hm g kp hz fun a' h' g' k' => ih (i + 1) _ _ a' h' (by omega) (by simp [hz]) (by omega) (by omega) (ev _ _ (by omega)) g' k'
    unfold gnomonref01_Add.L4.t gnomonref01_Add.D5.t
    refine c_dec (fun hb => more (by omega)) fun hb => ?_
    refine c_dec (fun hb => more (by omega)) fun hb2 => ?_
    refine c_dec (fun hb => more (by omega)) fun hb3 => ?_
    have hc0 : ca = 0 := by omega
    unfold gnomonref01_Add.D2.t
    refine rNorm_tail g hz.symm ?_ kp post
    rw [List.drop_of_length_le (by omega), List.drop_of_length_le (by omega), hc0] at e
    simpa [D.val] using e
theorem rAdd_spec {a b : Option Addr} {c d l n X Y : Nat} {h : Hp} (r : RdE eU32 h a c (D.digs X)) (s : RdE eU32 h b d (D.digs Y)) (hl : l = (D.digs X).length) (hm : n = (D.digs Y).length) (hx : (D.digs X).length ≤ 1099511627776) (hy : (D.digs Y).length ≤ 1099511627776) :
    HC gnomonref01_Add.id #[.slice a l c, .slice b n d] h fun v h' => Keep h h' ∧ sD h h' v (X + Y) := by
  subst hl; subst hm
  refine gnomonref01_Add.ok ?_
  unfold gnomonref01_Add.t gnomonref01_Add.D1.t
  have e : (if (((D.digs Y).length : Nat) : Int) > (((D.digs X).length : Nat) : Int) then (((D.digs Y).length : Nat) : Int) else (((D.digs X).length : Nat) : Int)) = ((max (D.digs X).length (D.digs Y).length : Nat) : Int) := by split <;> omega
  rw [e]
  refine k_i64 ((max (D.digs X).length (D.digs Y).length + 1 : Nat) : Int) (by omega) (by omega) (by omega) ?_
  refine mkE eU32 0 0 (max (D.digs X).length (D.digs Y).length + 1) rfl ok32 4 rfl (by decide) rfl rfl (by omega) (by omega) fun h2 o k => ?_
  unfold gnomonref01_Add.D3.t
  refine ⟨max (D.digs X).length (D.digs Y).length + 2, ?_⟩
  rw [Int.toNat_natCast]
  refine rAdd_walk (T := X + Y) r s (by omega) (by omega) (by omega) (fun v h' k s => ⟨k, s⟩) _ 0 0 [] _ h2 (by omega) rfl (by omega) (by omega) ?_ ?_ k
  · simp [D.val, D.val_digs]
  · exact BlkE.got (xs := []) (rest := List.replicate (max (D.digs X).length (D.digs Y).length + 1) 0) (by simpa using o) (Nat.le_refl _) (by simp) (by simp) (by simp)
end Go.Proofs.YtanlcacaihdceaaGreatDoor.G

/- What the digits' calls of the reference answer: Bits, Bit, Mul, DivSmall, Shr, Low. -/
namespace Go.Proofs.YtanlcacaihdceaaGreatDoor.G
open Go.Gv
set_option maxRecDepth 100000
set_option linter.unusedVariables false
theorem put32 {h0 h : Hp} {b l : Nat} {zs : List Nat} (o : BlkE eU32 h b zs) (kp : Keep h0 h) (hb : h0.size ≤ b) {i : Int} {j : Nat} (hi : i = (j : Int)) (hl : l = zs.length) (hj : j < zs.length) {x : Int} {v : Nat} (hx : x = (v : Int)) (hv : v < 4294967296) {K : Hp → Prop}
    (g : ∀ h', BlkE eU32 h' b (zs.set j v) → Keep h0 h' → K h') : idxK (some ⟨b, 0, none⟩) l i 1 fun q => stK h q (.int .u32 x) K :=
  putE0 o hi (by omega) hj (by rw [hx]; rfl) hv fun o2 k2 => g _ o2 (k2.keep kp hb)
/-! ### Bits -/
/-! ### Mul -/
theorem rgetD_set_ne {zs : List Nat} {i t v : Nat} (h : i ≠ t) : (zs.set i v).getD t 0 = zs.getD t 0 := by
  simp [List.getD, h]
theorem rMul_inner {R : Rt} {N4 : Option Addr → Nat → Nat → Option Addr → Nat → Nat → Option Addr → Nat → Nat → Int → Hp → Prop} {a b : Option Addr} {c1 c2 n i q T x : Nat} {xs ys : List Nat} {h0 : Hp}
    (s : RdE eU32 h0 b c2 ys) (hi : i < xs.length) (hx : x < 4294967296) (hn : n = xs.length + ys.length) (hq : h0.size ≤ q) (hnn : n ≤ 70368744177656)
    (g : ∀ h' zs, Keep h0 h' → BlkE eU32 h' q zs → zs.length = n → (∀ t, i + 1 + ys.length ≤ t → zs.getD t 0 = 0) → D.val zs + D.val (xs.drop (i + 1)) * D.val ys * 2 ^ (32 * (i + 1)) = T → N4 a xs.length c1 b ys.length c2 (some ⟨q, 0, none⟩) n n ((i + 1 : Nat) : Int) h') :
    ∀ (k j ca : Nat) (zs : List Nat) (h : Hp), j + k = ys.length → ca < 4294967296 → zs.length = n → BlkE eU32 h q zs → Keep h0 h → (∀ t, i + ys.length ≤ t → zs.getD t 0 = 0) →
      D.val zs + (x * D.val (ys.drop j) + ca) * 2 ^ (32 * (i + j)) + D.val (xs.drop (i + 1)) * D.val ys * 2 ^ (32 * (i + 1)) = T →
      gnomonref01_Mul.L10.t R N4 (k + 1) a xs.length c1 b ys.length c2 (some ⟨q, 0, none⟩) n n (i : Int) (ca : Int) (x : Int) (j : Int) h := by
  intro k
  induction k with
  | zero =>
    intro j ca zs h hj hc hz o kp z0 e
    unfold gnomonref01_Mul.L10.t gnomonref01_Mul.D11.t
    refine c_dec (fun hb => absurd hb (by omega)) fun hb => ?_
    have ej : j = ys.length := by omega
    subst ej
    unfold gnomonref01_Mul.D8.t
    refine k_i64 ((i + ys.length : Nat) : Int) (by omega) (by omega) (by omega) ?_
    refine k_u32 ca rfl hc ?_
    refine put32 o kp hq (j := i + ys.length) rfl hz.symm (by omega) rfl hc fun h2 o2 k2 => ?_
    unfold gnomonref01_Mul.D6.t
    refine k_i64 ((i + 1 : Nat) : Int) (by omega) (by omega) (by omega) ?_
    refine g _ _ k2 o2 (by simp [hz]) (fun t ht => ?_) ?_
    · rw [rgetD_set_ne (by omega)]; exact z0 t (by omega)
    · have hs := D.val_set (zs := zs) (j := i + ys.length) (v := ca) (by omega)
      rw [z0 _ (Nat.le_refl _)] at hs
      rw [List.drop_length] at e
      simp only [D.val, Nat.zero_mul, Nat.mul_zero, Nat.zero_add, Nat.add_zero] at hs e
      omega
  | succ k ih =>
    intro j ca zs h hj hc hz o kp z0 e
    have hyn := s.word32 j
    have hzn : zs.getD (i + j) 0 < 4294967296 := getD_ltB (by decide) o.ok _
    have hp := mul_lt32 hx hyn
    unfold gnomonref01_Mul.L10.t gnomonref01_Mul.D11.t
    refine c_dec (fun hb => ?_) fun hb => absurd (by omega) hb
    refine k_i64 ((i + j : Nat) : Int) (by omega) (by omega) (by omega) ?_
    refine at32 (o.rd' (c := n) (by rw [hz]; exact hnn) (by omega)) (j := i + j) rfl hz.symm (by omega) ?_
    refine k_u64 (zs.getD (i + j) 0) rfl (by omega) ?_
    refine at32 (s.keep kp) (j := j) rfl rfl (by omega) ?_
    refine k_u64 (ys.getD j 0) rfl (by omega) ?_
    have ev : x * D.val (ys.drop j) = x * ys.getD j 0 + 4294967296 * (x * D.val (ys.drop (j + 1))) := by
      rw [D.val_getD_drop, Nat.mul_add, Nat.mul_left_comm]
    rw [ev] at e
    have em : (x : Int) * ((ys.getD j 0 : Nat) : Int) = ((x * ys.getD j 0 : Nat) : Int) := (Int.natCast_mul _ _).symm
    rw [em]
    generalize x * ys.getD j 0 = p at *
    refine k_u64 p rfl (by omega) ?_
    refine k_u64 (zs.getD (i + j) 0 + p) (by omega) (by omega) ?_
    refine k_u64 (p + ca + zs.getD (i + j) 0) (by omega) (by omega) ?_
    refine k_i64 ((i + j : Nat) : Int) (by omega) (by omega) (by omega) ?_
    refine and32 rfl (by omega) ?_
    refine k_u32 ((p + ca + zs.getD (i + j) 0) % 4294967296) rfl (by omega) ?_
    refine put32 o kp hq (j := i + j) rfl hz.symm (by omega) rfl (by omega) fun h2 o2 k2 => ?_
    refine shr32 rfl ?_
    refine k_i64 ((j + 1 : Nat) : Int) (by omega) (by omega) (by omega) ?_
    refine ih (j + 1) _ _ _ (by omega) (by omega) (by simp [hz]) o2 k2 (fun t ht => ?_) ?_
    · rw [rgetD_set_ne (by omega)]; exact z0 t ht
    · have hs := D.val_set (zs := zs) (j := i + j) (v := (p + ca + zs.getD (i + j) 0) % 4294967296) (by omega)
      have := step_up (B := 4294967296) (p := p) (c := ca) (r := x * D.val (ys.drop (j + 1))) (z' := (p + ca + zs.getD (i + j) 0) % 4294967296) (c' := (p + ca + zs.getD (i + j) 0) / 4294967296) (by omega) hs
      rw [show i + (j + 1) = i + j + 1 by omega, D.pow_step (i + j), this]; exact e
theorem rMul_outer {R : Rt} {a b : Option Addr} {c1 c2 n q T : Nat} {xs ys : List Nat} {h0 : Hp}
    (r : RdE eU32 h0 a c1 xs) (s : RdE eU32 h0 b c2 ys) (hn : n = xs.length + ys.length) (hq : h0.size ≤ q) (hnn : n ≤ 70368744177656) (post : ∀ v h', Keep h0 h' → sD h0 h' v T → R v h') :
    ∀ (k i : Nat) (zs : List Nat) (h : Hp), i + k = xs.length → zs.length = n → BlkE eU32 h q zs → Keep h0 h → (∀ t, i + ys.length ≤ t → zs.getD t 0 = 0) → D.val zs + D.val (xs.drop i) * D.val ys * 2 ^ (32 * i) = T →
      gnomonref01_Mul.L4.t R (k + 1) a xs.length c1 b ys.length c2 (some ⟨q, 0, none⟩) n n (i : Int) h := by
  intro k
  induction k with
  | zero =>
    intro i zs h hi hz o kp z0 e
    unfold gnomonref01_Mul.L4.t gnomonref01_Mul.D5.t
    refine c_dec (fun hb => absurd hb (by omega)) fun hb => ?_
    unfold gnomonref01_Mul.D2.t
    refine rNorm_tail (o.got' hq (by rw [hz]; exact hnn) hz.symm) hz.symm ?_ kp post
    rw [List.drop_of_length_le (by omega)] at e
    simpa [D.val] using e
  | succ k ih =>
    intro i zs h hi hz o kp z0 e
    have hxn := r.word32 i
    unfold gnomonref01_Mul.L4.t gnomonref01_Mul.D5.t
    refine c_dec (fun hb => ?_) fun hb => absurd (by omega) hb
    unfold gnomonref01_Mul.D7.t
    refine at32 (r.keep kp) (j := i) rfl rfl (by omega) ?_
    refine k_u64 (xs.getD i 0) rfl (by omega) ?_
    unfold gnomonref01_Mul.D9.t
    refine ⟨ys.length + 1, ?_⟩
    refine rMul_inner (T := T) (x := xs.getD i 0) s (by omega) hxn hn hq hnn (fun h' zs' k' o' hz' z0' e' => ?_) ys.length 0 0 zs h (by omega) (by omega) hz o kp z0 ?_
    · exact ih (i + 1) zs' h' (by omega) hz' o' k' z0' e'
    · rw [D.val_getD_drop] at e
      rw [← e, D.pow_step, List.drop_zero, Nat.add_zero, Nat.add_zero, Nat.add_mul, Nat.add_mul]
      have e2 : D.val (xs.drop (i + 1)) * D.val ys * (4294967296 * 2 ^ (32 * i)) = 4294967296 * D.val (xs.drop (i + 1)) * D.val ys * 2 ^ (32 * i) := by
        rw [Nat.mul_left_comm, Nat.mul_assoc 4294967296, Nat.mul_assoc 4294967296]
      rw [e2]; omega
theorem D.getD_replicate (n t : Nat) : (List.replicate n 0).getD t 0 = 0 := by
  simp only [List.getD, List.getElem?_replicate]; split <;> rfl
theorem rMul_spec {a b : Option Addr} {c d l n X Y : Nat} {h : Hp} (r : RdE eU32 h a c (D.digs X)) (s : RdE eU32 h b d (D.digs Y)) (hl : l = (D.digs X).length) (hm : n = (D.digs Y).length) (hx : (D.digs X).length ≤ 1099511627776) (hy : (D.digs Y).length ≤ 1099511627776) :
    HC gnomonref01_Mul.id #[.slice a l c, .slice b n d] h fun v h' => Keep h h' ∧ sD h h' v (X * Y) := by
  subst hl; subst hm
  refine gnomonref01_Mul.ok ?_
  unfold gnomonref01_Mul.t gnomonref01_Mul.D1.t
  refine k_i64 (((D.digs X).length + (D.digs Y).length : Nat) : Int) (by omega) (by omega) (by omega) ?_
  refine mkE eU32 0 ((D.digs X).length + (D.digs Y).length) ((D.digs X).length + (D.digs Y).length) rfl ok32 4 rfl (by decide) rfl rfl (by omega) (by omega) fun h2 o k => ?_
  unfold gnomonref01_Mul.D3.t
  refine ⟨(D.digs X).length + 1, ?_⟩
  rw [Int.toNat_natCast]
  refine rMul_outer (T := X * Y) r s rfl (Nat.le_refl _) (by omega) (fun v h' k s => ⟨k, s⟩) _ 0 _ h2 (by omega) (by simp) o k (fun t _ => D.getD_replicate _ _) ?_
  rw [D.val_replicate, List.drop_zero, D.val_digs, D.val_digs]; simp
/-! ### DivSmall -/
/-! ### Shr, Low -/
end Go.Proofs.YtanlcacaihdceaaGreatDoor.G

/- What the digits' calls of the reference answer: Sub, MulSmall, Shl, Bit, Fits. -/
namespace Go.Proofs.YtanlcacaihdceaaGreatDoor.G
open Go.Gv
set_option maxRecDepth 100000
set_option linter.unusedVariables false
/-! ### Sub -/
theorem rsub_step {zs xs ys : List Nat} {i x y t o o' : Nat} (hz : zs.length = i) (h : x + 4294967296 * o' = t + y + o) (hi : D.val zs + D.val (ys.take i) = D.val (xs.take i) + o * 2 ^ (32 * i)) (hx : D.val (xs.take (i + 1)) = D.val (xs.take i) + 2 ^ (32 * i) * x) (hy : D.val (ys.take (i + 1)) = D.val (ys.take i) + 2 ^ (32 * i) * y) :
    D.val (zs ++ [t]) + D.val (ys.take (i + 1)) = D.val (xs.take (i + 1)) + o' * 2 ^ (32 * (i + 1)) := by
  rw [D.val_append, hz, hx, hy, D.pow_step]
  simp only [D.val, Nat.mul_zero, Nat.add_zero]
  generalize 2 ^ (32 * i) = P at *
  have e : P * (x + 4294967296 * o') = P * (t + y + o) := by rw [h]
  have e1 : P * (x + 4294967296 * o') = P * x + o' * (4294967296 * P) := by rw [Nat.mul_add, Nat.mul_left_comm, Nat.mul_comm P o', Nat.mul_left_comm]
  have e2 : P * (t + y + o) = P * t + P * y + o * P := by rw [Nat.mul_add, Nat.mul_add, Nat.mul_comm P o]
  omega
theorem take_val {xs : List Nat} {i : Nat} : D.val (xs.take (i + 1)) = D.val (xs.take i) + 2 ^ (32 * i) * xs.getD i 0 := by
  by_cases h : i < xs.length
  · rw [take_snoc h, D.val_append, List.length_take, Nat.min_eq_left (by omega)]; simp [D.val]
  · rw [List.take_of_length_le (by omega), List.take_of_length_le (by omega)]
    simp [List.getD, show xs.length ≤ i by omega]
theorem rSub_push {R : Rt} {a b : Option Addr} {c d k m : Nat} {xs ys : List Nat} {h0 : Hp} (hm : m = xs.length) (i x take : Nat) (zs : List Nat) (a2 : Option Addr) (h : Hp) (y : Int) (hy : y = (take : Int)) (hxv : x = xs.getD i 0) (hx : x < 4294967296) (ht : take ≤ 4294967296) (hi : i < m) (hmm : m ≤ 70368744177656) (r : RdE eU32 h a c xs) (g : GotE eU32 h0 h a2 m zs) (kp : Keep h0 h) (hz : zs.length = i)
    (ih : ∀ (t o : Nat) a2 h, x + 4294967296 * o = t + take → o ≤ 1 → t < 4294967296 → GotE eU32 h0 h a2 m (zs ++ [t]) → Keep h0 h → gnomonref01_Sub.L4.t R k a xs.length c b ys.length d a2 (i + 1) m (o : Int) ((i + 1 : Nat) : Int) h) :
    idxK a xs.length (i : Int) 1 fun q17 => ldK h q17 fun v18 => gInt .u32 v18 fun x_19 => letK (IntKind.u64.wrap x_19) fun n20 =>
      cond (decide (n20 < y)) (letK (IntKind.u64.wrap (n20 + 4294967296)) fun n21 => letK (IntKind.u64.wrap (n21 - y)) fun n22 => letK (IntKind.u32.wrap n22) fun n23 => boxK h 108 [.int .u32 n23] fun q24 h25 => apK h25 108 T108 a2 i m (.slice (some q24) 1 1) fun a_26 l_26 c_26 h26 => letK (IntKind.i64.wrap ((i : Int) + 1)) fun n27 => gnomonref01_Sub.L4.t R k a xs.length c b ys.length d a_26 l_26 c_26 1 n27 h26)
        (letK (IntKind.u64.wrap (n20 - y)) fun n28 => letK (IntKind.u32.wrap n28) fun n29 => boxK h 108 [.int .u32 n29] fun q30 h31 => apK h31 108 T108 a2 i m (.slice (some q30) 1 1) fun a_32 l_32 c_32 h32 => letK (IntKind.i64.wrap ((i : Int) + 1)) fun n33 => gnomonref01_Sub.L4.t R k a xs.length c b ys.length d a_32 l_32 c_32 0 n33 h32) := by
  subst hy; subst hm
  refine at32 r (j := i) rfl rfl hi ?_
  rw [← hxv]
  refine k_u64 x rfl (by omega) ?_
  refine c_dec (fun hb => ?_) fun hb => ?_
  · refine k_u64 (x + 4294967296) (by omega) (by omega) ?_
    refine k_u64 (x + 4294967296 - take) (by omega) (by omega) ?_
    refine k_u32 (x + 4294967296 - take) rfl (by omega) ?_
    refine push32 g kp hz.symm rfl (by omega) (by omega) (by omega) fun a' c' h' g' k' hc => ?_
    obtain rfl := hc (by omega)
    refine k_i64 ((i + 1 : Nat) : Int) (by omega) (by omega) (by omega) ?_
    rw [hz]
    exact ih _ 1 a' h' (by omega) (by omega) (by omega) g' k'
  · refine k_u64 (x - take) (by omega) (by omega) ?_
    refine k_u32 (x - take) rfl (by omega) ?_
    refine push32 g kp hz.symm rfl (by omega) (by omega) (by omega) fun a' c' h' g' k' hc => ?_
    obtain rfl := hc (by omega)
    refine k_i64 ((i + 1 : Nat) : Int) (by omega) (by omega) (by omega) ?_
    rw [hz]
    exact ih _ 0 a' h' (by omega) (by omega) (by omega) g' k'
theorem rSub_walk {R : Rt} {a b : Option Addr} {c d : Nat} {xs ys : List Nat} {h0 : Hp} (r : RdE eU32 h0 a c xs) (s : RdE eU32 h0 b d ys) (hle : D.val ys ≤ D.val xs) (hlen : ys.length ≤ xs.length) (post : ∀ v h', Keep h0 h' → sD h0 h' v (D.val xs - D.val ys) → R v h') :
    ∀ (k i ow : Nat) (zs : List Nat) (a2 : Option Addr) (h : Hp), i + k = xs.length → zs.length = i → ow ≤ 1 → D.val zs + D.val (ys.take i) = D.val (xs.take i) + ow * 2 ^ (32 * i) → GotE eU32 h0 h a2 xs.length zs → Keep h0 h →
      gnomonref01_Sub.L4.t R (k + 1) a xs.length c b ys.length d a2 i xs.length (ow : Int) (i : Int) h := by
  have h1 := r.len32
  intro k
  induction k with
  | zero =>
    intro i ow zs a2 h hi hz hc e g kp
    unfold gnomonref01_Sub.L4.t gnomonref01_Sub.D5.t
    refine c_dec (fun hb => absurd hb (by omega)) fun _ => ?_
    unfold gnomonref01_Sub.D2.t
    refine rNorm_tail g hz.symm ?_ kp post
    rw [List.take_of_length_le (by omega), List.take_of_length_le (by omega)] at e
    have hlt := D.val_lt (xs := zs) g.rd.ok
    rw [hz] at hlt
    have : ow = 0 := by
      rcases Nat.lt_or_ge ow 1 with hh | hh
      · omega
      · have : ow = 1 := by omega
        subst this; omega
    subst this
    omega
  | succ k ih =>
    intro i ow zs a2 h hi hz hc e g kp
    have hw := r.word32 i
    have hw2 := s.word32 i
    unfold gnomonref01_Sub.L4.t gnomonref01_Sub.D5.t
    refine c_dec (fun _ => ?_) fun hb => absurd (by omega) hb
    refine c_dec (fun hb => ?_) fun hb => ?_
    · refine at32 (s.keep kp) (j := i) rfl rfl (by omega) ?_
      refine k_u64 (ys.getD i 0) rfl (by omega) ?_
      refine k_u64 (ys.getD i 0 + ow) (by omega) (by omega) ?_
      exact rSub_push rfl i (xs.getD i 0) (ys.getD i 0 + ow) zs a2 h _ rfl rfl hw (by omega) (by omega) h1 (r.keep kp) g kp hz fun t o a' h' ht ho htt g' k' => ih (i + 1) o _ a' h' (by omega) (by simp [hz]) ho (rsub_step hz (by omega) e take_val take_val) g' k'
    · have hy0 : ys.getD i 0 = 0 := by simp [List.getD, show ys.length ≤ i by omega]
      exact rSub_push rfl i (xs.getD i 0) ow zs a2 h _ rfl rfl hw (by omega) (by omega) h1 (r.keep kp) g kp hz fun t o a' h' ht ho htt g' k' => ih (i + 1) o _ a' h' (by omega) (by simp [hz]) ho (rsub_step hz (by omega) e take_val (y := 0) (by rw [take_val, hy0])) g' k'
theorem rSub_spec {a b : Option Addr} {c d l n X Y : Nat} {h : Hp} (r : RdE eU32 h a c (D.digs X)) (s : RdE eU32 h b d (D.digs Y)) (hl : l = (D.digs X).length) (hm : n = (D.digs Y).length) :
    HC gnomonref01_Sub.id #[.slice a l c, .slice b n d] h fun v h' => Keep h h' ∧ sD h h' v (X - Y) := by
  subst hl; subst hm
  have h1 := r.len32
  refine gnomonref01_Sub.ok ?_
  unfold gnomonref01_Sub.t gnomonref01_Sub.D1.t
  refine hc_intro (rCmp_spec r s rfl rfl) fun v h' ⟨e1, e2⟩ => ?_
  subst e1; subst e2
  refine gInt_intro rfl ?_
  refine c_dec (fun hb => ?_) fun hb => ?_
  · refine hc_intro (rWord_spec (w := 0) rfl (by decide) h') fun v h2 ⟨k2, s2⟩ => ?_
    have e0 : X - Y = 0 := by unfold cmpI at hb; split at hb <;> (try split at hb) <;> omega
    rw [e0]
    refine s2.elim fun a2 c2 g2 => ⟨k2, a2, c2, rfl, g2⟩
  · have hlt : Y < X := by unfold cmpI at hb; split at hb <;> (try split at hb) <;> omega
    have hlen : (D.digs Y).length ≤ (D.digs X).length := D.digs_len_mono (Nat.le_of_lt hlt)
    refine mkE eU32 0 0 (D.digs X).length rfl ok32 4 rfl (by decide) rfl rfl (by omega) (by omega) fun h2 o k => ?_
    unfold gnomonref01_Sub.D3.t
    refine ⟨(D.digs X).length + 1, ?_⟩
    rw [Int.toNat_natCast]
    refine rSub_walk r s (by rw [D.val_digs, D.val_digs]; omega) hlen (fun v h3 k3 s3 => ⟨k3, by rw [D.val_digs, D.val_digs] at s3; exact s3⟩) _ 0 0 [] _ h2 (by omega) rfl (by omega) (by simp [D.val]) ?_ k
    · exact BlkE.got (xs := []) (rest := List.replicate (D.digs X).length 0) (by simpa using o) (Nat.le_refl _) (by simp) (by simp) (by simp)
/-! ### MulSmall -/
/-! ### Shl -/
/-! ### Bit -/
/-! ### Fits -/
end Go.Proofs.YtanlcacaihdceaaGreatDoor.G

/- What the digits' calls of the reference answer: digit, DivMod. -/
namespace Go.Proofs.YtanlcacaihdceaaGreatDoor.G
open Go.Gv
set_option maxRecDepth 100000
set_option linter.unusedVariables false
/-! ### windows of blocks -/
/-! ### digit -/
end Go.Proofs.YtanlcacaihdceaaGreatDoor.G

/- What the digits' calls of the reference answer: DivMod. -/
namespace Go.Proofs.YtanlcacaihdceaaGreatDoor.G
open Go.Gv
set_option maxRecDepth 100000
set_option linter.unusedVariables false
end Go.Proofs.YtanlcacaihdceaaGreatDoor.G

/- What Told and DocForm answer. -/
namespace Go.Proofs.YtanlcacaihdceaaGreatDoor.G
open Go.Gv
set_option maxRecDepth 100000
set_option linter.unusedVariables false
theorem DocForm_spec {a : Option Addr} {c l : Nat} {xs : List Nat} {h : Hp} (r : Rd h a c xs) (hl : l = xs.length) :
    HC gnomonref01_DocForm.id #[.slice a l c] h fun v h' => h' = h ∧ v = .bool (decide (Frm xs)) := by
  subst hl
  have h1 := r.len
  refine gnomonref01_DocForm.ok ?_
  unfold gnomonref01_DocForm.t gnomonref01_DocForm.D1.t
  refine c_dec (fun hb => ?_) fun hb => ?_
  · refine c_eq (fun h0 => ?_) fun h0 => ?_
    · refine ⟨rfl, ?_⟩
      have e : xs = [] := List.length_eq_zero_iff.mp (by omega)
      subst e; rfl
    · refine k_i64 ((xs.length - 1 : Nat) : Int) (by omega) (by omega) (by omega) ?_
      refine at_intro r (j := xs.length - 1) rfl rfl (by omega) ⟨rfl, ?_⟩
      have hiff := @trimL_iff xs
      by_cases hz : xs.getD (xs.length - 1) 0 = 0
      · rw [hz]
        have : ¬ Frm xs := fun f => by
          rcases hiff.mp f.2 with e | e
          · subst e; simp at h0
          · exact e hz
        simp [this]
      · have : Frm xs := ⟨by omega, hiff.mpr (Or.inr hz)⟩
        simp only [this, decide_true]
        congr 1
        exact bne_iff_ne.mpr (by omega)
  · refine ⟨rfl, ?_⟩
    have : ¬ Frm xs := fun f => by have := f.1; omega
    simp [this]
end Go.Proofs.YtanlcacaihdceaaGreatDoor.G

/- What Cmp answers. -/
namespace Go.Proofs.YtanlcacaihdceaaGreatDoor.G
open Go.Gv
set_option maxRecDepth 100000
theorem Cmp_loop {R : Rt} {a b : Option Addr} {c d l m : Nat} {xs ys : List Nat} {h : Hp} (r : Rd h a c xs) (s : Rd h b d ys) (hl : l = xs.length) (hm : m = ys.length) (he : xs.length = ys.length) (g : R (.int .i64 (cmpI (val xs) (val ys))) h) :
    ∀ n : Nat, n ≤ xs.length → xs.drop n = ys.drop n → nat_Cmp.L4.t R (n + 1) a l c b m d ((n : Int) - 1) h := by
  subst hl; subst hm
  have h1 := r.len
  intro n
  induction n with
  | zero =>
    intro hn ht
    unfold nat_Cmp.L4.t nat_Cmp.D5.t
    refine c_dec (fun hb => absurd hb (by omega)) fun _ => ?_
    have e : xs = ys := by simpa using ht
    unfold nat_Cmp.D2.t
    rw [e] at g
    have e0 : cmpI (val ys) (val ys) = 0 := by simp [cmpI]
    rw [e0] at g; exact g
  | succ n ih =>
    intro hn ht
    unfold nat_Cmp.L4.t nat_Cmp.D5.t
    refine c_dec (fun hb => ?_) fun hb => absurd (by omega) hb
    refine at_intro r (j := n) (by omega) rfl (by omega) ?_
    refine at_intro s (j := n) (by omega) rfl (by omega) ?_
    refine c_ne (fun hne => ?_) fun heq => ?_
    · refine at_intro r (j := n) (by omega) rfl (by omega) ?_
      refine at_intro s (j := n) (by omega) rfl (by omega) ?_
      refine c_dec (fun hlt => ?_) fun hlt => ?_
      · have := val_lt_at r.words s.words he (by omega) ht (by omega)
        have e0 : cmpI (val xs) (val ys) = -1 := by simp [cmpI, this]
        rw [e0] at g; exact g
      · have := val_lt_at s.words r.words he.symm (by omega) ht.symm (j := n) (by omega)
        have e0 : cmpI (val xs) (val ys) = 1 := by unfold cmpI; rw [if_neg (by omega), if_neg (by omega)]
        rw [e0] at g; exact g
    · refine k_i64 ((n : Int) - 1) (by omega) (by omega) (by omega) ?_
      refine ih (by omega) ?_
      rw [drop_getD (by omega), drop_getD (xs := ys) (by omega), ht, show xs.getD n 0 = ys.getD n 0 by omega]
theorem Cmp_spec {a b : Option Addr} {c d l m : Nat} {xs ys : List Nat} {h : Hp} (r : Rd h a c xs) (s : Rd h b d ys) (hl : l = xs.length) (hm : m = ys.length) :
    HC nat_Cmp.id #[.slice a l c, .slice b m d] h fun v h' => h' = h ∧ v = .int .i64 (cmpI (val xs) (val ys)) := by
  refine nat_Cmp.ok ?_
  unfold nat_Cmp.t nat_Cmp.D1.t
  refine hc_intro (trim_spec r hl) fun v h' ⟨e1, e2, r'⟩ => ?_
  subst e1; subst e2
  refine gSlice_intro rfl ?_
  refine hc_intro (trim_spec s hm) fun v h' ⟨e1, e2, s'⟩ => ?_
  subst e1; subst e2
  refine gSlice_intro rfl ?_
  rw [← val_trimL xs, ← val_trimL ys]
  have hx := r'.len
  refine c_ne (fun hne => ?_) fun heq => ?_
  · refine c_dec (fun hlt => ⟨rfl, ?_⟩) fun hlt => ⟨rfl, ?_⟩
    · have := val_lt_len r'.words (trimL_trimL ys) (by omega)
      simp [cmpI, this]
    · have := val_lt_len s'.words (trimL_trimL xs) (by omega)
      unfold cmpI; rw [if_neg (by omega), if_neg (by omega)]
  · unfold nat_Cmp.D3.t
    refine k_i64 (((trimL xs).length : Int) - 1) (by omega) (by omega) (by omega) ?_
    refine ⟨(trimL xs).length + 1, ?_⟩
    refine Cmp_loop r' s' rfl rfl (by omega) ⟨rfl, rfl⟩ _ (Nat.le_refl _) ?_
    rw [List.drop_length, show (trimL xs).length = (trimL ys).length by omega, List.drop_length]
end Go.Proofs.YtanlcacaihdceaaGreatDoor.G

/- What Add answers. -/
namespace Go.Proofs.YtanlcacaihdceaaGreatDoor.G
open Go.Gv
set_option maxRecDepth 100000
theorem add_intro {x y z : Int} {a b c : Nat} (hx : x = (a : Int)) (hy : y = (b : Int)) (hz : z = (c : Int)) (hc : c ≤ 1) {K : Int → Int → Prop}
    (g : K ((a + b + c) % 18446744073709551616 : Nat) ((a + b + c) / 18446744073709551616 : Nat)) : addK x y z K := by
  subst hx; subst hy; subst hz
  exact ⟨⟨by omega, by omega, by omega, by omega⟩, by simpa using g⟩
theorem sub_intro {x y z : Int} {a b c : Nat} (hx : x = (a : Int)) (hy : y = (b : Int)) (hz : z = (c : Int)) (hc : c ≤ 1) (hb : b < 18446744073709551616) {K : Int → Int → Prop}
    (g : K ((a + 18446744073709551616 - b - c) % 18446744073709551616 : Nat) ((if a < b + c then 1 else 0 : Nat) : Int)) : subK x y z K := by
  subst hx; subst hy; subst hz
  refine ⟨⟨by omega, by omega, by omega, by omega, by omega⟩, ?_⟩
  have e1 : ((a : Int) - (b : Int) - (c : Int)) % 18446744073709551616 = (((a + 18446744073709551616 - b - c) % 18446744073709551616 : Nat) : Int) := by omega
  have e2 : (if (a : Int) < (b : Int) + (c : Int) then (1 : Int) else 0) = ((if a < b + c then 1 else 0 : Nat) : Int) := by
    by_cases hh : a < b + c
    · rw [if_pos hh, if_pos (by omega)]; rfl
    · rw [if_neg hh, if_neg (by omega)]; rfl
  rw [e1, e2]; exact g
/-- a + b; errors as the code gives them. -/
def addS (xs ys : List Nat) : List Nat × Int := if Frm xs ∧ Frm ys then lim (val xs + val ys) else ([], 2)
theorem Add_end {R : Rt} {a : Option Addr} {c l z w : Nat} {zs : List Nat} {n : Nat} {h : Hp} {h0 : Hp} {q : Nat} {ca : Nat} (hl : l = n) (ho : Own h q zs) (hz : z = zs.length) (hw : w = zs.length) (hn : zs.length = n + 1) (hca : ca < 18446744073709551616) (hn2 : n ≤ 8192) (hq : h0.size ≤ q) (k : Keep h0 h)
    (g : ∀ v h', Keep h0 h' → Ans h0 h' v (lim (val (zs.take n ++ [ca]))) → R v h') : nat_Add.D4.t R a l c (some ⟨q, 0, none⟩) z w (ca : Int) h := by
  subst hl; subst hz; subst hw
  unfold nat_Add.D4.t
  refine put_intro ho (j := l) rfl rfl (by omega) rfl hca fun o => ?_
  have e : zs.set l ca = zs.take l ++ [ca] := by
    have := take_set_succ (s := zs) (j := l) (t := ca) (by omega)
    rw [← this, List.take_of_length_le (by rw [List.length_set]; omega)]
  rw [e] at o
  have k2 : Keep h0 (setH h ⟨q, l, none⟩ (wv ca)) := k.set hq
  have hlen : (zs.take l ++ [ca]).length = l + 1 := by simp; omega
  refine hc_intro (told_spec (o.got' (c := zs.length) hq (by omega)) (by omega)) fun v h' ⟨e1, an⟩ => ?_
  subst e1
  refine an.elimG fun a c r i => ?_
  exact g _ _ k2 (Ans.back r i)
theorem Add_walk {R : Rt} {a b : Option Addr} {c d l m z w : Nat} {xs ys : List Nat} {h0 : Hp} {q : Nat} (r : Rd h0 a c xs) (s : Rd h0 b d ys) (hl : l = xs.length) (hm : m = ys.length) (hq : h0.size ≤ q) (hx : xs.length ≤ 8192) (hz : z = xs.length + 1) (hw : w = xs.length + 1)
    (fs : List Nat) (g : ∀ v h', Keep h0 h' → Ans h0 h' v (lim (val fs)) → R v h') :
    ∀ (k n ca : Nat) (zs : List Nat) (h : Hp), n + k = xs.length → ca ≤ 1 → zs.length = xs.length + 1 → Own h q zs → Keep h0 h → zs.take n ++ addL (xs.drop n) (ys.drop n) ca = fs →
      nat_Add.L6.t R (k + 1) a l c b m d (some ⟨q, 0, none⟩) z w (ca : Int) (l : Int) (n : Int) h := by
  subst hl; subst hm
  intro k
  induction k with
  | zero =>
    intro n ca zs h hn hc hzs ho kp e
    unfold nat_Add.L6.t nat_Add.D7.t
    refine c_dec (fun hb => absurd hb (by omega)) fun _ => ?_
    have en : n = xs.length := by omega
    subst en
    rw [List.drop_length] at e
    refine Add_end (n := xs.length) rfl ho (by omega) (by omega) hzs (by omega) hx hq kp ?_
    rw [show zs.take xs.length ++ [ca] = fs from e]; exact g
  | succ k ih =>
    intro n ca zs h hn hc hzs ho kp e
    have hxn : xs.getD n 0 < 18446744073709551616 := r.word n
    have hyn : ys.getD n 0 < 18446744073709551616 := s.word n
    have step : zs.take n ++ addL (xs.drop n) (ys.drop n) ca = (zs.set n ((xs.getD n 0 + ys.getD n 0 + ca) % 18446744073709551616)).take (n + 1) ++ addL (xs.drop (n + 1)) (ys.drop (n + 1)) ((xs.getD n 0 + ys.getD n 0 + ca) / 18446744073709551616) := by
      rw [drop_getD (xs := xs) (j := n) (by omega), take_set_succ (by omega)]
      simp only [addL, headD_drop, List.tail_drop, List.append_assoc, List.cons_append, List.nil_append]
    rw [step] at e
    unfold nat_Add.L6.t nat_Add.D7.t
    refine c_dec (fun hb => ?_) fun hb => absurd (by omega) hb
    refine c_dec (fun hb => ?_) fun hb => ?_
    · refine at_intro (s.keep kp) (j := n) rfl rfl (by omega) ?_
      refine at_intro (r.keep kp) (j := n) rfl rfl (by omega) ?_
      refine add_intro rfl rfl rfl hc ?_
      refine put_intro ho (j := n) rfl (by omega) (by omega) rfl (by omega) fun o => ?_
      refine k_i64 ((n + 1 : Nat) : Int) (by omega) (by omega) (by omega) ?_
      exact ih (n + 1) _ _ _ (by omega) (by omega) (by rw [List.length_set]; omega) o (kp.set hq) e
    · refine at_intro (r.keep kp) (j := n) rfl rfl (by omega) ?_
      have hy0 : ys.getD n 0 = 0 := by simp [List.getD, show ys.length ≤ n by omega]
      rw [hy0] at e
      refine add_intro (b := 0) rfl rfl rfl hc ?_
      refine put_intro ho (j := n) rfl (by omega) (by omega) rfl (by omega) fun o => ?_
      refine k_i64 ((n + 1 : Nat) : Int) (by omega) (by omega) (by omega) ?_
      exact ih (n + 1) _ _ _ (by omega) (by omega) (by rw [List.length_set]; omega) o (kp.set hq) e
theorem Add_made {R : Rt} {a b : Option Addr} {c d l m : Nat} {xs ys : List Nat} {h : Hp} (r : Rd h a c xs) (s : Rd h b d ys) (hl : l = xs.length) (hm : m = ys.length) (hx : xs.length ≤ 8192) (hxy : ys.length ≤ xs.length)
    (g : ∀ v h', Keep h h' → Ans h h' v (lim (val xs + val ys)) → R v h') : nat_Add.D3.t R a l c b m d h := by
  subst hl; subst hm
  unfold nat_Add.D3.t
  refine k_i64 ((xs.length + 1 : Nat) : Int) (by omega) (by omega) (by omega) ?_
  refine mk_intro (xs.length + 1) rfl rfl rfl rfl (by omega) fun h1 o k => ?_
  refine ⟨xs.length + 1, ?_⟩
  refine Add_walk r s rfl rfl (Nat.le_refl _) hx rfl rfl (addL xs ys 0) ?_ xs.length 0 0 _ h1 (by omega) (by omega) (by simp) o k (by simp)
  rw [addL_val xs ys 0 hxy]; exact g
theorem Add_spec {a b : Option Addr} {c d l m : Nat} {xs ys : List Nat} {h : Hp} (r : Rd h a c xs) (s : Rd h b d ys) (hl : l = xs.length) (hm : m = ys.length) :
    HC nat_Add.id #[.slice a l c, .slice b m d] h fun v h' => Keep h h' ∧ Ans h h' v (addS xs ys) := by
  refine nat_Add.ok ?_
  unfold nat_Add.t nat_Add.D1.t
  refine hc_intro (Form_spec r hl) fun v h' ⟨e1, e2⟩ => ?_
  subst e1; subst e2
  refine gBool_intro rfl ?_
  refine c_not (fun hf => ⟨Keep.refl _, ?_⟩) fun hf => ?_
  · unfold addS; rw [if_neg (fun hh => of_decide_eq_false hf hh.1)]; exact Ans.none
  refine hc_intro (Form_spec s hm) fun v h' ⟨e1, e2⟩ => ?_
  subst e1; subst e2
  refine gBool_intro rfl ?_
  refine c_not (fun hf2 => ⟨Keep.refl _, ?_⟩) fun hf2 => ?_
  · unfold addS; rw [if_neg (fun hh => of_decide_eq_false hf2 hh.2)]; exact Ans.none
  have f1 := of_decide_eq_true hf
  have f2 := of_decide_eq_true hf2
  unfold addS; rw [if_pos ⟨f1, f2⟩]
  unfold nat_Add.D2.t
  refine c_dec (fun hb => ?_) fun hb => ?_
  · refine Add_made s r hm hl f2.1 (by omega) fun v h' k an => ⟨k, ?_⟩
    rw [Nat.add_comm]; exact an
  · exact Add_made r s hl hm f1.1 (by omega) fun v h' k an => ⟨k, an⟩
theorem addS_form {xs ys : List Nat} (fx : Frm xs) (fy : Frm ys) : addS xs ys = lim (val xs + val ys) := if_pos ⟨fx, fy⟩
end Go.Proofs.YtanlcacaihdceaaGreatDoor.G

/- What Sub answers. -/
namespace Go.Proofs.YtanlcacaihdceaaGreatDoor.G
open Go.Gv
set_option maxRecDepth 100000
/-- a - b; errors as the code gives them. -/
def subS (xs ys : List Nat) : List Nat × Int := if Frm xs ∧ Frm ys then (if val xs < val ys then ([], 3) else lim (val xs - val ys)) else ([], 2)
theorem Sub_walk {R : Rt} {a b : Option Addr} {c d l m z w : Nat} {xs ys : List Nat} {h0 : Hp} {q : Nat} (r : Rd h0 a c xs) (s : Rd h0 b d ys) (hl : l = xs.length) (hm : m = ys.length) (hq : h0.size ≤ q) (hx : xs.length ≤ 8192) (hz : z = xs.length) (hw : w = xs.length)
    (fs : List Nat) (g : ∀ v h', Keep h0 h' → Ans h0 h' v (lim (val fs)) → R v h') :
    ∀ (k n ca : Nat) (zs : List Nat) (h : Hp), n + k = xs.length → ca ≤ 1 → zs.length = xs.length → Own h q zs → Keep h0 h → zs.take n ++ subL (xs.drop n) (ys.drop n) ca = fs →
      nat_Sub.L5.t R (k + 1) a l c b m d (some ⟨q, 0, none⟩) z w (ca : Int) (l : Int) (n : Int) h := by
  subst hl; subst hm
  intro k
  induction k with
  | zero =>
    intro n ca zs h hn hc hzs ho kp e
    unfold nat_Sub.L5.t nat_Sub.D6.t
    refine c_dec (fun hb => absurd hb (by omega)) fun _ => ?_
    have en : n = xs.length := by omega
    subst en
    rw [List.drop_length] at e
    have ez : zs = fs := by rw [← e, ← hzs, List.take_length]; simp [subL]
    subst ez
    unfold nat_Sub.D3.t
    refine hc_intro (told_spec (ho.got' (c := w) hq (by omega)) (by omega)) fun v h' ⟨e1, an⟩ => ?_
    subst e1
    refine an.elimG fun a c r i => ?_
    exact g _ _ kp (Ans.back r i)
  | succ k ih =>
    intro n ca zs h hn hc hzs ho kp e
    have hxn : xs.getD n 0 < 18446744073709551616 := r.word n
    have hyn : ys.getD n 0 < 18446744073709551616 := s.word n
    have step : zs.take n ++ subL (xs.drop n) (ys.drop n) ca = (zs.set n ((xs.getD n 0 + 18446744073709551616 - ys.getD n 0 - ca) % 18446744073709551616)).take (n + 1) ++ subL (xs.drop (n + 1)) (ys.drop (n + 1)) (if xs.getD n 0 < ys.getD n 0 + ca then 1 else 0) := by
      rw [drop_getD (xs := xs) (j := n) (by omega), take_set_succ (by omega)]
      simp only [subL, headD_drop, List.tail_drop, List.append_assoc, List.cons_append, List.nil_append]
    rw [step] at e
    have hc' : (if xs.getD n 0 < ys.getD n 0 + ca then 1 else 0) ≤ 1 := by split <;> omega
    unfold nat_Sub.L5.t nat_Sub.D6.t
    refine c_dec (fun hb => ?_) fun hb => absurd (by omega) hb
    refine c_dec (fun hb => ?_) fun hb => ?_
    · refine at_intro (s.keep kp) (j := n) rfl rfl (by omega) ?_
      refine at_intro (r.keep kp) (j := n) rfl rfl (by omega) ?_
      refine sub_intro rfl rfl rfl hc hyn ?_
      refine put_intro ho (j := n) rfl (by omega) (by omega) rfl (by omega) fun o => ?_
      refine k_i64 ((n + 1 : Nat) : Int) (by omega) (by omega) (by omega) ?_
      exact ih (n + 1) _ _ _ (by omega) hc' (by rw [List.length_set]; omega) o (kp.set hq) e
    · refine at_intro (r.keep kp) (j := n) rfl rfl (by omega) ?_
      have hy0 : ys.getD n 0 = 0 := by simp [List.getD, show ys.length ≤ n by omega]
      rw [hy0] at e hc'
      refine sub_intro (b := 0) rfl rfl rfl hc (by omega) ?_
      refine put_intro ho (j := n) rfl (by omega) (by omega) rfl (by omega) fun o => ?_
      refine k_i64 ((n + 1 : Nat) : Int) (by omega) (by omega) (by omega) ?_
      exact ih (n + 1) _ _ _ (by omega) hc' (by rw [List.length_set]; omega) o (kp.set hq) e
theorem Sub_spec {a b : Option Addr} {c d l m : Nat} {xs ys : List Nat} {h : Hp} (r : Rd h a c xs) (s : Rd h b d ys) (hl : l = xs.length) (hm : m = ys.length) :
    HC nat_Sub.id #[.slice a l c, .slice b m d] h fun v h' => Keep h h' ∧ Ans h h' v (subS xs ys) := by
  refine nat_Sub.ok ?_
  unfold nat_Sub.t nat_Sub.D1.t
  refine hc_intro (Form_spec r hl) fun v h' ⟨e1, e2⟩ => ?_
  subst e1; subst e2
  refine gBool_intro rfl ?_
  refine c_not (fun hf => ⟨Keep.refl _, ?_⟩) fun hf => ?_
  · unfold subS; rw [if_neg (fun hh => of_decide_eq_false hf hh.1)]; exact Ans.none
  refine hc_intro (Form_spec s hm) fun v h' ⟨e1, e2⟩ => ?_
  subst e1; subst e2
  refine gBool_intro rfl ?_
  refine c_not (fun hf2 => ⟨Keep.refl _, ?_⟩) fun hf2 => ?_
  · unfold subS; rw [if_neg (fun hh => of_decide_eq_false hf2 hh.2)]; exact Ans.none
  have f1 := of_decide_eq_true hf
  have f2 := of_decide_eq_true hf2
  unfold subS; rw [if_pos ⟨f1, f2⟩]
  unfold nat_Sub.D2.t
  refine hc_intro (Cmp_spec r s hl hm) fun v h' ⟨e1, e2⟩ => ?_
  subst e1; subst e2
  refine gInt_intro rfl ?_
  refine c_dec (fun hb => ⟨Keep.refl _, ?_⟩) fun hb => ?_
  · have : val xs < val ys := by
      unfold cmpI at hb; split at hb
      · assumption
      · split at hb <;> omega
    rw [if_pos this]; exact Ans.none
  · have hlt : ¬ val xs < val ys := fun hh => by unfold cmpI at hb; rw [if_pos hh] at hb; omega
    rw [if_neg hlt]
    subst hl; subst hm
    have hf1 := f1.1
    have hxy : ys.length ≤ xs.length := Nat.le_of_not_lt fun hh => by
      have := val_lt_len r.words f2.2 hh; omega
    refine mk_intro xs.length rfl rfl rfl rfl (by omega) fun h1 o k => ?_
    unfold nat_Sub.D4.t
    refine ⟨xs.length + 1, ?_⟩
    refine Sub_walk r s rfl rfl (Nat.le_refl _) hf1 rfl rfl (subL xs ys 0) ?_ xs.length 0 0 _ h1 (by omega) (by omega) (by simp) o k (by simp)
    have := subL_val xs ys 0 r.words s.words hxy (by omega) (by omega)
    rw [show val (subL xs ys 0) = val xs - val ys by omega]
    exact fun v h' k an => ⟨k, an⟩
theorem subS_form {xs ys : List Nat} (fx : Frm xs) (fy : Frm ys) (h : val ys ≤ val xs) : subS xs ys = lim (val xs - val ys) := by
  unfold subS; rw [if_pos ⟨fx, fy⟩, if_neg (by omega)]
end Go.Proofs.YtanlcacaihdceaaGreatDoor.G

/- What Shl, Shr and Low answer. -/
namespace Go.Proofs.YtanlcacaihdceaaGreatDoor.G
open Go.Gv
set_option maxRecDepth 100000
/-! ### to the left -/
/-! ### to the right -/
/-! ### the lowest bits -/
end Go.Proofs.YtanlcacaihdceaaGreatDoor.G

/- What Mul64 answers. -/
namespace Go.Proofs.YtanlcacaihdceaaGreatDoor.G
open Go.Gv
set_option maxRecDepth 100000
/-- A call that answers two words. -/
def Ans2 (v : Value) (a b : Nat) : Prop := v = .tuple #[.int .u64 (a : Int), .int .u64 (b : Int)]
theorem Ans2.elim {v : Value} {a b : Nat} {K : Int → Int → Prop} (e : Ans2 v a b) (g : K (a : Int) (b : Int)) :
    gTup v fun y => uncons y fun v1 y1 => gInt .u64 v1 fun x => uncons y1 fun v2 y2 => gInt .u64 v2 fun z => unnil y2 (K x z) := by
  subst e; exact g
theorem mul64_hi {x y x0 x1 y0 y1 a b c d : Nat} (hx : x = x0 + 4294967296 * x1) (hy : y = y0 + 4294967296 * y1) (ha : a = x0 * y0) (hb : b = x1 * y0) (hc : c = x0 * y1) (hd : d = x1 * y1) : x * y = a + 4294967296 * (b + c) + 18446744073709551616 * d := by
  subst hx; subst hy; subst ha; subst hb; subst hc; subst hd
  rw [Nat.add_mul, Nat.mul_add, Nat.mul_add]
  have e1 : x0 * (4294967296 * y1) = 4294967296 * (x0 * y1) := Nat.mul_left_comm _ _ _
  have e2 : 4294967296 * x1 * y0 = 4294967296 * (x1 * y0) := Nat.mul_assoc _ _ _
  have e3 : 4294967296 * x1 * (4294967296 * y1) = 18446744073709551616 * (x1 * y1) := by
    rw [Nat.mul_assoc, Nat.mul_left_comm x1, ← Nat.mul_assoc]
  rw [e1, e2, e3]; omega
theorem Mul64_spec {x y : Nat} (hx : x < 18446744073709551616) (hy : y < 18446744073709551616) (h : Hp) :
    HC bits_Mul64.id #[.int .u64 (x : Int), .int .u64 (y : Int)] h fun v h' => h' = h ∧ Ans2 v (x * y / 18446744073709551616) (x * y % 18446744073709551616) := by
  refine bits_Mul64.ok ?_
  unfold bits_Mul64.t bits_Mul64.D1.t
  have ha := mul_lt32 (a := x % 4294967296) (b := y % 4294967296) (by omega) (by omega)
  have hb := mul_lt32 (a := x / 4294967296) (b := y % 4294967296) (by omega) (by omega)
  have hc := mul_lt32 (a := x % 4294967296) (b := y / 4294967296) (by omega) (by omega)
  have hd := mul_lt32 (a := x / 4294967296) (b := y / 4294967296) (by omega) (by omega)
  have e := mul64_hi (x := x) (y := y) (x0 := x % 4294967296) (x1 := x / 4294967296) (y0 := y % 4294967296) (y1 := y / 4294967296) (by omega) (by omega) rfl rfl rfl rfl
  refine and32 rfl hx ?_
  refine shr_k' rfl 32 4294967296 (by omega) (by decide) (by omega) ?_
  refine and32 rfl hy ?_
  refine shr_k' rfl 32 4294967296 (by omega) (by decide) (by omega) ?_
  refine k_u64 (x % 4294967296 * (y % 4294967296)) (by norm_cast) (by omega) ?_
  refine k_u64 (x / 4294967296 * (y % 4294967296)) (by norm_cast) (by omega) ?_
  have h1 : ((x % 4294967296 : Nat) : Int) * ((y / 4294967296 : Nat) : Int) = ((x % 4294967296 * (y / 4294967296) : Nat) : Int) := by norm_cast
  have h2 : ((x / 4294967296 : Nat) : Int) * ((y / 4294967296 : Nat) : Int) = ((x / 4294967296 * (y / 4294967296) : Nat) : Int) := by norm_cast
  have h3 : (x : Int) * (y : Int) = ((x * y : Nat) : Int) := by norm_cast
  rw [h1, h2, h3]
  generalize x % 4294967296 * (y % 4294967296) = a at *
  generalize x / 4294967296 * (y % 4294967296) = b at *
  generalize x % 4294967296 * (y / 4294967296) = c at *
  generalize x / 4294967296 * (y / 4294967296) = d at *
  generalize x * y = p at *
  refine shr_k' rfl 32 4294967296 (by omega) (by decide) (by omega) ?_
  refine k_u64 (b + a / 4294967296) (by omega) (by omega) ?_
  refine and32 rfl (by omega) ?_
  refine shr_k' rfl 32 4294967296 (by omega) (by decide) (by omega) ?_
  refine k_u64 c rfl (by omega) ?_
  refine k_u64 ((b + a / 4294967296) % 4294967296 + c) (by omega) (by omega) ?_
  refine k_u64 d rfl (by omega) ?_
  refine k_u64 (d + (b + a / 4294967296) / 4294967296) (by omega) (by omega) ?_
  refine shr_k' rfl 32 4294967296 (by omega) (by decide) (by omega) ?_
  refine k_u64 (p / 18446744073709551616) (by omega) (by omega) ?_
  refine letK_intro (y := ((p % 18446744073709551616 : Nat) : Int)) (by rw [wrap_u64]; omega) ?_
  exact ⟨rfl, rfl⟩
end Go.Proofs.YtanlcacaihdceaaGreatDoor.G

/- What MulWord and Word answer. -/
namespace Go.Proofs.YtanlcacaihdceaaGreatDoor.G
open Go.Gv
set_option maxRecDepth 100000
/-! ### a product with a word -/
theorem Word_spec {w : Nat} (hw : w < 18446744073709551616) (h : Hp) : HC nat_Word.id #[.int .u64 (w : Int)] h fun v h' => Keep h h' ∧ AnsS h h' v (digs w) := by
  refine nat_Word.ok ?_
  unfold nat_Word.t nat_Word.D1.t
  refine c_eq (fun h0 => ⟨Keep.refl _, ?_⟩) fun h0 => ?_
  · have : w = 0 := by omega
    subst this; rw [digs_zero]; exact ⟨none, 0, rfl, GotE.nil _ _⟩
  · refine box_intro [w] (by rfl) (by simp) (by simpa using hw) fun h1 o k => ⟨k, ?_⟩
    have e : digs w = [w] := by
      rw [digs_pos (by omega), show w / 18446744073709551616 = 0 by omega, digs_zero, Nat.mod_eq_of_lt hw]
    rw [e]; exact ⟨_, _, rfl, o.got' (Nat.le_refl _) (by simp)⟩
end Go.Proofs.YtanlcacaihdceaaGreatDoor.G

/- What Div64 answers. -/
namespace Go.Proofs.YtanlcacaihdceaaGreatDoor.G
open Go.Gv
set_option maxRecDepth 100000
/-! ### division of two words by one -/
/-- The guess q of a half digit, with its rest r, for u (two halves and one more) by y = (yn1, yn0). -/
structure Guess (u32 u1 yn1 yn0 q r : Nat) : Prop where
  rest : q * yn1 + r = u32
  up : u32 * 4294967296 + u1 < (q + 1) * (yn1 * 4294967296 + yn0)
theorem Guess.first {u32 u1 yn1 yn0 : Nat} (h1 : 0 < yn1) (hu : u1 < 4294967296) : Guess u32 u1 yn1 yn0 (u32 / yn1) (u32 % yn1) := by
  refine ⟨by rw [Nat.mul_comm]; exact Nat.div_add_mod _ _, ?_⟩
  have h2 : u32 < (u32 / yn1 + 1) * yn1 := by
    rw [Nat.add_mul, Nat.one_mul, Nat.mul_comm]
    have := Nat.div_add_mod u32 yn1
    have := Nat.mod_lt u32 h1
    omega
  rw [Nat.mul_add, ← Nat.mul_assoc]
  generalize (u32 / yn1 + 1) * yn1 = a at *
  omega
end Go.Proofs.YtanlcacaihdceaaGreatDoor.G

/- What DivWord answers. -/
namespace Go.Proofs.YtanlcacaihdceaaGreatDoor.G
open Go.Gv
set_option maxRecDepth 100000
abbrev Ans3 : An (List Nat × Int × Int) := s3 sW (sI .u64) (sI .i64)
theorem Ans3.elim {h0 h : Hp} {v : Value} {p : List Nat × Int × Int} {K : Option Addr → Nat → Nat → Int → Int → Prop} (a : Ans3 h0 h v p) (g : ∀ a c, GotE eU64 h0 h a c p.1 → K a p.1.length c p.2.1 p.2.2) :
    gTup v fun y => uncons y fun v1 y1 => gSlice v1 fun a l c => uncons y1 fun v2 y2 => gInt .u64 v2 fun x => uncons y2 fun v3 y3 => gInt .i64 v3 fun z => unnil y3 (K a l c x z) := by
  obtain ⟨x, y, z, e, ⟨a, c, e1, r⟩, ⟨e2, _⟩, e3, _⟩ := a
  subst e; subst e1; subst e2; subst e3; exact g a c r
end Go.Proofs.YtanlcacaihdceaaGreatDoor.G

/- What the document's calls of layer 1 answer: they are the program's answers. -/
namespace Go.Proofs.YtanlcacaihdceaaGreatDoor.G
open Go.Gv
set_option maxRecDepth 100000
set_option linter.unusedVariables false
section
variable {a b : Option Addr} {c d l m : Nat} {xs ys : List Nat} {h : Hp}
end
end Go.Proofs.YtanlcacaihdceaaGreatDoor.G

/- The lowest one bit, by the program and by the reference; single bits. -/
namespace Go.Proofs.YtanlcacaihdceaaGreatDoor.G
open Go.Gv
set_option maxRecDepth 100000
set_option linter.unusedVariables false
/-! ### how often 2 divides -/
/-! ### the table -/
def dbTab : List Nat := [0, 1, 56, 2, 57, 49, 28, 3, 61, 58, 42, 50, 38, 29, 17, 4, 62, 47, 59, 36, 45, 43, 51, 22, 53, 39, 33, 30, 24, 18, 12, 5, 63, 55, 48, 27, 60, 41, 37, 16, 46, 35, 44, 21, 52, 32, 23, 11, 54, 26, 40, 15, 34, 20, 31, 10, 25, 14, 19, 9, 13, 8, 7, 6]
def Tab (h : Hp) : Prop := ∀ i, i < 64 → cellH h ⟨0, i, none⟩ = some (.int .u8 ((dbTab.getD i 0 : Nat) : Int))
theorem Tab.keep {h h' : Hp} (t : Tab h) (k : Keep h h') : Tab h' := fun i hi => k.cell (t i hi)
/-! ### Bit -/
/-! ### Zeros -/
end Go.Proofs.YtanlcacaihdceaaGreatDoor.G

/- Contracts of layer 1 in the form that the lifted functions use. -/
namespace Go.Proofs.YtanlcacaihdceaaGreatDoor.G
open Go.Gv
set_option linter.unusedVariables false
theorem same_heap {f : FuncId} {args : Array Value} {h : Hp} {S : Value → Prop} (hc : HC f args h fun v h' => h' = h ∧ S v) {T : Value → Hp → Prop} (g : ∀ v, S v → T v h) : HC f args h fun v h' => Keep h h' ∧ T v h' :=
  hc_intro hc fun v h' ⟨e, s⟩ => by subst e; exact ⟨Keep.refl _, g v s⟩
theorem nat_of {x : Int} (i : In .u64 x) : x = ((x.toNat : Nat) : Int) ∧ x.toNat < 18446744073709551616 := by
  rw [in_u64] at i; omega
section
variable {a b : Option Addr} {c d l m : Nat} {xs ys : List Nat} {h : Hp} {x : Int}
theorem nat_Norm.hv (r : Rd h a c xs) (e : l = xs.length) : HC nat_Norm.id #[.slice a l c] h fun v h' => Keep h h' ∧ Ans h h' v (lim (val xs)) := Norm_spec r e
theorem nat_Word.hv (i : In .u64 x) : HC nat_Word.id #[.int .u64 x] h fun v h' => Keep h h' ∧ sW h h' v (digs x.toNat) := by
  have := nat_of i
  rw [this.1, Int.toNat_natCast]; exact Word_spec this.2 h
theorem nat_Form.hv (r : Rd h a c xs) (e : l = xs.length) : HC nat_Form.id #[.slice a l c] h fun v h' => Keep h h' ∧ sBool h h' v (decide (Frm xs)) := same_heap (Form_spec r e) fun v s => s
theorem nat_Bits.hv (r : Rd h a c xs) (e : l = xs.length) : HC nat_Bits.id #[.slice a l c] h fun v h' => Keep h h' ∧ sI .i64 h h' v ((blen (val xs) : Nat) : Int) := by
  refine same_heap (Bits_spec r e) fun v s => ⟨s, ?_⟩
  have h1 := r.len
  have : blen (val xs) ≤ 64 * xs.length := blen_le.mpr (val_lt r.words)
  rw [in_i64]; omega
theorem cmp_in (X Y : Nat) : In .i64 (cmpI X Y) := by unfold cmpI; split <;> (try split) <;> decide
theorem nat_Cmp.hv (r : Rd h a c xs) (e : l = xs.length) (s : Rd h b d ys) (f : m = ys.length) : HC nat_Cmp.id #[.slice a l c, .slice b m d] h fun v h' => Keep h h' ∧ sI .i64 h h' v (cmpI (val xs) (val ys)) := same_heap (Cmp_spec r s e f) fun v s => ⟨s, cmp_in _ _⟩
theorem nat_Add.hv (r : Rd h a c xs) (e : l = xs.length) (s : Rd h b d ys) (f : m = ys.length) : HC nat_Add.id #[.slice a l c, .slice b m d] h fun v h' => Keep h h' ∧ Ans h h' v (addS xs ys) := Add_spec r s e f
theorem nat_Sub.hv (r : Rd h a c xs) (e : l = xs.length) (s : Rd h b d ys) (f : m = ys.length) : HC nat_Sub.id #[.slice a l c, .slice b m d] h fun v h' => Keep h h' ∧ Ans h h' v (subS xs ys) := Sub_spec r s e f
theorem gnomonref01_Twin.hv (r : Rd h a c xs) (e : l = xs.length) : HC gnomonref01_Twin.id #[.slice a l c] h fun v h' => Keep h h' ∧ sW h h' v xs := Twin_spec r e
theorem gnomonref01_DocForm.hv (r : Rd h a c xs) (e : l = xs.length) : HC gnomonref01_DocForm.id #[.slice a l c] h fun v h' => Keep h h' ∧ sBool h h' v (decide (Frm xs)) := same_heap (DocForm_spec r e) fun v s => s
end
end Go.Proofs.YtanlcacaihdceaaGreatDoor.G

/- What the parts of a quotient answer: shifted, trial, takeMul, giveBack, long; QuoRem. -/
namespace Go.Proofs.YtanlcacaihdceaaGreatDoor.G
open Go.Gv
set_option maxRecDepth 100000
set_option linter.unusedVariables false
/-! ### windows of blocks of words -/
/-! ### takeMul -/
/-! ### giveBack -/
/-! ### trial -/
/-! ### one digit -/
/-! ### long -/
end Go.Proofs.YtanlcacaihdceaaGreatDoor.G

/- What shifted and QuoRem answer. -/
namespace Go.Proofs.YtanlcacaihdceaaGreatDoor.G
open Go.Gv
set_option maxRecDepth 100000
set_option linter.unusedVariables false
/-! ### QuoRem -/
abbrev AnsQ : An (List Nat × List Nat × Int) := s3 sW sW (sI .i64)
theorem AnsQ.none {h0 h : Hp} {x : Int} (i : In .i64 x := by decide) : AnsQ h0 h (.tuple #[.slice Option.none 0 0, .slice Option.none 0 0, .int .i64 x]) ([], [], x) := ⟨_, _, _, rfl, ⟨_, _, rfl, GotE.nil _ _⟩, ⟨_, _, rfl, GotE.nil _ _⟩, rfl, i⟩
theorem AnsQ.mk {h0 h : Hp} {a b : Option Addr} {c d l m : Nat} {xs ys : List Nat} {x : Int} (r : GotE eU64 h0 h a c xs) (s : GotE eU64 h0 h b d ys) (hl : l = xs.length) (hm : m = ys.length) (i : In .i64 x) : AnsQ h0 h (.tuple #[.slice a l c, .slice b m d, .int .i64 x]) (xs, ys, x) := by
  subst hl; subst hm
  exact ⟨_, _, _, rfl, ⟨_, _, rfl, r⟩, ⟨_, _, rfl, s⟩, rfl, i⟩
end Go.Proofs.YtanlcacaihdceaaGreatDoor.G

/- What the parts of products answer: trim, cut, sum, addAt, takeAway, rows. -/
namespace Go.Proofs.YtanlcacaihdceaaGreatDoor.G
open Go.Gv
theorem trimL_take (xs : List Nat) : xs.take (trimL xs).length = trimL xs := by
  induction xs with
  | nil => rfl
  | cons x xs ih =>
    simp only [trimL]
    split
    · rfl
    · simp [ih]
theorem mtrim_loop {R : Rt} {a : Option Addr} {c l : Nat} {xs : List Nat} {h : Hp} (r : Rd h a c xs) (hl : l = xs.length) (g : R (.slice a (trimL xs).length (trimL xs).length) h) :
    ∀ n : Nat, n ≤ xs.length → trimL (xs.take n) = trimL xs → natmul_trim.L3.t R (n + 1) a l c (n : Int) h := by
  have h1 := r.len
  intro n
  have fin : ∀ n : Nat, n ≤ xs.length → trimL xs = xs.take n → natmul_trim.D2.t R a l c (n : Int) h := by
    intro n hn e
    refine sl_to3 rfl rfl (Nat.le_trans hn r.cap) ?_
    have e2 : (trimL xs).length = n := by rw [e, List.length_take]; omega
    rw [← e2]; exact g
  induction n with
  | zero =>
    intro hn hz
    unfold natmul_trim.L3.t natmul_trim.D4.t
    refine c_dec (fun h => absurd h (by omega)) fun _ => fin 0 hn ?_
    rw [← hz]; rfl
  | succ n ih =>
    intro hn hz
    refine c_dec (fun _ => ?_) fun h => absurd (by omega) h
    refine k_i64 (n : Int) (by omega) (by omega) (by omega) ?_
    refine at_intro r (j := n) rfl hl (by omega) ?_
    have es := take_snoc (xs := xs) (n := n) (by omega)
    refine c_eq (fun he => ?_) fun he => ?_
    · refine k_i64 (n : Int) (by omega) (by omega) (by omega) ?_
      refine ih (by omega) ?_
      rw [← hz, es, show xs.getD n 0 = 0 by omega, trimL_zero]
    · refine fin (n + 1) hn ?_
      rw [← hz, es, trimL_last _ (by omega)]
theorem rd_trim {h : Hp} {a : Option Addr} {c : Nat} {xs : List Nat} (r : Rd h a c xs) : Rd h a (trimL xs).length (trimL xs) := by
  have := r.take (trimL xs).length
  rw [trimL_take] at this; exact this.cap_le (Nat.le_refl _)
theorem mtrim_spec {a : Option Addr} {c l : Nat} {xs : List Nat} {h : Hp} (r : Rd h a c xs) (hl : l = xs.length) :
    HC natmul_trim.id #[.slice a l c] h fun v h' => h' = h ∧ v = .slice a (trimL xs).length (trimL xs).length := by
  refine natmul_trim.ok ?_
  refine ⟨xs.length + 1, ?_⟩
  subst hl
  exact mtrim_loop r rfl ⟨rfl, rfl⟩ xs.length (Nat.le_refl _) (by rw [List.take_length])
/-! ### adding in place -/
theorem addAt_tail {R : Rt} {c n T q : Nat} {h0 : Hp} (hT : T < 2 ^ (64 * n)) (g : ∀ h' zs, KeepB q h0 h' → Mine h' q zs → zs.length = n → val zs = T → R (.tuple #[]) h') (hn : n ≤ 35184372088828) :
    ∀ (k i ca : Nat) (zs : List Nat) (h : Hp), i + k = n → ca ≤ 1 → zs.length = n → Mine h q zs → KeepB q h0 h → val zs + ca * 2 ^ (64 * i) = T →
      natmul_addAt.L3.t R (k + 1) (some ⟨q, 0, none⟩) n c (ca : Int) (i : Int) h := by
  intro k
  induction k with
  | zero =>
    intro i ca zs h hi hc hz o kp e
    unfold natmul_addAt.L3.t natmul_addAt.D4.t
    refine c_dec (fun hb => ?_) fun hb => ?_
    · have : ca = 1 := by omega
      subst this
      have := lt_of_val (zs := zs) (T := T) (i := i) rfl (by omega) (by rw [hz]; exact hT)
      omega
    · have : ca = 0 := by omega
      subst this
      exact g _ _ kp o hz (by omega)
  | succ k ih =>
    intro i ca zs h hi hc hz o kp e
    unfold natmul_addAt.L3.t natmul_addAt.D4.t
    refine c_dec (fun hb => ?_) fun hb => ?_
    · have hw := o.word i
      refine at_intro (o.rd (c := n) (by omega)) (j := i) rfl (by omega) (by omega) ?_
      refine add_intro (b := 0) rfl rfl rfl hc ?_
      refine mine_put o (j := i) rfl hz.symm (by omega) rfl (by omega) fun o2 k2 => ?_
      refine k_i64 ((i + 1 : Nat) : Int) (by omega) (by omega) (by omega) ?_
      refine ih (i + 1) _ _ _ (by omega) (by omega) (by simp [hz]) o2 (kp.trans k2) ?_
      have hs := val_set (zs := zs) (j := i) (v := (zs.getD i 0 + 0 + ca) % 18446744073709551616) (by omega)
      have := step_up (B := 18446744073709551616) (p := 0) (c := ca) (r := 0) (z' := (zs.getD i 0 + 0 + ca) % 18446744073709551616) (c' := (zs.getD i 0 + 0 + ca) / 18446744073709551616) (by omega) hs
      rw [pow_step]
      simp only [Nat.zero_add, Nat.mul_zero] at this ⊢
      omega
    · have : ca = 0 := by omega
      subst this
      exact g _ _ kp o hz (by omega)
theorem addAt_walk {R : Rt} {a : Option Addr} {c c1 l n at_ T q : Nat} {bs : List Nat} {h0 : Hp} (r : Rd h0 a c1 bs) (hl : l = bs.length) (hoff : bs = [] ∨ Off q a) (hT : T < 2 ^ (64 * n)) (hfit : at_ + bs.length ≤ n) (hn : n ≤ 35184372088828)
    (g : ∀ h' zs, KeepB q h0 h' → Mine h' q zs → zs.length = n → val zs = T → R (.tuple #[]) h') :
    ∀ (k i ca : Nat) (zs : List Nat) (h : Hp), i + k = bs.length → ca ≤ 1 → zs.length = n → Mine h q zs → KeepB q h0 h → val zs + (val (bs.drop i) + ca) * 2 ^ (64 * (at_ + i)) = T →
      natmul_addAt.L7.t R (k + 1) (some ⟨q, 0, none⟩) n c a l c1 (at_ : Int) (ca : Int) (l : Int) (i : Int) h := by
  subst hl
  intro k
  induction k with
  | zero =>
    intro i ca zs h hi hc hz o kp e
    unfold natmul_addAt.L7.t natmul_addAt.D8.t
    refine c_dec (fun hb => absurd hb (by omega)) fun hb => ?_
    unfold natmul_addAt.D2.t
    have ei : i = bs.length := by omega
    subst ei
    refine k_i64 ((at_ + bs.length : Nat) : Int) (by omega) (by omega) (by omega) ?_
    refine ⟨n - (at_ + bs.length) + 1, ?_⟩
    refine addAt_tail hT g hn _ _ _ zs h (by omega) hc hz o kp ?_
    rw [List.drop_length] at e
    simpa [val] using e
  | succ k ih =>
    intro i ca zs h hi hc hz o kp e
    have hw := o.word (at_ + i)
    have hwb := r.word i
    have hoff' : Off q a := by
      rcases hoff with hh | hh
      · subst hh; simp at hi
      · exact hh
    unfold natmul_addAt.L7.t natmul_addAt.D8.t
    refine c_dec (fun hb => ?_) fun hb => absurd (by omega) hb
    refine k_i64 ((at_ + i : Nat) : Int) (by omega) (by omega) (by omega) ?_
    refine k_i64 ((at_ + i : Nat) : Int) (by omega) (by omega) (by omega) ?_
    refine at_intro (o.rd (c := n) (by omega)) (j := at_ + i) rfl (by omega) (by omega) ?_
    refine at_intro (r.keepB hoff' kp) (j := i) rfl rfl (by omega) ?_
    refine add_intro rfl rfl rfl hc ?_
    refine mine_put o (j := at_ + i) rfl hz.symm (by omega) rfl (by omega) fun o2 k2 => ?_
    refine k_i64 ((i + 1 : Nat) : Int) (by omega) (by omega) (by omega) ?_
    refine ih (i + 1) _ _ _ (by omega) (by omega) (by simp [hz]) o2 (kp.trans k2) ?_
    have hs := val_set (zs := zs) (j := at_ + i) (v := (zs.getD (at_ + i) 0 + bs.getD i 0 + ca) % 18446744073709551616) (by omega)
    have := step_up (B := 18446744073709551616) (p := bs.getD i 0) (c := ca) (r := val (bs.drop (i + 1))) (z' := (zs.getD (at_ + i) 0 + bs.getD i 0 + ca) % 18446744073709551616) (c' := (zs.getD (at_ + i) 0 + bs.getD i 0 + ca) / 18446744073709551616) (by omega) hs
    rw [← Nat.add_assoc, pow_step, this, ← val_getD_drop]; exact e
/-- Adding b to a block from a place on. -/
theorem addAt_spec {a : Option Addr} {c c1 l n m at_ q : Nat} {zs bs : List Nat} {h : Hp} (o : Mine h q zs) (r : Rd h a c1 bs) (hl : l = bs.length) (hz : n = zs.length) (hoff : bs = [] ∨ Off q a) (hT : val zs + val bs * 2 ^ (64 * at_) < 2 ^ (64 * zs.length)) (hfit : at_ + bs.length ≤ zs.length) {x : Int} (hx : x = (at_ : Int)) (hm : m = n) :
    HC natmul_addAt.id #[.slice (some ⟨q, 0, none⟩) m c, .slice a l c1, .int .i64 x] h fun v h' => v = .tuple #[] ∧ KeepB q h h' ∧ ∃ zs', Mine h' q zs' ∧ zs'.length = zs.length ∧ val zs' = val zs + val bs * 2 ^ (64 * at_) := by
  subst hx; subst hz; subst hm
  refine natmul_addAt.ok ?_
  unfold natmul_addAt.t natmul_addAt.D1.t natmul_addAt.D6.t
  have hlen := o.len
  refine ⟨bs.length + 1, ?_⟩
  refine addAt_walk r hl hoff hT hfit hlen (fun h' zs' k o' hz' e => ⟨rfl, k, zs', o', hz', e⟩) bs.length 0 0 zs h (by omega) (by omega) rfl o (KeepB.refl _ _) ?_
  simp
/-! ### taking away in place -/
theorem take_tail {R : Rt} {c n T q : Nat} {h0 : Hp} (g : ∀ h' zs, KeepB q h0 h' → Mine h' q zs → zs.length = n → val zs = T → R (.tuple #[]) h') (hn : n ≤ 35184372088828) :
    ∀ (k i ca : Nat) (zs : List Nat) (h : Hp), i + k = n → ca ≤ 1 → zs.length = n → Mine h q zs → KeepB q h0 h → val zs = T + ca * 2 ^ (64 * i) →
      natmul_takeAway.L3.t R (k + 1) (some ⟨q, 0, none⟩) n c (ca : Int) (i : Int) h := by
  intro k
  induction k with
  | zero =>
    intro i ca zs h hi hc hz o kp e
    unfold natmul_takeAway.L3.t natmul_takeAway.D4.t
    refine c_dec (fun hb => ?_) fun hb => ?_
    · have : ca = 1 := by omega
      subst this
      have := lt_of_val (zs := zs) (T := val zs) (i := i) rfl (by omega) (val_lt o.words)
      omega
    · have : ca = 0 := by omega
      subst this
      exact g _ _ kp o hz (by omega)
  | succ k ih =>
    intro i ca zs h hi hc hz o kp e
    unfold natmul_takeAway.L3.t natmul_takeAway.D4.t
    refine c_dec (fun hb => ?_) fun hb => ?_
    · have hw := o.word i
      refine at_intro (o.rd (c := n) (by omega)) (j := i) rfl (by omega) (by omega) ?_
      refine sub_intro (b := 0) rfl rfl rfl hc (by omega) ?_
      refine mine_put o (j := i) rfl hz.symm (by omega) rfl (by omega) fun o2 k2 => ?_
      refine k_i64 ((i + 1 : Nat) : Int) (by omega) (by omega) (by omega) ?_
      refine ih (i + 1) _ _ _ (by omega) (by split <;> omega) (by simp [hz]) o2 (kp.trans k2) ?_
      have hs := val_set (zs := zs) (j := i) (v := (zs.getD i 0 + 18446744073709551616 - 0 - ca) % 18446744073709551616) (by omega)
      have := step_down (B := 18446744073709551616) (u := 0) (o := ca) (r := 0) (T := T) (z' := (zs.getD i 0 + 18446744073709551616 - 0 - ca) % 18446744073709551616) (o' := if zs.getD i 0 < 0 + ca then 1 else 0) (by split <;> omega) hs (by simpa using e)
      rw [pow_step]
      simpa using this
    · have : ca = 0 := by omega
      subst this
      exact g _ _ kp o hz (by omega)
theorem take_walk {R : Rt} {a : Option Addr} {c c1 l n T q : Nat} {bs : List Nat} {h0 : Hp} (r : Rd h0 a c1 bs) (hl : l = bs.length) (hoff : bs = [] ∨ Off q a) (hfit : bs.length ≤ n) (hn : n ≤ 35184372088828)
    (g : ∀ h' zs, KeepB q h0 h' → Mine h' q zs → zs.length = n → val zs = T → R (.tuple #[]) h') :
    ∀ (k i ca : Nat) (zs : List Nat) (h : Hp), i + k = bs.length → ca ≤ 1 → zs.length = n → Mine h q zs → KeepB q h0 h → val zs = T + (val (bs.drop i) + ca) * 2 ^ (64 * i) →
      natmul_takeAway.L7.t R (k + 1) (some ⟨q, 0, none⟩) n c a l c1 (ca : Int) (l : Int) (i : Int) h := by
  subst hl
  intro k
  induction k with
  | zero =>
    intro i ca zs h hi hc hz o kp e
    unfold natmul_takeAway.L7.t natmul_takeAway.D8.t
    refine c_dec (fun hb => absurd hb (by omega)) fun hb => ?_
    unfold natmul_takeAway.D2.t
    have ei : i = bs.length := by omega
    subst ei
    refine ⟨n - bs.length + 1, ?_⟩
    refine take_tail g hn _ _ _ zs h (by omega) hc hz o kp ?_
    rw [List.drop_length] at e
    simpa [val] using e
  | succ k ih =>
    intro i ca zs h hi hc hz o kp e
    have hw := o.word i
    have hwb := r.word i
    have hoff' : Off q a := by
      rcases hoff with hh | hh
      · subst hh; simp at hi
      · exact hh
    unfold natmul_takeAway.L7.t natmul_takeAway.D8.t
    refine c_dec (fun hb => ?_) fun hb => absurd (by omega) hb
    refine at_intro (o.rd (c := n) (by omega)) (j := i) rfl (by omega) (by omega) ?_
    refine at_intro (r.keepB hoff' kp) (j := i) rfl rfl (by omega) ?_
    refine sub_intro rfl rfl rfl hc hwb ?_
    refine mine_put o (j := i) rfl hz.symm (by omega) rfl (by omega) fun o2 k2 => ?_
    refine k_i64 ((i + 1 : Nat) : Int) (by omega) (by omega) (by omega) ?_
    refine ih (i + 1) _ _ _ (by omega) (by split <;> omega) (by simp [hz]) o2 (kp.trans k2) ?_
    have hs := val_set (zs := zs) (j := i) (v := (zs.getD i 0 + 18446744073709551616 - bs.getD i 0 - ca) % 18446744073709551616) (by omega)
    rw [val_getD_drop] at e
    have := step_down (B := 18446744073709551616) (u := bs.getD i 0) (o := ca) (r := val (bs.drop (i + 1))) (T := T) (z' := (zs.getD i 0 + 18446744073709551616 - bs.getD i 0 - ca) % 18446744073709551616) (o' := if zs.getD i 0 < bs.getD i 0 + ca then 1 else 0) (by split <;> omega) hs e
    rw [pow_step]; exact this
theorem take_spec {a : Option Addr} {c c1 l n q : Nat} {zs bs : List Nat} {h : Hp} (o : Mine h q zs) (r : Rd h a c1 bs) (hl : l = bs.length) (hz : n = zs.length) (hoff : bs = [] ∨ Off q a) (hT : val bs ≤ val zs) (hfit : bs.length ≤ zs.length) :
    HC natmul_takeAway.id #[.slice (some ⟨q, 0, none⟩) n c, .slice a l c1] h fun v h' => v = .tuple #[] ∧ KeepB q h h' ∧ ∃ zs', Mine h' q zs' ∧ zs'.length = zs.length ∧ val zs' = val zs - val bs := by
  subst hz
  refine natmul_takeAway.ok ?_
  unfold natmul_takeAway.t natmul_takeAway.D1.t natmul_takeAway.D6.t
  have hlen := o.len
  refine ⟨bs.length + 1, ?_⟩
  refine take_walk (T := val zs - val bs) r hl hoff hfit hlen (fun h' zs' k o' hz' e => ⟨rfl, k, zs', o', hz', e⟩) bs.length 0 0 zs h (by omega) (by omega) rfl o (KeepB.refl _ _) ?_
  simp; omega
end Go.Proofs.YtanlcacaihdceaaGreatDoor.G

/- What rows, cut and sum answer. -/
namespace Go.Proofs.YtanlcacaihdceaaGreatDoor.G
open Go.Gv
set_option maxRecDepth 100000
theorem getD_set_ne {zs : List Nat} {i t v : Nat} (h : i ≠ t) : (zs.set i v).getD t 0 = zs.getD t 0 := by
  simp [List.getD, h]
theorem rows_inner {R : Rt} {N2 : Option Addr → Nat → Nat → Option Addr → Nat → Nat → Option Addr → Nat → Nat → Int → Int → Hp → Prop} {a b : Option Addr} {c c1 c2 la lb n j q T : Nat} {xs ys : List Nat} {h0 : Hp} {X : Int}
    (r : Rd h0 a c1 xs) (s : Rd h0 b c2 ys) (hla : la = xs.length) (hlb : lb = ys.length) (ox : xs = [] ∨ Off q a) (oy : Off q b) (hj : j < ys.length) (hn : n = xs.length + ys.length)
    (g : ∀ h' zs, KeepB q h0 h' → Mine h' q zs → zs.length = n → (∀ t, j + 1 + xs.length ≤ t → zs.getD t 0 = 0) → val zs + val (ys.drop (j + 1)) * val xs * 2 ^ (64 * (j + 1)) = T → N2 (some ⟨q, 0, none⟩) n c a la c1 b lb c2 X ((j + 1 : Nat) : Int) h') :
    ∀ (k i ca : Nat) (zs : List Nat) (h : Hp), i + k = xs.length → ca < 18446744073709551616 → zs.length = n → Mine h q zs → KeepB q h0 h → (∀ t, j + xs.length ≤ t → zs.getD t 0 = 0) →
      val zs + (val (xs.drop i) * ys.getD j 0 + ca) * 2 ^ (64 * (i + j)) + val (ys.drop (j + 1)) * val xs * 2 ^ (64 * (j + 1)) = T →
      natmul_rows.L8.t R N2 (k + 1) (some ⟨q, 0, none⟩) n c a la c1 b lb c2 (j : Int) (ca : Int) X (j : Int) (la : Int) (i : Int) h := by
  subst hla; subst hlb
  intro k
  induction k with
  | zero =>
    intro i ca zs h hi hc hz o kp z0 e
    have hlen := o.len
    unfold natmul_rows.L8.t natmul_rows.D9.t
    refine c_dec (fun hb => absurd hb (by omega)) fun hb => ?_
    have ei : i = xs.length := by omega
    subst ei
    unfold natmul_rows.D6.t
    refine k_i64 ((j + xs.length : Nat) : Int) (by omega) (by omega) (by omega) ?_
    refine mine_put o (j := j + xs.length) rfl hz.symm (by omega) rfl hc fun o2 k2 => ?_
    unfold natmul_rows.D4.t
    refine k_i64 ((j + 1 : Nat) : Int) (by omega) (by omega) (by omega) ?_
    refine g _ _ (kp.trans k2) o2 (by simp [hz]) (fun t ht => ?_) ?_
    · rw [getD_set_ne (by omega)]; exact z0 t (by omega)
    · have hs := val_set (zs := zs) (j := j + xs.length) (v := ca) (by omega)
      rw [z0 _ (Nat.le_refl _)] at hs
      rw [List.drop_length, Nat.add_comm xs.length j] at e
      simp only [val, Nat.zero_mul, Nat.zero_add, Nat.add_zero] at hs e
      omega
  | succ k ih =>
    intro i ca zs h hi hc hz o kp z0 e
    have hlen := o.len
    have hxn := r.word i
    have hyn := s.word j
    have hzn := o.word (i + j)
    have ox' : Off q a := by
      rcases ox with hh | hh
      · subst hh; simp at hi
      · exact hh
    have hp : xs.getD i 0 * ys.getD j 0 ≤ 340282366920938463426481119284349108225 := Nat.mul_le_mul (show xs.getD i 0 ≤ 18446744073709551615 by omega) (show ys.getD j 0 ≤ 18446744073709551615 by omega)
    unfold natmul_rows.L8.t natmul_rows.D9.t
    refine c_dec (fun hb => ?_) fun hb => absurd (by omega) hb
    refine at_intro (r.keepB ox' kp) (j := i) rfl rfl (by omega) ?_
    refine at_intro (s.keepB oy kp) (j := j) rfl rfl (by omega) ?_
    refine hc_intro (Mul64_spec hxn hyn _) fun v h' ⟨e1, an⟩ => ?_
    subst e1
    refine an.elim ?_
    have ev : val (xs.drop i) * ys.getD j 0 = xs.getD i 0 * ys.getD j 0 + 18446744073709551616 * (val (xs.drop (i + 1)) * ys.getD j 0) := by
      rw [val_getD_drop, Nat.add_mul, Nat.mul_assoc]
    rw [ev] at e
    generalize xs.getD i 0 * ys.getD j 0 = p at *
    refine add_intro (c := 0) rfl rfl rfl (by omega) ?_
    refine k_u64 ((p + ca) / 18446744073709551616) (by omega) (by omega) ?_
    refine k_i64 ((i + j : Nat) : Int) (by omega) (by omega) (by omega) ?_
    refine k_i64 ((i + j : Nat) : Int) (by omega) (by omega) (by omega) ?_
    refine at_intro (o.rd (c := n) (by omega)) (j := i + j) rfl (by omega) (by omega) ?_
    refine add_intro (c := 0) rfl rfl rfl (by omega) ?_
    have e5 : (zs.getD (i + j) 0 + (p % 18446744073709551616 + ca + 0) % 18446744073709551616 + 0) % 18446744073709551616 = (p + ca + zs.getD (i + j) 0) % 18446744073709551616 := by omega
    have e6 : (p + ca) / 18446744073709551616 + (zs.getD (i + j) 0 + (p % 18446744073709551616 + ca + 0) % 18446744073709551616 + 0) / 18446744073709551616 = (p + ca + zs.getD (i + j) 0) / 18446744073709551616 := by omega
    rw [e5]
    refine mine_put o (j := i + j) rfl hz.symm (by omega) rfl (by omega) fun o2 k2 => ?_
    refine k_u64 ((p + ca + zs.getD (i + j) 0) / 18446744073709551616) (by rw [← Int.natCast_add, e6]) (by omega) ?_
    refine k_i64 ((i + 1 : Nat) : Int) (by omega) (by omega) (by omega) ?_
    refine ih (i + 1) _ _ _ (by omega) (by omega) (by simp [hz]) o2 (kp.trans k2) (fun t ht => ?_) ?_
    · rw [getD_set_ne (by omega)]; exact z0 t ht
    · have hs := val_set (zs := zs) (j := i + j) (v := (p + ca + zs.getD (i + j) 0) % 18446744073709551616) (by omega)
      have := step_up (B := 18446744073709551616) (p := p) (c := ca) (r := val (xs.drop (i + 1)) * ys.getD j 0) (z' := (p + ca + zs.getD (i + j) 0) % 18446744073709551616) (c' := (p + ca + zs.getD (i + j) 0) / 18446744073709551616) (by omega) hs
      rw [show i + 1 + j = i + j + 1 by omega, pow_step (i + j), this]; exact e
theorem rows_outer {R : Rt} {a b : Option Addr} {c c1 c2 la lb n q T : Nat} {xs ys : List Nat} {h0 : Hp}
    (r : Rd h0 a c1 xs) (s : Rd h0 b c2 ys) (hla : la = xs.length) (hlb : lb = ys.length) (ox : xs = [] ∨ Off q a) (oy : ys = [] ∨ Off q b) (hn : n = xs.length + ys.length)
    (g : ∀ h' zs, KeepB q h0 h' → Mine h' q zs → zs.length = n → val zs = T → R (.tuple #[]) h') :
    ∀ (k j : Nat) (zs : List Nat) (h : Hp), j + k = ys.length → zs.length = n → Mine h q zs → KeepB q h0 h → (∀ t, j + xs.length ≤ t → zs.getD t 0 = 0) → val zs + val (ys.drop j) * val xs * 2 ^ (64 * j) = T →
      natmul_rows.L2.t R (k + 1) (some ⟨q, 0, none⟩) n c a la c1 b lb c2 (lb : Int) (j : Int) h := by
  subst hla; subst hlb
  intro k
  induction k with
  | zero =>
    intro j zs h hj hz o kp z0 e
    unfold natmul_rows.L2.t natmul_rows.D3.t
    refine c_dec (fun hb => absurd hb (by omega)) fun hb => ?_
    refine g _ _ kp o hz ?_
    rw [List.drop_of_length_le (by omega)] at e
    simpa [val] using e
  | succ k ih =>
    intro j zs h hj hz o kp z0 e
    have oy' : Off q b := by
      rcases oy with hh | hh
      · subst hh; simp at hj
      · exact hh
    unfold natmul_rows.L2.t natmul_rows.D3.t
    refine c_dec (fun hb => ?_) fun hb => absurd (by omega) hb
    unfold natmul_rows.D5.t natmul_rows.D7.t
    refine ⟨xs.length + 1, ?_⟩
    refine rows_inner (T := T) r s rfl rfl ox oy' (by omega) hn (fun h' zs' k' o' hz' z0' e' => ?_) xs.length 0 0 zs h (by omega) (by omega) hz o kp z0 ?_
    · exact ih (j + 1) zs' h' (by omega) hz' o' k' z0' e'
    · rw [val_getD_drop] at e
      rw [← e, pow_step, Nat.zero_add, List.drop_zero, Nat.add_zero, Nat.add_mul, Nat.add_mul, Nat.mul_comm (val xs)]
      have e2 : val (ys.drop (j + 1)) * val xs * (18446744073709551616 * 2 ^ (64 * j)) = 18446744073709551616 * val (ys.drop (j + 1)) * val xs * 2 ^ (64 * j) := by
        rw [Nat.mul_left_comm, Nat.mul_assoc 18446744073709551616, Nat.mul_assoc 18446744073709551616]
      rw [e2]; omega
theorem rows_spec {a b : Option Addr} {c c1 c2 la lb n q : Nat} {xs ys : List Nat} {h : Hp} (o : Mine h q (List.replicate n 0)) (r : Rd h a c1 xs) (s : Rd h b c2 ys) (hla : la = xs.length) (hlb : lb = ys.length) (ox : xs = [] ∨ Off q a) (oy : ys = [] ∨ Off q b) (hn : n = xs.length + ys.length) :
    HC natmul_rows.id #[.slice (some ⟨q, 0, none⟩) n c, .slice a la c1, .slice b lb c2] h fun v h' => v = .tuple #[] ∧ KeepB q h h' ∧ ∃ zs, Mine h' q zs ∧ zs.length = n ∧ val zs = val xs * val ys := by
  refine natmul_rows.ok ?_
  unfold natmul_rows.t natmul_rows.D1.t
  refine ⟨ys.length + 1, ?_⟩
  refine rows_outer r s hla hlb ox oy hn (fun h' zs' k o' hz' e => ⟨rfl, k, zs', o', hz', e⟩) ys.length 0 _ h (by omega) (by simp) o (KeepB.refl _ _) (fun t _ => ?_) ?_
  · simp only [List.getD, List.getElem?_replicate]; split <;> rfl
  · rw [val_replicate, List.drop_zero]; simp [Nat.mul_comm]
/-! ### parts and sums -/
/-- A list in new memory, whose block is the call's own. -/
def Fresh (h h' : Hp) (v : Value) (xs : List Nat) : Prop := ∃ q, h.size ≤ q ∧ v = .slice (some ⟨q, 0, none⟩) xs.length xs.length ∧ Mine h' q xs
theorem Fresh.elim {h h' : Hp} {v : Value} {xs : List Nat} {K : Option Addr → Nat → Nat → Prop} (f : Fresh h h' v xs) (g : ∀ q, h.size ≤ q → Mine h' q xs → K (some ⟨q, 0, none⟩) xs.length xs.length) : gSlice v K := by
  obtain ⟨q, hq, e, o⟩ := f
  subst e; exact g q hq o
theorem off_of_ne {b q : Nat} (h : b ≠ q) : Off q (some ⟨b, 0, none⟩) := fun p e => by cases e; exact h
/-- The trimmed upper part of a block is the call's answer. -/
theorem mtrim_fresh {h0 h : Hp} {q n c : Nat} {zs : List Nat} {K : Value → Hp → Prop} (hq : h0.size ≤ q) (o : Mine h q zs) (hn : n = zs.length) (hc : n ≤ c) (g : ∀ v, Fresh h0 h v (digs (val zs)) → K v h) :
    HC natmul_trim.id #[.slice (some ⟨q, 0, none⟩) n c] h K := by
  refine hc_intro (mtrim_spec (o.rd (c := c) (by omega)) hn) fun v h' ⟨e1, e2⟩ => ?_
  subst e1; subst e2
  refine g _ ?_
  rw [digs_val o.words]
  exact ⟨q, hq, rfl, by have := o.take (trimL zs).length; rw [trimL_take] at this; exact this⟩
theorem cut_spec {a : Option Addr} {c l k : Nat} {xs : List Nat} {h : Hp} {x : Int} (r : Rd h a c xs) (hl : l = xs.length) (hx : x = (k : Int)) :
    HC natmul_cut.id #[.slice a l c, .int .i64 x] h fun v h' => h' = h ∧ ∃ a2, v = .tuple #[.slice a (trimL (xs.take k)).length (trimL (xs.take k)).length, .slice a2 (xs.drop k).length (xs.drop k).length] ∧
      Rd h a (trimL (xs.take k)).length (trimL (xs.take k)) ∧ Rd h a2 (xs.drop k).length (xs.drop k) ∧ ∀ q, Off q a → Off q a2 := by
  subst hl; subst hx
  have hc := r.cap
  refine natmul_cut.ok ?_
  unfold natmul_cut.t natmul_cut.D1.t
  refine c_dec (fun hb => ?_) fun hb => ?_
  · refine sl_to3 rfl rfl hc ?_
    refine hc_intro (mtrim_spec (r.cap_le (Nat.le_refl _)) rfl) fun v h' ⟨e1, e2⟩ => ?_
    subst e1; subst e2
    refine gSlice_intro rfl ?_
    rw [List.take_of_length_le (by omega), List.drop_of_length_le (by omega)]
    exact ⟨rfl, none, rfl, rd_trim r, Rd.nil _ _ _, fun q _ => Off.none q⟩
  · refine sl_to3 rfl rfl (by omega) ?_
    have hk : (xs.take k).length = k := by rw [List.length_take]; omega
    have rt := (r.take k).cap_le (Nat.le_refl _)
    rw [hk] at rt
    refine hc_intro (mtrim_spec rt hk.symm) fun v h' ⟨e1, e2⟩ => ?_
    subst e1; subst e2
    refine gSlice_intro rfl ?_
    refine sl_mid3 rfl rfl rfl (by omega) hc ?_
    refine ⟨rfl, subA a xs.length k 1, ?_, rd_trim rt, ?_, fun q oq => oq.sub _ _ _⟩
    · rw [List.length_drop]
    · have rd := (r.cap_le (Nat.le_refl _)).drop k (by omega)
      exact rd.cap_le (Nat.le_refl _)
theorem val_cut (xs : List Nat) (k : Nat) : val xs = val (trimL (xs.take k)) + 2 ^ (64 * k) * val (xs.drop k) := by
  rw [val_trimL]
  by_cases h : k ≤ xs.length
  · conv => lhs; rw [← List.take_append_drop k xs]
    rw [val_append, List.length_take, Nat.min_eq_left h]
  · rw [List.take_of_length_le (by omega), List.drop_of_length_le (by omega)]; simp [val]
theorem fit_of {M n k : Nat} (hk : k ≤ n) (h : M * 2 ^ (64 * k) < 2 ^ (64 * n)) : k + (digs M).length ≤ n := by
  have : (digs M).length ≤ n - k := by
    rw [digs_len]
    have e : 2 ^ (64 * n) = 2 ^ (64 * (n - k)) * 2 ^ (64 * k) := by rw [← Nat.pow_add, show 64 * (n - k) + 64 * k = 64 * n by omega]
    rw [e] at h
    exact Nat.lt_of_mul_lt_mul_right h
  omega
theorem sum_made {R : Rt} {a b : Option Addr} {c d l m : Nat} {xs ys : List Nat} {h : Hp} (r : Rd h a c xs) (s : Rd h b d ys) (hl : l = xs.length) (hm : m = ys.length) (hxy : ys.length ≤ xs.length) (hx : xs.length < 35184372088828)
    (g : ∀ v h', Keep h h' → Fresh h h' v (digs (val xs + val ys)) → R v h') : natmul_sum.D2.t R a l c b m d h := by
  subst hl; subst hm
  unfold natmul_sum.D2.t
  refine k_i64 ((xs.length + 1 : Nat) : Int) (by omega) (by omega) (by omega) ?_
  refine mk_intro (xs.length + 1) rfl rfl rfl rfl (by omega) fun h1 o k => ?_
  refine cp_intro o (r.keep k) (by simp) rfl (Nat.le_refl _) k fun h2 o2 k2 => ?_
  have e : List.take (List.replicate (xs.length + 1) 0).length xs ++ List.drop xs.length (List.replicate (xs.length + 1) 0) = xs ++ [0] := by
    rw [List.take_of_length_le (by simp)]; simp
  rw [e] at o2
  have ev : val (xs ++ [0]) = val xs := by rw [← val_trimL, trimL_zero, val_trimL]
  have hx1 := val_lt r.words
  have hy1 := val_lt s.words
  have hp : 2 ^ (64 * ys.length) ≤ 2 ^ (64 * xs.length) := Nat.pow_le_pow_right (by decide) (by omega)
  refine hc_intro (addAt_spec (at_ := 0) o2.mine (s.keep k2) rfl (by simp) (s.off (Nat.le_refl _)) ?_ (by simp; omega) rfl rfl) fun v h3 ⟨e3, k3, zs, o3, hz3, ev3⟩ => ?_
  · rw [ev, List.length_append, List.length_singleton, pow_step, Nat.mul_zero, Nat.pow_zero, Nat.mul_one]
    generalize 2 ^ (64 * xs.length) = P at *; omega
  subst e3
  refine gTup_intro rfl (unnil_intro ?_)
  refine mtrim_fresh (Nat.le_refl h.size) o3 (by rw [hz3]; simp) (by omega) fun v f => ?_
  rw [ev3, ev, Nat.mul_zero, Nat.pow_zero, Nat.mul_one] at f
  obtain ⟨q, hq, e4, o4⟩ := f
  subst e4
  exact g _ _ (k3.keep k2 (Nat.le_refl _)) ⟨q, hq, rfl, o4⟩
theorem sum_spec {a b : Option Addr} {c d l m : Nat} {xs ys : List Nat} {h : Hp} (r : Rd h a c xs) (s : Rd h b d ys) (hl : l = xs.length) (hm : m = ys.length) (hx : xs.length < 35184372088828) (hy : ys.length < 35184372088828) :
    HC natmul_sum.id #[.slice a l c, .slice b m d] h fun v h' => Keep h h' ∧ Fresh h h' v (digs (val xs + val ys)) := by
  refine natmul_sum.ok ?_
  unfold natmul_sum.t natmul_sum.D1.t
  refine c_dec (fun hb => ?_) fun hb => ?_
  · refine sum_made s r hm hl (by omega) hy fun v h' k f => ⟨k, ?_⟩
    rw [Nat.add_comm]; exact f
  · exact sum_made r s hl hm (by omega) hx fun v h' k f => ⟨k, f⟩
end Go.Proofs.YtanlcacaihdceaaGreatDoor.G

/- What fill, slabs, thirds, product and Mul answer. -/
namespace Go.Proofs.YtanlcacaihdceaaGreatDoor.G
open Go.Gv
set_option maxRecDepth 100000
theorem stH_keepB {q : Nat} : ∀ {vs : List Value} {h : Hp} {i : Nat}, KeepB q h (stH h ⟨q, 0, none⟩ i vs)
  | [], h, _ => KeepB.refl _ _
  | v :: vs, h, i => by
    have e : stH h ⟨q, 0, none⟩ i (v :: vs) = stH (setH h ⟨q, i, none⟩ v) ⟨q, 0, none⟩ (i + 1) vs := by
      show stH (setH h ((⟨q, 0, none⟩ : Addr).add i) v) _ _ _ = _
      rw [base_add]
    rw [e]; exact (KeepB.set q h i v).trans stH_keepB
theorem mine_cp {h : Hp} {b l l2 c2 : Nat} {xs ys : List Nat} {a : Option Addr} (o : Mine h b xs) (r : Rd h a c2 ys) (hl : l = xs.length) (hl2 : l2 = ys.length) (hle : ys.length ≤ xs.length) {K : Int → Hp → Prop}
    (g : ∀ h', Mine h' b (ys ++ xs.drop ys.length) → KeepB b h h' → K (ys.length : Int) h') : cpK h 1 (some ⟨b, 0, none⟩) l (.slice a l2 c2) K := by
  subst hl; subst hl2
  obtain ⟨rest, o⟩ := o
  have hm : Nat.min ys.length xs.length = ys.length := Nat.min_eq_left hle
  refine ⟨ys.length, ys.map wv, rfl, ⟨by rw [List.length_map, hm]; omega, ?_, ?_⟩, ?_, ?_⟩
  · intro v hv
    obtain ⟨x, _, e⟩ := List.mem_map.mp hv
    subst e; rfl
  · cases a with
    | none =>
      show ys.map wv = []
      cases ys with
      | nil => simp
      | cons y ys => obtain ⟨p, e, _⟩ := r.at_ 0 (by simp); cases e
    | some p =>
      refine rdL_of fun j hj => ?_
      obtain ⟨p', e, g'⟩ := r.at_ j hj
      cases e
      rw [Nat.zero_add]; exact g'
  · refine stL_of fun j hj => ?_
    rw [Nat.zero_add, base_add]
    rw [List.length_map] at hj
    exact ⟨⟨_, o.cell (by rw [List.length_append]; omega)⟩, o.frozen j⟩
  · have := stH_own (h0 := #[]) (vs := ys) (i := 0) o r.words (by rw [List.length_append]; omega) (by simp) ⟨by simp, fun b hb => absurd hb (by simp)⟩
    rw [hm]
    refine g _ ⟨rest, ?_⟩ stH_keepB
    have e : List.take 0 (xs ++ rest) ++ (ys ++ List.drop (0 + ys.length) (xs ++ rest)) = ys ++ xs.drop ys.length ++ rest := by
      rw [List.take_zero, List.nil_append, Nat.zero_add, List.drop_append_of_le_length hle, List.append_assoc]
    rw [← e]; exact this.1
/-! ### the great recursion -/
def FillOK (N : Nat) : Prop := ∀ {a b : Option Addr} {c c1 c2 la lb n q : Nat} {xs ys : List Nat} {h : Hp}, xs.length + ys.length ≤ N → Mine h q (List.replicate n 0) → Rd h a c1 xs → Rd h b c2 ys → la = xs.length → lb = ys.length → (xs = [] ∨ Off q a) → (ys = [] ∨ Off q b) → n = xs.length + ys.length →
  HC natmul_fill.id #[.slice (some ⟨q, 0, none⟩) n c, .slice a la c1, .slice b lb c2] h fun v h' => v = .tuple #[] ∧ KeepB q h h' ∧ ∃ zs, Mine h' q zs ∧ zs.length = n ∧ val zs = val xs * val ys
theorem product_of {N : Nat} (ok : FillOK N) {a b : Option Addr} {c d l m : Nat} {xs ys : List Nat} {h : Hp} (hN : xs.length + ys.length ≤ N) (r : Rd h a c xs) (s : Rd h b d ys) (hl : l = xs.length) (hm : m = ys.length) (hb : xs.length + ys.length ≤ 35184372088828) :
    HC natmul_product.id #[.slice a l c, .slice b m d] h fun v h' => Keep h h' ∧ Fresh h h' v (digs (val xs * val ys)) := by
  subst hl; subst hm
  refine natmul_product.ok ?_
  unfold natmul_product.t natmul_product.D1.t
  refine k_i64 ((xs.length + ys.length : Nat) : Int) (by omega) (by omega) (by omega) ?_
  refine mk_intro (xs.length + ys.length) rfl rfl rfl rfl hb fun h1 o k => ?_
  refine hc_intro (ok hN o.mine (r.keep k) (s.keep k) rfl rfl (r.off (Nat.le_refl _)) (s.off (Nat.le_refl _)) rfl) fun v h2 ⟨e2, k2, zs, o2, hz, ev⟩ => ?_
  subst e2
  refine gTup_intro rfl (unnil_intro ?_)
  refine mtrim_fresh (Nat.le_refl h.size) o2 hz.symm (Nat.le_refl _) fun v f => ?_
  rw [ev] at f
  obtain ⟨q, hq, e4, o4⟩ := f
  subst e4
  exact ⟨k2.keep k (Nat.le_refl _), q, hq, rfl, o4⟩
theorem mul_fits {xs ys : List Nat} (hx : Words xs) (hy : Words ys) : val xs * val ys < 2 ^ (64 * (xs.length + ys.length)) := by
  rw [Nat.mul_add, Nat.pow_add]
  exact Nat.mul_lt_mul'' (val_lt hx) (val_lt hy)
theorem slabs_loop {N : Nat} (ok : ∀ M, M < N → FillOK M) {R : Rt} {a b : Option Addr} {c c1 c2 la lb n q : Nat} {xs ys : List Nat} {h0 : Hp} (hN : xs.length + ys.length ≤ N) (r : Rd h0 a c1 xs) (s : Rd h0 b c2 ys) (hla : la = xs.length) (hlb : lb = ys.length) (ox : Off q a) (oy : Off q b) (hn : n = xs.length + ys.length)
    (hl0 : 1 ≤ ys.length) (hl2 : 2 * ys.length ≤ xs.length) (hq : q < h0.size)
    (g : ∀ h' zs, KeepB q h0 h' → Mine h' q zs → zs.length = n → val zs = val xs * val ys → R (.tuple #[]) h') :
    ∀ (k i : Nat) (zs : List Nat) (h : Hp), xs.length ≤ i + k → i ≤ xs.length + ys.length → zs.length = n → Mine h q zs → KeepB q h0 h → val zs = val (xs.take i) * val ys →
      natmul_slabs.L2.t R (k + 1) (some ⟨q, 0, none⟩) n c a la c1 b lb c2 (i : Int) h := by
  subst hla; subst hlb
  intro k
  induction k with
  | zero =>
    intro i zs h hi hi2 hz o kp e
    unfold natmul_slabs.L2.t natmul_slabs.D3.t
    refine c_dec (fun hb => absurd hb (by omega)) fun hb => ?_
    rw [List.take_of_length_le (by omega)] at e
    exact g _ _ kp o hz e
  | succ k ih =>
    intro i zs h hi hi2 hz o kp e
    have hlen := o.len
    have hc1 := r.cap
    unfold natmul_slabs.L2.t natmul_slabs.D3.t
    refine c_dec (fun hb => ?_) fun hb => ?_
    · refine k_i64 ((i + ys.length : Nat) : Int) (by omega) (by omega) (by omega) ?_
      obtain ⟨m, hm⟩ : ∃ m, m = min (i + ys.length) xs.length := ⟨_, rfl⟩
      have em : (if (((xs.length : Nat) : Int)) < ((i + ys.length : Nat) : Int) then (((xs.length : Nat) : Int)) else ((i + ys.length : Nat) : Int)) = (m : Int) := by
        split <;> omega
      rw [em]
      refine sl_mid3 rfl rfl rfl (by omega) (by omega) ?_
      have hrt : (xs.take m).length = m := by rw [List.length_take]; omega
      have rt := ((r.keepB ox kp).take m).cap_le (c' := m) (by omega)
      have rd := rt.drop i (by omega)
      have hpl : ((xs.take m).drop i).length = m - i := by rw [List.length_drop, hrt]
      refine hc_intro (mtrim_spec (rd.cap_le (c' := m - i) (by omega)) hpl.symm) fun v h1 ⟨e1, e2⟩ => ?_
      subst e1; subst e2
      refine gSlice_intro rfl ?_
      have rp := rd_trim (rd.cap_le (c' := m - i) (by omega))
      have hpt := trimL_le ((xs.take m).drop i)
      refine hc_intro (product_of (ok (ys.length + ys.length) (by omega)) (by omega) rp (s.keepB oy kp) rfl rfl (by omega)) fun v h2 ⟨k2, f⟩ => ?_
      refine f.elim fun b2 hb2 o2 => ?_
      rw [val_trimL] at o2 ⊢
      have ep : val (xs.take m) = val (xs.take i) + 2 ^ (64 * i) * val ((xs.take m).drop i) := by
        conv => lhs; rw [← List.take_append_drop i (xs.take m)]
        rw [val_append, List.length_take, hrt, Nat.min_eq_left (by omega), List.take_take, Nat.min_eq_left (by omega)]
      have hle : val (xs.take m) ≤ val xs := by
        have : val xs = val (xs.take m) + 2 ^ (64 * m) * val (xs.drop m) := by
          conv => lhs; rw [← List.take_append_drop m xs]
          rw [val_append, hrt]
        omega
      have etot : val zs + val ((xs.take m).drop i) * val ys * 2 ^ (64 * i) = val (xs.take m) * val ys := by
        rw [e, ep, Nat.add_mul, Nat.mul_right_comm, Nat.mul_comm (2 ^ (64 * i))]
      have hlt : val (xs.take m) * val ys < 2 ^ (64 * zs.length) := by
        rw [hz, hn]
        exact Nat.lt_of_le_of_lt (Nat.mul_le_mul_right _ hle) (mul_fits r.words s.words)
      have o1 := o.keep k2
      have hqb : q ≠ b2 := by have := kp.le; omega
      refine hc_intro (addAt_spec (at_ := i) o1 (o2.rd (Nat.le_refl _)) rfl hz.symm (Or.inr (off_of_ne (Ne.symm hqb))) (by rw [val_digs, etot]; exact hlt) (fit_of (by omega) (by omega)) rfl rfl) fun v h3 ⟨e3, k3, zs3, o3, hz3, ev3⟩ => ?_
      subst e3
      refine gTup_intro rfl (unnil_intro ?_)
      refine k_i64 ((i + ys.length : Nat) : Int) (by omega) (by omega) (by omega) ?_
      rw [val_digs, etot] at ev3
      refine ih (i + ys.length) zs3 h3 (by omega) (by omega) (by omega) o3 ((kp.trans k2.toB).trans k3) ?_
      rw [ev3]
      congr 2
      by_cases hc : i + ys.length ≤ xs.length
      · rw [hm, Nat.min_eq_left hc]
      · rw [List.take_of_length_le (by omega), List.take_of_length_le (by omega)]
    · rw [List.take_of_length_le (by omega)] at e
      exact g _ _ kp o hz e
theorem kara {X Y x0 x1 y0 y1 W : Nat} (hx : X = x0 + W * x1) (hy : Y = y0 + W * y1) : (x0 + x1) * (y0 + y1) = x0 * y0 + (x0 * y1 + x1 * y0) + x1 * y1 ∧ X * Y = x0 * y0 + (x0 * y1 + x1 * y0) * W + x1 * y1 * (W * W) := by
  subst hx; subst hy
  constructor
  · rw [Nat.add_mul, Nat.mul_add, Nat.mul_add]; omega
  · have e1 : x0 * (W * y1) = x0 * y1 * W := by rw [Nat.mul_comm W, Nat.mul_assoc]
    have e2 : W * x1 * y0 = x1 * y0 * W := by rw [Nat.mul_assoc, Nat.mul_comm]
    have e3 : W * x1 * (W * y1) = x1 * y1 * (W * W) := by
      rw [Nat.mul_mul_mul_comm, Nat.mul_comm]
    rw [Nat.add_mul, Nat.mul_add, Nat.mul_add, e1, e2, e3, Nat.add_mul]; omega
theorem thirds_of {N : Nat} (ok : ∀ M, M < N → FillOK M) {a b : Option Addr} {c c1 c2 la lb n q : Nat} {xs ys : List Nat} {h : Hp} (hN : xs.length + ys.length ≤ N) (o : Mine h q (List.replicate n 0)) (r : Rd h a c1 xs) (s : Rd h b c2 ys) (hla : la = xs.length) (hlb : lb = ys.length) (ox : Off q a) (oy : Off q b) (hn : n = xs.length + ys.length)
    (h40 : 40 ≤ ys.length) (hxy : ys.length ≤ xs.length) (hl2 : xs.length < 2 * ys.length) :
    HC natmul_thirds.id #[.slice (some ⟨q, 0, none⟩) n c, .slice a la c1, .slice b lb c2] h fun v h' => v = .tuple #[] ∧ KeepB q h h' ∧ ∃ zs, Mine h' q zs ∧ zs.length = n ∧ val zs = val xs * val ys := by
  subst hla; subst hlb
  have hlen := o.len
  rw [List.length_replicate] at hlen
  have hqs := o.lt
  refine natmul_thirds.ok ?_
  unfold natmul_thirds.t natmul_thirds.D1.t
  refine k_i64 ((xs.length + 1 : Nat) : Int) (by omega) (by omega) (by omega) ?_
  obtain ⟨k, hk⟩ : ∃ k, k = (xs.length + 1) / 2 := ⟨_, rfl⟩
  refine ⟨by omega, k_i64 (k : Int) (by rw [hk]; exact tdiv_nat _ 2) (by omega) (by omega) ?_⟩
  refine hc_intro (cut_spec (k := k) r rfl rfl) fun v h1 ⟨e1, ax1, e2, rx0, rx1, ofx⟩ => ?_
  subst e1; subst e2
  refine gTup_intro rfl (uncons_intro (gSlice_intro rfl (uncons_intro (gSlice_intro rfl (unnil_intro ?_)))))
  refine hc_intro (cut_spec (k := k) s rfl rfl) fun v h1 ⟨e1, ay1, e2, ry0, ry1, ofy⟩ => ?_
  subst e1; subst e2
  refine gTup_intro rfl (uncons_intro (gSlice_intro rfl (uncons_intro (gSlice_intro rfl (unnil_intro ?_)))))
  have ex := val_cut xs k
  have ey := val_cut ys k
  have lx0 : (trimL (xs.take k)).length ≤ k := Nat.le_trans (trimL_le _) (by rw [List.length_take]; omega)
  have ly0 : (trimL (ys.take k)).length ≤ k := Nat.le_trans (trimL_le _) (by rw [List.length_take]; omega)
  have lx1 : (xs.drop k).length ≤ k := by rw [List.length_drop]; omega
  have ly1 : (ys.drop k).length ≤ k := by rw [List.length_drop]; omega
  have hXY := mul_fits r.words s.words
  rw [← hn] at hXY
  generalize trimL (xs.take k) = x0 at *
  generalize trimL (ys.take k) = y0 at *
  generalize xs.drop k = x1 at *
  generalize ys.drop k = y1 at *
  refine hc_intro (product_of (ok (k + k) (by omega)) (by omega) rx0 ry0 rfl rfl (by omega)) fun v h2 ⟨k2, f⟩ => ?_
  refine f.elim fun bl hbl ol => ?_
  refine hc_intro (product_of (ok (k + k) (by omega)) (by omega) (rx1.keep k2) (ry1.keep k2) rfl rfl (by omega)) fun v h3 ⟨k3, f⟩ => ?_
  refine f.elim fun bh hbh oh => ?_
  have k03 := k2.trans k3
  refine hc_intro (sum_spec (rx0.keep k03) (rx1.keep k03) rfl rfl (by omega) (by omega)) fun v h4 ⟨k4, f⟩ => ?_
  refine f.elim fun bs hbs os => ?_
  have k04 := k03.trans k4
  refine hc_intro (sum_spec (ry0.keep k04) (ry1.keep k04) rfl rfl (by omega) (by omega)) fun v h5 ⟨k5, f⟩ => ?_
  refine f.elim fun bt hbt ot => ?_
  have hsl : (digs (val x0 + val x1)).length ≤ k + 1 := digs_add_len (digs_len.mpr (Nat.lt_of_lt_of_le (val_lt rx0.words) (Nat.pow_le_pow_right (by decide) (by omega)))) (digs_len.mpr (Nat.lt_of_lt_of_le (val_lt rx1.words) (Nat.pow_le_pow_right (by decide) (by omega))))
  have htl : (digs (val y0 + val y1)).length ≤ k + 1 := digs_add_len (digs_len.mpr (Nat.lt_of_lt_of_le (val_lt ry0.words) (Nat.pow_le_pow_right (by decide) (by omega)))) (digs_len.mpr (Nat.lt_of_lt_of_le (val_lt ry1.words) (Nat.pow_le_pow_right (by decide) (by omega))))
  refine hc_intro (product_of (ok (k + 1 + (k + 1)) (by omega)) (by omega) ((os.rd (Nat.le_refl _)).keep k5) (ot.rd (Nat.le_refl _)) rfl rfl (by omega)) fun v h6 ⟨k6, f⟩ => ?_
  refine f.elim fun bm hbm om => ?_
  rw [val_digs, val_digs] at om ⊢
  have km := kara ex ey
  -- the numbers
  obtain ⟨L, hL⟩ : ∃ L, L = val x0 * val y0 := ⟨_, rfl⟩
  obtain ⟨H, hH⟩ : ∃ H, H = val x1 * val y1 := ⟨_, rfl⟩
  obtain ⟨M, hM⟩ : ∃ M, M = val x0 * val y1 + val x1 * val y0 := ⟨_, rfl⟩
  rw [← hL, ← hM, ← hH] at km
  rw [← hL] at ol ⊢
  rw [← hH] at oh ⊢
  rw [km.1] at om ⊢
  have k36 := k4.trans (k5.trans k6)
  have k26 := k3.trans k36
  have k06 := k2.trans k26
  have ol6 := ol.keep k26
  have oh6 := oh.keep k36
  have o6 := o.keep k06
  have hbl2 : bl < h2.size := ol.lt
  have hbh2 : bh < h3.size := oh.lt
  have hs23 := k3.le
  have hs26 := k36.le
  have hs6 : h3.size ≤ bm := by have := k4.le; have := k5.le; omega
  refine hc_intro (take_spec om (ol6.rd (Nat.le_refl _)) rfl rfl (Or.inr (off_of_ne (by omega))) (by rw [val_digs, val_digs]; omega) (digs_len_mono (by omega))) fun v h7 ⟨e7, k7, z7, o7, hz7, ev7⟩ => ?_
  subst e7
  refine gTup_intro rfl (unnil_intro ?_)
  rw [val_digs, val_digs] at ev7
  have oh7 := oh6.keepB (q := bm) (by omega) k7
  have ol7 := ol6.keepB (q := bm) (by omega) k7
  refine hc_intro (take_spec o7 (oh7.rd (Nat.le_refl _)) rfl hz7.symm (Or.inr (off_of_ne (by omega))) (by rw [val_digs]; omega) (by rw [hz7]; exact digs_len_mono (by omega))) fun v h8 ⟨e8, k8, z8, o8, hz8, ev8⟩ => ?_
  subst e8
  refine gTup_intro rfl (unnil_intro ?_)
  rw [val_digs] at ev8
  have evM : val z8 = M := by omega
  have hs12 := k2.le
  have k68 := k7.trans k8
  have k08 : Keep h1 h8 := k68.keep k06 (by omega)
  have o88 := (o6.keepB (q := bm) (by omega) k68)
  have ol8 := ol7.keepB (q := bm) (by omega) k8
  have oh8 := oh7.keepB (q := bm) (by omega) k8
  -- z
  have hWW : 2 ^ (64 * k) * 2 ^ (64 * k) = 2 ^ (64 * (2 * k)) := by rw [← Nat.pow_add, show 64 * k + 64 * k = 64 * (2 * k) by omega]
  have hT := km.2
  rw [hWW] at hT
  rw [hT] at hXY
  have hLn : (digs L).length ≤ n := digs_len.mpr (by omega)
  refine mine_cp o88 (ol8.rd (Nat.le_refl _)) (by simp) rfl (by simpa using hLn) fun h9 o9 k9 => ?_
  have ev9 : val (digs L ++ (List.replicate n 0).drop (digs L).length) = L := by
    rw [val_append, val_digs, List.drop_replicate, val_replicate]; simp
  have hz9 : (digs L ++ (List.replicate n 0).drop (digs L).length).length = n := by simp; omega
  have om9 := o8.keepB (q := q) (by omega) k9
  refine hc_intro (mtrim_spec (om9.rd (by omega)) (by omega)) fun v h10 ⟨e10, e11⟩ => ?_
  subst e10; subst e11
  refine gSlice_intro rfl ?_
  have rm := rd_trim (om9.rd (Nat.le_refl _))
  have hMt : trimL z8 = digs M := by rw [← evM, digs_val o8.words]
  rw [hMt] at rm ⊢
  refine hc_intro (addAt_spec (at_ := k) o9 rm rfl hz9.symm (Or.inr (off_of_ne (by omega))) (by rw [ev9, val_digs, hz9]; omega) (by rw [hz9]; exact fit_of (by omega) (by omega)) rfl rfl) fun v h11 ⟨e11, k11, z11, o11, hz11, ev11⟩ => ?_
  subst e11
  refine gTup_intro rfl (unnil_intro ?_)
  rw [ev9, val_digs] at ev11
  refine k_i64 ((2 * k : Nat) : Int) (by omega) (by omega) (by omega) ?_
  have oh11 := (oh8.keepB (q := q) (by omega) k9).keepB (q := q) (by omega) k11
  refine hc_intro (addAt_spec (at_ := 2 * k) o11 (oh11.rd (Nat.le_refl _)) rfl (by omega) (Or.inr (off_of_ne (by omega))) (by rw [ev11, val_digs, hz11, hz9]; omega) (by rw [hz11, hz9]; exact fit_of (by omega) (by omega)) rfl rfl) fun v h12 ⟨e12, k12, z12, o12, hz12, ev12⟩ => ?_
  subst e12
  refine gTup_intro rfl (unnil_intro ?_)
  refine ⟨rfl, k08.toB.trans (k9.trans (k11.trans k12)), z12, o12, by omega, ?_⟩
  rw [ev12, ev11, val_digs, hT]
theorem fill_ok (N : Nat) : FillOK N := by
  induction N using Nat.strongRecOn with
  | ind N ok =>
    have main : ∀ {a b : Option Addr} {c c1 c2 la lb n q : Nat} {xs ys : List Nat} {h : Hp}, xs.length + ys.length ≤ N → Mine h q (List.replicate n 0) → Rd h a c1 xs → Rd h b c2 ys → la = xs.length → lb = ys.length → (xs = [] ∨ Off q a) → (ys = [] ∨ Off q b) → n = xs.length + ys.length → ys.length ≤ xs.length →
        natmul_fill.D2.t (fun v h' => v = .tuple #[] ∧ KeepB q h h' ∧ ∃ zs, Mine h' q zs ∧ zs.length = n ∧ val zs = val xs * val ys) (some ⟨q, 0, none⟩) n c a la c1 b lb c2 h := by
      intro a b c c1 c2 la lb n q xs ys h hN o r s hla hlb ox oy hn hxy
      have hlen := o.len
      rw [List.length_replicate] at hlen
      unfold natmul_fill.D2.t
      refine c_dec (fun hs => ?_) fun hs => ?_
      · refine hc_intro (rows_spec o r s hla hlb ox oy hn) fun v h' ⟨e, k, hz⟩ => ?_
        subst e
        exact gTup_intro rfl (unnil_intro ⟨rfl, k, hz⟩)
      · have ox' : Off q a := by
          rcases ox with hh | hh
          · subst hh; have : ys.length ≤ 0 := hxy; omega
          · exact hh
        have oy' : Off q b := by
          rcases oy with hh | hh
          · subst hh; simp at hlb; omega
          · exact hh
        refine k_i64 ((2 * ys.length : Nat) : Int) (by omega) (by omega) (by omega) ?_
        refine c_dec (fun hb => ?_) fun hb => ?_
        · have hsl : HC natmul_slabs.id #[.slice (some ⟨q, 0, none⟩) n c, .slice a la c1, .slice b lb c2] h fun v h' => v = .tuple #[] ∧ KeepB q h h' ∧ ∃ zs, Mine h' q zs ∧ zs.length = n ∧ val zs = val xs * val ys := by
            refine natmul_slabs.ok ?_
            unfold natmul_slabs.t natmul_slabs.D1.t
            refine ⟨xs.length + 1, ?_⟩
            refine slabs_loop ok hN r s hla hlb ox' oy' hn (by omega) (by omega) o.lt (fun h' zs k o' hz e => ⟨rfl, k, zs, o', hz, e⟩) xs.length 0 _ h (by omega) (by omega) (by simp) o (KeepB.refl _ _) ?_
            rw [val_replicate]; simp [val]
          refine hc_intro hsl fun v h' ⟨e, k, hz⟩ => ?_
          subst e
          exact gTup_intro rfl (unnil_intro ⟨rfl, k, hz⟩)
        · refine hc_intro (thirds_of ok hN o r s hla hlb ox' oy' hn (by omega) hxy (by omega)) fun v h' ⟨e, k, hz⟩ => ?_
          subst e
          exact gTup_intro rfl (unnil_intro ⟨rfl, k, hz⟩)
    intro a b c c1 c2 la lb n q xs ys h hN o r s hla hlb ox oy hn
    refine natmul_fill.ok ?_
    unfold natmul_fill.t natmul_fill.D1.t
    refine c_dec (fun hb => ?_) fun hb => ?_
    · have := main (c := c) (by omega) o s r hlb hla oy ox (by omega) (by omega)
      rw [Nat.mul_comm (val ys)] at this; exact this
    · exact main hN o r s hla hlb ox oy hn (by omega)
theorem product_spec {a b : Option Addr} {c d l m : Nat} {xs ys : List Nat} {h : Hp} (r : Rd h a c xs) (s : Rd h b d ys) (hl : l = xs.length) (hm : m = ys.length) (hb : xs.length + ys.length ≤ 35184372088828) :
    HC natmul_product.id #[.slice a l c, .slice b m d] h fun v h' => Keep h h' ∧ Fresh h h' v (digs (val xs * val ys)) :=
  product_of (fill_ok _) (Nat.le_refl _) r s hl hm hb
/-- a * b; errors as the code gives them. -/
def mulS (xs ys : List Nat) : List Nat × Int := if Frm xs ∧ Frm ys then lim (val xs * val ys) else ([], 2)
theorem Mul_spec {a b : Option Addr} {c d l m : Nat} {xs ys : List Nat} {h : Hp} (r : Rd h a c xs) (s : Rd h b d ys) (hl : l = xs.length) (hm : m = ys.length) :
    HC natmul_Mul.id #[.slice a l c, .slice b m d] h fun v h' => Keep h h' ∧ Ans h h' v (mulS xs ys) := by
  refine natmul_Mul.ok ?_
  unfold natmul_Mul.t natmul_Mul.D1.t
  refine hc_intro (Form_spec r hl) fun v h' ⟨e1, e2⟩ => ?_
  subst e1; subst e2
  refine gBool_intro rfl ?_
  refine c_not (fun hf => ⟨Keep.refl _, ?_⟩) fun hf => ?_
  · unfold mulS; rw [if_neg (fun hh => of_decide_eq_false hf hh.1)]; exact Ans.none
  refine hc_intro (Form_spec s hm) fun v h' ⟨e1, e2⟩ => ?_
  subst e1; subst e2
  refine gBool_intro rfl ?_
  refine c_not (fun hf2 => ⟨Keep.refl _, ?_⟩) fun hf2 => ?_
  · unfold mulS; rw [if_neg (fun hh => of_decide_eq_false hf2 hh.2)]; exact Ans.none
  have f1 := of_decide_eq_true hf
  have f2 := of_decide_eq_true hf2
  have h1 := f1.1
  have h2 := f2.1
  unfold mulS; rw [if_pos ⟨f1, f2⟩]
  unfold natmul_Mul.D2.t
  refine hc_intro (product_spec r s hl hm (by omega)) fun v h3 ⟨k3, f⟩ => ?_
  refine f.elim fun b3 hb3 o3 => ?_
  have hc : HC natmul_told.id #[.slice (some ⟨b3, 0, none⟩) (digs (val xs * val ys)).length (digs (val xs * val ys)).length] h3 fun v h9 => h9 = h3 ∧ Ans h' h3 v (lim (val xs * val ys)) := by
    refine natmul_told.ok ?_
    unfold natmul_told.t natmul_told.D1.t
    refine c_dec (fun hb => ⟨rfl, ?_⟩) fun hb => ⟨rfl, ?_⟩
    · unfold lim; rw [if_neg (by omega)]; exact Ans.none
    · unfold lim; rw [if_pos (by omega)]; exact Ans.mk rfl rfl (o3.got hb3) (show In .i64 0 by decide)
  refine hc_intro hc fun v h4 ⟨e4, an⟩ => ?_
  subst e4
  refine an.elimG fun a5 c5 r5 i5 => ?_
  exact ⟨k3, Ans.back r5 i5⟩
end Go.Proofs.YtanlcacaihdceaaGreatDoor.G

/- Whole numbers as a sign and limbs, or a sign and a natural: plain law. -/
namespace Go.Proofs.YtanlcacaihdceaaGreatDoor.G
open Go.Gv
set_option linter.unusedVariables false
abbrev Zw := Bool × List Nat
abbrev Zd := Bool × Nat
def nz : Zw := (false, [])
def zi (x : Zw) : Int := if x.1 then -((val x.2 : Nat) : Int) else ((val x.2 : Nat) : Int)
def zz (i : Int) : Zw := (decide (i < 0), digs i.natAbs)
def dz (i : Int) : Zd := (decide (i < 0), i.natAbs)
def di (x : Zd) : Int := if x.1 then -((x.2 : Nat) : Int) else ((x.2 : Nat) : Int)
def FrmZ (x : Zw) : Prop := Frm x.2 ∧ ¬ (x.1 = true ∧ x.2 = [])
instance (x : Zw) : Decidable (FrmZ x) := by unfold FrmZ; infer_instance
def SmZ (i : Int) : Prop := (digs i.natAbs).length ≤ 8192
instance (i : Int) : Decidable (SmZ i) := by unfold SmZ; infer_instance
def zlim (i : Int) : Zw × Int := if SmZ i then (zz i, 0) else (nz, 5)
theorem zi_zz (i : Int) : zi (zz i) = i := by
  unfold zi zz
  simp only [val_digs]
  by_cases h : i < 0
  · simp only [h, decide_true, if_true]; omega
  · simp only [h, decide_false, Bool.false_eq_true, if_false]; omega
theorem di_dz (i : Int) : di (dz i) = i := by
  unfold di dz
  by_cases h : i < 0
  · simp only [h, decide_true, if_true]; omega
  · simp only [h, decide_false, Bool.false_eq_true, if_false]; omega
theorem digs_nil_iff (n : Nat) : digs n = [] ↔ n = 0 := by
  constructor
  · intro h; rw [← val_digs n, h]; rfl
  · intro h; subst h; exact digs_zero
theorem frm_zz {i : Int} (h : SmZ i) : FrmZ (zz i) := by
  refine ⟨⟨h, trimL_digs _⟩, ?_⟩
  rintro ⟨h1, h2⟩
  have h1 := of_decide_eq_true h1
  have h2 := (digs_nil_iff _).mp h2
  omega
/-- The number of a sign and a size: the sign goes where the size is nought. -/
def sg (b : Bool) (n : Nat) : Int := if b then -(n : Int) else (n : Int)
theorem sg_abs (b : Bool) (n : Nat) : (sg b n).natAbs = n := by unfold sg; cases b <;> simp
theorem sg_neg (b : Bool) (n : Nat) : decide (sg b n < 0) = (b && decide (n ≠ 0)) := by
  unfold sg
  cases b
  · simp
  · by_cases h : n = 0
    · subst h; simp
    · simp only [if_true, Bool.true_and, h, ne_eq, not_false_eq_true, decide_true, decide_eq_true_eq]; omega
theorem zz_sg (b : Bool) (n : Nat) : zz (sg b n) = ((b && decide (n ≠ 0)), digs n) := by unfold zz; rw [sg_abs, sg_neg]
theorem dz_sg (b : Bool) (n : Nat) : dz (sg b n) = ((b && decide (n ≠ 0)), n) := by unfold dz; rw [sg_abs, sg_neg]
theorem zi_sg (x : Zw) : zi x = sg x.1 (val x.2) := rfl
theorem zi_abs (x : Zw) : (zi x).natAbs = val x.2 := by rw [zi_sg, sg_abs]
theorem val_nil_iff {xs : List Nat} (f : Frm xs) : val xs = 0 ↔ xs = [] := by
  rw [← trimL_nil_iff, f.2]
theorem lim_big2 {n : Nat} (h : ¬ (digs n).length ≤ 8192) : lim n = ([], 5) := by unfold lim; rw [if_neg h]
theorem zlim_ok {i : Int} (h : SmZ i) : zlim i = (zz i, 0) := if_pos h
theorem zlim_no {i : Int} (h : ¬ SmZ i) : zlim i = (nz, 5) := if_neg h
/-! ### quotients -/
def flo (a b : Int) : Int := if b < 0 then (-a) / (-b) else a / b
def cei (a b : Int) : Int := -flo (-a) b
def mo (a b : Int) : Int := a - b * flo a b
/-- a / b to the nearest, of sizes. -/
def nearN (A B : Nat) : Nat := if B < 2 * (A % B) ∨ (2 * (A % B) = B ∧ A / B % 2 = 1) then A / B + 1 else A / B
def nea (a b : Int) : Int := sg (xor (decide (a < 0)) (decide (b < 0))) (nearN a.natAbs b.natAbs)
end Go.Proofs.YtanlcacaihdceaaGreatDoor.G

/- Whole numbers: what the calls answer, and the arithmetic of signs and sizes: plain law. -/
namespace Go.Proofs.YtanlcacaihdceaaGreatDoor.G
open Go.Gv
set_option linter.unusedVariables false
def negZ (x : Zw) : Zw × Int := if FrmZ x then zlim (-zi x) else (nz, 2)
def twoZ (f : Int → Int → Int) (x y : Zw) : Zw × Int := if FrmZ x ∧ FrmZ y then zlim (f (zi x) (zi y)) else (nz, 2)
def cmpZ (i j : Int) : Int := if i < j then -1 else if i = j then 0 else 1
def cmpS (x y : Zw) : Int × Int := if FrmZ x ∧ FrmZ y then (cmpZ (zi x) (zi y), 0) else (0, 2)
def smaS (x : Zw) : Int × Int := if FrmZ x then (if -9223372036854775808 ≤ zi x ∧ zi x < 9223372036854775808 then (zi x, 0) else (0, 5)) else (0, 2)
def addI (x y : Int) : Int := x + y
def subI (x y : Int) : Int := x - y
def mulI (x y : Int) : Int := x * y
/-- An answer: the sign goes where the list is empty; nothing, where there was an error. -/
def tellZ (b : Bool) (p : List Nat × Int) : Zw × Int := if p.2 ≠ 0 then (nz, p.2) else ((b && decide (0 < p.1.length), p.1), 0)
theorem len_pos_digs (n : Nat) : decide (0 < (digs n).length) = decide (n ≠ 0) := by
  by_cases h : n = 0
  · subst h; rw [digs_zero]; rfl
  · rw [digs_pos h]; simp [h]
theorem tell_lim (b : Bool) (n : Nat) : tellZ b (lim n) = zlim (sg b n) := by
  unfold tellZ
  by_cases h : (digs n).length ≤ 8192
  · have e : lim n = (digs n, 0) := by unfold lim; exact if_pos h
    rw [e, zlim_ok (by unfold SmZ; rw [sg_abs]; exact h), zz_sg]
    simp only [ne_eq, not_true_eq_false, if_false, len_pos_digs]
  · rw [lim_big2 h, zlim_no (by unfold SmZ; rw [sg_abs]; exact h)]
    rfl
theorem add_sg_same (b : Bool) (A B : Nat) : sg b A + sg b B = sg b (A + B) := by unfold sg; cases b <;> simp <;> omega
theorem add_sg_diff {p q : Bool} {A B : Nat} (h : p ≠ q) (hl : B ≤ A) : sg p A + sg q B = sg p (A - B) := by
  unfold sg; cases p <;> cases q <;> simp at h ⊢ <;> omega
theorem neg_sg (p : Bool) (A : Nat) : -sg p A = sg (!p) A := by unfold sg; cases p <;> simp
theorem mul_sg (p q : Bool) (A B : Nat) : sg p A * sg q B = sg (xor p q) (A * B) := by
  unfold sg; cases p <;> cases q <;> simp [Int.neg_mul, Int.mul_neg]
theorem sg_zero (p : Bool) : sg p 0 = 0 := by unfold sg; cases p <;> rfl
theorem sg_eq_zero {p : Bool} {A : Nat} : sg p A = 0 ↔ A = 0 := by unfold sg; cases p <;> simp
/-! ### bits of a size -/
end Go.Proofs.YtanlcacaihdceaaGreatDoor.G

/- Contracts that the lifted functions of layer 4 use. -/
namespace Go.Proofs.YtanlcacaihdceaaGreatDoor.G
open Go.Gv
set_option linter.unusedVariables false
set_option maxRecDepth 100000
theorem Tab.tame {h h' : Hp} (t : Tab h) (m : Tame h h') : Tab h' := fun i hi => m.cell _ _ rfl (t i hi)
section
variable {a b : Option Addr} {c d l m : Nat} {xs ys : List Nat} {h0 h : Hp} {x y : Int}
theorem natmul_Mul.hv (r : Rd h a c xs) (e : l = xs.length) (s : Rd h b d ys) (f : m = ys.length) : HC natmul_Mul.id #[.slice a l c, .slice b m d] h fun v h' => Keep h h' ∧ Ans h h' v (mulS xs ys) := Mul_spec r s e f
theorem num_whole.hv (p : Bool) (a : Option Addr) (l c : Nat) (h : Hp) : HC num_whole.id #[.bool p, .slice a l c] h fun v h' => Keep h h' ∧ v = .agg #[.bool (p && decide (0 < l)), .slice a l c] := by
  refine num_whole.ok ?_
  unfold num_whole.t num_whole.D1.t
  refine boxV fun h2 o2 k2 => ?_
  have el : decide (((l : Nat) : Int) > 0) = decide (0 < l) := by by_cases hl : 0 < l <;> simp [hl]
  refine c_bool (fun hp => ?_) fun hp => ?_
  · subst hp
    refine stA o2 (base_add _ _) rfl fun h3 o2 k3 m3 => ?_
    refine stA o2 (base_add _ _) rfl fun h4 o2 k4 m4 => ?_
    refine ldA o2 (base_add _ _) rfl ?_
    refine gBool_intro rfl ?_
    refine ldA o2 (base_add _ _) rfl ?_
    refine gSlice_intro rfl ?_
    exact ⟨KeepB.keep (KeepB.keep k2 k3 (Nat.le_refl _)) k4 (Nat.le_refl _), by rw [el]; rfl⟩
  · subst hp
    refine stA o2 (base_add _ _) rfl fun h3 o2 k3 m3 => ?_
    refine stA o2 (base_add _ _) rfl fun h4 o2 k4 m4 => ?_
    refine ldA o2 (base_add _ _) rfl ?_
    refine gBool_intro rfl ?_
    refine ldA o2 (base_add _ _) rfl ?_
    refine gSlice_intro rfl ?_
    exact ⟨KeepB.keep (KeepB.keep k2 k3 (Nat.le_refl _)) k4 (Nat.le_refl _), rfl⟩
theorem tellZ_no {p : Bool} (h : x ≠ 0) : tellZ p (xs, x) = (nz, x) := by unfold tellZ; rw [if_pos h]
theorem tellZ_ok (p : Bool) (xs : List Nat) : tellZ p (xs, 0) = ((p && decide (0 < xs.length), xs), 0) := by unfold tellZ; simp
theorem num_told.hf {p : Bool} (g : GotE eU64 h0 h a c xs) (e : l = xs.length) (i : In .i64 x) : HC num_told.id #[.bool p, .slice a l c, .int .i64 x] h fun v h' => Keep h h' ∧ s2 sZW (sI .i64) h0 h' v (tellZ p (xs, x)) := by
  subst e
  refine num_told.ok ?_
  unfold num_told.t num_told.D1.t
  refine boxV fun h2 o2 k2 => ?_
  refine c_ne (fun hx => ?_) fun hx => ?_
  · refine stA o2 (base_add _ _) rfl fun h3 o2 k3 m3 => ?_
    refine stA o2 (base_add _ _) rfl fun h4 o2 k4 m4 => ?_
    refine ldA o2 (base_add _ _) rfl ?_
    refine gBool_intro rfl ?_
    refine ldA o2 (base_add _ _) rfl ?_
    refine gSlice_intro rfl ?_
    rw [tellZ_no hx]
    exact ⟨KeepB.keep (KeepB.keep k2 k3 (Nat.le_refl _)) k4 (Nat.le_refl _), _, _, rfl, ⟨_, _, rfl, GotE.nil _ _⟩, rfl, i⟩
  · subst hx
    refine hc_intro (num_whole.hv p a xs.length c h2) fun v h3 ⟨k3, s⟩ => ?_
    subst s
    have o2 := o2.keep k3
    refine gAgg_intro rfl ?_
    refine uncons_intro ?_
    refine gBool_intro rfl ?_
    refine uncons_intro ?_
    refine gSlice_intro rfl ?_
    refine unnil_intro ?_
    refine stA o2 (base_add _ _) rfl fun h4 o2 k4 m4 => ?_
    refine stA o2 (base_add _ _) rfl fun h5 o2 k5 m5 => ?_
    refine ldA o2 (base_add _ _) rfl ?_
    refine gBool_intro rfl ?_
    refine ldA o2 (base_add _ _) rfl ?_
    refine gSlice_intro rfl ?_
    rw [tellZ_ok]
    exact ⟨KeepB.keep (KeepB.keep (k2.trans k3) k4 (Nat.le_refl _)) k5 (Nat.le_refl _), _, _, rfl, ⟨_, _, rfl, g.tame (k2.tame.trans (k3.tame.trans (m4.trans m5)))⟩, rfl, i⟩
end
end Go.Proofs.YtanlcacaihdceaaGreatDoor.G

/- Functions without loops as functions of values. Written by a program of this work. -/
namespace Go.Proofs.YtanlcacaihdceaaGreatDoor.G
open Go.Gv
set_option linter.unusedVariables false
set_option maxRecDepth 100000
namespace num_Of
def D1.v (x0 : Int) : (Bool × List Nat) :=
  bif (decide (x0 < (0 : Int))) then
    letV (digs (Int.toNat ((IntKind.u64.wrap (0 - (IntKind.u64.wrap x0)))))) fun p_3 =>
    ((true && decide (0 < p_3.length)), p_3)
  else
    letV (digs (Int.toNat (IntKind.u64.wrap x0))) fun p_4 =>
    ((false && decide (0 < p_4.length)), p_4)
theorem D1.hv {R : Rt} {h0 h : Hp} (k0 : Keep h0 h) {x0 : Int} (i0 : In .i64 x0) (g : Post sZW h0 R (D1.v x0)) : D1.t R x0 h := by
  have kh := Keep.refl h
  unfold D1.v at g
  unfold D1.t
  refine boxV fun h_1 bx_1 k_1 => ?_
  have o_1 : h0.size ≤ h.size := k0.le
  have oh_1 : h.size ≤ h.size := kh.le
  have lt_1 := bx_1.lt
  have m_1 := k_1.tame
  have k0 := k0.trans k_1
  have kh := kh.trans k_1
  refine lift_dec g (fun q_2 g => ?_) (fun q_2 g => ?_)
  · refine letK_out ?_
    refine letK_out ?_
    refine hc_intro (nat_Word.hv (in_wrap _ _)) fun v h_2 ⟨k_2, s⟩ => ?_
    obtain ⟨p_3, hp_3⟩ : ∃ p, p = digs (Int.toNat ((IntKind.u64.wrap (0 - (IntKind.u64.wrap x0))))) := ⟨_, rfl⟩
    rw [← hp_3] at s
    replace g := lift_let2 hp_3 g
    obtain ⟨a_3, c_3, rfl, r_3⟩ := s
    refine gSlice_intro rfl (?_)
    have r_3 := r_3.from k0.le
    have m_2 := k_2.tame
    have bx_1 := bx_1.keep k_2
    have k0 := k0.trans k_2
    have kh := kh.trans k_2
    refine hc_intro (num_whole.hv _ _ _ _ _) fun v h_3 ⟨k_3, s⟩ => ?_
    subst s
    refine gAgg_intro rfl (uncons_intro (gBool_intro rfl (uncons_intro (gSlice_intro rfl (unnil_intro (?_))))))
    have m_3 := k_3.tame
    have bx_1 := bx_1.keep k_3
    have k0 := k0.trans k_3
    have kh := kh.trans k_3
    refine stA bx_1 (base_add _ _) rfl fun h_4 bx_1 k_4 m_4 => ?_
    have k0 := KeepB.keep k0 k_4 o_1
    have kh := KeepB.keep kh k_4 oh_1
    refine stA bx_1 (base_add _ _) rfl fun h_5 bx_1 k_5 m_5 => ?_
    have k0 := KeepB.keep k0 k_5 o_1
    have kh := KeepB.keep kh k_5 oh_1
    refine ldA bx_1 (base_add _ _) rfl ?_
    refine gBool_intro rfl ?_
    refine ldA bx_1 (base_add _ _) rfl ?_
    refine gSlice_intro rfl ?_
    exact g _ _ k0 ⟨_, _, rfl, (r_3.tame (m_3.trans (m_4.trans m_5)))⟩
  · refine letK_out ?_
    refine hc_intro (nat_Word.hv (in_wrap _ _)) fun v h_2 ⟨k_2, s⟩ => ?_
    obtain ⟨p_4, hp_4⟩ : ∃ p, p = digs (Int.toNat (IntKind.u64.wrap x0)) := ⟨_, rfl⟩
    rw [← hp_4] at s
    replace g := lift_let2 hp_4 g
    obtain ⟨a_4, c_4, rfl, r_4⟩ := s
    refine gSlice_intro rfl (?_)
    have r_4 := r_4.from k0.le
    have m_2 := k_2.tame
    have bx_1 := bx_1.keep k_2
    have k0 := k0.trans k_2
    have kh := kh.trans k_2
    refine hc_intro (num_whole.hv _ _ _ _ _) fun v h_3 ⟨k_3, s⟩ => ?_
    subst s
    refine gAgg_intro rfl (uncons_intro (gBool_intro rfl (uncons_intro (gSlice_intro rfl (unnil_intro (?_))))))
    have m_3 := k_3.tame
    have bx_1 := bx_1.keep k_3
    have k0 := k0.trans k_3
    have kh := kh.trans k_3
    refine stA bx_1 (base_add _ _) rfl fun h_4 bx_1 k_4 m_4 => ?_
    have k0 := KeepB.keep k0 k_4 o_1
    have kh := KeepB.keep kh k_4 oh_1
    refine stA bx_1 (base_add _ _) rfl fun h_5 bx_1 k_5 m_5 => ?_
    have k0 := KeepB.keep k0 k_5 o_1
    have kh := KeepB.keep kh k_5 oh_1
    refine ldA bx_1 (base_add _ _) rfl ?_
    refine gBool_intro rfl ?_
    refine ldA bx_1 (base_add _ _) rfl ?_
    refine gSlice_intro rfl ?_
    exact g _ _ k0 ⟨_, _, rfl, (r_4.tame (m_3.trans (m_4.trans m_5)))⟩
def v (x0 : Int) : (Bool × List Nat) := D1.v x0
theorem hv {h : Hp} {x0 : Int} (i0 : In .i64 x0) : HC id #[.int .i64 x0] h fun v_ h_ => Keep h h_ ∧ sZW h h_ v_ (v x0) :=
  ok (D1.hv (Keep.refl _) i0 fun v h' k s => ⟨k, s⟩)
end num_Of

namespace num_Form
def D1.v (b0_0 : Bool) (xs0_1 : List Nat) : Bool :=
  bif (decide (Frm xs0_1)) then
    bif b0_0 then
      (!((((xs0_1.length : Nat) : Int)) == (0 : Int)))
    else
      (!false)
  else
    false
theorem D1.hv {R : Rt} {h0 h : Hp} (k0 : Keep h0 h) {b0_0 : Bool} {a0_1 : Option Addr} {c0_1 l0_1 : Nat} {xs0_1 : List Nat} (r0_1 : Rd h a0_1 c0_1 xs0_1) (e0_1 : l0_1 = xs0_1.length) (g : Post sBool h0 R (D1.v b0_0 xs0_1)) : D1.t R b0_0 a0_1 l0_1 c0_1 h := by
  subst e0_1
  have kh := Keep.refl h
  unfold D1.v at g
  unfold D1.t
  refine boxV fun h_1 bx_1 k_1 => ?_
  have o_1 : h0.size ≤ h.size := k0.le
  have oh_1 : h.size ≤ h.size := kh.le
  have lt_1 := bx_1.lt
  have m_1 := k_1.tame
  have k0 := k0.trans k_1
  have kh := kh.trans k_1
  refine ldA bx_1 (base_add _ _) rfl ?_
  refine gSlice_intro rfl ?_
  refine hc_intro (nat_Form.hv (r0_1.tame (m_1)) rfl) fun v h_2 ⟨k_2, s⟩ => ?_
  obtain rfl := s
  refine gBool_intro rfl (?_)
  have m_2 := k_2.tame
  have bx_1 := bx_1.keep k_2
  have k0 := k0.trans k_2
  have kh := kh.trans k_2
  refine lift_dec g (fun q_3 g => ?_) (fun q_3 g => ?_)
  · refine ldA bx_1 (base_add _ _) rfl ?_
    refine gBool_intro rfl ?_
    refine lift_bool g (fun q_4 g => ?_) (fun q_4 g => ?_)
    · refine ldA bx_1 (base_add _ _) rfl ?_
      refine gSlice_intro rfl ?_
      exact g _ _ k0 rfl
    · exact g _ _ k0 rfl
  · exact g _ _ k0 rfl
def v (b0_0 : Bool) (xs0_1 : List Nat) : Bool := D1.v b0_0 xs0_1
theorem hv {h : Hp} {b0_0 : Bool} {a0_1 : Option Addr} {c0_1 l0_1 : Nat} {xs0_1 : List Nat} (r0_1 : Rd h a0_1 c0_1 xs0_1) (e0_1 : l0_1 = xs0_1.length) : HC id #[.agg #[.bool b0_0, .slice a0_1 l0_1 c0_1]] h fun v_ h_ => Keep h h_ ∧ sBool h h_ v_ (v b0_0 xs0_1) :=
  ok (D1.hv (Keep.refl _) r0_1 e0_1 fun v h' k s => ⟨k, s⟩)
end num_Form

namespace num_Sign
def D1.v (b0_0 : Bool) (xs0_1 : List Nat) : Int :=
  bif (((((blen (val xs0_1) : Nat) : Int))) == (0 : Int)) then
    (0 : Int)
  else
    bif b0_0 then
      (-1 : Int)
    else
      (1 : Int)
theorem D1.hv {R : Rt} {h0 h : Hp} (k0 : Keep h0 h) {b0_0 : Bool} {a0_1 : Option Addr} {c0_1 l0_1 : Nat} {xs0_1 : List Nat} (r0_1 : Rd h a0_1 c0_1 xs0_1) (e0_1 : l0_1 = xs0_1.length) (g : Post (sI .i64) h0 R (D1.v b0_0 xs0_1)) : D1.t R b0_0 a0_1 l0_1 c0_1 h := by
  subst e0_1
  have kh := Keep.refl h
  unfold D1.v at g
  unfold D1.t
  refine boxV fun h_1 bx_1 k_1 => ?_
  have o_1 : h0.size ≤ h.size := k0.le
  have oh_1 : h.size ≤ h.size := kh.le
  have lt_1 := bx_1.lt
  have m_1 := k_1.tame
  have k0 := k0.trans k_1
  have kh := kh.trans k_1
  refine ldA bx_1 (base_add _ _) rfl ?_
  refine gSlice_intro rfl ?_
  refine hc_intro (nat_Bits.hv (r0_1.tame (m_1)) rfl) fun v h_2 ⟨k_2, s⟩ => ?_
  obtain ⟨rfl, i_2⟩ := s
  refine gInt_intro rfl (?_)
  have m_2 := k_2.tame
  have bx_1 := bx_1.keep k_2
  have k0 := k0.trans k_2
  have kh := kh.trans k_2
  refine lift_eq g (fun q_3 g => ?_) (fun q_3 g => ?_)
  · exact g _ _ k0 ⟨rfl, (show In .i64 (0 : Int) by decide)⟩
  · refine ldA bx_1 (base_add _ _) rfl ?_
    refine gBool_intro rfl ?_
    refine lift_bool g (fun q_4 g => ?_) (fun q_4 g => ?_)
    · exact g _ _ k0 ⟨rfl, (show In .i64 (-1 : Int) by decide)⟩
    · exact g _ _ k0 ⟨rfl, (show In .i64 (1 : Int) by decide)⟩
def v (b0_0 : Bool) (xs0_1 : List Nat) : Int := D1.v b0_0 xs0_1
theorem hv {h : Hp} {b0_0 : Bool} {a0_1 : Option Addr} {c0_1 l0_1 : Nat} {xs0_1 : List Nat} (r0_1 : Rd h a0_1 c0_1 xs0_1) (e0_1 : l0_1 = xs0_1.length) : HC id #[.agg #[.bool b0_0, .slice a0_1 l0_1 c0_1]] h fun v_ h_ => Keep h h_ ∧ (sI .i64) h h_ v_ (v b0_0 xs0_1) :=
  ok (D1.hv (Keep.refl _) r0_1 e0_1 fun v h' k s => ⟨k, s⟩)
end num_Sign

namespace num_Small
def D2.v (b1_0 : Bool) (xs1_1 : List Nat) (x4 : Int) : (Int × Int) :=
  bif b1_0 then
    ((IntKind.i64.wrap ((IntKind.u64.wrap (0 - x4)))), (0 : Int))
  else
    ((IntKind.i64.wrap x4), (0 : Int))
theorem D2.hv {R : Rt} {h0 h : Hp} (k0 : Keep h0 h) {b1_0 : Bool} {a1_1 : Option Addr} {c1_1 : Nat} {xs1_1 : List Nat} (r1_1 : Rd h a1_1 c1_1 xs1_1) {B1 : Nat} (bx1 : BlkV h B1 [.bool b1_0, .slice a1_1 xs1_1.length c1_1]) (o1 : h0.size ≤ B1) {x4 : Int} (i4 : In .u64 x4) (g : Post (s2 (sI .i64) (sI .i64)) h0 R (D2.v b1_0 xs1_1 x4)) : D2.t R (⟨B1, 0, none⟩ : Addr) x4 h := by
  have kh := Keep.refl h
  have lt1 := bx1.lt
  unfold D2.v at g
  unfold D2.t
  refine ldA bx1 (base_add _ _) rfl ?_
  refine gBool_intro rfl ?_
  refine lift_bool g (fun q_9 g => ?_) (fun q_9 g => ?_)
  · refine letK_out ?_
    refine letK_out ?_
    exact g _ _ k0 ⟨_, _, rfl, ⟨rfl, (in_wrap _ _)⟩, ⟨rfl, (show In .i64 (0 : Int) by decide)⟩⟩
  · refine letK_out ?_
    exact g _ _ k0 ⟨_, _, rfl, ⟨rfl, (in_wrap _ _)⟩, ⟨rfl, (show In .i64 (0 : Int) by decide)⟩⟩
def D1.v (b0_0 : Bool) (xs0_1 : List Nat) : (Int × Int) :=
  letV (num_Form.v b0_0 xs0_1) fun p_2 =>
  bif (!p_2) then
    ((0 : Int), (2 : Int))
  else
    bif ((((xs0_1.length : Nat) : Int)) == (0 : Int)) then
      ((0 : Int), (0 : Int))
    else
      bif (decide ((((xs0_1.length : Nat) : Int)) > (1 : Int))) then
        ((0 : Int), (5 : Int))
      else
        bif (decide ((((xs0_1.getD 0 0 : Nat) : Int)) > (9223372036854775808 : Int))) then
          ((0 : Int), (5 : Int))
        else
          bif ((((xs0_1.getD 0 0 : Nat) : Int)) == (9223372036854775808 : Int)) then
            bif (!b0_0) then
              ((0 : Int), (5 : Int))
            else
              D2.v b0_0 xs0_1 (((xs0_1.getD 0 0 : Nat) : Int))
          else
            D2.v b0_0 xs0_1 (((xs0_1.getD 0 0 : Nat) : Int))
theorem D1.hv {R : Rt} {h0 h : Hp} (k0 : Keep h0 h) {b0_0 : Bool} {a0_1 : Option Addr} {c0_1 l0_1 : Nat} {xs0_1 : List Nat} (r0_1 : Rd h a0_1 c0_1 xs0_1) (e0_1 : l0_1 = xs0_1.length) (g : Post (s2 (sI .i64) (sI .i64)) h0 R (D1.v b0_0 xs0_1)) : D1.t R b0_0 a0_1 l0_1 c0_1 h := by
  subst e0_1
  have kh := Keep.refl h
  unfold D1.v at g
  unfold D1.t
  refine boxV fun h_1 bx_1 k_1 => ?_
  have o_1 : h0.size ≤ h.size := k0.le
  have oh_1 : h.size ≤ h.size := kh.le
  have lt_1 := bx_1.lt
  have m_1 := k_1.tame
  have k0 := k0.trans k_1
  have kh := kh.trans k_1
  refine ldA bx_1 (base_add _ _) rfl ?_
  refine gBool_intro rfl ?_
  refine ldA bx_1 (base_add _ _) rfl ?_
  refine gSlice_intro rfl ?_
  refine hc_intro (num_Form.hv (r0_1.tame (m_1)) rfl) fun v h_2 ⟨k_2, s⟩ => ?_
  obtain ⟨p_2, hp_2⟩ : ∃ p, p = num_Form.v b0_0 xs0_1 := ⟨_, rfl⟩
  rw [← hp_2] at s
  replace g := lift_let2 hp_2 g
  obtain rfl := s
  refine gBool_intro rfl (?_)
  have m_2 := k_2.tame
  have bx_1 := bx_1.keep k_2
  have k0 := k0.trans k_2
  have kh := kh.trans k_2
  refine lift_not g (fun q_3 g => ?_) (fun q_3 g => ?_)
  · exact g _ _ k0 ⟨_, _, rfl, ⟨rfl, (show In .i64 (0 : Int) by decide)⟩, ⟨rfl, (show In .i64 (2 : Int) by decide)⟩⟩
  · refine ldA bx_1 (base_add _ _) rfl ?_
    refine gSlice_intro rfl ?_
    refine lift_eq g (fun q_4 g => ?_) (fun q_4 g => ?_)
    · exact g _ _ k0 ⟨_, _, rfl, ⟨rfl, (show In .i64 (0 : Int) by decide)⟩, ⟨rfl, (show In .i64 (0 : Int) by decide)⟩⟩
    · refine ldA bx_1 (base_add _ _) rfl ?_
      refine gSlice_intro rfl ?_
      refine at64 ((r0_1.tame (m_1.trans m_2))).toE (j := 0) (by first | assumption | decide | omega) rfl (by first | assumption | decide | omega) ?_
      refine ldA bx_1 (base_add _ _) rfl ?_
      refine gSlice_intro rfl ?_
      refine lift_dec g (fun q_5 g => ?_) (fun q_5 g => ?_)
      · exact g _ _ k0 ⟨_, _, rfl, ⟨rfl, (show In .i64 (0 : Int) by decide)⟩, ⟨rfl, (show In .i64 (5 : Int) by decide)⟩⟩
      · refine lift_dec g (fun q_6 g => ?_) (fun q_6 g => ?_)
        · exact g _ _ k0 ⟨_, _, rfl, ⟨rfl, (show In .i64 (0 : Int) by decide)⟩, ⟨rfl, (show In .i64 (5 : Int) by decide)⟩⟩
        · refine lift_eq g (fun q_7 g => ?_) (fun q_7 g => ?_)
          · refine ldA bx_1 (base_add _ _) rfl ?_
            refine gBool_intro rfl ?_
            refine lift_not g (fun q_8 g => ?_) (fun q_8 g => ?_)
            · exact g _ _ k0 ⟨_, _, rfl, ⟨rfl, (show In .i64 (0 : Int) by decide)⟩, ⟨rfl, (show In .i64 (5 : Int) by decide)⟩⟩
            · exact D2.hv k0 (r0_1.tame (m_1.trans m_2)) bx_1 o_1 (in_at64 ((r0_1.tame (m_1.trans m_2))).toE _) g
          · exact D2.hv k0 (r0_1.tame (m_1.trans m_2)) bx_1 o_1 (in_at64 ((r0_1.tame (m_1.trans m_2))).toE _) g
def v (b0_0 : Bool) (xs0_1 : List Nat) : (Int × Int) := D1.v b0_0 xs0_1
theorem hv {h : Hp} {b0_0 : Bool} {a0_1 : Option Addr} {c0_1 l0_1 : Nat} {xs0_1 : List Nat} (r0_1 : Rd h a0_1 c0_1 xs0_1) (e0_1 : l0_1 = xs0_1.length) : HC id #[.agg #[.bool b0_0, .slice a0_1 l0_1 c0_1]] h fun v_ h_ => Keep h h_ ∧ (s2 (sI .i64) (sI .i64)) h h_ v_ (v b0_0 xs0_1) :=
  ok (D1.hv (Keep.refl _) r0_1 e0_1 fun v h' k s => ⟨k, s⟩)
end num_Small

namespace num_Cmp
def D3.v (b2_0 : Bool) (xs2_1 : List Nat) (b3_0 : Bool) (xs3_1 : List Nat) : (Int × Int) :=
  ((cmpI (val xs2_1) (val xs3_1)), (0 : Int))
theorem D3.hv {R : Rt} {h0 h : Hp} (k0 : Keep h0 h) {b2_0 : Bool} {a2_1 : Option Addr} {c2_1 : Nat} {xs2_1 : List Nat} (r2_1 : Rd h a2_1 c2_1 xs2_1) {B2 : Nat} (bx2 : BlkV h B2 [.bool b2_0, .slice a2_1 xs2_1.length c2_1]) (o2 : h0.size ≤ B2) {b3_0 : Bool} {a3_1 : Option Addr} {c3_1 : Nat} {xs3_1 : List Nat} (r3_1 : Rd h a3_1 c3_1 xs3_1) {B3 : Nat} (bx3 : BlkV h B3 [.bool b3_0, .slice a3_1 xs3_1.length c3_1]) (o3 : h0.size ≤ B3) (d2q3 : B2 ≠ B3) (g : Post (s2 (sI .i64) (sI .i64)) h0 R (D3.v b2_0 xs2_1 b3_0 xs3_1)) : D3.t R (⟨B2, 0, none⟩ : Addr) (⟨B3, 0, none⟩ : Addr) h := by
  have kh := Keep.refl h
  have lt2 := bx2.lt
  have lt3 := bx3.lt
  unfold D3.v at g
  unfold D3.t
  refine ldA bx2 (base_add _ _) rfl ?_
  refine gSlice_intro rfl ?_
  refine ldA bx3 (base_add _ _) rfl ?_
  refine gSlice_intro rfl ?_
  refine hc_intro (nat_Cmp.hv r2_1 rfl r3_1 rfl) fun v h_1 ⟨k_1, s⟩ => ?_
  obtain ⟨rfl, i_13⟩ := s
  refine gInt_intro rfl (?_)
  have m_1 := k_1.tame
  have bx2 := bx2.keep k_1
  have bx3 := bx3.keep k_1
  have k0 := k0.trans k_1
  have kh := kh.trans k_1
  exact g _ _ k0 ⟨_, _, rfl, ⟨rfl, i_13⟩, ⟨rfl, (show In .i64 (0 : Int) by decide)⟩⟩
def D2.v (b2_0 : Bool) (xs2_1 : List Nat) (b3_0 : Bool) (xs3_1 : List Nat) : (Int × Int) :=
  bif b2_0 then
    bif (!b3_0) then
      ((-1 : Int), (0 : Int))
    else
      bif (!b2_0) then
        bif b3_0 then
          ((1 : Int), (0 : Int))
        else
          bif b2_0 then
            ((cmpI (val xs3_1) (val xs2_1)), (0 : Int))
          else
            D3.v b2_0 xs2_1 b3_0 xs3_1
      else
        bif b2_0 then
          ((cmpI (val xs3_1) (val xs2_1)), (0 : Int))
        else
          D3.v b2_0 xs2_1 b3_0 xs3_1
  else
    bif (!b2_0) then
      bif b3_0 then
        ((1 : Int), (0 : Int))
      else
        bif b2_0 then
          ((cmpI (val xs3_1) (val xs2_1)), (0 : Int))
        else
          D3.v b2_0 xs2_1 b3_0 xs3_1
    else
      bif b2_0 then
        ((cmpI (val xs3_1) (val xs2_1)), (0 : Int))
      else
        D3.v b2_0 xs2_1 b3_0 xs3_1
theorem D2.hv {R : Rt} {h0 h : Hp} (k0 : Keep h0 h) {b2_0 : Bool} {a2_1 : Option Addr} {c2_1 : Nat} {xs2_1 : List Nat} (r2_1 : Rd h a2_1 c2_1 xs2_1) {B2 : Nat} (bx2 : BlkV h B2 [.bool b2_0, .slice a2_1 xs2_1.length c2_1]) (o2 : h0.size ≤ B2) {b3_0 : Bool} {a3_1 : Option Addr} {c3_1 : Nat} {xs3_1 : List Nat} (r3_1 : Rd h a3_1 c3_1 xs3_1) {B3 : Nat} (bx3 : BlkV h B3 [.bool b3_0, .slice a3_1 xs3_1.length c3_1]) (o3 : h0.size ≤ B3) (d2q3 : B2 ≠ B3) (g : Post (s2 (sI .i64) (sI .i64)) h0 R (D2.v b2_0 xs2_1 b3_0 xs3_1)) : D2.t R (⟨B2, 0, none⟩ : Addr) (⟨B3, 0, none⟩ : Addr) h := by
  have kh := Keep.refl h
  have lt2 := bx2.lt
  have lt3 := bx3.lt
  unfold D2.v at g
  unfold D2.t
  refine ldA bx2 (base_add _ _) rfl ?_
  refine gBool_intro rfl ?_
  refine lift_bool g (fun q_7 g => ?_) (fun q_7 g => ?_)
  · refine ldA bx3 (base_add _ _) rfl ?_
    refine gBool_intro rfl ?_
    refine lift_not g (fun q_8 g => ?_) (fun q_8 g => ?_)
    · exact g _ _ k0 ⟨_, _, rfl, ⟨rfl, (show In .i64 (-1 : Int) by decide)⟩, ⟨rfl, (show In .i64 (0 : Int) by decide)⟩⟩
    · refine ldA bx2 (base_add _ _) rfl ?_
      refine gBool_intro rfl ?_
      refine lift_not g (fun q_9 g => ?_) (fun q_9 g => ?_)
      · refine ldA bx3 (base_add _ _) rfl ?_
        refine gBool_intro rfl ?_
        refine lift_bool g (fun q_10 g => ?_) (fun q_10 g => ?_)
        · exact g _ _ k0 ⟨_, _, rfl, ⟨rfl, (show In .i64 (1 : Int) by decide)⟩, ⟨rfl, (show In .i64 (0 : Int) by decide)⟩⟩
        · refine ldA bx2 (base_add _ _) rfl ?_
          refine gBool_intro rfl ?_
          refine lift_bool g (fun q_11 g => ?_) (fun q_11 g => ?_)
          · refine ldA bx3 (base_add _ _) rfl ?_
            refine gSlice_intro rfl ?_
            refine ldA bx2 (base_add _ _) rfl ?_
            refine gSlice_intro rfl ?_
            refine hc_intro (nat_Cmp.hv r3_1 rfl r2_1 rfl) fun v h_1 ⟨k_1, s⟩ => ?_
            obtain ⟨rfl, i_12⟩ := s
            refine gInt_intro rfl (?_)
            have m_1 := k_1.tame
            have bx2 := bx2.keep k_1
            have bx3 := bx3.keep k_1
            have k0 := k0.trans k_1
            have kh := kh.trans k_1
            exact g _ _ k0 ⟨_, _, rfl, ⟨rfl, i_12⟩, ⟨rfl, (show In .i64 (0 : Int) by decide)⟩⟩
          · exact D3.hv k0 r2_1 bx2 o2 r3_1 bx3 o3 d2q3 g
      · refine ldA bx2 (base_add _ _) rfl ?_
        refine gBool_intro rfl ?_
        refine lift_bool g (fun q_14 g => ?_) (fun q_14 g => ?_)
        · refine ldA bx3 (base_add _ _) rfl ?_
          refine gSlice_intro rfl ?_
          refine ldA bx2 (base_add _ _) rfl ?_
          refine gSlice_intro rfl ?_
          refine hc_intro (nat_Cmp.hv r3_1 rfl r2_1 rfl) fun v h_1 ⟨k_1, s⟩ => ?_
          obtain ⟨rfl, i_15⟩ := s
          refine gInt_intro rfl (?_)
          have m_1 := k_1.tame
          have bx2 := bx2.keep k_1
          have bx3 := bx3.keep k_1
          have k0 := k0.trans k_1
          have kh := kh.trans k_1
          exact g _ _ k0 ⟨_, _, rfl, ⟨rfl, i_15⟩, ⟨rfl, (show In .i64 (0 : Int) by decide)⟩⟩
        · exact D3.hv k0 r2_1 bx2 o2 r3_1 bx3 o3 d2q3 g
  · refine ldA bx2 (base_add _ _) rfl ?_
    refine gBool_intro rfl ?_
    refine lift_not g (fun q_16 g => ?_) (fun q_16 g => ?_)
    · refine ldA bx3 (base_add _ _) rfl ?_
      refine gBool_intro rfl ?_
      refine lift_bool g (fun q_17 g => ?_) (fun q_17 g => ?_)
      · exact g _ _ k0 ⟨_, _, rfl, ⟨rfl, (show In .i64 (1 : Int) by decide)⟩, ⟨rfl, (show In .i64 (0 : Int) by decide)⟩⟩
      · refine ldA bx2 (base_add _ _) rfl ?_
        refine gBool_intro rfl ?_
        refine lift_bool g (fun q_18 g => ?_) (fun q_18 g => ?_)
        · refine ldA bx3 (base_add _ _) rfl ?_
          refine gSlice_intro rfl ?_
          refine ldA bx2 (base_add _ _) rfl ?_
          refine gSlice_intro rfl ?_
          refine hc_intro (nat_Cmp.hv r3_1 rfl r2_1 rfl) fun v h_1 ⟨k_1, s⟩ => ?_
          obtain ⟨rfl, i_19⟩ := s
          refine gInt_intro rfl (?_)
          have m_1 := k_1.tame
          have bx2 := bx2.keep k_1
          have bx3 := bx3.keep k_1
          have k0 := k0.trans k_1
          have kh := kh.trans k_1
          exact g _ _ k0 ⟨_, _, rfl, ⟨rfl, i_19⟩, ⟨rfl, (show In .i64 (0 : Int) by decide)⟩⟩
        · exact D3.hv k0 r2_1 bx2 o2 r3_1 bx3 o3 d2q3 g
    · refine ldA bx2 (base_add _ _) rfl ?_
      refine gBool_intro rfl ?_
      refine lift_bool g (fun q_20 g => ?_) (fun q_20 g => ?_)
      · refine ldA bx3 (base_add _ _) rfl ?_
        refine gSlice_intro rfl ?_
        refine ldA bx2 (base_add _ _) rfl ?_
        refine gSlice_intro rfl ?_
        refine hc_intro (nat_Cmp.hv r3_1 rfl r2_1 rfl) fun v h_1 ⟨k_1, s⟩ => ?_
        obtain ⟨rfl, i_21⟩ := s
        refine gInt_intro rfl (?_)
        have m_1 := k_1.tame
        have bx2 := bx2.keep k_1
        have bx3 := bx3.keep k_1
        have k0 := k0.trans k_1
        have kh := kh.trans k_1
        exact g _ _ k0 ⟨_, _, rfl, ⟨rfl, i_21⟩, ⟨rfl, (show In .i64 (0 : Int) by decide)⟩⟩
      · exact D3.hv k0 r2_1 bx2 o2 r3_1 bx3 o3 d2q3 g
def D1.v (b0_0 : Bool) (xs0_1 : List Nat) (b1_0 : Bool) (xs1_1 : List Nat) : (Int × Int) :=
  letV (num_Form.v b0_0 xs0_1) fun p_3 =>
  bif (!p_3) then
    ((0 : Int), (2 : Int))
  else
    letV (num_Form.v b1_0 xs1_1) fun p_5 =>
    bif (!p_5) then
      ((0 : Int), (2 : Int))
    else
      D2.v b0_0 xs0_1 b1_0 xs1_1
theorem D1.hv {R : Rt} {h0 h : Hp} (k0 : Keep h0 h) {b0_0 : Bool} {a0_1 : Option Addr} {c0_1 l0_1 : Nat} {xs0_1 : List Nat} (r0_1 : Rd h a0_1 c0_1 xs0_1) (e0_1 : l0_1 = xs0_1.length) {b1_0 : Bool} {a1_1 : Option Addr} {c1_1 l1_1 : Nat} {xs1_1 : List Nat} (r1_1 : Rd h a1_1 c1_1 xs1_1) (e1_1 : l1_1 = xs1_1.length) (g : Post (s2 (sI .i64) (sI .i64)) h0 R (D1.v b0_0 xs0_1 b1_0 xs1_1)) : D1.t R b0_0 a0_1 l0_1 c0_1 b1_0 a1_1 l1_1 c1_1 h := by
  subst e0_1 e1_1
  have kh := Keep.refl h
  unfold D1.v at g
  unfold D1.t
  refine boxV fun h_1 bx_1 k_1 => ?_
  have o_1 : h0.size ≤ h.size := k0.le
  have oh_1 : h.size ≤ h.size := kh.le
  have lt_1 := bx_1.lt
  have m_1 := k_1.tame
  have k0 := k0.trans k_1
  have kh := kh.trans k_1
  refine boxV fun h_2 bx_2 k_2 => ?_
  have d_1q_2 : h.size ≠ h_1.size := Nat.ne_of_lt bx_1.lt
  have o_2 : h0.size ≤ h_1.size := k0.le
  have oh_2 : h.size ≤ h_1.size := kh.le
  have lt_2 := bx_2.lt
  have m_2 := k_2.tame
  have bx_1 := bx_1.keep k_2
  have k0 := k0.trans k_2
  have kh := kh.trans k_2
  refine ldA bx_1 (base_add _ _) rfl ?_
  refine gBool_intro rfl ?_
  refine ldA bx_1 (base_add _ _) rfl ?_
  refine gSlice_intro rfl ?_
  refine hc_intro (num_Form.hv (r0_1.tame (m_1.trans m_2)) rfl) fun v h_3 ⟨k_3, s⟩ => ?_
  obtain ⟨p_3, hp_3⟩ : ∃ p, p = num_Form.v b0_0 xs0_1 := ⟨_, rfl⟩
  rw [← hp_3] at s
  replace g := lift_let2 hp_3 g
  obtain rfl := s
  refine gBool_intro rfl (?_)
  have m_3 := k_3.tame
  have bx_1 := bx_1.keep k_3
  have bx_2 := bx_2.keep k_3
  have k0 := k0.trans k_3
  have kh := kh.trans k_3
  refine lift_not g (fun q_4 g => ?_) (fun q_4 g => ?_)
  · exact g _ _ k0 ⟨_, _, rfl, ⟨rfl, (show In .i64 (0 : Int) by decide)⟩, ⟨rfl, (show In .i64 (2 : Int) by decide)⟩⟩
  · refine ldA bx_2 (base_add _ _) rfl ?_
    refine gBool_intro rfl ?_
    refine ldA bx_2 (base_add _ _) rfl ?_
    refine gSlice_intro rfl ?_
    refine hc_intro (num_Form.hv (r1_1.tame (m_1.trans (m_2.trans m_3))) rfl) fun v h_4 ⟨k_4, s⟩ => ?_
    obtain ⟨p_5, hp_5⟩ : ∃ p, p = num_Form.v b1_0 xs1_1 := ⟨_, rfl⟩
    rw [← hp_5] at s
    replace g := lift_let2 hp_5 g
    obtain rfl := s
    refine gBool_intro rfl (?_)
    have m_4 := k_4.tame
    have bx_1 := bx_1.keep k_4
    have bx_2 := bx_2.keep k_4
    have k0 := k0.trans k_4
    have kh := kh.trans k_4
    refine lift_not g (fun q_6 g => ?_) (fun q_6 g => ?_)
    · exact g _ _ k0 ⟨_, _, rfl, ⟨rfl, (show In .i64 (0 : Int) by decide)⟩, ⟨rfl, (show In .i64 (2 : Int) by decide)⟩⟩
    · exact D2.hv k0 (r0_1.tame (m_1.trans (m_2.trans (m_3.trans m_4)))) bx_1 o_1 (r1_1.tame (m_1.trans (m_2.trans (m_3.trans m_4)))) bx_2 o_2 d_1q_2 g
def v (b0_0 : Bool) (xs0_1 : List Nat) (b1_0 : Bool) (xs1_1 : List Nat) : (Int × Int) := D1.v b0_0 xs0_1 b1_0 xs1_1
theorem hv {h : Hp} {b0_0 : Bool} {a0_1 : Option Addr} {c0_1 l0_1 : Nat} {xs0_1 : List Nat} (r0_1 : Rd h a0_1 c0_1 xs0_1) (e0_1 : l0_1 = xs0_1.length) {b1_0 : Bool} {a1_1 : Option Addr} {c1_1 l1_1 : Nat} {xs1_1 : List Nat} (r1_1 : Rd h a1_1 c1_1 xs1_1) (e1_1 : l1_1 = xs1_1.length) : HC id #[.agg #[.bool b0_0, .slice a0_1 l0_1 c0_1], .agg #[.bool b1_0, .slice a1_1 l1_1 c1_1]] h fun v_ h_ => Keep h h_ ∧ (s2 (sI .i64) (sI .i64)) h h_ v_ (v b0_0 xs0_1 b1_0 xs1_1) :=
  ok (D1.hv (Keep.refl _) r0_1 e0_1 r1_1 e1_1 fun v h' k s => ⟨k, s⟩)
end num_Cmp

namespace num_Neg
def D1.v (b0_0 : Bool) (xs0_1 : List Nat) : ((Bool × List Nat) × Int) :=
  letV (num_Form.v b0_0 xs0_1) fun p_3 =>
  bif (!p_3) then
    ((false, ([] : List Nat)), (2 : Int))
  else
    letV (lim (val xs0_1)) fun p_5 =>
    letV (tellZ (!b0_0) (p_5.1, p_5.2)) fun p_6 =>
    ((p_6.1.1, p_6.1.2), p_6.2)
theorem D1.hv {R : Rt} {h0 h : Hp} (k0 : Keep h0 h) {b0_0 : Bool} {a0_1 : Option Addr} {c0_1 l0_1 : Nat} {xs0_1 : List Nat} (r0_1 : Rd h a0_1 c0_1 xs0_1) (e0_1 : l0_1 = xs0_1.length) (g : Post (s2 sZW (sI .i64)) h0 R (D1.v b0_0 xs0_1)) : D1.t R b0_0 a0_1 l0_1 c0_1 h := by
  subst e0_1
  have kh := Keep.refl h
  unfold D1.v at g
  unfold D1.t
  refine boxV fun h_1 bx_1 k_1 => ?_
  have o_1 : h0.size ≤ h.size := k0.le
  have oh_1 : h.size ≤ h.size := kh.le
  have lt_1 := bx_1.lt
  have m_1 := k_1.tame
  have k0 := k0.trans k_1
  have kh := kh.trans k_1
  refine boxV fun h_2 bx_2 k_2 => ?_
  have d_1q_2 : h.size ≠ h_1.size := Nat.ne_of_lt bx_1.lt
  have o_2 : h0.size ≤ h_1.size := k0.le
  have oh_2 : h.size ≤ h_1.size := kh.le
  have lt_2 := bx_2.lt
  have m_2 := k_2.tame
  have bx_1 := bx_1.keep k_2
  have k0 := k0.trans k_2
  have kh := kh.trans k_2
  refine ldA bx_1 (base_add _ _) rfl ?_
  refine gBool_intro rfl ?_
  refine ldA bx_1 (base_add _ _) rfl ?_
  refine gSlice_intro rfl ?_
  refine hc_intro (num_Form.hv (r0_1.tame (m_1.trans m_2)) rfl) fun v h_3 ⟨k_3, s⟩ => ?_
  obtain ⟨p_3, hp_3⟩ : ∃ p, p = num_Form.v b0_0 xs0_1 := ⟨_, rfl⟩
  rw [← hp_3] at s
  replace g := lift_let2 hp_3 g
  obtain rfl := s
  refine gBool_intro rfl (?_)
  have m_3 := k_3.tame
  have bx_1 := bx_1.keep k_3
  have bx_2 := bx_2.keep k_3
  have k0 := k0.trans k_3
  have kh := kh.trans k_3
  refine lift_not g (fun q_4 g => ?_) (fun q_4 g => ?_)
  · refine stA bx_2 (base_add _ _) rfl fun h_4 bx_2 k_4 m_4 => ?_
    have bx_1 := bx_1.keepB d_1q_2 k_4
    have k0 := KeepB.keep k0 k_4 o_2
    have kh := KeepB.keep kh k_4 oh_2
    refine stA bx_2 (base_add _ _) rfl fun h_5 bx_2 k_5 m_5 => ?_
    have bx_1 := bx_1.keepB d_1q_2 k_5
    have k0 := KeepB.keep k0 k_5 o_2
    have kh := KeepB.keep kh k_5 oh_2
    refine ldA bx_2 (base_add _ _) rfl ?_
    refine gBool_intro rfl ?_
    refine ldA bx_2 (base_add _ _) rfl ?_
    refine gSlice_intro rfl ?_
    exact g _ _ k0 ⟨_, _, rfl, ⟨_, _, rfl, (GotE.nil _ _)⟩, ⟨rfl, (show In .i64 (2 : Int) by decide)⟩⟩
  · refine ldA bx_1 (base_add _ _) rfl ?_
    refine gSlice_intro rfl ?_
    refine hc_intro (nat_Norm.hv (r0_1.tame (m_1.trans (m_2.trans m_3))) rfl) fun v h_4 ⟨k_4, s⟩ => ?_
    obtain ⟨p_5, hp_5⟩ : ∃ p, p = lim (val xs0_1) := ⟨_, rfl⟩
    rw [← hp_5] at s
    replace g := lift_let2 hp_5 g
    obtain ⟨_, _, rfl, ⟨a_5_0, c_5_0, rfl, r_5_0⟩, ⟨rfl, i_5_1⟩⟩ := s
    refine gTup_intro rfl (uncons_intro (gSlice_intro rfl (uncons_intro (gInt_intro rfl (unnil_intro (?_))))))
    have r_5_0 := r_5_0.from k0.le
    have m_4 := k_4.tame
    have bx_1 := bx_1.keep k_4
    have bx_2 := bx_2.keep k_4
    have k0 := k0.trans k_4
    have kh := kh.trans k_4
    refine ldA bx_1 (base_add _ _) rfl ?_
    refine gBool_intro rfl ?_
    refine hc_intro (num_told.hf r_5_0 rfl i_5_1) fun v h_5 ⟨k_5, s⟩ => ?_
    obtain ⟨p_6, hp_6⟩ : ∃ p, p = tellZ (!b0_0) (p_5.1, p_5.2) := ⟨_, rfl⟩
    rw [← hp_6] at s
    replace g := lift_let2 hp_6 g
    obtain ⟨_, _, rfl, ⟨a_6_0, c_6_0, rfl, r_6_0⟩, ⟨rfl, i_6_1⟩⟩ := s
    refine gTup_intro rfl (uncons_intro (gAgg_intro rfl (uncons_intro (gBool_intro rfl (uncons_intro (gSlice_intro rfl (unnil_intro (uncons_intro (gInt_intro rfl (unnil_intro (?_)))))))))))
    have m_5 := k_5.tame
    have bx_1 := bx_1.keep k_5
    have bx_2 := bx_2.keep k_5
    have k0 := k0.trans k_5
    have kh := kh.trans k_5
    refine stA bx_2 (base_add _ _) rfl fun h_6 bx_2 k_6 m_6 => ?_
    have bx_1 := bx_1.keepB d_1q_2 k_6
    have k0 := KeepB.keep k0 k_6 o_2
    have kh := KeepB.keep kh k_6 oh_2
    refine stA bx_2 (base_add _ _) rfl fun h_7 bx_2 k_7 m_7 => ?_
    have bx_1 := bx_1.keepB d_1q_2 k_7
    have k0 := KeepB.keep k0 k_7 o_2
    have kh := KeepB.keep kh k_7 oh_2
    refine ldA bx_2 (base_add _ _) rfl ?_
    refine gBool_intro rfl ?_
    refine ldA bx_2 (base_add _ _) rfl ?_
    refine gSlice_intro rfl ?_
    exact g _ _ k0 ⟨_, _, rfl, ⟨_, _, rfl, (r_6_0.tame (m_6.trans m_7))⟩, ⟨rfl, i_6_1⟩⟩
def v (b0_0 : Bool) (xs0_1 : List Nat) : ((Bool × List Nat) × Int) := D1.v b0_0 xs0_1
theorem hv {h : Hp} {b0_0 : Bool} {a0_1 : Option Addr} {c0_1 l0_1 : Nat} {xs0_1 : List Nat} (r0_1 : Rd h a0_1 c0_1 xs0_1) (e0_1 : l0_1 = xs0_1.length) : HC id #[.agg #[.bool b0_0, .slice a0_1 l0_1 c0_1]] h fun v_ h_ => Keep h h_ ∧ (s2 sZW (sI .i64)) h h_ v_ (v b0_0 xs0_1) :=
  ok (D1.hv (Keep.refl _) r0_1 e0_1 fun v h' k s => ⟨k, s⟩)
end num_Neg

namespace num_Add
def D3.v (b2_0 : Bool) (xs2_1 : List Nat) (b3_0 : Bool) (xs3_1 : List Nat) (b4_0 : Bool) (xs4_1 : List Nat) : ((Bool × List Nat) × Int) :=
  letV (subS xs2_1 xs3_1) fun p_13 =>
  letV (tellZ b2_0 (p_13.1, p_13.2)) fun p_14 =>
  ((p_14.1.1, p_14.1.2), p_14.2)
theorem D3.hv {R : Rt} {h0 h : Hp} (k0 : Keep h0 h) {b2_0 : Bool} {a2_1 : Option Addr} {c2_1 : Nat} {xs2_1 : List Nat} (r2_1 : Rd h a2_1 c2_1 xs2_1) {B2 : Nat} (bx2 : BlkV h B2 [.bool b2_0, .slice a2_1 xs2_1.length c2_1]) (o2 : h0.size ≤ B2) {b3_0 : Bool} {a3_1 : Option Addr} {c3_1 : Nat} {xs3_1 : List Nat} (r3_1 : Rd h a3_1 c3_1 xs3_1) {B3 : Nat} (bx3 : BlkV h B3 [.bool b3_0, .slice a3_1 xs3_1.length c3_1]) (o3 : h0.size ≤ B3) {b4_0 : Bool} {a4_1 : Option Addr} {c4_1 : Nat} {xs4_1 : List Nat} (r4_1 : GotE eU64 h0 h a4_1 c4_1 xs4_1) {B4 : Nat} (bx4 : BlkV h B4 [.bool b4_0, .slice a4_1 xs4_1.length c4_1]) (o4 : h0.size ≤ B4) (d2q3 : B2 ≠ B3) (d2q4 : B2 ≠ B4) (d3q4 : B3 ≠ B4) (g : Post (s2 sZW (sI .i64)) h0 R (D3.v b2_0 xs2_1 b3_0 xs3_1 b4_0 xs4_1)) : D3.t R (⟨B2, 0, none⟩ : Addr) (⟨B3, 0, none⟩ : Addr) (⟨B4, 0, none⟩ : Addr) h := by
  have kh := Keep.refl h
  have lt2 := bx2.lt
  have lt3 := bx3.lt
  have lt4 := bx4.lt
  unfold D3.v at g
  unfold D3.t
  refine ldA bx2 (base_add _ _) rfl ?_
  refine gSlice_intro rfl ?_
  refine ldA bx3 (base_add _ _) rfl ?_
  refine gSlice_intro rfl ?_
  refine hc_intro (nat_Sub.hv r2_1 rfl r3_1 rfl) fun v h_1 ⟨k_1, s⟩ => ?_
  obtain ⟨p_13, hp_13⟩ : ∃ p, p = subS xs2_1 xs3_1 := ⟨_, rfl⟩
  rw [← hp_13] at s
  replace g := lift_let2 hp_13 g
  obtain ⟨_, _, rfl, ⟨a_13_0, c_13_0, rfl, r_13_0⟩, ⟨rfl, i_13_1⟩⟩ := s
  refine gTup_intro rfl (uncons_intro (gSlice_intro rfl (uncons_intro (gInt_intro rfl (unnil_intro (?_))))))
  have r_13_0 := r_13_0.from k0.le
  have m_1 := k_1.tame
  have bx2 := bx2.keep k_1
  have bx3 := bx3.keep k_1
  have bx4 := bx4.keep k_1
  have k0 := k0.trans k_1
  have kh := kh.trans k_1
  refine ldA bx2 (base_add _ _) rfl ?_
  refine gBool_intro rfl ?_
  refine hc_intro (num_told.hf r_13_0 rfl i_13_1) fun v h_2 ⟨k_2, s⟩ => ?_
  obtain ⟨p_14, hp_14⟩ : ∃ p, p = tellZ b2_0 (p_13.1, p_13.2) := ⟨_, rfl⟩
  rw [← hp_14] at s
  replace g := lift_let2 hp_14 g
  obtain ⟨_, _, rfl, ⟨a_14_0, c_14_0, rfl, r_14_0⟩, ⟨rfl, i_14_1⟩⟩ := s
  refine gTup_intro rfl (uncons_intro (gAgg_intro rfl (uncons_intro (gBool_intro rfl (uncons_intro (gSlice_intro rfl (unnil_intro (uncons_intro (gInt_intro rfl (unnil_intro (?_)))))))))))
  have m_2 := k_2.tame
  have bx2 := bx2.keep k_2
  have bx3 := bx3.keep k_2
  have bx4 := bx4.keep k_2
  have k0 := k0.trans k_2
  have kh := kh.trans k_2
  refine stA bx4 (base_add _ _) rfl fun h_3 bx4 k_3 m_3 => ?_
  have bx2 := bx2.keepB d2q4 k_3
  have bx3 := bx3.keepB d3q4 k_3
  have k0 := KeepB.keep k0 k_3 o4
  refine stA bx4 (base_add _ _) rfl fun h_4 bx4 k_4 m_4 => ?_
  have bx2 := bx2.keepB d2q4 k_4
  have bx3 := bx3.keepB d3q4 k_4
  have k0 := KeepB.keep k0 k_4 o4
  refine ldA bx4 (base_add _ _) rfl ?_
  refine gBool_intro rfl ?_
  refine ldA bx4 (base_add _ _) rfl ?_
  refine gSlice_intro rfl ?_
  exact g _ _ k0 ⟨_, _, rfl, ⟨_, _, rfl, (r_14_0.tame (m_3.trans m_4))⟩, ⟨rfl, i_14_1⟩⟩
def D2.v (b2_0 : Bool) (xs2_1 : List Nat) (b3_0 : Bool) (xs3_1 : List Nat) (b4_0 : Bool) (xs4_1 : List Nat) : ((Bool × List Nat) × Int) :=
  bif (b2_0 == b3_0) then
    letV (addS xs2_1 xs3_1) fun p_9 =>
    letV (tellZ b2_0 (p_9.1, p_9.2)) fun p_10 =>
    ((p_10.1.1, p_10.1.2), p_10.2)
  else
    bif (decide (((cmpI (val xs2_1) (val xs3_1))) < (0 : Int))) then
      D3.v b3_0 xs3_1 b2_0 xs2_1 b4_0 xs4_1
    else
      D3.v b2_0 xs2_1 b3_0 xs3_1 b4_0 xs4_1
theorem D2.hv {R : Rt} {h0 h : Hp} (k0 : Keep h0 h) {b2_0 : Bool} {a2_1 : Option Addr} {c2_1 : Nat} {xs2_1 : List Nat} (r2_1 : Rd h a2_1 c2_1 xs2_1) {B2 : Nat} (bx2 : BlkV h B2 [.bool b2_0, .slice a2_1 xs2_1.length c2_1]) (o2 : h0.size ≤ B2) {b3_0 : Bool} {a3_1 : Option Addr} {c3_1 : Nat} {xs3_1 : List Nat} (r3_1 : Rd h a3_1 c3_1 xs3_1) {B3 : Nat} (bx3 : BlkV h B3 [.bool b3_0, .slice a3_1 xs3_1.length c3_1]) (o3 : h0.size ≤ B3) {b4_0 : Bool} {a4_1 : Option Addr} {c4_1 : Nat} {xs4_1 : List Nat} (r4_1 : GotE eU64 h0 h a4_1 c4_1 xs4_1) {B4 : Nat} (bx4 : BlkV h B4 [.bool b4_0, .slice a4_1 xs4_1.length c4_1]) (o4 : h0.size ≤ B4) (d2q3 : B2 ≠ B3) (d2q4 : B2 ≠ B4) (d3q4 : B3 ≠ B4) (g : Post (s2 sZW (sI .i64)) h0 R (D2.v b2_0 xs2_1 b3_0 xs3_1 b4_0 xs4_1)) : D2.t R (⟨B2, 0, none⟩ : Addr) (⟨B3, 0, none⟩ : Addr) (⟨B4, 0, none⟩ : Addr) h := by
  have kh := Keep.refl h
  have lt2 := bx2.lt
  have lt3 := bx3.lt
  have lt4 := bx4.lt
  unfold D2.v at g
  unfold D2.t
  refine ldA bx2 (base_add _ _) rfl ?_
  refine gBool_intro rfl ?_
  refine ldA bx3 (base_add _ _) rfl ?_
  refine gBool_intro rfl ?_
  refine lift_bool g (fun q_8 g => ?_) (fun q_8 g => ?_)
  · refine ldA bx2 (base_add _ _) rfl ?_
    refine gSlice_intro rfl ?_
    refine ldA bx3 (base_add _ _) rfl ?_
    refine gSlice_intro rfl ?_
    refine hc_intro (nat_Add.hv r2_1 rfl r3_1 rfl) fun v h_1 ⟨k_1, s⟩ => ?_
    obtain ⟨p_9, hp_9⟩ : ∃ p, p = addS xs2_1 xs3_1 := ⟨_, rfl⟩
    rw [← hp_9] at s
    replace g := lift_let2 hp_9 g
    obtain ⟨_, _, rfl, ⟨a_9_0, c_9_0, rfl, r_9_0⟩, ⟨rfl, i_9_1⟩⟩ := s
    refine gTup_intro rfl (uncons_intro (gSlice_intro rfl (uncons_intro (gInt_intro rfl (unnil_intro (?_))))))
    have r_9_0 := r_9_0.from k0.le
    have m_1 := k_1.tame
    have bx2 := bx2.keep k_1
    have bx3 := bx3.keep k_1
    have bx4 := bx4.keep k_1
    have k0 := k0.trans k_1
    have kh := kh.trans k_1
    refine ldA bx2 (base_add _ _) rfl ?_
    refine gBool_intro rfl ?_
    refine hc_intro (num_told.hf r_9_0 rfl i_9_1) fun v h_2 ⟨k_2, s⟩ => ?_
    obtain ⟨p_10, hp_10⟩ : ∃ p, p = tellZ b2_0 (p_9.1, p_9.2) := ⟨_, rfl⟩
    rw [← hp_10] at s
    replace g := lift_let2 hp_10 g
    obtain ⟨_, _, rfl, ⟨a_10_0, c_10_0, rfl, r_10_0⟩, ⟨rfl, i_10_1⟩⟩ := s
    refine gTup_intro rfl (uncons_intro (gAgg_intro rfl (uncons_intro (gBool_intro rfl (uncons_intro (gSlice_intro rfl (unnil_intro (uncons_intro (gInt_intro rfl (unnil_intro (?_)))))))))))
    have m_2 := k_2.tame
    have bx2 := bx2.keep k_2
    have bx3 := bx3.keep k_2
    have bx4 := bx4.keep k_2
    have k0 := k0.trans k_2
    have kh := kh.trans k_2
    refine stA bx4 (base_add _ _) rfl fun h_3 bx4 k_3 m_3 => ?_
    have bx2 := bx2.keepB d2q4 k_3
    have bx3 := bx3.keepB d3q4 k_3
    have k0 := KeepB.keep k0 k_3 o4
    refine stA bx4 (base_add _ _) rfl fun h_4 bx4 k_4 m_4 => ?_
    have bx2 := bx2.keepB d2q4 k_4
    have bx3 := bx3.keepB d3q4 k_4
    have k0 := KeepB.keep k0 k_4 o4
    refine ldA bx4 (base_add _ _) rfl ?_
    refine gBool_intro rfl ?_
    refine ldA bx4 (base_add _ _) rfl ?_
    refine gSlice_intro rfl ?_
    exact g _ _ k0 ⟨_, _, rfl, ⟨_, _, rfl, (r_10_0.tame (m_3.trans m_4))⟩, ⟨rfl, i_10_1⟩⟩
  · refine ldA bx2 (base_add _ _) rfl ?_
    refine gSlice_intro rfl ?_
    refine ldA bx3 (base_add _ _) rfl ?_
    refine gSlice_intro rfl ?_
    refine hc_intro (nat_Cmp.hv r2_1 rfl r3_1 rfl) fun v h_1 ⟨k_1, s⟩ => ?_
    obtain ⟨rfl, i_11⟩ := s
    refine gInt_intro rfl (?_)
    have m_1 := k_1.tame
    have bx2 := bx2.keep k_1
    have bx3 := bx3.keep k_1
    have bx4 := bx4.keep k_1
    have k0 := k0.trans k_1
    have kh := kh.trans k_1
    refine lift_dec g (fun q_12 g => ?_) (fun q_12 g => ?_)
    · refine ldA bx3 (base_add _ _) rfl ?_
      refine gBool_intro rfl ?_
      refine ldA bx3 (base_add _ _) rfl ?_
      refine gSlice_intro rfl ?_
      refine ldA bx2 (base_add _ _) rfl ?_
      refine gBool_intro rfl ?_
      refine ldA bx2 (base_add _ _) rfl ?_
      refine gSlice_intro rfl ?_
      refine stA bx2 (base_add _ _) rfl fun h_2 bx2 k_2 m_2 => ?_
      have bx3 := bx3.keepB (Ne.symm d2q3) k_2
      have bx4 := bx4.keepB (Ne.symm d2q4) k_2
      have k0 := KeepB.keep k0 k_2 o2
      refine stA bx2 (base_add _ _) rfl fun h_3 bx2 k_3 m_3 => ?_
      have bx3 := bx3.keepB (Ne.symm d2q3) k_3
      have bx4 := bx4.keepB (Ne.symm d2q4) k_3
      have k0 := KeepB.keep k0 k_3 o2
      refine stA bx3 (base_add _ _) rfl fun h_4 bx3 k_4 m_4 => ?_
      have bx2 := bx2.keepB d2q3 k_4
      have bx4 := bx4.keepB (Ne.symm d3q4) k_4
      have k0 := KeepB.keep k0 k_4 o3
      refine stA bx3 (base_add _ _) rfl fun h_5 bx3 k_5 m_5 => ?_
      have bx2 := bx2.keepB d2q3 k_5
      have bx4 := bx4.keepB (Ne.symm d3q4) k_5
      have k0 := KeepB.keep k0 k_5 o3
      exact D3.hv k0 (r3_1.tame (m_1.trans (m_2.trans (m_3.trans (m_4.trans m_5))))) bx2 o2 (r2_1.tame (m_1.trans (m_2.trans (m_3.trans (m_4.trans m_5))))) bx3 o3 (r4_1.tame (m_1.trans (m_2.trans (m_3.trans (m_4.trans m_5))))) bx4 o4 d2q3 d2q4 d3q4 g
    · exact D3.hv k0 (r2_1.tame (m_1)) bx2 o2 (r3_1.tame (m_1)) bx3 o3 (r4_1.tame (m_1)) bx4 o4 d2q3 d2q4 d3q4 g
def D1.v (b0_0 : Bool) (xs0_1 : List Nat) (b1_0 : Bool) (xs1_1 : List Nat) : ((Bool × List Nat) × Int) :=
  letV (num_Form.v b0_0 xs0_1) fun p_4 =>
  bif (!p_4) then
    ((false, ([] : List Nat)), (2 : Int))
  else
    letV (num_Form.v b1_0 xs1_1) fun p_6 =>
    bif (!p_6) then
      ((false, ([] : List Nat)), (2 : Int))
    else
      D2.v b0_0 xs0_1 b1_0 xs1_1 false ([] : List Nat)
theorem D1.hv {R : Rt} {h0 h : Hp} (k0 : Keep h0 h) {b0_0 : Bool} {a0_1 : Option Addr} {c0_1 l0_1 : Nat} {xs0_1 : List Nat} (r0_1 : Rd h a0_1 c0_1 xs0_1) (e0_1 : l0_1 = xs0_1.length) {b1_0 : Bool} {a1_1 : Option Addr} {c1_1 l1_1 : Nat} {xs1_1 : List Nat} (r1_1 : Rd h a1_1 c1_1 xs1_1) (e1_1 : l1_1 = xs1_1.length) (g : Post (s2 sZW (sI .i64)) h0 R (D1.v b0_0 xs0_1 b1_0 xs1_1)) : D1.t R b0_0 a0_1 l0_1 c0_1 b1_0 a1_1 l1_1 c1_1 h := by
  subst e0_1 e1_1
  have kh := Keep.refl h
  unfold D1.v at g
  unfold D1.t
  refine boxV fun h_1 bx_1 k_1 => ?_
  have o_1 : h0.size ≤ h.size := k0.le
  have oh_1 : h.size ≤ h.size := kh.le
  have lt_1 := bx_1.lt
  have m_1 := k_1.tame
  have k0 := k0.trans k_1
  have kh := kh.trans k_1
  refine boxV fun h_2 bx_2 k_2 => ?_
  have d_1q_2 : h.size ≠ h_1.size := Nat.ne_of_lt bx_1.lt
  have o_2 : h0.size ≤ h_1.size := k0.le
  have oh_2 : h.size ≤ h_1.size := kh.le
  have lt_2 := bx_2.lt
  have m_2 := k_2.tame
  have bx_1 := bx_1.keep k_2
  have k0 := k0.trans k_2
  have kh := kh.trans k_2
  refine boxV fun h_3 bx_3 k_3 => ?_
  have d_1q_3 : h.size ≠ h_2.size := Nat.ne_of_lt bx_1.lt
  have d_2q_3 : h_1.size ≠ h_2.size := Nat.ne_of_lt bx_2.lt
  have o_3 : h0.size ≤ h_2.size := k0.le
  have oh_3 : h.size ≤ h_2.size := kh.le
  have lt_3 := bx_3.lt
  have m_3 := k_3.tame
  have bx_1 := bx_1.keep k_3
  have bx_2 := bx_2.keep k_3
  have k0 := k0.trans k_3
  have kh := kh.trans k_3
  refine ldA bx_1 (base_add _ _) rfl ?_
  refine gBool_intro rfl ?_
  refine ldA bx_1 (base_add _ _) rfl ?_
  refine gSlice_intro rfl ?_
  refine hc_intro (num_Form.hv (r0_1.tame (m_1.trans (m_2.trans m_3))) rfl) fun v h_4 ⟨k_4, s⟩ => ?_
  obtain ⟨p_4, hp_4⟩ : ∃ p, p = num_Form.v b0_0 xs0_1 := ⟨_, rfl⟩
  rw [← hp_4] at s
  replace g := lift_let2 hp_4 g
  obtain rfl := s
  refine gBool_intro rfl (?_)
  have m_4 := k_4.tame
  have bx_1 := bx_1.keep k_4
  have bx_2 := bx_2.keep k_4
  have bx_3 := bx_3.keep k_4
  have k0 := k0.trans k_4
  have kh := kh.trans k_4
  refine lift_not g (fun q_5 g => ?_) (fun q_5 g => ?_)
  · refine stA bx_3 (base_add _ _) rfl fun h_5 bx_3 k_5 m_5 => ?_
    have bx_1 := bx_1.keepB d_1q_3 k_5
    have bx_2 := bx_2.keepB d_2q_3 k_5
    have k0 := KeepB.keep k0 k_5 o_3
    have kh := KeepB.keep kh k_5 oh_3
    refine stA bx_3 (base_add _ _) rfl fun h_6 bx_3 k_6 m_6 => ?_
    have bx_1 := bx_1.keepB d_1q_3 k_6
    have bx_2 := bx_2.keepB d_2q_3 k_6
    have k0 := KeepB.keep k0 k_6 o_3
    have kh := KeepB.keep kh k_6 oh_3
    refine ldA bx_3 (base_add _ _) rfl ?_
    refine gBool_intro rfl ?_
    refine ldA bx_3 (base_add _ _) rfl ?_
    refine gSlice_intro rfl ?_
    exact g _ _ k0 ⟨_, _, rfl, ⟨_, _, rfl, (GotE.nil _ _)⟩, ⟨rfl, (show In .i64 (2 : Int) by decide)⟩⟩
  · refine ldA bx_2 (base_add _ _) rfl ?_
    refine gBool_intro rfl ?_
    refine ldA bx_2 (base_add _ _) rfl ?_
    refine gSlice_intro rfl ?_
    refine hc_intro (num_Form.hv (r1_1.tame (m_1.trans (m_2.trans (m_3.trans m_4)))) rfl) fun v h_5 ⟨k_5, s⟩ => ?_
    obtain ⟨p_6, hp_6⟩ : ∃ p, p = num_Form.v b1_0 xs1_1 := ⟨_, rfl⟩
    rw [← hp_6] at s
    replace g := lift_let2 hp_6 g
    obtain rfl := s
    refine gBool_intro rfl (?_)
    have m_5 := k_5.tame
    have bx_1 := bx_1.keep k_5
    have bx_2 := bx_2.keep k_5
    have bx_3 := bx_3.keep k_5
    have k0 := k0.trans k_5
    have kh := kh.trans k_5
    refine lift_not g (fun q_7 g => ?_) (fun q_7 g => ?_)
    · refine stA bx_3 (base_add _ _) rfl fun h_6 bx_3 k_6 m_6 => ?_
      have bx_1 := bx_1.keepB d_1q_3 k_6
      have bx_2 := bx_2.keepB d_2q_3 k_6
      have k0 := KeepB.keep k0 k_6 o_3
      have kh := KeepB.keep kh k_6 oh_3
      refine stA bx_3 (base_add _ _) rfl fun h_7 bx_3 k_7 m_7 => ?_
      have bx_1 := bx_1.keepB d_1q_3 k_7
      have bx_2 := bx_2.keepB d_2q_3 k_7
      have k0 := KeepB.keep k0 k_7 o_3
      have kh := KeepB.keep kh k_7 oh_3
      refine ldA bx_3 (base_add _ _) rfl ?_
      refine gBool_intro rfl ?_
      refine ldA bx_3 (base_add _ _) rfl ?_
      refine gSlice_intro rfl ?_
      exact g _ _ k0 ⟨_, _, rfl, ⟨_, _, rfl, (GotE.nil _ _)⟩, ⟨rfl, (show In .i64 (2 : Int) by decide)⟩⟩
    · exact D2.hv k0 (r0_1.tame (m_1.trans (m_2.trans (m_3.trans (m_4.trans m_5))))) bx_1 o_1 (r1_1.tame (m_1.trans (m_2.trans (m_3.trans (m_4.trans m_5))))) bx_2 o_2 (GotE.nil _ _) bx_3 o_3 d_1q_2 d_1q_3 d_2q_3 g
def v (b0_0 : Bool) (xs0_1 : List Nat) (b1_0 : Bool) (xs1_1 : List Nat) : ((Bool × List Nat) × Int) := D1.v b0_0 xs0_1 b1_0 xs1_1
theorem hv {h : Hp} {b0_0 : Bool} {a0_1 : Option Addr} {c0_1 l0_1 : Nat} {xs0_1 : List Nat} (r0_1 : Rd h a0_1 c0_1 xs0_1) (e0_1 : l0_1 = xs0_1.length) {b1_0 : Bool} {a1_1 : Option Addr} {c1_1 l1_1 : Nat} {xs1_1 : List Nat} (r1_1 : Rd h a1_1 c1_1 xs1_1) (e1_1 : l1_1 = xs1_1.length) : HC id #[.agg #[.bool b0_0, .slice a0_1 l0_1 c0_1], .agg #[.bool b1_0, .slice a1_1 l1_1 c1_1]] h fun v_ h_ => Keep h h_ ∧ (s2 sZW (sI .i64)) h h_ v_ (v b0_0 xs0_1 b1_0 xs1_1) :=
  ok (D1.hv (Keep.refl _) r0_1 e0_1 r1_1 e1_1 fun v h' k s => ⟨k, s⟩)
end num_Add

namespace num_Mul
def D2.v (b2_0 : Bool) (xs2_1 : List Nat) (b3_0 : Bool) (xs3_1 : List Nat) (b4_0 : Bool) (xs4_1 : List Nat) : ((Bool × List Nat) × Int) :=
  letV (mulS xs2_1 xs3_1) fun p_8 =>
  letV (tellZ ((!(b2_0 == b3_0))) (p_8.1, p_8.2)) fun p_9 =>
  ((p_9.1.1, p_9.1.2), p_9.2)
theorem D2.hv {R : Rt} {h0 h : Hp} (k0 : Keep h0 h) {b2_0 : Bool} {a2_1 : Option Addr} {c2_1 : Nat} {xs2_1 : List Nat} (r2_1 : Rd h a2_1 c2_1 xs2_1) {B2 : Nat} (bx2 : BlkV h B2 [.bool b2_0, .slice a2_1 xs2_1.length c2_1]) (o2 : h0.size ≤ B2) {b3_0 : Bool} {a3_1 : Option Addr} {c3_1 : Nat} {xs3_1 : List Nat} (r3_1 : Rd h a3_1 c3_1 xs3_1) {B3 : Nat} (bx3 : BlkV h B3 [.bool b3_0, .slice a3_1 xs3_1.length c3_1]) (o3 : h0.size ≤ B3) {b4_0 : Bool} {a4_1 : Option Addr} {c4_1 : Nat} {xs4_1 : List Nat} (r4_1 : GotE eU64 h0 h a4_1 c4_1 xs4_1) {B4 : Nat} (bx4 : BlkV h B4 [.bool b4_0, .slice a4_1 xs4_1.length c4_1]) (o4 : h0.size ≤ B4) (d2q3 : B2 ≠ B3) (d2q4 : B2 ≠ B4) (d3q4 : B3 ≠ B4) (g : Post (s2 sZW (sI .i64)) h0 R (D2.v b2_0 xs2_1 b3_0 xs3_1 b4_0 xs4_1)) : D2.t R (⟨B2, 0, none⟩ : Addr) (⟨B3, 0, none⟩ : Addr) (⟨B4, 0, none⟩ : Addr) h := by
  have kh := Keep.refl h
  have lt2 := bx2.lt
  have lt3 := bx3.lt
  have lt4 := bx4.lt
  unfold D2.v at g
  unfold D2.t
  refine ldA bx2 (base_add _ _) rfl ?_
  refine gSlice_intro rfl ?_
  refine ldA bx3 (base_add _ _) rfl ?_
  refine gSlice_intro rfl ?_
  refine hc_intro (natmul_Mul.hv r2_1 rfl r3_1 rfl) fun v h_1 ⟨k_1, s⟩ => ?_
  obtain ⟨p_8, hp_8⟩ : ∃ p, p = mulS xs2_1 xs3_1 := ⟨_, rfl⟩
  rw [← hp_8] at s
  replace g := lift_let2 hp_8 g
  obtain ⟨_, _, rfl, ⟨a_8_0, c_8_0, rfl, r_8_0⟩, ⟨rfl, i_8_1⟩⟩ := s
  refine gTup_intro rfl (uncons_intro (gSlice_intro rfl (uncons_intro (gInt_intro rfl (unnil_intro (?_))))))
  have r_8_0 := r_8_0.from k0.le
  have m_1 := k_1.tame
  have bx2 := bx2.keep k_1
  have bx3 := bx3.keep k_1
  have bx4 := bx4.keep k_1
  have k0 := k0.trans k_1
  have kh := kh.trans k_1
  refine ldA bx2 (base_add _ _) rfl ?_
  refine gBool_intro rfl ?_
  refine ldA bx3 (base_add _ _) rfl ?_
  refine gBool_intro rfl ?_
  refine hc_intro (num_told.hf r_8_0 rfl i_8_1) fun v h_2 ⟨k_2, s⟩ => ?_
  obtain ⟨p_9, hp_9⟩ : ∃ p, p = tellZ ((!(b2_0 == b3_0))) (p_8.1, p_8.2) := ⟨_, rfl⟩
  rw [← hp_9] at s
  replace g := lift_let2 hp_9 g
  obtain ⟨_, _, rfl, ⟨a_9_0, c_9_0, rfl, r_9_0⟩, ⟨rfl, i_9_1⟩⟩ := s
  refine gTup_intro rfl (uncons_intro (gAgg_intro rfl (uncons_intro (gBool_intro rfl (uncons_intro (gSlice_intro rfl (unnil_intro (uncons_intro (gInt_intro rfl (unnil_intro (?_)))))))))))
  have m_2 := k_2.tame
  have bx2 := bx2.keep k_2
  have bx3 := bx3.keep k_2
  have bx4 := bx4.keep k_2
  have k0 := k0.trans k_2
  have kh := kh.trans k_2
  refine stA bx4 (base_add _ _) rfl fun h_3 bx4 k_3 m_3 => ?_
  have bx2 := bx2.keepB d2q4 k_3
  have bx3 := bx3.keepB d3q4 k_3
  have k0 := KeepB.keep k0 k_3 o4
  refine stA bx4 (base_add _ _) rfl fun h_4 bx4 k_4 m_4 => ?_
  have bx2 := bx2.keepB d2q4 k_4
  have bx3 := bx3.keepB d3q4 k_4
  have k0 := KeepB.keep k0 k_4 o4
  refine ldA bx4 (base_add _ _) rfl ?_
  refine gBool_intro rfl ?_
  refine ldA bx4 (base_add _ _) rfl ?_
  refine gSlice_intro rfl ?_
  exact g _ _ k0 ⟨_, _, rfl, ⟨_, _, rfl, (r_9_0.tame (m_3.trans m_4))⟩, ⟨rfl, i_9_1⟩⟩
def D1.v (b0_0 : Bool) (xs0_1 : List Nat) (b1_0 : Bool) (xs1_1 : List Nat) : ((Bool × List Nat) × Int) :=
  letV (num_Form.v b0_0 xs0_1) fun p_4 =>
  bif (!p_4) then
    ((false, ([] : List Nat)), (2 : Int))
  else
    letV (num_Form.v b1_0 xs1_1) fun p_6 =>
    bif (!p_6) then
      ((false, ([] : List Nat)), (2 : Int))
    else
      D2.v b0_0 xs0_1 b1_0 xs1_1 false ([] : List Nat)
theorem D1.hv {R : Rt} {h0 h : Hp} (k0 : Keep h0 h) {b0_0 : Bool} {a0_1 : Option Addr} {c0_1 l0_1 : Nat} {xs0_1 : List Nat} (r0_1 : Rd h a0_1 c0_1 xs0_1) (e0_1 : l0_1 = xs0_1.length) {b1_0 : Bool} {a1_1 : Option Addr} {c1_1 l1_1 : Nat} {xs1_1 : List Nat} (r1_1 : Rd h a1_1 c1_1 xs1_1) (e1_1 : l1_1 = xs1_1.length) (g : Post (s2 sZW (sI .i64)) h0 R (D1.v b0_0 xs0_1 b1_0 xs1_1)) : D1.t R b0_0 a0_1 l0_1 c0_1 b1_0 a1_1 l1_1 c1_1 h := by
  subst e0_1 e1_1
  have kh := Keep.refl h
  unfold D1.v at g
  unfold D1.t
  refine boxV fun h_1 bx_1 k_1 => ?_
  have o_1 : h0.size ≤ h.size := k0.le
  have oh_1 : h.size ≤ h.size := kh.le
  have lt_1 := bx_1.lt
  have m_1 := k_1.tame
  have k0 := k0.trans k_1
  have kh := kh.trans k_1
  refine boxV fun h_2 bx_2 k_2 => ?_
  have d_1q_2 : h.size ≠ h_1.size := Nat.ne_of_lt bx_1.lt
  have o_2 : h0.size ≤ h_1.size := k0.le
  have oh_2 : h.size ≤ h_1.size := kh.le
  have lt_2 := bx_2.lt
  have m_2 := k_2.tame
  have bx_1 := bx_1.keep k_2
  have k0 := k0.trans k_2
  have kh := kh.trans k_2
  refine boxV fun h_3 bx_3 k_3 => ?_
  have d_1q_3 : h.size ≠ h_2.size := Nat.ne_of_lt bx_1.lt
  have d_2q_3 : h_1.size ≠ h_2.size := Nat.ne_of_lt bx_2.lt
  have o_3 : h0.size ≤ h_2.size := k0.le
  have oh_3 : h.size ≤ h_2.size := kh.le
  have lt_3 := bx_3.lt
  have m_3 := k_3.tame
  have bx_1 := bx_1.keep k_3
  have bx_2 := bx_2.keep k_3
  have k0 := k0.trans k_3
  have kh := kh.trans k_3
  refine ldA bx_1 (base_add _ _) rfl ?_
  refine gBool_intro rfl ?_
  refine ldA bx_1 (base_add _ _) rfl ?_
  refine gSlice_intro rfl ?_
  refine hc_intro (num_Form.hv (r0_1.tame (m_1.trans (m_2.trans m_3))) rfl) fun v h_4 ⟨k_4, s⟩ => ?_
  obtain ⟨p_4, hp_4⟩ : ∃ p, p = num_Form.v b0_0 xs0_1 := ⟨_, rfl⟩
  rw [← hp_4] at s
  replace g := lift_let2 hp_4 g
  obtain rfl := s
  refine gBool_intro rfl (?_)
  have m_4 := k_4.tame
  have bx_1 := bx_1.keep k_4
  have bx_2 := bx_2.keep k_4
  have bx_3 := bx_3.keep k_4
  have k0 := k0.trans k_4
  have kh := kh.trans k_4
  refine lift_not g (fun q_5 g => ?_) (fun q_5 g => ?_)
  · refine stA bx_3 (base_add _ _) rfl fun h_5 bx_3 k_5 m_5 => ?_
    have bx_1 := bx_1.keepB d_1q_3 k_5
    have bx_2 := bx_2.keepB d_2q_3 k_5
    have k0 := KeepB.keep k0 k_5 o_3
    have kh := KeepB.keep kh k_5 oh_3
    refine stA bx_3 (base_add _ _) rfl fun h_6 bx_3 k_6 m_6 => ?_
    have bx_1 := bx_1.keepB d_1q_3 k_6
    have bx_2 := bx_2.keepB d_2q_3 k_6
    have k0 := KeepB.keep k0 k_6 o_3
    have kh := KeepB.keep kh k_6 oh_3
    refine ldA bx_3 (base_add _ _) rfl ?_
    refine gBool_intro rfl ?_
    refine ldA bx_3 (base_add _ _) rfl ?_
    refine gSlice_intro rfl ?_
    exact g _ _ k0 ⟨_, _, rfl, ⟨_, _, rfl, (GotE.nil _ _)⟩, ⟨rfl, (show In .i64 (2 : Int) by decide)⟩⟩
  · refine ldA bx_2 (base_add _ _) rfl ?_
    refine gBool_intro rfl ?_
    refine ldA bx_2 (base_add _ _) rfl ?_
    refine gSlice_intro rfl ?_
    refine hc_intro (num_Form.hv (r1_1.tame (m_1.trans (m_2.trans (m_3.trans m_4)))) rfl) fun v h_5 ⟨k_5, s⟩ => ?_
    obtain ⟨p_6, hp_6⟩ : ∃ p, p = num_Form.v b1_0 xs1_1 := ⟨_, rfl⟩
    rw [← hp_6] at s
    replace g := lift_let2 hp_6 g
    obtain rfl := s
    refine gBool_intro rfl (?_)
    have m_5 := k_5.tame
    have bx_1 := bx_1.keep k_5
    have bx_2 := bx_2.keep k_5
    have bx_3 := bx_3.keep k_5
    have k0 := k0.trans k_5
    have kh := kh.trans k_5
    refine lift_not g (fun q_7 g => ?_) (fun q_7 g => ?_)
    · refine stA bx_3 (base_add _ _) rfl fun h_6 bx_3 k_6 m_6 => ?_
      have bx_1 := bx_1.keepB d_1q_3 k_6
      have bx_2 := bx_2.keepB d_2q_3 k_6
      have k0 := KeepB.keep k0 k_6 o_3
      have kh := KeepB.keep kh k_6 oh_3
      refine stA bx_3 (base_add _ _) rfl fun h_7 bx_3 k_7 m_7 => ?_
      have bx_1 := bx_1.keepB d_1q_3 k_7
      have bx_2 := bx_2.keepB d_2q_3 k_7
      have k0 := KeepB.keep k0 k_7 o_3
      have kh := KeepB.keep kh k_7 oh_3
      refine ldA bx_3 (base_add _ _) rfl ?_
      refine gBool_intro rfl ?_
      refine ldA bx_3 (base_add _ _) rfl ?_
      refine gSlice_intro rfl ?_
      exact g _ _ k0 ⟨_, _, rfl, ⟨_, _, rfl, (GotE.nil _ _)⟩, ⟨rfl, (show In .i64 (2 : Int) by decide)⟩⟩
    · exact D2.hv k0 (r0_1.tame (m_1.trans (m_2.trans (m_3.trans (m_4.trans m_5))))) bx_1 o_1 (r1_1.tame (m_1.trans (m_2.trans (m_3.trans (m_4.trans m_5))))) bx_2 o_2 (GotE.nil _ _) bx_3 o_3 d_1q_2 d_1q_3 d_2q_3 g
def v (b0_0 : Bool) (xs0_1 : List Nat) (b1_0 : Bool) (xs1_1 : List Nat) : ((Bool × List Nat) × Int) := D1.v b0_0 xs0_1 b1_0 xs1_1
theorem hv {h : Hp} {b0_0 : Bool} {a0_1 : Option Addr} {c0_1 l0_1 : Nat} {xs0_1 : List Nat} (r0_1 : Rd h a0_1 c0_1 xs0_1) (e0_1 : l0_1 = xs0_1.length) {b1_0 : Bool} {a1_1 : Option Addr} {c1_1 l1_1 : Nat} {xs1_1 : List Nat} (r1_1 : Rd h a1_1 c1_1 xs1_1) (e1_1 : l1_1 = xs1_1.length) : HC id #[.agg #[.bool b0_0, .slice a0_1 l0_1 c0_1], .agg #[.bool b1_0, .slice a1_1 l1_1 c1_1]] h fun v_ h_ => Keep h h_ ∧ (s2 sZW (sI .i64)) h h_ v_ (v b0_0 xs0_1 b1_0 xs1_1) :=
  ok (D1.hv (Keep.refl _) r0_1 e0_1 r1_1 e1_1 fun v h' k s => ⟨k, s⟩)
end num_Mul




end Go.Proofs.YtanlcacaihdceaaGreatDoor.G

/- The calls of layer 4 over values: what they answer. -/
namespace Go.Proofs.YtanlcacaihdceaaGreatDoor.G
open Go.Gv
set_option linter.unusedVariables false
set_option maxRecDepth 100000
theorem Form_v (b : Bool) (xs : List Nat) : num_Form.v b xs = decide (FrmZ (b, xs)) := by
  unfold num_Form.v num_Form.D1.v FrmZ
  by_cases f : Frm xs
  · cases b
    · simp [f]
    · cases xs with
      | nil => simp [f]
      | cons x xs => simp [f]; omega
  · simp [f]
theorem Sign_v (b : Bool) (xs : List Nat) : num_Sign.v b xs = cmpZ (zi (b, xs)) 0 := by
  unfold num_Sign.v num_Sign.D1.v
  rw [zi_sg]
  show _ = cmpZ (sg b (val xs)) 0
  by_cases h : val xs = 0
  · rw [h, sg_zero, blen_zero]; simp [cmpZ]
  · have := blen_pos h
    have e : (((blen (val xs) : Nat) : Int) == 0) = false := by simp; omega
    rw [e]
    cases b
    · have : ¬ sg false (val xs) < 0 := by unfold sg; simp
      have h2 : sg false (val xs) ≠ 0 := fun e => h (sg_eq_zero.mp e)
      simp [cmpZ, this, h2]
    · have : sg true (val xs) < 0 := by unfold sg; simp; omega
      simp [cmpZ, this]
theorem Of_v {n : Int} (i : In .i64 n) : num_Of.v n = zz n := by
  rw [in_i64] at i
  unfold num_Of.v num_Of.D1.v zz
  by_cases h : n < 0
  · have e1 : IntKind.u64.wrap (0 - IntKind.u64.wrap n) = ((n.natAbs : Nat) : Int) := by
      rw [wrap_u64, wrap_u64]; omega
    simp only [h, decide_true, cond_true, letV, Bool.true_and]
    rw [e1, Int.toNat_natCast, len_pos_digs]
    have : n.natAbs ≠ 0 := by omega
    simp [this]
  · have e1 : IntKind.u64.wrap n = ((n.natAbs : Nat) : Int) := by rw [wrap_u64]; omega
    simp only [h, decide_false, cond_false, letV, Bool.false_and]
    rw [e1, Int.toNat_natCast]
theorem Neg_v (b : Bool) (xs : List Nat) : num_Neg.v b xs = negZ (b, xs) := by
  unfold num_Neg.v num_Neg.D1.v negZ
  rw [Form_v]
  by_cases f : FrmZ (b, xs)
  · simp only [f, decide_true, letV, Bool.not_true, cond_false, if_true]
    show tellZ (!b) (lim (val xs)) = _
    rw [tell_lim, zi_sg, neg_sg]
  · simp only [f, decide_false, letV, Bool.not_false, cond_true, if_false]
    rfl
theorem cmpI_lt {m n : Nat} : decide (cmpI m n < 0) = decide (m < n) := by
  unfold cmpI
  by_cases h : m < n
  · simp [h]
  · rw [if_neg h]; split <;> simp [h]
theorem Add_D2 {b c : Bool} {xs ys : List Nat} (fx : Frm xs) (fy : Frm ys) (p : Bool) (zs : List Nat) : num_Add.D2.v b xs c ys p zs = zlim (sg b (val xs) + sg c (val ys)) := by
  unfold num_Add.D2.v num_Add.D3.v
  by_cases h : b = c
  · subst h
    simp only [beq_self_eq_true, cond_true, letV]
    show tellZ b (addS xs ys) = _
    rw [addS_form fx fy, tell_lim, add_sg_same]
  · have e : (b == c) = false := by simp [h]
    simp only [e, cond_false, letV, cmpI_lt]
    by_cases hl : val xs < val ys
    · simp only [hl, decide_true, cond_true]
      show tellZ c (subS ys xs) = _
      rw [subS_form fy fx (Nat.le_of_lt hl), tell_lim, Int.add_comm, add_sg_diff (fun e => h e.symm) (Nat.le_of_lt hl)]
    · simp only [hl, decide_false, cond_false]
      show tellZ b (subS xs ys) = _
      rw [subS_form fx fy (by omega), tell_lim, add_sg_diff h (by omega)]
theorem Add_v (b c : Bool) (xs ys : List Nat) : num_Add.v b xs c ys = twoZ addI (b, xs) (c, ys) := by
  unfold num_Add.v num_Add.D1.v twoZ
  rw [Form_v, Form_v]
  by_cases f : FrmZ (b, xs)
  · by_cases f2 : FrmZ (c, ys)
    · simp only [f, f2, decide_true, letV, Bool.not_true, cond_false, and_self, if_true]
      exact Add_D2 f.1 f2.1 _ _
    · simp only [f, f2, decide_true, decide_false, letV, Bool.not_true, Bool.not_false, cond_false, cond_true, and_false, if_false]; rfl
  · simp only [f, decide_false, letV, Bool.not_false, cond_true, false_and, if_false]; rfl
theorem Mul_v (b c : Bool) (xs ys : List Nat) : num_Mul.v b xs c ys = twoZ mulI (b, xs) (c, ys) := by
  unfold num_Mul.v num_Mul.D1.v num_Mul.D2.v twoZ
  rw [Form_v, Form_v]
  by_cases f : FrmZ (b, xs)
  · by_cases f2 : FrmZ (c, ys)
    · simp only [f, f2, decide_true, letV, Bool.not_true, cond_false, and_self, if_true]
      show tellZ (!(b == c)) (mulS xs ys) = zlim (sg b (val xs) * sg c (val ys))
      unfold mulS
      rw [if_pos ⟨f.1, f2.1⟩, tell_lim, mul_sg]
      have : (!(b == c)) = xor b c := by cases b <;> cases c <;> rfl
      rw [this]
    · simp only [f, f2, decide_true, decide_false, letV, Bool.not_true, Bool.not_false, cond_false, cond_true, and_false, if_false]; rfl
  · simp only [f, decide_false, letV, Bool.not_false, cond_true, false_and, if_false]; rfl
theorem cmp_sg {b c : Bool} {A B : Nat} (hb : b = true → A ≠ 0) (hc : c = true → B ≠ 0) : cmpZ (sg b A) (sg c B) = if b = true ∧ c = false then -1 else if b = false ∧ c = true then 1 else if b = true then cmpI B A else cmpI A B := by
  unfold cmpZ cmpI sg
  cases b <;> cases c
  · simp only [Bool.false_eq_true, and_false, if_false, and_true]
    by_cases h : A < B
    · simp [h]
    · simp only [h, if_false, Int.ofNat_lt, Int.natCast_inj]
  · simp only [Bool.false_eq_true, if_false, and_self, if_true, reduceCtorEq]
    have := hc rfl
    rw [if_neg (by omega), if_neg (by omega)]
  · simp only [if_true, Bool.false_eq_true, if_false, and_self, reduceCtorEq]
    have := hb rfl
    rw [if_pos (by omega)]
  · simp only [if_true, reduceCtorEq, and_false, false_and, if_false]
    by_cases h : B < A
    · rw [if_pos (by omega), if_pos h]
    · rw [if_neg (by omega), if_neg h]
      by_cases h2 : B = A
      · rw [if_pos (by omega), if_pos h2]
      · rw [if_neg (by omega), if_neg h2]
theorem frmZ_ne {b : Bool} {xs : List Nat} (f : FrmZ (b, xs)) : b = true → val xs ≠ 0 := fun h h0 => f.2 ⟨h, (val_nil_iff f.1).mp h0⟩
theorem Cmp_v (b c : Bool) (xs ys : List Nat) : num_Cmp.v b xs c ys = cmpS (b, xs) (c, ys) := by
  unfold num_Cmp.v num_Cmp.D1.v cmpS
  rw [Form_v, Form_v]
  by_cases f : FrmZ (b, xs)
  · by_cases f2 : FrmZ (c, ys)
    · simp only [f, f2, decide_true, letV, Bool.not_true, cond_false, and_self, if_true]
      rw [zi_sg, zi_sg]
      show _ = (cmpZ (sg b (val xs)) (sg c (val ys)), 0)
      rw [cmp_sg (frmZ_ne f) (frmZ_ne f2)]
      cases b <;> cases c <;> simp [num_Cmp.D2.v, num_Cmp.D3.v]
    · simp only [f, f2, decide_true, decide_false, letV, Bool.not_true, Bool.not_false, cond_false, cond_true, and_false, if_false]
  · simp only [f, decide_false, letV, Bool.not_false, cond_true, false_and, if_false]
theorem Small_v {b : Bool} {xs : List Nat} (hw : Words xs) : num_Small.v b xs = smaS (b, xs) := by
  unfold num_Small.v num_Small.D1.v smaS
  rw [Form_v]
  by_cases f : FrmZ (b, xs)
  · simp only [f, decide_true, letV, Bool.not_true, cond_false, if_true]
    rw [zi_sg]
    show _ = if -9223372036854775808 ≤ sg b (val xs) ∧ sg b (val xs) < 9223372036854775808 then (sg b (val xs), 0) else (0, 5)
    match xs, hw, f with
    | [], _, _ => rw [show val [] = 0 from rfl, sg_zero]; rfl
    | [w], hw, f =>
      have hw := hw w (by simp)
      have h0 : w ≠ 0 := by
        intro e; subst e
        have := f.1.2
        simp [trimL] at this
      have e1 : val [w] = w := by simp [val]
      rw [e1]
      have e2 : ([w] : List Nat).getD 0 0 = w := rfl
      simp only [List.length_singleton, e2]
      unfold num_Small.D2.v
      have c0 : (((1 : Nat) : Int) == 0) = false := rfl
      have c1 : decide (((1 : Nat) : Int) > 1) = false := rfl
      rw [c0, c1]
      simp only [cond_false]
      by_cases h1 : w > 9223372036854775808
      · have : decide (((w : Nat) : Int) > 9223372036854775808) = true := by simp; omega
        rw [this]; simp only [cond_true]
        rw [if_neg]
        unfold sg; cases b <;> simp <;> omega
      · have : decide (((w : Nat) : Int) > 9223372036854775808) = false := by simp; omega
        rw [this]; simp only [cond_false]
        by_cases h2 : w = 9223372036854775808
        · subst h2
          cases b
          · rfl
          · simp only [sg, if_true]; rfl
        · have : (((w : Nat) : Int) == 9223372036854775808) = false := by simp; omega
          rw [this]; simp only [cond_false]
          cases b
          · simp only [cond_false, sg, Bool.false_eq_true, if_false]
            rw [wrap_i64 (by omega) (by omega), if_pos (by omega)]
          · simp only [cond_true, sg, if_true]
            rw [wrap_u64, if_pos (by omega)]
            have e3 : (0 - ((w : Nat) : Int)) % 18446744073709551616 = 18446744073709551616 - (w : Int) := by omega
            rw [e3]
            have e4 : IntKind.i64.wrap (18446744073709551616 - (w : Int)) = -(w : Int) := by
              have e1 : (2 : Int) ^ 64 = 18446744073709551616 := by decide
              have e2 : (2 : Int) ^ (64 - 1) = 9223372036854775808 := by decide
              simp only [IntKind.wrap, IntKind.bits, IntKind.signed, Bool.true_and, e1, e2]
              rw [if_pos (by simp; omega)]; omega
            rw [e4]
    | w :: x :: t, hw, f =>
      have hl : (w :: x :: t).length = t.length + 2 := rfl
      have hb : 18446744073709551616 ≤ val (w :: x :: t) := by
        have hlt := val_lt_len (xs := [18446744073709551615]) (ys := w :: x :: t) (by intro y hy; simp at hy; omega) f.1.2 (by simp)
        have : val [18446744073709551615] = 18446744073709551615 := by simp [val]
        omega
      generalize val (w :: x :: t) = V at hb ⊢
      rw [hl]
      have c0 : (((t.length + 2 : Nat) : Int) == 0) = false := by simp; omega
      have c1 : decide (((t.length + 2 : Nat) : Int) > 1) = true := by simp; omega
      rw [c0, c1]
      simp only [cond_false, cond_true]
      rw [if_neg]
      unfold sg; cases b <;> simp <;> omega
  · simp only [f, decide_false, letV, Bool.not_false, cond_true, if_false]
/-! ### quotients -/
/-! ### the contracts -/
section
variable {a b : Option Addr} {c d l m : Nat} {xs ys : List Nat} {h : Hp} {x y : Int} {p q : Bool}
theorem num_Of.hs (i : In .i64 x) : HC num_Of.id #[.int .i64 x] h fun v h' => Keep h h' ∧ sZW h h' v (zz x) := by rw [← Of_v i]; exact num_Of.hv i
theorem num_Form.hs (r : Rd h a c xs) (e : l = xs.length) : HC num_Form.id #[.agg #[.bool p, .slice a l c]] h fun v h' => Keep h h' ∧ sBool h h' v (decide (FrmZ (p, xs))) := by rw [← Form_v]; exact num_Form.hv r e
theorem num_Sign.hs (r : Rd h a c xs) (e : l = xs.length) : HC num_Sign.id #[.agg #[.bool p, .slice a l c]] h fun v h' => Keep h h' ∧ sI .i64 h h' v (cmpZ (zi (p, xs)) 0) := by rw [← Sign_v]; exact num_Sign.hv r e
theorem num_Small.hs (r : Rd h a c xs) (e : l = xs.length) : HC num_Small.id #[.agg #[.bool p, .slice a l c]] h fun v h' => Keep h h' ∧ s2 (sI .i64) (sI .i64) h h' v (smaS (p, xs)) := by rw [← Small_v r.words]; exact num_Small.hv r e
theorem num_Cmp.hs (r : Rd h a c xs) (e : l = xs.length) (s : Rd h b d ys) (f : m = ys.length) : HC num_Cmp.id #[.agg #[.bool p, .slice a l c], .agg #[.bool q, .slice b m d]] h fun v h' => Keep h h' ∧ s2 (sI .i64) (sI .i64) h h' v (cmpS (p, xs) (q, ys)) := by rw [← Cmp_v]; exact num_Cmp.hv r e s f
theorem num_Neg.hs (r : Rd h a c xs) (e : l = xs.length) : HC num_Neg.id #[.agg #[.bool p, .slice a l c]] h fun v h' => Keep h h' ∧ s2 sZW (sI .i64) h h' v (negZ (p, xs)) := by rw [← Neg_v]; exact num_Neg.hv r e
theorem num_Add.hs (r : Rd h a c xs) (e : l = xs.length) (s : Rd h b d ys) (f : m = ys.length) : HC num_Add.id #[.agg #[.bool p, .slice a l c], .agg #[.bool q, .slice b m d]] h fun v h' => Keep h h' ∧ s2 sZW (sI .i64) h h' v (twoZ addI (p, xs) (q, ys)) := by rw [← Add_v]; exact num_Add.hv r e s f
theorem num_Mul.hs (r : Rd h a c xs) (e : l = xs.length) (s : Rd h b d ys) (f : m = ys.length) : HC num_Mul.id #[.agg #[.bool p, .slice a l c], .agg #[.bool q, .slice b m d]] h fun v h' => Keep h h' ∧ s2 sZW (sI .i64) h h' v (twoZ mulI (p, xs) (q, ys)) := by rw [← Mul_v]; exact num_Mul.hv r e s f
end
end Go.Proofs.YtanlcacaihdceaaGreatDoor.G

/- Functions without loops as functions of values. Written by a program of this work. -/
namespace Go.Proofs.YtanlcacaihdceaaGreatDoor.G
open Go.Gv
set_option linter.unusedVariables false
set_option maxRecDepth 100000
namespace num_Sub
def D2.v (b2_0 : Bool) (xs2_1 : List Nat) (b3_0 : Bool) (xs3_1 : List Nat) (b4_0 : Bool) (xs4_1 : List Nat) : ((Bool × List Nat) × Int) :=
  letV (twoZ addI (b2_0, xs2_1) ((((!b3_0) && decide (0 < xs3_1.length))), xs3_1)) fun p_8 =>
  ((p_8.1.1, p_8.1.2), p_8.2)
theorem D2.hv {R : Rt} {h0 h : Hp} (k0 : Keep h0 h) {b2_0 : Bool} {a2_1 : Option Addr} {c2_1 : Nat} {xs2_1 : List Nat} (r2_1 : Rd h a2_1 c2_1 xs2_1) {B2 : Nat} (bx2 : BlkV h B2 [.bool b2_0, .slice a2_1 xs2_1.length c2_1]) (o2 : h0.size ≤ B2) {b3_0 : Bool} {a3_1 : Option Addr} {c3_1 : Nat} {xs3_1 : List Nat} (r3_1 : Rd h a3_1 c3_1 xs3_1) {B3 : Nat} (bx3 : BlkV h B3 [.bool b3_0, .slice a3_1 xs3_1.length c3_1]) (o3 : h0.size ≤ B3) {b4_0 : Bool} {a4_1 : Option Addr} {c4_1 : Nat} {xs4_1 : List Nat} (r4_1 : GotE eU64 h0 h a4_1 c4_1 xs4_1) {B4 : Nat} (bx4 : BlkV h B4 [.bool b4_0, .slice a4_1 xs4_1.length c4_1]) (o4 : h0.size ≤ B4) (d2q3 : B2 ≠ B3) (d2q4 : B2 ≠ B4) (d3q4 : B3 ≠ B4) (g : Post (s2 sZW (sI .i64)) h0 R (D2.v b2_0 xs2_1 b3_0 xs3_1 b4_0 xs4_1)) : D2.t R (⟨B2, 0, none⟩ : Addr) (⟨B3, 0, none⟩ : Addr) (⟨B4, 0, none⟩ : Addr) h := by
  have kh := Keep.refl h
  have lt2 := bx2.lt
  have lt3 := bx3.lt
  have lt4 := bx4.lt
  unfold D2.v at g
  unfold D2.t
  refine ⟨blkLt rfl (lt2), ?_⟩
  refine ldA bx2 (base_add _ _) rfl ?_
  refine gBool_intro rfl ?_
  refine ldA bx2 (base_add _ _) rfl ?_
  refine gSlice_intro rfl ?_
  refine ⟨blkLt (base_add _ _) (lt3), ?_⟩
  refine ldA bx3 (base_add _ _) rfl ?_
  refine gBool_intro rfl ?_
  refine ⟨blkLt (base_add _ _) (lt3), ?_⟩
  refine ldA bx3 (base_add _ _) rfl ?_
  refine gSlice_intro rfl ?_
  refine hc_intro (num_whole.hv _ _ _ _ _) fun v h_1 ⟨k_1, s⟩ => ?_
  subst s
  refine gAgg_intro rfl (uncons_intro (gBool_intro rfl (uncons_intro (gSlice_intro rfl (unnil_intro (?_))))))
  have m_1 := k_1.tame
  have bx2 := bx2.keep k_1
  have bx3 := bx3.keep k_1
  have bx4 := bx4.keep k_1
  have k0 := k0.trans k_1
  have kh := kh.trans k_1
  refine ⟨k_1.preLe (Nat.le_refl _), ?_⟩
  refine hc_intro (num_Add.hs (r2_1.tame (m_1)) rfl (r3_1.tame (m_1)) rfl) fun v h_2 ⟨k_2, s⟩ => ?_
  obtain ⟨p_8, hp_8⟩ : ∃ p, p = twoZ addI (b2_0, xs2_1) ((((!b3_0) && decide (0 < xs3_1.length))), xs3_1) := ⟨_, rfl⟩
  rw [← hp_8] at s
  replace g := lift_let2 hp_8 g
  obtain ⟨_, _, rfl, ⟨a_8_0, c_8_0, rfl, r_8_0⟩, ⟨rfl, i_8_1⟩⟩ := s
  refine gTup_intro rfl (uncons_intro (gAgg_intro rfl (uncons_intro (gBool_intro rfl (uncons_intro (gSlice_intro rfl (unnil_intro (uncons_intro (gInt_intro rfl (unnil_intro (?_)))))))))))
  have r_8_0 := r_8_0.from k0.le
  have m_2 := k_2.tame
  have bx2 := bx2.keep k_2
  have bx3 := bx3.keep k_2
  have bx4 := bx4.keep k_2
  have k0 := k0.trans k_2
  have kh := kh.trans k_2
  refine ⟨k_2.preLe (m_1).le, ?_⟩
  refine stA bx4 (base_add _ _) rfl fun h_3 bx4 k_3 m_3 => ?_
  have bx2 := bx2.keepB d2q4 k_3
  have bx3 := bx3.keepB d3q4 k_3
  have k0 := KeepB.keep k0 k_3 o4
  refine stA bx4 (base_add _ _) rfl fun h_4 bx4 k_4 m_4 => ?_
  have bx2 := bx2.keepB d2q4 k_4
  have bx3 := bx3.keepB d3q4 k_4
  have k0 := KeepB.keep k0 k_4 o4
  refine ldA bx4 (base_add _ _) rfl ?_
  refine gBool_intro rfl ?_
  refine ldA bx4 (base_add _ _) rfl ?_
  refine gSlice_intro rfl ?_
  exact g _ _ k0 ⟨_, _, rfl, ⟨_, _, rfl, (r_8_0.tame (m_3.trans m_4))⟩, ⟨rfl, i_8_1⟩⟩
def D1.v (b0_0 : Bool) (xs0_1 : List Nat) (b1_0 : Bool) (xs1_1 : List Nat) : ((Bool × List Nat) × Int) :=
  bif (!(decide (FrmZ (b0_0, xs0_1)))) then
    ((false, ([] : List Nat)), (2 : Int))
  else
    bif (!(decide (FrmZ (b1_0, xs1_1)))) then
      ((false, ([] : List Nat)), (2 : Int))
    else
      D2.v b0_0 xs0_1 b1_0 xs1_1 false ([] : List Nat)
theorem D1.hv {R : Rt} {h0 h : Hp} (k0 : Keep h0 h) {b0_0 : Bool} {a0_1 : Option Addr} {c0_1 l0_1 : Nat} {xs0_1 : List Nat} (r0_1 : Rd h a0_1 c0_1 xs0_1) (e0_1 : l0_1 = xs0_1.length) {b1_0 : Bool} {a1_1 : Option Addr} {c1_1 l1_1 : Nat} {xs1_1 : List Nat} (r1_1 : Rd h a1_1 c1_1 xs1_1) (e1_1 : l1_1 = xs1_1.length) (g : Post (s2 sZW (sI .i64)) h0 R (D1.v b0_0 xs0_1 b1_0 xs1_1)) : D1.t R b0_0 a0_1 l0_1 c0_1 b1_0 a1_1 l1_1 c1_1 h := by
  subst e0_1 e1_1
  have kh := Keep.refl h
  unfold D1.v at g
  unfold D1.t
  refine boxV fun h_1 bx_1 k_1 => ?_
  have o_1 : h0.size ≤ h.size := k0.le
  have oh_1 : h.size ≤ h.size := kh.le
  have lt_1 := bx_1.lt
  have m_1 := k_1.tame
  have k0 := k0.trans k_1
  have kh := kh.trans k_1
  refine boxV fun h_2 bx_2 k_2 => ?_
  have d_1q_2 : h.size ≠ h_1.size := Nat.ne_of_lt bx_1.lt
  have o_2 : h0.size ≤ h_1.size := k0.le
  have oh_2 : h.size ≤ h_1.size := kh.le
  have lt_2 := bx_2.lt
  have m_2 := k_2.tame
  have bx_1 := bx_1.keep k_2
  have k0 := k0.trans k_2
  have kh := kh.trans k_2
  refine boxV fun h_3 bx_3 k_3 => ?_
  have d_1q_3 : h.size ≠ h_2.size := Nat.ne_of_lt bx_1.lt
  have d_2q_3 : h_1.size ≠ h_2.size := Nat.ne_of_lt bx_2.lt
  have o_3 : h0.size ≤ h_2.size := k0.le
  have oh_3 : h.size ≤ h_2.size := kh.le
  have lt_3 := bx_3.lt
  have m_3 := k_3.tame
  have bx_1 := bx_1.keep k_3
  have bx_2 := bx_2.keep k_3
  have k0 := k0.trans k_3
  have kh := kh.trans k_3
  refine ldA bx_1 (base_add _ _) rfl ?_
  refine gBool_intro rfl ?_
  refine ldA bx_1 (base_add _ _) rfl ?_
  refine gSlice_intro rfl ?_
  refine hc_intro (num_Form.hs (r0_1.tame (m_1.trans (m_2.trans m_3))) rfl) fun v h_4 ⟨k_4, s⟩ => ?_
  obtain rfl := s
  refine gBool_intro rfl (?_)
  have m_4 := k_4.tame
  have bx_1 := bx_1.keep k_4
  have bx_2 := bx_2.keep k_4
  have bx_3 := bx_3.keep k_4
  have k0 := k0.trans k_4
  have kh := kh.trans k_4
  refine lift_not g (fun q_5 g => ?_) (fun q_5 g => ?_)
  · refine stA bx_3 (base_add _ _) rfl fun h_5 bx_3 k_5 m_5 => ?_
    have bx_1 := bx_1.keepB d_1q_3 k_5
    have bx_2 := bx_2.keepB d_2q_3 k_5
    have k0 := KeepB.keep k0 k_5 o_3
    have kh := KeepB.keep kh k_5 oh_3
    refine stA bx_3 (base_add _ _) rfl fun h_6 bx_3 k_6 m_6 => ?_
    have bx_1 := bx_1.keepB d_1q_3 k_6
    have bx_2 := bx_2.keepB d_2q_3 k_6
    have k0 := KeepB.keep k0 k_6 o_3
    have kh := KeepB.keep kh k_6 oh_3
    refine ldA bx_3 (base_add _ _) rfl ?_
    refine gBool_intro rfl ?_
    refine ldA bx_3 (base_add _ _) rfl ?_
    refine gSlice_intro rfl ?_
    exact g _ _ k0 ⟨_, _, rfl, ⟨_, _, rfl, (GotE.nil _ _)⟩, ⟨rfl, (show In .i64 (2 : Int) by decide)⟩⟩
  · refine ldA bx_2 (base_add _ _) rfl ?_
    refine gBool_intro rfl ?_
    refine ldA bx_2 (base_add _ _) rfl ?_
    refine gSlice_intro rfl ?_
    refine hc_intro (num_Form.hs (r1_1.tame (m_1.trans (m_2.trans (m_3.trans m_4)))) rfl) fun v h_5 ⟨k_5, s⟩ => ?_
    obtain rfl := s
    refine gBool_intro rfl (?_)
    have m_5 := k_5.tame
    have bx_1 := bx_1.keep k_5
    have bx_2 := bx_2.keep k_5
    have bx_3 := bx_3.keep k_5
    have k0 := k0.trans k_5
    have kh := kh.trans k_5
    refine lift_not g (fun q_7 g => ?_) (fun q_7 g => ?_)
    · refine stA bx_3 (base_add _ _) rfl fun h_6 bx_3 k_6 m_6 => ?_
      have bx_1 := bx_1.keepB d_1q_3 k_6
      have bx_2 := bx_2.keepB d_2q_3 k_6
      have k0 := KeepB.keep k0 k_6 o_3
      have kh := KeepB.keep kh k_6 oh_3
      refine stA bx_3 (base_add _ _) rfl fun h_7 bx_3 k_7 m_7 => ?_
      have bx_1 := bx_1.keepB d_1q_3 k_7
      have bx_2 := bx_2.keepB d_2q_3 k_7
      have k0 := KeepB.keep k0 k_7 o_3
      have kh := KeepB.keep kh k_7 oh_3
      refine ldA bx_3 (base_add _ _) rfl ?_
      refine gBool_intro rfl ?_
      refine ldA bx_3 (base_add _ _) rfl ?_
      refine gSlice_intro rfl ?_
      exact g _ _ k0 ⟨_, _, rfl, ⟨_, _, rfl, (GotE.nil _ _)⟩, ⟨rfl, (show In .i64 (2 : Int) by decide)⟩⟩
    · exact D2.hv k0 (r0_1.tame (m_1.trans (m_2.trans (m_3.trans (m_4.trans m_5))))) bx_1 o_1 (r1_1.tame (m_1.trans (m_2.trans (m_3.trans (m_4.trans m_5))))) bx_2 o_2 (GotE.nil _ _) bx_3 o_3 d_1q_2 d_1q_3 d_2q_3 g
def v (b0_0 : Bool) (xs0_1 : List Nat) (b1_0 : Bool) (xs1_1 : List Nat) : ((Bool × List Nat) × Int) := D1.v b0_0 xs0_1 b1_0 xs1_1
theorem hv {h : Hp} {b0_0 : Bool} {a0_1 : Option Addr} {c0_1 l0_1 : Nat} {xs0_1 : List Nat} (r0_1 : Rd h a0_1 c0_1 xs0_1) (e0_1 : l0_1 = xs0_1.length) {b1_0 : Bool} {a1_1 : Option Addr} {c1_1 l1_1 : Nat} {xs1_1 : List Nat} (r1_1 : Rd h a1_1 c1_1 xs1_1) (e1_1 : l1_1 = xs1_1.length) : HC id #[.agg #[.bool b0_0, .slice a0_1 l0_1 c0_1], .agg #[.bool b1_0, .slice a1_1 l1_1 c1_1]] h fun v_ h_ => Keep h h_ ∧ (s2 sZW (sI .i64)) h h_ v_ (v b0_0 xs0_1 b1_0 xs1_1) :=
  ok (D1.hv (Keep.refl _) r0_1 e0_1 r1_1 e1_1 fun v h' k s => ⟨k, s⟩)
end num_Sub








end Go.Proofs.YtanlcacaihdceaaGreatDoor.G

/- The other calls of layer 4 over values. -/
namespace Go.Proofs.YtanlcacaihdceaaGreatDoor.G
open Go.Gv
set_option linter.unusedVariables false
set_option maxRecDepth 100000
theorem frmZ_neg {c : Bool} {ys : List Nat} (f : FrmZ (c, ys)) : FrmZ ((!c) && decide (0 < ys.length), ys) := by
  refine ⟨f.1, ?_⟩
  rintro ⟨h1, h2⟩
  have h2 : ys = [] := h2
  subst h2; simp at h1
theorem zi_neg (c : Bool) (ys : List Nat) : zi ((!c) && decide (0 < ys.length), ys) = -zi (c, ys) := by
  rw [zi_sg, zi_sg, neg_sg]
  show sg _ (val ys) = sg (!c) (val ys)
  cases ys with
  | nil => rw [show val [] = 0 from rfl, sg_zero, sg_zero]
  | cons y ys => simp
theorem Sub_v (b c : Bool) (xs ys : List Nat) : num_Sub.v b xs c ys = twoZ subI (b, xs) (c, ys) := by
  unfold num_Sub.v num_Sub.D1.v num_Sub.D2.v
  by_cases f : FrmZ (b, xs)
  · by_cases f2 : FrmZ (c, ys)
    · simp only [f, f2, decide_true, letV, Bool.not_true, cond_false]
      show twoZ addI (b, xs) ((!c) && decide (0 < ys.length), ys) = _
      unfold twoZ
      rw [if_pos ⟨f, frmZ_neg f2⟩, if_pos ⟨f, f2⟩, zi_neg]
      rfl
    · simp only [f, f2, decide_true, decide_false, letV, Bool.not_true, Bool.not_false, cond_false, cond_true, twoZ, and_false, if_false]; rfl
  · simp only [f, decide_false, letV, Bool.not_false, cond_true, twoZ, false_and, if_false]; rfl
section
variable {a b : Option Addr} {c d l m : Nat} {xs ys : List Nat} {h : Hp} {x y : Int} {p q : Bool}
theorem num_Sub.hs (r : Rd h a c xs) (e : l = xs.length) (s : Rd h b d ys) (f : m = ys.length) : HC num_Sub.id #[.agg #[.bool p, .slice a l c], .agg #[.bool q, .slice b m d]] h fun v h' => Keep h h' ∧ s2 sZW (sI .i64) h h' v (twoZ subI (p, xs) (q, ys)) := by rw [← Sub_v]; exact num_Sub.hv r e s f
end
end Go.Proofs.YtanlcacaihdceaaGreatDoor.G

/- The reference's digits in the form that the lifted functions use. -/
namespace Go.Proofs.YtanlcacaihdceaaGreatDoor.G
open Go.Gv
set_option linter.unusedVariables false
section
variable {a b : Option Addr} {c d l m X Y : Nat} {xs ys : List Nat} {h : Hp} {x y : Int}
theorem gnomonref01_Norm.hv (r : RdE eU32 h a c (D.digs X)) (e : l = (D.digs X).length) : HC gnomonref01_Norm.id #[.slice a l c] h fun v h' => Keep h h' ∧ sD h h' v X := by
  have := rNorm_spec r e
  rw [D.val_digs] at this; exact this
theorem gnomonref01_From.hv (r : Rd h a c xs) (e : l = xs.length) : HC gnomonref01_From.id #[.slice a l c] h fun v h' => Keep h h' ∧ sD h h' v (val xs) := From_spec r e
theorem gnomonref01_To.hv (r : RdE eU32 h a c (D.digs X)) (e : l = (D.digs X).length) : HC gnomonref01_To.id #[.slice a l c] h fun v h' => Keep h h' ∧ sW h h' v (digs X) := To_spec r e
theorem gnomonref01_Same.hv (r : Rd h a c xs) (e : l = xs.length) (s : Rd h b d ys) (f : m = ys.length) : HQC gnomonref01_Same.id #[.slice a l c, .slice b m d] h fun v => sBool h h v (decide (xs = ys)) := Same_spec r s e f
end
end Go.Proofs.YtanlcacaihdceaaGreatDoor.G

/- Functions without loops as functions of values. Written by a program of this work. -/
namespace Go.Proofs.YtanlcacaihdceaaGreatDoor.G
open Go.Gv
set_option linter.unusedVariables false
set_option maxRecDepth 100000
namespace gnomonref04_Mk
def D1.v (b0 : Bool) (X1 : Nat) : (Bool × Nat) :=
  letV (X1) fun p_2 =>
  bif b0 then
    ((decide (((((D.digs p_2).length : Nat) : Int)) > (0 : Int))), p_2)
  else
    (false, p_2)
theorem D1.hv {R : Rt} {h0 h : Hp} (k0 : Keep h0 h) {b0 : Bool} {a1 : Option Addr} {c1 l1 : Nat} {X1 : Nat} (r1 : RdE eU32 h a1 c1 (D.digs X1)) (e1 : l1 = (D.digs X1).length) (g : Post sZD h0 R (D1.v b0 X1)) : D1.t R b0 a1 l1 c1 h := by
  subst e1
  have kh := Keep.refl h
  unfold D1.v at g
  unfold D1.t
  refine boxV fun h_1 bx_1 k_1 => ?_
  have o_1 : h0.size ≤ h.size := k0.le
  have oh_1 : h.size ≤ h.size := kh.le
  have lt_1 := bx_1.lt
  have m_1 := k_1.tame
  have k0 := k0.trans k_1
  have kh := kh.trans k_1
  refine hc_intro (gnomonref01_Norm.hv (r1.tame (m_1)) rfl) fun v h_2 ⟨k_2, s⟩ => ?_
  obtain ⟨p_2, hp_2⟩ : ∃ p, p = X1 := ⟨_, rfl⟩
  rw [← hp_2] at s
  replace g := lift_let2 hp_2 g
  obtain ⟨a_2, c_2, rfl, r_2⟩ := s
  refine gSlice_intro rfl (?_)
  have r_2 := r_2.from k0.le
  have m_2 := k_2.tame
  have bx_1 := bx_1.keep k_2
  have k0 := k0.trans k_2
  have kh := kh.trans k_2
  refine lift_bool g (fun q_3 g => ?_) (fun q_3 g => ?_)
  · refine stA bx_1 (base_add _ _) rfl fun h_3 bx_1 k_3 m_3 => ?_
    have k0 := KeepB.keep k0 k_3 o_1
    have kh := KeepB.keep kh k_3 oh_1
    refine stA bx_1 (base_add _ _) rfl fun h_4 bx_1 k_4 m_4 => ?_
    have k0 := KeepB.keep k0 k_4 o_1
    have kh := KeepB.keep kh k_4 oh_1
    refine ldA bx_1 (base_add _ _) rfl ?_
    refine gBool_intro rfl ?_
    refine ldA bx_1 (base_add _ _) rfl ?_
    refine gSlice_intro rfl ?_
    exact g _ _ k0 ⟨_, _, rfl, (r_2.tame (m_3.trans m_4))⟩
  · refine stA bx_1 (base_add _ _) rfl fun h_3 bx_1 k_3 m_3 => ?_
    have k0 := KeepB.keep k0 k_3 o_1
    have kh := KeepB.keep kh k_3 oh_1
    refine stA bx_1 (base_add _ _) rfl fun h_4 bx_1 k_4 m_4 => ?_
    have k0 := KeepB.keep k0 k_4 o_1
    have kh := KeepB.keep kh k_4 oh_1
    refine ldA bx_1 (base_add _ _) rfl ?_
    refine gBool_intro rfl ?_
    refine ldA bx_1 (base_add _ _) rfl ?_
    refine gSlice_intro rfl ?_
    exact g _ _ k0 ⟨_, _, rfl, (r_2.tame (m_3.trans m_4))⟩
def v (b0 : Bool) (X1 : Nat) : (Bool × Nat) := D1.v b0 X1
theorem hv {h : Hp} {b0 : Bool} {a1 : Option Addr} {c1 l1 : Nat} {X1 : Nat} (r1 : RdE eU32 h a1 c1 (D.digs X1)) (e1 : l1 = (D.digs X1).length) : HC id #[.bool b0, .slice a1 l1 c1] h fun v_ h_ => Keep h h_ ∧ sZD h h_ v_ (v b0 X1) :=
  ok (D1.hv (Keep.refl _) r1 e1 fun v h' k s => ⟨k, s⟩)
end gnomonref04_Mk

namespace gnomonlaw04_same
def D1.v (b0_0 : Bool) (xs0_1 : List Nat) (b1_0 : Bool) (xs1_1 : List Nat) : Bool :=
  bif (b0_0 == b1_0) then
    (decide (xs0_1 = xs1_1))
  else
    false
theorem D1.hv {R : Rt} {h0 h : Hp} (k0 : Keep h0 h) {b0_0 : Bool} {a0_1 : Option Addr} {c0_1 l0_1 : Nat} {xs0_1 : List Nat} (r0_1 : Rd h a0_1 c0_1 xs0_1) (e0_1 : l0_1 = xs0_1.length) {b1_0 : Bool} {a1_1 : Option Addr} {c1_1 l1_1 : Nat} {xs1_1 : List Nat} (r1_1 : Rd h a1_1 c1_1 xs1_1) (e1_1 : l1_1 = xs1_1.length) (g : Post sBool h0 R (D1.v b0_0 xs0_1 b1_0 xs1_1)) : D1.t R b0_0 a0_1 l0_1 c0_1 b1_0 a1_1 l1_1 c1_1 h := by
  subst e0_1 e1_1
  have kh := Keep.refl h
  unfold D1.v at g
  unfold D1.t
  refine boxV fun h_1 bx_1 k_1 => ?_
  have o_1 : h0.size ≤ h.size := k0.le
  have oh_1 : h.size ≤ h.size := kh.le
  have lt_1 := bx_1.lt
  have m_1 := k_1.tame
  have k0 := k0.trans k_1
  have kh := kh.trans k_1
  refine boxV fun h_2 bx_2 k_2 => ?_
  have d_1q_2 : h.size ≠ h_1.size := Nat.ne_of_lt bx_1.lt
  have o_2 : h0.size ≤ h_1.size := k0.le
  have oh_2 : h.size ≤ h_1.size := kh.le
  have lt_2 := bx_2.lt
  have m_2 := k_2.tame
  have bx_1 := bx_1.keep k_2
  have k0 := k0.trans k_2
  have kh := kh.trans k_2
  refine ldA bx_1 (base_add _ _) rfl ?_
  refine gBool_intro rfl ?_
  refine ldA bx_2 (base_add _ _) rfl ?_
  refine gBool_intro rfl ?_
  refine lift_bool g (fun q_3 g => ?_) (fun q_3 g => ?_)
  · refine ldA bx_1 (base_add _ _) rfl ?_
    refine gSlice_intro rfl ?_
    refine ldA bx_2 (base_add _ _) rfl ?_
    refine gSlice_intro rfl ?_
    refine hq_intro (gnomonref01_Same.hv (r0_1.tame (m_1.trans m_2)) rfl (r1_1.tame (m_1.trans m_2)) rfl) fun v s => ?_
    obtain rfl := s
    refine gBool_intro rfl (?_)
    exact g _ _ k0 rfl
  · exact g _ _ k0 rfl
def v (b0_0 : Bool) (xs0_1 : List Nat) (b1_0 : Bool) (xs1_1 : List Nat) : Bool := D1.v b0_0 xs0_1 b1_0 xs1_1
theorem hv {h : Hp} {b0_0 : Bool} {a0_1 : Option Addr} {c0_1 l0_1 : Nat} {xs0_1 : List Nat} (r0_1 : Rd h a0_1 c0_1 xs0_1) (e0_1 : l0_1 = xs0_1.length) {b1_0 : Bool} {a1_1 : Option Addr} {c1_1 l1_1 : Nat} {xs1_1 : List Nat} (r1_1 : Rd h a1_1 c1_1 xs1_1) (e1_1 : l1_1 = xs1_1.length) : HC id #[.agg #[.bool b0_0, .slice a0_1 l0_1 c0_1], .agg #[.bool b1_0, .slice a1_1 l1_1 c1_1]] h fun v_ h_ => Keep h h_ ∧ sBool h h_ v_ (v b0_0 xs0_1 b1_0 xs1_1) :=
  ok (D1.hv (Keep.refl _) r0_1 e0_1 r1_1 e1_1 fun v h' k s => ⟨k, s⟩)
end gnomonlaw04_same

end Go.Proofs.YtanlcacaihdceaaGreatDoor.G

/- The reference's whole numbers: making one. -/
namespace Go.Proofs.YtanlcacaihdceaaGreatDoor.G
open Go.Gv
set_option linter.unusedVariables false
theorem dlenZ (X : Nat) : (D.digs X).length = 0 ↔ X = 0 := by
  constructor
  · intro h
    have h2 : D.digs X = [] := List.length_eq_zero_iff.mp h
    rw [← D.val_digs X, h2]; rfl
  · intro h; subst h; simp [D.digs_zero]
theorem Mk_v (b : Bool) (X : Nat) : gnomonref04_Mk.v b X = dz (sg b X) := by
  unfold gnomonref04_Mk.v gnomonref04_Mk.D1.v
  rw [dz_sg]
  have e : decide ((((D.digs X).length : Nat) : Int) > 0) = decide (X ≠ 0) := by
    rw [decide_eq_decide]; have := dlenZ X; omega
  simp only [letV, e]
  cases b <;> rfl
theorem same_v (b c : Bool) (xs ys : List Nat) : gnomonlaw04_same.v b xs c ys = decide ((b, xs) = (c, ys)) := by
  unfold gnomonlaw04_same.v gnomonlaw04_same.D1.v
  by_cases h : b = c
  · subst h; simp
  · have : (b == c) = false := by simp [h]
    rw [this]; simp [h]
section
variable {a b : Option Addr} {c d l m X : Nat} {xs ys : List Nat} {h : Hp} {x y : Int} {p q : Bool}
theorem gnomonref04_Mk.hs (r : RdE eU32 h a c (D.digs X)) (e : l = (D.digs X).length) : HC gnomonref04_Mk.id #[.bool p, .slice a l c] h fun v h' => Keep h h' ∧ sZD h h' v (dz (sg p X)) := by rw [← Mk_v]; exact gnomonref04_Mk.hv r e
theorem gnomonlaw04_same.hs (r : Rd h a c xs) (e : l = xs.length) (s : Rd h b d ys) (f : m = ys.length) : HC gnomonlaw04_same.id #[.agg #[.bool p, .slice a l c], .agg #[.bool q, .slice b m d]] h fun v h' => Keep h h' ∧ sBool h h' v (decide ((p, xs) = (q, ys))) := by rw [← same_v]; exact gnomonlaw04_same.hv r e s f
end
end Go.Proofs.YtanlcacaihdceaaGreatDoor.G
