/- What Sub, Len64 and Bits answer, by values of lists. -/
import Derived.Test.YtnbpbojcjihboaaNatSpec2
namespace Go.Proofs.Ytnbpbojcjihboaa.G
open Go.Gv
set_option maxRecDepth 100000
/-- a - b; errors as the code gives them. -/
def subS (xs ys : List Nat) : List Nat × Int := if Frm xs ∧ Frm ys then (if val xs < val ys then ([], 3) else lim (val xs - val ys)) else ([], 2)
theorem Sub_walk {R : Rt} {a b : Option Addr} {c d l m z w : Nat} {xs ys : List Nat} {h0 : Hp} {q : Nat} (r : Rd h0 a c xs) (s : Rd h0 b d ys) (hl : l = xs.length) (hm : m = ys.length) (hq : h0.size ≤ q) (hx : xs.length ≤ 8192) (hz : z = xs.length) (hw : w = xs.length)
    (fs : List Nat) (g : ∀ v h', Keep h0 h' → Ans h' v (lim (val fs)) → R v h') :
    ∀ (k n ca : Nat) (zs : List Nat) (h : Hp), n + k = xs.length → ca ≤ 1 → zs.length = xs.length → Own h q zs → Keep h0 h → zs.take n ++ subL (xs.drop n) (ys.drop n) ca = fs →
      nat_Sub.L5.t R (k + 1) a l c b m d (some ⟨q, 0, none⟩) z w (ca : Int) (l : Int) (n : Int) h := by
  subst hl; subst hm
  intro k
  induction k with
  | zero =>
    intro n ca zs h hn hc hzs ho kp e
    unfold nat_Sub.L5.t nat_Sub.D6.t
    refine c_dec (fun hb => absurd hb (by omega)) fun _ => ?_
    have en : n = xs.length := by omega
    subst en
    rw [List.drop_length] at e
    have ez : zs = fs := by rw [← e, ← hzs, List.take_length]; simp [subL]
    subst ez
    unfold nat_Sub.D3.t
    refine hc_intro (told_spec (ho.rd (c := w) (by omega)) (by omega)) fun v h' ⟨e1, an⟩ => ?_
    subst e1
    refine an.elim fun a c r => ?_
    exact g _ _ kp ⟨_, _, rfl, r⟩
  | succ k ih =>
    intro n ca zs h hn hc hzs ho kp e
    have hxn : xs.getD n 0 < 18446744073709551616 := r.word n
    have hyn : ys.getD n 0 < 18446744073709551616 := s.word n
    have step : zs.take n ++ subL (xs.drop n) (ys.drop n) ca = (zs.set n ((xs.getD n 0 + 18446744073709551616 - ys.getD n 0 - ca) % 18446744073709551616)).take (n + 1) ++ subL (xs.drop (n + 1)) (ys.drop (n + 1)) (if xs.getD n 0 < ys.getD n 0 + ca then 1 else 0) := by
      rw [drop_getD (xs := xs) (j := n) (by omega), take_set_succ (by omega)]
      simp only [subL, headD_drop, List.tail_drop, List.append_assoc, List.cons_append, List.nil_append]
    rw [step] at e
    have hc' : (if xs.getD n 0 < ys.getD n 0 + ca then 1 else 0) ≤ 1 := by split <;> omega
    unfold nat_Sub.L5.t nat_Sub.D6.t
    refine c_dec (fun hb => ?_) fun hb => absurd (by omega) hb
    refine c_dec (fun hb => ?_) fun hb => ?_
    · refine at_intro (s.keep kp) (j := n) rfl rfl (by omega) ?_
      refine at_intro (r.keep kp) (j := n) rfl rfl (by omega) ?_
      refine sub_intro rfl rfl rfl hc hyn ?_
      refine put_intro ho (j := n) rfl (by omega) (by omega) rfl (by omega) fun o => ?_
      refine k_i64 ((n + 1 : Nat) : Int) (by omega) (by omega) (by omega) ?_
      exact ih (n + 1) _ _ _ (by omega) hc' (by rw [List.length_set]; omega) o (kp.set hq) e
    · refine at_intro (r.keep kp) (j := n) rfl rfl (by omega) ?_
      have hy0 : ys.getD n 0 = 0 := by simp [List.getD, show ys.length ≤ n by omega]
      rw [hy0] at e hc'
      refine sub_intro (b := 0) rfl rfl rfl hc (by omega) ?_
      refine put_intro ho (j := n) rfl (by omega) (by omega) rfl (by omega) fun o => ?_
      refine k_i64 ((n + 1 : Nat) : Int) (by omega) (by omega) (by omega) ?_
      exact ih (n + 1) _ _ _ (by omega) hc' (by rw [List.length_set]; omega) o (kp.set hq) e
theorem Sub_spec {a b : Option Addr} {c d l m : Nat} {xs ys : List Nat} {h : Hp} (r : Rd h a c xs) (s : Rd h b d ys) (hl : l = xs.length) (hm : m = ys.length) :
    HC nat_Sub.id #[.slice a l c, .slice b m d] h fun v h' => Keep h h' ∧ Ans h' v (subS xs ys) := by
  refine nat_Sub.ok ?_
  unfold nat_Sub.t nat_Sub.D1.t
  refine hc_intro (Form_spec r hl) fun v h' ⟨e1, e2⟩ => ?_
  subst e1; subst e2
  refine gBool_intro rfl ?_
  refine c_not (fun hf => ⟨Keep.refl _, ?_⟩) fun hf => ?_
  · unfold subS; rw [if_neg (fun hh => of_decide_eq_false hf hh.1)]; exact Ans.none
  refine hc_intro (Form_spec s hm) fun v h' ⟨e1, e2⟩ => ?_
  subst e1; subst e2
  refine gBool_intro rfl ?_
  refine c_not (fun hf2 => ⟨Keep.refl _, ?_⟩) fun hf2 => ?_
  · unfold subS; rw [if_neg (fun hh => of_decide_eq_false hf2 hh.2)]; exact Ans.none
  have f1 := of_decide_eq_true hf
  have f2 := of_decide_eq_true hf2
  unfold subS; rw [if_pos ⟨f1, f2⟩]
  unfold nat_Sub.D2.t
  refine hc_intro (Cmp_spec r s hl hm) fun v h' ⟨e1, e2⟩ => ?_
  subst e1; subst e2
  refine gInt_intro rfl ?_
  refine c_dec (fun hb => ⟨Keep.refl _, ?_⟩) fun hb => ?_
  · have : val xs < val ys := by
      unfold cmpI at hb; split at hb
      · assumption
      · split at hb <;> omega
    rw [if_pos this]; exact Ans.none
  · have hlt : ¬ val xs < val ys := fun hh => by unfold cmpI at hb; rw [if_pos hh] at hb; omega
    rw [if_neg hlt]
    subst hl; subst hm
    have hf1 := f1.1
    have hxy : ys.length ≤ xs.length := Nat.le_of_not_lt fun hh => by
      have := val_lt_len r.words f2.2 hh; omega
    refine mk_intro xs.length rfl rfl rfl rfl (by omega) fun h1 o k => ?_
    unfold nat_Sub.D4.t
    refine ⟨xs.length + 1, ?_⟩
    refine Sub_walk r s rfl rfl (Nat.le_refl _) hf1 rfl rfl (subL xs ys 0) ?_ xs.length 0 0 _ h1 (by omega) (by omega) (by simp) o k (by simp)
    have := subL_val xs ys 0 r.words s.words hxy (by omega) (by omega)
    rw [show val (subL xs ys 0) = val xs - val ys by omega]
    exact fun v h' k an => ⟨k, an⟩
/-! ### bits -/
theorem shr_k {x : Int} {y : Int} {n : Nat} (hx : x = (n : Int)) (s p : Nat) (hs : s ≤ 64) (hp : p = 2 ^ s) (hy : y = (s : Int)) {K : Int → Prop} (g : K ((n / p : Nat) : Int)) : letK (shrI .u64 x y) K := by
  subst hx; subst hy; subst hp
  show K (Int.fdiv (n : Int) (2 ^ (min (s : Int).toNat 64)))
  have e : min (s : Int).toNat 64 = s := by omega
  rw [e]
  have e2 : Int.fdiv (n : Int) (2 ^ s) = ((n / 2 ^ s : Nat) : Int) := by
    rw [Int.fdiv_eq_ediv_of_nonneg _ (Int.le_of_lt (Int.pow_pos (by decide)))]
    norm_cast
  rw [e2]; exact g
theorem letK_intro {x y : Int} (e : x = y) {K : Int → Prop} (g : K y) : letK x K := by subst e; exact g
theorem idxS_intro {s : ByteArray} {x : Int} {n : Nat} {b : UInt8} (hx : x = (n : Int)) (e : s[n]? = some b) {K : Int → Prop} (g : K (b.toNat : Int)) : idxS s x K := by
  subst hx
  refine ⟨by omega, ?_⟩
  rw [Int.toNat_natCast, e]; exact g
theorem tab_ok : (List.range 256).all (fun x => decide ((⟨#[0, 1, 2, 2, 3, 3, 3, 3, 4, 4, 4, 4, 4, 4, 4, 4, 5, 5, 5, 5, 5, 5, 5, 5, 5, 5, 5, 5, 5, 5, 5, 5, 6, 6, 6, 6, 6, 6, 6, 6, 6, 6, 6, 6, 6, 6, 6, 6, 6, 6, 6, 6, 6, 6, 6, 6, 6, 6, 6, 6, 6, 6, 6, 6, 7, 7, 7, 7, 7, 7, 7, 7, 7, 7, 7, 7, 7, 7, 7, 7, 7, 7, 7, 7, 7, 7, 7, 7, 7, 7, 7, 7, 7, 7, 7, 7, 7, 7, 7, 7, 7, 7, 7, 7, 7, 7, 7, 7, 7, 7, 7, 7, 7, 7, 7, 7, 7, 7, 7, 7, 7, 7, 7, 7, 7, 7, 7, 7, 8, 8, 8, 8, 8, 8, 8, 8, 8, 8, 8, 8, 8, 8, 8, 8, 8, 8, 8, 8, 8, 8, 8, 8, 8, 8, 8, 8, 8, 8, 8, 8, 8, 8, 8, 8, 8, 8, 8, 8, 8, 8, 8, 8, 8, 8, 8, 8, 8, 8, 8, 8, 8, 8, 8, 8, 8, 8, 8, 8, 8, 8, 8, 8, 8, 8, 8, 8, 8, 8, 8, 8, 8, 8, 8, 8, 8, 8, 8, 8, 8, 8, 8, 8, 8, 8, 8, 8, 8, 8, 8, 8, 8, 8, 8, 8, 8, 8, 8, 8, 8, 8, 8, 8, 8, 8, 8, 8, 8, 8, 8, 8, 8, 8, 8, 8, 8, 8, 8, 8, 8, 8, 8, 8, 8, 8, 8, 8]⟩ : ByteArray)[x]? = some (UInt8.ofNat (blen x)))) = true := by decide +kernel
theorem Len64_end {R : Rt} {n s : Nat} {x y : Int} (hx : x = (n : Int)) (hy : y = (s : Int)) (hn : n < 256) (hs : s ≤ 64) {h : Hp} (g : R (.int .i64 ((s + blen n : Nat) : Int)) h) : bits_Len64.D4.t R x y h := by
  subst hx; subst hy
  unfold bits_Len64.D4.t
  have hb : blen n ≤ 8 := blen_le.mpr (by omega)
  have ht := List.all_eq_true.mp tab_ok n (by simpa using hn)
  have ht := of_decide_eq_true ht
  have ew : IntKind.u8.wrap (n : Int) = (n : Int) := by
    simp only [IntKind.wrap, IntKind.bits, IntKind.signed, Bool.false_and, Bool.false_eq_true, if_false]; omega
  refine letK_intro ew ?_
  refine idxS_intro rfl ht ?_
  have e2 : ((UInt8.ofNat (blen n)).toNat : Int) = (blen n : Int) := by
    rw [UInt8.toNat_ofNat']; omega
  refine k_i64 (blen n : Int) e2 (by omega) (by omega) ?_
  refine k_i64 ((s + blen n : Nat) : Int) (by omega) (by omega) (by omega) ?_
  exact g
theorem Len64_spec {x : Int} {n : Nat} (hx : x = (n : Int)) (hn : n < 18446744073709551616) (h : Hp) :
    HC bits_Len64.id #[.int .u64 x] h fun v h' => h' = h ∧ v = .int .i64 (blen n : Int) := by
  subst hx
  refine bits_Len64.ok ?_
  unfold bits_Len64.t bits_Len64.D1.t
  have low : ∀ (m s : Nat) (x y : Int), x = (m : Int) → y = (s : Int) → m < 65536 → s ≤ 48 → s + blen m = blen n → bits_Len64.D3.t (fun v h' => h' = h ∧ v = .int .i64 (blen n : Int)) x y h := by
    intro m s x y hx hy hm hs e
    subst hx; subst hy
    unfold bits_Len64.D3.t
    refine c_dec (fun hb => ⟨by omega, ?_⟩) fun hb => ?_
    · refine shr_k rfl 8 256 (by omega) (by omega) rfl ?_
      refine k_i64 ((s + 8 : Nat) : Int) (by omega) (by omega) (by omega) ?_
      have := blen_div m 8
      have hp : 8 < blen m := Nat.lt_of_not_le fun hh => by have := blen_le.mp hh; omega
      refine Len64_end rfl rfl (by omega) (by omega) ⟨rfl, ?_⟩
      rw [← e, show (256 : Nat) = 2 ^ 8 by decide, this]
      congr 2; omega
    · refine Len64_end rfl rfl (by omega) (by omega) ⟨rfl, by rw [e]⟩
  have mid : ∀ (m s : Nat) (x y : Int), x = (m : Int) → y = (s : Int) → m < 4294967296 → s ≤ 32 → s + blen m = blen n → bits_Len64.D2.t (fun v h' => h' = h ∧ v = .int .i64 (blen n : Int)) x y h := by
    intro m s x y hx hy hm hs e
    subst hx; subst hy
    unfold bits_Len64.D2.t
    refine c_dec (fun hb => ⟨by omega, ?_⟩) fun hb => ?_
    · refine shr_k rfl 16 65536 (by omega) (by omega) rfl ?_
      refine k_i64 ((s + 16 : Nat) : Int) (by omega) (by omega) (by omega) ?_
      have := blen_div m 16
      have hp : 16 < blen m := Nat.lt_of_not_le fun hh => by have := blen_le.mp hh; omega
      refine low _ _ _ _ rfl rfl (by omega) (by omega) ?_
      rw [← e, show (65536 : Nat) = 2 ^ 16 by decide, this]; omega
    · exact low _ _ _ _ rfl rfl (by omega) (by omega) e
  refine c_dec (fun hb => ⟨by omega, ?_⟩) fun hb => ?_
  · refine shr_k rfl 32 4294967296 (by omega) (by omega) rfl ?_
    have := blen_div n 32
    have hp : 32 < blen n := Nat.lt_of_not_le fun hh => by have := blen_le.mp hh; omega
    refine mid _ 32 _ _ rfl rfl (by omega) (by omega) ?_
    rw [show (4294967296 : Nat) = 2 ^ 32 by decide, this]; omega
  · exact mid _ 0 _ _ rfl rfl (by omega) (by omega) (by omega)
theorem Bits_spec {a : Option Addr} {c l : Nat} {xs : List Nat} {h : Hp} (r : Rd h a c xs) (hl : l = xs.length) :
    HC nat_Bits.id #[.slice a l c] h fun v h' => h' = h ∧ v = .int .i64 (blen (val xs) : Int) := by
  refine nat_Bits.ok ?_
  unfold nat_Bits.t nat_Bits.D1.t
  refine hc_intro (trim_spec r hl) fun v h' ⟨e1, e2, r'⟩ => ?_
  subst e1; subst e2
  refine gSlice_intro rfl ?_
  rw [← val_trimL xs]
  have h1 := r'.len
  refine c_eq (fun h0 => ⟨rfl, ?_⟩) fun h0 => ?_
  · have e : trimL xs = [] := List.length_eq_zero_iff.mp (by omega)
    rw [e]; rfl
  · obtain ⟨n, hn⟩ : ∃ n, (trimL xs).length = n + 1 := ⟨(trimL xs).length - 1, by omega⟩
    rw [hn]
    refine k_i64 (n : Int) (by omega) (by omega) (by omega) ?_
    refine k_i64 ((64 * n : Nat) : Int) (by omega) (by omega) (by omega) ?_
    refine k_i64 (n : Int) (by omega) (by omega) (by omega) ?_
    refine at_intro r' (j := n) rfl hn.symm (by omega) ?_
    have hlast : (trimL xs).getD n 0 ≠ 0 := by
      rcases trimL_iff.mp (trimL_trimL xs) with e | e
      · rw [e] at hn; simp at hn
      · rwa [hn] at e
    have hb := blen_trim r'.words hn hlast
    have hle : blen ((trimL xs).getD n 0) ≤ 64 := blen_le.mpr (r'.word n)
    refine hc_intro (Len64_spec rfl (r'.word n) _) fun v h' ⟨e1, e2⟩ => ?_
    subst e1; subst e2
    refine gInt_intro rfl ?_
    refine k_i64 (blen (val (trimL xs)) : Int) (by omega) (by omega) (by omega) ⟨rfl, rfl⟩
end Go.Proofs.Ytnbpbojcjihboaa.G
