/- What Len64 and Bits answer. -/
import Derived.Test.YtaglonbkdcmmpaaNatSpec
namespace Go.Proofs.Ytaglonbkdcmmpaa.G
open Go.Gv
set_option maxRecDepth 100000
/-! ### bits -/
theorem shr_k {x : Int} {y : Int} {n : Nat} (hx : x = (n : Int)) (s p : Nat) (hs : s ≤ 64) (hp : p = 2 ^ s) (hy : y = (s : Int)) {K : Int → Prop} (g : K ((n / p : Nat) : Int)) : letK (shrI .u64 x y) K := by
  subst hx; subst hy; subst hp
  refine ⟨?_⟩
  show K (Int.fdiv (n : Int) (2 ^ (min (s : Int).toNat 64)))
  have e : min (s : Int).toNat 64 = s := by omega
  rw [e]
  have e2 : Int.fdiv (n : Int) (2 ^ s) = ((n / 2 ^ s : Nat) : Int) := by
    rw [Int.fdiv_eq_ediv_of_nonneg _ (Int.le_of_lt (Int.pow_pos (by decide)))]
    norm_cast
  rw [e2]; exact g
theorem letK_intro {x y : Int} (e : x = y) {K : Int → Prop} (g : K y) : letK x K := by subst e; exact ⟨g⟩
theorem idxS_intro {s : ByteArray} {x : Int} {n : Nat} {b : UInt8} (hx : x = (n : Int)) (e : s[n]? = some b) {K : Int → Prop} (g : K (b.toNat : Int)) : idxS s x K := by
  subst hx
  refine ⟨by omega, ?_⟩
  rw [Int.toNat_natCast, e]; exact g
theorem tab_ok : (List.range 256).all (fun x => decide ((⟨#[0, 1, 2, 2, 3, 3, 3, 3, 4, 4, 4, 4, 4, 4, 4, 4, 5, 5, 5, 5, 5, 5, 5, 5, 5, 5, 5, 5, 5, 5, 5, 5, 6, 6, 6, 6, 6, 6, 6, 6, 6, 6, 6, 6, 6, 6, 6, 6, 6, 6, 6, 6, 6, 6, 6, 6, 6, 6, 6, 6, 6, 6, 6, 6, 7, 7, 7, 7, 7, 7, 7, 7, 7, 7, 7, 7, 7, 7, 7, 7, 7, 7, 7, 7, 7, 7, 7, 7, 7, 7, 7, 7, 7, 7, 7, 7, 7, 7, 7, 7, 7, 7, 7, 7, 7, 7, 7, 7, 7, 7, 7, 7, 7, 7, 7, 7, 7, 7, 7, 7, 7, 7, 7, 7, 7, 7, 7, 7, 8, 8, 8, 8, 8, 8, 8, 8, 8, 8, 8, 8, 8, 8, 8, 8, 8, 8, 8, 8, 8, 8, 8, 8, 8, 8, 8, 8, 8, 8, 8, 8, 8, 8, 8, 8, 8, 8, 8, 8, 8, 8, 8, 8, 8, 8, 8, 8, 8, 8, 8, 8, 8, 8, 8, 8, 8, 8, 8, 8, 8, 8, 8, 8, 8, 8, 8, 8, 8, 8, 8, 8, 8, 8, 8, 8, 8, 8, 8, 8, 8, 8, 8, 8, 8, 8, 8, 8, 8, 8, 8, 8, 8, 8, 8, 8, 8, 8, 8, 8, 8, 8, 8, 8, 8, 8, 8, 8, 8, 8, 8, 8, 8, 8, 8, 8, 8, 8, 8, 8, 8, 8, 8, 8, 8, 8, 8, 8]⟩ : ByteArray)[x]? = some (UInt8.ofNat (blen x)))) = true := by decide +kernel
theorem Len64_end {R : Rt} {n s : Nat} {x y : Int} (hx : x = (n : Int)) (hy : y = (s : Int)) (hn : n < 256) (hs : s ≤ 64) {h : Hp} (g : R (.int .i64 ((s + blen n : Nat) : Int)) h) : bits_Len64.D4.t R x y h := by
  subst hx; subst hy
  unfold bits_Len64.D4.t
  have hb : blen n ≤ 8 := blen_le.mpr (by omega)
  have ht := List.all_eq_true.mp tab_ok n (by simpa using hn)
  have ht := of_decide_eq_true ht
  have ew : IntKind.u8.wrap (n : Int) = (n : Int) := by
    simp only [IntKind.wrap, IntKind.bits, IntKind.signed, Bool.false_and, Bool.false_eq_true, if_false]; omega
  refine letK_intro ew ?_
  refine idxS_intro rfl ht ?_
  have e2 : ((UInt8.ofNat (blen n)).toNat : Int) = (blen n : Int) := by
    rw [UInt8.toNat_ofNat']; omega
  refine k_i64 (blen n : Int) e2 (by omega) (by omega) ?_
  refine k_i64 ((s + blen n : Nat) : Int) (by omega) (by omega) (by omega) ?_
  exact g
theorem Len64_spec {x : Int} {n : Nat} (hx : x = (n : Int)) (hn : n < 18446744073709551616) (h : Hp) :
    HC bits_Len64.id #[.int .u64 x] h fun v h' => h' = h ∧ v = .int .i64 (blen n : Int) := by
  subst hx
  refine bits_Len64.ok ?_
  unfold bits_Len64.t bits_Len64.D1.t
  have low : ∀ (m s : Nat) (x y : Int), x = (m : Int) → y = (s : Int) → m < 65536 → s ≤ 48 → s + blen m = blen n → bits_Len64.D3.t (fun v h' => h' = h ∧ v = .int .i64 (blen n : Int)) x y h := by
    intro m s x y hx hy hm hs e
    subst hx; subst hy
    unfold bits_Len64.D3.t
    refine c_dec (fun hb => ⟨by omega, ?_⟩) fun hb => ?_
    · refine shr_k rfl 8 256 (by omega) (by omega) rfl ?_
      refine k_i64 ((s + 8 : Nat) : Int) (by omega) (by omega) (by omega) ?_
      have := blen_div m 8
      have hp : 8 < blen m := Nat.lt_of_not_le fun hh => by have := blen_le.mp hh; omega
      refine Len64_end rfl rfl (by omega) (by omega) ⟨rfl, ?_⟩
      rw [← e, show (256 : Nat) = 2 ^ 8 by decide, this]
      congr 2; omega
    · refine Len64_end rfl rfl (by omega) (by omega) ⟨rfl, by rw [e]⟩
  have mid : ∀ (m s : Nat) (x y : Int), x = (m : Int) → y = (s : Int) → m < 4294967296 → s ≤ 32 → s + blen m = blen n → bits_Len64.D2.t (fun v h' => h' = h ∧ v = .int .i64 (blen n : Int)) x y h := by
    intro m s x y hx hy hm hs e
    subst hx; subst hy
    unfold bits_Len64.D2.t
    refine c_dec (fun hb => ⟨by omega, ?_⟩) fun hb => ?_
    · refine shr_k rfl 16 65536 (by omega) (by omega) rfl ?_
      refine k_i64 ((s + 16 : Nat) : Int) (by omega) (by omega) (by omega) ?_
      have := blen_div m 16
      have hp : 16 < blen m := Nat.lt_of_not_le fun hh => by have := blen_le.mp hh; omega
      refine low _ _ _ _ rfl rfl (by omega) (by omega) ?_
      rw [← e, show (65536 : Nat) = 2 ^ 16 by decide, this]; omega
    · exact low _ _ _ _ rfl rfl (by omega) (by omega) e
  refine c_dec (fun hb => ⟨by omega, ?_⟩) fun hb => ?_
  · refine shr_k rfl 32 4294967296 (by omega) (by omega) rfl ?_
    have := blen_div n 32
    have hp : 32 < blen n := Nat.lt_of_not_le fun hh => by have := blen_le.mp hh; omega
    refine mid _ 32 _ _ rfl rfl (by omega) (by omega) ?_
    rw [show (4294967296 : Nat) = 2 ^ 32 by decide, this]; omega
  · exact mid _ 0 _ _ rfl rfl (by omega) (by omega) (by omega)
theorem Bits_spec {a : Option Addr} {c l : Nat} {xs : List Nat} {h : Hp} (r : Rd h a c xs) (hl : l = xs.length) :
    HC nat_Bits.id #[.slice a l c] h fun v h' => h' = h ∧ v = .int .i64 (blen (val xs) : Int) := by
  refine nat_Bits.ok ?_
  unfold nat_Bits.t nat_Bits.D1.t
  refine hc_intro (trim_spec r hl) fun v h' ⟨e1, e2, r'⟩ => ?_
  subst e1; subst e2
  refine gSlice_intro rfl ?_
  rw [← val_trimL xs]
  have h1 := r'.len
  refine c_eq (fun h0 => ⟨rfl, ?_⟩) fun h0 => ?_
  · have e : trimL xs = [] := List.length_eq_zero_iff.mp (by omega)
    rw [e]; rfl
  · obtain ⟨n, hn⟩ : ∃ n, (trimL xs).length = n + 1 := ⟨(trimL xs).length - 1, by omega⟩
    rw [hn]
    refine k_i64 (n : Int) (by omega) (by omega) (by omega) ?_
    refine k_i64 ((64 * n : Nat) : Int) (by omega) (by omega) (by omega) ?_
    refine k_i64 (n : Int) (by omega) (by omega) (by omega) ?_
    refine at_intro r' (j := n) rfl hn.symm (by omega) ?_
    have hlast : (trimL xs).getD n 0 ≠ 0 := by
      rcases trimL_iff.mp (trimL_trimL xs) with e | e
      · rw [e] at hn; simp at hn
      · rwa [hn] at e
    have hb := blen_trim r'.words hn hlast
    have hle : blen ((trimL xs).getD n 0) ≤ 64 := blen_le.mpr (r'.word n)
    refine hc_intro (Len64_spec rfl (r'.word n) _) fun v h' ⟨e1, e2⟩ => ?_
    subst e1; subst e2
    refine gInt_intro rfl ?_
    refine k_i64 (blen (val (trimL xs)) : Int) (by omega) (by omega) (by omega) ⟨rfl, rfl⟩
end Go.Proofs.Ytaglonbkdcmmpaa.G
