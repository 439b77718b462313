/- What the digits' calls of the reference answer: Norm, From, To, Word, Cmp, Add. -/
import Derived.Test.YtaglonbkdcmmpaaNatOps
namespace Go.Proofs.Ytaglonbkdcmmpaa.G
open Go.Gv
set_option maxRecDepth 100000
set_option linter.unusedVariables false
theorem k_u32 {x : Int} (y : Nat) (e : x = (y : Int)) (h : y < 4294967296) {K : Int → Prop} (g : K (y : Int)) : letK (IntKind.u32.wrap x) K := by
  subst e; refine ⟨?_⟩; show K _
  have : IntKind.u32.wrap (y : Int) = (y : Int) := by
    simp only [IntKind.wrap, IntKind.bits, IntKind.signed, Bool.false_and, Bool.false_eq_true, if_false]; omega
  rw [this]; exact g
theorem shr32 {x : Int} {n : Nat} (hx : x = (n : Int)) {K : Int → Prop} (g : K ((n / 4294967296 : Nat) : Int)) : 0 ≤ (32 : Int) ∧ letK (shrI .u64 x 32) K :=
  shr_k' hx 32 4294967296 (by decide) (by decide) rfl g
theorem shl32 {x : Int} {n : Nat} (hx : x = (n : Int)) (hn : n < 4294967296) {K : Int → Prop} (g : K ((n * 4294967296 : Nat) : Int)) : 0 ≤ (32 : Int) ∧ letK (shlI .u64 x 32) K := by
  refine shl_k hx 32 4294967296 (by decide) (by decide) rfl ?_
  rw [Nat.mod_eq_of_lt (by omega)]; exact g
theorem push32 {h0 h : Hp} {a : Option Addr} {l c n : Nat} {x : Int} {xs : List Nat} (g : GotE eU32 h0 h a c xs) (k0 : Keep h0 h) (hl : l = xs.length) (hx : x = (n : Int)) (hn : n < 4294967296) (hlim : xs.length + 1 ≤ 70368744177656) (hfit : c < xs.length + 1 → xs.length + 1 ≤ 35184372088832) {K : Option Addr → Nat → Nat → Hp → Prop}
    (post : ∀ a' c' h', GotE eU32 h0 h' a' c' (xs ++ [n]) → Keep h0 h' → (xs.length + 1 ≤ c → c' = c) → K a' (xs.length + 1) c' h') : boxK h 56 [.int .u32 x] fun q h2 => apK h2 56 T56 a l c (.slice (some q) 1 1) K :=
  pushE eU32 g k0 [n] (by rw [hx]; rfl) (fun y hy => by rw [List.mem_singleton] at hy; subst hy; exact hn) hl rfl rfl 0 rfl ok32 4 rfl (by decide) hlim (fun h => by have := hfit (by simpa using h); simp; omega) post
theorem push64 {h0 h : Hp} {a : Option Addr} {l c n : Nat} {x : Int} {xs : List Nat} (g : GotE eU64 h0 h a c xs) (k0 : Keep h0 h) (hl : l = xs.length) (hx : x = (n : Int)) (hn : n < 18446744073709551616) (hlim : xs.length + 1 ≤ 35184372088828) (hfit : c < xs.length + 1 → xs.length + 1 ≤ 17592186044416) {K : Option Addr → Nat → Nat → Hp → Prop}
    (post : ∀ a' c' h', GotE eU64 h0 h' a' c' (xs ++ [n]) → Keep h0 h' → (xs.length + 1 ≤ c → c' = c) → K a' (xs.length + 1) c' h') : boxK h 23 [.int .u64 x] fun q h2 => apK h2 23 T23 a l c (.slice (some q) 1 1) K :=
  pushE eU64 g k0 [n] (by rw [hx]; rfl) (fun y hy => by rw [List.mem_singleton] at hy; subst hy; exact hn) hl rfl rfl 0 rfl ok64 8 rfl (by decide) hlim (fun h => by have := hfit (by simpa using h); simp; omega) post
/-! ### Norm -/
theorem rNorm_end {R : Rt} {a : Option Addr} {c l : Nat} {xs : List Nat} {h : Hp} (r : RdE eU32 h a c xs) (hl : l = xs.length) (n : Nat) (hn : n ≤ xs.length) (e : trimL xs = xs.take n) (g : ∀ v h', Keep h h' → sD h h' v (D.val xs) → R v h') : gnomonref01_Norm.D2.t R a l c (n : Int) h := by
  have h1 := r.len32
  unfold gnomonref01_Norm.D2.t
  refine mkE eU32 0 n n rfl ok32 4 rfl (by decide) rfl rfl (Nat.le_refl _) (by omega) fun h2 o k => ?_
  refine sl_to rfl (Nat.le_trans hn r.cap) ?_
  have r2 := (r.take n).keep k
  have hlt : (xs.take n).length = n := by rw [List.length_take]; omega
  refine cpE o r2 (by simp) hlt.symm fun h3 o3 k3 => ?_
  have e3 : (xs.take n).take (min (xs.take n).length n) ++ (List.replicate n 0).drop (min (xs.take n).length n) = D.digs (D.val xs) := by
    rw [D.digs_val r.ok, e, hlt, Nat.min_self, List.take_take]; simp
  rw [Int.toNat_natCast] at o3 ⊢
  rw [e3] at o3
  refine g _ _ (k3.keep k (Nat.le_refl _)) ⟨some ⟨h.size, 0, none⟩, n, ?_, o3.got' (Nat.le_refl _) (by rw [D.digs_val r.ok, e, hlt]; show n ≤ 70368744177656; omega) ?_⟩
  · rw [D.digs_val r.ok, e, hlt]
  · rw [D.digs_val r.ok, e, hlt]
theorem rNorm_loop {R : Rt} {a : Option Addr} {c l : Nat} {xs : List Nat} {h : Hp} (r : RdE eU32 h a c xs) (hl : l = xs.length) (g : ∀ v h', Keep h h' → sD h h' v (D.val xs) → R v h') :
    ∀ n : Nat, n ≤ xs.length → trimL (xs.take n) = trimL xs → gnomonref01_Norm.L3.t R (n + 1) a l c (n : Int) h := by
  have h1 := r.len32
  intro n
  induction n with
  | zero =>
    intro hn hz
    unfold gnomonref01_Norm.L3.t gnomonref01_Norm.D4.t
    refine c_dec (fun h => absurd h (by omega)) fun _ => rNorm_end r hl 0 hn ?_ g
    rw [← hz]; rfl
  | succ n ih =>
    intro hn hz
    refine c_dec (fun _ => ?_) fun h => absurd (by omega) h
    refine k_i64 (n : Int) (by omega) (by omega) (by omega) ?_
    refine at32 r (j := n) rfl hl (by omega) ?_
    have es := take_snoc (xs := xs) (n := n) (by omega)
    refine c_eq (fun he => ?_) fun he => ?_
    · refine k_i64 (n : Int) (by omega) (by omega) (by omega) ?_
      refine ih (by omega) ?_
      rw [← hz, es, show xs.getD n 0 = 0 by omega, trimL_zero]
    · refine rNorm_end r hl (n + 1) hn ?_ g
      rw [← hz, es, trimL_last _ (by omega)]
theorem rNorm_spec {a : Option Addr} {c l : Nat} {xs : List Nat} {h : Hp} (r : RdE eU32 h a c xs) (hl : l = xs.length) :
    HC gnomonref01_Norm.id #[.slice a l c] h fun v h' => Keep h h' ∧ sD h h' v (D.val xs) := by
  refine gnomonref01_Norm.ok ?_
  unfold gnomonref01_Norm.t gnomonref01_Norm.D1.t
  refine ⟨xs.length + 1, ?_⟩
  subst hl
  exact rNorm_loop r rfl (fun v h' k s => ⟨k, s⟩) xs.length (Nat.le_refl _) (by rw [List.take_length])
/-- The end of most calls: Norm of the list that was made. -/
theorem rNorm_tail {h0 h : Hp} {a : Option Addr} {c l X : Nat} {xs : List Nat} (g : GotE eU32 h0 h a c xs) (hl : l = xs.length) (hX : D.val xs = X) (k : Keep h0 h) {R : Rt} (post : ∀ v h', Keep h0 h' → sD h0 h' v X → R v h') :
    HC gnomonref01_Norm.id #[.slice a l c] h fun v h' => gSlice v fun a l c => R (.slice a l c) h' := by
  subst hX
  refine hc_intro (rNorm_spec g.rd hl) fun v h' ⟨k2, s⟩ => ?_
  refine s.elim fun a2 c2 g2 => ?_
  exact post _ _ (k.trans k2) ⟨_, _, rfl, g2.from k.le⟩
/-! ### From -/
theorem From_walk {R : Rt} {a : Option Addr} {c l : Nat} {xs : List Nat} {h0 : Hp} (r : Rd h0 a c xs) (hl : l = xs.length) (post : ∀ v h', Keep h0 h' → sD h0 h' v (val xs) → R v h') :
    ∀ (k i : Nat) (a2 : Option Addr) (h : Hp), i + k = xs.length → GotE eU32 h0 h a2 (2 * xs.length) (split (xs.take i)) → Keep h0 h →
      gnomonref01_From.L4.t R (k + 1) a l c a2 (2 * i) (2 * xs.length) (i : Int) h := by
  subst hl
  have h1 := r.len
  intro k
  induction k with
  | zero =>
    intro i a2 h hi g kp
    unfold gnomonref01_From.L4.t gnomonref01_From.D5.t
    refine c_dec (fun hb => absurd hb (by omega)) fun _ => ?_
    unfold gnomonref01_From.D2.t
    refine rNorm_tail g ?_ ?_ kp post
    · rw [split_len, List.length_take]; omega
    · rw [split_val, List.take_of_length_le (by omega)]
  | succ k ih =>
    intro i a2 h hi g kp
    have hw := r.word i
    unfold gnomonref01_From.L4.t gnomonref01_From.D5.t
    refine c_dec (fun _ => ?_) fun hb => absurd (by omega) hb
    refine at_intro (r.keep kp) (j := i) rfl rfl (by omega) ?_
    refine and32 rfl hw ?_
    refine k_u32 (xs.getD i 0 % 4294967296) rfl (by omega) ?_
    refine at_intro (r.keep kp) (j := i) rfl rfl (by omega) ?_
    refine shr32 rfl ?_
    refine k_u32 (xs.getD i 0 / 4294967296) rfl (by omega) ?_
    have hlen : (split (xs.take i)).length = 2 * i := by rw [split_len, List.length_take]; omega
    refine pushE eU32 g kp [xs.getD i 0 % 4294967296, xs.getD i 0 / 4294967296] rfl (fun y hy => ?_) hlen.symm rfl rfl 0 rfl ok32 4 rfl (by decide) ?_ ?_ fun a' c' h' g' k' hc => ?_
    · simp only [List.mem_cons, List.not_mem_nil, or_false] at hy
      show y < 4294967296
      rcases hy with e | e <;> omega
    · rw [hlen]; show 2 * i + 2 ≤ 70368744177656; omega
    · rw [hlen]; intro hh; simp at hh; omega
    · have hc2 := hc (by rw [hlen]; simp; omega)
      subst hc2
      refine k_i64 ((i + 1 : Nat) : Int) (by omega) (by omega) (by omega) ?_
      rw [hlen]
      have e : split (xs.take (i + 1)) = split (xs.take i) ++ [xs.getD i 0 % 4294967296, xs.getD i 0 / 4294967296] := by
        rw [take_snoc (by omega), split_append]; rfl
      rw [← e] at g'
      exact ih (i + 1) a' h' (by omega) g' k'
theorem From_spec {a : Option Addr} {c l : Nat} {xs : List Nat} {h : Hp} (r : Rd h a c xs) (hl : l = xs.length) :
    HC gnomonref01_From.id #[.slice a l c] h fun v h' => Keep h h' ∧ sD h h' v (val xs) := by
  refine gnomonref01_From.ok ?_
  unfold gnomonref01_From.t gnomonref01_From.D1.t
  subst hl
  have h1 := r.len
  refine k_i64 ((2 * xs.length : Nat) : Int) (by omega) (by omega) (by omega) ?_
  refine mkE eU32 0 0 (2 * xs.length) rfl ok32 4 rfl (by decide) rfl rfl (by omega) (by omega) fun h2 o k => ?_
  unfold gnomonref01_From.D3.t
  refine ⟨xs.length + 1, ?_⟩
  rw [Int.toNat_natCast]
  refine From_walk r rfl (fun v h' k s => ⟨k, s⟩) xs.length 0 _ h2 (by omega) ?_ k
  exact BlkE.got (xs := split (xs.take 0)) (rest := List.replicate (2 * xs.length) 0) (by simpa [split] using o) (Nat.le_refl _) (by simp [split]) (by simp [split]) (by simp [split])
/-! ### To -/
theorem To_walk {R : Rt} {a : Option Addr} {c l m : Nat} {ds : List Nat} {h0 : Hp} (r : RdE eU32 h0 a c ds) (hl : l = ds.length) (post : ∀ a c h', Keep h0 h' → GotE eU64 h0 h' a c (join ds) → R (.slice a (join ds).length c) h') (hm : (ds.length + 1) / 2 ≤ m) :
    ∀ (k i : Nat) (a2 : Option Addr) (h : Hp), i + k = (ds.length + 1) / 2 → GotE eU64 h0 h a2 m (join (ds.take (2 * i))) → Keep h0 h →
      gnomonref01_To.L4.t R (k + 1) a l c a2 i m ((2 * i : Nat) : Int) h := by
  subst hl
  have h1 := r.len32
  intro k
  induction k with
  | zero =>
    intro i a2 h hi g kp
    unfold gnomonref01_To.L4.t gnomonref01_To.D5.t
    refine c_dec (fun hb => absurd hb (by omega)) fun _ => ?_
    unfold gnomonref01_To.D2.t
    have e : ds.take (2 * i) = ds := List.take_of_length_le (by omega)
    rw [e] at g
    have := post _ _ _ kp g
    have e2 : (join ds).length = i := by rw [join_len]; omega
    rw [e2] at this; exact this
  | succ k ih =>
    intro i a2 h hi g kp
    have hw := r.word32 (2 * i)
    have hw2 := r.word32 (2 * i + 1)
    have hlen : (join (ds.take (2 * i))).length = i := by rw [join_len, List.length_take]; omega
    have hev : (ds.take (2 * i)).length % 2 = 0 := by rw [List.length_take]; omega
    unfold gnomonref01_To.L4.t gnomonref01_To.D5.t
    refine c_dec (fun _ => ?_) fun hb => absurd (by omega) hb
    refine at32 (r.keep kp) (j := 2 * i) rfl rfl (by omega) ?_
    refine k_u64 (ds.getD (2 * i) 0) rfl (by omega) ?_
    refine k_i64 ((2 * i + 1 : Nat) : Int) (by omega) (by omega) (by omega) ?_
    refine c_dec (fun hb => ?_) fun hb => ?_
    · refine k_i64 ((2 * i + 1 : Nat) : Int) (by omega) (by omega) (by omega) ?_
      refine at32 (r.keep kp) (j := 2 * i + 1) rfl rfl (by omega) ?_
      refine k_u64 (ds.getD (2 * i + 1) 0) rfl (by omega) ?_
      refine shl32 rfl hw2 ?_
      refine k_u64 (ds.getD (2 * i) 0 + ds.getD (2 * i + 1) 0 * 4294967296) (by omega) (by omega) ?_
      refine push64 g kp hlen.symm rfl (by omega) (by omega) (by omega) fun a' c' h' g' k' hc => ?_
      obtain rfl := hc (by omega)
      refine k_i64 ((2 * (i + 1) : Nat) : Int) (by omega) (by omega) (by omega) ?_
      rw [hlen]
      have e : ds.take (2 * (i + 1)) = ds.take (2 * i) ++ [ds.getD (2 * i) 0, ds.getD (2 * i + 1) 0] := by
        rw [show 2 * (i + 1) = 2 * i + 1 + 1 by omega, take_snoc (by omega), take_snoc (by omega)]; simp
      rw [← join_snoc2 hev, ← e] at g'
      exact ih (i + 1) a' h' (by omega) g' k'
    · refine push64 g kp hlen.symm rfl (by omega) (by omega) (by omega) fun a' c' h' g' k' hc => ?_
      obtain rfl := hc (by omega)
      refine k_i64 ((2 * (i + 1) : Nat) : Int) (by omega) (by omega) (by omega) ?_
      rw [hlen]
      have e : ds.take (2 * (i + 1)) = ds.take (2 * i) ++ [ds.getD (2 * i) 0] := by
        rw [← take_snoc (by omega), List.take_of_length_le (by omega), List.take_of_length_le (by omega)]
      rw [← join_snoc1 hev, ← e] at g'
      exact ih (i + 1) a' h' (by omega) g' k'
theorem To_raw {a : Option Addr} {c l : Nat} {xs : List Nat} {h : Hp} (r : RdE eU32 h a c xs) (hl : l = xs.length) :
    HC gnomonref01_To.id #[.slice a l c] h fun v h' => Keep h h' ∧ sW h h' v (digs (D.val xs)) := by
  refine gnomonref01_To.ok ?_
  unfold gnomonref01_To.t gnomonref01_To.D1.t
  refine hc_intro (rNorm_spec r hl) fun v h1 ⟨k1, s⟩ => ?_
  refine s.elim fun a1 c1 g1 => ?_
  have hl1 := g1.rd.len32
  have ed : Int.tdiv (((D.digs (D.val xs)).length : Nat) : Int) 2 = (((D.digs (D.val xs)).length / 2 : Nat) : Int) := tdiv_nat _ 2
  refine ⟨by decide, ?_⟩
  rw [ed]
  refine k_i64 (((D.digs (D.val xs)).length / 2 : Nat) : Int) rfl (by omega) (by omega) ?_
  refine k_i64 (((D.digs (D.val xs)).length / 2 + 1 : Nat) : Int) (by omega) (by omega) (by omega) ?_
  refine mkE eU64 0 0 ((D.digs (D.val xs)).length / 2 + 1) rfl ok64 8 rfl (by decide) rfl rfl (by omega) (by omega) fun h2 o k => ?_
  unfold gnomonref01_To.D3.t
  refine ⟨((D.digs (D.val xs)).length + 1) / 2 + 1, ?_⟩
  rw [Int.toNat_natCast]
  refine To_walk g1.rd rfl (fun a' c' h' k' g' => ?_) (by omega) _ 0 _ h2 (by omega) ?_ k
  · have e : join (D.digs (D.val xs)) = digs (D.val xs) := join_digs _
    rw [e] at g' ⊢
    exact ⟨k1.trans k', _, _, rfl, g'.from k1.le⟩
  · exact BlkE.got (xs := join ((D.digs (D.val xs)).take (2 * 0))) (rest := List.replicate ((D.digs (D.val xs)).length / 2 + 1) 0) (by simpa [join] using o) (Nat.le_refl _) (by simp [join]) (by simp [join]) (by simp [join])
theorem To_spec {a : Option Addr} {c l X : Nat} {h : Hp} (r : RdE eU32 h a c (D.digs X)) (hl : l = (D.digs X).length) :
    HC gnomonref01_To.id #[.slice a l c] h fun v h' => Keep h h' ∧ sW h h' v (digs X) := by
  have := To_raw r hl
  rw [D.val_digs] at this; exact this
/-! ### Word -/
/-! ### Cmp -/
/-! ### Add -/
end Go.Proofs.Ytaglonbkdcmmpaa.G
