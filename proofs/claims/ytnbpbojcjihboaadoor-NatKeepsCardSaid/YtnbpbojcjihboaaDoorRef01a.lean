/- What the digits' calls of the reference answer: Norm, From, To, Word, Cmp, Add. -/
import Derived.Test.YtnbpbojcjihboaaDoorNatOps
namespace Go.Proofs.YtnbpbojcjihboaaDoor.G
open Go.Gv
set_option maxRecDepth 100000
set_option linter.unusedVariables false
theorem k_u32 {x : Int} (y : Nat) (e : x = (y : Int)) (h : y < 4294967296) {K : Int → Prop} (g : K (y : Int)) : letK (IntKind.u32.wrap x) K := by
  subst e; refine ⟨?_⟩; show K _
  have : IntKind.u32.wrap (y : Int) = (y : Int) := by
    simp only [IntKind.wrap, IntKind.bits, IntKind.signed, Bool.false_and, Bool.false_eq_true, if_false]; omega
  rw [this]; exact g
theorem shr32 {x : Int} {n : Nat} (hx : x = (n : Int)) {K : Int → Prop} (g : K ((n / 4294967296 : Nat) : Int)) : 0 ≤ (32 : Int) ∧ letK (shrI .u64 x 32) K :=
  shr_k' hx 32 4294967296 (by decide) (by decide) rfl g
theorem shl32 {x : Int} {n : Nat} (hx : x = (n : Int)) (hn : n < 4294967296) {K : Int → Prop} (g : K ((n * 4294967296 : Nat) : Int)) : 0 ≤ (32 : Int) ∧ letK (shlI .u64 x 32) K := by
  refine shl_k hx 32 4294967296 (by decide) (by decide) rfl ?_
  rw [Nat.mod_eq_of_lt (by omega)]; exact g
theorem push32 {h0 h : Hp} {a : Option Addr} {l c n : Nat} {x : Int} {xs : List Nat} (g : GotE eU32 h0 h a c xs) (k0 : Keep h0 h) (hl : l = xs.length) (hx : x = (n : Int)) (hn : n < 4294967296) (hlim : xs.length + 1 ≤ 70368744177656) (hfit : c < xs.length + 1 → xs.length + 1 ≤ 35184372088832) {K : Option Addr → Nat → Nat → Hp → Prop}
    (post : ∀ a' c' h', GotE eU32 h0 h' a' c' (xs ++ [n]) → Keep h0 h' → (xs.length + 1 ≤ c → c' = c) → K a' (xs.length + 1) c' h') : boxK h 87 [.int .u32 x] fun q h2 => apK h2 87 T87 a l c (.slice (some q) 1 1) K :=
  pushE eU32 g k0 [n] (by rw [hx]; rfl) (fun y hy => by rw [List.mem_singleton] at hy; subst hy; exact hn) hl rfl rfl 0 rfl ok32 4 rfl (by decide) hlim (fun h => by have := hfit (by simpa using h); simp; omega) post
theorem push64 {h0 h : Hp} {a : Option Addr} {l c n : Nat} {x : Int} {xs : List Nat} (g : GotE eU64 h0 h a c xs) (k0 : Keep h0 h) (hl : l = xs.length) (hx : x = (n : Int)) (hn : n < 18446744073709551616) (hlim : xs.length + 1 ≤ 35184372088828) (hfit : c < xs.length + 1 → xs.length + 1 ≤ 17592186044416) {K : Option Addr → Nat → Nat → Hp → Prop}
    (post : ∀ a' c' h', GotE eU64 h0 h' a' c' (xs ++ [n]) → Keep h0 h' → (xs.length + 1 ≤ c → c' = c) → K a' (xs.length + 1) c' h') : boxK h 27 [.int .u64 x] fun q h2 => apK h2 27 T27 a l c (.slice (some q) 1 1) K :=
  pushE eU64 g k0 [n] (by rw [hx]; rfl) (fun y hy => by rw [List.mem_singleton] at hy; subst hy; exact hn) hl rfl rfl 0 rfl ok64 8 rfl (by decide) hlim (fun h => by have := hfit (by simpa using h); simp; omega) post
/-! ### Norm -/
theorem rNorm_end {R : Rt} {a : Option Addr} {c l : Nat} {xs : List Nat} {h : Hp} (r : RdE eU32 h a c xs) (hl : l = xs.length) (n : Nat) (hn : n ≤ xs.length) (e : trimL xs = xs.take n) (g : ∀ v h', Keep h h' → sD h h' v (D.val xs) → R v h') : gnomonref01_Norm.D2.t R a l c (n : Int) h := by
  have h1 := r.len32
  unfold gnomonref01_Norm.D2.t
  refine mkE eU32 0 n n rfl ok32 4 rfl (by decide) rfl rfl (Nat.le_refl _) (by omega) fun h2 o k => ?_
  refine sl_to rfl (Nat.le_trans hn r.cap) ?_
  have r2 := (r.take n).keep k
  have hlt : (xs.take n).length = n := by rw [List.length_take]; omega
  refine cpE o r2 (by simp) hlt.symm fun h3 o3 k3 => ?_
  have e3 : (xs.take n).take (min (xs.take n).length n) ++ (List.replicate n 0).drop (min (xs.take n).length n) = D.digs (D.val xs) := by
    rw [D.digs_val r.ok, e, hlt, Nat.min_self, List.take_take]; simp
  rw [Int.toNat_natCast] at o3 ⊢
  rw [e3] at o3
  refine g _ _ (k3.keep k (Nat.le_refl _)) ⟨some ⟨h.size, 0, none⟩, n, ?_, o3.got' (Nat.le_refl _) (by rw [D.digs_val r.ok, e, hlt]; show n ≤ 70368744177656; omega) ?_⟩
  · rw [D.digs_val r.ok, e, hlt]
  · rw [D.digs_val r.ok, e, hlt]
theorem rNorm_loop {R : Rt} {a : Option Addr} {c l : Nat} {xs : List Nat} {h : Hp} (r : RdE eU32 h a c xs) (hl : l = xs.length) (g : ∀ v h', Keep h h' → sD h h' v (D.val xs) → R v h') :
    ∀ n : Nat, n ≤ xs.length → trimL (xs.take n) = trimL xs → gnomonref01_Norm.L3.t R (n + 1) a l c (n : Int) h := by
  have h1 := r.len32
  intro n
  induction n with
  | zero =>
    intro hn hz
    unfold gnomonref01_Norm.L3.t gnomonref01_Norm.D4.t
    refine c_dec (fun h => absurd h (by omega)) fun _ => rNorm_end r hl 0 hn ?_ g
    rw [← hz]; rfl
  | succ n ih =>
    intro hn hz
    refine c_dec (fun _ => ?_) fun h => absurd (by omega) h
    refine k_i64 (n : Int) (by omega) (by omega) (by omega) ?_
    refine at32 r (j := n) rfl hl (by omega) ?_
    have es := take_snoc (xs := xs) (n := n) (by omega)
    refine c_eq (fun he => ?_) fun he => ?_
    · refine k_i64 (n : Int) (by omega) (by omega) (by omega) ?_
      refine ih (by omega) ?_
      rw [← hz, es, show xs.getD n 0 = 0 by omega, trimL_zero]
    · refine rNorm_end r hl (n + 1) hn ?_ g
      rw [← hz, es, trimL_last _ (by omega)]
theorem rNorm_spec {a : Option Addr} {c l : Nat} {xs : List Nat} {h : Hp} (r : RdE eU32 h a c xs) (hl : l = xs.length) :
    HC gnomonref01_Norm.id #[.slice a l c] h fun v h' => Keep h h' ∧ sD h h' v (D.val xs) := by
  refine gnomonref01_Norm.ok ?_
  unfold gnomonref01_Norm.t gnomonref01_Norm.D1.t
  refine ⟨xs.length + 1, ?_⟩
  subst hl
  exact rNorm_loop r rfl (fun v h' k s => ⟨k, s⟩) xs.length (Nat.le_refl _) (by rw [List.take_length])
/-- The end of most calls: Norm of the list that was made. -/
theorem rNorm_tail {h0 h : Hp} {a : Option Addr} {c l X : Nat} {xs : List Nat} (g : GotE eU32 h0 h a c xs) (hl : l = xs.length) (hX : D.val xs = X) (k : Keep h0 h) {R : Rt} (post : ∀ v h', Keep h0 h' → sD h0 h' v X → R v h') :
    HC gnomonref01_Norm.id #[.slice a l c] h fun v h' => gSlice v fun a l c => R (.slice a l c) h' := by
  subst hX
  refine hc_intro (rNorm_spec g.rd hl) fun v h' ⟨k2, s⟩ => ?_
  refine s.elim fun a2 c2 g2 => ?_
  exact post _ _ (k.trans k2) ⟨_, _, rfl, g2.from k.le⟩
/-! ### From -/
theorem From_walk {R : Rt} {a : Option Addr} {c l : Nat} {xs : List Nat} {h0 : Hp} (r : Rd h0 a c xs) (hl : l = xs.length) (post : ∀ v h', Keep h0 h' → sD h0 h' v (val xs) → R v h') :
    ∀ (k i : Nat) (a2 : Option Addr) (h : Hp), i + k = xs.length → GotE eU32 h0 h a2 (2 * xs.length) (split (xs.take i)) → Keep h0 h →
      gnomonref01_From.L4.t R (k + 1) a l c a2 (2 * i) (2 * xs.length) (i : Int) h := by
  subst hl
  have h1 := r.len
  intro k
  induction k with
  | zero =>
    intro i a2 h hi g kp
    unfold gnomonref01_From.L4.t gnomonref01_From.D5.t
    refine c_dec (fun hb => absurd hb (by omega)) fun _ => ?_
    unfold gnomonref01_From.D2.t
    refine rNorm_tail g ?_ ?_ kp post
    · rw [split_len, List.length_take]; omega
    · rw [split_val, List.take_of_length_le (by omega)]
  | succ k ih =>
    intro i a2 h hi g kp
    have hw := r.word i
    unfold gnomonref01_From.L4.t gnomonref01_From.D5.t
    refine c_dec (fun _ => ?_) fun hb => absurd (by omega) hb
    refine at_intro (r.keep kp) (j := i) rfl rfl (by omega) ?_
    refine and32 rfl hw ?_
    refine k_u32 (xs.getD i 0 % 4294967296) rfl (by omega) ?_
    refine at_intro (r.keep kp) (j := i) rfl rfl (by omega) ?_
    refine shr32 rfl ?_
    refine k_u32 (xs.getD i 0 / 4294967296) rfl (by omega) ?_
    have hlen : (split (xs.take i)).length = 2 * i := by rw [split_len, List.length_take]; omega
    refine pushE eU32 g kp [xs.getD i 0 % 4294967296, xs.getD i 0 / 4294967296] rfl (fun y hy => ?_) hlen.symm rfl rfl 0 rfl ok32 4 rfl (by decide) ?_ ?_ fun a' c' h' g' k' hc => ?_
    · simp only [List.mem_cons, List.not_mem_nil, or_false] at hy
      show y < 4294967296
      rcases hy with e | e <;> omega
    · rw [hlen]; show 2 * i + 2 ≤ 70368744177656; omega
    · rw [hlen]; intro hh; simp at hh; omega
    · have hc2 := hc (by rw [hlen]; simp; omega)
      subst hc2
      refine k_i64 ((i + 1 : Nat) : Int) (by omega) (by omega) (by omega) ?_
      rw [hlen]
      have e : split (xs.take (i + 1)) = split (xs.take i) ++ [xs.getD i 0 % 4294967296, xs.getD i 0 / 4294967296] := by
        rw [take_snoc (by omega), split_append]; rfl
      rw [← e] at g'
      exact ih (i + 1) a' h' (by omega) g' k'
theorem From_spec {a : Option Addr} {c l : Nat} {xs : List Nat} {h : Hp} (r : Rd h a c xs) (hl : l = xs.length) :
    HC gnomonref01_From.id #[.slice a l c] h fun v h' => Keep h h' ∧ sD h h' v (val xs) := by
  refine gnomonref01_From.ok ?_
  unfold gnomonref01_From.t gnomonref01_From.D1.t
  subst hl
  have h1 := r.len
  refine k_i64 ((2 * xs.length : Nat) : Int) (by omega) (by omega) (by omega) ?_
  refine mkE eU32 0 0 (2 * xs.length) rfl ok32 4 rfl (by decide) rfl rfl (by omega) (by omega) fun h2 o k => ?_
  unfold gnomonref01_From.D3.t
  refine ⟨xs.length + 1, ?_⟩
  rw [Int.toNat_natCast]
  refine From_walk r rfl (fun v h' k s => ⟨k, s⟩) xs.length 0 _ h2 (by omega) ?_ k
  exact BlkE.got (xs := split (xs.take 0)) (rest := List.replicate (2 * xs.length) 0) (by simpa [split] using o) (Nat.le_refl _) (by simp [split]) (by simp [split]) (by simp [split])
/-! ### To -/
theorem To_walk {R : Rt} {a : Option Addr} {c l m : Nat} {ds : List Nat} {h0 : Hp} (r : RdE eU32 h0 a c ds) (hl : l = ds.length) (post : ∀ a c h', Keep h0 h' → GotE eU64 h0 h' a c (join ds) → R (.slice a (join ds).length c) h') (hm : (ds.length + 1) / 2 ≤ m) :
    ∀ (k i : Nat) (a2 : Option Addr) (h : Hp), i + k = (ds.length + 1) / 2 → GotE eU64 h0 h a2 m (join (ds.take (2 * i))) → Keep h0 h →
      gnomonref01_To.L4.t R (k + 1) a l c a2 i m ((2 * i : Nat) : Int) h := by
  subst hl
  have h1 := r.len32
  intro k
  induction k with
  | zero =>
    intro i a2 h hi g kp
    unfold gnomonref01_To.L4.t gnomonref01_To.D5.t
    refine c_dec (fun hb => absurd hb (by omega)) fun _ => ?_
    unfold gnomonref01_To.D2.t
    have e : ds.take (2 * i) = ds := List.take_of_length_le (by omega)
    rw [e] at g
    have := post _ _ _ kp g
    have e2 : (join ds).length = i := by rw [join_len]; omega
    rw [e2] at this; exact this
  | succ k ih =>
    intro i a2 h hi g kp
    have hw := r.word32 (2 * i)
    have hw2 := r.word32 (2 * i + 1)
    have hlen : (join (ds.take (2 * i))).length = i := by rw [join_len, List.length_take]; omega
    have hev : (ds.take (2 * i)).length % 2 = 0 := by rw [List.length_take]; omega
    unfold gnomonref01_To.L4.t gnomonref01_To.D5.t
    refine c_dec (fun _ => ?_) fun hb => absurd (by omega) hb
    refine at32 (r.keep kp) (j := 2 * i) rfl rfl (by omega) ?_
    refine k_u64 (ds.getD (2 * i) 0) rfl (by omega) ?_
    refine k_i64 ((2 * i + 1 : Nat) : Int) (by omega) (by omega) (by omega) ?_
    refine c_dec (fun hb => ?_) fun hb => ?_
    · refine k_i64 ((2 * i + 1 : Nat) : Int) (by omega) (by omega) (by omega) ?_
      refine at32 (r.keep kp) (j := 2 * i + 1) rfl rfl (by omega) ?_
      refine k_u64 (ds.getD (2 * i + 1) 0) rfl (by omega) ?_
      refine shl32 rfl hw2 ?_
      refine k_u64 (ds.getD (2 * i) 0 + ds.getD (2 * i + 1) 0 * 4294967296) (by omega) (by omega) ?_
      refine push64 g kp hlen.symm rfl (by omega) (by omega) (by omega) fun a' c' h' g' k' hc => ?_
      obtain rfl := hc (by omega)
      refine k_i64 ((2 * (i + 1) : Nat) : Int) (by omega) (by omega) (by omega) ?_
      rw [hlen]
      have e : ds.take (2 * (i + 1)) = ds.take (2 * i) ++ [ds.getD (2 * i) 0, ds.getD (2 * i + 1) 0] := by
        rw [show 2 * (i + 1) = 2 * i + 1 + 1 by omega, take_snoc (by omega), take_snoc (by omega)]; simp
      rw [← join_snoc2 hev, ← e] at g'
      exact ih (i + 1) a' h' (by omega) g' k'
    · refine push64 g kp hlen.symm rfl (by omega) (by omega) (by omega) fun a' c' h' g' k' hc => ?_
      obtain rfl := hc (by omega)
      refine k_i64 ((2 * (i + 1) : Nat) : Int) (by omega) (by omega) (by omega) ?_
      rw [hlen]
      have e : ds.take (2 * (i + 1)) = ds.take (2 * i) ++ [ds.getD (2 * i) 0] := by
        rw [← take_snoc (by omega), List.take_of_length_le (by omega), List.take_of_length_le (by omega)]
      rw [← join_snoc1 hev, ← e] at g'
      exact ih (i + 1) a' h' (by omega) g' k'
theorem To_raw {a : Option Addr} {c l : Nat} {xs : List Nat} {h : Hp} (r : RdE eU32 h a c xs) (hl : l = xs.length) :
    HC gnomonref01_To.id #[.slice a l c] h fun v h' => Keep h h' ∧ sW h h' v (digs (D.val xs)) := by
  refine gnomonref01_To.ok ?_
  unfold gnomonref01_To.t gnomonref01_To.D1.t
  refine hc_intro (rNorm_spec r hl) fun v h1 ⟨k1, s⟩ => ?_
  refine s.elim fun a1 c1 g1 => ?_
  have hl1 := g1.rd.len32
  have ed : Int.tdiv (((D.digs (D.val xs)).length : Nat) : Int) 2 = (((D.digs (D.val xs)).length / 2 : Nat) : Int) := tdiv_nat _ 2
  refine ⟨by decide, ?_⟩
  rw [ed]
  refine k_i64 (((D.digs (D.val xs)).length / 2 : Nat) : Int) rfl (by omega) (by omega) ?_
  refine k_i64 (((D.digs (D.val xs)).length / 2 + 1 : Nat) : Int) (by omega) (by omega) (by omega) ?_
  refine mkE eU64 0 0 ((D.digs (D.val xs)).length / 2 + 1) rfl ok64 8 rfl (by decide) rfl rfl (by omega) (by omega) fun h2 o k => ?_
  unfold gnomonref01_To.D3.t
  refine ⟨((D.digs (D.val xs)).length + 1) / 2 + 1, ?_⟩
  rw [Int.toNat_natCast]
  refine To_walk g1.rd rfl (fun a' c' h' k' g' => ?_) (by omega) _ 0 _ h2 (by omega) ?_ k
  · have e : join (D.digs (D.val xs)) = digs (D.val xs) := join_digs _
    rw [e] at g' ⊢
    exact ⟨k1.trans k', _, _, rfl, g'.from k1.le⟩
  · exact BlkE.got (xs := join ((D.digs (D.val xs)).take (2 * 0))) (rest := List.replicate ((D.digs (D.val xs)).length / 2 + 1) 0) (by simpa [join] using o) (Nat.le_refl _) (by simp [join]) (by simp [join]) (by simp [join])
theorem To_spec {a : Option Addr} {c l X : Nat} {h : Hp} (r : RdE eU32 h a c (D.digs X)) (hl : l = (D.digs X).length) :
    HC gnomonref01_To.id #[.slice a l c] h fun v h' => Keep h h' ∧ sW h h' v (digs X) := by
  have := To_raw r hl
  rw [D.val_digs] at this; exact this
/-! ### Word -/
theorem rWord_spec {x : Int} {w : Nat} (hx : x = (w : Int)) (hw : w < 18446744073709551616) (h : Hp) : HC gnomonref01_Word.id #[.int .u64 x] h fun v h' => Keep h h' ∧ sD h h' v w := by
  refine gnomonref01_Word.ok ?_
  unfold gnomonref01_Word.t gnomonref01_Word.D1.t
  refine and32 hx hw ?_
  refine k_u32 (w % 4294967296) rfl (by omega) ?_
  refine shr32 hx ?_
  refine k_u32 (w / 4294967296) rfl (by omega) ?_
  refine boxE eU32 [w % 4294967296, w / 4294967296] rfl (fun y hy => ?_) fun h1 o k => ?_
  · simp only [List.mem_cons, List.not_mem_nil, or_false] at hy
    show y < 4294967296
    rcases hy with e | e <;> omega
  · refine rNorm_tail (h0 := h) (R := fun v h' => Keep h h' ∧ sD h h' v w) (o.got' (c := 2) (Nat.le_refl _) (show 2 ≤ 70368744177656 by decide) rfl) (by rfl) (X := w) ?_ k (fun v h' k s => ⟨k, s⟩)
    simp only [D.val]; omega
/-! ### Cmp -/
theorem rCmp_walk {R : Rt} {a b : Option Addr} {c d : Nat} {xs ys : List Nat} {h : Hp} (r : RdE eU32 h a c xs) (s : RdE eU32 h b d ys) (he : xs.length = ys.length) (g : R (.int .i64 (cmpI (D.val xs) (D.val ys))) h) :
    ∀ n : Nat, n ≤ xs.length → xs.drop n = ys.drop n → gnomonref01_Cmp.L4.t R (n + 1) a xs.length c b ys.length d ((n : Int) - 1) h := by
  have h1 := r.len32
  intro n
  induction n with
  | zero =>
    intro hn ht
    unfold gnomonref01_Cmp.L4.t gnomonref01_Cmp.D5.t
    refine c_dec (fun hb => absurd hb (by omega)) fun _ => ?_
    unfold gnomonref01_Cmp.D2.t
    rw [List.drop_zero, List.drop_zero] at ht
    rw [ht] at g
    simpa [cmpI] using g
  | succ n ih =>
    intro hn ht
    unfold gnomonref01_Cmp.L4.t gnomonref01_Cmp.D5.t
    refine c_dec (fun hb => ?_) fun hb => absurd (by omega) hb
    refine at32 r (j := n) (by omega) rfl (by omega) ?_
    refine at32 s (j := n) (by omega) rfl (by omega) ?_
    refine c_dec (fun hb => ?_) fun hb => ?_
    · have hv := D.val_lt_at r.ok s.ok he (j := n) (by omega) ht (by omega)
      unfold cmpI at g; rw [if_pos hv] at g; exact g
    · refine at32 r (j := n) (by omega) rfl (by omega) ?_
      refine at32 s (j := n) (by omega) rfl (by omega) ?_
      refine c_dec (fun hb2 => ?_) fun hb2 => ?_
      · have hv := D.val_lt_at s.ok r.ok he.symm (j := n) (by omega) ht.symm (by omega)
        unfold cmpI at g; rw [if_neg (by omega), if_neg (by omega)] at g; exact g
      · refine k_i64 ((n : Int) - 1) (by omega) (by omega) (by omega) ?_
        refine ih (by omega) ?_
        rw [drop_getD (xs := xs) (by omega), drop_getD (xs := ys) (by omega), ht, show xs.getD n 0 = ys.getD n 0 by omega]
theorem rCmp_spec {a b : Option Addr} {c d l m X Y : Nat} {h : Hp} (r : RdE eU32 h a c (D.digs X)) (s : RdE eU32 h b d (D.digs Y)) (hl : l = (D.digs X).length) (hm : m = (D.digs Y).length) :
    HC gnomonref01_Cmp.id #[.slice a l c, .slice b m d] h fun v h' => h' = h ∧ v = .int .i64 (cmpI X Y) := by
  subst hl; subst hm
  have h1 := r.len32
  refine gnomonref01_Cmp.ok ?_
  unfold gnomonref01_Cmp.t gnomonref01_Cmp.D1.t
  have hX : D.val (D.digs X) = X := D.val_digs X
  have hY : D.val (D.digs Y) = Y := D.val_digs Y
  refine c_ne (fun hne => ?_) fun he => ?_
  · refine c_dec (fun hb => ⟨rfl, ?_⟩) fun hb => ⟨rfl, ?_⟩
    · have := D.val_lt_len r.ok (D.trimL_digs Y) (by omega)
      rw [hX, hY] at this
      unfold cmpI; rw [if_pos this]
    · have := D.val_lt_len s.ok (D.trimL_digs X) (by omega)
      rw [hX, hY] at this
      unfold cmpI; rw [if_neg (by omega), if_neg (by omega)]
  · unfold gnomonref01_Cmp.D3.t
    refine k_i64 (((D.digs X).length : Int) - 1) rfl (by omega) (by omega) ?_
    refine ⟨(D.digs X).length + 1, ?_⟩
    refine rCmp_walk r s (by omega) ?_ _ (Nat.le_refl _) ?_
    · rw [hX, hY]; exact ⟨rfl, rfl⟩
    · rw [List.drop_length, List.drop_of_length_le (by omega)]
/-! ### Add -/
theorem rAdd_push {R : Rt} {a b : Option Addr} {c d k m T : Nat} {xs ys : List Nat} {h0 : Hp} (i : Nat) (zs : List Nat) (ca : Nat) (a2 : Option Addr) (h : Hp) (x : Int) (hx : x = (ca : Int)) (hca : ca < 18446744073709551616) (hi : i < m) (hm : m ≤ 35184372088832) (g : GotE eU32 h0 h a2 m zs) (kp : Keep h0 h) (hz : zs.length = i)
    (ih : ∀ a2 h, GotE eU32 h0 h a2 m (zs ++ [ca % 4294967296]) → Keep h0 h → gnomonref01_Add.L4.t R k a xs.length c b ys.length d a2 (i + 1) m ((ca / 4294967296 : Nat) : Int) ((i + 1 : Nat) : Int) h) :
    letK (andI .u64 x 4294967295) fun n17 => letK (IntKind.u32.wrap n17) fun n18 => boxK h 87 [.int .u32 n18] fun q19 h20 => apK h20 87 T87 a2 i m (.slice (some q19) 1 1) fun a_21 l_21 c_21 h21 =>
      0 ≤ (32 : Int) ∧ letK (shrI .u64 x 32) fun n22 => letK (IntKind.i64.wrap ((i : Int) + 1)) fun n23 => gnomonref01_Add.L4.t R k a xs.length c b ys.length d a_21 l_21 c_21 n22 n23 h21 := by
  refine and32 hx hca ?_
  refine k_u32 (ca % 4294967296) rfl (by omega) ?_
  refine push32 g kp hz.symm rfl (by omega) (by omega) (by omega) fun a' c' h' g' k' hc => ?_
  obtain rfl := hc (by omega)
  refine shr32 hx ?_
  refine k_i64 ((i + 1 : Nat) : Int) (by omega) (by omega) (by omega) ?_
  rw [hz]
  exact ih a' h' g' k'
theorem rAdd_walk {R : Rt} {a b : Option Addr} {c d m T : Nat} {xs ys : List Nat} {h0 : Hp} (r : RdE eU32 h0 a c xs) (s : RdE eU32 h0 b d ys) (hxm : xs.length < m) (hym : ys.length < m) (hm : m ≤ 35184372088832) (post : ∀ v h', Keep h0 h' → sD h0 h' v T → R v h') :
    ∀ (k i ca : Nat) (zs : List Nat) (a2 : Option Addr) (h : Hp), i + k = m → zs.length = i → ca ≤ 1 → (m ≤ i → ca = 0) → D.val zs + (D.val (xs.drop i) + D.val (ys.drop i) + ca) * 2 ^ (32 * i) = T → GotE eU32 h0 h a2 m zs → Keep h0 h →
      gnomonref01_Add.L4.t R (k + 1) a xs.length c b ys.length d a2 i m (ca : Int) (i : Int) h := by
  intro k
  induction k with
  | zero =>
    intro i ca zs a2 h hi hz hc hlast e g kp
    unfold gnomonref01_Add.L4.t gnomonref01_Add.D5.t
    refine c_dec (fun hb => absurd hb (by omega)) fun _ => ?_
    refine c_dec (fun hb => absurd hb (by omega)) fun _ => ?_
    rw [List.drop_of_length_le (by omega), List.drop_of_length_le (by omega)] at e
    have hc0 := hlast (by omega)
    refine c_dec (fun hb => absurd hb (by omega)) fun _ => ?_
    unfold gnomonref01_Add.D2.t
    refine rNorm_tail g hz.symm ?_ kp post
    rw [hc0] at e
    simpa [D.val] using e
  | succ k ih =>
    intro i ca zs a2 h hi hz hc hlast e g kp
    have hw := r.word32 i
    have hw2 := s.word32 i
    have ev : ∀ t c', (xs.getD i 0 + ys.getD i 0 + ca) = t + 4294967296 * c' → D.val (zs ++ [t]) + (D.val (xs.drop (i + 1)) + D.val (ys.drop (i + 1)) + c') * 2 ^ (32 * (i + 1)) = T := by
      intro t c' ht
      have h1 := D.val_getD_drop xs i
      have h2 := D.val_getD_drop ys i
      rw [← e]
      exact D.push_step (s := xs.getD i 0 + ys.getD i 0) hz (by omega) (by omega)
    have more : i < xs.length ∨ i < ys.length ∨ 0 < ca → gnomonref01_Add.D6.t R (gnomonref01_Add.L4.t R (k + 1)) a xs.length c b ys.length d a2 i m (ca : Int) (i : Int) h := by
      intro _
      unfold gnomonref01_Add.D6.t
      refine c_dec (fun hb => ?_) fun hb => ?_
      · refine at32 (r.keep kp) (j := i) rfl rfl (by omega) ?_
        refine k_u64 (xs.getD i 0) rfl (by omega) ?_
        refine k_u64 (ca + xs.getD i 0) (by omega) (by omega) ?_
        refine c_dec (fun hb2 => ?_) fun hb2 => ?_
        · refine at32 (s.keep kp) (j := i) rfl rfl (by omega) ?_
          refine k_u64 (ys.getD i 0) rfl (by omega) ?_
          refine k_u64 (ca + xs.getD i 0 + ys.getD i 0) (by omega) (by omega) ?_
          exact rAdd_push (T := T) i zs _ a2 h _ rfl (by omega) (by omega) hm g kp hz fun a' h' g' k' => ih (i + 1) _ _ a' h' (by omega) (by simp [hz]) (by omega) (by omega) (ev _ _ (by omega)) g' k'
        · have hy : ys.getD i 0 = 0 := by simp [List.getD, show ys.length ≤ i by omega]
          exact rAdd_push (T := T) i zs _ a2 h _ rfl (by omega) (by omega) hm g kp hz fun a' h' g' k' => ih (i + 1) _ _ a' h' (by omega) (by simp [hz]) (by omega) (by omega) (ev _ _ (by omega)) g' k'
      · have hx : xs.getD i 0 = 0 := by simp [List.getD, show xs.length ≤ i by omega]
        refine c_dec (fun hb2 => ?_) fun hb2 => ?_
        · refine at32 (s.keep kp) (j := i) rfl rfl (by omega) ?_
          refine k_u64 (ys.getD i 0) rfl (by omega) ?_
          refine k_u64 (ca + ys.getD i 0) (by omega) (by omega) ?_
          exact rAdd_push (T := T) i zs _ a2 h _ rfl (by omega) (by omega) hm g kp hz fun a' h' g' k' => ih (i + 1) _ _ a' h' (by omega) (by simp [hz]) (by omega) (by omega) (ev _ _ (by omega)) g' k'
        · have hy : ys.getD i 0 = 0 := by simp [List.getD, show ys.length ≤ i by omega]
          exact rAdd_push (T := T) i zs _ a2 h _ rfl (by omega) (by omega) hm g kp hz fun a' h' g' k' => ih (i + 1) _ _ a' h' (by omega) (by simp [hz]) (by omega) (by omega) (ev _ _ (by omega)) g' k'
    unfold gnomonref01_Add.L4.t gnomonref01_Add.D5.t
    refine c_dec (fun hb => more (by omega)) fun hb => ?_
    refine c_dec (fun hb => more (by omega)) fun hb2 => ?_
    refine c_dec (fun hb => more (by omega)) fun hb3 => ?_
    have hc0 : ca = 0 := by omega
    unfold gnomonref01_Add.D2.t
    refine rNorm_tail g hz.symm ?_ kp post
    rw [List.drop_of_length_le (by omega), List.drop_of_length_le (by omega), hc0] at e
    simpa [D.val] using e
theorem rAdd_spec {a b : Option Addr} {c d l n X Y : Nat} {h : Hp} (r : RdE eU32 h a c (D.digs X)) (s : RdE eU32 h b d (D.digs Y)) (hl : l = (D.digs X).length) (hm : n = (D.digs Y).length) (hx : (D.digs X).length ≤ 1099511627776) (hy : (D.digs Y).length ≤ 1099511627776) :
    HC gnomonref01_Add.id #[.slice a l c, .slice b n d] h fun v h' => Keep h h' ∧ sD h h' v (X + Y) := by
  subst hl; subst hm
  refine gnomonref01_Add.ok ?_
  unfold gnomonref01_Add.t gnomonref01_Add.D1.t
  have e : (if (((D.digs Y).length : Nat) : Int) > (((D.digs X).length : Nat) : Int) then (((D.digs Y).length : Nat) : Int) else (((D.digs X).length : Nat) : Int)) = ((max (D.digs X).length (D.digs Y).length : Nat) : Int) := by split <;> omega
  rw [e]
  refine k_i64 ((max (D.digs X).length (D.digs Y).length + 1 : Nat) : Int) (by omega) (by omega) (by omega) ?_
  refine mkE eU32 0 0 (max (D.digs X).length (D.digs Y).length + 1) rfl ok32 4 rfl (by decide) rfl rfl (by omega) (by omega) fun h2 o k => ?_
  unfold gnomonref01_Add.D3.t
  refine ⟨max (D.digs X).length (D.digs Y).length + 2, ?_⟩
  rw [Int.toNat_natCast]
  refine rAdd_walk (T := X + Y) r s (by omega) (by omega) (by omega) (fun v h' k s => ⟨k, s⟩) _ 0 0 [] _ h2 (by omega) rfl (by omega) (by omega) ?_ ?_ k
  · simp [D.val, D.val_digs]
  · exact BlkE.got (xs := []) (rest := List.replicate (max (D.digs X).length (D.digs Y).length + 1) 0) (by simpa using o) (Nat.le_refl _) (by simp) (by simp) (by simp)
end Go.Proofs.YtnbpbojcjihboaaDoor.G
