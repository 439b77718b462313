/- What the digits' calls of the reference answer: digit, DivMod. -/
import Derived.Test.YtnbpbojcjihboaaDoorRef01c
namespace Go.Proofs.YtnbpbojcjihboaaDoor.G
open Go.Gv
set_option maxRecDepth 100000
set_option linter.unusedVariables false
/-! ### windows of blocks -/
theorem win_at {h : Hp} {q off l : Nat} {A W B : List Nat} (o : BlkE eU32 h q (A ++ (W ++ B))) (hA : A.length = off) (hl : l = W.length) (hlen : W.length ≤ 70368744177656) {i : Int} {j : Nat} (hi : i = (j : Int)) (hj : j < W.length) {K : Int → Prop}
    (g : K (W.getD j 0 : Nat)) : idxK (some ⟨q, off, none⟩) l i 1 fun q => ldK h q fun v => gInt .u32 v K := by
  have r := o.rdAt (off := off) (n := W.length) (c := W.length) hlen (by simp; omega) (Nat.le_refl _)
  have e : ((A ++ (W ++ B)).drop off).take W.length = W := by rw [← hA, List.drop_left, List.take_left]
  rw [e] at r
  exact at32 r hi hl hj g
/-- A heap that was reached by writing into one block alone. -/
def KK (hv : Hp) (q : Nat) (h1 h : Hp) : Prop := Keep hv h ∧ KeepB q h1 h
theorem win_put {h hv h1 : Hp} {q off l : Nat} {A W B : List Nat} (o : BlkE eU32 h q (A ++ (W ++ B))) (hA : A.length = off) (hl : l = W.length) (kp : KK hv q h1 h) (hq : hv.size ≤ q) {i : Int} {j : Nat} (hi : i = (j : Int)) (hj : j < W.length) {x : Int} {v : Nat} (hx : x = (v : Int)) (hvv : v < 4294967296) {K : Hp → Prop}
    (g : ∀ h', BlkE eU32 h' q (A ++ (W.set j v ++ B)) → KK hv q h1 h' → K h') : idxK (some ⟨q, off, none⟩) l i 1 fun q => stK h q (.int .u32 x) K := by
  refine putE o hi (by omega) (by simp; omega) (by rw [hx]; rfl) hvv fun o2 k2 => ?_
  refine g _ ?_ ⟨k2.keep kp.1 hq, kp.2.trans k2⟩
  have e : (A ++ (W ++ B)).set (off + j) v = A ++ (W.set j v ++ B) := by
    rw [← hA, List.set_append_right _ _ (by omega), Nat.add_sub_cancel_left, List.set_append_left _ _ hj]
  rw [e] at o2; exact o2
/-! ### digit -/
theorem dig_step {W ys : List Nat} {j w U c o c' o' t : Nat} (hj : j < W.length) (h1 : c + w * ys.getD j 0 + o + t = W.getD j 0 + 4294967296 * (c' + o')) (e : D.val W + w * D.val (ys.take j) = U + (c + o) * 2 ^ (32 * j)) :
    D.val (W.set j t) + w * D.val (ys.take (j + 1)) = U + (c' + o') * 2 ^ (32 * (j + 1)) := by
  have hs := D.val_set (zs := W) (j := j) (v := t) hj
  rw [take_val, D.pow_step]
  generalize 2 ^ (32 * j) = P at *
  generalize W.getD j 0 = z at *
  have e1 : (c + w * ys.getD j 0 + o + t) * P = (z + 4294967296 * (c' + o')) * P := by rw [h1]
  have e2 : (c + w * ys.getD j 0 + o + t) * P = (c + o) * P + w * (P * ys.getD j 0) + t * P := by
    have : w * (P * ys.getD j 0) = w * ys.getD j 0 * P := by rw [Nat.mul_comm P, Nat.mul_assoc]
    rw [this, ← Nat.add_mul, ← Nat.add_mul]; congr 1; omega
  have e3 : (z + 4294967296 * (c' + o')) * P = z * P + (c' + o') * (4294967296 * P) := by
    rw [Nat.add_mul, Nat.mul_comm 4294967296, Nat.mul_assoc]
  rw [Nat.mul_add]
  omega
theorem digit_sub {R : Rt} {b : Option Addr} {c d n q off w U : Nat} {ys A B : List Nat} {hv h1 : Hp} (s : RdE eU32 hv b d ys) (hn : ys.length = n) (hA : A.length = off) (hq : hv.size ≤ q) (hw : w < 4294967296) (hnn : n < 1099511627776)
    (g : ∀ h o W, o ≤ 1 → W.length = n + 1 → BlkE eU32 h q (A ++ (W ++ B)) → KK hv q h1 h → D.val W + w * D.val ys = U + o * 2 ^ (32 * (n + 1)) → (∃ m, gnomonref01_digit.L3.t R m (some ⟨q, off, none⟩) (n + 1) c b n d (n : Int) (w : Int) (o : Int) h)) :
    ∀ (k j cc o : Nat) (W : List Nat) (h : Hp), j + k = n + 1 → W.length = n + 1 → cc < 4294967296 → o ≤ 1 → (j = n + 1 → cc = 0) → BlkE eU32 h q (A ++ (W ++ B)) → KK hv q h1 h → D.val W + w * D.val (ys.take j) = U + (cc + o) * 2 ^ (32 * j) →
      gnomonref01_digit.L16.t R (k + 1) (some ⟨q, off, none⟩) (n + 1) c b n d (n : Int) (w : Int) (cc : Int) (o : Int) (j : Int) h := by
  intro k
  induction k with
  | zero =>
    intro j cc o W h hj hW hc ho hlast ob kp e
    unfold gnomonref01_digit.L16.t gnomonref01_digit.D17.t
    refine c_dec (fun hb => absurd hb (by omega)) fun _ => ?_
    have hc0 := hlast (by omega)
    subst hc0
    rw [List.take_of_length_le (by omega), Nat.zero_add, show j = n + 1 by omega] at e
    exact g h o W ho hW ob kp e
  | succ k ih =>
    intro j cc o W h hj hW hc ho hlast ob kp e
    have hwj : W.getD j 0 < 4294967296 := by
      refine getD_ltB (by decide) (fun x hx => ob.ok x ?_) j
      exact List.mem_append_right _ (List.mem_append_left _ hx)
    have hwl : W.length ≤ 70368744177656 := by omega
    have step : ∀ (p take cc' : Nat), p = w * ys.getD j 0 → take < 4294967296 → cc + p = take + 4294967296 * cc' → cc' < 4294967296 → (j = n → cc' = 0) →
        idxK (some ⟨q, off, none⟩) (n + 1) (j : Int) 1 fun q70 => ldK h q70 fun v71 => gInt .u32 v71 fun x_72 => letK (IntKind.u64.wrap x_72) fun n73 =>
          cond (decide (n73 < ((take + o : Nat) : Int))) (letK (IntKind.u64.wrap (n73 + 4294967296)) fun n74 => letK (IntKind.u64.wrap (n74 - ((take + o : Nat) : Int))) fun n75 => letK (IntKind.u32.wrap n75) fun n76 => idxK (some ⟨q, off, none⟩) (n + 1) (j : Int) 1 fun q77 => stK h q77 (.int .u32 n76) fun h78 => letK (IntKind.i64.wrap ((j : Int) + 1)) fun n79 => gnomonref01_digit.L16.t R (k + 1) (some ⟨q, off, none⟩) (n + 1) c b n d (n : Int) (w : Int) (cc' : Int) 1 n79 h78)
            (letK (IntKind.u64.wrap (n73 - ((take + o : Nat) : Int))) fun n80 => letK (IntKind.u32.wrap n80) fun n81 => idxK (some ⟨q, off, none⟩) (n + 1) (j : Int) 1 fun q82 => stK h q82 (.int .u32 n81) fun h83 => letK (IntKind.i64.wrap ((j : Int) + 1)) fun n84 => gnomonref01_digit.L16.t R (k + 1) (some ⟨q, off, none⟩) (n + 1) c b n d (n : Int) (w : Int) (cc' : Int) 0 n84 h83) := by
      intro p take cc' hp ht hcp hc' hl
      refine win_at ob hA hW.symm hwl rfl (by omega) ?_
      refine k_u64 (W.getD j 0) rfl (by omega) ?_
      refine c_dec (fun hb => ?_) fun hb => ?_
      · refine k_u64 (W.getD j 0 + 4294967296) (by omega) (by omega) ?_
        refine k_u64 (W.getD j 0 + 4294967296 - (take + o)) (by omega) (by omega) ?_
        refine k_u32 (W.getD j 0 + 4294967296 - (take + o)) rfl (by omega) ?_
        refine win_put ob hA hW.symm kp hq rfl (by omega) rfl (by omega) fun h2 o2 k2 => ?_
        refine k_i64 ((j + 1 : Nat) : Int) (by omega) (by omega) (by omega) ?_
        exact ih (j + 1) cc' 1 _ h2 (by omega) (by simp [hW]) hc' (by omega) (fun hh => hl (by omega)) o2 k2 (dig_step (by omega) (by rw [← hp]; omega) e)
      · refine k_u64 (W.getD j 0 - (take + o)) (by omega) (by omega) ?_
        refine k_u32 (W.getD j 0 - (take + o)) rfl (by omega) ?_
        refine win_put ob hA hW.symm kp hq rfl (by omega) rfl (by omega) fun h2 o2 k2 => ?_
        refine k_i64 ((j + 1 : Nat) : Int) (by omega) (by omega) (by omega) ?_
        exact ih (j + 1) cc' 0 _ h2 (by omega) (by simp [hW]) hc' (by omega) (fun hh => hl (by omega)) o2 k2 (dig_step (by omega) (by rw [← hp]; omega) e)
    unfold gnomonref01_digit.L16.t gnomonref01_digit.D17.t
    refine c_dec (fun _ => ?_) fun hb => absurd (by omega) hb
    refine c_dec (fun hb => ?_) fun hb => ?_
    · have hy := s.word32 j
      have hp := mul_lt32 hw hy
      refine at32 (s.keep kp.1) (j := j) rfl hn.symm (by omega) ?_
      refine k_u64 (ys.getD j 0) rfl (by omega) ?_
      have em : (w : Int) * ((ys.getD j 0 : Nat) : Int) = ((w * ys.getD j 0 : Nat) : Int) := (Int.natCast_mul _ _).symm
      rw [em]
      obtain ⟨p, hpe⟩ : ∃ p, p = w * ys.getD j 0 := ⟨_, rfl⟩
      rw [← hpe] at hp ⊢
      refine k_u64 p rfl (by omega) ?_
      refine k_u64 (cc + p) (by omega) (by omega) ?_
      refine and32 rfl (by omega) ?_
      refine k_u64 ((cc + p) % 4294967296 + o) (by omega) (by omega) ?_
      refine shr32 rfl ?_
      exact step p _ _ hpe (by omega) (by omega) (by omega) (fun hh => absurd hb (by omega))
    · have hy0 : ys.getD j 0 = 0 := by simp [List.getD, show ys.length ≤ j by omega]
      refine and32 rfl (by omega) ?_
      refine k_u64 (cc % 4294967296 + o) (by omega) (by omega) ?_
      refine shr32 rfl ?_
      exact step 0 _ _ (by rw [hy0]; rfl) (by omega) (by omega) (by omega) (fun hh => by omega)
theorem dig_back {W ys : List Nat} {j T c c' t : Nat} (hj : j < W.length) (h1 : c + W.getD j 0 + ys.getD j 0 = t + 4294967296 * c') (e : D.val W + c * 2 ^ (32 * j) = T + D.val (ys.take j)) :
    D.val (W.set j t) + c' * 2 ^ (32 * (j + 1)) = T + D.val (ys.take (j + 1)) := by
  have hs := D.val_set (zs := W) (j := j) (v := t) hj
  rw [take_val, D.pow_step]
  generalize 2 ^ (32 * j) = P at *
  generalize W.getD j 0 = z at *
  have e1 : (c + z + ys.getD j 0) * P = (t + 4294967296 * c') * P := by rw [h1]
  have e2 : (c + z + ys.getD j 0) * P = c * P + z * P + P * ys.getD j 0 := by rw [Nat.add_mul, Nat.add_mul, Nat.mul_comm P]
  have e3 : (t + 4294967296 * c') * P = t * P + c' * (4294967296 * P) := by rw [Nat.add_mul, Nat.mul_comm 4294967296, Nat.mul_assoc]
  omega
theorem digit_add {R : Rt} {N3 : Option Addr → Nat → Nat → Option Addr → Nat → Nat → Int → Int → Int → Hp → Prop} {b : Option Addr} {c d n q off T : Nat} {w : Int} {ys A B : List Nat} {hv h1 : Hp} (s : RdE eU32 hv b d ys) (hn : ys.length = n) (hA : A.length = off) (hq : hv.size ≤ q) (hnn : n < 1099511627776)
    (g : ∀ h cc W, cc ≤ 1 → W.length = n + 1 → BlkE eU32 h q (A ++ (W ++ B)) → KK hv q h1 h → D.val W + cc * 2 ^ (32 * (n + 1)) = T + D.val ys → N3 (some ⟨q, off, none⟩) (n + 1) c b n d (n : Int) w ((1 - cc : Nat) : Int) h) :
    ∀ (k j cc : Nat) (W : List Nat) (h : Hp), j + k = n + 1 → W.length = n + 1 → cc ≤ 1 → BlkE eU32 h q (A ++ (W ++ B)) → KK hv q h1 h → D.val W + cc * 2 ^ (32 * j) = T + D.val (ys.take j) →
      gnomonref01_digit.L8.t R N3 (k + 1) (some ⟨q, off, none⟩) (n + 1) c b n d (n : Int) w (cc : Int) 1 (j : Int) h := by
  intro k
  induction k with
  | zero =>
    intro j cc W h hj hW hc ob kp e
    unfold gnomonref01_digit.L8.t gnomonref01_digit.D9.t
    refine c_dec (fun hb => absurd hb (by omega)) fun _ => ?_
    unfold gnomonref01_digit.D6.t
    refine k_u64 (1 - cc) (by split <;> omega) (by omega) ?_
    rw [List.take_of_length_le (by omega), show j = n + 1 by omega] at e
    exact g h cc W hc hW ob kp e
  | succ k ih =>
    intro j cc W h hj hW hc ob kp e
    have hwj : W.getD j 0 < 4294967296 := by
      refine getD_ltB (by decide) (fun x hx => ob.ok x ?_) j
      exact List.mem_append_right _ (List.mem_append_left _ hx)
    have hwl : W.length ≤ 70368744177656 := by omega
    unfold gnomonref01_digit.L8.t gnomonref01_digit.D9.t
    refine c_dec (fun _ => ?_) fun hb => absurd (by omega) hb
    refine win_at ob hA hW.symm hwl rfl (by omega) ?_
    refine k_u64 (W.getD j 0) rfl (by omega) ?_
    refine k_u64 (cc + W.getD j 0) (by omega) (by omega) ?_
    refine c_dec (fun hb => ?_) fun hb => ?_
    · have hy := s.word32 j
      refine at32 (s.keep kp.1) (j := j) rfl hn.symm (by omega) ?_
      refine k_u64 (ys.getD j 0) rfl (by omega) ?_
      refine k_u64 (cc + W.getD j 0 + ys.getD j 0) (by omega) (by omega) ?_
      refine and32 rfl (by omega) ?_
      refine k_u32 ((cc + W.getD j 0 + ys.getD j 0) % 4294967296) rfl (by omega) ?_
      refine win_put ob hA hW.symm kp hq rfl (by omega) rfl (by omega) fun h2 o2 k2 => ?_
      refine shr32 rfl ?_
      refine k_i64 ((j + 1 : Nat) : Int) (by omega) (by omega) (by omega) ?_
      exact ih (j + 1) _ _ h2 (by omega) (by simp [hW]) (by omega) o2 k2 (dig_back (by omega) (by omega) e)
    · have hy0 : ys.getD j 0 = 0 := by simp [List.getD, show ys.length ≤ j by omega]
      refine and32 rfl (by omega) ?_
      refine k_u32 ((cc + W.getD j 0) % 4294967296) rfl (by omega) ?_
      refine win_put ob hA hW.symm kp hq rfl (by omega) rfl (by omega) fun h2 o2 k2 => ?_
      refine shr32 rfl ?_
      refine k_i64 ((j + 1 : Nat) : Int) (by omega) (by omega) (by omega) ?_
      exact ih (j + 1) _ _ h2 (by omega) (by simp [hW]) (by omega) o2 k2 (dig_back (by omega) (by rw [hy0]; omega) e)
theorem digit_mend {R : Rt} {b : Option Addr} {c d n q off U : Nat} {ys A B : List Nat} {hv h1 : Hp} (s : RdE eU32 hv b d ys) (hn : ys.length = n) (hA : A.length = off) (hq : hv.size ≤ q) (hnn : n < 1099511627776) (hV : 0 < D.val ys)
    (post : ∀ h W, W.length = n + 1 → BlkE eU32 h q (A ++ (W ++ B)) → KK hv q h1 h → D.val W = U % D.val ys → R (.int .u32 ((U / D.val ys : Nat) : Int)) h) :
    ∀ (k w o : Nat) (W : List Nat) (h : Hp), w ≤ U / D.val ys + k → U / D.val ys ≤ w → w < 4294967296 → o ≤ 1 → W.length = n + 1 → BlkE eU32 h q (A ++ (W ++ B)) → KK hv q h1 h → D.val W + w * D.val ys = U + o * 2 ^ (32 * (n + 1)) →
      gnomonref01_digit.L3.t R (k + 1) (some ⟨q, off, none⟩) (n + 1) c b n d (n : Int) (w : Int) (o : Int) h := by
  have hdm := Nat.div_add_mod U (D.val ys)
  have hml := Nat.mod_lt U hV
  have fin : ∀ (w : Nat) (W : List Nat) (h : Hp), U / D.val ys ≤ w → w < 4294967296 → W.length = n + 1 → BlkE eU32 h q (A ++ (W ++ B)) → KK hv q h1 h → D.val W + w * D.val ys = U → gnomonref01_digit.D2.t R (w : Int) h := by
    intro w W h hqw hw hW ob kp e
    have hle : w ≤ U / D.val ys := by rw [Nat.le_div_iff_mul_le hV]; omega
    have hwe : w = U / D.val ys := Nat.le_antisymm hle hqw
    unfold gnomonref01_digit.D2.t
    refine k_u32 w rfl hw ?_
    rw [hwe]
    refine post h W hW ob kp ?_
    rw [hwe, Nat.mul_comm] at e; omega
  have more : ∀ (w : Nat) (W : List Nat), W.length = n + 1 → (∀ x ∈ W, x < 4294967296) → D.val W + w * D.val ys = U + 1 * 2 ^ (32 * (n + 1)) → U / D.val ys < w := by
    intro w W hW hok e
    have hlt := D.val_lt (xs := W) hok
    rw [hW] at hlt
    rw [Nat.div_lt_iff_lt_mul hV]; omega
  clear hdm hml
  generalize U / D.val ys = Q at *
  intro k
  induction k with
  | zero =>
    intro w o W h hwk hqw hw ho hW ob kp e
    unfold gnomonref01_digit.L3.t gnomonref01_digit.D4.t
    have ho0 : o = 0 := by
      rcases Nat.lt_or_ge o 1 with hh | hh
      · omega
      · have : o = 1 := by omega
        subst this
        have := more w W hW (fun x hx => ob.ok x (List.mem_append_right _ (List.mem_append_left _ hx))) e
        omega
    subst ho0
    refine c_dec (fun hb => absurd hb (by omega)) fun _ => ?_
    exact fin w W h hqw hw hW ob kp (by omega)
  | succ k ih =>
    intro w o W h hwk hqw hw ho hW ob kp e
    unfold gnomonref01_digit.L3.t gnomonref01_digit.D4.t
    refine c_dec (fun hb => ?_) fun hb => ?_
    · have ho1 : o = 1 := by omega
      subst ho1
      have hgt := more w W hW (fun x hx => ob.ok x (List.mem_append_right _ (List.mem_append_left _ hx))) e
      unfold gnomonref01_digit.D5.t
      refine k_u64 (w - 1) (by omega) (by omega) ?_
      unfold gnomonref01_digit.D7.t
      refine ⟨n + 2, ?_⟩
      refine digit_add (T := D.val W) s hn hA hq hnn (fun h2 cc W2 hc hW2 o2 k2 e2 => ?_) (n + 1) 0 0 W h (by omega) hW (by omega) ob kp (by simp [D.val])
      refine ih (w - 1) (1 - cc) W2 h2 (by omega) (by omega) (by omega) (by omega) hW2 o2 k2 ?_
      have ew : (w - 1) * D.val ys + D.val ys = w * D.val ys := by
        rw [← Nat.succ_mul, Nat.succ_eq_add_one, Nat.sub_add_cancel (by omega)]
      generalize 2 ^ (32 * (n + 1)) = M at *
      rcases Nat.lt_or_ge cc 1 with hh | hh
      · have : cc = 0 := by omega
        subst this; omega
      · have : cc = 1 := by omega
        subst this; omega
    · have : o = 0 := by omega
      subst this
      exact fin w W h hqw hw hW ob kp (by omega)
theorem getD_top {xs : List Nat} (hw : D.Words xs) {m : Nat} (hm : xs.length = m + 1) : D.val xs / 2 ^ (32 * m) = xs.getD m 0 := by
  rw [← D.val_drop hw, drop_getD (by omega), List.drop_of_length_le (by omega)]; simp [D.val]
theorem getD_two {xs : List Nat} (hw : D.Words xs) {m : Nat} (hm : xs.length = m + 2) : D.val xs / 2 ^ (32 * m) = xs.getD m 0 + 4294967296 * xs.getD (m + 1) 0 := by
  rw [← D.val_drop hw, drop_getD (by omega), drop_getD (by omega), List.drop_of_length_le (by omega)]; simp [D.val]
theorem digit_spec {b : Option Addr} {c d l n q off m U : Nat} {ys A W B : List Nat} {hv h : Hp} (s : RdE eU32 hv b d ys) (hn : ys.length = n) (hnl : n = l) (hA : A.length = off) (hq : hv.size ≤ q) (hnn : n < 1099511627776) (hn0 : 0 < n) (htop : ys.getD (n - 1) 0 ≠ 0) (hU : D.val W = U) (hlt : U < 4294967296 * D.val ys)
    (hW : W.length = n + 1) (hm : m = n + 1) (ob : BlkE eU32 h q (A ++ (W ++ B))) (kp0 : Keep hv h) :
    HC gnomonref01_digit.id #[.slice (some ⟨q, off, none⟩) m c, .slice b l d] h fun v h' => v = .int .u32 ((U / D.val ys : Nat) : Int) ∧ KK hv q h h' ∧ ∃ W', W'.length = n + 1 ∧ BlkE eU32 h' q (A ++ (W' ++ B)) ∧ D.val W' = U % D.val ys := by
  subst hm; subst hnl
  have kp : KK hv q h h := ⟨kp0, KeepB.refl _ _⟩
  refine gnomonref01_digit.ok ?_
  unfold gnomonref01_digit.t gnomonref01_digit.D1.t
  have hwl : W.length ≤ 70368744177656 := by omega
  have hWok : D.Words W := fun x hx => ob.ok x (List.mem_append_right _ (List.mem_append_left _ hx))
  have hhi := getD_ltB (xs := W) (B := 4294967296) (by decide) hWok n
  have hlo := getD_ltB (xs := W) (B := 4294967296) (by decide) hWok (n - 1)
  have hvt := s.word32 (n - 1)
  refine win_at ob hA hW.symm hwl (j := n) rfl (by omega) ?_
  refine k_u64 (W.getD n 0) rfl (by omega) ?_
  refine shl32 rfl hhi ?_
  refine k_i64 ((n - 1 : Nat) : Int) (by omega) (by omega) (by omega) ?_
  refine win_at ob hA hW.symm hwl (j := n - 1) rfl (by omega) ?_
  refine k_u64 (W.getD (n - 1) 0) rfl (by omega) ?_
  refine k_u64 (W.getD (n - 1) 0 + 4294967296 * W.getD n 0) (by omega) (by omega) ?_
  refine k_i64 ((n - 1 : Nat) : Int) (by omega) (by omega) (by omega) ?_
  refine at32 (s.keep kp.1) (j := n - 1) rfl hn.symm (by omega) ?_
  refine k_u64 (ys.getD (n - 1) 0) rfl (by omega) ?_
  refine ⟨by omega, ?_⟩
  rw [tdiv_nat]
  have hle := Nat.div_le_self (W.getD (n - 1) 0 + 4294967296 * W.getD n 0) (ys.getD (n - 1) 0)
  refine k_u64 ((W.getD (n - 1) 0 + 4294967296 * W.getD n 0) / ys.getD (n - 1) 0) rfl (by omega) ?_
  have hV : 0 < D.val ys := by
    rcases Nat.eq_zero_or_pos (D.val ys) with e | e
    · rw [e] at hlt; omega
    · exact e
  have et := getD_top s.ok (m := n - 1) (by omega)
  have e2 := getD_two hWok (m := n - 1) (by omega)
  rw [show n - 1 + 1 = n by omega, hU] at e2
  have hest : U / D.val ys ≤ (W.getD (n - 1) 0 + 4294967296 * W.getD n 0) / ys.getD (n - 1) 0 := by
    rw [← e2, ← et, Nat.div_div_eq_div_mul]
    refine Nat.div_le_div_left (Nat.mul_div_le _ _) ?_
    rw [et]; exact Nat.mul_pos (Nat.pow_pos (by decide)) (by omega)
  have hq32 : U / D.val ys < 4294967296 := by rw [Nat.div_lt_iff_lt_mul hV]; exact hlt
  generalize (W.getD (n - 1) 0 + 4294967296 * W.getD n 0) / ys.getD (n - 1) 0 = est at *
  obtain ⟨w, hwe⟩ : ∃ w : Nat, w = min est 4294967295 := ⟨_, rfl⟩
  have ew : (if (4294967295 : Int) < (est : Int) then (4294967295 : Int) else (est : Int)) = (w : Int) := by split <;> omega
  rw [ew]
  unfold gnomonref01_digit.D15.t
  refine ⟨n + 2, ?_⟩
  refine digit_sub (U := U) s hn hA hq (by omega) hnn (fun h2 o W2 ho hW2 o2 k2 e2 => ?_) (n + 1) 0 0 0 W h (by omega) hW (by decide) (by omega) (by omega) ob kp (by simp [D.val, hU])
  refine ⟨w - U / D.val ys + 1, ?_⟩
  exact digit_mend s hn hA hq hnn hV (fun h3 W3 hW3 o3 k3 e3 => ⟨rfl, k3, W3, hW3, o3, e3⟩) _ w o W2 h2 (by omega) (by omega) (by omega) ho hW2 o2 k2 e2
end Go.Proofs.YtnbpbojcjihboaaDoor.G
