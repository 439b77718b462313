/- What fill, slabs, thirds, product and Mul answer. -/
import Derived.Test.YtaglonbkdcmmpaaMulSpec2
namespace Go.Proofs.Ytaglonbkdcmmpaa.G
open Go.Gv
set_option maxRecDepth 100000
theorem stH_keepB {q : Nat} : ∀ {vs : List Value} {h : Hp} {i : Nat}, KeepB q h (stH h ⟨q, 0, none⟩ i vs)
  | [], h, _ => KeepB.refl _ _
  | v :: vs, h, i => by
    have e : stH h ⟨q, 0, none⟩ i (v :: vs) = stH (setH h ⟨q, i, none⟩ v) ⟨q, 0, none⟩ (i + 1) vs := by
      show stH (setH h ((⟨q, 0, none⟩ : Addr).add i) v) _ _ _ = _
      rw [base_add]
    rw [e]; exact (KeepB.set q h i v).trans stH_keepB
theorem mine_cp {h : Hp} {b l l2 c2 : Nat} {xs ys : List Nat} {a : Option Addr} (o : Mine h b xs) (r : Rd h a c2 ys) (hl : l = xs.length) (hl2 : l2 = ys.length) (hle : ys.length ≤ xs.length) {K : Int → Hp → Prop}
    (g : ∀ h', Mine h' b (ys ++ xs.drop ys.length) → KeepB b h h' → K (ys.length : Int) h') : cpK h 1 (some ⟨b, 0, none⟩) l (.slice a l2 c2) K := by
  subst hl; subst hl2
  obtain ⟨rest, o⟩ := o
  have hm : Nat.min ys.length xs.length = ys.length := Nat.min_eq_left hle
  refine ⟨ys.length, ys.map wv, rfl, ⟨by rw [List.length_map, hm]; omega, ?_, ?_⟩, ?_, ?_⟩
  · intro v hv
    obtain ⟨x, _, e⟩ := List.mem_map.mp hv
    subst e; rfl
  · cases a with
    | none =>
      show ys.map wv = []
      cases ys with
      | nil => simp
      | cons y ys => obtain ⟨p, e, _⟩ := r.at_ 0 (by simp); cases e
    | some p =>
      refine rdL_of fun j hj => ?_
      obtain ⟨p', e, g'⟩ := r.at_ j hj
      cases e
      rw [Nat.zero_add]; exact g'
  · refine stL_of fun j hj => ?_
    rw [Nat.zero_add, base_add]
    rw [List.length_map] at hj
    exact ⟨⟨_, o.cell (by rw [List.length_append]; omega)⟩, o.frozen j⟩
  · have := stH_own (h0 := #[]) (vs := ys) (i := 0) o r.words (by rw [List.length_append]; omega) (by simp) ⟨by simp, fun b hb => absurd hb (by simp)⟩
    rw [hm]
    refine g _ ⟨rest, ?_⟩ stH_keepB
    have e : List.take 0 (xs ++ rest) ++ (ys ++ List.drop (0 + ys.length) (xs ++ rest)) = ys ++ xs.drop ys.length ++ rest := by
      rw [List.take_zero, List.nil_append, Nat.zero_add, List.drop_append_of_le_length hle, List.append_assoc]
    rw [← e]; exact this.1
/-! ### the great recursion -/
def FillOK (N : Nat) : Prop := ∀ {a b : Option Addr} {c c1 c2 la lb n q : Nat} {xs ys : List Nat} {h : Hp}, xs.length + ys.length ≤ N → Mine h q (List.replicate n 0) → Rd h a c1 xs → Rd h b c2 ys → la = xs.length → lb = ys.length → (xs = [] ∨ Off q a) → (ys = [] ∨ Off q b) → n = xs.length + ys.length →
  HC natmul_fill.id #[.slice (some ⟨q, 0, none⟩) n c, .slice a la c1, .slice b lb c2] h fun v h' => v = .tuple #[] ∧ KeepB q h h' ∧ ∃ zs, Mine h' q zs ∧ zs.length = n ∧ val zs = val xs * val ys
theorem product_of {N : Nat} (ok : FillOK N) {a b : Option Addr} {c d l m : Nat} {xs ys : List Nat} {h : Hp} (hN : xs.length + ys.length ≤ N) (r : Rd h a c xs) (s : Rd h b d ys) (hl : l = xs.length) (hm : m = ys.length) (hb : xs.length + ys.length ≤ 35184372088828) :
    HC natmul_product.id #[.slice a l c, .slice b m d] h fun v h' => Keep h h' ∧ Fresh h h' v (digs (val xs * val ys)) := by
  subst hl; subst hm
  refine natmul_product.ok ?_
  unfold natmul_product.t natmul_product.D1.t
  refine k_i64 ((xs.length + ys.length : Nat) : Int) (by omega) (by omega) (by omega) ?_
  refine mk_intro (xs.length + ys.length) rfl rfl rfl rfl hb fun h1 o k => ?_
  refine hc_intro (ok hN o.mine (r.keep k) (s.keep k) rfl rfl (r.off (Nat.le_refl _)) (s.off (Nat.le_refl _)) rfl) fun v h2 ⟨e2, k2, zs, o2, hz, ev⟩ => ?_
  subst e2
  refine gTup_intro rfl (unnil_intro ?_)
  refine mtrim_fresh (Nat.le_refl h.size) o2 hz.symm (Nat.le_refl _) fun v f => ?_
  rw [ev] at f
  obtain ⟨q, hq, e4, o4⟩ := f
  subst e4
  exact ⟨k2.keep k (Nat.le_refl _), q, hq, rfl, o4⟩
theorem mul_fits {xs ys : List Nat} (hx : Words xs) (hy : Words ys) : val xs * val ys < 2 ^ (64 * (xs.length + ys.length)) := by
  rw [Nat.mul_add, Nat.pow_add]
  exact Nat.mul_lt_mul'' (val_lt hx) (val_lt hy)
theorem slabs_loop {N : Nat} (ok : ∀ M, M < N → FillOK M) {R : Rt} {a b : Option Addr} {c c1 c2 la lb n q : Nat} {xs ys : List Nat} {h0 : Hp} (hN : xs.length + ys.length ≤ N) (r : Rd h0 a c1 xs) (s : Rd h0 b c2 ys) (hla : la = xs.length) (hlb : lb = ys.length) (ox : Off q a) (oy : Off q b) (hn : n = xs.length + ys.length)
    (hl0 : 1 ≤ ys.length) (hl2 : 2 * ys.length ≤ xs.length) (hq : q < h0.size)
    (g : ∀ h' zs, KeepB q h0 h' → Mine h' q zs → zs.length = n → val zs = val xs * val ys → R (.tuple #[]) h') :
    ∀ (k i : Nat) (zs : List Nat) (h : Hp), xs.length ≤ i + k → i ≤ xs.length + ys.length → zs.length = n → Mine h q zs → KeepB q h0 h → val zs = val (xs.take i) * val ys →
      natmul_slabs.L2.t R (k + 1) (some ⟨q, 0, none⟩) n c a la c1 b lb c2 (i : Int) h := by
  subst hla; subst hlb
  intro k
  induction k with
  | zero =>
    intro i zs h hi hi2 hz o kp e
    unfold natmul_slabs.L2.t natmul_slabs.D3.t
    refine c_dec (fun hb => absurd hb (by omega)) fun hb => ?_
    rw [List.take_of_length_le (by omega)] at e
    exact g _ _ kp o hz e
  | succ k ih =>
    intro i zs h hi hi2 hz o kp e
    have hlen := o.len
    have hc1 := r.cap
    unfold natmul_slabs.L2.t natmul_slabs.D3.t
    refine c_dec (fun hb => ?_) fun hb => ?_
    · refine k_i64 ((i + ys.length : Nat) : Int) (by omega) (by omega) (by omega) ?_
      obtain ⟨m, hm⟩ : ∃ m, m = min (i + ys.length) xs.length := ⟨_, rfl⟩
      have em : (if (((xs.length : Nat) : Int)) < ((i + ys.length : Nat) : Int) then (((xs.length : Nat) : Int)) else ((i + ys.length : Nat) : Int)) = (m : Int) := by
        split <;> omega
      rw [em]
      refine sl_mid3 rfl rfl rfl (by omega) (by omega) ?_
      have hrt : (xs.take m).length = m := by rw [List.length_take]; omega
      have rt := ((r.keepB ox kp).take m).cap_le (c' := m) (by omega)
      have rd := rt.drop i (by omega)
      have hpl : ((xs.take m).drop i).length = m - i := by rw [List.length_drop, hrt]
      refine hc_intro (mtrim_spec (rd.cap_le (c' := m - i) (by omega)) hpl.symm) fun v h1 ⟨e1, e2⟩ => ?_
      subst e1; subst e2
      refine gSlice_intro rfl ?_
      have rp := rd_trim (rd.cap_le (c' := m - i) (by omega))
      have hpt := trimL_le ((xs.take m).drop i)
      refine hc_intro (product_of (ok (ys.length + ys.length) (by omega)) (by omega) rp (s.keepB oy kp) rfl rfl (by omega)) fun v h2 ⟨k2, f⟩ => ?_
      refine f.elim fun b2 hb2 o2 => ?_
      rw [val_trimL] at o2 ⊢
      have ep : val (xs.take m) = val (xs.take i) + 2 ^ (64 * i) * val ((xs.take m).drop i) := by
        conv => lhs; rw [← List.take_append_drop i (xs.take m)]
        rw [val_append, List.length_take, hrt, Nat.min_eq_left (by omega), List.take_take, Nat.min_eq_left (by omega)]
      have hle : val (xs.take m) ≤ val xs := by
        have : val xs = val (xs.take m) + 2 ^ (64 * m) * val (xs.drop m) := by
          conv => lhs; rw [← List.take_append_drop m xs]
          rw [val_append, hrt]
        omega
      have etot : val zs + val ((xs.take m).drop i) * val ys * 2 ^ (64 * i) = val (xs.take m) * val ys := by
        rw [e, ep, Nat.add_mul, Nat.mul_right_comm, Nat.mul_comm (2 ^ (64 * i))]
      have hlt : val (xs.take m) * val ys < 2 ^ (64 * zs.length) := by
        rw [hz, hn]
        exact Nat.lt_of_le_of_lt (Nat.mul_le_mul_right _ hle) (mul_fits r.words s.words)
      have o1 := o.keep k2
      have hqb : q ≠ b2 := by have := kp.le; omega
      refine hc_intro (addAt_spec (at_ := i) o1 (o2.rd (Nat.le_refl _)) rfl hz.symm (Or.inr (off_of_ne (Ne.symm hqb))) (by rw [val_digs, etot]; exact hlt) (fit_of (by omega) (by omega)) rfl rfl) fun v h3 ⟨e3, k3, zs3, o3, hz3, ev3⟩ => ?_
      subst e3
      refine gTup_intro rfl (unnil_intro ?_)
      refine k_i64 ((i + ys.length : Nat) : Int) (by omega) (by omega) (by omega) ?_
      rw [val_digs, etot] at ev3
      refine ih (i + ys.length) zs3 h3 (by omega) (by omega) (by omega) o3 ((kp.trans k2.toB).trans k3) ?_
      rw [ev3]
      congr 2
      by_cases hc : i + ys.length ≤ xs.length
      · rw [hm, Nat.min_eq_left hc]
      · rw [List.take_of_length_le (by omega), List.take_of_length_le (by omega)]
    · rw [List.take_of_length_le (by omega)] at e
      exact g _ _ kp o hz e
theorem kara {X Y x0 x1 y0 y1 W : Nat} (hx : X = x0 + W * x1) (hy : Y = y0 + W * y1) : (x0 + x1) * (y0 + y1) = x0 * y0 + (x0 * y1 + x1 * y0) + x1 * y1 ∧ X * Y = x0 * y0 + (x0 * y1 + x1 * y0) * W + x1 * y1 * (W * W) := by
  subst hx; subst hy
  constructor
  · rw [Nat.add_mul, Nat.mul_add, Nat.mul_add]; omega
  · have e1 : x0 * (W * y1) = x0 * y1 * W := by rw [Nat.mul_comm W, Nat.mul_assoc]
    have e2 : W * x1 * y0 = x1 * y0 * W := by rw [Nat.mul_assoc, Nat.mul_comm]
    have e3 : W * x1 * (W * y1) = x1 * y1 * (W * W) := by
      rw [Nat.mul_mul_mul_comm, Nat.mul_comm]
    rw [Nat.add_mul, Nat.mul_add, Nat.mul_add, e1, e2, e3, Nat.add_mul]; omega
theorem thirds_of {N : Nat} (ok : ∀ M, M < N → FillOK M) {a b : Option Addr} {c c1 c2 la lb n q : Nat} {xs ys : List Nat} {h : Hp} (hN : xs.length + ys.length ≤ N) (o : Mine h q (List.replicate n 0)) (r : Rd h a c1 xs) (s : Rd h b c2 ys) (hla : la = xs.length) (hlb : lb = ys.length) (ox : Off q a) (oy : Off q b) (hn : n = xs.length + ys.length)
    (h40 : 40 ≤ ys.length) (hxy : ys.length ≤ xs.length) (hl2 : xs.length < 2 * ys.length) :
    HC natmul_thirds.id #[.slice (some ⟨q, 0, none⟩) n c, .slice a la c1, .slice b lb c2] h fun v h' => v = .tuple #[] ∧ KeepB q h h' ∧ ∃ zs, Mine h' q zs ∧ zs.length = n ∧ val zs = val xs * val ys := by
  subst hla; subst hlb
  have hlen := o.len
  rw [List.length_replicate] at hlen
  have hqs := o.lt
  refine natmul_thirds.ok ?_
  unfold natmul_thirds.t natmul_thirds.D1.t
  refine k_i64 ((xs.length + 1 : Nat) : Int) (by omega) (by omega) (by omega) ?_
  obtain ⟨k, hk⟩ : ∃ k, k = (xs.length + 1) / 2 := ⟨_, rfl⟩
  refine ⟨by omega, k_i64 (k : Int) (by rw [hk]; exact tdiv_nat _ 2) (by omega) (by omega) ?_⟩
  refine hc_intro (cut_spec (k := k) r rfl rfl) fun v h1 ⟨e1, ax1, e2, rx0, rx1, ofx⟩ => ?_
  subst e1; subst e2
  refine gTup_intro rfl (uncons_intro (gSlice_intro rfl (uncons_intro (gSlice_intro rfl (unnil_intro ?_)))))
  refine hc_intro (cut_spec (k := k) s rfl rfl) fun v h1 ⟨e1, ay1, e2, ry0, ry1, ofy⟩ => ?_
  subst e1; subst e2
  refine gTup_intro rfl (uncons_intro (gSlice_intro rfl (uncons_intro (gSlice_intro rfl (unnil_intro ?_)))))
  have ex := val_cut xs k
  have ey := val_cut ys k
  have lx0 : (trimL (xs.take k)).length ≤ k := Nat.le_trans (trimL_le _) (by rw [List.length_take]; omega)
  have ly0 : (trimL (ys.take k)).length ≤ k := Nat.le_trans (trimL_le _) (by rw [List.length_take]; omega)
  have lx1 : (xs.drop k).length ≤ k := by rw [List.length_drop]; omega
  have ly1 : (ys.drop k).length ≤ k := by rw [List.length_drop]; omega
  have hXY := mul_fits r.words s.words
  rw [← hn] at hXY
  generalize trimL (xs.take k) = x0 at *
  generalize trimL (ys.take k) = y0 at *
  generalize xs.drop k = x1 at *
  generalize ys.drop k = y1 at *
  refine hc_intro (product_of (ok (k + k) (by omega)) (by omega) rx0 ry0 rfl rfl (by omega)) fun v h2 ⟨k2, f⟩ => ?_
  refine f.elim fun bl hbl ol => ?_
  refine hc_intro (product_of (ok (k + k) (by omega)) (by omega) (rx1.keep k2) (ry1.keep k2) rfl rfl (by omega)) fun v h3 ⟨k3, f⟩ => ?_
  refine f.elim fun bh hbh oh => ?_
  have k03 := k2.trans k3
  refine hc_intro (sum_spec (rx0.keep k03) (rx1.keep k03) rfl rfl (by omega) (by omega)) fun v h4 ⟨k4, f⟩ => ?_
  refine f.elim fun bs hbs os => ?_
  have k04 := k03.trans k4
  refine hc_intro (sum_spec (ry0.keep k04) (ry1.keep k04) rfl rfl (by omega) (by omega)) fun v h5 ⟨k5, f⟩ => ?_
  refine f.elim fun bt hbt ot => ?_
  have hsl : (digs (val x0 + val x1)).length ≤ k + 1 := digs_add_len (digs_len.mpr (Nat.lt_of_lt_of_le (val_lt rx0.words) (Nat.pow_le_pow_right (by decide) (by omega)))) (digs_len.mpr (Nat.lt_of_lt_of_le (val_lt rx1.words) (Nat.pow_le_pow_right (by decide) (by omega))))
  have htl : (digs (val y0 + val y1)).length ≤ k + 1 := digs_add_len (digs_len.mpr (Nat.lt_of_lt_of_le (val_lt ry0.words) (Nat.pow_le_pow_right (by decide) (by omega)))) (digs_len.mpr (Nat.lt_of_lt_of_le (val_lt ry1.words) (Nat.pow_le_pow_right (by decide) (by omega))))
  refine hc_intro (product_of (ok (k + 1 + (k + 1)) (by omega)) (by omega) ((os.rd (Nat.le_refl _)).keep k5) (ot.rd (Nat.le_refl _)) rfl rfl (by omega)) fun v h6 ⟨k6, f⟩ => ?_
  refine f.elim fun bm hbm om => ?_
  rw [val_digs, val_digs] at om ⊢
  have km := kara ex ey
  -- the numbers
  obtain ⟨L, hL⟩ : ∃ L, L = val x0 * val y0 := ⟨_, rfl⟩
  obtain ⟨H, hH⟩ : ∃ H, H = val x1 * val y1 := ⟨_, rfl⟩
  obtain ⟨M, hM⟩ : ∃ M, M = val x0 * val y1 + val x1 * val y0 := ⟨_, rfl⟩
  rw [← hL, ← hM, ← hH] at km
  rw [← hL] at ol ⊢
  rw [← hH] at oh ⊢
  rw [km.1] at om ⊢
  have k36 := k4.trans (k5.trans k6)
  have k26 := k3.trans k36
  have k06 := k2.trans k26
  have ol6 := ol.keep k26
  have oh6 := oh.keep k36
  have o6 := o.keep k06
  have hbl2 : bl < h2.size := ol.lt
  have hbh2 : bh < h3.size := oh.lt
  have hs23 := k3.le
  have hs26 := k36.le
  have hs6 : h3.size ≤ bm := by have := k4.le; have := k5.le; omega
  refine hc_intro (take_spec om (ol6.rd (Nat.le_refl _)) rfl rfl (Or.inr (off_of_ne (by omega))) (by rw [val_digs, val_digs]; omega) (digs_len_mono (by omega))) fun v h7 ⟨e7, k7, z7, o7, hz7, ev7⟩ => ?_
  subst e7
  refine gTup_intro rfl (unnil_intro ?_)
  rw [val_digs, val_digs] at ev7
  have oh7 := oh6.keepB (q := bm) (by omega) k7
  have ol7 := ol6.keepB (q := bm) (by omega) k7
  refine hc_intro (take_spec o7 (oh7.rd (Nat.le_refl _)) rfl hz7.symm (Or.inr (off_of_ne (by omega))) (by rw [val_digs]; omega) (by rw [hz7]; exact digs_len_mono (by omega))) fun v h8 ⟨e8, k8, z8, o8, hz8, ev8⟩ => ?_
  subst e8
  refine gTup_intro rfl (unnil_intro ?_)
  rw [val_digs] at ev8
  have evM : val z8 = M := by omega
  have hs12 := k2.le
  have k68 := k7.trans k8
  have k08 : Keep h1 h8 := k68.keep k06 (by omega)
  have o88 := (o6.keepB (q := bm) (by omega) k68)
  have ol8 := ol7.keepB (q := bm) (by omega) k8
  have oh8 := oh7.keepB (q := bm) (by omega) k8
  -- z
  have hWW : 2 ^ (64 * k) * 2 ^ (64 * k) = 2 ^ (64 * (2 * k)) := by rw [← Nat.pow_add, show 64 * k + 64 * k = 64 * (2 * k) by omega]
  have hT := km.2
  rw [hWW] at hT
  rw [hT] at hXY
  have hLn : (digs L).length ≤ n := digs_len.mpr (by omega)
  refine mine_cp o88 (ol8.rd (Nat.le_refl _)) (by simp) rfl (by simpa using hLn) fun h9 o9 k9 => ?_
  have ev9 : val (digs L ++ (List.replicate n 0).drop (digs L).length) = L := by
    rw [val_append, val_digs, List.drop_replicate, val_replicate]; simp
  have hz9 : (digs L ++ (List.replicate n 0).drop (digs L).length).length = n := by simp; omega
  have om9 := o8.keepB (q := q) (by omega) k9
  refine hc_intro (mtrim_spec (om9.rd (by omega)) (by omega)) fun v h10 ⟨e10, e11⟩ => ?_
  subst e10; subst e11
  refine gSlice_intro rfl ?_
  have rm := rd_trim (om9.rd (Nat.le_refl _))
  have hMt : trimL z8 = digs M := by rw [← evM, digs_val o8.words]
  rw [hMt] at rm ⊢
  refine hc_intro (addAt_spec (at_ := k) o9 rm rfl hz9.symm (Or.inr (off_of_ne (by omega))) (by rw [ev9, val_digs, hz9]; omega) (by rw [hz9]; exact fit_of (by omega) (by omega)) rfl rfl) fun v h11 ⟨e11, k11, z11, o11, hz11, ev11⟩ => ?_
  subst e11
  refine gTup_intro rfl (unnil_intro ?_)
  rw [ev9, val_digs] at ev11
  refine k_i64 ((2 * k : Nat) : Int) (by omega) (by omega) (by omega) ?_
  have oh11 := (oh8.keepB (q := q) (by omega) k9).keepB (q := q) (by omega) k11
  refine hc_intro (addAt_spec (at_ := 2 * k) o11 (oh11.rd (Nat.le_refl _)) rfl (by omega) (Or.inr (off_of_ne (by omega))) (by rw [ev11, val_digs, hz11, hz9]; omega) (by rw [hz11, hz9]; exact fit_of (by omega) (by omega)) rfl rfl) fun v h12 ⟨e12, k12, z12, o12, hz12, ev12⟩ => ?_
  subst e12
  refine gTup_intro rfl (unnil_intro ?_)
  refine ⟨rfl, k08.toB.trans (k9.trans (k11.trans k12)), z12, o12, by omega, ?_⟩
  rw [ev12, ev11, val_digs, hT]
theorem fill_ok (N : Nat) : FillOK N := by
  induction N using Nat.strongRecOn with
  | ind N ok =>
    have main : ∀ {a b : Option Addr} {c c1 c2 la lb n q : Nat} {xs ys : List Nat} {h : Hp}, xs.length + ys.length ≤ N → Mine h q (List.replicate n 0) → Rd h a c1 xs → Rd h b c2 ys → la = xs.length → lb = ys.length → (xs = [] ∨ Off q a) → (ys = [] ∨ Off q b) → n = xs.length + ys.length → ys.length ≤ xs.length →
        natmul_fill.D2.t (fun v h' => v = .tuple #[] ∧ KeepB q h h' ∧ ∃ zs, Mine h' q zs ∧ zs.length = n ∧ val zs = val xs * val ys) (some ⟨q, 0, none⟩) n c a la c1 b lb c2 h := by
      intro a b c c1 c2 la lb n q xs ys h hN o r s hla hlb ox oy hn hxy
      have hlen := o.len
      rw [List.length_replicate] at hlen
      unfold natmul_fill.D2.t
      refine c_dec (fun hs => ?_) fun hs => ?_
      · refine hc_intro (rows_spec o r s hla hlb ox oy hn) fun v h' ⟨e, k, hz⟩ => ?_
        subst e
        exact gTup_intro rfl (unnil_intro ⟨rfl, k, hz⟩)
      · have ox' : Off q a := by
          rcases ox with hh | hh
          · subst hh; have : ys.length ≤ 0 := hxy; omega
          · exact hh
        have oy' : Off q b := by
          rcases oy with hh | hh
          · subst hh; simp at hlb; omega
          · exact hh
        refine k_i64 ((2 * ys.length : Nat) : Int) (by omega) (by omega) (by omega) ?_
        refine c_dec (fun hb => ?_) fun hb => ?_
        · have hsl : HC natmul_slabs.id #[.slice (some ⟨q, 0, none⟩) n c, .slice a la c1, .slice b lb c2] h fun v h' => v = .tuple #[] ∧ KeepB q h h' ∧ ∃ zs, Mine h' q zs ∧ zs.length = n ∧ val zs = val xs * val ys := by
            refine natmul_slabs.ok ?_
            unfold natmul_slabs.t natmul_slabs.D1.t
            refine ⟨xs.length + 1, ?_⟩
            refine slabs_loop ok hN r s hla hlb ox' oy' hn (by omega) (by omega) o.lt (fun h' zs k o' hz e => ⟨rfl, k, zs, o', hz, e⟩) xs.length 0 _ h (by omega) (by omega) (by simp) o (KeepB.refl _ _) ?_
            rw [val_replicate]; simp [val]
          refine hc_intro hsl fun v h' ⟨e, k, hz⟩ => ?_
          subst e
          exact gTup_intro rfl (unnil_intro ⟨rfl, k, hz⟩)
        · refine hc_intro (thirds_of ok hN o r s hla hlb ox' oy' hn (by omega) hxy (by omega)) fun v h' ⟨e, k, hz⟩ => ?_
          subst e
          exact gTup_intro rfl (unnil_intro ⟨rfl, k, hz⟩)
    intro a b c c1 c2 la lb n q xs ys h hN o r s hla hlb ox oy hn
    refine natmul_fill.ok ?_
    unfold natmul_fill.t natmul_fill.D1.t
    refine c_dec (fun hb => ?_) fun hb => ?_
    · have := main (c := c) (by omega) o s r hlb hla oy ox (by omega) (by omega)
      rw [Nat.mul_comm (val ys)] at this; exact this
    · exact main hN o r s hla hlb ox oy hn (by omega)
theorem product_spec {a b : Option Addr} {c d l m : Nat} {xs ys : List Nat} {h : Hp} (r : Rd h a c xs) (s : Rd h b d ys) (hl : l = xs.length) (hm : m = ys.length) (hb : xs.length + ys.length ≤ 35184372088828) :
    HC natmul_product.id #[.slice a l c, .slice b m d] h fun v h' => Keep h h' ∧ Fresh h h' v (digs (val xs * val ys)) :=
  product_of (fill_ok _) (Nat.le_refl _) r s hl hm hb
/-- a * b; errors as the code gives them. -/
def mulS (xs ys : List Nat) : List Nat × Int := if Frm xs ∧ Frm ys then lim (val xs * val ys) else ([], 2)
theorem Mul_spec {a b : Option Addr} {c d l m : Nat} {xs ys : List Nat} {h : Hp} (r : Rd h a c xs) (s : Rd h b d ys) (hl : l = xs.length) (hm : m = ys.length) :
    HC natmul_Mul.id #[.slice a l c, .slice b m d] h fun v h' => Keep h h' ∧ Ans h h' v (mulS xs ys) := by
  refine natmul_Mul.ok ?_
  unfold natmul_Mul.t natmul_Mul.D1.t
  refine hc_intro (Form_spec r hl) fun v h' ⟨e1, e2⟩ => ?_
  subst e1; subst e2
  refine gBool_intro rfl ?_
  refine c_not (fun hf => ⟨Keep.refl _, ?_⟩) fun hf => ?_
  · unfold mulS; rw [if_neg (fun hh => of_decide_eq_false hf hh.1)]; exact Ans.none
  refine hc_intro (Form_spec s hm) fun v h' ⟨e1, e2⟩ => ?_
  subst e1; subst e2
  refine gBool_intro rfl ?_
  refine c_not (fun hf2 => ⟨Keep.refl _, ?_⟩) fun hf2 => ?_
  · unfold mulS; rw [if_neg (fun hh => of_decide_eq_false hf2 hh.2)]; exact Ans.none
  have f1 := of_decide_eq_true hf
  have f2 := of_decide_eq_true hf2
  have h1 := f1.1
  have h2 := f2.1
  unfold mulS; rw [if_pos ⟨f1, f2⟩]
  unfold natmul_Mul.D2.t
  refine hc_intro (product_spec r s hl hm (by omega)) fun v h3 ⟨k3, f⟩ => ?_
  refine f.elim fun b3 hb3 o3 => ?_
  have hc : HC natmul_told.id #[.slice (some ⟨b3, 0, none⟩) (digs (val xs * val ys)).length (digs (val xs * val ys)).length] h3 fun v h9 => h9 = h3 ∧ Ans h' h3 v (lim (val xs * val ys)) := by
    refine natmul_told.ok ?_
    unfold natmul_told.t natmul_told.D1.t
    refine c_dec (fun hb => ⟨rfl, ?_⟩) fun hb => ⟨rfl, ?_⟩
    · unfold lim; rw [if_neg (by omega)]; exact Ans.none
    · unfold lim; rw [if_pos (by omega)]; exact Ans.mk rfl rfl (o3.got hb3) (show In .i64 0 by decide)
  refine hc_intro hc fun v h4 ⟨e4, an⟩ => ?_
  subst e4
  refine an.elimG fun a5 c5 r5 i5 => ?_
  exact ⟨k3, Ans.back r5 i5⟩
end Go.Proofs.Ytaglonbkdcmmpaa.G
