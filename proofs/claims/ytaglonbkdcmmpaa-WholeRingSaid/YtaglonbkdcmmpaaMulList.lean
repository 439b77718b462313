/- What lists (copies of lists) and Product answer. -/
import Derived.Test.YtaglonbkdcmmpaaMulPow
import Derived.Test.YtaglonbkdcmmpaaGvList
namespace Go.Proofs.Ytaglonbkdcmmpaa.G
open Go.Gv
set_option maxRecDepth 100000
/-- The heads of a list of lists. -/
structure Heads (h : Hp) (hs : List Sl) (xss : List (List Nat)) : Prop where
  len : hs.length = xss.length
  at_ : ∀ (i : Nat) (s : Sl) (xs : List Nat), hs[i]? = some s → xss[i]? = some xs → s.2.1 = xs.length ∧ Rd h s.1 s.2.2 xs
theorem Heads.keep {h h' : Hp} {hs : List Sl} {xss : List (List Nat)} (o : Heads h hs xss) (k : Keep h h') : Heads h' hs xss :=
  ⟨o.len, fun i s xs e1 e2 => ⟨(o.at_ i s xs e1 e2).1, (o.at_ i s xs e1 e2).2.keep k⟩⟩
theorem Heads.nil (h : Hp) : Heads h [] [] := ⟨rfl, fun i s xs e1 _ => by simp at e1⟩
theorem Heads.snoc {h : Hp} {hs : List Sl} {xss : List (List Nat)} {s : Sl} {xs : List Nat} (o : Heads h hs xss) (e : s.2.1 = xs.length) (r : Rd h s.1 s.2.2 xs) : Heads h (hs ++ [s]) (xss ++ [xs]) := by
  refine ⟨by simp [o.len], fun i t ys e1 e2 => ?_⟩
  rcases Nat.lt_or_ge i hs.length with hi | hi
  · rw [List.getElem?_append_left hi] at e1
    rw [List.getElem?_append_left (by rw [← o.len]; exact hi)] at e2
    exact o.at_ i t ys e1 e2
  · rw [List.getElem?_append_right hi] at e1
    rw [List.getElem?_append_right (by rw [← o.len]; exact hi), ← o.len] at e2
    cases hd : i - hs.length with
    | zero =>
      rw [hd] at e1 e2
      simp at e1 e2
      subst e1; subst e2; exact ⟨e, r⟩
    | succ n => rw [hd] at e1; simp at e1
theorem Heads.rdLL {h : Hp} {a : Option Addr} {c : Nat} {hs : List Sl} {xss : List (List Nat)} (o : Heads h hs xss) (r : RdE eSl h a c hs) (hl : xss.length ≤ 5864062014634) (hs' : ∀ x ∈ xss, x.length ≤ 17592186043904) : RdLL h a c xss := by
  refine ⟨hl, by rw [← o.len]; exact r.cap, fun i xs hx => ?_⟩
  have hi : i < hs.length := by rw [o.len]; exact (List.getElem?_eq_some_iff.mp hx).1
  obtain ⟨p, e, g⟩ := r.at_ i hs[i] (by simp [hi])
  obtain ⟨e2, rd⟩ := o.at_ i hs[i] xs (by simp [hi]) hx
  refine ⟨p, [.slice hs[i].1 hs[i].2.1 hs[i].2.2], e, rfl, ?_, hs[i].1, hs[i].2.2, by rw [e2], rd, hs' _ (List.mem_of_getElem? hx)⟩
  refine ⟨?_, trivial⟩
  rw [Nat.mul_one, add_add, Nat.add_zero]; exact g
/-! ### the product of a list -/
def prodV : List (List Nat) → Nat
  | [] => 1
  | x :: xs => val x * prodV xs
theorem prodV_append (a b : List (List Nat)) : prodV (a ++ b) = prodV a * prodV b := by
  induction a with
  | nil => simp [prodV]
  | cons x a ih => simp [prodV, ih, Nat.mul_assoc]
theorem prodV_pos {l : List (List Nat)} (h : ∀ x ∈ l, val x ≠ 0) : prodV l ≠ 0 := by
  induction l with
  | nil => simp [prodV]
  | cons x l ih => simp only [prodV]; exact Nat.mul_ne_zero (h x (by simp)) (ih fun y hy => h y (by simp [hy]))
theorem prodV_zero {l : List (List Nat)} {x : List Nat} (h : x ∈ l) (h0 : val x = 0) : prodV l = 0 := by
  induction l with
  | nil => cases h
  | cons y l ih =>
    simp only [prodV]
    rcases List.mem_cons.mp h with e | e
    · rw [← e, h0, Nat.zero_mul]
    · rw [ih e, Nat.mul_zero]
def prodS (xss : List (List Nat)) : List Nat × Int := if ∀ x ∈ xss, Frm x then lim (prodV xss) else ([], 2)
theorem lim_len {n : Nat} (h : (lim n).2 = 0) : (digs n).length ≤ 8192 := by
  unfold lim at h; split at h
  · assumption
  · cases h
theorem Product_spec {a : Option Addr} {c l : Nat} {xss : List (List Nat)} {h : Hp} (r : RdLL h a c xss) (hl : l = xss.length) :
    HC natmul_Product.id #[.slice a l c] h fun v h' => Keep h h' ∧ Ans h h' v (prodS xss) := by
  subst hl
  have hlen := r.len
  refine natmul_Product.ok ?_
  unfold natmul_Product.t natmul_Product.D1.t natmul_Product.D9.t
  refine ⟨xss.length + 1, ?_⟩
  -- the product, number by number
  have main : (∀ x ∈ xss, Frm x) → (∀ x ∈ xss, x ≠ []) → ∀ (k i q : Nat) (h2 : Hp), i + k = xss.length → Keep h h2 → h.size ≤ q → Mine h2 q (digs (prodV (xss.take i))) → (lim (prodV (xss.take i))).2 = 0 →
      natmul_Product.L5.t (fun v h' => Keep h h' ∧ Ans h h' v (prodS xss)) (k + 1) (some ⟨q, 0, none⟩) (digs (prodV (xss.take i))).length (digs (prodV (xss.take i))).length a xss.length c (xss.length : Int) (i : Int) h2 := by
    intro hf hne k
    have hps : prodS xss = lim (prodV xss) := if_pos hf
    have hv : ∀ x ∈ xss, val x ≠ 0 := fun x hx h0 => hne x hx (by
      have h2 := (hf x hx).2
      rw [← h2]; exact trimL_nil_iff.mpr h0)
    induction k with
    | zero =>
      intro i q h2 hik kp hq o hlim
      unfold natmul_Product.L5.t natmul_Product.D6.t
      refine c_dec (fun hb => absurd hb (by omega)) fun _ => ?_
      unfold natmul_Product.D3.t
      have ei : i = xss.length := by omega
      subst ei
      rw [List.take_length] at o hlim ⊢
      rw [hps, lim_ok hlim]
      exact ⟨kp, Ans.mk rfl rfl (o.got hq) (show In .i64 0 by decide)⟩
    | succ k ih =>
      intro i q h2 hik kp hq o hlim
      unfold natmul_Product.L5.t natmul_Product.D6.t
      refine c_dec (fun _ => ?_) fun hb => absurd (by omega) hb
      have hx : xss[i]? = some (xss[i]'(by omega)) := by simp
      generalize hxe : (xss[i]'(by omega)) = x at hx
      have hmem : x ∈ xss := List.mem_of_getElem? hx
      have hfx := hf x hmem
      have hl8 := lim_len hlim
      refine list_at (r.keep kp) rfl rfl hx fun a' c' rd => ?_
      have hx8 := hfx.1
      refine hc_intro (product_spec (o.rd (Nat.le_refl _)) rd rfl rfl (by omega)) fun v h3 ⟨k3, f⟩ => ?_
      have ht : prodV (xss.take (i + 1)) = prodV (xss.take i) * val x := by
        rw [List.take_add_one, hx, prodV_append]; simp [prodV]
      rw [val_digs, ← ht] at f
      refine f.elim fun b3 hb3 o3 => ?_
      have kp3 := kp.trans k3
      refine c_dec (fun hb => ⟨kp3, ?_⟩) fun hb => ?_
      · have hsplit : prodV xss = prodV (xss.take (i + 1)) * prodV (xss.drop (i + 1)) := by rw [← prodV_append, List.take_append_drop]
        have hpos : prodV (xss.drop (i + 1)) ≠ 0 := prodV_pos fun y hy => hv y (List.mem_of_mem_drop hy)
        have hle : prodV (xss.take (i + 1)) ≤ prodV xss := by rw [hsplit]; exact Nat.le_mul_of_pos_right _ (by omega)
        have : lim (prodV xss) = ([], 5) := by
          have := digs_len_mono hle
          unfold lim; rw [if_neg (by omega)]
        rw [hps, this]; exact Ans.none
      · refine k_i64 ((i + 1 : Nat) : Int) (by omega) (by omega) (by omega) ?_
        refine ih (i + 1) b3 h3 (by omega) kp3 (Nat.le_trans kp.le hb3) o3 ?_
        unfold lim; rw [if_pos (by omega)]
  have walk : ∀ (k i : Nat), i + k = xss.length → (∀ x ∈ xss.take i, Frm x) →
      natmul_Product.L10.t (fun v h' => Keep h h' ∧ Ans h h' v (prodS xss)) (k + 1) a xss.length c ((xss.take i).any List.isEmpty) a xss.length c (xss.length : Int) (i : Int) h := by
    intro k
    induction k with
    | zero =>
      intro i hik hf
      unfold natmul_Product.L10.t natmul_Product.D11.t
      refine c_dec (fun hb => absurd hb (by omega)) fun _ => ?_
      have ei : i = xss.length := by omega
      subst ei
      rw [List.take_length] at hf ⊢
      unfold natmul_Product.D2.t
      have hps : prodS xss = lim (prodV xss) := if_pos hf
      refine c_bool (fun hb => ⟨Keep.refl _, ?_⟩) fun hb => ?_
      · obtain ⟨x, hx, he⟩ := List.any_eq_true.mp hb
        have : x = [] := by simpa using he
        subst this
        rw [hps, prodV_zero hx rfl, show lim 0 = ([], 0) by simp [lim, digs_zero]]
        exact Ans.none
      · refine box_intro [1] (by rfl) (by decide) (by decide) fun h1 o1 k1 => ?_
        unfold natmul_Product.D4.t
        have hne : ∀ x ∈ xss, x ≠ [] := fun x hx e => by
          subst e
          have := List.any_eq_false.mp hb [] hx
          simp at this
        have d1 : digs 1 = [1] := by have := Frm.digs (xs := [1]) (by decide) (by unfold Words; decide); simpa [val] using this
        refine ⟨xss.length + 1, ?_⟩
        have := main hf hne xss.length 0 h.size h1 (by omega) k1 (Nat.le_refl _) (by rw [List.take_zero]; show Mine h1 h.size (digs 1); rw [d1]; exact o1.mine) (by rw [List.take_zero]; show (lim 1).2 = 0; unfold lim; rw [d1]; rfl)
        rw [List.take_zero] at this
        rw [show prodV [] = 1 from rfl, d1] at this
        exact this
    | succ k ih =>
      intro i hik hf
      unfold natmul_Product.L10.t natmul_Product.D11.t
      refine c_dec (fun _ => ?_) fun hb => absurd (by omega) hb
      have hx : xss[i]? = some (xss[i]'(by omega)) := by simp
      generalize hxe : (xss[i]'(by omega)) = x at hx
      have hmem : x ∈ xss := List.mem_of_getElem? hx
      refine list_at r rfl rfl hx fun a' c' rd => ?_
      refine hc_intro (Form_spec rd rfl) fun v h' ⟨e1, e2⟩ => ?_
      subst e1; subst e2
      refine gBool_intro rfl ?_
      refine c_not (fun hb => ⟨Keep.refl _, ?_⟩) fun hb => ?_
      · unfold prodS; rw [if_neg fun hh => of_decide_eq_false hb (hh x hmem)]; exact Ans.none
      have hfx := of_decide_eq_true hb
      have ht : xss.take (i + 1) = xss.take i ++ [x] := by rw [List.take_add_one, hx]; rfl
      have hf' : ∀ y ∈ xss.take (i + 1), Frm y := fun y hy => by
        rw [ht] at hy
        rcases List.mem_append.mp hy with h1 | h1
        · exact hf y h1
        · simp at h1; subst h1; exact hfx
      have := ih (i + 1) (by omega) hf'
      rw [ht, List.any_append] at this
      refine c_bool (fun hb2 => ?_) fun hb2 => ?_
      · refine k_i64 ((i + 1 : Nat) : Int) (by omega) (by omega) (by omega) ?_
        rw [hb2] at this; exact this
      · refine k_i64 ((i + 1 : Nat) : Int) (by omega) (by omega) (by omega) ?_
        rw [hb2] at this
        have e : ((x.length : Int) == 0) = (false || [x].any List.isEmpty) := by cases x <;> simp; omega
        rw [e]; exact this
  exact walk xss.length 0 (by omega) (by simp)
end Go.Proofs.Ytaglonbkdcmmpaa.G
