/- The law NatmulJoins of the translation answers true. -/
import Derived.Test.YtaglonbkdcmmpaaMulRing
import Derived.Test.YtaglonbkdcmmpaaGvFresh
import Derived.Test.YtaglonbkdcmmpaaNatShift
namespace Go.Proofs.Ytaglonbkdcmmpaa.G
open Go.Gv
set_option maxRecDepth 100000
/-- The answer of a call that gives three lists and an error. -/
def Ans4 (h : Hp) (v : Value) (xs ys zs : List Nat) (e : Int) : Prop := ∃ a b d c1 c2 c3, v = .tuple #[.slice a xs.length c1, .slice b ys.length c2, .slice d zs.length c3, .int .i64 e] ∧ Rd h a c1 xs ∧ Rd h b c2 ys ∧ Rd h d c3 zs
theorem Ans4.elim {h : Hp} {v : Value} {xs ys zs : List Nat} {e : Int} {K : Option Addr → Nat → Nat → Option Addr → Nat → Nat → Option Addr → Nat → Nat → Int → Prop} (a : Ans4 h v xs ys zs e)
    (g : ∀ a b d c1 c2 c3, Rd h a c1 xs → Rd h b c2 ys → Rd h d c3 zs → K a xs.length c1 b ys.length c2 d zs.length c3 e) :
    gTup v fun y => uncons y fun v1 y1 => gSlice v1 fun a l c => uncons y1 fun v2 y2 => gSlice v2 fun b m c' => uncons y2 fun v3 y3 => gSlice v3 fun d n c'' => uncons y3 fun v4 y4 => gInt .i64 v4 fun z => unnil y4 (K a l c b m c' d n c'' z) := by
  obtain ⟨a, b, d, c1, c2, c3, e, r1, r2, r3⟩ := a
  subst e; exact g a b d c1 c2 c3 r1 r2 r3
/-- The same of memory that was made here, each list in a block of its own. -/
def Ans4F (lo : Nat) (h : Hp) (v : Value) (xs ys zs : List Nat) (e : Int) : Prop := ∃ a b d c1 c2 c3, v = .tuple #[.slice a xs.length c1, .slice b ys.length c2, .slice d zs.length c3, .int .i64 e] ∧ FreshL lo h.size h [(a, xs.length, c1), (b, ys.length, c2), (d, zs.length, c3)] [xs, ys, zs]
theorem Ans4F.weak {lo : Nat} {h : Hp} {v : Value} {xs ys zs : List Nat} {e : Int} (a : Ans4F lo h v xs ys zs e) : Ans4 h v xs ys zs e := by
  obtain ⟨a, b, d, c1, c2, c3, e1, f⟩ := a
  exact ⟨a, b, d, c1, c2, c3, e1, (f.at_ 0 _ _ rfl rfl).rd, (f.at_ 1 _ _ rfl rfl).rd, (f.at_ 2 _ _ rfl rfl).rd⟩
theorem Ans4F.none {lo : Nat} {h : Hp} {x : Int} : Ans4F lo h (.tuple #[.slice Option.none 0 0, .slice Option.none 0 0, .slice Option.none 0 0, .int .i64 x]) [] [] [] x :=
  ⟨_, _, _, 0, 0, 0, rfl, FreshL.three (Own1.nil _ _ _) (Own1.nil _ _ _) (Own1.nil _ _ _) (fun p q e => by cases e) (fun p q e => by cases e) (fun p q _ e => by cases e)⟩
theorem Ans4.none {h : Hp} {x : Int} : Ans4 h (.tuple #[.slice Option.none 0 0, .slice Option.none 0 0, .slice Option.none 0 0, .int .i64 x]) [] [] [] x :=
  ⟨_, _, _, 0, 0, 0, rfl, Rd.nil _ _ _, Rd.nil _ _ _, Rd.nil _ _ _⟩
/-- The parts below and from the limb k on. -/
def lo (X k : Nat) : Nat := X % 2 ^ (64 * k)
def hi (X k : Nat) : Nat := X / 2 ^ (64 * k)
theorem lo_hi (X k : Nat) : X = lo X k + 2 ^ (64 * k) * hi X k := by
  have := Nat.div_add_mod X (2 ^ (64 * k))
  unfold lo hi; omega
theorem cut_vals {xs : List Nat} (hw : Words xs) (k : Nat) : val (trimL (xs.take k)) = lo (val xs) k ∧ val (xs.drop k) = hi (val xs) k := by
  have h1 := val_drop hw k
  have h2 := val_cut xs k
  have h3 := lo_hi (val xs) k
  unfold hi at h3 ⊢
  rw [h1] at h2
  exact ⟨by omega, h1⟩
theorem Parts_badF {a b : Option Addr} {c d l m : Nat} {h : Hp} {k : Int} (hk : k < 1 ∨ k > 8192) :
    HC natmul_Parts.id #[.slice a l c, .slice b m d, .int .i64 k] h fun v h' => h' = h ∧ Ans4F h.size h' v [] [] [] 1 := by
  refine natmul_Parts.ok ?_
  unfold natmul_Parts.t natmul_Parts.D1.t
  refine c_dec (fun _ => ⟨rfl, Ans4F.none⟩) fun h1 => ?_
  refine c_dec (fun _ => ⟨rfl, Ans4F.none⟩) fun h2 => absurd hk (by omega)
theorem Parts_bad {a b : Option Addr} {c d l m : Nat} {h : Hp} {k : Int} (hk : k < 1 ∨ k > 8192) :
    HC natmul_Parts.id #[.slice a l c, .slice b m d, .int .i64 k] h fun v h' => h' = h ∧ Ans4 h' v [] [] [] 1 := hc_intro (Parts_badF hk) fun _ _ ⟨e, an⟩ => ⟨e, an.weak⟩
theorem Parts_specF {a b : Option Addr} {c d l m k : Nat} {xs ys : List Nat} {h : Hp} (r : Rd h a c xs) (s : Rd h b d ys) (hl : l = xs.length) (hm : m = ys.length) (fx : Frm xs) (fy : Frm ys) (hk1 : 1 ≤ k) (hk2 : k ≤ 8192) {L M H : Nat}
    (hL : L = lo (val xs) k * lo (val ys) k) (hH : H = hi (val xs) k * hi (val ys) k) (hM : M = lo (val xs) k * hi (val ys) k + hi (val xs) k * lo (val ys) k) :
    HC natmul_Parts.id #[.slice a l c, .slice b m d, .int .i64 (k : Int)] h fun v h' => Keep h h' ∧
      (((lim L).2 = 0 ∧ (lim M).2 = 0 ∧ (lim H).2 = 0 ∧ Ans4F h.size h' v (digs L) (digs M) (digs H) 0) ∨ (¬ ((lim L).2 = 0 ∧ (lim M).2 = 0 ∧ (lim H).2 = 0) ∧ Ans4F h.size h' v [] [] [] 5)) := by
  subst hl; subst hm
  have hx1 := fx.1
  have hy1 := fy.1
  refine natmul_Parts.ok ?_
  unfold natmul_Parts.t natmul_Parts.D1.t
  refine c_dec (fun hb => absurd hb (by omega)) fun _ => ?_
  refine c_dec (fun hb => absurd hb (by omega)) fun _ => ?_
  unfold natmul_Parts.D2.t
  refine hc_intro (Form_spec r rfl) fun v h' ⟨e1, e2⟩ => ?_
  subst e1; subst e2
  refine gBool_intro rfl ?_
  refine c_not (fun hf => absurd fx (of_decide_eq_false hf)) fun _ => ?_
  refine hc_intro (Form_spec s rfl) fun v h' ⟨e1, e2⟩ => ?_
  subst e1; subst e2
  refine gBool_intro rfl ?_
  refine c_not (fun hf => absurd fy (of_decide_eq_false hf)) fun _ => ?_
  unfold natmul_Parts.D3.t
  refine hc_intro (cut_spec (k := k) r rfl rfl) fun v h1 ⟨e1, ax1, e2, rx0, rx1, ofx⟩ => ?_
  subst e1; subst e2
  refine gTup_intro rfl (uncons_intro (gSlice_intro rfl (uncons_intro (gSlice_intro rfl (unnil_intro ?_)))))
  refine hc_intro (cut_spec (k := k) s rfl rfl) fun v h1 ⟨e1, ay1, e2, ry0, ry1, ofy⟩ => ?_
  subst e1; subst e2
  refine gTup_intro rfl (uncons_intro (gSlice_intro rfl (uncons_intro (gSlice_intro rfl (unnil_intro ?_)))))
  have lx0 : (trimL (xs.take k)).length ≤ 8192 := Nat.le_trans (trimL_le _) (by rw [List.length_take]; omega)
  have ly0 : (trimL (ys.take k)).length ≤ 8192 := Nat.le_trans (trimL_le _) (by rw [List.length_take]; omega)
  have lx1 : (xs.drop k).length ≤ 8192 := by rw [List.length_drop]; omega
  have ly1 : (ys.drop k).length ≤ 8192 := by rw [List.length_drop]; omega
  have vx := cut_vals r.words k
  have vy := cut_vals s.words k
  rw [← vx.1, ← vy.1] at hL
  rw [← vx.2, ← vy.2] at hH
  rw [← vx.1, ← vx.2, ← vy.1, ← vy.2] at hM
  clear vx vy
  generalize trimL (xs.take k) = x0 at *
  generalize trimL (ys.take k) = y0 at *
  generalize xs.drop k = x1 at *
  generalize ys.drop k = y1 at *
  refine hc_intro (product_spec rx0 ry0 rfl rfl (by omega)) fun v h2 ⟨k2, f⟩ => ?_
  refine f.elim fun bl hbl ol => ?_
  refine hc_intro (product_spec (rx1.keep k2) (ry1.keep k2) rfl rfl (by omega)) fun v h3 ⟨k3, f⟩ => ?_
  refine f.elim fun bh hbh oh => ?_
  have k03 := k2.trans k3
  refine hc_intro (product_spec (rx0.keep k03) (ry1.keep k03) rfl rfl (by omega)) fun v h4 ⟨k4, f⟩ => ?_
  refine f.elim fun bm hbm om => ?_
  have k04 := k03.trans k4
  refine hc_intro (product_spec (rx1.keep k04) (ry0.keep k04) rfl rfl (by omega)) fun v h5 ⟨k5, f⟩ => ?_
  refine f.elim fun bn hbn on => ?_
  have len2 : ∀ {us vs : List Nat}, Words us → Words vs → us.length ≤ 8192 → vs.length ≤ 8192 → (digs (val us * val vs)).length < 35184372088828 := by
    intro us vs hu hv h1 h2
    have : (digs (val us * val vs)).length ≤ us.length + vs.length := digs_len.mpr (mul_fits hu hv)
    omega
  refine hc_intro (sum_spec ((om.rd (Nat.le_refl _)).keep k5) (on.rd (Nat.le_refl _)) rfl rfl (len2 rx0.words ry1.words lx0 ly1) (len2 rx1.words ry0.words lx1 ly0)) fun v h6 ⟨k6, f⟩ => ?_
  refine f.elim fun bs hbs os => ?_
  have k36 := k4.trans (k5.trans k6)
  have rl := (ol.rd (Nat.le_refl _)).keep (k3.trans k36)
  have rh := (oh.rd (Nat.le_refl _)).keep k36
  have rm := os.rd (Nat.le_refl _)
  have k06 := k2.trans (k3.trans k36)
  rw [val_digs, val_digs, ← hM] at rm ⊢
  rw [← hL] at rl ⊢
  rw [← hH] at rh ⊢
  have el : ∀ n, (lim n).2 = 0 ↔ (digs n).length ≤ 8192 := fun n => ⟨fun hh => (form_digs hh).1, fun hh => by unfold lim; rw [if_pos hh]⟩
  have em : ((if (((digs H).length : Nat) : Int) > (if (((digs M).length : Nat) : Int) > (((digs L).length : Nat) : Int) then (((digs M).length : Nat) : Int) else (((digs L).length : Nat) : Int)) then (((digs H).length : Nat) : Int) else (if (((digs M).length : Nat) : Int) > (((digs L).length : Nat) : Int) then (((digs M).length : Nat) : Int) else (((digs L).length : Nat) : Int))) > 8192) ↔ ¬ ((lim L).2 = 0 ∧ (lim M).2 = 0 ∧ (lim H).2 = 0) := by
    rw [el, el, el]
    split <;> split <;> omega
  refine c_dec (fun hb => ⟨k06, Or.inr ⟨em.mp hb, Ans4F.none⟩⟩) fun hb => ⟨k06, Or.inl ?_⟩
  have hall := Classical.not_not.mp (fun hh => hb (em.mpr hh))
  have gl : GotE eU64 h1 h6 (some ⟨bl, 0, none⟩) (digs L).length (digs L) := by have := (ol.keep (k3.trans k36)).got (h0 := h1) hbl; rw [← hL] at this; exact this
  have gh : GotE eU64 h2 h6 (some ⟨bh, 0, none⟩) (digs H).length (digs H) := by have := (oh.keep k36).got (h0 := h2) hbh; rw [← hH] at this; exact this
  have gm : GotE eU64 h5 h6 (some ⟨bs, 0, none⟩) (digs M).length (digs M) := by have := os.got (h0 := h5) hbs; rw [val_digs, val_digs, ← hM] at this; exact this
  have l2 := ol.lt; have l3 := oh.lt
  have z1 := k2.le; have z2 := k3.le; have z3 := k4.le; have z4 := k5.le; have z5 := k6.le
  refine ⟨hall.1, hall.2.1, hall.2.2, _, _, _, _, _, _, rfl, FreshL.three (Own1.of_got gl rfl (Nat.le_refl _) (Nat.le_refl _)) (Own1.of_got gm rfl (by omega) (Nat.le_refl _)) (Own1.of_got gh rfl (by omega) (Nat.le_refl _)) ?_ ?_ ?_⟩
  · intro p q e1 e2; cases e1; cases e2; show bl ≠ bs; omega
  · intro p q e1 e2; cases e1; cases e2; show bl ≠ bh; omega
  · intro p q e1 e2; cases e1; cases e2; show bs ≠ bh; omega
theorem Parts_spec {a b : Option Addr} {c d l m k : Nat} {xs ys : List Nat} {h : Hp} (r : Rd h a c xs) (s : Rd h b d ys) (hl : l = xs.length) (hm : m = ys.length) (fx : Frm xs) (fy : Frm ys) (hk1 : 1 ≤ k) (hk2 : k ≤ 8192) {L M H : Nat}
    (hL : L = lo (val xs) k * lo (val ys) k) (hH : H = hi (val xs) k * hi (val ys) k) (hM : M = lo (val xs) k * hi (val ys) k + hi (val xs) k * lo (val ys) k) :
    HC natmul_Parts.id #[.slice a l c, .slice b m d, .int .i64 (k : Int)] h fun v h' => Keep h h' ∧
      (((lim L).2 = 0 ∧ (lim M).2 = 0 ∧ (lim H).2 = 0 ∧ Ans4 h' v (digs L) (digs M) (digs H) 0) ∨ (¬ ((lim L).2 = 0 ∧ (lim M).2 = 0 ∧ (lim H).2 = 0) ∧ Ans4 h' v [] [] [] 5)) := by
  refine hc_intro (Parts_specF r s hl hm fx fy hk1 hk2 hL hH hM) fun v h' ⟨k1, o⟩ => ⟨k1, o.imp (fun ⟨o1, o2, o3, an⟩ => ⟨o1, o2, o3, an.weak⟩) fun ⟨o1, an⟩ => ⟨o1, an.weak⟩⟩
end Go.Proofs.Ytaglonbkdcmmpaa.G
