/- The law WholeRing of the translation answers true. -/
import Derived.Test.YtaglonbkdcmmpaaTopL
import Derived.Test.YtaglonbkdcmmpaaGvFresh
namespace Go.Proofs.Ytaglonbkdcmmpaa.G
open Go.Gv
set_option linter.unusedVariables false
set_option maxRecDepth 100000
/-! ### answers on numbers -/
section
variable {X Y j k n w : Nat}
theorem frm_d (h : (digs X).length ≤ 8192) : Frm (digs X) := ⟨h, trimL_digs X⟩
theorem lim_d (h : (digs X).length ≤ 8192) : lim X = (digs X, 0) := by unfold lim; rw [if_pos h]
theorem addS_d (hx : (digs X).length ≤ 8192) (hy : (digs Y).length ≤ 8192) (hs : (digs (X + Y)).length ≤ 8192) : addS (digs X) (digs Y) = (digs (X + Y), 0) := by
  unfold addS; rw [if_pos ⟨frm_d hx, frm_d hy⟩, val_digs, val_digs, lim_d hs]
theorem subS_d (hx : (digs X).length ≤ 8192) (hy : (digs Y).length ≤ 8192) (h : Y ≤ X) : subS (digs X) (digs Y) = (digs (X - Y), 0) := by
  unfold subS; rw [if_pos ⟨frm_d hx, frm_d hy⟩, val_digs, val_digs, if_neg (by omega), lim_d (Nat.le_trans (digs_len_mono (Nat.sub_le _ _)) hx)]
theorem subS_lt (hx : (digs X).length ≤ 8192) (hy : (digs Y).length ≤ 8192) (h : X < Y) : subS (digs X) (digs Y) = ([], 3) := by
  unfold subS; rw [if_pos ⟨frm_d hx, frm_d hy⟩, val_digs, val_digs, if_pos h]
theorem mulS_d (hx : (digs X).length ≤ 8192) (hy : (digs Y).length ≤ 8192) (hs : (digs (X * Y)).length ≤ 8192) : mulS (digs X) (digs Y) = (digs (X * Y), 0) := by
  unfold mulS; rw [if_pos ⟨frm_d hx, frm_d hy⟩, val_digs, val_digs, lim_d hs]
theorem mulWS_d (hx : (digs X).length ≤ 8192) (hs : (digs (X * w)).length ≤ 8192) : mulWS (digs X) w = (digs (X * w), 0) := by
  unfold mulWS; rw [if_pos (frm_d hx), val_digs, lim_d hs]
theorem divWS_d (hx : (digs X).length ≤ 8192) (hw : w ≠ 0) : divWS (digs X) w = (digs (X / w), ((X % w : Nat) : Int), 0) := by
  unfold divWS; rw [if_pos (frm_d hx), if_neg hw, val_digs]
theorem shlS_d (hx : (digs X).length ≤ 8192) (hs : (digs (X * 2 ^ n)).length ≤ 8192) : shlS (digs X) (n : Int) = (digs (X * 2 ^ n), 0) := by
  unfold shlS; rw [if_neg (by omega), if_pos (frm_d hx), val_digs, Int.toNat_natCast, lim_d hs]
theorem shrS_d (hx : (digs X).length ≤ 8192) : shrS (digs X) (n : Int) = (digs (X / 2 ^ n), 0) := by
  unfold shrS; rw [if_neg (by omega), if_pos (frm_d hx), val_digs, Int.toNat_natCast, lim_d (Nat.le_trans (digs_len_mono (Nat.div_le_self _ _)) hx)]
theorem lowS_d (hx : (digs X).length ≤ 8192) : lowS (digs X) (n : Int) = (digs (X % 2 ^ n), 0) := by
  unfold lowS; rw [if_neg (by omega), if_pos (frm_d hx), val_digs, Int.toNat_natCast, lim_d (Nat.le_trans (digs_len_mono (Nat.mod_le _ _)) hx)]
theorem powS_d (hx : (digs X).length ≤ 8192) (hs : (digs (X ^ n)).length ≤ 8192) : powS (digs X) (n : Int) = (digs (X ^ n), 0) := by
  unfold powS; rw [if_neg (by omega), if_pos (frm_d hx), val_digs, Int.toNat_natCast, lim_d hs]
theorem dl_mul (hX : (digs X).length ≤ j) (hY : (digs Y).length ≤ k) : (digs (X * Y)).length ≤ j + k := by
  rw [digs_len] at hX hY ⊢
  rw [Nat.mul_add, Nat.pow_add]
  exact Nat.mul_lt_mul'' hX hY
theorem dl_shl (hX : (digs X).length ≤ j) (k : Nat) : (digs (X * 2 ^ (64 * k))).length ≤ j + k := by
  rw [digs_len] at hX ⊢
  rw [Nat.mul_add, Nat.pow_add]
  exact Nat.mul_lt_mul_of_pos_right hX (Nat.pow_pos (by decide))
theorem dl_pow (hX : (digs X).length ≤ 1) : ∀ n, (digs (X ^ n)).length ≤ n + 1
  | 0 => by rw [Nat.pow_zero]; exact Nat.le_trans (digs_len (k := 1).mpr (by decide)) (by omega)
  | n + 1 => by rw [Nat.pow_succ]; exact dl_mul (dl_pow hX n) hX
theorem dw_word (hw : w < 18446744073709551616) : (digs w).length ≤ 1 := by
  refine digs_len.mpr ?_
  have e : (2 : Nat) ^ (64 * 1) = 18446744073709551616 := by decide
  omega
theorem take_len (k : Nat) {us : List Nat} (hu : Words us) : (digs (val (us.take k))).length ≤ k :=
  digs_len.mpr (Nat.lt_of_lt_of_le (val_lt (fun x hx => hu x (List.mem_of_mem_take hx))) (Nat.pow_le_pow_right (by decide) (by rw [List.length_take]; omega)))
theorem dl_pos (h : X ≠ 0) : 1 ≤ (digs X).length := by rw [digs_pos h]; simp
end
theorem digs_inj {X Y : Nat} (h : digs X = digs Y) : X = Y := by rw [← val_digs X, h, val_digs]
theorem ringSums_true {A B C : Nat} (ha : (digs A).length ≤ 250) (hb : (digs B).length ≤ 250) (hc : (digs C).length ≤ 250) : gnomontop_ringSums.v (digs A) (digs B) (digs C) = true := by
  have s1 : (digs (A + B)).length ≤ 251 := digs_add_len ha hb
  have s2 : (digs (A + B + C)).length ≤ 252 := digs_add_len s1 (by omega)
  have s3 : (digs (B + C)).length ≤ 251 := digs_add_len hb hc
  have e1 := addS_d (X := A) (Y := B) (by omega) (by omega) (by omega)
  have e2 : addS (digs B) (digs A) = (digs (A + B), 0) := by rw [addS_d (by omega) (by omega) (by rw [Nat.add_comm]; omega), Nat.add_comm]
  have e3 : subS (digs (A + B)) (digs B) = (digs A, 0) := by rw [subS_d (by omega) (by omega) (by omega), Nat.add_sub_cancel]
  have e4 := addS_d (X := A + B) (Y := C) (by omega) (by omega) (by omega)
  have e5 := addS_d (X := B) (Y := C) (by omega) (by omega) (by omega)
  have e6 : addS (digs A) (digs (B + C)) = (digs (A + B + C), 0) := by rw [addS_d (by omega) (by omega) (by rw [← Nat.add_assoc]; omega), Nat.add_assoc]
  have e7 : gnomontop_ringSums.D3.v (digs A) (digs B) = true := by
    unfold gnomontop_ringSums.D3.v
    rw [val_digs, val_digs]
    rcases Nat.lt_trichotomy A B with h | h | h
    · rw [subS_lt (by omega) (by omega) h]
      have c1 : cmpI A B = -1 := by unfold cmpI; rw [if_pos h]
      have c2 : cmpI B A = 1 := by unfold cmpI; rw [if_neg (by omega), if_neg (by omega)]
      simp [letV, c1, c2]
    · subst h
      rw [subS_d (by omega) (by omega) (Nat.le_refl _)]
      have c1 : cmpI A A = 0 := by unfold cmpI; rw [if_neg (by omega), if_pos rfl]
      simp [letV, c1]
    · rw [subS_d (by omega) (by omega) (by omega)]
      have c1 : cmpI A B = 1 := by unfold cmpI; rw [if_neg (by omega), if_neg (by omega)]
      have c2 : digs A ≠ digs B := fun e => by have := digs_inj e; omega
      simp [letV, c1, c2]
  unfold gnomontop_ringSums.v gnomontop_ringSums.D1.v
  rw [e1]; simp only [letV]
  rw [e2, e3, e4, e5]; simp only
  rw [e6]; simp only
  unfold gnomontop_ringSums.D2.v
  rw [e7]; simp
theorem ringParts_true {A B k : Nat} (ha : (digs A).length ≤ 250) (hb : (digs B).length ≤ 250) (hk1 : 1 ≤ k) (hk : k ≤ 260) : gnomontop_ringParts.v (digs A) (digs B) (k : Int) = true := by
  have w1 : IntKind.i64.wrap (64 * (k : Int)) = ((64 * k : Nat) : Int) := by rw [wrap_i64 (by omega) (by omega)]; omega
  have w2 : IntKind.i64.wrap (128 * (k : Int)) = ((64 * (2 * k) : Nat) : Int) := by rw [wrap_i64 (by omega) (by omega)]; omega
  have la0 : (digs (lo A k)).length ≤ 250 := Nat.le_trans (digs_len_mono (Nat.mod_le _ _)) ha
  have la1 : (digs (hi A k)).length ≤ 250 := Nat.le_trans (digs_len_mono (Nat.div_le_self _ _)) ha
  have lb0 : (digs (lo B k)).length ≤ 250 := Nat.le_trans (digs_len_mono (Nat.mod_le _ _)) hb
  have lb1 : (digs (hi B k)).length ≤ 250 := Nat.le_trans (digs_len_mono (Nat.div_le_self _ _)) hb
  have lL := dl_mul la0 lb0
  have lM := digs_add_len (dl_mul la0 lb1) (dl_mul la1 lb0)
  have lH := dl_mul la1 lb1
  have km := (kara (lo_hi A k) (lo_hi B k)).2
  have e0 : partsS (digs A) (digs B) (k : Int) = (digs (lo A k * lo B k), digs (lo A k * hi B k + hi A k * lo B k), digs (hi A k * hi B k), 0) := by
    unfold partsS
    rw [if_neg (by omega), if_pos ⟨frm_d (by omega), frm_d (by omega)⟩, val_digs, val_digs, Int.toNat_natCast]
    unfold partsV
    rw [if_pos]
    refine ⟨?_, ?_, ?_⟩ <;> rw [lim_d (by omega)]
  generalize lo A k * lo B k = L at *
  generalize lo A k * hi B k + hi A k * lo B k = M at *
  generalize hi A k * hi B k = H at *
  have sM := dl_shl lM k
  have sH := dl_shl lH (2 * k)
  have e1 := shlS_d (X := M) (n := 64 * k) (by omega) (by omega)
  have e2 := shlS_d (X := H) (n := 64 * (2 * k)) (by omega) (by omega)
  have l1 : (digs (L + M * 2 ^ (64 * k))).length ≤ 762 := digs_add_len (k := 761) (by omega) (by omega)
  have l2 : (digs (L + M * 2 ^ (64 * k) + H * 2 ^ (64 * (2 * k)))).length ≤ 1021 := digs_add_len (k := 1020) (by omega) (by omega)
  have e3 := addS_d (X := L) (Y := M * 2 ^ (64 * k)) (by omega) (by omega) (by omega)
  have e4 := addS_d (X := L + M * 2 ^ (64 * k)) (Y := H * 2 ^ (64 * (2 * k))) (by omega) (by omega) (by omega)
  have e5 : A * B = L + M * 2 ^ (64 * k) + H * 2 ^ (64 * (2 * k)) := by rw [km, show 64 * (2 * k) = 64 * k + 64 * k by omega, Nat.pow_add]
  have lab := dl_mul ha hb
  have e6 : mulS (digs A) (digs B) = (digs (L + M * 2 ^ (64 * k) + H * 2 ^ (64 * (2 * k))), 0) := by rw [mulS_d (by omega) (by omega) (by omega), e5]
  unfold gnomontop_ringParts.v gnomontop_ringParts.D1.v
  rw [e0]; simp only [letV]
  rw [w1, w2, e1, e2]; simp only
  rw [e3]; simp only
  rw [e4, e6]; simp
theorem ringWords_D3 {A n : Nat} (ha : (digs A).length ≤ 250) (hn : n < 20000) : gnomontop_ringWords.D3.v (digs A) (n : Int) = true := by
  have h1 : A / 2 ^ n * 2 ^ n ≤ A := Nat.div_mul_le_self _ _
  have l1 : (digs (A / 2 ^ n)).length ≤ 250 := Nat.le_trans (digs_len_mono (Nat.div_le_self _ _)) ha
  have l2 : (digs (A % 2 ^ n)).length ≤ 250 := Nat.le_trans (digs_len_mono (Nat.mod_le _ _)) ha
  have l3 : (digs (A / 2 ^ n * 2 ^ n)).length ≤ 250 := Nat.le_trans (digs_len_mono h1) ha
  have e1 := shrS_d (X := A) (n := n) (by omega)
  have e2 := lowS_d (X := A) (n := n) (by omega)
  have e3 := shlS_d (X := A / 2 ^ n) (n := n) (by omega) (by omega)
  have ea : A / 2 ^ n * 2 ^ n + A % 2 ^ n = A := Nat.div_add_mod' A _
  have e4 : addS (digs (A / 2 ^ n * 2 ^ n)) (digs (A % 2 ^ n)) = (digs A, 0) := by rw [addS_d (by omega) (by omega) (by rw [ea]; omega), ea]
  have e5 : blen (A % 2 ^ n) ≤ n := blen_le.mpr (Nat.mod_lt _ (Nat.pow_pos (by decide)))
  have e6 := blen_div A n
  have e7 : blen A ≤ 64 * 250 := (lim_blen' 250).mpr ha
  unfold gnomontop_ringWords.D3.v
  rw [e1, e2]; simp only [letV]
  rw [e3]; simp only
  rw [e4]; simp only
  have e8 : gnomontop_ringWords.D4.v (digs A) (n : Int) (digs (A / 2 ^ n)) (digs (A % 2 ^ n)) = true := by
    unfold gnomontop_ringWords.D4.v
    rw [val_digs, val_digs, val_digs, e6, wrap_i64 (by omega) (by omega), decide_eq_true (show (((blen (A % 2 ^ n) : Nat) : Int)) ≤ (n : Int) by omega)]
    simp only [cond_true, beq_iff_eq]
    split <;> omega
  rw [e8]; simp
theorem ringWords_true {A w n : Nat} (ha : (digs A).length ≤ 250) (hw : w < 18446744073709551616) (hn : n < 20000) : gnomontop_ringWords.v (digs A) (w : Int) (n : Int) = true := by
  have lw := dw_word hw
  have l1 := dl_mul ha lw
  have e1 := mulWS_d (X := A) (w := w) (by omega) (by omega)
  have e2 := mulS_d (X := A) (Y := w) (by omega) (by omega) (by omega)
  have e3 := ringWords_D3 ha hn
  unfold gnomontop_ringWords.v gnomontop_ringWords.D1.v
  rw [Int.toNat_natCast, e1]; simp only [letV]
  rw [e2]
  have e4 : gnomontop_ringWords.D2.v (digs A) (w : Int) (n : Int) (digs (A * w)) = true := by
    unfold gnomontop_ringWords.D2.v
    by_cases h0 : w = 0
    · subst h0; simp [e3]
    · have d1 : divWS (digs (A * w)) w = (digs A, 0, 0) := by rw [divWS_d (by omega) h0, Nat.mul_div_cancel _ (by omega), Nat.mul_mod_left]; rfl
      have d2 := divWS_d (X := A) (w := w) (by omega) h0
      have l2 : (digs (A / w)).length ≤ 250 := Nat.le_trans (digs_len_mono (Nat.div_le_self _ _)) ha
      have l3 := dl_mul l2 lw
      have d3 := mulWS_d (X := A / w) (w := w) (by omega) (by omega)
      have hm : A % w < w := Nat.mod_lt _ (by omega)
      have l4 := dw_word (w := A % w) (by omega)
      have ea : A / w * w + A % w = A := Nat.div_add_mod' A _
      have d4 : addS (digs (A / w * w)) (digs (A % w)) = (digs A, 0) := by rw [addS_d (by omega) (by omega) (by rw [ea]; omega), ea]
      rw [Int.toNat_natCast, d1, d2, decide_eq_true (show (w : Int) > 0 by omega)]; simp only [letV]
      rw [d3, Int.toNat_natCast, d4, e3, decide_eq_false (show ¬ (((A % w : Nat) : Int) ≥ (w : Int)) by omega)]
      simp
  rw [e4]; simp
theorem ringPowers_true {w i j : Nat} (hw : w < 18446744073709551616) (hi : i < 40) (hj : j < 40) : gnomontop_ringPowers.v (w : Int) (i : Int) (j : Int) = true := by
  have lw := dw_word hw
  have p1 := dl_pow lw i
  have p2 := dl_pow lw j
  have p3 := dl_pow lw (i + j)
  have e1 := powS_d (X := w) (n := i) (by omega) (by omega)
  have e2 := powS_d (X := w) (n := j) (by omega) (by omega)
  have e3 := powS_d (X := w) (n := i + j) (by omega) (by omega)
  have w1 : IntKind.i64.wrap ((i : Int) + (j : Int)) = ((i + j : Nat) : Int) := by rw [wrap_i64 (by omega) (by omega)]; omega
  have e4 : mulS (digs (w ^ i)) (digs (w ^ j)) = (digs (w ^ (i + j)), 0) := by rw [mulS_d (by omega) (by omega) (by rw [← Nat.pow_add]; omega), ← Nat.pow_add]
  unfold gnomontop_ringPowers.v gnomontop_ringPowers.D1.v
  rw [Int.toNat_natCast]; simp only [letV]
  rw [e1, e2, w1, e3]; simp only
  rw [e4]; simp
section
variable {h : Hp} {a b d : Option Addr} {c1 c2 c3 l1 l2 l3 A B C : Nat}
theorem same_d {a b : Option Addr} {c d l m X Y : Nat} (e : X = Y) (r : Rd h a c (digs X)) (s : Rd h b d (digs Y)) (hl : l = (digs X).length) (hm : m = (digs Y).length) {K : Bool → Hp → Prop} (g : ∀ h', Keep h h' → K true h') :
    HC gnomontop_same.id #[.slice a l c, .slice b m d] h fun v h' => gBool v fun x => K x h' := by
  subst e
  refine hc_intro (gnomontop_same.hv r hl s hm) fun v h' ⟨k, e⟩ => ?_
  have e : v = _ := e
  subst e
  exact gBool_intro rfl (by simpa using g h' k)
theorem ringProducts_spec (rA : Rd h a c1 (digs A)) (rB : Rd h b c2 (digs B)) (rC : Rd h d c3 (digs C)) (ha : (digs A).length ≤ 250) (hb : (digs B).length ≤ 250) (hc : (digs C).length ≤ 250) :
    HC gnomontop_ringProducts.id #[.slice a (digs A).length c1, .slice b (digs B).length c2, .slice d (digs C).length c3] h fun v h' => Keep h h' ∧ v = .bool true := by
  have lAB := dl_mul ha hb
  have lBC := dl_mul hb hc
  have lAC := dl_mul ha hc
  have lABC := dl_mul lAB hc
  have eABC : A * (B * C) = A * B * C := (Nat.mul_assoc _ _ _).symm
  refine gnomontop_ringProducts.ok ?_
  unfold gnomontop_ringProducts.t gnomontop_ringProducts.D1.t
  refine hc_intro (Mul_spec rA rB rfl rfl) fun v i1 ⟨k1, an⟩ => ?_
  rw [mulS_d (by omega) (by omega) (by omega)] at an
  refine an.elim fun a1 d1 r1 => ?_
  refine hc_intro (Mul_spec (rB.keep k1) (rA.keep k1) rfl rfl) fun v i2 ⟨k2, an⟩ => ?_
  rw [mulS_d (by omega) (by omega) (by rw [Nat.mul_comm]; omega)] at an
  refine an.elim fun a2 d2 r2 => ?_
  have k12 := k1.trans k2
  refine hc_intro (Mul_spec (rB.keep k12) (rC.keep k12) rfl rfl) fun v i3 ⟨k3, an⟩ => ?_
  rw [mulS_d (by omega) (by omega) (by omega)] at an
  refine an.elim fun a3 d3 r3 => ?_
  have k13 := k12.trans k3
  refine hc_intro (Mul_spec (rA.keep k13) (rC.keep k13) rfl rfl) fun v i4 ⟨k4, an⟩ => ?_
  rw [mulS_d (by omega) (by omega) (by omega)] at an
  refine an.elim fun a4 d4 r4 => ?_
  have k14 := k13.trans k4
  refine hc_intro (Mul_spec (r1.keep (k2.trans (k3.trans k4))) (rC.keep k14) rfl rfl) fun v i5 ⟨k5, an⟩ => ?_
  rw [mulS_d (by omega) (by omega) (by omega)] at an
  refine an.elim fun a5 d5 r5 => ?_
  have k15 := k14.trans k5
  refine hc_intro (Mul_spec (rA.keep k15) (r3.keep (k4.trans k5)) rfl rfl) fun v i6 ⟨k6, an⟩ => ?_
  rw [mulS_d (by omega) (by omega) (by rw [eABC]; omega)] at an
  refine an.elim fun a6 d6 r6 => ?_
  have k16 := k15.trans k6
  refine boxE eSl [(a, (digs A).length, c1), (b, (digs B).length, c2), (d, (digs C).length, c3)] rfl (fun _ _ => trivial) fun i7 o7 k7 => ?_
  have k17 := k16.trans k7
  have hd : Heads i7 [(a, (digs A).length, c1), (b, (digs B).length, c2), (d, (digs C).length, c3)] [digs A, digs B, digs C] := (((Heads.nil i7).snoc (s := (a, (digs A).length, c1)) rfl (rA.keep k17)).snoc (s := (b, (digs B).length, c2)) rfl (rB.keep k17)).snoc (s := (d, (digs C).length, c3)) rfl (rC.keep k17)
  have rl := hd.rdLL (o7.rd' (c := 3) (show 3 ≤ 11728124029610 by decide) (Nat.le_refl 3)) (Nat.le_of_ble_eq_true rfl) fun x hx => by
    simp at hx
    rcases hx with e | e | e <;> subst e <;> omega
  refine hc_intro (Product_spec rl rfl) fun v i8 ⟨k8, an⟩ => ?_
  have ep : prodS [digs A, digs B, digs C] = (digs (A * B * C), 0) := by
    unfold prodS
    rw [if_pos]
    · have e1 : prodV [digs A, digs B, digs C] = A * B * C := by simp [prodV, val_digs, Nat.mul_assoc]
      rw [e1, lim_d (by omega)]
    · intro x hx
      simp at hx
      rcases hx with e | e | e <;> subst e <;> exact frm_d (by omega)
  rw [ep] at an
  refine an.elim fun a8 d8 r8 => ?_
  have k18 := k17.trans k8
  refine c_ne (fun hh => absurd rfl hh) fun _ => ?_
  refine c_ne (fun hh => absurd rfl hh) fun _ => ?_
  refine c_ne (fun hh => absurd rfl hh) fun _ => ?_
  refine c_ne (fun hh => absurd rfl hh) fun _ => ?_
  refine c_ne (fun hh => absurd rfl hh) fun _ => ?_
  refine c_ne (fun hh => absurd rfl hh) fun _ => ?_
  refine c_ne (fun hh => absurd rfl hh) fun _ => ?_
  unfold gnomontop_ringProducts.D2.t
  have r1 := r1.keep (k2.trans (k3.trans (k4.trans (k5.trans (k6.trans (k7.trans k8))))))
  have r2 := r2.keep (k3.trans (k4.trans (k5.trans (k6.trans (k7.trans k8)))))
  have r3 := r3.keep (k4.trans (k5.trans (k6.trans (k7.trans k8))))
  have r4 := r4.keep (k5.trans (k6.trans (k7.trans k8)))
  have r5 := r5.keep (k6.trans (k7.trans k8))
  have r6 := r6.keep (k7.trans k8)
  refine same_d (Nat.mul_comm _ _) r1 r2 rfl rfl fun i9 k9 => ?_
  refine c_not (fun hh => absurd hh (by simp)) fun _ => ?_
  refine same_d eABC.symm (r5.keep k9) (r6.keep k9) rfl rfl fun i10 k10 => ?_
  refine c_not (fun hh => absurd hh (by simp)) fun _ => ?_
  refine same_d rfl (r8.keep (k9.trans k10)) (r5.keep (k9.trans k10)) rfl rfl fun i11 k11 => ?_
  refine c_not (fun hh => absurd hh (by simp)) fun _ => ?_
  have k911 := k9.trans (k10.trans k11)
  have k111 := k18.trans k911
  have r1 := r1.keep k911
  have r3 := r3.keep k911
  have r4 := r4.keep k911
  unfold gnomontop_ringProducts.D3.t
  have lS : (digs (A + B)).length ≤ 251 := digs_add_len ha hb
  have lW := dl_mul lS hc
  have lT : (digs (A * C + B * C)).length ≤ 501 := digs_add_len lAC lBC
  have lQ := dl_mul lS lS
  have lA2 := dl_mul ha ha
  have lB2 := dl_mul hb hb
  refine hc_intro (Add_spec (rA.keep k111) (rB.keep k111) rfl rfl) fun v j1 ⟨m1, an⟩ => ?_
  rw [addS_d (by omega) (by omega) (by omega)] at an
  refine an.elim fun p1 q1 t1 => ?_
  refine hc_intro (Mul_spec t1 (rC.keep (k111.trans m1)) rfl rfl) fun v j2 ⟨m2, an⟩ => ?_
  rw [mulS_d (by omega) (by omega) (by omega)] at an
  refine an.elim fun p2 q2 t2 => ?_
  have m12 := m1.trans m2
  refine hc_intro (Add_spec (r4.keep m12) (r3.keep m12) rfl rfl) fun v j3 ⟨m3, an⟩ => ?_
  rw [addS_d (by omega) (by omega) (by omega)] at an
  refine an.elim fun p3 q3 t3 => ?_
  refine hc_intro (Sqr_spec (t1.keep (m2.trans m3)) rfl) fun v j4 ⟨m4, an⟩ => ?_
  rw [mulS_d (by omega) (by omega) (by omega)] at an
  refine an.elim fun p4 q4 t4 => ?_
  have m14 := m12.trans (m3.trans m4)
  refine hc_intro (Sqr_spec (rA.keep (k111.trans m14)) rfl) fun v j5 ⟨m5, an⟩ => ?_
  rw [mulS_d (by omega) (by omega) (by omega)] at an
  refine an.elim fun p5 q5 t5 => ?_
  have m15 := m14.trans m5
  refine hc_intro (Sqr_spec (rB.keep (k111.trans m15)) rfl) fun v j6 ⟨m6, an⟩ => ?_
  rw [mulS_d (by omega) (by omega) (by omega)] at an
  refine an.elim fun p6 q6 t6 => ?_
  have m16 := m15.trans m6
  refine c_ne (fun hh => absurd rfl hh) fun _ => ?_
  refine c_ne (fun hh => absurd rfl hh) fun _ => ?_
  refine c_ne (fun hh => absurd rfl hh) fun _ => ?_
  refine c_ne (fun hh => absurd rfl hh) fun _ => ?_
  refine c_ne (fun hh => absurd rfl hh) fun _ => ?_
  refine c_ne (fun hh => absurd rfl hh) fun _ => ?_
  unfold gnomontop_ringProducts.D4.t
  have l2 : (digs 2).length ≤ 1 := dw_word (by decide)
  have lD := dl_mul lAB l2
  refine hc_intro (MulWord_spec (w := 2) (r1.keep m16) rfl (by decide)) fun v n1 ⟨o1, an⟩ => ?_
  rw [mulWS_d (by omega) (by omega)] at an
  refine an.elim fun u1 w1 s1 => ?_
  have lS2 : (digs (A * A + B * B)).length ≤ 501 := digs_add_len lA2 lB2
  refine hc_intro (Add_spec (t5.keep (m6.trans o1)) (t6.keep o1) rfl rfl) fun v n2 ⟨o2, an⟩ => ?_
  rw [addS_d (by omega) (by omega) (by omega)] at an
  refine an.elim fun u2 w2 s2 => ?_
  have lS3 : (digs (A * A + B * B + A * B * 2)).length ≤ 502 := digs_add_len lS2 (by omega)
  refine hc_intro (Add_spec s2 (s1.keep o2) rfl rfl) fun v n3 ⟨o3, an⟩ => ?_
  rw [addS_d (by omega) (by omega) (by omega)] at an
  refine an.elim fun u3 w3 s3 => ?_
  refine c_eq (fun _ => ?_) fun hh => absurd rfl hh
  refine c_eq (fun _ => ?_) fun hh => absurd rfl hh
  refine c_eq (fun _ => ?_) fun hh => absurd rfl hh
  have o13 := o1.trans (o2.trans o3)
  refine same_d (Nat.add_mul A B C) (t2.keep (m3.trans (m4.trans (m5.trans (m6.trans o13))))) (t3.keep (m4.trans (m5.trans (m6.trans o13)))) rfl rfl fun n4 o4 => ?_
  refine c_bool (fun _ => ?_) fun hh => absurd hh (by simp)
  have eQ : (A + B) * (A + B) = A * A + B * B + A * B * 2 := by rw [Nat.add_mul, Nat.mul_add, Nat.mul_add, Nat.mul_comm B A]; omega
  refine same_d eQ (t4.keep (m5.trans (m6.trans (o13.trans o4)))) (s3.keep o4) rfl rfl fun n5 o5 => ?_
  exact ⟨k111.trans (m16.trans (o13.trans (o4.trans o5))), rfl⟩
end
theorem ring_of {f : FuncId} {args : Array Value} {h : Hp} {b : Bool} (hc : HC f args h fun v h' => Keep h h' ∧ sBool h h' v b) (e : b = true) {K : Bool → Hp → Prop} (g : ∀ h', Keep h h' → K true h') : HC f args h fun v h' => gBool v fun x => K x h' :=
  hc_intro hc fun v h' ⟨k, s⟩ => by
    have s : v = .bool b := s
    subst s; subst e; exact gBool_intro rfl (g h' k)
theorem WholeRing_run {h : Hp} {a b d : Option Addr} {c1 c2 c3 l1 l2 l3 : Nat} {xs ys zs : List Nat} {w k n i j : Int} (rA : Rd h a c1 xs) (hl1 : l1 = xs.length) (rB : Rd h b c2 ys) (hl2 : l2 = ys.length) (rC : Rd h d c3 zs) (hl3 : l3 = zs.length) (iw : In .u64 w) (ik : In .i64 k) (ni : In .i64 n) (ii : In .u8 i) (ij : In .u8 j) :
    HC gnomontop_WholeRing.id #[.agg #[.slice a l1 c1, .slice b l2 c2, .slice d l3 c3, .int .u64 w, .int .i64 k, .int .i64 n, .int .u8 i, .int .u8 j]] h fun v h' => Keep h h' ∧ v = .bool true := by
  subst hl1; subst hl2; subst hl3
  refine gnomontop_WholeRing.ok ?_
  unfold gnomontop_WholeRing.t gnomontop_WholeRing.D1.t
  refine boxV fun h2 o2 k2 => ?_
  refine box_intro [3] (by rfl) (by decide) (by decide) fun h4 o4 k4 => ?_
  refine box_intro [5] (by rfl) (by decide) (by decide) fun h6 o6 k6 => ?_
  have d3 : digs 3 = [3] := by rw [digs_pos (by decide)]; simp [digs_zero]
  have d5 : digs 5 = [5] := by rw [digs_pos (by decide)]; simp [digs_zero]
  have d15 : digs 15 = [15] := by rw [digs_pos (by decide)]; simp [digs_zero]
  refine hc_intro (Mul_spec ((o4.rd (by decide)).keep k6) (o6.rd (by decide)) rfl rfl) fun v h8 ⟨k8, an⟩ => ?_
  have e15 : mulS [3] [5] = ([15], 0) := by
    rw [← d3, ← d5, mulS_d (by rw [d3]; decide) (by rw [d5]; decide) (by rw [d15]; decide), d15]
  rw [e15] at an
  refine an.elim fun a11 c11 r11 => ?_
  refine c_ne (fun hh => absurd rfl hh) fun _ => ?_
  refine box_intro [15] (by rfl) (by decide) (by decide) fun h15 o15 k15 => ?_
  refine ring_of (gnomontop_same.hv (r11.keep k15) rfl (o15.rd (by decide)) rfl) (by simp) fun h17 k17 => ?_
  refine c_not (fun hh => absurd hh (by simp)) fun _ => ?_
  unfold gnomontop_WholeRing.D2.t
  have k217 := k4.trans (k6.trans (k8.trans (k15.trans k17)))
  have k017 := k2.trans k217
  have o17 := o2.keep k217
  refine ldS o17 rfl ?_
  refine hc_intro (gnomontop_natural.hv (n := 250) (by decide) (rA.keep k017) rfl rfl) fun v h22 ⟨k22, an⟩ => ?_
  refine AnsS.elim an fun p1 q1 r1 => ?_
  refine ldS (o17.keep k22) rfl ?_
  refine hc_intro (gnomontop_natural.hv (n := 250) (by decide) (rB.keep (k017.trans k22)) rfl rfl) fun v h27 ⟨k27, an⟩ => ?_
  refine AnsS.elim an fun p2 q2 r2 => ?_
  have k1727 := k22.trans k27
  refine ldS (o17.keep k1727) rfl ?_
  refine hc_intro (gnomontop_natural.hv (n := 250) (by decide) (rC.keep (k017.trans k1727)) rfl rfl) fun v h32 ⟨k32, an⟩ => ?_
  refine AnsS.elim an fun p3 q3 r3 => ?_
  have lA := take_len 250 rA.words
  have lB := take_len 250 rB.words
  have lC := take_len 250 rC.words
  generalize val (xs.take 250) = A at *
  generalize val (ys.take 250) = B at *
  generalize val (zs.take 250) = C at *
  have r1 := r1.keep (k27.trans k32)
  have r2 := r2.keep k32
  have o32 := o17.keep (k1727.trans k32)
  have k032 := k017.trans (k1727.trans k32)
  refine ring_of (gnomontop_ringSums.hv r1 rfl r2 rfl r3 rfl) (ringSums_true lA lB lC) fun h35 k35 => ?_
  refine ⟨k35.preLe (Nat.le_refl _), ?_⟩
  refine c_bool (fun _ => ?_) fun hh => absurd hh (by simp)
  refine hc_intro (ringProducts_spec (r1.keep k35) (r2.keep k35) (r3.keep k35) lA lB lC) fun v h38 ⟨k38, e⟩ => ?_
  subst e
  refine gBool_intro rfl ⟨k38.preLe k35.le, ?_⟩
  refine c_bool (fun _ => ?_) fun hh => absurd hh (by simp)
  have k3238 := k35.trans k38
  refine ⟨o32.addLt 4, ?_⟩
  refine ldI (o32.keep k3238) rfl ?_
  refine hc_intro (gnomontop_among.hv ik (by decide) (by decide)) fun v h43 ⟨e, z, ev, hz⟩ => ?_
  subst e; subst ev
  refine gInt_intro rfl ⟨(Keep.refl _).preLe k3238.le, ?_⟩
  refine k_i64 ((1 + z : Nat) : Int) (by omega) (by omega) (by omega) ?_
  refine ring_of (gnomontop_ringParts.hv (r1.keep k3238) rfl (r2.keep k3238) rfl (in_i64.mpr (by omega))) (ringParts_true lA lB (by omega) (by omega)) fun h47 k47 => ?_
  refine ⟨k47.preLe k3238.le, ?_⟩
  refine c_bool (fun _ => ?_) fun hh => absurd hh (by simp)
  have k3247 := k3238.trans k47
  refine ⟨o32.addLt 3, ?_⟩
  refine ldI (o32.keep k3247) rfl ?_
  refine ⟨o32.addLt 5, ?_⟩
  refine ldI (o32.keep k3247) rfl ?_
  refine hc_intro (gnomontop_among.hv ni (by decide) (by decide)) fun v h54 ⟨e, y, ev, hy⟩ => ?_
  subst e; subst ev
  refine gInt_intro rfl ⟨(Keep.refl _).preLe k3247.le, ?_⟩
  have iw' := in_u64.mp iw
  obtain ⟨wn, rfl⟩ := Int.eq_ofNat_of_zero_le iw'.1
  refine ring_of (gnomontop_ringWords.hv (r1.keep k3247) rfl iw (in_i64.mpr (by omega))) (ringWords_true lA (by omega) (by omega)) fun h57 k57 => ?_
  refine ⟨k57.preLe k3247.le, ?_⟩
  refine c_bool (fun _ => ?_) fun hh => absurd hh (by simp)
  have k3257 := k3247.trans k57
  refine ⟨o32.addLt 3, ?_⟩
  refine ldI (o32.keep k3257) rfl ?_
  have ii' := in_u8.mp ii
  have ij' := in_u8.mp ij
  obtain ⟨im, rfl⟩ := Int.eq_ofNat_of_zero_le ii'.1
  obtain ⟨jm, rfl⟩ := Int.eq_ofNat_of_zero_le ij'.1
  refine ⟨o32.addLt 6, ?_⟩
  refine ldI (o32.keep k3257) rfl ?_
  refine k_i64 ((im : Nat) : Int) (by omega) (by omega) (by omega) ?_
  refine ⟨by decide, ⟨?_⟩⟩
  refine ⟨o32.addLt 7, ?_⟩
  refine ldI (o32.keep k3257) rfl ?_
  refine k_i64 ((jm : Nat) : Int) (by omega) (by omega) (by omega) ?_
  refine ⟨by decide, ⟨?_⟩⟩
  have t1 : Int.tmod ((im : Nat) : Int) 40 = ((im % 40 : Nat) : Int) := by rw [show (40 : Int) = ((40 : Nat) : Int) by rfl, Int.ofNat_tmod]
  have t2 : Int.tmod ((jm : Nat) : Int) 40 = ((jm % 40 : Nat) : Int) := by rw [show (40 : Int) = ((40 : Nat) : Int) by rfl, Int.ofNat_tmod]
  rw [t1, t2]
  have b1 : im % 40 < 40 := Nat.mod_lt _ (by decide)
  have b2 : jm % 40 < 40 := Nat.mod_lt _ (by decide)
  refine ring_of (gnomontop_ringPowers.hv iw (in_i64.mpr (by omega)) (in_i64.mpr (by omega))) (ringPowers_true (by omega) b1 b2) fun h70 k70 => ?_
  exact ⟨k70.preLe k3257.le, k032.trans (k3257.trans k70), rfl⟩
theorem says_one {α β : Type} {S : Says α} {T : Says β} {h : Hp} {cs : List Value} {p : α × β} (z : saysCons S 1 T h cs p) : ∃ c rest, cs = c :: rest ∧ S h [c] p.1 ∧ T h rest p.2 := by
  obtain ⟨l, s, t⟩ := z
  cases cs with
  | nil => simp at l
  | cons c r => exact ⟨c, r, rfl, s, t⟩
abbrev saysRing := saysCons saysWords 1 (saysCons saysWords 1 (saysCons saysWords 1 (saysCons (saysInt .u64) 1 (saysCons (saysInt .i64) 1 (saysCons (saysInt .i64) 1 (saysCons (saysInt .u8) 1 (saysCons (saysInt .u8) 1 saysEnd)))))))
theorem WholeRing_law {h : Hp} {cs : Array Value} {x : List Nat × List Nat × List Nat × Int × Int × Int × Int × Int × Unit} (z : saysRing h cs.toList x) :
    HC gnomontop_WholeRing.id #[.agg cs] h fun v h' => Keep h h' ∧ v = .bool true := by
  obtain ⟨v0, t0, e0, ⟨a0, c0, f0, r0, _⟩, z⟩ := says_one z
  obtain ⟨v1, t1, e1, ⟨a1, c1, f1, r1, _⟩, z⟩ := says_one z
  obtain ⟨v2, t2, e2, ⟨a2, c2, f2, r2, _⟩, z⟩ := says_one z
  obtain ⟨v3, t3, e3, ⟨f3, i3⟩, z⟩ := says_one z
  obtain ⟨v4, t4, e4, ⟨f4, i4⟩, z⟩ := says_one z
  obtain ⟨v5, t5, e5, ⟨f5, i5⟩, z⟩ := says_one z
  obtain ⟨v6, t6, e6, ⟨f6, i6⟩, z⟩ := says_one z
  obtain ⟨v7, t7, e7, ⟨f7, i7⟩, z⟩ := says_one z
  have z : t7 = [] := z
  simp only [List.cons.injEq, and_true] at f0 f1 f2 f3 f4 f5 f6 f7
  subst f0 f1 f2 f3 f4 f5 f6 f7
  rw [e1, e2, e3, e4, e5, e6, e7, z] at e0
  have ec : cs = #[.slice a0 x.1.length c0, .slice a1 x.2.1.length c1, .slice a2 x.2.2.1.length c2, .int .u64 x.2.2.2.1, .int .i64 x.2.2.2.2.1, .int .i64 x.2.2.2.2.2.1, .int .u8 x.2.2.2.2.2.2.1, .int .u8 x.2.2.2.2.2.2.2.1] := Array.toList_inj.mp e0
  rw [ec]
  exact WholeRing_run r0 rfl r1 rfl r2 rfl (in_wf i3) (in_wf i4) (in_wf i5) (in_wf i6) (in_wf i7)
end Go.Proofs.Ytaglonbkdcmmpaa.G
