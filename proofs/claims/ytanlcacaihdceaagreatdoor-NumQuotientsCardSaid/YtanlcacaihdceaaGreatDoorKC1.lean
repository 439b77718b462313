/- Texts of this work, joined: DivQ2, MulSpec, MulSpec2, MulSpec3, ZInt, ZSpec, ZHv, ZNum, ZNum2, ZNum3, ZNum4, ZRef, ZRefL, ZRef2, ZRefM, ZRef3, ZLawL, ZAri, ZRef4, ZLawC, ZDoc, ZDocA, ZDocB. -/
import Derived.Test.YtanlcacaihdceaaGreatDoorKB
import Derived.Test.YtanlcacaihdceaaGreatDoorKC0
/- What shifted and QuoRem answer. -/
namespace Go.Proofs.YtanlcacaihdceaaGreatDoor.G
open Go.Gv
set_option maxRecDepth 100000
set_option linter.unusedVariables false
theorem shr_as {s x : Nat} (hs : s ≤ 64) : x / 2 ^ (64 - s) = x * 2 ^ s / 18446744073709551616 := by
  have e : 18446744073709551616 = 2 ^ (64 - s) * 2 ^ s := by rw [← Nat.pow_add, show 64 - s + s = 64 by omega]
  rw [e, Nat.mul_div_mul_right _ _ (Nat.pow_pos (by decide))]
theorem shifted_walk {R : Rt} {n s V q : Nat} {us0 : List Nat} {h0 : Hp} (hq : h0.size ≤ q) (hs0 : 0 < s) (hs : s < 64) (hn : us0.length = n) (hnn : n < 35184372088820) (hw0 : Words us0) (hV : val us0 * 2 ^ s = V) (hVlt : V < 2 ^ (64 * n))
    (post : ∀ h us, us.length = n → Own h q us → Keep h0 h → val us = V → R (.slice (some ⟨q, 0, none⟩) n n) h) :
    ∀ (k i c : Nat) (us : List Nat) (h : Hp), i + k = n → us.length = n → Own h q us → Keep h0 h → us.drop i = us0.drop i → c < 2 ^ s → val (us.take i) + c * 2 ^ (64 * i) = val (us0.take i) * 2 ^ s →
      natdiv_shifted.L4.t R (k + 1) (s : Int) (some ⟨q, 0, none⟩) n n (c : Int) (n : Int) (i : Int) h := by
  intro k
  induction k with
  | zero =>
    intro i c us h hi hul o kp hd hc e
    unfold natdiv_shifted.L4.t natdiv_shifted.D5.t
    refine c_dec (fun hb => absurd hb (by omega)) fun _ => ?_
    unfold natdiv_shifted.D2.t
    have ei : i = n := by omega
    subst ei
    rw [List.take_of_length_le (by omega), List.take_of_length_le (by omega), hV] at e
    have hc0 : c = 0 := by
      rcases Nat.eq_zero_or_pos c with h0 | h0
      · exact h0
      · have : 1 * 2 ^ (64 * i) ≤ c * 2 ^ (64 * i) := Nat.mul_le_mul_right _ h0
        omega
    subst hc0
    exact post h us hul o kp (by omega)
  | succ k ih =>
    intro i c us h hi hul o kp hd hc e
    have hx : us.getD i 0 = us0.getD i 0 := by
      have := congrArg (fun l => l.headD 0) hd
      simpa [headD_drop] using this
    have hxl := getD_lt hw0 i
    unfold natdiv_shifted.L4.t natdiv_shifted.D5.t
    refine c_dec (fun _ => ?_) fun hb => absurd (by omega) hb
    have r : Rd h (some ⟨q, 0, none⟩) n us := o.rd (by omega)
    have hcl : c < 18446744073709551616 := Nat.lt_trans hc (pow_lt64 hs)
    refine at_intro r (j := i) rfl hul.symm (by omega) ?_
    rw [hx]
    refine shl_k rfl s (2 ^ s) (by omega) rfl rfl ?_
    refine or_k rfl rfl (Nat.mod_lt _ (by decide)) hcl ?_
    rw [Nat.or_comm, shl_or hs hc]
    refine at_intro r (j := i) rfl hul.symm (by omega) ?_
    rw [hx]
    refine k_i64 ((64 - s : Nat) : Int) (by omega) (by omega) (by omega) ?_
    refine shr_k' rfl (64 - s) (2 ^ (64 - s)) (by omega) rfl rfl ?_
    rw [shr_as (by omega)]
    have hlo := shl_lo_lt (x := us0.getD i 0) hs hc
    have hhi := shl_hi_lt (k := s) hxl
    refine put_intro o (j := i) rfl hul.symm (by omega) rfl hlo fun o2 => ?_
    refine k_i64 ((i + 1 : Nat) : Int) (by omega) (by omega) (by omega) ?_
    refine ih (i + 1) _ _ _ (by omega) (by simp [hul]) o2 (KeepB.keep kp (KeepB.set _ _ _ _) hq) ?_ hhi ?_
    · rw [List.drop_set_of_lt (by omega), ← List.drop_drop, ← List.drop_drop, hd]
    · have et : (us.set i (us0.getD i 0 * 2 ^ s % 18446744073709551616 + c)).take (i + 1) = us.take i ++ [us0.getD i 0 * 2 ^ s % 18446744073709551616 + c] := take_set_succ (by omega)
      rw [et, val_append, List.length_take, Nat.min_eq_left (by omega), take64, Nat.add_mul, ← e, pow_step]
      have e1 : 2 ^ (64 * i) * us0.getD i 0 * 2 ^ s = us0.getD i 0 * 2 ^ s * 2 ^ (64 * i) := by rw [Nat.mul_assoc, Nat.mul_comm]
      rw [e1]
      generalize us0.getD i 0 * 2 ^ s = y
      generalize 2 ^ (64 * i) = P
      simp only [val, Nat.mul_zero, Nat.add_zero]
      have e2 : y * P = y % 18446744073709551616 * P + y / 18446744073709551616 * (18446744073709551616 * P) := by
        rw [← Nat.mul_assoc, ← Nat.add_mul]; congr 1; omega
      rw [Nat.mul_add, Nat.mul_comm P, Nat.mul_comm P]
      omega
theorem val_zeros (zs : List Nat) (m : Nat) : val (zs ++ List.replicate m 0) = val zs := by rw [val_append, val_replicate]; simp
theorem shifted_spec {a : Option Addr} {c l n s : Nat} {xs : List Nat} {h : Hp} (r : Rd h a c xs) (hl : l = xs.length) (hs : s < 64) (hxn : xs.length ≤ n) (hn : n < 35184372088820) (hlt : val xs * 2 ^ s < 2 ^ (64 * n)) :
    HC natdiv_shifted.id #[.slice a l c, .int .i64 (s : Int), .int .i64 (n : Int)] h fun v h' => Keep h h' ∧ ∃ q us, v = .slice (some ⟨q, 0, none⟩) n n ∧ h.size ≤ q ∧ Own h' q us ∧ us.length = n ∧ val us = val xs * 2 ^ s := by
  refine natdiv_shifted.ok ?_
  unfold natdiv_shifted.t natdiv_shifted.D1.t
  refine mk_intro n rfl rfl rfl rfl (by omega) fun h1 o1 k1 => ?_
  rw [Int.toNat_natCast]
  refine cp_intro o1 (r.keep k1) (by simp) hl (Nat.le_refl _) k1 fun h2 o2 k2 => ?_
  have e2 : List.take (List.replicate n 0).length xs ++ List.drop xs.length (List.replicate n 0) = xs ++ List.replicate (n - xs.length) 0 := by
    rw [List.length_replicate, List.take_of_length_le hxn, List.drop_replicate]
  rw [e2] at o2
  have hl2 : (xs ++ List.replicate (n - xs.length) 0).length = n := by simp; omega
  refine c_eq (fun hs0 => ?_) fun hs0 => ?_
  · have : s = 0 := by omega
    subst this
    exact ⟨k2, h.size, _, rfl, Nat.le_refl _, o2, hl2, by rw [val_zeros]; simp⟩
  · unfold natdiv_shifted.D3.t
    refine ⟨n + 1, shifted_walk (us0 := xs ++ List.replicate (n - xs.length) 0) (Nat.le_refl h.size) (by omega) hs hl2 hn o2.words (by rw [val_zeros]) hlt (fun h3 us hul o3 k3 ev => ⟨k3, h.size, us, rfl, Nat.le_refl _, o3, hul, ev⟩) n 0 0 _ h2 (by omega) hl2 o2 k2 rfl (Nat.pow_pos (by decide)) (by simp [val])⟩
theorem off_of_ne' {b q : Nat} (h : b ≠ q) : Off q (some ⟨b, 0, none⟩) := fun p e => by cases e; exact h
/-! ### QuoRem -/
def quoS (xs ys : List Nat) : List Nat × List Nat × Int := if Frm xs ∧ Frm ys then (if val ys = 0 then ([], [], 4) else (digs (val xs / val ys), digs (val xs % val ys), 0)) else ([], [], 2)
abbrev AnsQ : An (List Nat × List Nat × Int) := s3 sW sW (sI .i64)
theorem AnsQ.none {h0 h : Hp} {x : Int} (i : In .i64 x := by decide) : AnsQ h0 h (.tuple #[.slice Option.none 0 0, .slice Option.none 0 0, .int .i64 x]) ([], [], x) := ⟨_, _, _, rfl, ⟨_, _, rfl, GotE.nil _ _⟩, ⟨_, _, rfl, GotE.nil _ _⟩, rfl, i⟩
theorem AnsQ.mk {h0 h : Hp} {a b : Option Addr} {c d l m : Nat} {xs ys : List Nat} {x : Int} (r : GotE eU64 h0 h a c xs) (s : GotE eU64 h0 h b d ys) (hl : l = xs.length) (hm : m = ys.length) (i : In .i64 x) : AnsQ h0 h (.tuple #[.slice a l c, .slice b m d, .int .i64 x]) (xs, ys, x) := by
  subst hl; subst hm
  exact ⟨_, _, _, rfl, ⟨_, _, rfl, r⟩, ⟨_, _, rfl, s⟩, rfl, i⟩
theorem top_ne {ys : List Nat} (f : trimL ys = ys) (h : ys ≠ []) : ys.getD (ys.length - 1) 0 ≠ 0 := (trimL_iff.mp f).resolve_left h
theorem QuoRem_spec {a b : Option Addr} {c d l m : Nat} {xs ys : List Nat} {h : Hp} (r : Rd h a c xs) (s : Rd h b d ys) (hl : l = xs.length) (hm : m = ys.length) :
    HC natdiv_QuoRem.id #[.slice a l c, .slice b m d] h fun v h' => Keep h h' ∧ AnsQ h h' v (quoS xs ys) := by
  subst hl; subst hm
  refine natdiv_QuoRem.ok ?_
  unfold natdiv_QuoRem.t natdiv_QuoRem.D1.t
  refine hc_intro (Form_spec r rfl) fun v h1 ⟨e1, e2⟩ => ?_
  subst e1; subst e2
  refine gBool_intro rfl ?_
  refine c_not (fun hf => ⟨Keep.refl _, ?_⟩) fun hf => ?_
  · unfold quoS; rw [if_neg (fun hh => of_decide_eq_false hf hh.1)]; exact AnsQ.none
  refine hc_intro (Form_spec s rfl) fun v h2 ⟨e1, e2⟩ => ?_
  subst e1; subst e2
  refine gBool_intro rfl ?_
  refine c_not (fun hg => ⟨Keep.refl _, ?_⟩) fun hg => ?_
  · unfold quoS; rw [if_neg (fun hh => of_decide_eq_false hg hh.2)]; exact AnsQ.none
  have fx := of_decide_eq_true hf
  have fy := of_decide_eq_true hg
  have dx := fx.digs r.words
  have dy := fy.digs s.words
  have lx := fx.1; have ly := fy.1
  unfold natdiv_QuoRem.D2.t
  unfold quoS
  rw [if_pos ⟨fx, fy⟩]
  refine c_eq (fun h0 => ⟨Keep.refl _, ?_⟩) fun h0 => ?_
  · have : ys = [] := List.length_eq_zero_iff.mp (by omega)
    subst this
    rw [if_pos (show val [] = 0 from rfl)]; exact AnsQ.none
  have hy0 : ys ≠ [] := fun e => h0 (by subst e; rfl)
  have htop := top_ne fy.2 hy0
  have hlen0 : 0 < ys.length := List.length_pos_iff.mpr hy0
  have hyt := top64 s.words (m := ys.length - 1) (by omega)
  have hYge : 2 ^ (64 * (ys.length - 1)) ≤ val ys := by
    refine Nat.le_of_not_lt fun hh => ?_
    rw [Nat.div_eq_of_lt hh] at hyt
    exact htop hyt.symm
  have hY0 : val ys ≠ 0 := by
    have : 0 < 2 ^ (64 * (ys.length - 1)) := Nat.pow_pos (by decide)
    omega
  rw [if_neg hY0]
  refine hc_intro (Cmp_spec r s rfl rfl) fun v h3 ⟨e1, e2⟩ => ?_
  subst e1; subst e2
  refine gInt_intro rfl ?_
  refine c_dec (fun hb => ?_) fun hb => ?_
  · have hlt : val xs < val ys := by unfold cmpI at hb; split at hb <;> (try split at hb) <;> omega
    refine hc_intro (Norm_spec r rfl) fun v h4 ⟨k4, an⟩ => ?_
    rw [fx.lim r.words] at an
    refine an.elimG fun a4 c4 g4 _ => ⟨k4, ?_⟩
    rw [Nat.div_eq_of_lt hlt, Nat.mod_eq_of_lt hlt, digs_zero, dx]
    exact AnsQ.mk (GotE.nil _ _) g4 rfl rfl (by decide)
  have hge : val ys ≤ val xs := by unfold cmpI at hb; split at hb <;> (try split at hb) <;> omega
  refine c_eq (fun h1 => ?_) fun h1 => ?_
  · have hl1 : ys.length = 1 := by omega
    have ey : ys.getD 0 0 = val ys := by
      rw [hl1] at hyt
      simpa using hyt.symm
    have hw0 := s.word 0
    refine at_intro s (j := 0) rfl rfl (by omega) ?_
    rw [ey] at hw0 ⊢
    refine hc_intro (DivWord_spec r rfl hw0) fun v h4 ⟨k4, an⟩ => ?_
    have hmod := Nat.mod_lt (val xs) (show 0 < val ys by omega)
    have ed : divWS xs (val ys) = (digs (val xs / val ys), ((val xs % val ys : Nat) : Int), 0) := by unfold divWS; rw [if_pos fx, if_neg hY0]
    rw [ed] at an
    refine an.elim fun a4 c4 g4 => ?_
    refine hc_intro (Word_spec (w := val xs % val ys) (by omega) h4) fun v h5 ⟨k5, sw⟩ => ?_
    refine AnsS.elimG sw fun a5 c5 g5 => ?_
    exact ⟨k4.trans k5, AnsQ.mk (g4.keep k5) (g5.from k4.le) rfl rfl (by decide)⟩
  refine k_i64 ((ys.length - 1 : Nat) : Int) (by omega) (by omega) (by omega) ?_
  refine at_intro s (j := ys.length - 1) rfl rfl (by omega) ?_
  have htw := s.word (ys.length - 1)
  refine hc_intro (Lead_spec htw _) fun v h4 ⟨e1, e2⟩ => ?_
  subst e1; subst e2
  refine gInt_intro rfl ?_
  have hbl := blen_pos htop
  have hbt := blen_trim s.words (n := ys.length - 1) (by omega) htop
  obtain ⟨sh, hsh⟩ : ∃ sh, sh = 64 - blen (ys.getD (ys.length - 1) 0) := ⟨_, rfl⟩
  rw [← hsh]
  have hs64 : sh < 64 := by omega
  have e64 : (2 : Nat) ^ 64 = 18446744073709551616 := by decide
  have hble : blen (ys.getD (ys.length - 1) 0) ≤ 64 := blen_le.mpr (by omega)
  refine k_i64 ((xs.length + 1 : Nat) : Int) (by omega) (by omega) (by omega) ?_
  have hP : 2 ^ sh ≤ 2 ^ 64 := Nat.pow_le_pow_right (by decide) (by omega)
  have hP0 : 0 < 2 ^ sh := Nat.pow_pos (by decide)
  have hX := val_lt r.words
  have hXs : val xs * 2 ^ sh < 2 ^ (64 * (xs.length + 1)) := by
    rw [Nat.mul_add, Nat.pow_add, Nat.mul_one]
    calc val xs * 2 ^ sh < 2 ^ (64 * xs.length) * 2 ^ sh := Nat.mul_lt_mul_of_pos_right hX hP0
      _ ≤ _ := Nat.mul_le_mul_left _ hP
  have hYs : val ys * 2 ^ sh < 2 ^ (64 * ys.length) := by
    have h1 : val ys < 2 ^ (64 * (ys.length - 1) + blen (ys.getD (ys.length - 1) 0)) := blen_le.mp (by omega)
    have e1 : 64 * ys.length = 64 * (ys.length - 1) + blen (ys.getD (ys.length - 1) 0) + sh := by omega
    rw [e1, Nat.pow_add]
    exact Nat.mul_lt_mul_of_pos_right h1 hP0
  refine hc_intro (shifted_spec (n := xs.length + 1) r rfl hs64 (by omega) (by omega) hXs) fun v h5 ⟨k5, bu, us, ev, hbu, ou, hul, eu⟩ => ?_
  subst ev
  refine gSlice_intro rfl ?_
  refine hc_intro (shifted_spec (n := ys.length) (s.keep k5) rfl hs64 (Nat.le_refl _) (by omega) hYs) fun v h6 ⟨k6, bv, vs, ev, hbv, ov, hvl, ew⟩ => ?_
  subst ev
  refine gSlice_intro rfl ?_
  have hvtop : vs.getD (ys.length - 1) 0 ≠ 0 := by
    rw [← top64 ov.words (m := ys.length - 1) (by omega), ew]
    have h1 : 2 ^ (64 * (ys.length - 1)) ≤ val ys * 2 ^ sh := Nat.le_trans hYge (Nat.le_mul_of_pos_right _ hP0)
    have := Nat.div_pos h1 (Nat.pow_pos (by decide))
    omega
  have hlens : ys.length ≤ xs.length := by
    rw [← dx, ← dy]; exact digs_len_mono hge
  have hdrop : val (us.drop (xs.length + 1 - ys.length)) < val vs := by
    rw [val_drop ou.words, eu, ew, Nat.div_lt_iff_lt_mul (Nat.pow_pos (by decide))]
    calc val xs * 2 ^ sh < 2 ^ (64 * xs.length) * 2 ^ sh := Nat.mul_lt_mul_of_pos_right hX hP0
      _ = 2 ^ (64 * (ys.length - 1)) * 2 ^ sh * 2 ^ (64 * (xs.length + 1 - ys.length)) := by
        rw [← Nat.pow_add, ← Nat.pow_add, ← Nat.pow_add]; congr 1; omega
      _ ≤ _ := Nat.mul_le_mul_right _ (Nat.mul_le_mul_right _ hYge)
  have hbul := ou.lt
  have rv : Rd h6 (some ⟨bv, 0, none⟩) ys.length vs := ov.rd (by omega)
  have hbvu : bv ≠ bu := by omega
  refine hc_intro (long_spec rv hvl rfl (off_of_ne' hbvu) hlen0 hvtop (by omega) (Nat.le_refl _) (by omega) hul (ou.keep k6).toE hdrop) fun v h7 ⟨bq, us', qs, ev, hul', hql, ou', oq', k7, hbq, er, eq⟩ => ?_
  subst ev
  refine gSlice_intro rfl ?_
  rw [eu, ew] at er eq
  rw [Nat.mul_mod_mul_right] at er
  rw [Nat.mul_div_mul_right _ _ hP0] at eq
  have hR : val us' < 2 ^ (64 * ys.length) := by
    rw [er]
    exact Nat.lt_trans (Nat.mul_lt_mul_of_pos_right (Nat.mod_lt _ (by omega)) hP0) hYs
  have hlow := low64 (Nat.le_refl _) hR ou'.ok
  refine sl_to rfl (by omega) ?_
  have ru : Rd h7 (some ⟨bu, 0, none⟩) (xs.length + 1) (us'.take ys.length) := ((ou'.rd' (c := xs.length + 1) (by show _ ≤ 35184372088828; omega) (by omega)).to64).take _
  refine hc_intro (Norm_spec ru (by rw [List.length_take]; omega)) fun v h8 ⟨k8, an⟩ => ?_
  rw [hlow.2, er] at an
  have hmY : val xs % val ys < val ys := Nat.mod_lt _ (by omega)
  have lR : (digs (val xs % val ys * 2 ^ sh)).length ≤ 8192 := Nat.le_trans (digs_len.mpr (by rw [er] at hR; exact hR)) ly
  have eR : lim (val xs % val ys * 2 ^ sh) = (digs (val xs % val ys * 2 ^ sh), 0) := by unfold lim; rw [if_pos lR]
  rw [eR] at an
  refine an.elim fun a8 c8 r8 => ?_
  refine hc_intro (Shr_spec r8 rfl (by omega)) fun v h9 ⟨k9, an⟩ => ?_
  have lM : (digs (val xs % val ys)).length ≤ 8192 := Nat.le_trans (digs_len_mono (Nat.mod_le _ _)) (by rw [dx]; exact lx)
  have eS : shrS (digs (val xs % val ys * 2 ^ sh)) (sh : Int) = (digs (val xs % val ys), 0) := by
    unfold shrS
    rw [if_neg (by omega), if_pos ⟨lR, trimL_digs _⟩, val_digs, Int.toNat_natCast, Nat.mul_div_cancel _ hP0]
    unfold lim; rw [if_pos lM]
  rw [eS] at an
  refine an.elimG fun a9 c9 g9 _ => ?_
  have rq : Rd h9 (some ⟨bq, 0, none⟩) (xs.length + 1 - ys.length) qs := ((oq'.rd' (c := xs.length + 1 - ys.length) (by show _ ≤ 35184372088828; omega) (by omega)).to64).keep (k8.trans k9)
  refine hc_intro (Norm_spec rq hql.symm) fun v h10 ⟨k10, an⟩ => ?_
  have lQ : (digs (val xs / val ys)).length ≤ 8192 := Nat.le_trans (digs_len_mono (Nat.div_le_self _ _)) (by rw [dx]; exact lx)
  have eQ : lim (val qs) = (digs (val xs / val ys), 0) := by rw [eq]; unfold lim; rw [if_pos lQ]
  rw [eQ] at an
  refine an.elimG fun a10 c10 g10 _ => ?_
  have k0h7 : Keep _ h7 := k7.keep (k5.trans k6) hbu
  exact ⟨k0h7.trans (k8.trans (k9.trans k10)), AnsQ.mk (g10.from (k0h7.trans (k8.trans k9)).le) ((g9.keep k10).from (k0h7.trans k8).le) rfl rfl (by decide)⟩
end Go.Proofs.YtanlcacaihdceaaGreatDoor.G

/- What the parts of products answer: trim, cut, sum, addAt, takeAway, rows. -/
namespace Go.Proofs.YtanlcacaihdceaaGreatDoor.G
open Go.Gv
/-! ### adding in place -/
/-! ### taking away in place -/
end Go.Proofs.YtanlcacaihdceaaGreatDoor.G

/- What rows, cut and sum answer. -/
namespace Go.Proofs.YtanlcacaihdceaaGreatDoor.G
open Go.Gv
set_option maxRecDepth 100000
/-! ### parts and sums -/
/-- A list in new memory, whose block is the call's own. -/
def Fresh (h h' : Hp) (v : Value) (xs : List Nat) : Prop := ∃ q, h.size ≤ q ∧ v = .slice (some ⟨q, 0, none⟩) xs.length xs.length ∧ Mine h' q xs
theorem Fresh.elim {h h' : Hp} {v : Value} {xs : List Nat} {K : Option Addr → Nat → Nat → Prop} (f : Fresh h h' v xs) (g : ∀ q, h.size ≤ q → Mine h' q xs → K (some ⟨q, 0, none⟩) xs.length xs.length) : gSlice v K := by
  obtain ⟨q, hq, e, o⟩ := f
  subst e; exact g q hq o
end Go.Proofs.YtanlcacaihdceaaGreatDoor.G

/- What fill, slabs, thirds, product and Mul answer. -/
namespace Go.Proofs.YtanlcacaihdceaaGreatDoor.G
open Go.Gv
set_option maxRecDepth 100000
/-! ### the great recursion -/
end Go.Proofs.YtanlcacaihdceaaGreatDoor.G

/- Whole numbers as a sign and limbs, or a sign and a natural: plain law. -/
namespace Go.Proofs.YtanlcacaihdceaaGreatDoor.G
open Go.Gv
set_option linter.unusedVariables false
abbrev Zw := Bool × List Nat
abbrev Zd := Bool × Nat
def nz : Zw := (false, [])
def zi (x : Zw) : Int := if x.1 then -((val x.2 : Nat) : Int) else ((val x.2 : Nat) : Int)
def zz (i : Int) : Zw := (decide (i < 0), digs i.natAbs)
def dz (i : Int) : Zd := (decide (i < 0), i.natAbs)
def di (x : Zd) : Int := if x.1 then -((x.2 : Nat) : Int) else ((x.2 : Nat) : Int)
def FrmZ (x : Zw) : Prop := Frm x.2 ∧ ¬ (x.1 = true ∧ x.2 = [])
instance (x : Zw) : Decidable (FrmZ x) := by unfold FrmZ; infer_instance
def SmZ (i : Int) : Prop := (digs i.natAbs).length ≤ 8192
instance (i : Int) : Decidable (SmZ i) := by unfold SmZ; infer_instance
def zlim (i : Int) : Zw × Int := if SmZ i then (zz i, 0) else (nz, 5)
theorem zi_zz (i : Int) : zi (zz i) = i := by
  unfold zi zz
  simp only [val_digs]
  by_cases h : i < 0
  · simp only [h, decide_true, if_true]; omega
  · simp only [h, decide_false, Bool.false_eq_true, if_false]; omega
theorem di_dz (i : Int) : di (dz i) = i := by
  unfold di dz
  by_cases h : i < 0
  · simp only [h, decide_true, if_true]; omega
  · simp only [h, decide_false, Bool.false_eq_true, if_false]; omega
theorem digs_nil_iff (n : Nat) : digs n = [] ↔ n = 0 := by
  constructor
  · intro h; rw [← val_digs n, h]; rfl
  · intro h; subst h; exact digs_zero
theorem frm_zz {i : Int} (h : SmZ i) : FrmZ (zz i) := by
  refine ⟨⟨h, trimL_digs _⟩, ?_⟩
  rintro ⟨h1, h2⟩
  have h1 := of_decide_eq_true h1
  have h2 := (digs_nil_iff _).mp h2
  omega
/-- The number of a sign and a size: the sign goes where the size is nought. -/
def sg (b : Bool) (n : Nat) : Int := if b then -(n : Int) else (n : Int)
theorem sg_abs (b : Bool) (n : Nat) : (sg b n).natAbs = n := by unfold sg; cases b <;> simp
theorem sg_neg (b : Bool) (n : Nat) : decide (sg b n < 0) = (b && decide (n ≠ 0)) := by
  unfold sg
  cases b
  · simp
  · by_cases h : n = 0
    · subst h; simp
    · simp only [if_true, Bool.true_and, h, ne_eq, not_false_eq_true, decide_true, decide_eq_true_eq]; omega
theorem zz_sg (b : Bool) (n : Nat) : zz (sg b n) = ((b && decide (n ≠ 0)), digs n) := by unfold zz; rw [sg_abs, sg_neg]
theorem dz_sg (b : Bool) (n : Nat) : dz (sg b n) = ((b && decide (n ≠ 0)), n) := by unfold dz; rw [sg_abs, sg_neg]
theorem zi_sg (x : Zw) : zi x = sg x.1 (val x.2) := rfl
theorem zi_abs (x : Zw) : (zi x).natAbs = val x.2 := by rw [zi_sg, sg_abs]
theorem val_nil_iff {xs : List Nat} (f : Frm xs) : val xs = 0 ↔ xs = [] := by
  rw [← trimL_nil_iff, f.2]
theorem lim_big2 {n : Nat} (h : ¬ (digs n).length ≤ 8192) : lim n = ([], 5) := by unfold lim; rw [if_neg h]
theorem zlim_ok {i : Int} (h : SmZ i) : zlim i = (zz i, 0) := if_pos h
theorem zlim_no {i : Int} (h : ¬ SmZ i) : zlim i = (nz, 5) := if_neg h
/-! ### quotients -/
/-- a / b rounded down, for b above nought. -/
theorem fl_uniq {a b q : Int} (hb : 0 < b) (h1 : q * b ≤ a) (h2 : a < (q + 1) * b) : a / b = q := by
  refine Int.le_antisymm (Int.lt_add_one_iff.mp (Int.ediv_lt_of_lt_mul hb h2)) (Int.le_ediv_of_mul_le hb h1)
def flo (a b : Int) : Int := if b < 0 then (-a) / (-b) else a / b
def cei (a b : Int) : Int := -flo (-a) b
def mo (a b : Int) : Int := a - b * flo a b
/-- a / b to the nearest, of sizes. -/
def nearN (A B : Nat) : Nat := if B < 2 * (A % B) ∨ (2 * (A % B) = B ∧ A / B % 2 = 1) then A / B + 1 else A / B
def nea (a b : Int) : Int := sg (xor (decide (a < 0)) (decide (b < 0))) (nearN a.natAbs b.natAbs)
theorem natCast_pos_of {B : Nat} (h : B ≠ 0) : (0 : Int) < (B : Int) := by omega
/-- Rounding down, of signs and sizes. -/
theorem flo_sg {p q : Bool} {A B : Nat} (hB : B ≠ 0) (hp : p = true → A ≠ 0) : flo (sg p A) (sg q B) = sg (xor p q) (if (xor p q) = true ∧ A % B ≠ 0 then A / B + 1 else A / B) := by
  have key : ∀ (r : Bool), (r = true → A ≠ 0) → sg r A / (B : Int) = sg r (if r = true ∧ A % B ≠ 0 then A / B + 1 else A / B) := by
    intro r hr
    have hd := Nat.div_add_mod A B
    have hm := Nat.mod_lt A (show 0 < B by omega)
    refine fl_uniq (natCast_pos_of hB) ?_ ?_
    · cases r
      · simp only [sg, Bool.false_eq_true, false_and, if_false]
        have : A / B * B ≤ A := Nat.div_mul_le_self _ _
        exact_mod_cast this
      · simp only [sg, if_true, true_and]
        split
        · have : A ≤ (A / B + 1) * B := by rw [Nat.add_mul, Nat.one_mul, Nat.mul_comm]; omega
          have h2 : (A : Int) ≤ (((A / B + 1 : Nat) : Int)) * (B : Int) := by exact_mod_cast this
          rw [Int.neg_mul]; omega
        · rename_i h
          have : A = A / B * B := by rw [Nat.mul_comm]; omega
          have h2 : (A : Int) = (((A / B : Nat) : Int)) * (B : Int) := by exact_mod_cast this
          rw [Int.neg_mul]; omega
    · cases r
      · simp only [sg, Bool.false_eq_true, false_and, if_false]
        have : A < (A / B + 1) * B := by rw [Nat.add_mul, Nat.one_mul, Nat.mul_comm]; omega
        exact_mod_cast this
      · simp only [sg, if_true, true_and]
        split
        · rename_i h
          have : A / B * B < A := by rw [Nat.mul_comm]; omega
          have h2 : (((A / B : Nat) : Int)) * (B : Int) < (A : Int) := by exact_mod_cast this
          have h3 : (-(((A / B + 1 : Nat) : Int)) + 1) = -(((A / B : Nat) : Int)) := by omega
          rw [h3, Int.neg_mul]; omega
        · rename_i h
          have h0 : A = A / B * B := by rw [Nat.mul_comm]; omega
          have h2 : (A : Int) = (((A / B : Nat) : Int)) * (B : Int) := by exact_mod_cast h0
          rw [Int.add_mul, Int.neg_mul, Int.one_mul]; omega
  unfold flo
  cases q
  · have e : sg false B = (B : Int) := rfl
    rw [e, if_neg (by omega), key p hp]
    simp
  · have e : sg true B = -(B : Int) := rfl
    rw [e, if_pos (by omega), Int.neg_neg]
    have e2 : -sg p A = sg (!p) A := by cases p <;> simp [sg]
    rw [e2]
    by_cases hA : A = 0
    · subst hA
      have hp0 : p = false := by cases p; rfl; exact absurd rfl (hp rfl)
      subst hp0
      simp [sg]
    · rw [key (!p) fun _ => hA]
      cases p <;> simp
end Go.Proofs.YtanlcacaihdceaaGreatDoor.G

/- Whole numbers: what the calls answer, and the arithmetic of signs and sizes: plain law. -/
namespace Go.Proofs.YtanlcacaihdceaaGreatDoor.G
open Go.Gv
set_option linter.unusedVariables false
def quoZ (f : Int → Int → Int) (x y : Zw) : Zw × Int := if FrmZ x ∧ FrmZ y then (if zi y = 0 then (nz, 4) else zlim (f (zi x) (zi y))) else (nz, 2)
def shrZ (f : Int → Int → Int) (x : Zw) (n : Int) : Zw × Int := if n < 0 then (nz, 1) else if FrmZ x then zlim (f (zi x) (2 ^ n.toNat)) else (nz, 2)
def cmpZ (i j : Int) : Int := if i < j then -1 else if i = j then 0 else 1
def addI (x y : Int) : Int := x + y
def subI (x y : Int) : Int := x - y
def mulI (x y : Int) : Int := x * y
/-- An answer: the sign goes where the list is empty; nothing, where there was an error. -/
def tellZ (b : Bool) (p : List Nat × Int) : Zw × Int := if p.2 ≠ 0 then (nz, p.2) else ((b && decide (0 < p.1.length), p.1), 0)
theorem len_pos_digs (n : Nat) : decide (0 < (digs n).length) = decide (n ≠ 0) := by
  by_cases h : n = 0
  · subst h; rw [digs_zero]; rfl
  · rw [digs_pos h]; simp [h]
theorem tell_lim (b : Bool) (n : Nat) : tellZ b (lim n) = zlim (sg b n) := by
  unfold tellZ
  by_cases h : (digs n).length ≤ 8192
  · have e : lim n = (digs n, 0) := by unfold lim; exact if_pos h
    rw [e, zlim_ok (by unfold SmZ; rw [sg_abs]; exact h), zz_sg]
    simp only [ne_eq, not_true_eq_false, if_false, len_pos_digs]
  · rw [lim_big2 h, zlim_no (by unfold SmZ; rw [sg_abs]; exact h)]
    rfl
theorem add_sg_same (b : Bool) (A B : Nat) : sg b A + sg b B = sg b (A + B) := by unfold sg; cases b <;> simp <;> omega
theorem add_sg_diff {p q : Bool} {A B : Nat} (h : p ≠ q) (hl : B ≤ A) : sg p A + sg q B = sg p (A - B) := by
  unfold sg; cases p <;> cases q <;> simp at h ⊢ <;> omega
theorem neg_sg (p : Bool) (A : Nat) : -sg p A = sg (!p) A := by unfold sg; cases p <;> simp
theorem mul_sg (p q : Bool) (A B : Nat) : sg p A * sg q B = sg (xor p q) (A * B) := by
  unfold sg; cases p <;> cases q <;> simp [Int.neg_mul, Int.mul_neg]
theorem sg_zero (p : Bool) : sg p 0 = 0 := by unfold sg; cases p <;> rfl
theorem sg_eq_zero {p : Bool} {A : Nat} : sg p A = 0 ↔ A = 0 := by unfold sg; cases p <;> simp
theorem sg_false (A : Nat) : sg false A = (A : Int) := rfl
theorem pow2_sg (n : Nat) : ((2 : Int) ^ n) = sg false (2 ^ n) := by rw [sg_false]; exact (Int.natCast_pow 2 n).symm
theorem pow2_ne (n : Nat) : (2 : Nat) ^ n ≠ 0 := Nat.pos_iff_ne_zero.mp (Nat.two_pow_pos n)
theorem shl_sg (p : Bool) (A n : Nat) : sg p A * 2 ^ n = sg p (A * 2 ^ n) := by rw [pow2_sg, mul_sg]; simp
theorem sg_neg_of {p : Bool} {A : Nat} (h : p = true → A ≠ 0) : decide (sg p A < 0) = p := by
  rw [sg_neg]; cases p
  · rfl
  · simp [h rfl]
theorem flo_zero (b : Int) : flo 0 b = 0 := by unfold flo; split <;> simp
theorem cei_sg {p q : Bool} {A B : Nat} (hB : B ≠ 0) (hp : p = true → A ≠ 0) : cei (sg p A) (sg q B) = sg (xor p q) (if (xor p q) = false ∧ A % B ≠ 0 then A / B + 1 else A / B) := by
  unfold cei
  by_cases hA : A = 0
  · subst hA; rw [sg_zero]; simp [flo_zero, sg_zero]
  · rw [neg_sg, flo_sg hB fun _ => hA, neg_sg]
    have e : (!(xor (!p) q)) = xor p q := by cases p <;> cases q <;> rfl
    have e2 : (xor (!p) q = true) ↔ (xor p q = false) := by cases p <;> cases q <;> simp
    rw [e]
    simp only [e2]
theorem nea_sg {p q : Bool} {A B : Nat} (hB : B ≠ 0) (hp : p = true → A ≠ 0) : nea (sg p A) (sg q B) = sg (xor p q) (nearN A B) := by
  unfold nea
  rw [sg_neg_of hp, sg_neg_of fun _ => hB, sg_abs, sg_abs]
theorem flo_neg {a b : Int} (hb : b < 0) : flo a b = flo (-a) (-b) := by unfold flo; rw [if_pos hb, if_neg (by omega)]
theorem mo_zero (b : Int) : mo 0 b = 0 := by unfold mo; rw [flo_zero]; simp
/-- The rest has the divisor's sign. -/
theorem mo_sg {p q : Bool} {A B : Nat} (hB : B ≠ 0) (hp : p = true → A ≠ 0) : mo (sg p A) (sg q B) = sg q (if (xor p q) = true ∧ A % B ≠ 0 then B - A % B else A % B) := by
  unfold mo
  rw [flo_sg hB hp, mul_sg]
  have hd := Nat.div_add_mod A B
  have hm := Nat.mod_lt A (show 0 < B by omega)
  have ex : (xor q (xor p q)) = p := by cases p <;> cases q <;> rfl
  rw [ex]
  generalize A % B = r at *
  generalize A / B = Q at *
  have e1 : B * (Q + 1) = B * Q + B := by rw [Nat.mul_add, Nat.mul_one]
  by_cases c : (xor p q) = true ∧ r ≠ 0
  · rw [if_pos c, if_pos c, e1]
    generalize B * Q = T at *
    subst hd
    obtain ⟨c1, c2⟩ := c
    cases p <;> cases q <;> simp at c1 <;> simp only [sg, if_true, Bool.false_eq_true, if_false] <;> omega
  · rw [if_neg c, if_neg c]
    generalize B * Q = T at *
    subst hd
    have c3 : p = q ∨ r = 0 := by
      by_cases hr : r = 0
      · exact Or.inr hr
      · refine Or.inl ?_
        cases p <;> cases q <;> first | rfl | exact absurd ⟨rfl, hr⟩ c
    rcases c3 with rfl | rfl
    · cases p <;> simp only [sg, if_true, Bool.false_eq_true, if_false] <;> omega
    · cases p <;> cases q <;> simp only [sg, if_true, Bool.false_eq_true, if_false] <;> omega
/-! ### bits of a size -/
theorem bit_half {A n : Nat} : (A / 2 ^ n % 2 = 1) ↔ 2 ^ (n + 1) ≤ 2 * (A % 2 ^ (n + 1)) := by
  have h1 : A % 2 ^ (n + 1) = A % 2 ^ n + 2 ^ n * (A / 2 ^ n % 2) := by rw [Nat.pow_succ, Nat.mod_mul]
  have h2 := Nat.mod_lt A (Nat.two_pow_pos n)
  have h3 : 2 ^ (n + 1) = 2 * 2 ^ n := by rw [Nat.pow_succ]; omega
  rcases Nat.mod_two_eq_zero_or_one (A / 2 ^ n) with e | e
  · rw [e] at h1; rw [h1, e, h3]; omega
  · rw [e] at h1; rw [h1, e, h3]; omega
theorem ctz_half {A n : Nat} (hA : A ≠ 0) (h : A / 2 ^ n % 2 = 1) : ctz A = n ↔ 2 * (A % 2 ^ (n + 1)) = 2 ^ (n + 1) := by
  have h1 : A % 2 ^ (n + 1) = A % 2 ^ n + 2 ^ n * (A / 2 ^ n % 2) := by rw [Nat.pow_succ, Nat.mod_mul]
  have h3 : 2 ^ (n + 1) = 2 * 2 ^ n := by rw [Nat.pow_succ]; omega
  rw [h] at h1
  constructor
  · intro e
    obtain ⟨m, hm⟩ := ctz_form hA
    rw [e] at hm
    have : A % 2 ^ n = 0 := by rw [hm]; exact Nat.mul_mod_right _ _
    omega
  · intro e
    exact ctz_of (by omega) h
theorem ctz_some {A n : Nat} (hA : A ≠ 0) : ctz A < n ↔ A % 2 ^ n ≠ 0 := by
  obtain ⟨m, hm⟩ := ctz_form hA
  constructor
  · intro h e
    have hd : 2 ^ n ∣ A := Nat.dvd_of_mod_eq_zero e
    have h2 : 2 ^ (ctz A + 1) ∣ A := Nat.dvd_trans (Nat.pow_dvd_pow 2 (by omega)) hd
    rw [hm] at h2
    have h4 : ctz (2 ^ ctz A * (2 * m + 1)) = ctz A := ctz_pow _ _
    rw [h4] at h2
    rw [Nat.pow_succ] at h2
    have h3 := Nat.dvd_of_mul_dvd_mul_left (Nat.two_pow_pos _) h2
    omega
  · intro h
    rcases Nat.lt_or_ge (ctz A) n with h1 | h1
    · exact h1
    · exfalso; apply h
      rw [hm]
      exact Nat.mod_eq_zero_of_dvd (Nat.dvd_trans (Nat.pow_dvd_pow 2 h1) (Nat.dvd_mul_right _ _))
end Go.Proofs.YtanlcacaihdceaaGreatDoor.G

/- Contracts that the lifted functions of layer 4 use. -/
namespace Go.Proofs.YtanlcacaihdceaaGreatDoor.G
open Go.Gv
set_option linter.unusedVariables false
set_option maxRecDepth 100000
theorem Tab.tame {h h' : Hp} (t : Tab h) (m : Tame h h') : Tab h' := fun i hi => m.cell _ _ rfl (t i hi)
section
variable {a b : Option Addr} {c d l m : Nat} {xs ys : List Nat} {h0 h : Hp} {x y : Int}
theorem natdiv_QuoRem.hv (r : Rd h a c xs) (e : l = xs.length) (s : Rd h b d ys) (f : m = ys.length) : HC natdiv_QuoRem.id #[.slice a l c, .slice b m d] h fun v h' => Keep h h' ∧ AnsQ h h' v (quoS xs ys) := QuoRem_spec r s e f
theorem num_whole.hv (p : Bool) (a : Option Addr) (l c : Nat) (h : Hp) : HC num_whole.id #[.bool p, .slice a l c] h fun v h' => Keep h h' ∧ v = .agg #[.bool (p && decide (0 < l)), .slice a l c] := by
  refine num_whole.ok ?_
  unfold num_whole.t num_whole.D1.t
  refine boxV fun h2 o2 k2 => ?_
  have el : decide (((l : Nat) : Int) > 0) = decide (0 < l) := by by_cases hl : 0 < l <;> simp [hl]
  refine c_bool (fun hp => ?_) fun hp => ?_
  · subst hp
    refine stA o2 (base_add _ _) rfl fun h3 o2 k3 m3 => ?_
    refine stA o2 (base_add _ _) rfl fun h4 o2 k4 m4 => ?_
    refine ldA o2 (base_add _ _) rfl ?_
    refine gBool_intro rfl ?_
    refine ldA o2 (base_add _ _) rfl ?_
    refine gSlice_intro rfl ?_
    exact ⟨KeepB.keep (KeepB.keep k2 k3 (Nat.le_refl _)) k4 (Nat.le_refl _), by rw [el]; rfl⟩
  · subst hp
    refine stA o2 (base_add _ _) rfl fun h3 o2 k3 m3 => ?_
    refine stA o2 (base_add _ _) rfl fun h4 o2 k4 m4 => ?_
    refine ldA o2 (base_add _ _) rfl ?_
    refine gBool_intro rfl ?_
    refine ldA o2 (base_add _ _) rfl ?_
    refine gSlice_intro rfl ?_
    exact ⟨KeepB.keep (KeepB.keep k2 k3 (Nat.le_refl _)) k4 (Nat.le_refl _), rfl⟩
theorem tellZ_no {p : Bool} (h : x ≠ 0) : tellZ p (xs, x) = (nz, x) := by unfold tellZ; rw [if_pos h]
theorem tellZ_ok (p : Bool) (xs : List Nat) : tellZ p (xs, 0) = ((p && decide (0 < xs.length), xs), 0) := by unfold tellZ; simp
theorem num_told.hf {p : Bool} (g : GotE eU64 h0 h a c xs) (e : l = xs.length) (i : In .i64 x) : HC num_told.id #[.bool p, .slice a l c, .int .i64 x] h fun v h' => Keep h h' ∧ s2 sZW (sI .i64) h0 h' v (tellZ p (xs, x)) := by
  subst e
  refine num_told.ok ?_
  unfold num_told.t num_told.D1.t
  refine boxV fun h2 o2 k2 => ?_
  refine c_ne (fun hx => ?_) fun hx => ?_
  · refine stA o2 (base_add _ _) rfl fun h3 o2 k3 m3 => ?_
    refine stA o2 (base_add _ _) rfl fun h4 o2 k4 m4 => ?_
    refine ldA o2 (base_add _ _) rfl ?_
    refine gBool_intro rfl ?_
    refine ldA o2 (base_add _ _) rfl ?_
    refine gSlice_intro rfl ?_
    rw [tellZ_no hx]
    exact ⟨KeepB.keep (KeepB.keep k2 k3 (Nat.le_refl _)) k4 (Nat.le_refl _), _, _, rfl, ⟨_, _, rfl, GotE.nil _ _⟩, rfl, i⟩
  · subst hx
    refine hc_intro (num_whole.hv p a xs.length c h2) fun v h3 ⟨k3, s⟩ => ?_
    subst s
    have o2 := o2.keep k3
    refine gAgg_intro rfl ?_
    refine uncons_intro ?_
    refine gBool_intro rfl ?_
    refine uncons_intro ?_
    refine gSlice_intro rfl ?_
    refine unnil_intro ?_
    refine stA o2 (base_add _ _) rfl fun h4 o2 k4 m4 => ?_
    refine stA o2 (base_add _ _) rfl fun h5 o2 k5 m5 => ?_
    refine ldA o2 (base_add _ _) rfl ?_
    refine gBool_intro rfl ?_
    refine ldA o2 (base_add _ _) rfl ?_
    refine gSlice_intro rfl ?_
    rw [tellZ_ok]
    exact ⟨KeepB.keep (KeepB.keep (k2.trans k3) k4 (Nat.le_refl _)) k5 (Nat.le_refl _), _, _, rfl, ⟨_, _, rfl, g.tame (k2.tame.trans (k3.tame.trans (m4.trans m5)))⟩, rfl, i⟩
/-- Is the size one above the whole part? -/
def moreB (w : Int) (neg odd some : Bool) (half : Int) : Bool := if w = 0 then (neg && some) else if w = 1 then (!neg && some) else (decide (0 < half) || (decide (half = 0) && odd))
theorem num_way_more.hv {p q s : Bool} (h : Hp) : HC num_way_more.id #[.int .i64 x, .bool p, .bool q, .bool s, .int .i64 y] h fun v h' => h' = h ∧ v = .bool (moreB x p q s y) := by
  refine num_way_more.ok ?_
  unfold num_way_more.t num_way_more.D1.t
  refine c_eq (fun e => ?_) fun e => ?_
  · cases p <;> exact ⟨rfl, by simp [moreB, e]⟩
  · refine c_eq (fun e1 => ?_) fun e1 => ?_
    · cases p <;> exact ⟨rfl, by simp [moreB, e1]⟩
    · refine c_dec (fun e2 => ?_) fun e2 => ?_
      · exact ⟨rfl, by have : 0 < y := e2; simp [moreB, e, e1, this]⟩
      · refine c_eq (fun e3 => ?_) fun e3 => ?_
        · exact ⟨rfl, by subst e3; simp [moreB, e, e1]⟩
        · exact ⟨rfl, by have : ¬ 0 < y := e2; simp [moreB, e, e1, e3, this]⟩
def madeZ (w : Int) (neg : Bool) (q : List Nat) (some : Bool) (half : Int) : Zw × Int := tellZ neg (if moreB w neg (bitS (val q) 0 == 1) some half = true then addS q (digs 1) else (q, 0))
theorem num_way_made.hf {p s : Bool} (z0 : h0.size ≤ h.size) (w : In .i64 x) (g : GotE eU64 h0 h a c xs) (e : l = xs.length) (i : In .i64 y) : HC num_way_made.id #[.int .i64 x, .bool p, .slice a l c, .bool s, .int .i64 y] h fun v h' => Keep h h' ∧ s2 sZW (sI .i64) h0 h' v (madeZ x p xs s y) := by
  subst e
  refine num_way_made.ok ?_
  unfold num_way_made.t num_way_made.D1.t
  refine boxV fun h2 o2 k2 => ?_
  refine hc_intro (nat_Bit.hv (g.rd64.keep k2) rfl (by decide)) fun v h4 ⟨k4, e⟩ => ?_
  refine gBool_intro e ?_
  refine hc_intro (num_way_more.hv h4) fun v h7 ⟨e, e1⟩ => ?_
  subst e; subst e1
  refine gBool_intro rfl ?_
  have o2 := o2.keep k4
  have k24 := k2.trans k4
  unfold madeZ
  refine c_not (fun hm => ?_) fun hm => ?_
  · rw [if_neg (by rw [hm]; decide)]
    refine hc_intro (num_told.hf (g.keep k24) rfl (by decide)) fun v h10 ⟨k10, s⟩ => ?_
    obtain ⟨v1, v2, e, ⟨a1, c1, e1, r1⟩, e2, i2⟩ := s
    subst e; subst e1; subst e2
    refine gTup_intro rfl ?_
    refine uncons_intro ?_
    refine gAgg_intro rfl ?_
    refine uncons_intro ?_
    refine gBool_intro rfl ?_
    refine uncons_intro ?_
    refine gSlice_intro rfl ?_
    refine unnil_intro ?_
    refine uncons_intro ?_
    refine gInt_intro rfl ?_
    refine unnil_intro ?_
    have o2 := o2.keep k10
    refine stA o2 (base_add _ _) rfl fun h4 o2 k4 m4 => ?_
    refine stA o2 (base_add _ _) rfl fun h5 o2 k5 m5 => ?_
    refine ldA o2 (base_add _ _) rfl ?_
    refine gBool_intro rfl ?_
    refine ldA o2 (base_add _ _) rfl ?_
    refine gSlice_intro rfl ?_
    exact ⟨KeepB.keep (KeepB.keep (k24.trans k10) k4 (Nat.le_refl _)) k5 (Nat.le_refl _), _, _, rfl, ⟨_, _, rfl, r1.tame (m4.trans m5)⟩, rfl, i2⟩
  · rw [if_pos hm]
    refine hc_intro (nat_Word.hv (x := 1) (by decide)) fun v h27 ⟨k27, a28, c28, e, r28⟩ => ?_
    subst e
    refine gSlice_intro rfl ?_
    have k227 := k24.trans k27
    refine hc_intro (nat_Add.hv (g.rd64.keep k227) rfl r28.rd64 rfl) fun v h30 ⟨k30, an⟩ => ?_
    have e1 : (1 : Int).toNat = 1 := rfl
    rw [e1] at an
    refine an.elimG fun a1 c1 r1 i1 => ?_
    have k230 := k227.trans k30
    refine hc_intro (num_told.hf (r1.from (Nat.le_trans z0 k227.le)) rfl i1) fun v h10 ⟨k10, s⟩ => ?_
    obtain ⟨v1, v2, e, ⟨a1, c1, e1, r1⟩, e2, i2⟩ := s
    subst e; subst e1; subst e2
    refine gTup_intro rfl ?_
    refine uncons_intro ?_
    refine gAgg_intro rfl ?_
    refine uncons_intro ?_
    refine gBool_intro rfl ?_
    refine uncons_intro ?_
    refine gSlice_intro rfl ?_
    refine unnil_intro ?_
    refine uncons_intro ?_
    refine gInt_intro rfl ?_
    refine unnil_intro ?_
    have o2 := (o2.keep (k27.trans k30)).keep k10
    refine stA o2 (base_add _ _) rfl fun h4 o2 k4 m4 => ?_
    refine stA o2 (base_add _ _) rfl fun h5 o2 k5 m5 => ?_
    refine ldA o2 (base_add _ _) rfl ?_
    refine gBool_intro rfl ?_
    refine ldA o2 (base_add _ _) rfl ?_
    refine gSlice_intro rfl ?_
    exact ⟨KeepB.keep (KeepB.keep (k230.trans k10) k4 (Nat.le_refl _)) k5 (Nat.le_refl _), _, _, rfl, ⟨_, _, rfl, r1.tame (m4.trans m5)⟩, rfl, i2⟩
end
end Go.Proofs.YtanlcacaihdceaaGreatDoor.G

/- Functions without loops as functions of values. Written by a program of this work. -/
namespace Go.Proofs.YtanlcacaihdceaaGreatDoor.G
open Go.Gv
set_option linter.unusedVariables false
set_option maxRecDepth 100000
namespace num_Of
def D1.v (x0 : Int) : (Bool × List Nat) :=
  bif (decide (x0 < (0 : Int))) then
    letV (digs (Int.toNat ((IntKind.u64.wrap (0 - (IntKind.u64.wrap x0)))))) fun p_3 =>
    ((true && decide (0 < p_3.length)), p_3)
  else
    letV (digs (Int.toNat (IntKind.u64.wrap x0))) fun p_4 =>
    ((false && decide (0 < p_4.length)), p_4)
theorem D1.hv {R : Rt} {h0 h : Hp} (k0 : Keep h0 h) {x0 : Int} (i0 : In .i64 x0) (g : Post sZW h0 R (D1.v x0)) : D1.t R x0 h := by
  have kh := Keep.refl h
  unfold D1.v at g
  unfold D1.t
  refine boxV fun h_1 bx_1 k_1 => ?_
  have o_1 : h0.size ≤ h.size := k0.le
  have oh_1 : h.size ≤ h.size := kh.le
  have lt_1 := bx_1.lt
  have m_1 := k_1.tame
  have k0 := k0.trans k_1
  have kh := kh.trans k_1
  refine lift_dec g (fun q_2 g => ?_) (fun q_2 g => ?_)
  · refine letK_out ?_
    refine letK_out ?_
    refine hc_intro (nat_Word.hv (in_wrap _ _)) fun v h_2 ⟨k_2, s⟩ => ?_
    obtain ⟨p_3, hp_3⟩ : ∃ p, p = digs (Int.toNat ((IntKind.u64.wrap (0 - (IntKind.u64.wrap x0))))) := ⟨_, rfl⟩
    rw [← hp_3] at s
    replace g := lift_let2 hp_3 g
    obtain ⟨a_3, c_3, rfl, r_3⟩ := s
    refine gSlice_intro rfl (?_)
    have r_3 := r_3.from k0.le
    have m_2 := k_2.tame
    have bx_1 := bx_1.keep k_2
    have k0 := k0.trans k_2
    have kh := kh.trans k_2
    refine hc_intro (num_whole.hv _ _ _ _ _) fun v h_3 ⟨k_3, s⟩ => ?_
    subst s
    refine gAgg_intro rfl (uncons_intro (gBool_intro rfl (uncons_intro (gSlice_intro rfl (unnil_intro (?_))))))
    have m_3 := k_3.tame
    have bx_1 := bx_1.keep k_3
    have k0 := k0.trans k_3
    have kh := kh.trans k_3
    refine stA bx_1 (base_add _ _) rfl fun h_4 bx_1 k_4 m_4 => ?_
    have k0 := KeepB.keep k0 k_4 o_1
    have kh := KeepB.keep kh k_4 oh_1
    refine stA bx_1 (base_add _ _) rfl fun h_5 bx_1 k_5 m_5 => ?_
    have k0 := KeepB.keep k0 k_5 o_1
    have kh := KeepB.keep kh k_5 oh_1
    refine ldA bx_1 (base_add _ _) rfl ?_
    refine gBool_intro rfl ?_
    refine ldA bx_1 (base_add _ _) rfl ?_
    refine gSlice_intro rfl ?_
    exact g _ _ k0 ⟨_, _, rfl, (r_3.tame (m_3.trans (m_4.trans m_5)))⟩
  · refine letK_out ?_
    refine hc_intro (nat_Word.hv (in_wrap _ _)) fun v h_2 ⟨k_2, s⟩ => ?_
    obtain ⟨p_4, hp_4⟩ : ∃ p, p = digs (Int.toNat (IntKind.u64.wrap x0)) := ⟨_, rfl⟩
    rw [← hp_4] at s
    replace g := lift_let2 hp_4 g
    obtain ⟨a_4, c_4, rfl, r_4⟩ := s
    refine gSlice_intro rfl (?_)
    have r_4 := r_4.from k0.le
    have m_2 := k_2.tame
    have bx_1 := bx_1.keep k_2
    have k0 := k0.trans k_2
    have kh := kh.trans k_2
    refine hc_intro (num_whole.hv _ _ _ _ _) fun v h_3 ⟨k_3, s⟩ => ?_
    subst s
    refine gAgg_intro rfl (uncons_intro (gBool_intro rfl (uncons_intro (gSlice_intro rfl (unnil_intro (?_))))))
    have m_3 := k_3.tame
    have bx_1 := bx_1.keep k_3
    have k0 := k0.trans k_3
    have kh := kh.trans k_3
    refine stA bx_1 (base_add _ _) rfl fun h_4 bx_1 k_4 m_4 => ?_
    have k0 := KeepB.keep k0 k_4 o_1
    have kh := KeepB.keep kh k_4 oh_1
    refine stA bx_1 (base_add _ _) rfl fun h_5 bx_1 k_5 m_5 => ?_
    have k0 := KeepB.keep k0 k_5 o_1
    have kh := KeepB.keep kh k_5 oh_1
    refine ldA bx_1 (base_add _ _) rfl ?_
    refine gBool_intro rfl ?_
    refine ldA bx_1 (base_add _ _) rfl ?_
    refine gSlice_intro rfl ?_
    exact g _ _ k0 ⟨_, _, rfl, (r_4.tame (m_3.trans (m_4.trans m_5)))⟩
def v (x0 : Int) : (Bool × List Nat) := D1.v x0
theorem hv {h : Hp} {x0 : Int} (i0 : In .i64 x0) : HC id #[.int .i64 x0] h fun v_ h_ => Keep h h_ ∧ sZW h h_ v_ (v x0) :=
  ok (D1.hv (Keep.refl _) i0 fun v h' k s => ⟨k, s⟩)
end num_Of

namespace num_Form
def D1.v (b0_0 : Bool) (xs0_1 : List Nat) : Bool :=
  bif (decide (Frm xs0_1)) then
    bif b0_0 then
      (!((((xs0_1.length : Nat) : Int)) == (0 : Int)))
    else
      (!false)
  else
    false
theorem D1.hv {R : Rt} {h0 h : Hp} (k0 : Keep h0 h) {b0_0 : Bool} {a0_1 : Option Addr} {c0_1 l0_1 : Nat} {xs0_1 : List Nat} (r0_1 : Rd h a0_1 c0_1 xs0_1) (e0_1 : l0_1 = xs0_1.length) (g : Post sBool h0 R (D1.v b0_0 xs0_1)) : D1.t R b0_0 a0_1 l0_1 c0_1 h := by
  subst e0_1
  have kh := Keep.refl h
  unfold D1.v at g
  unfold D1.t
  refine boxV fun h_1 bx_1 k_1 => ?_
  have o_1 : h0.size ≤ h.size := k0.le
  have oh_1 : h.size ≤ h.size := kh.le
  have lt_1 := bx_1.lt
  have m_1 := k_1.tame
  have k0 := k0.trans k_1
  have kh := kh.trans k_1
  refine ldA bx_1 (base_add _ _) rfl ?_
  refine gSlice_intro rfl ?_
  refine hc_intro (nat_Form.hv (r0_1.tame (m_1)) rfl) fun v h_2 ⟨k_2, s⟩ => ?_
  obtain rfl := s
  refine gBool_intro rfl (?_)
  have m_2 := k_2.tame
  have bx_1 := bx_1.keep k_2
  have k0 := k0.trans k_2
  have kh := kh.trans k_2
  refine lift_dec g (fun q_3 g => ?_) (fun q_3 g => ?_)
  · refine ldA bx_1 (base_add _ _) rfl ?_
    refine gBool_intro rfl ?_
    refine lift_bool g (fun q_4 g => ?_) (fun q_4 g => ?_)
    · refine ldA bx_1 (base_add _ _) rfl ?_
      refine gSlice_intro rfl ?_
      exact g _ _ k0 rfl
    · exact g _ _ k0 rfl
  · exact g _ _ k0 rfl
def v (b0_0 : Bool) (xs0_1 : List Nat) : Bool := D1.v b0_0 xs0_1
theorem hv {h : Hp} {b0_0 : Bool} {a0_1 : Option Addr} {c0_1 l0_1 : Nat} {xs0_1 : List Nat} (r0_1 : Rd h a0_1 c0_1 xs0_1) (e0_1 : l0_1 = xs0_1.length) : HC id #[.agg #[.bool b0_0, .slice a0_1 l0_1 c0_1]] h fun v_ h_ => Keep h h_ ∧ sBool h h_ v_ (v b0_0 xs0_1) :=
  ok (D1.hv (Keep.refl _) r0_1 e0_1 fun v h' k s => ⟨k, s⟩)
end num_Form








namespace num_way_shr
def D3.v (x0 : Int) (b4_0 : Bool) (xs4_1 : List Nat) (b6_0 : Bool) (xs6_1 : List Nat) (xs8 : List Nat) (b10 : Bool) (x11 : Int) : ((Bool × List Nat) × Int) :=
  letV (madeZ x0 b4_0 xs8 b10 x11) fun p_14 =>
  ((p_14.1.1, p_14.1.2), p_14.2)
theorem D3.hv {R : Rt} {h0 h : Hp} (k0 : Keep h0 h) {x0 : Int} (i0 : In .i64 x0) {b4_0 : Bool} {a4_1 : Option Addr} {c4_1 : Nat} {xs4_1 : List Nat} (r4_1 : Rd h a4_1 c4_1 xs4_1) {B4 : Nat} (bx4 : BlkV h B4 [.bool b4_0, .slice a4_1 xs4_1.length c4_1]) (o4 : h0.size ≤ B4) {b6_0 : Bool} {a6_1 : Option Addr} {c6_1 : Nat} {xs6_1 : List Nat} (r6_1 : GotE eU64 h0 h a6_1 c6_1 xs6_1) {B6 : Nat} (bx6 : BlkV h B6 [.bool b6_0, .slice a6_1 xs6_1.length c6_1]) (o6 : h0.size ≤ B6) {a8 : Option Addr} {c8 l8 : Nat} {xs8 : List Nat} (r8 : GotE eU64 h0 h a8 c8 xs8) (e8 : l8 = xs8.length) {b10 : Bool} {x11 : Int} (i11 : In .i64 x11) (d4q6 : B4 ≠ B6) (tb : Tab h) (g : Post (s2 sZW (sI .i64)) h0 R (D3.v x0 b4_0 xs4_1 b6_0 xs6_1 xs8 b10 x11)) : D3.t R x0 (⟨B4, 0, none⟩ : Addr) (⟨B6, 0, none⟩ : Addr) a8 l8 c8 b10 x11 h := by
  subst e8
  have kh := Keep.refl h
  have lt4 := bx4.lt
  have lt6 := bx6.lt
  unfold D3.v at g
  unfold D3.t
  refine ldA bx4 (base_add _ _) rfl ?_
  refine gBool_intro rfl ?_
  refine hc_intro (num_way_made.hf k0.le i0 r8 rfl i11) fun v h_1 ⟨k_1, s⟩ => ?_
  obtain ⟨p_14, hp_14⟩ : ∃ p, p = madeZ x0 b4_0 xs8 b10 x11 := ⟨_, rfl⟩
  rw [← hp_14] at s
  replace g := lift_let2 hp_14 g
  obtain ⟨_, _, rfl, ⟨a_14_0, c_14_0, rfl, r_14_0⟩, ⟨rfl, i_14_1⟩⟩ := s
  refine gTup_intro rfl (uncons_intro (gAgg_intro rfl (uncons_intro (gBool_intro rfl (uncons_intro (gSlice_intro rfl (unnil_intro (uncons_intro (gInt_intro rfl (unnil_intro (?_)))))))))))
  have m_1 := k_1.tame
  have bx4 := bx4.keep k_1
  have bx6 := bx6.keep k_1
  have k0 := k0.trans k_1
  have kh := kh.trans k_1
  refine stA bx6 (base_add _ _) rfl fun h_2 bx6 k_2 m_2 => ?_
  have bx4 := bx4.keepB d4q6 k_2
  have k0 := KeepB.keep k0 k_2 o6
  refine stA bx6 (base_add _ _) rfl fun h_3 bx6 k_3 m_3 => ?_
  have bx4 := bx4.keepB d4q6 k_3
  have k0 := KeepB.keep k0 k_3 o6
  refine ldA bx6 (base_add _ _) rfl ?_
  refine gBool_intro rfl ?_
  refine ldA bx6 (base_add _ _) rfl ?_
  refine gSlice_intro rfl ?_
  exact g _ _ k0 ⟨_, _, rfl, ⟨_, _, rfl, (r_14_0.tame (m_2.trans m_3))⟩, ⟨rfl, i_14_1⟩⟩
def D2.v (x0 : Int) (x2 : Int) (b4_0 : Bool) (xs4_1 : List Nat) (b6_0 : Bool) (xs6_1 : List Nat) (xs8 : List Nat) (b10 : Bool) : ((Bool × List Nat) × Int) :=
  bif (bitS (val xs4_1) ((IntKind.i64.wrap (x2 - (1 : Int)))) == 1) then
    bif (((((ctz (val xs4_1) : Nat) : Int))) == ((IntKind.i64.wrap (x2 - (1 : Int))))) then
      D3.v x0 b4_0 xs4_1 b6_0 xs6_1 xs8 b10 (0 : Int)
    else
      D3.v x0 b4_0 xs4_1 b6_0 xs6_1 xs8 b10 (1 : Int)
  else
    D3.v x0 b4_0 xs4_1 b6_0 xs6_1 xs8 b10 (-1 : Int)
theorem D2.hv {R : Rt} {h0 h : Hp} (k0 : Keep h0 h) {x0 : Int} (i0 : In .i64 x0) {x2 : Int} (i2 : In .i64 x2) {b4_0 : Bool} {a4_1 : Option Addr} {c4_1 : Nat} {xs4_1 : List Nat} (r4_1 : Rd h a4_1 c4_1 xs4_1) {B4 : Nat} (bx4 : BlkV h B4 [.bool b4_0, .slice a4_1 xs4_1.length c4_1]) (o4 : h0.size ≤ B4) {b6_0 : Bool} {a6_1 : Option Addr} {c6_1 : Nat} {xs6_1 : List Nat} (r6_1 : GotE eU64 h0 h a6_1 c6_1 xs6_1) {B6 : Nat} (bx6 : BlkV h B6 [.bool b6_0, .slice a6_1 xs6_1.length c6_1]) (o6 : h0.size ≤ B6) {a8 : Option Addr} {c8 l8 : Nat} {xs8 : List Nat} (r8 : GotE eU64 h0 h a8 c8 xs8) (e8 : l8 = xs8.length) {b10 : Bool} (d4q6 : B4 ≠ B6) (tb : Tab h) (g : Post (s2 sZW (sI .i64)) h0 R (D2.v x0 x2 b4_0 xs4_1 b6_0 xs6_1 xs8 b10)) : D2.t R x0 x2 (⟨B4, 0, none⟩ : Addr) (⟨B6, 0, none⟩ : Addr) a8 l8 c8 b10 h := by
  subst e8
  have kh := Keep.refl h
  have lt4 := bx4.lt
  have lt6 := bx6.lt
  unfold D2.v at g
  unfold D2.t
  refine ldA bx4 (base_add _ _) rfl ?_
  refine gSlice_intro rfl ?_
  refine letK_out ?_
  refine hc_intro (nat_Bit.hv r4_1 rfl (in_wrap _ _)) fun v h_1 ⟨k_1, s⟩ => ?_
  obtain rfl := s
  refine gBool_intro rfl (?_)
  have m_1 := k_1.tame
  have bx4 := bx4.keep k_1
  have bx6 := bx6.keep k_1
  have k0 := k0.trans k_1
  have kh := kh.trans k_1
  refine lift_bool g (fun q_11 g => ?_) (fun q_11 g => ?_)
  · refine ldA bx4 (base_add _ _) rfl ?_
    refine gSlice_intro rfl ?_
    refine hc_intro (nat_Trail.hv (r4_1.tame (m_1)) rfl (tb.tame (m_1))) fun v h_2 ⟨k_2, s⟩ => ?_
    obtain ⟨rfl, i_12⟩ := s
    refine gInt_intro rfl (?_)
    have m_2 := k_2.tame
    have bx4 := bx4.keep k_2
    have bx6 := bx6.keep k_2
    have k0 := k0.trans k_2
    have kh := kh.trans k_2
    refine letK_out ?_
    refine lift_eq g (fun q_13 g => ?_) (fun q_13 g => ?_)
    · exact D3.hv k0 i0 (r4_1.tame (m_1.trans m_2)) bx4 o4 (r6_1.tame (m_1.trans m_2)) bx6 o6 (r8.tame (m_1.trans m_2)) rfl (show In .i64 (0 : Int) by decide) d4q6 (tb.tame (m_1.trans m_2)) g
    · exact D3.hv k0 i0 (r4_1.tame (m_1.trans m_2)) bx4 o4 (r6_1.tame (m_1.trans m_2)) bx6 o6 (r8.tame (m_1.trans m_2)) rfl (show In .i64 (1 : Int) by decide) d4q6 (tb.tame (m_1.trans m_2)) g
  · exact D3.hv k0 i0 (r4_1.tame (m_1)) bx4 o4 (r6_1.tame (m_1)) bx6 o6 (r8.tame (m_1)) rfl (show In .i64 (-1 : Int) by decide) d4q6 (tb.tame (m_1)) g
def D1.v (x0 : Int) (b1_0 : Bool) (xs1_1 : List Nat) (x2 : Int) : ((Bool × List Nat) × Int) :=
  bif (decide (x2 < (0 : Int))) then
    ((false, ([] : List Nat)), (1 : Int))
  else
    letV (num_Form.v b1_0 xs1_1) fun p_4 =>
    bif (!p_4) then
      ((false, ([] : List Nat)), (2 : Int))
    else
      letV (shrS xs1_1 x2) fun p_6 =>
      bif (p_6.2 != (0 : Int)) then
        ((false, ([] : List Nat)), p_6.2)
      else
        bif (decide ((((xs1_1.length : Nat) : Int)) > (0 : Int))) then
          D2.v x0 x2 b1_0 xs1_1 false ([] : List Nat) p_6.1 ((decide (((((ctz (val xs1_1) : Nat) : Int))) < x2)))
        else
          D2.v x0 x2 b1_0 xs1_1 false ([] : List Nat) p_6.1 false
theorem D1.hv {R : Rt} {h0 h : Hp} (k0 : Keep h0 h) {x0 : Int} (i0 : In .i64 x0) {b1_0 : Bool} {a1_1 : Option Addr} {c1_1 l1_1 : Nat} {xs1_1 : List Nat} (r1_1 : Rd h a1_1 c1_1 xs1_1) (e1_1 : l1_1 = xs1_1.length) {x2 : Int} (i2 : In .i64 x2) (tb : Tab h) (g : Post (s2 sZW (sI .i64)) h0 R (D1.v x0 b1_0 xs1_1 x2)) : D1.t R x0 b1_0 a1_1 l1_1 c1_1 x2 h := by
  subst e1_1
  have kh := Keep.refl h
  unfold D1.v at g
  unfold D1.t
  refine boxV fun h_1 bx_1 k_1 => ?_
  have o_1 : h0.size ≤ h.size := k0.le
  have oh_1 : h.size ≤ h.size := kh.le
  have lt_1 := bx_1.lt
  have m_1 := k_1.tame
  have k0 := k0.trans k_1
  have kh := kh.trans k_1
  refine boxV fun h_2 bx_2 k_2 => ?_
  have d_1q_2 : h.size ≠ h_1.size := Nat.ne_of_lt bx_1.lt
  have o_2 : h0.size ≤ h_1.size := k0.le
  have oh_2 : h.size ≤ h_1.size := kh.le
  have lt_2 := bx_2.lt
  have m_2 := k_2.tame
  have bx_1 := bx_1.keep k_2
  have k0 := k0.trans k_2
  have kh := kh.trans k_2
  refine lift_dec g (fun q_3 g => ?_) (fun q_3 g => ?_)
  · refine stA bx_2 (base_add _ _) rfl fun h_3 bx_2 k_3 m_3 => ?_
    have bx_1 := bx_1.keepB d_1q_2 k_3
    have k0 := KeepB.keep k0 k_3 o_2
    have kh := KeepB.keep kh k_3 oh_2
    refine stA bx_2 (base_add _ _) rfl fun h_4 bx_2 k_4 m_4 => ?_
    have bx_1 := bx_1.keepB d_1q_2 k_4
    have k0 := KeepB.keep k0 k_4 o_2
    have kh := KeepB.keep kh k_4 oh_2
    refine ldA bx_2 (base_add _ _) rfl ?_
    refine gBool_intro rfl ?_
    refine ldA bx_2 (base_add _ _) rfl ?_
    refine gSlice_intro rfl ?_
    exact g _ _ k0 ⟨_, _, rfl, ⟨_, _, rfl, (GotE.nil _ _)⟩, ⟨rfl, (show In .i64 (1 : Int) by decide)⟩⟩
  · refine ldA bx_1 (base_add _ _) rfl ?_
    refine gBool_intro rfl ?_
    refine ldA bx_1 (base_add _ _) rfl ?_
    refine gSlice_intro rfl ?_
    refine hc_intro (num_Form.hv (r1_1.tame (m_1.trans m_2)) rfl) fun v h_3 ⟨k_3, s⟩ => ?_
    obtain ⟨p_4, hp_4⟩ : ∃ p, p = num_Form.v b1_0 xs1_1 := ⟨_, rfl⟩
    rw [← hp_4] at s
    replace g := lift_let2 hp_4 g
    obtain rfl := s
    refine gBool_intro rfl (?_)
    have m_3 := k_3.tame
    have bx_1 := bx_1.keep k_3
    have bx_2 := bx_2.keep k_3
    have k0 := k0.trans k_3
    have kh := kh.trans k_3
    refine lift_not g (fun q_5 g => ?_) (fun q_5 g => ?_)
    · refine stA bx_2 (base_add _ _) rfl fun h_4 bx_2 k_4 m_4 => ?_
      have bx_1 := bx_1.keepB d_1q_2 k_4
      have k0 := KeepB.keep k0 k_4 o_2
      have kh := KeepB.keep kh k_4 oh_2
      refine stA bx_2 (base_add _ _) rfl fun h_5 bx_2 k_5 m_5 => ?_
      have bx_1 := bx_1.keepB d_1q_2 k_5
      have k0 := KeepB.keep k0 k_5 o_2
      have kh := KeepB.keep kh k_5 oh_2
      refine ldA bx_2 (base_add _ _) rfl ?_
      refine gBool_intro rfl ?_
      refine ldA bx_2 (base_add _ _) rfl ?_
      refine gSlice_intro rfl ?_
      exact g _ _ k0 ⟨_, _, rfl, ⟨_, _, rfl, (GotE.nil _ _)⟩, ⟨rfl, (show In .i64 (2 : Int) by decide)⟩⟩
    · refine ldA bx_1 (base_add _ _) rfl ?_
      refine gSlice_intro rfl ?_
      refine hc_intro (nat_Shr.hv (r1_1.tame (m_1.trans (m_2.trans m_3))) rfl i2) fun v h_4 ⟨k_4, s⟩ => ?_
      obtain ⟨p_6, hp_6⟩ : ∃ p, p = shrS xs1_1 x2 := ⟨_, rfl⟩
      rw [← hp_6] at s
      replace g := lift_let2 hp_6 g
      obtain ⟨_, _, rfl, ⟨a_6_0, c_6_0, rfl, r_6_0⟩, ⟨rfl, i_6_1⟩⟩ := s
      refine gTup_intro rfl (uncons_intro (gSlice_intro rfl (uncons_intro (gInt_intro rfl (unnil_intro (?_))))))
      have r_6_0 := r_6_0.from k0.le
      have m_4 := k_4.tame
      have bx_1 := bx_1.keep k_4
      have bx_2 := bx_2.keep k_4
      have k0 := k0.trans k_4
      have kh := kh.trans k_4
      refine lift_ne g (fun q_7 g => ?_) (fun q_7 g => ?_)
      · refine stA bx_2 (base_add _ _) rfl fun h_5 bx_2 k_5 m_5 => ?_
        have bx_1 := bx_1.keepB d_1q_2 k_5
        have k0 := KeepB.keep k0 k_5 o_2
        have kh := KeepB.keep kh k_5 oh_2
        refine stA bx_2 (base_add _ _) rfl fun h_6 bx_2 k_6 m_6 => ?_
        have bx_1 := bx_1.keepB d_1q_2 k_6
        have k0 := KeepB.keep k0 k_6 o_2
        have kh := KeepB.keep kh k_6 oh_2
        refine ldA bx_2 (base_add _ _) rfl ?_
        refine gBool_intro rfl ?_
        refine ldA bx_2 (base_add _ _) rfl ?_
        refine gSlice_intro rfl ?_
        exact g _ _ k0 ⟨_, _, rfl, ⟨_, _, rfl, (GotE.nil _ _)⟩, ⟨rfl, i_6_1⟩⟩
      · refine ldA bx_1 (base_add _ _) rfl ?_
        refine gSlice_intro rfl ?_
        refine lift_dec g (fun q_8 g => ?_) (fun q_8 g => ?_)
        · refine ldA bx_1 (base_add _ _) rfl ?_
          refine gSlice_intro rfl ?_
          refine hc_intro (nat_Trail.hv (r1_1.tame (m_1.trans (m_2.trans (m_3.trans m_4)))) rfl (tb.tame (m_1.trans (m_2.trans (m_3.trans m_4))))) fun v h_5 ⟨k_5, s⟩ => ?_
          obtain ⟨rfl, i_9⟩ := s
          refine gInt_intro rfl (?_)
          have m_5 := k_5.tame
          have bx_1 := bx_1.keep k_5
          have bx_2 := bx_2.keep k_5
          have k0 := k0.trans k_5
          have kh := kh.trans k_5
          exact D2.hv k0 i0 i2 (r1_1.tame (m_1.trans (m_2.trans (m_3.trans (m_4.trans m_5))))) bx_1 o_1 (GotE.nil _ _) bx_2 o_2 (r_6_0.tame (m_5)) rfl d_1q_2 (tb.tame (m_1.trans (m_2.trans (m_3.trans (m_4.trans m_5))))) g
        · exact D2.hv k0 i0 i2 (r1_1.tame (m_1.trans (m_2.trans (m_3.trans m_4)))) bx_1 o_1 (GotE.nil _ _) bx_2 o_2 r_6_0 rfl d_1q_2 (tb.tame (m_1.trans (m_2.trans (m_3.trans m_4)))) g
def v (x0 : Int) (b1_0 : Bool) (xs1_1 : List Nat) (x2 : Int) : ((Bool × List Nat) × Int) := D1.v x0 b1_0 xs1_1 x2
theorem hv {h : Hp} {x0 : Int} (i0 : In .i64 x0) {b1_0 : Bool} {a1_1 : Option Addr} {c1_1 l1_1 : Nat} {xs1_1 : List Nat} (r1_1 : Rd h a1_1 c1_1 xs1_1) (e1_1 : l1_1 = xs1_1.length) {x2 : Int} (i2 : In .i64 x2) (tb : Tab h) : HC id #[.int .i64 x0, .agg #[.bool b1_0, .slice a1_1 l1_1 c1_1], .int .i64 x2] h fun v_ h_ => Keep h h_ ∧ (s2 sZW (sI .i64)) h h_ v_ (v x0 b1_0 xs1_1 x2) :=
  ok (D1.hv (Keep.refl _) i0 r1_1 e1_1 i2 tb fun v h' k s => ⟨k, s⟩)
end num_way_shr

namespace num_way_div
def D2.v (x0 : Int) (b4_0 : Bool) (xs4_1 : List Nat) (b5_0 : Bool) (xs5_1 : List Nat) (b6_0 : Bool) (xs6_1 : List Nat) : ((Bool × List Nat) × Int) :=
  bif ((((xs5_1.length : Nat) : Int)) == (0 : Int)) then
    ((false, ([] : List Nat)), (4 : Int))
  else
    letV (quoS xs4_1 xs5_1) fun p_9 =>
    bif (p_9.2.2 != (0 : Int)) then
      ((false, ([] : List Nat)), p_9.2.2)
    else
      letV (subS xs5_1 p_9.2.1) fun p_11 =>
      bif (p_11.2 != (0 : Int)) then
        ((false, ([] : List Nat)), p_11.2)
      else
        letV (madeZ x0 ((!(b4_0 == b5_0))) p_9.1 ((decide ((((p_9.2.1.length : Nat) : Int)) > (0 : Int)))) ((cmpI (val p_9.2.1) (val p_11.1)))) fun p_14 =>
        ((p_14.1.1, p_14.1.2), p_14.2)
theorem D2.hv {R : Rt} {h0 h : Hp} (k0 : Keep h0 h) {x0 : Int} (i0 : In .i64 x0) {b4_0 : Bool} {a4_1 : Option Addr} {c4_1 : Nat} {xs4_1 : List Nat} (r4_1 : Rd h a4_1 c4_1 xs4_1) {B4 : Nat} (bx4 : BlkV h B4 [.bool b4_0, .slice a4_1 xs4_1.length c4_1]) (o4 : h0.size ≤ B4) {b5_0 : Bool} {a5_1 : Option Addr} {c5_1 : Nat} {xs5_1 : List Nat} (r5_1 : Rd h a5_1 c5_1 xs5_1) {B5 : Nat} (bx5 : BlkV h B5 [.bool b5_0, .slice a5_1 xs5_1.length c5_1]) (o5 : h0.size ≤ B5) {b6_0 : Bool} {a6_1 : Option Addr} {c6_1 : Nat} {xs6_1 : List Nat} (r6_1 : GotE eU64 h0 h a6_1 c6_1 xs6_1) {B6 : Nat} (bx6 : BlkV h B6 [.bool b6_0, .slice a6_1 xs6_1.length c6_1]) (o6 : h0.size ≤ B6) (d4q5 : B4 ≠ B5) (d4q6 : B4 ≠ B6) (d5q6 : B5 ≠ B6) (g : Post (s2 sZW (sI .i64)) h0 R (D2.v x0 b4_0 xs4_1 b5_0 xs5_1 b6_0 xs6_1)) : D2.t R x0 (⟨B4, 0, none⟩ : Addr) (⟨B5, 0, none⟩ : Addr) (⟨B6, 0, none⟩ : Addr) h := by
  have kh := Keep.refl h
  have lt4 := bx4.lt
  have lt5 := bx5.lt
  have lt6 := bx6.lt
  unfold D2.v at g
  unfold D2.t
  refine ldA bx5 (base_add _ _) rfl ?_
  refine gSlice_intro rfl ?_
  refine lift_eq g (fun q_8 g => ?_) (fun q_8 g => ?_)
  · refine stA bx6 (base_add _ _) rfl fun h_1 bx6 k_1 m_1 => ?_
    have bx4 := bx4.keepB d4q6 k_1
    have bx5 := bx5.keepB d5q6 k_1
    have k0 := KeepB.keep k0 k_1 o6
    refine stA bx6 (base_add _ _) rfl fun h_2 bx6 k_2 m_2 => ?_
    have bx4 := bx4.keepB d4q6 k_2
    have bx5 := bx5.keepB d5q6 k_2
    have k0 := KeepB.keep k0 k_2 o6
    refine ldA bx6 (base_add _ _) rfl ?_
    refine gBool_intro rfl ?_
    refine ldA bx6 (base_add _ _) rfl ?_
    refine gSlice_intro rfl ?_
    exact g _ _ k0 ⟨_, _, rfl, ⟨_, _, rfl, (GotE.nil _ _)⟩, ⟨rfl, (show In .i64 (4 : Int) by decide)⟩⟩
  · refine ldA bx4 (base_add _ _) rfl ?_
    refine gSlice_intro rfl ?_
    refine ldA bx5 (base_add _ _) rfl ?_
    refine gSlice_intro rfl ?_
    refine hc_intro (natdiv_QuoRem.hv r4_1 rfl r5_1 rfl) fun v h_1 ⟨k_1, s⟩ => ?_
    obtain ⟨p_9, hp_9⟩ : ∃ p, p = quoS xs4_1 xs5_1 := ⟨_, rfl⟩
    rw [← hp_9] at s
    replace g := lift_let2 hp_9 g
    obtain ⟨_, _, _, rfl, ⟨a_9_0, c_9_0, rfl, r_9_0⟩, ⟨a_9_1, c_9_1, rfl, r_9_1⟩, ⟨rfl, i_9_2⟩⟩ := s
    refine gTup_intro rfl (uncons_intro (gSlice_intro rfl (uncons_intro (gSlice_intro rfl (uncons_intro (gInt_intro rfl (unnil_intro (?_))))))))
    have r_9_0 := r_9_0.from k0.le
    have r_9_1 := r_9_1.from k0.le
    have m_1 := k_1.tame
    have bx4 := bx4.keep k_1
    have bx5 := bx5.keep k_1
    have bx6 := bx6.keep k_1
    have k0 := k0.trans k_1
    have kh := kh.trans k_1
    refine lift_ne g (fun q_10 g => ?_) (fun q_10 g => ?_)
    · refine stA bx6 (base_add _ _) rfl fun h_2 bx6 k_2 m_2 => ?_
      have bx4 := bx4.keepB d4q6 k_2
      have bx5 := bx5.keepB d5q6 k_2
      have k0 := KeepB.keep k0 k_2 o6
      refine stA bx6 (base_add _ _) rfl fun h_3 bx6 k_3 m_3 => ?_
      have bx4 := bx4.keepB d4q6 k_3
      have bx5 := bx5.keepB d5q6 k_3
      have k0 := KeepB.keep k0 k_3 o6
      refine ldA bx6 (base_add _ _) rfl ?_
      refine gBool_intro rfl ?_
      refine ldA bx6 (base_add _ _) rfl ?_
      refine gSlice_intro rfl ?_
      exact g _ _ k0 ⟨_, _, rfl, ⟨_, _, rfl, (GotE.nil _ _)⟩, ⟨rfl, i_9_2⟩⟩
    · refine ldA bx5 (base_add _ _) rfl ?_
      refine gSlice_intro rfl ?_
      refine hc_intro (nat_Sub.hv (r5_1.tame (m_1)) rfl r_9_1.rd64 rfl) fun v h_2 ⟨k_2, s⟩ => ?_
      obtain ⟨p_11, hp_11⟩ : ∃ p, p = subS xs5_1 p_9.2.1 := ⟨_, rfl⟩
      rw [← hp_11] at s
      replace g := lift_let2 hp_11 g
      obtain ⟨_, _, rfl, ⟨a_11_0, c_11_0, rfl, r_11_0⟩, ⟨rfl, i_11_1⟩⟩ := s
      refine gTup_intro rfl (uncons_intro (gSlice_intro rfl (uncons_intro (gInt_intro rfl (unnil_intro (?_))))))
      have r_11_0 := r_11_0.from k0.le
      have m_2 := k_2.tame
      have bx4 := bx4.keep k_2
      have bx5 := bx5.keep k_2
      have bx6 := bx6.keep k_2
      have k0 := k0.trans k_2
      have kh := kh.trans k_2
      refine lift_ne g (fun q_12 g => ?_) (fun q_12 g => ?_)
      · refine stA bx6 (base_add _ _) rfl fun h_3 bx6 k_3 m_3 => ?_
        have bx4 := bx4.keepB d4q6 k_3
        have bx5 := bx5.keepB d5q6 k_3
        have k0 := KeepB.keep k0 k_3 o6
        refine stA bx6 (base_add _ _) rfl fun h_4 bx6 k_4 m_4 => ?_
        have bx4 := bx4.keepB d4q6 k_4
        have bx5 := bx5.keepB d5q6 k_4
        have k0 := KeepB.keep k0 k_4 o6
        refine ldA bx6 (base_add _ _) rfl ?_
        refine gBool_intro rfl ?_
        refine ldA bx6 (base_add _ _) rfl ?_
        refine gSlice_intro rfl ?_
        exact g _ _ k0 ⟨_, _, rfl, ⟨_, _, rfl, (GotE.nil _ _)⟩, ⟨rfl, i_11_1⟩⟩
      · refine ⟨blkLt (base_add _ _) ((m_1.trans m_2).lt lt4), ?_⟩
        refine ldA bx4 (base_add _ _) rfl ?_
        refine gBool_intro rfl ?_
        refine ⟨blkLt (base_add _ _) ((m_1.trans m_2).lt lt5), ?_⟩
        refine ldA bx5 (base_add _ _) rfl ?_
        refine gBool_intro rfl ?_
        refine hc_intro (nat_Cmp.hv (r_9_1.tame (m_2)).rd64 rfl r_11_0.rd64 rfl) fun v h_3 ⟨k_3, s⟩ => ?_
        obtain ⟨rfl, i_13⟩ := s
        refine gInt_intro rfl (?_)
        have m_3 := k_3.tame
        have bx4 := bx4.keep k_3
        have bx5 := bx5.keep k_3
        have bx6 := bx6.keep k_3
        have k0 := k0.trans k_3
        have kh := kh.trans k_3
        refine ⟨k_3.preLe (Nat.le_refl _), ?_⟩
        refine hc_intro (num_way_made.hf k0.le i0 (r_9_0.tame (m_2.trans m_3)) rfl i_13) fun v h_4 ⟨k_4, s⟩ => ?_
        obtain ⟨p_14, hp_14⟩ : ∃ p, p = madeZ x0 ((!(b4_0 == b5_0))) p_9.1 ((decide ((((p_9.2.1.length : Nat) : Int)) > (0 : Int)))) ((cmpI (val p_9.2.1) (val p_11.1))) := ⟨_, rfl⟩
        rw [← hp_14] at s
        replace g := lift_let2 hp_14 g
        obtain ⟨_, _, rfl, ⟨a_14_0, c_14_0, rfl, r_14_0⟩, ⟨rfl, i_14_1⟩⟩ := s
        refine gTup_intro rfl (uncons_intro (gAgg_intro rfl (uncons_intro (gBool_intro rfl (uncons_intro (gSlice_intro rfl (unnil_intro (uncons_intro (gInt_intro rfl (unnil_intro (?_)))))))))))
        have m_4 := k_4.tame
        have bx4 := bx4.keep k_4
        have bx5 := bx5.keep k_4
        have bx6 := bx6.keep k_4
        have k0 := k0.trans k_4
        have kh := kh.trans k_4
        refine ⟨k_4.preLe (m_3).le, ?_⟩
        refine stA bx6 (base_add _ _) rfl fun h_5 bx6 k_5 m_5 => ?_
        have bx4 := bx4.keepB d4q6 k_5
        have bx5 := bx5.keepB d5q6 k_5
        have k0 := KeepB.keep k0 k_5 o6
        refine stA bx6 (base_add _ _) rfl fun h_6 bx6 k_6 m_6 => ?_
        have bx4 := bx4.keepB d4q6 k_6
        have bx5 := bx5.keepB d5q6 k_6
        have k0 := KeepB.keep k0 k_6 o6
        refine ldA bx6 (base_add _ _) rfl ?_
        refine gBool_intro rfl ?_
        refine ldA bx6 (base_add _ _) rfl ?_
        refine gSlice_intro rfl ?_
        exact g _ _ k0 ⟨_, _, rfl, ⟨_, _, rfl, (r_14_0.tame (m_5.trans m_6))⟩, ⟨rfl, i_14_1⟩⟩
def D1.v (x0 : Int) (b1_0 : Bool) (xs1_1 : List Nat) (b2_0 : Bool) (xs2_1 : List Nat) : ((Bool × List Nat) × Int) :=
  letV (num_Form.v b1_0 xs1_1) fun p_4 =>
  bif (!p_4) then
    ((false, ([] : List Nat)), (2 : Int))
  else
    letV (num_Form.v b2_0 xs2_1) fun p_6 =>
    bif (!p_6) then
      ((false, ([] : List Nat)), (2 : Int))
    else
      D2.v x0 b1_0 xs1_1 b2_0 xs2_1 false ([] : List Nat)
theorem D1.hv {R : Rt} {h0 h : Hp} (k0 : Keep h0 h) {x0 : Int} (i0 : In .i64 x0) {b1_0 : Bool} {a1_1 : Option Addr} {c1_1 l1_1 : Nat} {xs1_1 : List Nat} (r1_1 : Rd h a1_1 c1_1 xs1_1) (e1_1 : l1_1 = xs1_1.length) {b2_0 : Bool} {a2_1 : Option Addr} {c2_1 l2_1 : Nat} {xs2_1 : List Nat} (r2_1 : Rd h a2_1 c2_1 xs2_1) (e2_1 : l2_1 = xs2_1.length) (g : Post (s2 sZW (sI .i64)) h0 R (D1.v x0 b1_0 xs1_1 b2_0 xs2_1)) : D1.t R x0 b1_0 a1_1 l1_1 c1_1 b2_0 a2_1 l2_1 c2_1 h := by
  subst e1_1 e2_1
  have kh := Keep.refl h
  unfold D1.v at g
  unfold D1.t
  refine boxV fun h_1 bx_1 k_1 => ?_
  have o_1 : h0.size ≤ h.size := k0.le
  have oh_1 : h.size ≤ h.size := kh.le
  have lt_1 := bx_1.lt
  have m_1 := k_1.tame
  have k0 := k0.trans k_1
  have kh := kh.trans k_1
  refine boxV fun h_2 bx_2 k_2 => ?_
  have d_1q_2 : h.size ≠ h_1.size := Nat.ne_of_lt bx_1.lt
  have o_2 : h0.size ≤ h_1.size := k0.le
  have oh_2 : h.size ≤ h_1.size := kh.le
  have lt_2 := bx_2.lt
  have m_2 := k_2.tame
  have bx_1 := bx_1.keep k_2
  have k0 := k0.trans k_2
  have kh := kh.trans k_2
  refine boxV fun h_3 bx_3 k_3 => ?_
  have d_1q_3 : h.size ≠ h_2.size := Nat.ne_of_lt bx_1.lt
  have d_2q_3 : h_1.size ≠ h_2.size := Nat.ne_of_lt bx_2.lt
  have o_3 : h0.size ≤ h_2.size := k0.le
  have oh_3 : h.size ≤ h_2.size := kh.le
  have lt_3 := bx_3.lt
  have m_3 := k_3.tame
  have bx_1 := bx_1.keep k_3
  have bx_2 := bx_2.keep k_3
  have k0 := k0.trans k_3
  have kh := kh.trans k_3
  refine ldA bx_1 (base_add _ _) rfl ?_
  refine gBool_intro rfl ?_
  refine ldA bx_1 (base_add _ _) rfl ?_
  refine gSlice_intro rfl ?_
  refine hc_intro (num_Form.hv (r1_1.tame (m_1.trans (m_2.trans m_3))) rfl) fun v h_4 ⟨k_4, s⟩ => ?_
  obtain ⟨p_4, hp_4⟩ : ∃ p, p = num_Form.v b1_0 xs1_1 := ⟨_, rfl⟩
  rw [← hp_4] at s
  replace g := lift_let2 hp_4 g
  obtain rfl := s
  refine gBool_intro rfl (?_)
  have m_4 := k_4.tame
  have bx_1 := bx_1.keep k_4
  have bx_2 := bx_2.keep k_4
  have bx_3 := bx_3.keep k_4
  have k0 := k0.trans k_4
  have kh := kh.trans k_4
  refine lift_not g (fun q_5 g => ?_) (fun q_5 g => ?_)
  · refine stA bx_3 (base_add _ _) rfl fun h_5 bx_3 k_5 m_5 => ?_
    have bx_1 := bx_1.keepB d_1q_3 k_5
    have bx_2 := bx_2.keepB d_2q_3 k_5
    have k0 := KeepB.keep k0 k_5 o_3
    have kh := KeepB.keep kh k_5 oh_3
    refine stA bx_3 (base_add _ _) rfl fun h_6 bx_3 k_6 m_6 => ?_
    have bx_1 := bx_1.keepB d_1q_3 k_6
    have bx_2 := bx_2.keepB d_2q_3 k_6
    have k0 := KeepB.keep k0 k_6 o_3
    have kh := KeepB.keep kh k_6 oh_3
    refine ldA bx_3 (base_add _ _) rfl ?_
    refine gBool_intro rfl ?_
    refine ldA bx_3 (base_add _ _) rfl ?_
    refine gSlice_intro rfl ?_
    exact g _ _ k0 ⟨_, _, rfl, ⟨_, _, rfl, (GotE.nil _ _)⟩, ⟨rfl, (show In .i64 (2 : Int) by decide)⟩⟩
  · refine ldA bx_2 (base_add _ _) rfl ?_
    refine gBool_intro rfl ?_
    refine ldA bx_2 (base_add _ _) rfl ?_
    refine gSlice_intro rfl ?_
    refine hc_intro (num_Form.hv (r2_1.tame (m_1.trans (m_2.trans (m_3.trans m_4)))) rfl) fun v h_5 ⟨k_5, s⟩ => ?_
    obtain ⟨p_6, hp_6⟩ : ∃ p, p = num_Form.v b2_0 xs2_1 := ⟨_, rfl⟩
    rw [← hp_6] at s
    replace g := lift_let2 hp_6 g
    obtain rfl := s
    refine gBool_intro rfl (?_)
    have m_5 := k_5.tame
    have bx_1 := bx_1.keep k_5
    have bx_2 := bx_2.keep k_5
    have bx_3 := bx_3.keep k_5
    have k0 := k0.trans k_5
    have kh := kh.trans k_5
    refine lift_not g (fun q_7 g => ?_) (fun q_7 g => ?_)
    · refine stA bx_3 (base_add _ _) rfl fun h_6 bx_3 k_6 m_6 => ?_
      have bx_1 := bx_1.keepB d_1q_3 k_6
      have bx_2 := bx_2.keepB d_2q_3 k_6
      have k0 := KeepB.keep k0 k_6 o_3
      have kh := KeepB.keep kh k_6 oh_3
      refine stA bx_3 (base_add _ _) rfl fun h_7 bx_3 k_7 m_7 => ?_
      have bx_1 := bx_1.keepB d_1q_3 k_7
      have bx_2 := bx_2.keepB d_2q_3 k_7
      have k0 := KeepB.keep k0 k_7 o_3
      have kh := KeepB.keep kh k_7 oh_3
      refine ldA bx_3 (base_add _ _) rfl ?_
      refine gBool_intro rfl ?_
      refine ldA bx_3 (base_add _ _) rfl ?_
      refine gSlice_intro rfl ?_
      exact g _ _ k0 ⟨_, _, rfl, ⟨_, _, rfl, (GotE.nil _ _)⟩, ⟨rfl, (show In .i64 (2 : Int) by decide)⟩⟩
    · exact D2.hv k0 i0 (r1_1.tame (m_1.trans (m_2.trans (m_3.trans (m_4.trans m_5))))) bx_1 o_1 (r2_1.tame (m_1.trans (m_2.trans (m_3.trans (m_4.trans m_5))))) bx_2 o_2 (GotE.nil _ _) bx_3 o_3 d_1q_2 d_1q_3 d_2q_3 g
def v (x0 : Int) (b1_0 : Bool) (xs1_1 : List Nat) (b2_0 : Bool) (xs2_1 : List Nat) : ((Bool × List Nat) × Int) := D1.v x0 b1_0 xs1_1 b2_0 xs2_1
theorem hv {h : Hp} {x0 : Int} (i0 : In .i64 x0) {b1_0 : Bool} {a1_1 : Option Addr} {c1_1 l1_1 : Nat} {xs1_1 : List Nat} (r1_1 : Rd h a1_1 c1_1 xs1_1) (e1_1 : l1_1 = xs1_1.length) {b2_0 : Bool} {a2_1 : Option Addr} {c2_1 l2_1 : Nat} {xs2_1 : List Nat} (r2_1 : Rd h a2_1 c2_1 xs2_1) (e2_1 : l2_1 = xs2_1.length) : HC id #[.int .i64 x0, .agg #[.bool b1_0, .slice a1_1 l1_1 c1_1], .agg #[.bool b2_0, .slice a2_1 l2_1 c2_1]] h fun v_ h_ => Keep h h_ ∧ (s2 sZW (sI .i64)) h h_ v_ (v x0 b1_0 xs1_1 b2_0 xs2_1) :=
  ok (D1.hv (Keep.refl _) i0 r1_1 e1_1 r2_1 e2_1 fun v h' k s => ⟨k, s⟩)
end num_way_div

end Go.Proofs.YtanlcacaihdceaaGreatDoor.G

/- The calls of layer 4 over values: what they answer. -/
namespace Go.Proofs.YtanlcacaihdceaaGreatDoor.G
open Go.Gv
set_option linter.unusedVariables false
set_option maxRecDepth 100000
theorem Form_v (b : Bool) (xs : List Nat) : num_Form.v b xs = decide (FrmZ (b, xs)) := by
  unfold num_Form.v num_Form.D1.v FrmZ
  by_cases f : Frm xs
  · cases b
    · simp [f]
    · cases xs with
      | nil => simp [f]
      | cons x xs => simp [f]; omega
  · simp [f]
theorem Of_v {n : Int} (i : In .i64 n) : num_Of.v n = zz n := by
  rw [in_i64] at i
  unfold num_Of.v num_Of.D1.v zz
  by_cases h : n < 0
  · have e1 : IntKind.u64.wrap (0 - IntKind.u64.wrap n) = ((n.natAbs : Nat) : Int) := by
      rw [wrap_u64, wrap_u64]; omega
    simp only [h, decide_true, cond_true, letV, Bool.true_and]
    rw [e1, Int.toNat_natCast, len_pos_digs]
    have : n.natAbs ≠ 0 := by omega
    simp [this]
  · have e1 : IntKind.u64.wrap n = ((n.natAbs : Nat) : Int) := by rw [wrap_u64]; omega
    simp only [h, decide_false, cond_false, letV, Bool.false_and]
    rw [e1, Int.toNat_natCast]
theorem frmZ_ne {b : Bool} {xs : List Nat} (f : FrmZ (b, xs)) : b = true → val xs ≠ 0 := fun h h0 => f.2 ⟨h, (val_nil_iff f.1).mp h0⟩
/-! ### quotients -/
theorem made_lim (w : Int) (neg : Bool) {Q : Nat} (some : Bool) (half : Int) (h : (digs Q).length ≤ 8192) : madeZ w neg (digs Q) some half = zlim (sg neg (if moreB w neg (Q % 2 == 1) some half = true then Q + 1 else Q)) := by
  unfold madeZ
  have e : (bitS (val (digs Q)) 0 == 1) = (Q % 2 == 1) := by
    rw [val_digs]; unfold bitS
    rw [if_neg (by decide)]
    simp only [Int.toNat_zero, Nat.pow_zero, Nat.div_one]
    rcases Nat.mod_two_eq_zero_or_one Q with h | h <;> rw [h] <;> rfl
  rw [e]
  have l1 : (digs 1).length ≤ 8192 := by rw [digs_pos (by decide)]; simp [digs_zero]
  have f1 : Frm (digs Q) := ⟨h, trimL_digs Q⟩
  have f2 : Frm (digs 1) := ⟨l1, trimL_digs 1⟩
  have e2 : (digs Q, (0 : Int)) = lim Q := by unfold lim; rw [if_pos h]
  rw [addS_form f1 f2, val_digs, val_digs, e2, ← apply_ite lim, tell_lim]
/-- Rounding, by the way: down, up, to the nearest. -/
def wayF (w : Int) : Int → Int → Int := if w = 0 then flo else if w = 1 then cei else nea
theorem way_sg (w : Int) {p q : Bool} {A B : Nat} (hB : B ≠ 0) (hp : p = true → A ≠ 0) : wayF w (sg p A) (sg q B) = sg (xor p q) (if moreB w (xor p q) (A / B % 2 == 1) (decide (A % B ≠ 0)) (cmpI (A % B) (B - A % B)) = true then A / B + 1 else A / B) := by
  unfold wayF moreB
  by_cases h0 : w = 0
  · rw [if_pos h0, if_pos h0, flo_sg hB hp]
    simp only [Bool.and_eq_true, decide_eq_true_eq]
  · rw [if_neg h0, if_neg h0]
    by_cases h1 : w = 1
    · rw [if_pos h1, if_pos h1, cei_sg hB hp]
      simp only [Bool.and_eq_true, decide_eq_true_eq, Bool.not_eq_true']
    · rw [if_neg h1, if_neg h1, nea_sg hB hp]
      unfold nearN
      have hm := Nat.mod_lt A (show 0 < B by omega)
      generalize A % B = r at *
      generalize A / B = Q
      congr 1
      have e : ((decide (0 < cmpI r (B - r)) || (decide (cmpI r (B - r) = 0) && (Q % 2 == 1))) = true) ↔ (B < 2 * r ∨ (2 * r = B ∧ Q % 2 = 1)) := by
        unfold cmpI
        rcases Nat.lt_trichotomy r (B - r) with h | h | h
        · rw [if_pos h]; simp; omega
        · rw [if_neg (by omega), if_pos h]; simp; omega
        · rw [if_neg (by omega), if_neg (by omega)]; simp; omega
      by_cases c : B < 2 * r ∨ (2 * r = B ∧ Q % 2 = 1)
      · rw [if_pos c, if_pos (e.mpr c)]
      · rw [if_neg c, if_neg (fun h => c (e.mp h))]
theorem shr_D3 (w : Int) (b : Bool) (xs : List Nat) (p : Bool) (zs qs : List Nat) (s : Bool) (y : Int) : num_way_shr.D3.v w b xs p zs qs s y = madeZ w b qs s y := rfl
theorem shr_half {A n : Nat} (hn : n < 9223372036854775808) (K : Int → Zw × Int) : (bif (bitS A (IntKind.i64.wrap ((n : Int) - 1)) == 1) then (bif (((ctz A : Nat) : Int) == IntKind.i64.wrap ((n : Int) - 1)) then K 0 else K 1) else K (-1)) = K (cmpI (A % 2 ^ n) (2 ^ n - A % 2 ^ n)) := by
  have hw : IntKind.i64.wrap ((n : Int) - 1) = (n : Int) - 1 := wrap_i64 (by omega) (by omega)
  rw [hw]
  by_cases hA : A = 0
  · subst hA
    have : bitS 0 ((n : Int) - 1) = 0 := by unfold bitS; split <;> simp
    rw [this, Nat.zero_mod]
    have : cmpI 0 (2 ^ n - 0) = -1 := by unfold cmpI; rw [if_pos (by have := Nat.two_pow_pos n; omega)]
    rw [this]; rfl
  rcases Nat.eq_zero_or_pos n with h0 | h0
  · subst h0
    have : bitS A (((0 : Nat) : Int) - 1) = 0 := by unfold bitS; rw [if_pos (by decide)]
    rw [this, Nat.pow_zero, Nat.mod_one]
    rfl
  · obtain ⟨m, rfl⟩ : ∃ m, n = m + 1 := ⟨n - 1, by omega⟩
    have e1 : ((m + 1 : Nat) : Int) - 1 = (m : Int) := by omega
    rw [e1]
    have hbit : bitS A (m : Int) = ((A / 2 ^ m % 2 : Nat) : Int) := by unfold bitS; rw [if_neg (by omega), Int.toNat_natCast]
    rw [hbit]
    have hh := bit_half (A := A) (n := m)
    have hm := Nat.mod_lt A (Nat.two_pow_pos (m + 1))
    rcases Nat.mod_two_eq_zero_or_one (A / 2 ^ m) with e | e
    · rw [e] at hh ⊢
      have : cmpI (A % 2 ^ (m + 1)) (2 ^ (m + 1) - A % 2 ^ (m + 1)) = -1 := by
        unfold cmpI
        rw [if_pos]
        have : ¬ 2 ^ (m + 1) ≤ 2 * (A % 2 ^ (m + 1)) := fun h => absurd (hh.mpr h) (by decide)
        omega
      rw [this]; rfl
    · have h2 := hh.mp e
      have h3 := ctz_half hA e
      rw [e]
      by_cases hc : ctz A = m
      · have h4 := h3.mp hc
        have : cmpI (A % 2 ^ (m + 1)) (2 ^ (m + 1) - A % 2 ^ (m + 1)) = 0 := by
          unfold cmpI
          rw [if_neg (by omega), if_pos (by omega)]
        rw [this, hc]; simp
      · have h4 : ¬ 2 * (A % 2 ^ (m + 1)) = 2 ^ (m + 1) := fun h => hc (h3.mpr h)
        have : cmpI (A % 2 ^ (m + 1)) (2 ^ (m + 1) - A % 2 ^ (m + 1)) = 1 := by
          unfold cmpI
          rw [if_neg (by omega), if_neg (by omega)]
        have hne : (((ctz A : Nat) : Int) == ((m : Nat) : Int)) = false := by simp; omega
        rw [this, hne]; simp
theorem digs_frm {b : Bool} {xs : List Nat} (f : FrmZ (b, xs)) (hw : Words xs) : digs (val xs) = xs := f.1.digs hw
theorem way_shr_v (w : Int) {b : Bool} {xs : List Nat} (hw : Words xs) {n : Int} (i : In .i64 n) : num_way_shr.v w b xs n = shrZ (wayF w) (b, xs) n := by
  rw [in_i64] at i
  unfold num_way_shr.v num_way_shr.D1.v shrZ
  rw [Form_v]
  by_cases hn : n < 0
  · simp only [hn, decide_true, cond_true, if_true]; rfl
  · obtain ⟨k, rfl⟩ := Int.eq_ofNat_of_zero_le (Int.not_lt.mp hn)
    by_cases f : FrmZ (b, xs)
    · have hd : (digs (val xs / 2 ^ k)).length ≤ 8192 := by
        have h1 := digs_len_mono (Nat.div_le_self (val xs) (2 ^ k))
        rw [digs_frm f hw] at h1
        exact Nat.le_trans h1 f.1.1
      have es : shrS xs (k : Int) = (digs (val xs / 2 ^ k), 0) := by
        unfold shrS
        rw [if_neg hn, if_pos f.1, Int.toNat_natCast]
        unfold lim; rw [if_pos hd]
      simp only [hn, f, decide_true, decide_false, letV, Bool.not_true, cond_false, if_true, if_false, Int.toNat_natCast]
      rw [es]
      have D : ∀ s : Bool, num_way_shr.D2.v w (k : Int) b xs false [] (digs (val xs / 2 ^ k)) s = zlim (sg b (if moreB w b (val xs / 2 ^ k % 2 == 1) s (cmpI (val xs % 2 ^ k) (2 ^ k - val xs % 2 ^ k)) = true then val xs / 2 ^ k + 1 else val xs / 2 ^ k)) := by
        intro s
        unfold num_way_shr.D2.v
        simp only [shr_D3]
        rw [shr_half (A := val xs) (n := k) (by omega) fun y => madeZ w b (digs (val xs / 2 ^ k)) s y, made_lim _ _ _ _ hd]
      simp only [D]
      have e0 : ((0 : Int) != 0) = false := rfl
      rw [e0, cond_false, zi_sg]
      show _ = zlim (wayF w (sg b (val xs)) (2 ^ k))
      rw [pow2_sg, way_sg w (pow2_ne k) (frmZ_ne f), Bool.xor_false]
      by_cases hx : xs = []
      · subst hx
        have e1 : decide (((([] : List Nat).length : Nat) : Int) > 0) = false := rfl
        have e2 : decide (val [] % 2 ^ k ≠ 0) = false := by simp [val]
        rw [e1, e2]; rfl
      · have hA : val xs ≠ 0 := fun h => hx ((val_nil_iff f.1).mp h)
        have hl : 0 < xs.length := List.length_pos_iff.mpr hx
        have e1 : decide (((xs.length : Nat) : Int) > 0) = true := by simp; omega
        have e2 : decide (((ctz (val xs) : Nat) : Int) < (k : Int)) = decide (val xs % 2 ^ k ≠ 0) := by
          rw [decide_eq_decide, ← ctz_some hA]; omega
        rw [e1, e2]; rfl
    · simp only [hn, f, decide_false, letV, Bool.not_false, cond_true, cond_false, if_false]; rfl
theorem way_div_v (w : Int) {b c : Bool} {xs ys : List Nat} (hw : Words xs) (hy : Words ys) : num_way_div.v w b xs c ys = quoZ (wayF w) (b, xs) (c, ys) := by
  unfold num_way_div.v num_way_div.D1.v num_way_div.D2.v quoZ
  rw [Form_v, Form_v]
  by_cases f : FrmZ (b, xs)
  · by_cases f2 : FrmZ (c, ys)
    · simp only [f, f2, decide_true, letV, Bool.not_true, cond_false, and_self, if_true]
      have hz : zi (c, ys) = 0 ↔ ys = [] := by rw [zi_sg, sg_eq_zero]; exact val_nil_iff f2.1
      by_cases h0 : ys = []
      · rw [if_pos (hz.mpr h0)]; subst h0; rfl
      · have hB : val ys ≠ 0 := fun h => h0 ((val_nil_iff f2.1).mp h)
        have e0 : (((ys.length : Nat) : Int) == 0) = false := by simp; exact h0
        rw [if_neg (fun h => h0 (hz.mp h)), e0, cond_false]
        have lx : (digs (val xs)).length ≤ 8192 := by rw [digs_frm f hw]; exact f.1.1
        have ly : (digs (val ys)).length ≤ 8192 := by rw [digs_frm f2 hy]; exact f2.1.1
        have eq : quoS xs ys = (digs (val xs / val ys), digs (val xs % val ys), 0) := by
          unfold quoS
          rw [if_pos ⟨f.1, f2.1⟩, if_neg hB]
        have hm := Nat.mod_lt (val xs) (show 0 < val ys by omega)
        have lr : (digs (val xs % val ys)).length ≤ 8192 := Nat.le_trans (digs_len_mono (Nat.le_of_lt hm)) ly
        have es : subS ys (digs (val xs % val ys)) = (digs (val ys - val xs % val ys), 0) := by
          rw [subS_form f2.1 ⟨lr, trimL_digs _⟩ (by rw [val_digs]; exact Nat.le_of_lt hm), val_digs]
          unfold lim; rw [if_pos (Nat.le_trans (digs_len_mono (Nat.sub_le _ _)) ly)]
        rw [eq]
        simp only [es]
        have e1 : ((0 : Int) != 0) = false := rfl
        rw [e1, cond_false, val_digs, val_digs]
        show madeZ w _ _ _ _ = zlim (wayF w (sg b (val xs)) (sg c (val ys)))
        rw [made_lim _ _ _ _ (Nat.le_trans (digs_len_mono (Nat.div_le_self _ _)) lx), way_sg w hB (frmZ_ne f)]
        have ex : (!(b == c)) = xor b c := by cases b <;> cases c <;> rfl
        have el : decide (((digs (val xs % val ys)).length : Int) > 0) = decide (val xs % val ys ≠ 0) := by
          rw [← len_pos_digs, decide_eq_decide]; omega
        rw [ex, el]
    · simp only [f, f2, decide_true, decide_false, letV, Bool.not_true, Bool.not_false, cond_false, cond_true, and_false, if_false]; rfl
  · simp only [f, decide_false, letV, Bool.not_false, cond_true, false_and, if_false]; rfl
/-! ### the contracts -/
section
variable {a b : Option Addr} {c d l m : Nat} {xs ys : List Nat} {h : Hp} {x y : Int} {p q : Bool}
theorem num_Of.hs (i : In .i64 x) : HC num_Of.id #[.int .i64 x] h fun v h' => Keep h h' ∧ sZW h h' v (zz x) := by rw [← Of_v i]; exact num_Of.hv i
theorem num_Form.hs (r : Rd h a c xs) (e : l = xs.length) : HC num_Form.id #[.agg #[.bool p, .slice a l c]] h fun v h' => Keep h h' ∧ sBool h h' v (decide (FrmZ (p, xs))) := by rw [← Form_v]; exact num_Form.hv r e
theorem num_way_shr.hs (j : In .i64 y) (r : Rd h a c xs) (e : l = xs.length) (i : In .i64 x) (tb : Tab h) : HC num_way_shr.id #[.int .i64 y, .agg #[.bool p, .slice a l c], .int .i64 x] h fun v h' => Keep h h' ∧ s2 sZW (sI .i64) h h' v (shrZ (wayF y) (p, xs) x) := by rw [← way_shr_v y r.words i]; exact num_way_shr.hv j r e i tb
theorem num_way_div.hs (j : In .i64 y) (r : Rd h a c xs) (e : l = xs.length) (s : Rd h b d ys) (f : m = ys.length) : HC num_way_div.id #[.int .i64 y, .agg #[.bool p, .slice a l c], .agg #[.bool q, .slice b m d]] h fun v h' => Keep h h' ∧ s2 sZW (sI .i64) h h' v (quoZ (wayF y) (p, xs) (q, ys)) := by rw [← way_div_v y r.words s.words]; exact num_way_div.hv j r e s f
end
end Go.Proofs.YtanlcacaihdceaaGreatDoor.G

/- Functions without loops as functions of values. Written by a program of this work. -/
namespace Go.Proofs.YtanlcacaihdceaaGreatDoor.G
open Go.Gv
set_option linter.unusedVariables false
set_option maxRecDepth 100000



namespace num_NearShr
def D1.v (b0_0 : Bool) (xs0_1 : List Nat) (x1 : Int) : ((Bool × List Nat) × Int) :=
  letV (shrZ (wayF (2 : Int)) (b0_0, xs0_1) x1) fun p_3 =>
  ((p_3.1.1, p_3.1.2), p_3.2)
theorem D1.hv {R : Rt} {h0 h : Hp} (k0 : Keep h0 h) {b0_0 : Bool} {a0_1 : Option Addr} {c0_1 l0_1 : Nat} {xs0_1 : List Nat} (r0_1 : Rd h a0_1 c0_1 xs0_1) (e0_1 : l0_1 = xs0_1.length) {x1 : Int} (i1 : In .i64 x1) (tb : Tab h) (g : Post (s2 sZW (sI .i64)) h0 R (D1.v b0_0 xs0_1 x1)) : D1.t R b0_0 a0_1 l0_1 c0_1 x1 h := by
  subst e0_1
  have kh := Keep.refl h
  unfold D1.v at g
  unfold D1.t
  refine boxV fun h_1 bx_1 k_1 => ?_
  have o_1 : h0.size ≤ h.size := k0.le
  have oh_1 : h.size ≤ h.size := kh.le
  have lt_1 := bx_1.lt
  have m_1 := k_1.tame
  have k0 := k0.trans k_1
  have kh := kh.trans k_1
  refine boxV fun h_2 bx_2 k_2 => ?_
  have d_1q_2 : h.size ≠ h_1.size := Nat.ne_of_lt bx_1.lt
  have o_2 : h0.size ≤ h_1.size := k0.le
  have oh_2 : h.size ≤ h_1.size := kh.le
  have lt_2 := bx_2.lt
  have m_2 := k_2.tame
  have bx_1 := bx_1.keep k_2
  have k0 := k0.trans k_2
  have kh := kh.trans k_2
  refine ldA bx_1 (base_add _ _) rfl ?_
  refine gBool_intro rfl ?_
  refine ldA bx_1 (base_add _ _) rfl ?_
  refine gSlice_intro rfl ?_
  refine hc_intro (num_way_shr.hs (show In .i64 (2 : Int) by decide) (r0_1.tame (m_1.trans m_2)) rfl i1 (tb.tame (m_1.trans m_2))) fun v h_3 ⟨k_3, s⟩ => ?_
  obtain ⟨p_3, hp_3⟩ : ∃ p, p = shrZ (wayF (2 : Int)) (b0_0, xs0_1) x1 := ⟨_, rfl⟩
  rw [← hp_3] at s
  replace g := lift_let2 hp_3 g
  obtain ⟨_, _, rfl, ⟨a_3_0, c_3_0, rfl, r_3_0⟩, ⟨rfl, i_3_1⟩⟩ := s
  refine gTup_intro rfl (uncons_intro (gAgg_intro rfl (uncons_intro (gBool_intro rfl (uncons_intro (gSlice_intro rfl (unnil_intro (uncons_intro (gInt_intro rfl (unnil_intro (?_)))))))))))
  have r_3_0 := r_3_0.from k0.le
  have m_3 := k_3.tame
  have bx_1 := bx_1.keep k_3
  have bx_2 := bx_2.keep k_3
  have k0 := k0.trans k_3
  have kh := kh.trans k_3
  refine stA bx_2 (base_add _ _) rfl fun h_4 bx_2 k_4 m_4 => ?_
  have bx_1 := bx_1.keepB d_1q_2 k_4
  have k0 := KeepB.keep k0 k_4 o_2
  have kh := KeepB.keep kh k_4 oh_2
  refine stA bx_2 (base_add _ _) rfl fun h_5 bx_2 k_5 m_5 => ?_
  have bx_1 := bx_1.keepB d_1q_2 k_5
  have k0 := KeepB.keep k0 k_5 o_2
  have kh := KeepB.keep kh k_5 oh_2
  refine ldA bx_2 (base_add _ _) rfl ?_
  refine gBool_intro rfl ?_
  refine ldA bx_2 (base_add _ _) rfl ?_
  refine gSlice_intro rfl ?_
  exact g _ _ k0 ⟨_, _, rfl, ⟨_, _, rfl, (r_3_0.tame (m_4.trans m_5))⟩, ⟨rfl, i_3_1⟩⟩
def v (b0_0 : Bool) (xs0_1 : List Nat) (x1 : Int) : ((Bool × List Nat) × Int) := D1.v b0_0 xs0_1 x1
theorem hv {h : Hp} {b0_0 : Bool} {a0_1 : Option Addr} {c0_1 l0_1 : Nat} {xs0_1 : List Nat} (r0_1 : Rd h a0_1 c0_1 xs0_1) (e0_1 : l0_1 = xs0_1.length) {x1 : Int} (i1 : In .i64 x1) (tb : Tab h) : HC id #[.agg #[.bool b0_0, .slice a0_1 l0_1 c0_1], .int .i64 x1] h fun v_ h_ => Keep h h_ ∧ (s2 sZW (sI .i64)) h h_ v_ (v b0_0 xs0_1 x1) :=
  ok (D1.hv (Keep.refl _) r0_1 e0_1 i1 tb fun v h' k s => ⟨k, s⟩)
end num_NearShr

namespace num_FloorDiv
def D1.v (b0_0 : Bool) (xs0_1 : List Nat) (b1_0 : Bool) (xs1_1 : List Nat) : ((Bool × List Nat) × Int) :=
  letV (quoZ (wayF (0 : Int)) (b0_0, xs0_1) (b1_0, xs1_1)) fun p_4 =>
  ((p_4.1.1, p_4.1.2), p_4.2)
theorem D1.hv {R : Rt} {h0 h : Hp} (k0 : Keep h0 h) {b0_0 : Bool} {a0_1 : Option Addr} {c0_1 l0_1 : Nat} {xs0_1 : List Nat} (r0_1 : Rd h a0_1 c0_1 xs0_1) (e0_1 : l0_1 = xs0_1.length) {b1_0 : Bool} {a1_1 : Option Addr} {c1_1 l1_1 : Nat} {xs1_1 : List Nat} (r1_1 : Rd h a1_1 c1_1 xs1_1) (e1_1 : l1_1 = xs1_1.length) (g : Post (s2 sZW (sI .i64)) h0 R (D1.v b0_0 xs0_1 b1_0 xs1_1)) : D1.t R b0_0 a0_1 l0_1 c0_1 b1_0 a1_1 l1_1 c1_1 h := by
  subst e0_1 e1_1
  have kh := Keep.refl h
  unfold D1.v at g
  unfold D1.t
  refine boxV fun h_1 bx_1 k_1 => ?_
  have o_1 : h0.size ≤ h.size := k0.le
  have oh_1 : h.size ≤ h.size := kh.le
  have lt_1 := bx_1.lt
  have m_1 := k_1.tame
  have k0 := k0.trans k_1
  have kh := kh.trans k_1
  refine boxV fun h_2 bx_2 k_2 => ?_
  have d_1q_2 : h.size ≠ h_1.size := Nat.ne_of_lt bx_1.lt
  have o_2 : h0.size ≤ h_1.size := k0.le
  have oh_2 : h.size ≤ h_1.size := kh.le
  have lt_2 := bx_2.lt
  have m_2 := k_2.tame
  have bx_1 := bx_1.keep k_2
  have k0 := k0.trans k_2
  have kh := kh.trans k_2
  refine boxV fun h_3 bx_3 k_3 => ?_
  have d_1q_3 : h.size ≠ h_2.size := Nat.ne_of_lt bx_1.lt
  have d_2q_3 : h_1.size ≠ h_2.size := Nat.ne_of_lt bx_2.lt
  have o_3 : h0.size ≤ h_2.size := k0.le
  have oh_3 : h.size ≤ h_2.size := kh.le
  have lt_3 := bx_3.lt
  have m_3 := k_3.tame
  have bx_1 := bx_1.keep k_3
  have bx_2 := bx_2.keep k_3
  have k0 := k0.trans k_3
  have kh := kh.trans k_3
  refine ldA bx_1 (base_add _ _) rfl ?_
  refine gBool_intro rfl ?_
  refine ldA bx_1 (base_add _ _) rfl ?_
  refine gSlice_intro rfl ?_
  refine ldA bx_2 (base_add _ _) rfl ?_
  refine gBool_intro rfl ?_
  refine ldA bx_2 (base_add _ _) rfl ?_
  refine gSlice_intro rfl ?_
  refine hc_intro (num_way_div.hs (show In .i64 (0 : Int) by decide) (r0_1.tame (m_1.trans (m_2.trans m_3))) rfl (r1_1.tame (m_1.trans (m_2.trans m_3))) rfl) fun v h_4 ⟨k_4, s⟩ => ?_
  obtain ⟨p_4, hp_4⟩ : ∃ p, p = quoZ (wayF (0 : Int)) (b0_0, xs0_1) (b1_0, xs1_1) := ⟨_, rfl⟩
  rw [← hp_4] at s
  replace g := lift_let2 hp_4 g
  obtain ⟨_, _, rfl, ⟨a_4_0, c_4_0, rfl, r_4_0⟩, ⟨rfl, i_4_1⟩⟩ := s
  refine gTup_intro rfl (uncons_intro (gAgg_intro rfl (uncons_intro (gBool_intro rfl (uncons_intro (gSlice_intro rfl (unnil_intro (uncons_intro (gInt_intro rfl (unnil_intro (?_)))))))))))
  have r_4_0 := r_4_0.from k0.le
  have m_4 := k_4.tame
  have bx_1 := bx_1.keep k_4
  have bx_2 := bx_2.keep k_4
  have bx_3 := bx_3.keep k_4
  have k0 := k0.trans k_4
  have kh := kh.trans k_4
  refine stA bx_3 (base_add _ _) rfl fun h_5 bx_3 k_5 m_5 => ?_
  have bx_1 := bx_1.keepB d_1q_3 k_5
  have bx_2 := bx_2.keepB d_2q_3 k_5
  have k0 := KeepB.keep k0 k_5 o_3
  have kh := KeepB.keep kh k_5 oh_3
  refine stA bx_3 (base_add _ _) rfl fun h_6 bx_3 k_6 m_6 => ?_
  have bx_1 := bx_1.keepB d_1q_3 k_6
  have bx_2 := bx_2.keepB d_2q_3 k_6
  have k0 := KeepB.keep k0 k_6 o_3
  have kh := KeepB.keep kh k_6 oh_3
  refine ldA bx_3 (base_add _ _) rfl ?_
  refine gBool_intro rfl ?_
  refine ldA bx_3 (base_add _ _) rfl ?_
  refine gSlice_intro rfl ?_
  exact g _ _ k0 ⟨_, _, rfl, ⟨_, _, rfl, (r_4_0.tame (m_5.trans m_6))⟩, ⟨rfl, i_4_1⟩⟩
def v (b0_0 : Bool) (xs0_1 : List Nat) (b1_0 : Bool) (xs1_1 : List Nat) : ((Bool × List Nat) × Int) := D1.v b0_0 xs0_1 b1_0 xs1_1
theorem hv {h : Hp} {b0_0 : Bool} {a0_1 : Option Addr} {c0_1 l0_1 : Nat} {xs0_1 : List Nat} (r0_1 : Rd h a0_1 c0_1 xs0_1) (e0_1 : l0_1 = xs0_1.length) {b1_0 : Bool} {a1_1 : Option Addr} {c1_1 l1_1 : Nat} {xs1_1 : List Nat} (r1_1 : Rd h a1_1 c1_1 xs1_1) (e1_1 : l1_1 = xs1_1.length) : HC id #[.agg #[.bool b0_0, .slice a0_1 l0_1 c0_1], .agg #[.bool b1_0, .slice a1_1 l1_1 c1_1]] h fun v_ h_ => Keep h h_ ∧ (s2 sZW (sI .i64)) h h_ v_ (v b0_0 xs0_1 b1_0 xs1_1) :=
  ok (D1.hv (Keep.refl _) r0_1 e0_1 r1_1 e1_1 fun v h' k s => ⟨k, s⟩)
end num_FloorDiv

namespace num_CeilDiv
def D1.v (b0_0 : Bool) (xs0_1 : List Nat) (b1_0 : Bool) (xs1_1 : List Nat) : ((Bool × List Nat) × Int) :=
  letV (quoZ (wayF (1 : Int)) (b0_0, xs0_1) (b1_0, xs1_1)) fun p_4 =>
  ((p_4.1.1, p_4.1.2), p_4.2)
theorem D1.hv {R : Rt} {h0 h : Hp} (k0 : Keep h0 h) {b0_0 : Bool} {a0_1 : Option Addr} {c0_1 l0_1 : Nat} {xs0_1 : List Nat} (r0_1 : Rd h a0_1 c0_1 xs0_1) (e0_1 : l0_1 = xs0_1.length) {b1_0 : Bool} {a1_1 : Option Addr} {c1_1 l1_1 : Nat} {xs1_1 : List Nat} (r1_1 : Rd h a1_1 c1_1 xs1_1) (e1_1 : l1_1 = xs1_1.length) (g : Post (s2 sZW (sI .i64)) h0 R (D1.v b0_0 xs0_1 b1_0 xs1_1)) : D1.t R b0_0 a0_1 l0_1 c0_1 b1_0 a1_1 l1_1 c1_1 h := by
  subst e0_1 e1_1
  have kh := Keep.refl h
  unfold D1.v at g
  unfold D1.t
  refine boxV fun h_1 bx_1 k_1 => ?_
  have o_1 : h0.size ≤ h.size := k0.le
  have oh_1 : h.size ≤ h.size := kh.le
  have lt_1 := bx_1.lt
  have m_1 := k_1.tame
  have k0 := k0.trans k_1
  have kh := kh.trans k_1
  refine boxV fun h_2 bx_2 k_2 => ?_
  have d_1q_2 : h.size ≠ h_1.size := Nat.ne_of_lt bx_1.lt
  have o_2 : h0.size ≤ h_1.size := k0.le
  have oh_2 : h.size ≤ h_1.size := kh.le
  have lt_2 := bx_2.lt
  have m_2 := k_2.tame
  have bx_1 := bx_1.keep k_2
  have k0 := k0.trans k_2
  have kh := kh.trans k_2
  refine boxV fun h_3 bx_3 k_3 => ?_
  have d_1q_3 : h.size ≠ h_2.size := Nat.ne_of_lt bx_1.lt
  have d_2q_3 : h_1.size ≠ h_2.size := Nat.ne_of_lt bx_2.lt
  have o_3 : h0.size ≤ h_2.size := k0.le
  have oh_3 : h.size ≤ h_2.size := kh.le
  have lt_3 := bx_3.lt
  have m_3 := k_3.tame
  have bx_1 := bx_1.keep k_3
  have bx_2 := bx_2.keep k_3
  have k0 := k0.trans k_3
  have kh := kh.trans k_3
  refine ldA bx_1 (base_add _ _) rfl ?_
  refine gBool_intro rfl ?_
  refine ldA bx_1 (base_add _ _) rfl ?_
  refine gSlice_intro rfl ?_
  refine ldA bx_2 (base_add _ _) rfl ?_
  refine gBool_intro rfl ?_
  refine ldA bx_2 (base_add _ _) rfl ?_
  refine gSlice_intro rfl ?_
  refine hc_intro (num_way_div.hs (show In .i64 (1 : Int) by decide) (r0_1.tame (m_1.trans (m_2.trans m_3))) rfl (r1_1.tame (m_1.trans (m_2.trans m_3))) rfl) fun v h_4 ⟨k_4, s⟩ => ?_
  obtain ⟨p_4, hp_4⟩ : ∃ p, p = quoZ (wayF (1 : Int)) (b0_0, xs0_1) (b1_0, xs1_1) := ⟨_, rfl⟩
  rw [← hp_4] at s
  replace g := lift_let2 hp_4 g
  obtain ⟨_, _, rfl, ⟨a_4_0, c_4_0, rfl, r_4_0⟩, ⟨rfl, i_4_1⟩⟩ := s
  refine gTup_intro rfl (uncons_intro (gAgg_intro rfl (uncons_intro (gBool_intro rfl (uncons_intro (gSlice_intro rfl (unnil_intro (uncons_intro (gInt_intro rfl (unnil_intro (?_)))))))))))
  have r_4_0 := r_4_0.from k0.le
  have m_4 := k_4.tame
  have bx_1 := bx_1.keep k_4
  have bx_2 := bx_2.keep k_4
  have bx_3 := bx_3.keep k_4
  have k0 := k0.trans k_4
  have kh := kh.trans k_4
  refine stA bx_3 (base_add _ _) rfl fun h_5 bx_3 k_5 m_5 => ?_
  have bx_1 := bx_1.keepB d_1q_3 k_5
  have bx_2 := bx_2.keepB d_2q_3 k_5
  have k0 := KeepB.keep k0 k_5 o_3
  have kh := KeepB.keep kh k_5 oh_3
  refine stA bx_3 (base_add _ _) rfl fun h_6 bx_3 k_6 m_6 => ?_
  have bx_1 := bx_1.keepB d_1q_3 k_6
  have bx_2 := bx_2.keepB d_2q_3 k_6
  have k0 := KeepB.keep k0 k_6 o_3
  have kh := KeepB.keep kh k_6 oh_3
  refine ldA bx_3 (base_add _ _) rfl ?_
  refine gBool_intro rfl ?_
  refine ldA bx_3 (base_add _ _) rfl ?_
  refine gSlice_intro rfl ?_
  exact g _ _ k0 ⟨_, _, rfl, ⟨_, _, rfl, (r_4_0.tame (m_5.trans m_6))⟩, ⟨rfl, i_4_1⟩⟩
def v (b0_0 : Bool) (xs0_1 : List Nat) (b1_0 : Bool) (xs1_1 : List Nat) : ((Bool × List Nat) × Int) := D1.v b0_0 xs0_1 b1_0 xs1_1
theorem hv {h : Hp} {b0_0 : Bool} {a0_1 : Option Addr} {c0_1 l0_1 : Nat} {xs0_1 : List Nat} (r0_1 : Rd h a0_1 c0_1 xs0_1) (e0_1 : l0_1 = xs0_1.length) {b1_0 : Bool} {a1_1 : Option Addr} {c1_1 l1_1 : Nat} {xs1_1 : List Nat} (r1_1 : Rd h a1_1 c1_1 xs1_1) (e1_1 : l1_1 = xs1_1.length) : HC id #[.agg #[.bool b0_0, .slice a0_1 l0_1 c0_1], .agg #[.bool b1_0, .slice a1_1 l1_1 c1_1]] h fun v_ h_ => Keep h h_ ∧ (s2 sZW (sI .i64)) h h_ v_ (v b0_0 xs0_1 b1_0 xs1_1) :=
  ok (D1.hv (Keep.refl _) r0_1 e0_1 r1_1 e1_1 fun v h' k s => ⟨k, s⟩)
end num_CeilDiv

namespace num_NearDiv
def D1.v (b0_0 : Bool) (xs0_1 : List Nat) (b1_0 : Bool) (xs1_1 : List Nat) : ((Bool × List Nat) × Int) :=
  letV (quoZ (wayF (2 : Int)) (b0_0, xs0_1) (b1_0, xs1_1)) fun p_4 =>
  ((p_4.1.1, p_4.1.2), p_4.2)
theorem D1.hv {R : Rt} {h0 h : Hp} (k0 : Keep h0 h) {b0_0 : Bool} {a0_1 : Option Addr} {c0_1 l0_1 : Nat} {xs0_1 : List Nat} (r0_1 : Rd h a0_1 c0_1 xs0_1) (e0_1 : l0_1 = xs0_1.length) {b1_0 : Bool} {a1_1 : Option Addr} {c1_1 l1_1 : Nat} {xs1_1 : List Nat} (r1_1 : Rd h a1_1 c1_1 xs1_1) (e1_1 : l1_1 = xs1_1.length) (g : Post (s2 sZW (sI .i64)) h0 R (D1.v b0_0 xs0_1 b1_0 xs1_1)) : D1.t R b0_0 a0_1 l0_1 c0_1 b1_0 a1_1 l1_1 c1_1 h := by
  subst e0_1 e1_1
  have kh := Keep.refl h
  unfold D1.v at g
  unfold D1.t
  refine boxV fun h_1 bx_1 k_1 => ?_
  have o_1 : h0.size ≤ h.size := k0.le
  have oh_1 : h.size ≤ h.size := kh.le
  have lt_1 := bx_1.lt
  have m_1 := k_1.tame
  have k0 := k0.trans k_1
  have kh := kh.trans k_1
  refine boxV fun h_2 bx_2 k_2 => ?_
  have d_1q_2 : h.size ≠ h_1.size := Nat.ne_of_lt bx_1.lt
  have o_2 : h0.size ≤ h_1.size := k0.le
  have oh_2 : h.size ≤ h_1.size := kh.le
  have lt_2 := bx_2.lt
  have m_2 := k_2.tame
  have bx_1 := bx_1.keep k_2
  have k0 := k0.trans k_2
  have kh := kh.trans k_2
  refine boxV fun h_3 bx_3 k_3 => ?_
  have d_1q_3 : h.size ≠ h_2.size := Nat.ne_of_lt bx_1.lt
  have d_2q_3 : h_1.size ≠ h_2.size := Nat.ne_of_lt bx_2.lt
  have o_3 : h0.size ≤ h_2.size := k0.le
  have oh_3 : h.size ≤ h_2.size := kh.le
  have lt_3 := bx_3.lt
  have m_3 := k_3.tame
  have bx_1 := bx_1.keep k_3
  have bx_2 := bx_2.keep k_3
  have k0 := k0.trans k_3
  have kh := kh.trans k_3
  refine ldA bx_1 (base_add _ _) rfl ?_
  refine gBool_intro rfl ?_
  refine ldA bx_1 (base_add _ _) rfl ?_
  refine gSlice_intro rfl ?_
  refine ldA bx_2 (base_add _ _) rfl ?_
  refine gBool_intro rfl ?_
  refine ldA bx_2 (base_add _ _) rfl ?_
  refine gSlice_intro rfl ?_
  refine hc_intro (num_way_div.hs (show In .i64 (2 : Int) by decide) (r0_1.tame (m_1.trans (m_2.trans m_3))) rfl (r1_1.tame (m_1.trans (m_2.trans m_3))) rfl) fun v h_4 ⟨k_4, s⟩ => ?_
  obtain ⟨p_4, hp_4⟩ : ∃ p, p = quoZ (wayF (2 : Int)) (b0_0, xs0_1) (b1_0, xs1_1) := ⟨_, rfl⟩
  rw [← hp_4] at s
  replace g := lift_let2 hp_4 g
  obtain ⟨_, _, rfl, ⟨a_4_0, c_4_0, rfl, r_4_0⟩, ⟨rfl, i_4_1⟩⟩ := s
  refine gTup_intro rfl (uncons_intro (gAgg_intro rfl (uncons_intro (gBool_intro rfl (uncons_intro (gSlice_intro rfl (unnil_intro (uncons_intro (gInt_intro rfl (unnil_intro (?_)))))))))))
  have r_4_0 := r_4_0.from k0.le
  have m_4 := k_4.tame
  have bx_1 := bx_1.keep k_4
  have bx_2 := bx_2.keep k_4
  have bx_3 := bx_3.keep k_4
  have k0 := k0.trans k_4
  have kh := kh.trans k_4
  refine stA bx_3 (base_add _ _) rfl fun h_5 bx_3 k_5 m_5 => ?_
  have bx_1 := bx_1.keepB d_1q_3 k_5
  have bx_2 := bx_2.keepB d_2q_3 k_5
  have k0 := KeepB.keep k0 k_5 o_3
  have kh := KeepB.keep kh k_5 oh_3
  refine stA bx_3 (base_add _ _) rfl fun h_6 bx_3 k_6 m_6 => ?_
  have bx_1 := bx_1.keepB d_1q_3 k_6
  have bx_2 := bx_2.keepB d_2q_3 k_6
  have k0 := KeepB.keep k0 k_6 o_3
  have kh := KeepB.keep kh k_6 oh_3
  refine ldA bx_3 (base_add _ _) rfl ?_
  refine gBool_intro rfl ?_
  refine ldA bx_3 (base_add _ _) rfl ?_
  refine gSlice_intro rfl ?_
  exact g _ _ k0 ⟨_, _, rfl, ⟨_, _, rfl, (r_4_0.tame (m_5.trans m_6))⟩, ⟨rfl, i_4_1⟩⟩
def v (b0_0 : Bool) (xs0_1 : List Nat) (b1_0 : Bool) (xs1_1 : List Nat) : ((Bool × List Nat) × Int) := D1.v b0_0 xs0_1 b1_0 xs1_1
theorem hv {h : Hp} {b0_0 : Bool} {a0_1 : Option Addr} {c0_1 l0_1 : Nat} {xs0_1 : List Nat} (r0_1 : Rd h a0_1 c0_1 xs0_1) (e0_1 : l0_1 = xs0_1.length) {b1_0 : Bool} {a1_1 : Option Addr} {c1_1 l1_1 : Nat} {xs1_1 : List Nat} (r1_1 : Rd h a1_1 c1_1 xs1_1) (e1_1 : l1_1 = xs1_1.length) : HC id #[.agg #[.bool b0_0, .slice a0_1 l0_1 c0_1], .agg #[.bool b1_0, .slice a1_1 l1_1 c1_1]] h fun v_ h_ => Keep h h_ ∧ (s2 sZW (sI .i64)) h h_ v_ (v b0_0 xs0_1 b1_0 xs1_1) :=
  ok (D1.hv (Keep.refl _) r0_1 e0_1 r1_1 e1_1 fun v h' k s => ⟨k, s⟩)
end num_NearDiv

namespace num_Mod
def D3.v (b3_0 : Bool) (xs3_1 : List Nat) (b4_0 : Bool) (xs4_1 : List Nat) (xs7 : List Nat) (x8 : Int) : ((Bool × List Nat) × Int) :=
  letV (tellZ b3_0 (xs7, x8)) fun p_14 =>
  ((p_14.1.1, p_14.1.2), p_14.2)
theorem D3.hv {R : Rt} {h0 h : Hp} (k0 : Keep h0 h) {b3_0 : Bool} {a3_1 : Option Addr} {c3_1 : Nat} {xs3_1 : List Nat} (r3_1 : Rd h a3_1 c3_1 xs3_1) {B3 : Nat} (bx3 : BlkV h B3 [.bool b3_0, .slice a3_1 xs3_1.length c3_1]) (o3 : h0.size ≤ B3) {b4_0 : Bool} {a4_1 : Option Addr} {c4_1 : Nat} {xs4_1 : List Nat} (r4_1 : GotE eU64 h0 h a4_1 c4_1 xs4_1) {B4 : Nat} (bx4 : BlkV h B4 [.bool b4_0, .slice a4_1 xs4_1.length c4_1]) (o4 : h0.size ≤ B4) {a7 : Option Addr} {c7 l7 : Nat} {xs7 : List Nat} (r7 : GotE eU64 h0 h a7 c7 xs7) (e7 : l7 = xs7.length) {x8 : Int} (i8 : In .i64 x8) (d3q4 : B3 ≠ B4) (g : Post (s2 sZW (sI .i64)) h0 R (D3.v b3_0 xs3_1 b4_0 xs4_1 xs7 x8)) : D3.t R (⟨B3, 0, none⟩ : Addr) (⟨B4, 0, none⟩ : Addr) a7 l7 c7 x8 h := by
  subst e7
  have kh := Keep.refl h
  have lt3 := bx3.lt
  have lt4 := bx4.lt
  unfold D3.v at g
  unfold D3.t
  refine ldA bx3 (base_add _ _) rfl ?_
  refine gBool_intro rfl ?_
  refine hc_intro (num_told.hf r7 rfl i8) fun v h_1 ⟨k_1, s⟩ => ?_
  obtain ⟨p_14, hp_14⟩ : ∃ p, p = tellZ b3_0 (xs7, x8) := ⟨_, rfl⟩
  rw [← hp_14] at s
  replace g := lift_let2 hp_14 g
  obtain ⟨_, _, rfl, ⟨a_14_0, c_14_0, rfl, r_14_0⟩, ⟨rfl, i_14_1⟩⟩ := s
  refine gTup_intro rfl (uncons_intro (gAgg_intro rfl (uncons_intro (gBool_intro rfl (uncons_intro (gSlice_intro rfl (unnil_intro (uncons_intro (gInt_intro rfl (unnil_intro (?_)))))))))))
  have m_1 := k_1.tame
  have bx3 := bx3.keep k_1
  have bx4 := bx4.keep k_1
  have k0 := k0.trans k_1
  have kh := kh.trans k_1
  refine stA bx4 (base_add _ _) rfl fun h_2 bx4 k_2 m_2 => ?_
  have bx3 := bx3.keepB d3q4 k_2
  have k0 := KeepB.keep k0 k_2 o4
  refine stA bx4 (base_add _ _) rfl fun h_3 bx4 k_3 m_3 => ?_
  have bx3 := bx3.keepB d3q4 k_3
  have k0 := KeepB.keep k0 k_3 o4
  refine ldA bx4 (base_add _ _) rfl ?_
  refine gBool_intro rfl ?_
  refine ldA bx4 (base_add _ _) rfl ?_
  refine gSlice_intro rfl ?_
  exact g _ _ k0 ⟨_, _, rfl, ⟨_, _, rfl, (r_14_0.tame (m_2.trans m_3))⟩, ⟨rfl, i_14_1⟩⟩
def D2.v (b2_0 : Bool) (xs2_1 : List Nat) (b3_0 : Bool) (xs3_1 : List Nat) (b4_0 : Bool) (xs4_1 : List Nat) : ((Bool × List Nat) × Int) :=
  bif ((((xs3_1.length : Nat) : Int)) == (0 : Int)) then
    ((false, ([] : List Nat)), (4 : Int))
  else
    letV (quoS xs2_1 xs3_1) fun p_9 =>
    bif (p_9.2.2 != (0 : Int)) then
      ((false, ([] : List Nat)), p_9.2.2)
    else
      bif (!(b2_0 == b3_0)) then
        bif (decide ((((p_9.2.1.length : Nat) : Int)) > (0 : Int))) then
          letV (subS xs3_1 p_9.2.1) fun p_13 =>
          D3.v b3_0 xs3_1 b4_0 xs4_1 p_13.1 p_13.2
        else
          D3.v b3_0 xs3_1 b4_0 xs4_1 p_9.2.1 p_9.2.2
      else
        D3.v b3_0 xs3_1 b4_0 xs4_1 p_9.2.1 p_9.2.2
theorem D2.hv {R : Rt} {h0 h : Hp} (k0 : Keep h0 h) {b2_0 : Bool} {a2_1 : Option Addr} {c2_1 : Nat} {xs2_1 : List Nat} (r2_1 : Rd h a2_1 c2_1 xs2_1) {B2 : Nat} (bx2 : BlkV h B2 [.bool b2_0, .slice a2_1 xs2_1.length c2_1]) (o2 : h0.size ≤ B2) {b3_0 : Bool} {a3_1 : Option Addr} {c3_1 : Nat} {xs3_1 : List Nat} (r3_1 : Rd h a3_1 c3_1 xs3_1) {B3 : Nat} (bx3 : BlkV h B3 [.bool b3_0, .slice a3_1 xs3_1.length c3_1]) (o3 : h0.size ≤ B3) {b4_0 : Bool} {a4_1 : Option Addr} {c4_1 : Nat} {xs4_1 : List Nat} (r4_1 : GotE eU64 h0 h a4_1 c4_1 xs4_1) {B4 : Nat} (bx4 : BlkV h B4 [.bool b4_0, .slice a4_1 xs4_1.length c4_1]) (o4 : h0.size ≤ B4) (d2q3 : B2 ≠ B3) (d2q4 : B2 ≠ B4) (d3q4 : B3 ≠ B4) (g : Post (s2 sZW (sI .i64)) h0 R (D2.v b2_0 xs2_1 b3_0 xs3_1 b4_0 xs4_1)) : D2.t R (⟨B2, 0, none⟩ : Addr) (⟨B3, 0, none⟩ : Addr) (⟨B4, 0, none⟩ : Addr) h := by
  have kh := Keep.refl h
  have lt2 := bx2.lt
  have lt3 := bx3.lt
  have lt4 := bx4.lt
  unfold D2.v at g
  unfold D2.t
  refine ldA bx3 (base_add _ _) rfl ?_
  refine gSlice_intro rfl ?_
  refine lift_eq g (fun q_8 g => ?_) (fun q_8 g => ?_)
  · refine stA bx4 (base_add _ _) rfl fun h_1 bx4 k_1 m_1 => ?_
    have bx2 := bx2.keepB d2q4 k_1
    have bx3 := bx3.keepB d3q4 k_1
    have k0 := KeepB.keep k0 k_1 o4
    refine stA bx4 (base_add _ _) rfl fun h_2 bx4 k_2 m_2 => ?_
    have bx2 := bx2.keepB d2q4 k_2
    have bx3 := bx3.keepB d3q4 k_2
    have k0 := KeepB.keep k0 k_2 o4
    refine ldA bx4 (base_add _ _) rfl ?_
    refine gBool_intro rfl ?_
    refine ldA bx4 (base_add _ _) rfl ?_
    refine gSlice_intro rfl ?_
    exact g _ _ k0 ⟨_, _, rfl, ⟨_, _, rfl, (GotE.nil _ _)⟩, ⟨rfl, (show In .i64 (4 : Int) by decide)⟩⟩
  · refine ldA bx2 (base_add _ _) rfl ?_
    refine gSlice_intro rfl ?_
    refine ldA bx3 (base_add _ _) rfl ?_
    refine gSlice_intro rfl ?_
    refine hc_intro (natdiv_QuoRem.hv r2_1 rfl r3_1 rfl) fun v h_1 ⟨k_1, s⟩ => ?_
    obtain ⟨p_9, hp_9⟩ : ∃ p, p = quoS xs2_1 xs3_1 := ⟨_, rfl⟩
    rw [← hp_9] at s
    replace g := lift_let2 hp_9 g
    obtain ⟨_, _, _, rfl, ⟨a_9_0, c_9_0, rfl, r_9_0⟩, ⟨a_9_1, c_9_1, rfl, r_9_1⟩, ⟨rfl, i_9_2⟩⟩ := s
    refine gTup_intro rfl (uncons_intro (gSlice_intro rfl (uncons_intro (gSlice_intro rfl (uncons_intro (gInt_intro rfl (unnil_intro (?_))))))))
    have r_9_0 := r_9_0.from k0.le
    have r_9_1 := r_9_1.from k0.le
    have m_1 := k_1.tame
    have bx2 := bx2.keep k_1
    have bx3 := bx3.keep k_1
    have bx4 := bx4.keep k_1
    have k0 := k0.trans k_1
    have kh := kh.trans k_1
    refine lift_ne g (fun q_10 g => ?_) (fun q_10 g => ?_)
    · refine stA bx4 (base_add _ _) rfl fun h_2 bx4 k_2 m_2 => ?_
      have bx2 := bx2.keepB d2q4 k_2
      have bx3 := bx3.keepB d3q4 k_2
      have k0 := KeepB.keep k0 k_2 o4
      refine stA bx4 (base_add _ _) rfl fun h_3 bx4 k_3 m_3 => ?_
      have bx2 := bx2.keepB d2q4 k_3
      have bx3 := bx3.keepB d3q4 k_3
      have k0 := KeepB.keep k0 k_3 o4
      refine ldA bx4 (base_add _ _) rfl ?_
      refine gBool_intro rfl ?_
      refine ldA bx4 (base_add _ _) rfl ?_
      refine gSlice_intro rfl ?_
      exact g _ _ k0 ⟨_, _, rfl, ⟨_, _, rfl, (GotE.nil _ _)⟩, ⟨rfl, i_9_2⟩⟩
    · refine ldA bx2 (base_add _ _) rfl ?_
      refine gBool_intro rfl ?_
      refine ldA bx3 (base_add _ _) rfl ?_
      refine gBool_intro rfl ?_
      refine lift_not g (fun q_11 g => ?_) (fun q_11 g => ?_)
      · refine lift_dec g (fun q_12 g => ?_) (fun q_12 g => ?_)
        · refine ldA bx3 (base_add _ _) rfl ?_
          refine gSlice_intro rfl ?_
          refine hc_intro (nat_Sub.hv (r3_1.tame (m_1)) rfl r_9_1.rd64 rfl) fun v h_2 ⟨k_2, s⟩ => ?_
          obtain ⟨p_13, hp_13⟩ : ∃ p, p = subS xs3_1 p_9.2.1 := ⟨_, rfl⟩
          rw [← hp_13] at s
          replace g := lift_let2 hp_13 g
          obtain ⟨_, _, rfl, ⟨a_13_0, c_13_0, rfl, r_13_0⟩, ⟨rfl, i_13_1⟩⟩ := s
          refine gTup_intro rfl (uncons_intro (gSlice_intro rfl (uncons_intro (gInt_intro rfl (unnil_intro (?_))))))
          have r_13_0 := r_13_0.from k0.le
          have m_2 := k_2.tame
          have bx2 := bx2.keep k_2
          have bx3 := bx3.keep k_2
          have bx4 := bx4.keep k_2
          have k0 := k0.trans k_2
          have kh := kh.trans k_2
          exact D3.hv k0 (r3_1.tame (m_1.trans m_2)) bx3 o3 (r4_1.tame (m_1.trans m_2)) bx4 o4 r_13_0 rfl i_13_1 d3q4 g
        · exact D3.hv k0 (r3_1.tame (m_1)) bx3 o3 (r4_1.tame (m_1)) bx4 o4 r_9_1 rfl i_9_2 d3q4 g
      · exact D3.hv k0 (r3_1.tame (m_1)) bx3 o3 (r4_1.tame (m_1)) bx4 o4 r_9_1 rfl i_9_2 d3q4 g
def D1.v (b0_0 : Bool) (xs0_1 : List Nat) (b1_0 : Bool) (xs1_1 : List Nat) : ((Bool × List Nat) × Int) :=
  bif (!(decide (FrmZ (b0_0, xs0_1)))) then
    ((false, ([] : List Nat)), (2 : Int))
  else
    bif (!(decide (FrmZ (b1_0, xs1_1)))) then
      ((false, ([] : List Nat)), (2 : Int))
    else
      D2.v b0_0 xs0_1 b1_0 xs1_1 false ([] : List Nat)
theorem D1.hv {R : Rt} {h0 h : Hp} (k0 : Keep h0 h) {b0_0 : Bool} {a0_1 : Option Addr} {c0_1 l0_1 : Nat} {xs0_1 : List Nat} (r0_1 : Rd h a0_1 c0_1 xs0_1) (e0_1 : l0_1 = xs0_1.length) {b1_0 : Bool} {a1_1 : Option Addr} {c1_1 l1_1 : Nat} {xs1_1 : List Nat} (r1_1 : Rd h a1_1 c1_1 xs1_1) (e1_1 : l1_1 = xs1_1.length) (g : Post (s2 sZW (sI .i64)) h0 R (D1.v b0_0 xs0_1 b1_0 xs1_1)) : D1.t R b0_0 a0_1 l0_1 c0_1 b1_0 a1_1 l1_1 c1_1 h := by
  subst e0_1 e1_1
  have kh := Keep.refl h
  unfold D1.v at g
  unfold D1.t
  refine boxV fun h_1 bx_1 k_1 => ?_
  have o_1 : h0.size ≤ h.size := k0.le
  have oh_1 : h.size ≤ h.size := kh.le
  have lt_1 := bx_1.lt
  have m_1 := k_1.tame
  have k0 := k0.trans k_1
  have kh := kh.trans k_1
  refine boxV fun h_2 bx_2 k_2 => ?_
  have d_1q_2 : h.size ≠ h_1.size := Nat.ne_of_lt bx_1.lt
  have o_2 : h0.size ≤ h_1.size := k0.le
  have oh_2 : h.size ≤ h_1.size := kh.le
  have lt_2 := bx_2.lt
  have m_2 := k_2.tame
  have bx_1 := bx_1.keep k_2
  have k0 := k0.trans k_2
  have kh := kh.trans k_2
  refine boxV fun h_3 bx_3 k_3 => ?_
  have d_1q_3 : h.size ≠ h_2.size := Nat.ne_of_lt bx_1.lt
  have d_2q_3 : h_1.size ≠ h_2.size := Nat.ne_of_lt bx_2.lt
  have o_3 : h0.size ≤ h_2.size := k0.le
  have oh_3 : h.size ≤ h_2.size := kh.le
  have lt_3 := bx_3.lt
  have m_3 := k_3.tame
  have bx_1 := bx_1.keep k_3
  have bx_2 := bx_2.keep k_3
  have k0 := k0.trans k_3
  have kh := kh.trans k_3
  refine ldA bx_1 (base_add _ _) rfl ?_
  refine gBool_intro rfl ?_
  refine ldA bx_1 (base_add _ _) rfl ?_
  refine gSlice_intro rfl ?_
  refine hc_intro (num_Form.hs (r0_1.tame (m_1.trans (m_2.trans m_3))) rfl) fun v h_4 ⟨k_4, s⟩ => ?_
  obtain rfl := s
  refine gBool_intro rfl (?_)
  have m_4 := k_4.tame
  have bx_1 := bx_1.keep k_4
  have bx_2 := bx_2.keep k_4
  have bx_3 := bx_3.keep k_4
  have k0 := k0.trans k_4
  have kh := kh.trans k_4
  refine lift_not g (fun q_5 g => ?_) (fun q_5 g => ?_)
  · refine stA bx_3 (base_add _ _) rfl fun h_5 bx_3 k_5 m_5 => ?_
    have bx_1 := bx_1.keepB d_1q_3 k_5
    have bx_2 := bx_2.keepB d_2q_3 k_5
    have k0 := KeepB.keep k0 k_5 o_3
    have kh := KeepB.keep kh k_5 oh_3
    refine stA bx_3 (base_add _ _) rfl fun h_6 bx_3 k_6 m_6 => ?_
    have bx_1 := bx_1.keepB d_1q_3 k_6
    have bx_2 := bx_2.keepB d_2q_3 k_6
    have k0 := KeepB.keep k0 k_6 o_3
    have kh := KeepB.keep kh k_6 oh_3
    refine ldA bx_3 (base_add _ _) rfl ?_
    refine gBool_intro rfl ?_
    refine ldA bx_3 (base_add _ _) rfl ?_
    refine gSlice_intro rfl ?_
    exact g _ _ k0 ⟨_, _, rfl, ⟨_, _, rfl, (GotE.nil _ _)⟩, ⟨rfl, (show In .i64 (2 : Int) by decide)⟩⟩
  · refine ldA bx_2 (base_add _ _) rfl ?_
    refine gBool_intro rfl ?_
    refine ldA bx_2 (base_add _ _) rfl ?_
    refine gSlice_intro rfl ?_
    refine hc_intro (num_Form.hs (r1_1.tame (m_1.trans (m_2.trans (m_3.trans m_4)))) rfl) fun v h_5 ⟨k_5, s⟩ => ?_
    obtain rfl := s
    refine gBool_intro rfl (?_)
    have m_5 := k_5.tame
    have bx_1 := bx_1.keep k_5
    have bx_2 := bx_2.keep k_5
    have bx_3 := bx_3.keep k_5
    have k0 := k0.trans k_5
    have kh := kh.trans k_5
    refine lift_not g (fun q_7 g => ?_) (fun q_7 g => ?_)
    · refine stA bx_3 (base_add _ _) rfl fun h_6 bx_3 k_6 m_6 => ?_
      have bx_1 := bx_1.keepB d_1q_3 k_6
      have bx_2 := bx_2.keepB d_2q_3 k_6
      have k0 := KeepB.keep k0 k_6 o_3
      have kh := KeepB.keep kh k_6 oh_3
      refine stA bx_3 (base_add _ _) rfl fun h_7 bx_3 k_7 m_7 => ?_
      have bx_1 := bx_1.keepB d_1q_3 k_7
      have bx_2 := bx_2.keepB d_2q_3 k_7
      have k0 := KeepB.keep k0 k_7 o_3
      have kh := KeepB.keep kh k_7 oh_3
      refine ldA bx_3 (base_add _ _) rfl ?_
      refine gBool_intro rfl ?_
      refine ldA bx_3 (base_add _ _) rfl ?_
      refine gSlice_intro rfl ?_
      exact g _ _ k0 ⟨_, _, rfl, ⟨_, _, rfl, (GotE.nil _ _)⟩, ⟨rfl, (show In .i64 (2 : Int) by decide)⟩⟩
    · exact D2.hv k0 (r0_1.tame (m_1.trans (m_2.trans (m_3.trans (m_4.trans m_5))))) bx_1 o_1 (r1_1.tame (m_1.trans (m_2.trans (m_3.trans (m_4.trans m_5))))) bx_2 o_2 (GotE.nil _ _) bx_3 o_3 d_1q_2 d_1q_3 d_2q_3 g
def v (b0_0 : Bool) (xs0_1 : List Nat) (b1_0 : Bool) (xs1_1 : List Nat) : ((Bool × List Nat) × Int) := D1.v b0_0 xs0_1 b1_0 xs1_1
theorem hv {h : Hp} {b0_0 : Bool} {a0_1 : Option Addr} {c0_1 l0_1 : Nat} {xs0_1 : List Nat} (r0_1 : Rd h a0_1 c0_1 xs0_1) (e0_1 : l0_1 = xs0_1.length) {b1_0 : Bool} {a1_1 : Option Addr} {c1_1 l1_1 : Nat} {xs1_1 : List Nat} (r1_1 : Rd h a1_1 c1_1 xs1_1) (e1_1 : l1_1 = xs1_1.length) : HC id #[.agg #[.bool b0_0, .slice a0_1 l0_1 c0_1], .agg #[.bool b1_0, .slice a1_1 l1_1 c1_1]] h fun v_ h_ => Keep h h_ ∧ (s2 sZW (sI .i64)) h h_ v_ (v b0_0 xs0_1 b1_0 xs1_1) :=
  ok (D1.hv (Keep.refl _) r0_1 e0_1 r1_1 e1_1 fun v h' k s => ⟨k, s⟩)
end num_Mod

end Go.Proofs.YtanlcacaihdceaaGreatDoor.G

/- The other calls of layer 4 over values. -/
namespace Go.Proofs.YtanlcacaihdceaaGreatDoor.G
open Go.Gv
set_option linter.unusedVariables false
set_option maxRecDepth 100000
theorem Mod_v {b c : Bool} {xs ys : List Nat} (hw : Words xs) (hy : Words ys) : num_Mod.v b xs c ys = quoZ mo (b, xs) (c, ys) := by
  unfold num_Mod.v num_Mod.D1.v num_Mod.D2.v quoZ
  by_cases f : FrmZ (b, xs)
  · by_cases f2 : FrmZ (c, ys)
    · simp only [f, f2, decide_true, letV, Bool.not_true, cond_false, and_self, if_true]
      have hz : zi (c, ys) = 0 ↔ ys = [] := by rw [zi_sg, sg_eq_zero]; exact val_nil_iff f2.1
      by_cases h0 : ys = []
      · rw [if_pos (hz.mpr h0)]; subst h0; rfl
      · have hB : val ys ≠ 0 := fun h => h0 ((val_nil_iff f2.1).mp h)
        have e0 : (((ys.length : Nat) : Int) == 0) = false := by simp; exact h0
        rw [if_neg (fun h => h0 (hz.mp h)), e0, cond_false]
        have ly : (digs (val ys)).length ≤ 8192 := by rw [digs_frm f2 hy]; exact f2.1.1
        have eq : quoS xs ys = (digs (val xs / val ys), digs (val xs % val ys), 0) := by
          unfold quoS
          rw [if_pos ⟨f.1, f2.1⟩, if_neg hB]
        have hm := Nat.mod_lt (val xs) (show 0 < val ys by omega)
        have lr : (digs (val xs % val ys)).length ≤ 8192 := Nat.le_trans (digs_len_mono (Nat.le_of_lt hm)) ly
        have el : decide (((digs (val xs % val ys)).length : Int) > 0) = decide (val xs % val ys ≠ 0) := by
          rw [← len_pos_digs, decide_eq_decide]; omega
        have e1 : ((0 : Int) != 0) = false := rfl
        have es : subS ys (digs (val xs % val ys)) = lim (val ys - val xs % val ys) := by
          rw [subS_form f2.1 ⟨lr, trimL_digs _⟩ (by rw [val_digs]; exact Nat.le_of_lt hm), val_digs]
        have er : (digs (val xs % val ys), (0 : Int)) = lim (val xs % val ys) := by unfold lim; rw [if_pos lr]
        have D : ∀ p : List Nat × Int, num_Mod.D3.v c ys false [] p.1 p.2 = tellZ c p := fun _ => rfl
        have D2 : num_Mod.D3.v c ys false [] (digs (val xs % val ys)) 0 = tellZ c (lim (val xs % val ys)) := by rw [← er]; rfl
        rw [eq]
        simp only [el, e1, cond_false, D2]
        rw [D, es, tell_lim, tell_lim]
        show _ = zlim (mo (sg b (val xs)) (sg c (val ys)))
        rw [mo_sg hB (frmZ_ne f)]
        have ex : (!(b == c)) = xor b c := by cases b <;> cases c <;> rfl
        rw [ex]
        by_cases c1 : xor b c = true
        · rw [c1, cond_true]
          by_cases c2 : val xs % val ys ≠ 0
          · simp [c2]
          · simp [c2]
        · have c1 : xor b c = false := by simpa using c1
          rw [c1, cond_false]; simp
    · simp only [f, f2, decide_true, decide_false, letV, Bool.not_true, Bool.not_false, cond_false, cond_true, and_false, if_false]; rfl
  · simp only [f, decide_false, letV, Bool.not_false, cond_true, false_and, if_false]; rfl
section
variable {a b : Option Addr} {c d l m : Nat} {xs ys : List Nat} {h : Hp} {x y : Int} {p q : Bool}
theorem num_NearShr.hs (r : Rd h a c xs) (e : l = xs.length) (i : In .i64 x) (tb : Tab h) : HC num_NearShr.id #[.agg #[.bool p, .slice a l c], .int .i64 x] h fun v h' => Keep h h' ∧ s2 sZW (sI .i64) h h' v (shrZ nea (p, xs) x) := num_NearShr.hv r e i tb
theorem num_FloorDiv.hs (r : Rd h a c xs) (e : l = xs.length) (s : Rd h b d ys) (f : m = ys.length) : HC num_FloorDiv.id #[.agg #[.bool p, .slice a l c], .agg #[.bool q, .slice b m d]] h fun v h' => Keep h h' ∧ s2 sZW (sI .i64) h h' v (quoZ flo (p, xs) (q, ys)) := num_FloorDiv.hv r e s f
theorem num_CeilDiv.hs (r : Rd h a c xs) (e : l = xs.length) (s : Rd h b d ys) (f : m = ys.length) : HC num_CeilDiv.id #[.agg #[.bool p, .slice a l c], .agg #[.bool q, .slice b m d]] h fun v h' => Keep h h' ∧ s2 sZW (sI .i64) h h' v (quoZ cei (p, xs) (q, ys)) := num_CeilDiv.hv r e s f
theorem num_NearDiv.hs (r : Rd h a c xs) (e : l = xs.length) (s : Rd h b d ys) (f : m = ys.length) : HC num_NearDiv.id #[.agg #[.bool p, .slice a l c], .agg #[.bool q, .slice b m d]] h fun v h' => Keep h h' ∧ s2 sZW (sI .i64) h h' v (quoZ nea (p, xs) (q, ys)) := num_NearDiv.hv r e s f
theorem num_Mod.hs (r : Rd h a c xs) (e : l = xs.length) (s : Rd h b d ys) (f : m = ys.length) : HC num_Mod.id #[.agg #[.bool p, .slice a l c], .agg #[.bool q, .slice b m d]] h fun v h' => Keep h h' ∧ s2 sZW (sI .i64) h h' v (quoZ mo (p, xs) (q, ys)) := by rw [← Mod_v r.words s.words]; exact num_Mod.hv r e s f
end
end Go.Proofs.YtanlcacaihdceaaGreatDoor.G

/- The reference's digits in the form that the lifted functions use. -/
namespace Go.Proofs.YtanlcacaihdceaaGreatDoor.G
open Go.Gv
set_option linter.unusedVariables false
section
variable {a b : Option Addr} {c d l m X Y : Nat} {xs ys : List Nat} {h : Hp} {x y : Int}
theorem gnomonref01_Norm.hv (r : RdE eU32 h a c (D.digs X)) (e : l = (D.digs X).length) : HC gnomonref01_Norm.id #[.slice a l c] h fun v h' => Keep h h' ∧ sD h h' v X := by
  have := rNorm_spec r e
  rw [D.val_digs] at this; exact this
theorem gnomonref01_From.hv (r : Rd h a c xs) (e : l = xs.length) : HC gnomonref01_From.id #[.slice a l c] h fun v h' => Keep h h' ∧ sD h h' v (val xs) := From_spec r e
theorem gnomonref01_To.hv (r : RdE eU32 h a c (D.digs X)) (e : l = (D.digs X).length) : HC gnomonref01_To.id #[.slice a l c] h fun v h' => Keep h h' ∧ sW h h' v (digs X) := To_spec r e
theorem gnomonref01_Same.hv (r : Rd h a c xs) (e : l = xs.length) (s : Rd h b d ys) (f : m = ys.length) : HQC gnomonref01_Same.id #[.slice a l c, .slice b m d] h fun v => sBool h h v (decide (xs = ys)) := Same_spec r s e f
end
end Go.Proofs.YtanlcacaihdceaaGreatDoor.G

/- Functions without loops as functions of values. Written by a program of this work. -/
namespace Go.Proofs.YtanlcacaihdceaaGreatDoor.G
open Go.Gv
set_option linter.unusedVariables false
set_option maxRecDepth 100000
namespace gnomonref04_Mk
def D1.v (b0 : Bool) (X1 : Nat) : (Bool × Nat) :=
  letV (X1) fun p_2 =>
  bif b0 then
    ((decide (((((D.digs p_2).length : Nat) : Int)) > (0 : Int))), p_2)
  else
    (false, p_2)
theorem D1.hv {R : Rt} {h0 h : Hp} (k0 : Keep h0 h) {b0 : Bool} {a1 : Option Addr} {c1 l1 : Nat} {X1 : Nat} (r1 : RdE eU32 h a1 c1 (D.digs X1)) (e1 : l1 = (D.digs X1).length) (g : Post sZD h0 R (D1.v b0 X1)) : D1.t R b0 a1 l1 c1 h := by
  subst e1
  have kh := Keep.refl h
  unfold D1.v at g
  unfold D1.t
  refine boxV fun h_1 bx_1 k_1 => ?_
  have o_1 : h0.size ≤ h.size := k0.le
  have oh_1 : h.size ≤ h.size := kh.le
  have lt_1 := bx_1.lt
  have m_1 := k_1.tame
  have k0 := k0.trans k_1
  have kh := kh.trans k_1
  refine hc_intro (gnomonref01_Norm.hv (r1.tame (m_1)) rfl) fun v h_2 ⟨k_2, s⟩ => ?_
  obtain ⟨p_2, hp_2⟩ : ∃ p, p = X1 := ⟨_, rfl⟩
  rw [← hp_2] at s
  replace g := lift_let2 hp_2 g
  obtain ⟨a_2, c_2, rfl, r_2⟩ := s
  refine gSlice_intro rfl (?_)
  have r_2 := r_2.from k0.le
  have m_2 := k_2.tame
  have bx_1 := bx_1.keep k_2
  have k0 := k0.trans k_2
  have kh := kh.trans k_2
  refine lift_bool g (fun q_3 g => ?_) (fun q_3 g => ?_)
  · refine stA bx_1 (base_add _ _) rfl fun h_3 bx_1 k_3 m_3 => ?_
    have k0 := KeepB.keep k0 k_3 o_1
    have kh := KeepB.keep kh k_3 oh_1
    refine stA bx_1 (base_add _ _) rfl fun h_4 bx_1 k_4 m_4 => ?_
    have k0 := KeepB.keep k0 k_4 o_1
    have kh := KeepB.keep kh k_4 oh_1
    refine ldA bx_1 (base_add _ _) rfl ?_
    refine gBool_intro rfl ?_
    refine ldA bx_1 (base_add _ _) rfl ?_
    refine gSlice_intro rfl ?_
    exact g _ _ k0 ⟨_, _, rfl, (r_2.tame (m_3.trans m_4))⟩
  · refine stA bx_1 (base_add _ _) rfl fun h_3 bx_1 k_3 m_3 => ?_
    have k0 := KeepB.keep k0 k_3 o_1
    have kh := KeepB.keep kh k_3 oh_1
    refine stA bx_1 (base_add _ _) rfl fun h_4 bx_1 k_4 m_4 => ?_
    have k0 := KeepB.keep k0 k_4 o_1
    have kh := KeepB.keep kh k_4 oh_1
    refine ldA bx_1 (base_add _ _) rfl ?_
    refine gBool_intro rfl ?_
    refine ldA bx_1 (base_add _ _) rfl ?_
    refine gSlice_intro rfl ?_
    exact g _ _ k0 ⟨_, _, rfl, (r_2.tame (m_3.trans m_4))⟩
def v (b0 : Bool) (X1 : Nat) : (Bool × Nat) := D1.v b0 X1
theorem hv {h : Hp} {b0 : Bool} {a1 : Option Addr} {c1 l1 : Nat} {X1 : Nat} (r1 : RdE eU32 h a1 c1 (D.digs X1)) (e1 : l1 = (D.digs X1).length) : HC id #[.bool b0, .slice a1 l1 c1] h fun v_ h_ => Keep h h_ ∧ sZD h h_ v_ (v b0 X1) :=
  ok (D1.hv (Keep.refl _) r1 e1 fun v h' k s => ⟨k, s⟩)
end gnomonref04_Mk

namespace gnomonlaw04_same
def D1.v (b0_0 : Bool) (xs0_1 : List Nat) (b1_0 : Bool) (xs1_1 : List Nat) : Bool :=
  bif (b0_0 == b1_0) then
    (decide (xs0_1 = xs1_1))
  else
    false
theorem D1.hv {R : Rt} {h0 h : Hp} (k0 : Keep h0 h) {b0_0 : Bool} {a0_1 : Option Addr} {c0_1 l0_1 : Nat} {xs0_1 : List Nat} (r0_1 : Rd h a0_1 c0_1 xs0_1) (e0_1 : l0_1 = xs0_1.length) {b1_0 : Bool} {a1_1 : Option Addr} {c1_1 l1_1 : Nat} {xs1_1 : List Nat} (r1_1 : Rd h a1_1 c1_1 xs1_1) (e1_1 : l1_1 = xs1_1.length) (g : Post sBool h0 R (D1.v b0_0 xs0_1 b1_0 xs1_1)) : D1.t R b0_0 a0_1 l0_1 c0_1 b1_0 a1_1 l1_1 c1_1 h := by
  subst e0_1 e1_1
  have kh := Keep.refl h
  unfold D1.v at g
  unfold D1.t
  refine boxV fun h_1 bx_1 k_1 => ?_
  have o_1 : h0.size ≤ h.size := k0.le
  have oh_1 : h.size ≤ h.size := kh.le
  have lt_1 := bx_1.lt
  have m_1 := k_1.tame
  have k0 := k0.trans k_1
  have kh := kh.trans k_1
  refine boxV fun h_2 bx_2 k_2 => ?_
  have d_1q_2 : h.size ≠ h_1.size := Nat.ne_of_lt bx_1.lt
  have o_2 : h0.size ≤ h_1.size := k0.le
  have oh_2 : h.size ≤ h_1.size := kh.le
  have lt_2 := bx_2.lt
  have m_2 := k_2.tame
  have bx_1 := bx_1.keep k_2
  have k0 := k0.trans k_2
  have kh := kh.trans k_2
  refine ldA bx_1 (base_add _ _) rfl ?_
  refine gBool_intro rfl ?_
  refine ldA bx_2 (base_add _ _) rfl ?_
  refine gBool_intro rfl ?_
  refine lift_bool g (fun q_3 g => ?_) (fun q_3 g => ?_)
  · refine ldA bx_1 (base_add _ _) rfl ?_
    refine gSlice_intro rfl ?_
    refine ldA bx_2 (base_add _ _) rfl ?_
    refine gSlice_intro rfl ?_
    refine hq_intro (gnomonref01_Same.hv (r0_1.tame (m_1.trans m_2)) rfl (r1_1.tame (m_1.trans m_2)) rfl) fun v s => ?_
    obtain rfl := s
    refine gBool_intro rfl (?_)
    exact g _ _ k0 rfl
  · exact g _ _ k0 rfl
def v (b0_0 : Bool) (xs0_1 : List Nat) (b1_0 : Bool) (xs1_1 : List Nat) : Bool := D1.v b0_0 xs0_1 b1_0 xs1_1
theorem hv {h : Hp} {b0_0 : Bool} {a0_1 : Option Addr} {c0_1 l0_1 : Nat} {xs0_1 : List Nat} (r0_1 : Rd h a0_1 c0_1 xs0_1) (e0_1 : l0_1 = xs0_1.length) {b1_0 : Bool} {a1_1 : Option Addr} {c1_1 l1_1 : Nat} {xs1_1 : List Nat} (r1_1 : Rd h a1_1 c1_1 xs1_1) (e1_1 : l1_1 = xs1_1.length) : HC id #[.agg #[.bool b0_0, .slice a0_1 l0_1 c0_1], .agg #[.bool b1_0, .slice a1_1 l1_1 c1_1]] h fun v_ h_ => Keep h h_ ∧ sBool h h_ v_ (v b0_0 xs0_1 b1_0 xs1_1) :=
  ok (D1.hv (Keep.refl _) r0_1 e0_1 r1_1 e1_1 fun v h' k s => ⟨k, s⟩)
end gnomonlaw04_same

end Go.Proofs.YtanlcacaihdceaaGreatDoor.G

/- The reference's whole numbers: making one. -/
namespace Go.Proofs.YtanlcacaihdceaaGreatDoor.G
open Go.Gv
set_option linter.unusedVariables false
theorem dlenZ (X : Nat) : (D.digs X).length = 0 ↔ X = 0 := by
  constructor
  · intro h
    have h2 : D.digs X = [] := List.length_eq_zero_iff.mp h
    rw [← D.val_digs X, h2]; rfl
  · intro h; subst h; simp [D.digs_zero]
theorem Mk_v (b : Bool) (X : Nat) : gnomonref04_Mk.v b X = dz (sg b X) := by
  unfold gnomonref04_Mk.v gnomonref04_Mk.D1.v
  rw [dz_sg]
  have e : decide ((((D.digs X).length : Nat) : Int) > 0) = decide (X ≠ 0) := by
    rw [decide_eq_decide]; have := dlenZ X; omega
  simp only [letV, e]
  cases b <;> rfl
theorem same_v (b c : Bool) (xs ys : List Nat) : gnomonlaw04_same.v b xs c ys = decide ((b, xs) = (c, ys)) := by
  unfold gnomonlaw04_same.v gnomonlaw04_same.D1.v
  by_cases h : b = c
  · subst h; simp
  · have : (b == c) = false := by simp [h]
    rw [this]; simp [h]
section
variable {a b : Option Addr} {c d l m X : Nat} {xs ys : List Nat} {h : Hp} {x y : Int} {p q : Bool}
theorem gnomonref04_Mk.hs (r : RdE eU32 h a c (D.digs X)) (e : l = (D.digs X).length) : HC gnomonref04_Mk.id #[.bool p, .slice a l c] h fun v h' => Keep h h' ∧ sZD h h' v (dz (sg p X)) := by rw [← Mk_v]; exact gnomonref04_Mk.hv r e
theorem gnomonlaw04_same.hs (r : Rd h a c xs) (e : l = xs.length) (s : Rd h b d ys) (f : m = ys.length) : HC gnomonlaw04_same.id #[.agg #[.bool p, .slice a l c], .agg #[.bool q, .slice b m d]] h fun v h' => Keep h h' ∧ sBool h h' v (decide ((p, xs) = (q, ys))) := by rw [← same_v]; exact gnomonlaw04_same.hv r e s f
theorem gnomonref04_Of.hs (i : In .i64 x) : HC gnomonref04_Of.id #[.int .i64 x] h fun v h' => Keep h h' ∧ sZD h h' v (dz x) := by
  rw [in_i64] at i
  refine gnomonref04_Of.ok ?_
  unfold gnomonref04_Of.t gnomonref04_Of.D1.t
  refine boxV fun h2 o2 k2 => ?_
  refine c_dec (fun hx => ?_) fun hx => ?_
  · have hx : x < 0 := hx
    refine letK_intro (y := x + 1) (wrap_i64 (by omega) (by omega)) ?_
    refine letK_intro (y := -(x + 1)) (by rw [show 0 - (x + 1) = -(x + 1) by omega]; exact wrap_i64 (by omega) (by omega)) ?_
    refine letK_intro (y := (((x + 1).natAbs : Nat) : Int)) (by rw [wrap_u64]; omega) ?_
    refine hc_intro (rWord_spec (w := (x + 1).natAbs) rfl (by omega) h2) fun v h7 ⟨k7, s⟩ => ?_
    refine s.elim fun a1 c1 r1 => ?_
    refine hc_intro (rWord_spec (w := 1) rfl (by omega) h7) fun v h10 ⟨k10, s⟩ => ?_
    refine s.elim fun a2 c2 r2 => ?_
    have l1 : (D.digs (x + 1).natAbs).length ≤ 2 := dlen_pow.mpr (by omega)
    have l2 : (D.digs 1).length ≤ 2 := dlen_pow.mpr (by omega)
    refine hc_intro (rAdd_spec (r1.rd.keep k10) r2.rd rfl rfl (by omega) (by omega)) fun v h13 ⟨k13, s⟩ => ?_
    refine s.elim fun a3 c3 r3 => ?_
    refine hc_intro (gnomonref04_Mk.hs r3.rd rfl) fun v h16 ⟨k16, s⟩ => ?_
    have ez : sg true ((x + 1).natAbs + 1) = x := by unfold sg; simp only [if_true]; omega
    rw [ez] at s
    have kk := k2.trans (k7.trans (k10.trans k13))
    obtain ⟨a4, c4, e, r4⟩ := s
    subst e
    refine gAgg_intro rfl ?_
    refine uncons_intro ?_
    refine gBool_intro rfl ?_
    refine uncons_intro ?_
    refine gSlice_intro rfl ?_
    refine unnil_intro ?_
    have o2 := o2.keep (k7.trans (k10.trans (k13.trans k16)))
    refine stA o2 (base_add _ _) rfl fun h4 o2 k4 m4 => ?_
    refine stA o2 (base_add _ _) rfl fun h5 o2 k5 m5 => ?_
    refine ldA o2 (base_add _ _) rfl ?_
    refine gBool_intro rfl ?_
    refine ldA o2 (base_add _ _) rfl ?_
    refine gSlice_intro rfl ?_
    exact ⟨KeepB.keep (KeepB.keep (kk.trans k16) k4 (Nat.le_refl _)) k5 (Nat.le_refl _), _, _, rfl, (r4.from kk.le).tame (m4.trans m5)⟩
  · have hx : ¬ x < 0 := hx
    refine letK_intro (y := ((x.natAbs : Nat) : Int)) (by rw [wrap_u64]; omega) ?_
    refine hc_intro (rWord_spec (w := x.natAbs) rfl (by omega) h2) fun v h7 ⟨k7, s⟩ => ?_
    refine s.elim fun a1 c1 r1 => ?_
    refine hc_intro (gnomonref04_Mk.hs r1.rd rfl) fun v h16 ⟨k16, s⟩ => ?_
    have ez : sg false x.natAbs = x := by unfold sg; simp only [Bool.false_eq_true, if_false]; omega
    rw [ez] at s
    have kk := k2.trans k7
    obtain ⟨a4, c4, e, r4⟩ := s
    subst e
    refine gAgg_intro rfl ?_
    refine uncons_intro ?_
    refine gBool_intro rfl ?_
    refine uncons_intro ?_
    refine gSlice_intro rfl ?_
    refine unnil_intro ?_
    have o2 := o2.keep (k7.trans k16)
    refine stA o2 (base_add _ _) rfl fun h4 o2 k4 m4 => ?_
    refine stA o2 (base_add _ _) rfl fun h5 o2 k5 m5 => ?_
    refine ldA o2 (base_add _ _) rfl ?_
    refine gBool_intro rfl ?_
    refine ldA o2 (base_add _ _) rfl ?_
    refine gSlice_intro rfl ?_
    exact ⟨KeepB.keep (KeepB.keep (kk.trans k16) k4 (Nat.le_refl _)) k5 (Nat.le_refl _), _, _, rfl, (r4.from kk.le).tame (m4.trans m5)⟩
end
end Go.Proofs.YtanlcacaihdceaaGreatDoor.G

/- Functions without loops as functions of values. Written by a program of this work. -/
namespace Go.Proofs.YtanlcacaihdceaaGreatDoor.G
open Go.Gv
set_option linter.unusedVariables false
set_option maxRecDepth 100000
namespace gnomonref04_From
def D1.v (b0_0 : Bool) (xs0_1 : List Nat) : (Bool × Nat) :=
  letV (val xs0_1) fun p_3 =>
  letV (dz (sg b0_0 p_3)) fun p_4 =>
  (p_4.1, p_4.2)
theorem D1.hv {R : Rt} {h0 h : Hp} (k0 : Keep h0 h) {b0_0 : Bool} {a0_1 : Option Addr} {c0_1 l0_1 : Nat} {xs0_1 : List Nat} (r0_1 : Rd h a0_1 c0_1 xs0_1) (e0_1 : l0_1 = xs0_1.length) (g : Post sZD h0 R (D1.v b0_0 xs0_1)) : D1.t R b0_0 a0_1 l0_1 c0_1 h := by
  subst e0_1
  have kh := Keep.refl h
  unfold D1.v at g
  unfold D1.t
  refine boxV fun h_1 bx_1 k_1 => ?_
  have o_1 : h0.size ≤ h.size := k0.le
  have oh_1 : h.size ≤ h.size := kh.le
  have lt_1 := bx_1.lt
  have m_1 := k_1.tame
  have k0 := k0.trans k_1
  have kh := kh.trans k_1
  refine boxV fun h_2 bx_2 k_2 => ?_
  have d_1q_2 : h.size ≠ h_1.size := Nat.ne_of_lt bx_1.lt
  have o_2 : h0.size ≤ h_1.size := k0.le
  have oh_2 : h.size ≤ h_1.size := kh.le
  have lt_2 := bx_2.lt
  have m_2 := k_2.tame
  have bx_1 := bx_1.keep k_2
  have k0 := k0.trans k_2
  have kh := kh.trans k_2
  refine ⟨blkLt (base_add _ _) ((m_2).lt lt_1), ?_⟩
  refine ldA bx_1 (base_add _ _) rfl ?_
  refine gBool_intro rfl ?_
  refine ⟨blkLt (base_add _ _) ((m_2).lt lt_1), ?_⟩
  refine ldA bx_1 (base_add _ _) rfl ?_
  refine gSlice_intro rfl ?_
  refine hc_intro (gnomonref01_From.hv (r0_1.tame (m_1.trans m_2)) rfl) fun v h_3 ⟨k_3, s⟩ => ?_
  obtain ⟨p_3, hp_3⟩ : ∃ p, p = val xs0_1 := ⟨_, rfl⟩
  rw [← hp_3] at s
  replace g := lift_let2 hp_3 g
  obtain ⟨a_3, c_3, rfl, r_3⟩ := s
  refine gSlice_intro rfl (?_)
  have r_3 := r_3.from k0.le
  have m_3 := k_3.tame
  have bx_1 := bx_1.keep k_3
  have bx_2 := bx_2.keep k_3
  have k0 := k0.trans k_3
  have kh := kh.trans k_3
  refine ⟨k_3.preLe (Nat.le_refl _), ?_⟩
  refine hc_intro (gnomonref04_Mk.hs r_3.rd rfl) fun v h_4 ⟨k_4, s⟩ => ?_
  obtain ⟨p_4, hp_4⟩ : ∃ p, p = dz (sg b0_0 p_3) := ⟨_, rfl⟩
  rw [← hp_4] at s
  replace g := lift_let2 hp_4 g
  obtain ⟨a_4, c_4, rfl, r_4⟩ := s
  refine gAgg_intro rfl (uncons_intro (gBool_intro rfl (uncons_intro (gSlice_intro rfl (unnil_intro (?_))))))
  have r_4 := r_4.from k0.le
  have m_4 := k_4.tame
  have bx_1 := bx_1.keep k_4
  have bx_2 := bx_2.keep k_4
  have k0 := k0.trans k_4
  have kh := kh.trans k_4
  refine ⟨k_4.preLe (m_3).le, ?_⟩
  refine stA bx_2 (base_add _ _) rfl fun h_5 bx_2 k_5 m_5 => ?_
  have bx_1 := bx_1.keepB d_1q_2 k_5
  have k0 := KeepB.keep k0 k_5 o_2
  have kh := KeepB.keep kh k_5 oh_2
  refine stA bx_2 (base_add _ _) rfl fun h_6 bx_2 k_6 m_6 => ?_
  have bx_1 := bx_1.keepB d_1q_2 k_6
  have k0 := KeepB.keep k0 k_6 o_2
  have kh := KeepB.keep kh k_6 oh_2
  refine ldA bx_2 (base_add _ _) rfl ?_
  refine gBool_intro rfl ?_
  refine ldA bx_2 (base_add _ _) rfl ?_
  refine gSlice_intro rfl ?_
  exact g _ _ k0 ⟨_, _, rfl, (r_4.tame (m_5.trans m_6))⟩
def v (b0_0 : Bool) (xs0_1 : List Nat) : (Bool × Nat) := D1.v b0_0 xs0_1
theorem hv {h : Hp} {b0_0 : Bool} {a0_1 : Option Addr} {c0_1 l0_1 : Nat} {xs0_1 : List Nat} (r0_1 : Rd h a0_1 c0_1 xs0_1) (e0_1 : l0_1 = xs0_1.length) : HC id #[.agg #[.bool b0_0, .slice a0_1 l0_1 c0_1]] h fun v_ h_ => Keep h h_ ∧ sZD h h_ v_ (v b0_0 xs0_1) :=
  ok (D1.hv (Keep.refl _) r0_1 e0_1 fun v h' k s => ⟨k, s⟩)
end gnomonref04_From

namespace gnomonref04_To
def D1.v (b0_0 : Bool) (X0_1 : Nat) : (Bool × List Nat) :=
  bif b0_0 then
    letV (digs X0_1) fun p_4 =>
    ((decide (((((D.digs X0_1).length : Nat) : Int)) > (0 : Int))), p_4)
  else
    letV (digs X0_1) fun p_5 =>
    (false, p_5)
theorem D1.hv {R : Rt} {h0 h : Hp} (k0 : Keep h0 h) {b0_0 : Bool} {a0_1 : Option Addr} {c0_1 l0_1 : Nat} {X0_1 : Nat} (r0_1 : RdE eU32 h a0_1 c0_1 (D.digs X0_1)) (e0_1 : l0_1 = (D.digs X0_1).length) (g : Post sZW h0 R (D1.v b0_0 X0_1)) : D1.t R b0_0 a0_1 l0_1 c0_1 h := by
  subst e0_1
  have kh := Keep.refl h
  unfold D1.v at g
  unfold D1.t
  refine boxV fun h_1 bx_1 k_1 => ?_
  have o_1 : h0.size ≤ h.size := k0.le
  have oh_1 : h.size ≤ h.size := kh.le
  have lt_1 := bx_1.lt
  have m_1 := k_1.tame
  have k0 := k0.trans k_1
  have kh := kh.trans k_1
  refine boxV fun h_2 bx_2 k_2 => ?_
  have d_1q_2 : h.size ≠ h_1.size := Nat.ne_of_lt bx_1.lt
  have o_2 : h0.size ≤ h_1.size := k0.le
  have oh_2 : h.size ≤ h_1.size := kh.le
  have lt_2 := bx_2.lt
  have m_2 := k_2.tame
  have bx_1 := bx_1.keep k_2
  have k0 := k0.trans k_2
  have kh := kh.trans k_2
  refine ⟨blkLt (base_add _ _) ((m_2).lt lt_1), ?_⟩
  refine ldA bx_1 (base_add _ _) rfl ?_
  refine gBool_intro rfl ?_
  refine lift_bool g (fun q_3 g => ?_) (fun q_3 g => ?_)
  · refine ⟨blkLt (base_add _ _) ((m_2).lt lt_1), ?_⟩
    refine ldA bx_1 (base_add _ _) rfl ?_
    refine gSlice_intro rfl ?_
    refine ⟨blkLt (base_add _ _) ((m_2).lt lt_1), ?_⟩
    refine ldA bx_1 (base_add _ _) rfl ?_
    refine gSlice_intro rfl ?_
    refine hc_intro (gnomonref01_To.hv (r0_1.tame (m_1.trans m_2)) rfl) fun v h_3 ⟨k_3, s⟩ => ?_
    obtain ⟨p_4, hp_4⟩ : ∃ p, p = digs X0_1 := ⟨_, rfl⟩
    rw [← hp_4] at s
    replace g := lift_let2 hp_4 g
    obtain ⟨a_4, c_4, rfl, r_4⟩ := s
    refine gSlice_intro rfl (?_)
    have r_4 := r_4.from k0.le
    have m_3 := k_3.tame
    have bx_1 := bx_1.keep k_3
    have bx_2 := bx_2.keep k_3
    have k0 := k0.trans k_3
    have kh := kh.trans k_3
    refine ⟨k_3.preLe (Nat.le_refl _), ?_⟩
    refine stA bx_2 (base_add _ _) rfl fun h_4 bx_2 k_4 m_4 => ?_
    have bx_1 := bx_1.keepB d_1q_2 k_4
    have k0 := KeepB.keep k0 k_4 o_2
    have kh := KeepB.keep kh k_4 oh_2
    refine stA bx_2 (base_add _ _) rfl fun h_5 bx_2 k_5 m_5 => ?_
    have bx_1 := bx_1.keepB d_1q_2 k_5
    have k0 := KeepB.keep k0 k_5 o_2
    have kh := KeepB.keep kh k_5 oh_2
    refine ldA bx_2 (base_add _ _) rfl ?_
    refine gBool_intro rfl ?_
    refine ldA bx_2 (base_add _ _) rfl ?_
    refine gSlice_intro rfl ?_
    exact g _ _ k0 ⟨_, _, rfl, (r_4.tame (m_4.trans m_5))⟩
  · refine ⟨blkLt (base_add _ _) ((m_2).lt lt_1), ?_⟩
    refine ldA bx_1 (base_add _ _) rfl ?_
    refine gSlice_intro rfl ?_
    refine hc_intro (gnomonref01_To.hv (r0_1.tame (m_1.trans m_2)) rfl) fun v h_3 ⟨k_3, s⟩ => ?_
    obtain ⟨p_5, hp_5⟩ : ∃ p, p = digs X0_1 := ⟨_, rfl⟩
    rw [← hp_5] at s
    replace g := lift_let2 hp_5 g
    obtain ⟨a_5, c_5, rfl, r_5⟩ := s
    refine gSlice_intro rfl (?_)
    have r_5 := r_5.from k0.le
    have m_3 := k_3.tame
    have bx_1 := bx_1.keep k_3
    have bx_2 := bx_2.keep k_3
    have k0 := k0.trans k_3
    have kh := kh.trans k_3
    refine ⟨k_3.preLe (Nat.le_refl _), ?_⟩
    refine stA bx_2 (base_add _ _) rfl fun h_4 bx_2 k_4 m_4 => ?_
    have bx_1 := bx_1.keepB d_1q_2 k_4
    have k0 := KeepB.keep k0 k_4 o_2
    have kh := KeepB.keep kh k_4 oh_2
    refine stA bx_2 (base_add _ _) rfl fun h_5 bx_2 k_5 m_5 => ?_
    have bx_1 := bx_1.keepB d_1q_2 k_5
    have k0 := KeepB.keep k0 k_5 o_2
    have kh := KeepB.keep kh k_5 oh_2
    refine ldA bx_2 (base_add _ _) rfl ?_
    refine gBool_intro rfl ?_
    refine ldA bx_2 (base_add _ _) rfl ?_
    refine gSlice_intro rfl ?_
    exact g _ _ k0 ⟨_, _, rfl, (r_5.tame (m_4.trans m_5))⟩
def v (b0_0 : Bool) (X0_1 : Nat) : (Bool × List Nat) := D1.v b0_0 X0_1
theorem hv {h : Hp} {b0_0 : Bool} {a0_1 : Option Addr} {c0_1 l0_1 : Nat} {X0_1 : Nat} (r0_1 : RdE eU32 h a0_1 c0_1 (D.digs X0_1)) (e0_1 : l0_1 = (D.digs X0_1).length) : HC id #[.agg #[.bool b0_0, .slice a0_1 l0_1 c0_1]] h fun v_ h_ => Keep h h_ ∧ sZW h h_ v_ (v b0_0 X0_1) :=
  ok (D1.hv (Keep.refl _) r0_1 e0_1 fun v h' k s => ⟨k, s⟩)
end gnomonref04_To

end Go.Proofs.YtanlcacaihdceaaGreatDoor.G

/- The reference's whole numbers: from limbs and back. -/
namespace Go.Proofs.YtanlcacaihdceaaGreatDoor.G
open Go.Gv
set_option linter.unusedVariables false
theorem To_v (b : Bool) (X : Nat) : gnomonref04_To.v b X = zz (di (b, X)) := by
  unfold gnomonref04_To.v gnomonref04_To.D1.v
  have e1 : di (b, X) = sg b X := rfl
  rw [e1, zz_sg]
  have e : decide ((((D.digs X).length : Nat) : Int) > 0) = decide (X ≠ 0) := by
    rw [decide_eq_decide]; have := dlenZ X; omega
  simp only [letV, e]
  cases b <;> rfl
section
variable {a b : Option Addr} {c d l m X : Nat} {xs ys : List Nat} {h : Hp} {x y : Int} {p q : Bool}
theorem gnomonref04_From.hs (r : Rd h a c xs) (e : l = xs.length) : HC gnomonref04_From.id #[.agg #[.bool p, .slice a l c]] h fun v h' => Keep h h' ∧ sZD h h' v (dz (zi (p, xs))) := gnomonref04_From.hv r e
theorem gnomonref04_To.hs (r : RdE eU32 h a c (D.digs X)) (e : l = (D.digs X).length) : HC gnomonref04_To.id #[.agg #[.bool p, .slice a l c]] h fun v h' => Keep h h' ∧ sZW h h' v (zz (di (p, X))) := by rw [← To_v]; exact gnomonref04_To.hv r e
end
end Go.Proofs.YtanlcacaihdceaaGreatDoor.G

/- Functions without loops as functions of values. Written by a program of this work. -/
namespace Go.Proofs.YtanlcacaihdceaaGreatDoor.G
open Go.Gv
set_option linter.unusedVariables false
set_option maxRecDepth 100000
namespace gnomonref04_DocOf
def D1.v (x0 : Int) : (Bool × List Nat) :=
  letV (dz x0) fun p_2 =>
  letV (zz (di (p_2.1, p_2.2))) fun p_3 =>
  (p_3.1, p_3.2)
theorem D1.hv {R : Rt} {h0 h : Hp} (k0 : Keep h0 h) {x0 : Int} (i0 : In .i64 x0) (g : Post sZW h0 R (D1.v x0)) : D1.t R x0 h := by
  have kh := Keep.refl h
  unfold D1.v at g
  unfold D1.t
  refine boxV fun h_1 bx_1 k_1 => ?_
  have o_1 : h0.size ≤ h.size := k0.le
  have oh_1 : h.size ≤ h.size := kh.le
  have lt_1 := bx_1.lt
  have m_1 := k_1.tame
  have k0 := k0.trans k_1
  have kh := kh.trans k_1
  refine hc_intro (gnomonref04_Of.hs i0) fun v h_2 ⟨k_2, s⟩ => ?_
  obtain ⟨p_2, hp_2⟩ : ∃ p, p = dz x0 := ⟨_, rfl⟩
  rw [← hp_2] at s
  replace g := lift_let2 hp_2 g
  obtain ⟨a_2, c_2, rfl, r_2⟩ := s
  refine gAgg_intro rfl (uncons_intro (gBool_intro rfl (uncons_intro (gSlice_intro rfl (unnil_intro (?_))))))
  have r_2 := r_2.from k0.le
  have m_2 := k_2.tame
  have bx_1 := bx_1.keep k_2
  have k0 := k0.trans k_2
  have kh := kh.trans k_2
  refine hc_intro (gnomonref04_To.hs r_2.rd rfl) fun v h_3 ⟨k_3, s⟩ => ?_
  obtain ⟨p_3, hp_3⟩ : ∃ p, p = zz (di (p_2.1, p_2.2)) := ⟨_, rfl⟩
  rw [← hp_3] at s
  replace g := lift_let2 hp_3 g
  obtain ⟨a_3, c_3, rfl, r_3⟩ := s
  refine gAgg_intro rfl (uncons_intro (gBool_intro rfl (uncons_intro (gSlice_intro rfl (unnil_intro (?_))))))
  have r_3 := r_3.from k0.le
  have m_3 := k_3.tame
  have bx_1 := bx_1.keep k_3
  have k0 := k0.trans k_3
  have kh := kh.trans k_3
  refine stA bx_1 (base_add _ _) rfl fun h_4 bx_1 k_4 m_4 => ?_
  have k0 := KeepB.keep k0 k_4 o_1
  have kh := KeepB.keep kh k_4 oh_1
  refine stA bx_1 (base_add _ _) rfl fun h_5 bx_1 k_5 m_5 => ?_
  have k0 := KeepB.keep k0 k_5 o_1
  have kh := KeepB.keep kh k_5 oh_1
  refine ldA bx_1 (base_add _ _) rfl ?_
  refine gBool_intro rfl ?_
  refine ldA bx_1 (base_add _ _) rfl ?_
  refine gSlice_intro rfl ?_
  exact g _ _ k0 ⟨_, _, rfl, (r_3.tame (m_4.trans m_5))⟩
def v (x0 : Int) : (Bool × List Nat) := D1.v x0
theorem hv {h : Hp} {x0 : Int} (i0 : In .i64 x0) : HC id #[.int .i64 x0] h fun v_ h_ => Keep h h_ ∧ sZW h h_ v_ (v x0) :=
  ok (D1.hv (Keep.refl _) i0 fun v h' k s => ⟨k, s⟩)
end gnomonref04_DocOf


namespace gnomonlaw04_halves
def D1.v  : Bool :=
  letV (zz (-7 : Int)) fun p_1 =>
  letV (zz (2 : Int)) fun p_2 =>
  letV (quoZ flo (p_1.1, p_1.2) (p_2.1, p_2.2)) fun p_3 =>
  letV (zz (7 : Int)) fun p_5 =>
  letV (shrZ nea (p_5.1, p_5.2) (1 : Int)) fun p_6 =>
  letV (zz (-7 : Int)) fun p_8 =>
  letV (zz (3 : Int)) fun p_9 =>
  letV (quoZ mo (p_8.1, p_8.2) (p_9.1, p_9.2)) fun p_10 =>
  bif (p_3.2 == (0 : Int)) then
    bif (p_6.2 == (0 : Int)) then
      bif (p_10.2 == (0 : Int)) then
        letV (gnomonref04_DocOf.v (-4 : Int)) fun p_15 =>
        bif (decide ((p_3.1.1, p_3.1.2) = (p_15.1, p_15.2))) then
          letV (gnomonref04_DocOf.v (4 : Int)) fun p_18 =>
          bif (decide ((p_6.1.1, p_6.1.2) = (p_18.1, p_18.2))) then
            letV (gnomonref04_DocOf.v (2 : Int)) fun p_21 =>
            (decide ((p_10.1.1, p_10.1.2) = (p_21.1, p_21.2)))
          else
            false
        else
          false
      else
        false
    else
      false
  else
    false
theorem D1.hv {R : Rt} {h0 h : Hp} (k0 : Keep h0 h)  (tb : Tab h) (g : Post sBool h0 R (D1.v )) : D1.t R  h := by
  have kh := Keep.refl h
  unfold D1.v at g
  unfold D1.t
  refine hc_intro (num_Of.hs (show In .i64 (-7 : Int) by decide)) fun v h_1 ⟨k_1, s⟩ => ?_
  obtain ⟨p_1, hp_1⟩ : ∃ p, p = zz (-7 : Int) := ⟨_, rfl⟩
  rw [← hp_1] at s
  replace g := lift_let2 hp_1 g
  obtain ⟨a_1, c_1, rfl, r_1⟩ := s
  refine gAgg_intro rfl (uncons_intro (gBool_intro rfl (uncons_intro (gSlice_intro rfl (unnil_intro (?_))))))
  have r_1 := r_1.from k0.le
  have m_1 := k_1.tame
  have k0 := k0.trans k_1
  have kh := kh.trans k_1
  refine hc_intro (num_Of.hs (show In .i64 (2 : Int) by decide)) fun v h_2 ⟨k_2, s⟩ => ?_
  obtain ⟨p_2, hp_2⟩ : ∃ p, p = zz (2 : Int) := ⟨_, rfl⟩
  rw [← hp_2] at s
  replace g := lift_let2 hp_2 g
  obtain ⟨a_2, c_2, rfl, r_2⟩ := s
  refine gAgg_intro rfl (uncons_intro (gBool_intro rfl (uncons_intro (gSlice_intro rfl (unnil_intro (?_))))))
  have r_2 := r_2.from k0.le
  have m_2 := k_2.tame
  have k0 := k0.trans k_2
  have kh := kh.trans k_2
  refine hc_intro (num_FloorDiv.hs (r_1.tame (m_2)).rd64 rfl r_2.rd64 rfl) fun v h_3 ⟨k_3, s⟩ => ?_
  obtain ⟨p_3, hp_3⟩ : ∃ p, p = quoZ flo (p_1.1, p_1.2) (p_2.1, p_2.2) := ⟨_, rfl⟩
  rw [← hp_3] at s
  replace g := lift_let2 hp_3 g
  obtain ⟨_, _, rfl, ⟨a_3_0, c_3_0, rfl, r_3_0⟩, ⟨rfl, i_3_1⟩⟩ := s
  refine gTup_intro rfl (uncons_intro (gAgg_intro rfl (uncons_intro (gBool_intro rfl (uncons_intro (gSlice_intro rfl (unnil_intro (uncons_intro (gInt_intro rfl (unnil_intro (?_)))))))))))
  have r_3_0 := r_3_0.from k0.le
  have m_3 := k_3.tame
  have k0 := k0.trans k_3
  have kh := kh.trans k_3
  refine boxV fun h_4 bx_4 k_4 => ?_
  have o_4 : h0.size ≤ h_3.size := k0.le
  have oh_4 : h.size ≤ h_3.size := kh.le
  have lt_4 := bx_4.lt
  have m_4 := k_4.tame
  have k0 := k0.trans k_4
  have kh := kh.trans k_4
  refine stA bx_4 (base_add _ _) rfl fun h_5 bx_4 k_5 m_5 => ?_
  have k0 := KeepB.keep k0 k_5 o_4
  have kh := KeepB.keep kh k_5 oh_4
  refine stA bx_4 (base_add _ _) rfl fun h_6 bx_4 k_6 m_6 => ?_
  have k0 := KeepB.keep k0 k_6 o_4
  have kh := KeepB.keep kh k_6 oh_4
  refine hc_intro (num_Of.hs (show In .i64 (7 : Int) by decide)) fun v h_7 ⟨k_7, s⟩ => ?_
  obtain ⟨p_5, hp_5⟩ : ∃ p, p = zz (7 : Int) := ⟨_, rfl⟩
  rw [← hp_5] at s
  replace g := lift_let2 hp_5 g
  obtain ⟨a_5, c_5, rfl, r_5⟩ := s
  refine gAgg_intro rfl (uncons_intro (gBool_intro rfl (uncons_intro (gSlice_intro rfl (unnil_intro (?_))))))
  have r_5 := r_5.from k0.le
  have m_7 := k_7.tame
  have bx_4 := bx_4.keep k_7
  have k0 := k0.trans k_7
  have kh := kh.trans k_7
  refine hc_intro (num_NearShr.hs r_5.rd64 rfl (show In .i64 (1 : Int) by decide) (tb.tame (m_1.trans (m_2.trans (m_3.trans (m_4.trans (m_5.trans (m_6.trans m_7)))))))) fun v h_8 ⟨k_8, s⟩ => ?_
  obtain ⟨p_6, hp_6⟩ : ∃ p, p = shrZ nea (p_5.1, p_5.2) (1 : Int) := ⟨_, rfl⟩
  rw [← hp_6] at s
  replace g := lift_let2 hp_6 g
  obtain ⟨_, _, rfl, ⟨a_6_0, c_6_0, rfl, r_6_0⟩, ⟨rfl, i_6_1⟩⟩ := s
  refine gTup_intro rfl (uncons_intro (gAgg_intro rfl (uncons_intro (gBool_intro rfl (uncons_intro (gSlice_intro rfl (unnil_intro (uncons_intro (gInt_intro rfl (unnil_intro (?_)))))))))))
  have r_6_0 := r_6_0.from k0.le
  have m_8 := k_8.tame
  have bx_4 := bx_4.keep k_8
  have k0 := k0.trans k_8
  have kh := kh.trans k_8
  refine boxV fun h_9 bx_7 k_9 => ?_
  have d_4q_7 : h_3.size ≠ h_8.size := Nat.ne_of_lt bx_4.lt
  have o_7 : h0.size ≤ h_8.size := k0.le
  have oh_7 : h.size ≤ h_8.size := kh.le
  have lt_7 := bx_7.lt
  have m_9 := k_9.tame
  have bx_4 := bx_4.keep k_9
  have k0 := k0.trans k_9
  have kh := kh.trans k_9
  refine stA bx_7 (base_add _ _) rfl fun h_10 bx_7 k_10 m_10 => ?_
  have bx_4 := bx_4.keepB d_4q_7 k_10
  have k0 := KeepB.keep k0 k_10 o_7
  have kh := KeepB.keep kh k_10 oh_7
  refine stA bx_7 (base_add _ _) rfl fun h_11 bx_7 k_11 m_11 => ?_
  have bx_4 := bx_4.keepB d_4q_7 k_11
  have k0 := KeepB.keep k0 k_11 o_7
  have kh := KeepB.keep kh k_11 oh_7
  refine hc_intro (num_Of.hs (show In .i64 (-7 : Int) by decide)) fun v h_12 ⟨k_12, s⟩ => ?_
  obtain ⟨p_8, hp_8⟩ : ∃ p, p = zz (-7 : Int) := ⟨_, rfl⟩
  rw [← hp_8] at s
  replace g := lift_let2 hp_8 g
  obtain ⟨a_8, c_8, rfl, r_8⟩ := s
  refine gAgg_intro rfl (uncons_intro (gBool_intro rfl (uncons_intro (gSlice_intro rfl (unnil_intro (?_))))))
  have r_8 := r_8.from k0.le
  have m_12 := k_12.tame
  have bx_4 := bx_4.keep k_12
  have bx_7 := bx_7.keep k_12
  have k0 := k0.trans k_12
  have kh := kh.trans k_12
  refine hc_intro (num_Of.hs (show In .i64 (3 : Int) by decide)) fun v h_13 ⟨k_13, s⟩ => ?_
  obtain ⟨p_9, hp_9⟩ : ∃ p, p = zz (3 : Int) := ⟨_, rfl⟩
  rw [← hp_9] at s
  replace g := lift_let2 hp_9 g
  obtain ⟨a_9, c_9, rfl, r_9⟩ := s
  refine gAgg_intro rfl (uncons_intro (gBool_intro rfl (uncons_intro (gSlice_intro rfl (unnil_intro (?_))))))
  have r_9 := r_9.from k0.le
  have m_13 := k_13.tame
  have bx_4 := bx_4.keep k_13
  have bx_7 := bx_7.keep k_13
  have k0 := k0.trans k_13
  have kh := kh.trans k_13
  refine hc_intro (num_Mod.hs (r_8.tame (m_13)).rd64 rfl r_9.rd64 rfl) fun v h_14 ⟨k_14, s⟩ => ?_
  obtain ⟨p_10, hp_10⟩ : ∃ p, p = quoZ mo (p_8.1, p_8.2) (p_9.1, p_9.2) := ⟨_, rfl⟩
  rw [← hp_10] at s
  replace g := lift_let2 hp_10 g
  obtain ⟨_, _, rfl, ⟨a_10_0, c_10_0, rfl, r_10_0⟩, ⟨rfl, i_10_1⟩⟩ := s
  refine gTup_intro rfl (uncons_intro (gAgg_intro rfl (uncons_intro (gBool_intro rfl (uncons_intro (gSlice_intro rfl (unnil_intro (uncons_intro (gInt_intro rfl (unnil_intro (?_)))))))))))
  have r_10_0 := r_10_0.from k0.le
  have m_14 := k_14.tame
  have bx_4 := bx_4.keep k_14
  have bx_7 := bx_7.keep k_14
  have k0 := k0.trans k_14
  have kh := kh.trans k_14
  refine boxV fun h_15 bx_11 k_15 => ?_
  have d_4q_11 : h_3.size ≠ h_14.size := Nat.ne_of_lt bx_4.lt
  have d_7q_11 : h_8.size ≠ h_14.size := Nat.ne_of_lt bx_7.lt
  have o_11 : h0.size ≤ h_14.size := k0.le
  have oh_11 : h.size ≤ h_14.size := kh.le
  have lt_11 := bx_11.lt
  have m_15 := k_15.tame
  have bx_4 := bx_4.keep k_15
  have bx_7 := bx_7.keep k_15
  have k0 := k0.trans k_15
  have kh := kh.trans k_15
  refine stA bx_11 (base_add _ _) rfl fun h_16 bx_11 k_16 m_16 => ?_
  have bx_4 := bx_4.keepB d_4q_11 k_16
  have bx_7 := bx_7.keepB d_7q_11 k_16
  have k0 := KeepB.keep k0 k_16 o_11
  have kh := KeepB.keep kh k_16 oh_11
  refine stA bx_11 (base_add _ _) rfl fun h_17 bx_11 k_17 m_17 => ?_
  have bx_4 := bx_4.keepB d_4q_11 k_17
  have bx_7 := bx_7.keepB d_7q_11 k_17
  have k0 := KeepB.keep k0 k_17 o_11
  have kh := KeepB.keep kh k_17 oh_11
  refine lift_eq g (fun q_12 g => ?_) (fun q_12 g => ?_)
  · refine lift_eq g (fun q_13 g => ?_) (fun q_13 g => ?_)
    · refine lift_eq g (fun q_14 g => ?_) (fun q_14 g => ?_)
      · refine ⟨blkLt rfl ((m_5.trans (m_6.trans (m_7.trans (m_8.trans (m_9.trans (m_10.trans (m_11.trans (m_12.trans (m_13.trans (m_14.trans (m_15.trans (m_16.trans m_17)))))))))))).lt lt_4), ?_⟩
        refine ldA bx_4 (base_add _ _) rfl ?_
        refine gBool_intro rfl ?_
        refine ldA bx_4 (base_add _ _) rfl ?_
        refine gSlice_intro rfl ?_
        refine hc_intro (gnomonref04_DocOf.hv (show In .i64 (-4 : Int) by decide)) fun v h_18 ⟨k_18, s⟩ => ?_
        obtain ⟨p_15, hp_15⟩ : ∃ p, p = gnomonref04_DocOf.v (-4 : Int) := ⟨_, rfl⟩
        rw [← hp_15] at s
        replace g := lift_let2 hp_15 g
        obtain ⟨a_15, c_15, rfl, r_15⟩ := s
        refine gAgg_intro rfl (uncons_intro (gBool_intro rfl (uncons_intro (gSlice_intro rfl (unnil_intro (?_))))))
        have r_15 := r_15.from k0.le
        have m_18 := k_18.tame
        have bx_4 := bx_4.keep k_18
        have bx_7 := bx_7.keep k_18
        have bx_11 := bx_11.keep k_18
        have k0 := k0.trans k_18
        have kh := kh.trans k_18
        refine ⟨k_18.preLe (Nat.le_refl _), ?_⟩
        refine hc_intro (gnomonlaw04_same.hs (r_3_0.tame (m_4.trans (m_5.trans (m_6.trans (m_7.trans (m_8.trans (m_9.trans (m_10.trans (m_11.trans (m_12.trans (m_13.trans (m_14.trans (m_15.trans (m_16.trans (m_17.trans m_18))))))))))))))).rd64 rfl r_15.rd64 rfl) fun v h_19 ⟨k_19, s⟩ => ?_
        obtain rfl := s
        refine gBool_intro rfl (?_)
        have m_19 := k_19.tame
        have bx_4 := bx_4.keep k_19
        have bx_7 := bx_7.keep k_19
        have bx_11 := bx_11.keep k_19
        have k0 := k0.trans k_19
        have kh := kh.trans k_19
        refine ⟨k_19.preLe (m_18).le, ?_⟩
        refine lift_dec g (fun q_17 g => ?_) (fun q_17 g => ?_)
        · refine ⟨blkLt rfl ((m_10.trans (m_11.trans (m_12.trans (m_13.trans (m_14.trans (m_15.trans (m_16.trans m_17))))))).lt lt_7), ?_⟩
          refine ldA bx_7 (base_add _ _) rfl ?_
          refine gBool_intro rfl ?_
          refine ldA bx_7 (base_add _ _) rfl ?_
          refine gSlice_intro rfl ?_
          refine hc_intro (gnomonref04_DocOf.hv (show In .i64 (4 : Int) by decide)) fun v h_20 ⟨k_20, s⟩ => ?_
          obtain ⟨p_18, hp_18⟩ : ∃ p, p = gnomonref04_DocOf.v (4 : Int) := ⟨_, rfl⟩
          rw [← hp_18] at s
          replace g := lift_let2 hp_18 g
          obtain ⟨a_18, c_18, rfl, r_18⟩ := s
          refine gAgg_intro rfl (uncons_intro (gBool_intro rfl (uncons_intro (gSlice_intro rfl (unnil_intro (?_))))))
          have r_18 := r_18.from k0.le
          have m_20 := k_20.tame
          have bx_4 := bx_4.keep k_20
          have bx_7 := bx_7.keep k_20
          have bx_11 := bx_11.keep k_20
          have k0 := k0.trans k_20
          have kh := kh.trans k_20
          refine ⟨k_20.preLe (m_18.trans m_19).le, ?_⟩
          refine hc_intro (gnomonlaw04_same.hs (r_6_0.tame (m_9.trans (m_10.trans (m_11.trans (m_12.trans (m_13.trans (m_14.trans (m_15.trans (m_16.trans (m_17.trans (m_18.trans (m_19.trans m_20)))))))))))).rd64 rfl r_18.rd64 rfl) fun v h_21 ⟨k_21, s⟩ => ?_
          obtain rfl := s
          refine gBool_intro rfl (?_)
          have m_21 := k_21.tame
          have bx_4 := bx_4.keep k_21
          have bx_7 := bx_7.keep k_21
          have bx_11 := bx_11.keep k_21
          have k0 := k0.trans k_21
          have kh := kh.trans k_21
          refine ⟨k_21.preLe (m_18.trans (m_19.trans m_20)).le, ?_⟩
          refine lift_dec g (fun q_20 g => ?_) (fun q_20 g => ?_)
          · refine ⟨blkLt rfl ((m_16.trans m_17).lt lt_11), ?_⟩
            refine ldA bx_11 (base_add _ _) rfl ?_
            refine gBool_intro rfl ?_
            refine ldA bx_11 (base_add _ _) rfl ?_
            refine gSlice_intro rfl ?_
            refine hc_intro (gnomonref04_DocOf.hv (show In .i64 (2 : Int) by decide)) fun v h_22 ⟨k_22, s⟩ => ?_
            obtain ⟨p_21, hp_21⟩ : ∃ p, p = gnomonref04_DocOf.v (2 : Int) := ⟨_, rfl⟩
            rw [← hp_21] at s
            replace g := lift_let2 hp_21 g
            obtain ⟨a_21, c_21, rfl, r_21⟩ := s
            refine gAgg_intro rfl (uncons_intro (gBool_intro rfl (uncons_intro (gSlice_intro rfl (unnil_intro (?_))))))
            have r_21 := r_21.from k0.le
            have m_22 := k_22.tame
            have bx_4 := bx_4.keep k_22
            have bx_7 := bx_7.keep k_22
            have bx_11 := bx_11.keep k_22
            have k0 := k0.trans k_22
            have kh := kh.trans k_22
            refine ⟨k_22.preLe (m_18.trans (m_19.trans (m_20.trans m_21))).le, ?_⟩
            refine hc_intro (gnomonlaw04_same.hs (r_10_0.tame (m_15.trans (m_16.trans (m_17.trans (m_18.trans (m_19.trans (m_20.trans (m_21.trans m_22)))))))).rd64 rfl r_21.rd64 rfl) fun v h_23 ⟨k_23, s⟩ => ?_
            obtain rfl := s
            refine gBool_intro rfl (?_)
            have m_23 := k_23.tame
            have bx_4 := bx_4.keep k_23
            have bx_7 := bx_7.keep k_23
            have bx_11 := bx_11.keep k_23
            have k0 := k0.trans k_23
            have kh := kh.trans k_23
            refine ⟨k_23.preLe (m_18.trans (m_19.trans (m_20.trans (m_21.trans m_22)))).le, ?_⟩
            exact g _ _ k0 rfl
          · exact g _ _ k0 rfl
        · exact g _ _ k0 rfl
      · exact g _ _ k0 rfl
    · exact g _ _ k0 rfl
  · exact g _ _ k0 rfl
def v  : Bool := D1.v 
theorem hv {h : Hp}  (tb : Tab h) : HC id #[] h fun v_ h_ => Keep h h_ ∧ sBool h h_ v_ (v) :=
  ok (D1.hv (Keep.refl _)  tb fun v h' k s => ⟨k, s⟩)
end gnomonlaw04_halves

end Go.Proofs.YtanlcacaihdceaaGreatDoor.G

/- Whole numbers: sums, products, quotients and shifts of numbers in form: plain law. -/
namespace Go.Proofs.YtanlcacaihdceaaGreatDoor.G
open Go.Gv
set_option linter.unusedVariables false
theorem sg_of (a : Int) : ∃ p A, a = sg p A ∧ (p = true → A ≠ 0) ∧ A = a.natAbs := by
  by_cases h : a < 0
  · exact ⟨true, a.natAbs, by unfold sg; simp; omega, fun _ => by omega, rfl⟩
  · exact ⟨false, a.natAbs, by unfold sg; simp; omega, fun h => (by cases h), rfl⟩
theorem quo_up {A B : Nat} (h : A % B ≠ 0) : A / B + 1 ≤ A := by
  have hd := Nat.div_add_mod A B
  rcases Nat.eq_zero_or_pos B with h0 | h0
  · subst h0; simp at h ⊢; omega
  have hm := Nat.mod_lt A h0
  generalize A % B = r at *
  have h2 : 2 ≤ B := by omega
  have h3 := Nat.mul_le_mul_right (A / B) h2
  omega
theorem flo_abs {a b : Int} (hb : b ≠ 0) : (flo a b).natAbs ≤ a.natAbs := by
  obtain ⟨p, A, rfl, hp, _⟩ := sg_of a
  obtain ⟨q, B, rfl, hq, _⟩ := sg_of b
  have hB : B ≠ 0 := fun h => hb (sg_eq_zero.mpr h)
  rw [flo_sg hB hp, sg_abs, sg_abs]
  split
  · rename_i h; exact quo_up h.2
  · exact Nat.div_le_self _ _
theorem near_le {A B : Nat} (hB : B ≠ 0) : nearN A B ≤ A := by
  unfold nearN
  split
  · rename_i h; exact quo_up (by omega)
  · exact Nat.div_le_self _ _
theorem nea_abs {a b : Int} (hb : b ≠ 0) : (nea a b).natAbs ≤ a.natAbs := by
  unfold nea; rw [sg_abs]; exact near_le (by omega)
theorem mo_abs {a b : Int} (hb : b ≠ 0) : (mo a b).natAbs < b.natAbs := by
  obtain ⟨p, A, rfl, hp, _⟩ := sg_of a
  obtain ⟨q, B, rfl, hq, _⟩ := sg_of b
  have hB : B ≠ 0 := fun h => hb (sg_eq_zero.mpr h)
  rw [mo_sg hB hp, sg_abs, sg_abs]
  have hm := Nat.mod_lt A (show 0 < B by omega)
  split
  · rename_i h; omega
  · exact hm
theorem nea_neg {a b : Int} : nea (-a) b = -nea a b := by
  by_cases h : a = 0
  · subst h
    unfold nea
    have : nearN (0 : Int).natAbs b.natAbs = 0 := by
      unfold nearN; simp
    simp only [Int.neg_zero, this, sg_zero]
  · unfold nea
    rw [Int.natAbs_neg, neg_sg]
    congr 1
    have : decide (-a < 0) = !decide (a < 0) := by
      by_cases h2 : a < 0
      · simp [h2]; omega
      · simp [h2]; omega
    rw [this]; cases decide (a < 0) <;> cases decide (b < 0) <;> rfl
/-! ### answers of numbers in form -/
theorem quo_zz {g : Int → Int → Int} {i j : Int} (h1 : SmZ i) (h2 : SmZ j) (h0 : j ≠ 0) : quoZ g (zz i) (zz j) = zlim (g i j) := by
  unfold quoZ
  rw [if_pos ⟨frm_zz h1, frm_zz h2⟩, zi_zz, zi_zz, if_neg h0]
theorem shr_zz {g : Int → Int → Int} {i : Int} (h1 : SmZ i) (n : Nat) : shrZ g (zz i) (n : Int) = zlim (g i (2 ^ n)) := by
  unfold shrZ
  rw [if_neg (by omega), if_pos (frm_zz h1), zi_zz, Int.toNat_natCast]
theorem eta2 (p : Zw) : (p.1, p.2) = p := rfl
theorem sm_small {i : Int} (h : i.natAbs < 340282366920938463463374607431768211456) : SmZ i := by
  unfold SmZ
  have : (digs i.natAbs).length ≤ 2 := digs_len.mpr (by simpa using h)
  omega
theorem cmp_gt_iff (i j : Int) : decide (cmpZ i j > 0) = decide (i > j) := by
  unfold cmpZ
  rcases Int.lt_trichotomy i j with h | h | h
  · rw [if_pos h]; simp; omega
  · subst h; simp
  · rw [if_neg (by omega), if_neg (by omega)]; simp; omega
theorem cmp_eq_iff (i : Int) : (cmpZ i 0 == 0) = decide (i = 0) := by
  unfold cmpZ
  rcases Int.lt_trichotomy i 0 with h | h | h
  · rw [if_pos h]; have : i ≠ 0 := by omega
    simp [this]
  · subst h; simp
  · rw [if_neg (by omega), if_neg (by omega)]; have : i ≠ 0 := by omega
    simp [this]
end Go.Proofs.YtanlcacaihdceaaGreatDoor.G

/- Layer 4: numbers brought into form; the calls whose answers are fixed. -/
namespace Go.Proofs.YtanlcacaihdceaaGreatDoor.G
open Go.Gv
set_option linter.unusedVariables false
set_option maxRecDepth 100000
theorem DocOf_v (x : Int) : gnomonref04_DocOf.v x = zz x := by
  unfold gnomonref04_DocOf.v gnomonref04_DocOf.D1.v
  simp only [letV]
  have e : di ((dz x).1, (dz x).2) = x := di_dz _
  rw [e]
section
variable {a : Option Addr} {c l : Nat} {xs : List Nat} {h : Hp} {x : Int} {p : Bool}
end
theorem halves_true : gnomonlaw04_halves.v = true := by
  have s : ∀ i : Int, i.natAbs < 18446744073709551616 → SmZ i := fun i h => sm_small (by omega)
  unfold gnomonlaw04_halves.v gnomonlaw04_halves.D1.v
  simp only [letV, DocOf_v]
  have e1 : quoZ flo ((zz (-7)).1, (zz (-7)).2) ((zz 2).1, (zz 2).2) = (zz (-4), 0) := by
    have := quo_zz (g := flo) (s (-7) (by decide)) (s 2 (by decide)) (by decide)
    rw [show flo (-7) 2 = -4 by decide, zlim_ok (s _ (by decide))] at this; exact this
  have e2 : shrZ nea ((zz 7).1, (zz 7).2) 1 = (zz 4, 0) := by
    have := shr_zz (g := nea) (s 7 (by decide)) 1
    rw [show nea 7 (2 ^ 1) = 4 by decide, zlim_ok (s _ (by decide))] at this; exact this
  have e3 : quoZ mo ((zz (-7)).1, (zz (-7)).2) ((zz 3).1, (zz 3).2) = (zz 2, 0) := by
    have := quo_zz (g := mo) (s (-7) (by decide)) (s 3 (by decide)) (by decide)
    rw [show mo (-7) 3 = 2 by decide, zlim_ok (s _ (by decide))] at this; exact this
  rw [e1, e2, e3]
  simp
theorem halves_hs {h : Hp} (tb : Tab h) : HC gnomonlaw04_halves.id #[] h fun v h' => Keep h h' ∧ sBool h h' v true := by
  have := gnomonlaw04_halves.hv tb
  rw [halves_true] at this; exact this
end Go.Proofs.YtanlcacaihdceaaGreatDoor.G

/- Layer 4: a whole number as an argument. -/
namespace Go.Proofs.YtanlcacaihdceaaGreatDoor.G
open Go.Gv
set_option linter.unusedVariables false
set_option maxRecDepth 100000
/-! ### the laws -/
theorem says_oneZ {α β : Type} {S : Says α} {T : Says β} {h : Hp} {cs : List Value} {p : α × β} (z : saysCons S 1 T h cs p) : ∃ c rest, cs = c :: rest ∧ S h [c] p.1 ∧ T h rest p.2 := by
  obtain ⟨l, s, t⟩ := z
  cases cs with
  | nil => simp at l
  | cons c r => exact ⟨c, r, rfl, s, t⟩
abbrev saysInt4 : Says (Bool × List Nat × Unit) := saysCons saysBool 1 (saysCons saysWords 1 saysEnd)
theorem int4_open {h : Hp} {cs : Array Value} {x : Bool × List Nat × Unit} (z : saysInt4 h cs.toList x) : ∃ a c, cs = #[.bool x.1, .slice a x.2.1.length c] ∧ Rd h a c x.2.1 := by
  obtain ⟨v0, t0, e0, f0, z⟩ := says_oneZ z
  obtain ⟨v1, t1, e1, ⟨a1, c1, f1, r1, _⟩, z⟩ := says_oneZ z
  have z : t1 = [] := z
  have f0 : [v0] = [.bool x.1] := f0
  simp only [List.cons.injEq, and_true] at f0 f1
  subst f0 f1
  rw [e1, z] at e0
  exact ⟨a1, c1, Array.toList_inj.mp e0, r1⟩
end Go.Proofs.YtanlcacaihdceaaGreatDoor.G

/- The reference's digits with bounds on their number, in the form that the lifted functions use. -/
namespace Go.Proofs.YtanlcacaihdceaaGreatDoor.G
open Go.Gv
set_option linter.unusedVariables false
theorem rdD0 (h : Hp) (a : Option Addr) (c : Nat) : RdE eU32 h a c (D.digs 0) := by rw [D.digs_zero]; exact RdE.nil _ _ _
theorem gotD0 (h0 h : Hp) : GotE eU32 h0 h none 0 (D.digs 0) := by rw [D.digs_zero]; exact GotE.nil _ _
theorem _root_.Go.Gv.BlkV.nilD {h : Hp} {b k : Nat} {vs : List Value} (o : BlkV h b (vs.set k (.slice none 0 0))) : BlkV h b (vs.set k (.slice none (D.digs 0).length 0)) := by rw [D.digs_zero]; exact o
theorem bdLe {X Y : Nat} (h : X ≤ Y) : (D.digs X).length ≤ (D.digs Y).length := D.digs_len_mono h
theorem bdMul (X Y : Nat) : (D.digs (X * Y)).length ≤ (D.digs X).length + (D.digs Y).length := by
  have hX := (D.digs_len (n := X)).mp (Nat.le_refl _)
  have hY := (D.digs_len (n := Y)).mp (Nat.le_refl _)
  rw [D.digs_len, Nat.mul_add, Nat.pow_add]
  exact Nat.mul_lt_mul'' hX hY
theorem bdAdd (X Y : Nat) : (D.digs (X + Y)).length ≤ (D.digs X).length + (D.digs Y).length + 1 := by
  have hX := (D.digs_len (n := X)).mp (Nat.le_refl _)
  have hY := (D.digs_len (n := Y)).mp (Nat.le_refl _)
  rw [D.digs_len]
  generalize (D.digs X).length = j at *
  generalize (D.digs Y).length = k at *
  have h1 : 2 ^ (32 * j) ≤ 2 ^ (32 * (j + k)) := Nat.pow_le_pow_right (by decide) (by omega)
  have h2 : 2 ^ (32 * k) ≤ 2 ^ (32 * (j + k)) := Nat.pow_le_pow_right (by decide) (by omega)
  have h3 : 2 * 2 ^ (32 * (j + k)) ≤ 2 ^ (32 * (j + k + 1)) := by
    have : (2 : Nat) * 2 ^ (32 * (j + k)) = 2 ^ (32 * (j + k) + 1) := by rw [Nat.pow_succ]; omega
    rw [this]; exact Nat.pow_le_pow_right (by decide) (by omega)
  omega
theorem bdWord {x : Int} (i : In .u64 x) : (D.digs x.toNat).length ≤ 2 := by
  rw [in_u64] at i
  exact D.digs_len.mpr (by show x.toNat < 2 ^ 64; omega)
theorem bdDm1 (X Y : Nat) : (D.digs (dmS X Y).1).length ≤ (D.digs X).length := by
  unfold dmS; split
  · exact bdLe (Nat.zero_le _)
  · exact bdLe (Nat.div_le_self _ _)
theorem bdDm2 (X Y : Nat) : (D.digs (dmS X Y).2).length ≤ (D.digs X).length := by
  unfold dmS; split
  · exact bdLe (Nat.zero_le _)
  · exact bdLe (Nat.mod_le _ _)
theorem frmZ_len (b : Bool) (xs : List Nat) : decide (FrmZ (b, xs)) = true → xs.length ≤ 8192 := fun h => (of_decide_eq_true h).1.1
theorem di_abs (b : Bool) (X : Nat) : (di (b, X)).natAbs = X := sg_abs b X
theorem bz_of {i : Int} {n : Nat} (h : i.natAbs ≤ n) : (D.digs (dz i).2).length ≤ (D.digs n).length := D.digs_len_mono h
theorem bzMk (b : Bool) (X : Nat) : (D.digs (dz (sg b X)).2).length ≤ (D.digs X).length := bz_of (by rw [sg_abs]; exact Nat.le_refl _)
theorem bzOf {x : Int} (i : In .i64 x) : (D.digs (dz x).2).length ≤ 2 := by
  rw [in_i64] at i
  exact D.digs_len.mpr (by show x.natAbs < 2 ^ 64; omega)
theorem bzFrom (b : Bool) {xs : List Nat} (hw : Words xs) : (D.digs (dz (zi (b, xs))).2).length ≤ 2 * xs.length := by
  show (D.digs (zi (b, xs)).natAbs).length ≤ _
  rw [zi_abs]
  exact (dlen_two _ _).mpr (digs_len.mpr (val_lt hw))
theorem bzNeg (b : Bool) (X : Nat) : (D.digs (dz (-di (b, X))).2).length ≤ (D.digs X).length := bz_of (by rw [Int.natAbs_neg, di_abs]; exact Nat.le_refl _)
theorem bzAdd (b : Bool) (X : Nat) (c : Bool) (Y : Nat) : (D.digs (dz (di (b, X) + di (c, Y))).2).length ≤ (D.digs X).length + (D.digs Y).length + 1 :=
  Nat.le_trans (bz_of (n := X + Y) (by have := Int.natAbs_add_le (di (b, X)) (di (c, Y)); rw [di_abs, di_abs] at this; exact this)) (bdAdd X Y)
theorem bzSub (b : Bool) (X : Nat) (c : Bool) (Y : Nat) : (D.digs (dz (di (b, X) - di (c, Y))).2).length ≤ (D.digs X).length + (D.digs Y).length + 1 :=
  Nat.le_trans (bz_of (n := X + Y) (by have := Int.natAbs_sub_le (di (b, X)) (di (c, Y)); rw [di_abs, di_abs] at this; exact this)) (bdAdd X Y)
theorem bzMul (b : Bool) (X : Nat) (c : Bool) (Y : Nat) : (D.digs (dz (di (b, X) * di (c, Y))).2).length ≤ (D.digs X).length + (D.digs Y).length :=
  Nat.le_trans (bz_of (n := X * Y) (by rw [Int.natAbs_mul, di_abs, di_abs]; exact Nat.le_refl _)) (bdMul X Y)
theorem bzShl1 (b : Bool) (X : Nat) : (D.digs (dz (di (b, X) * 2 ^ (Int.toNat (1 : Int)))).2).length ≤ (D.digs X).length + 1 := by
  refine Nat.le_trans (bz_of (n := X * 2) (by rw [Int.natAbs_mul, di_abs]; exact Nat.le_refl _)) (Nat.le_trans (bdMul X 2) ?_)
  have : (D.digs 2).length ≤ 1 := D.digs_len.mpr (by decide)
  omega
/-- Rounded down and the rest, for a divisor above nought. -/
def floZ (a b : Int) : Zd × Zd := if b ≤ 0 then ((false, 0), (false, 0)) else (dz (a / b), dz (a % b))
theorem flo_pos {a b : Int} (h : 0 < b) : flo a b = a / b := by unfold flo; rw [if_neg (by omega)]
theorem flo_le (a b : Int) : (flo a b).natAbs ≤ a.natAbs := by
  by_cases h : b = 0
  · subst h; unfold flo; simp
  · exact flo_abs h
theorem bz0 (n : Nat) : (D.digs 0).length ≤ n := by simp [D.digs_zero]
theorem bzFlo1 (b : Bool) (X : Nat) (c : Bool) (Y : Nat) : (D.digs (floZ (di (b, X)) (di (c, Y))).1.2).length ≤ (D.digs X).length := by
  unfold floZ; split
  · exact bz0 _
  · rename_i h
    have := flo_le (di (b, X)) (di (c, Y))
    rw [flo_pos (by omega), di_abs] at this
    exact bz_of this
theorem bzFlo2 (b : Bool) (X : Nat) (c : Bool) (Y : Nat) : (D.digs (floZ (di (b, X)) (di (c, Y))).2.2).length ≤ (D.digs Y).length := by
  unfold floZ; split
  · exact bz0 _
  · rename_i h
    refine bz_of ?_
    have h1 := Int.emod_lt_of_pos (di (b, X)) (show 0 < di (c, Y) by omega)
    have h2 := Int.emod_nonneg (di (b, X)) (show di (c, Y) ≠ 0 by omega)
    have h3 := di_abs c Y
    omega
/-- To the nearest, for a divisor above nought. -/
def neaZ (a b : Int) : Zd := if b < 0 then dz 1 else if b = 0 then (false, 0) else dz (nea a b)
/-- To the nearest, for any divisor but nought. -/
def nedZ (a b : Int) : Zd := if b = 0 then (false, 0) else dz (nea a b)
theorem bzNea (b : Bool) (X : Nat) (c : Bool) (Y : Nat) : (D.digs (neaZ (di (b, X)) (di (c, Y))).2).length ≤ (D.digs X).length + 1 := by
  unfold neaZ; split
  · have : (D.digs (dz 1).2).length ≤ 1 := D.digs_len.mpr (by decide)
    omega
  · split
    · exact bz0 _
    · exact Nat.le_succ_of_le (bz_of (by have := nea_abs (a := di (b, X)) (b := di (c, Y)) (by omega); rw [di_abs] at this; exact this))
theorem bzNearDiv (b : Bool) (X : Nat) (c : Bool) (Y : Nat) : (D.digs (nedZ (di (b, X)) (di (c, Y))).2).length ≤ (D.digs X).length := by
  unfold nedZ; split
  · exact bz0 _
  · exact bz_of (by have := nea_abs (a := di (b, X)) (b := di (c, Y)) (by omega); rw [di_abs] at this; exact this)
theorem bzFloorDiv (b : Bool) (X : Nat) (c : Bool) (Y : Nat) : (D.digs (dz (flo (di (b, X)) (di (c, Y)))).2).length ≤ (D.digs X).length :=
  bz_of (by have := flo_le (di (b, X)) (di (c, Y)); rw [di_abs] at this; exact this)
theorem bzCeilDiv (b : Bool) (X : Nat) (c : Bool) (Y : Nat) : (D.digs (dz (cei (di (b, X)) (di (c, Y)))).2).length ≤ (D.digs X).length :=
  bz_of (by have := flo_le (-di (b, X)) (di (c, Y)); rw [Int.natAbs_neg, di_abs] at this; unfold cei; rw [Int.natAbs_neg]; exact this)
theorem bzMod (b : Bool) (X : Nat) (c : Bool) (Y : Nat) : (D.digs (dz (mo (di (b, X)) (di (c, Y)))).2).length ≤ (D.digs X).length + (D.digs Y).length := by
  by_cases h : di (c, Y) = 0
  · have : mo (di (b, X)) (di (c, Y)) = di (b, X) := by unfold mo; rw [h]; omega
    rw [this]
    exact Nat.le_trans (bz_of (n := X) (by rw [di_abs]; exact Nat.le_refl _)) (Nat.le_add_right _ _)
  · exact Nat.le_trans (bz_of (n := Y) (by have := mo_abs (a := di (b, X)) h; rw [di_abs] at this; exact Nat.le_of_lt this)) (Nat.le_add_left _ _)
section
variable {a b : Option Addr} {c d l m X Y : Nat} {xs ys : List Nat} {h : Hp} {x y : Int}
theorem gnomonref01_Word.hv (i : In .u64 x) : HC gnomonref01_Word.id #[.int .u64 x] h fun v h' => Keep h h' ∧ sD h h' v x.toNat := rWord_spec (nat_of i).1 (nat_of i).2 h
theorem gnomonref01_Add.hv (r : RdE eU32 h a c (D.digs X)) (e : l = (D.digs X).length) (s : RdE eU32 h b d (D.digs Y)) (f : m = (D.digs Y).length) (w1 : (D.digs X).length ≤ 100000000) (w2 : (D.digs Y).length ≤ 100000000) : HC gnomonref01_Add.id #[.slice a l c, .slice b m d] h fun v h' => Keep h h' ∧ sD h h' v (X + Y) := rAdd_spec r s e f (by omega) (by omega)
theorem gnomonref01_Sub.hv (r : RdE eU32 h a c (D.digs X)) (e : l = (D.digs X).length) (s : RdE eU32 h b d (D.digs Y)) (f : m = (D.digs Y).length) : HC gnomonref01_Sub.id #[.slice a l c, .slice b m d] h fun v h' => Keep h h' ∧ sD h h' v (X - Y) := rSub_spec r s e f
theorem gnomonref01_Mul.hv (r : RdE eU32 h a c (D.digs X)) (e : l = (D.digs X).length) (s : RdE eU32 h b d (D.digs Y)) (f : m = (D.digs Y).length) (w1 : (D.digs X).length ≤ 100000000) (w2 : (D.digs Y).length ≤ 100000000) : HC gnomonref01_Mul.id #[.slice a l c, .slice b m d] h fun v h' => Keep h h' ∧ sD h h' v (X * Y) := rMul_spec r s e f (by omega) (by omega)
theorem gnomonref01_Cmp.hv (r : RdE eU32 h a c (D.digs X)) (e : l = (D.digs X).length) (s : RdE eU32 h b d (D.digs Y)) (f : m = (D.digs Y).length) : HC gnomonref01_Cmp.id #[.slice a l c, .slice b m d] h fun v h' => Keep h h' ∧ sI .i64 h h' v (cmpI X Y) := same_heap (rCmp_spec r s e f) fun v s => ⟨s, cmp_in _ _⟩
theorem gnomonref01_DivMod.hv (r : RdE eU32 h a c (D.digs X)) (e : l = (D.digs X).length) (s : RdE eU32 h b d (D.digs Y)) (f : m = (D.digs Y).length) (w1 : (D.digs X).length ≤ 100000000) : HC gnomonref01_DivMod.id #[.slice a l c, .slice b m d] h fun v h' => Keep h h' ∧ s2 sD sD h h' v (dmS X Y) := DivMod_spec r s e f (by omega)
theorem gnomonref01_Bit.hv (r : RdE eU32 h a c (D.digs X)) (e : l = (D.digs X).length) (i : In .i64 x) : HC gnomonref01_Bit.id #[.slice a l c, .int .i64 x] h fun v h' => Keep h h' ∧ sI .i64 h h' v (bitS X x) := same_heap (rBit_spec r e i) fun v s => ⟨s, by unfold bitS; split <;> rw [in_i64] <;> omega⟩
theorem gnomonref01_Shl.hv (r : RdE eU32 h a c (D.digs X)) (e : l = (D.digs X).length) (i : In .i64 x) (w : 0 ≤ x) (w2 : x ≤ 35184372088832 ∨ X = 0) (w3 : (D.digs X).length ≤ 100000000) : HC gnomonref01_Shl.id #[.slice a l c, .int .i64 x] h fun v h' => Keep h h' ∧ sD h h' v (X * 2 ^ x.toNat) := by
  by_cases h0 : x ≤ 35184372088832
  · exact rShl_spec r e (n := x.toNat) (by omega) (by omega) (by omega)
  · have hX : X = 0 := by rcases w2 with w2 | w2; exact absurd w2 h0; exact w2
    subst hX; subst e
    rw [Nat.zero_mul]
    refine gnomonref01_Shl.ok ?_
    unfold gnomonref01_Shl.t gnomonref01_Shl.D1.t
    have l0 : (D.digs 0).length = 0 := by simp [D.digs_zero]
    refine c_dec (fun h1 => absurd h1 (by omega)) fun h1 => ?_
    refine c_eq (fun h2 => ?_) fun h2 => absurd (by rw [l0]; rfl) h2
    have hX : D.val (D.digs 0) = 0 := D.val_digs 0
    refine hc_intro (rNorm_spec r rfl) fun v h' ⟨k2, s⟩ => ?_
    rw [hX] at s
    exact s.elim fun a2 c2 g2 => ⟨k2, a2, c2, rfl, g2⟩
end
end Go.Proofs.YtanlcacaihdceaaGreatDoor.G

/- Functions without loops as functions of values. Written by a program of this work. -/
namespace Go.Proofs.YtanlcacaihdceaaGreatDoor.G
open Go.Gv
set_option linter.unusedVariables false
set_option maxRecDepth 100000
namespace gnomonref04_Sign
def D1.v (b0_0 : Bool) (X0_1 : Nat) : Int :=
  bif (((((D.digs X0_1).length : Nat) : Int)) == (0 : Int)) then
    (0 : Int)
  else
    bif b0_0 then
      (-1 : Int)
    else
      (1 : Int)
theorem D1.hv {R : Rt} {h0 h : Hp} (k0 : Keep h0 h) {b0_0 : Bool} {a0_1 : Option Addr} {c0_1 l0_1 : Nat} {X0_1 : Nat} (r0_1 : RdE eU32 h a0_1 c0_1 (D.digs X0_1)) (e0_1 : l0_1 = (D.digs X0_1).length) (g : Post (sI .i64) h0 R (D1.v b0_0 X0_1)) : D1.t R b0_0 a0_1 l0_1 c0_1 h := by
  subst e0_1
  have kh := Keep.refl h
  unfold D1.v at g
  unfold D1.t
  refine boxV fun h_1 bx_1 k_1 => ?_
  have o_1 : h0.size ≤ h.size := k0.le
  have oh_1 : h.size ≤ h.size := kh.le
  have lt_1 := bx_1.lt
  have m_1 := k_1.tame
  have k0 := k0.trans k_1
  have kh := kh.trans k_1
  refine ldA bx_1 (base_add _ _) rfl ?_
  refine gSlice_intro rfl ?_
  refine lift_eq g (fun q_2 g => ?_) (fun q_2 g => ?_)
  · exact g _ _ k0 ⟨rfl, (show In .i64 (0 : Int) by decide)⟩
  · refine ldA bx_1 (base_add _ _) rfl ?_
    refine gBool_intro rfl ?_
    refine lift_bool g (fun q_3 g => ?_) (fun q_3 g => ?_)
    · exact g _ _ k0 ⟨rfl, (show In .i64 (-1 : Int) by decide)⟩
    · exact g _ _ k0 ⟨rfl, (show In .i64 (1 : Int) by decide)⟩
def v (b0_0 : Bool) (X0_1 : Nat) : Int := D1.v b0_0 X0_1
theorem hv {h : Hp} {b0_0 : Bool} {a0_1 : Option Addr} {c0_1 l0_1 : Nat} {X0_1 : Nat} (r0_1 : RdE eU32 h a0_1 c0_1 (D.digs X0_1)) (e0_1 : l0_1 = (D.digs X0_1).length) : HC id #[.agg #[.bool b0_0, .slice a0_1 l0_1 c0_1]] h fun v_ h_ => Keep h h_ ∧ (sI .i64) h h_ v_ (v b0_0 X0_1) :=
  ok (D1.hv (Keep.refl _) r0_1 e0_1 fun v h' k s => ⟨k, s⟩)
end gnomonref04_Sign

namespace gnomonref04_Flip
def D1.v (b0_0 : Bool) (X0_1 : Nat) : (Bool × Nat) :=
  letV (dz (sg (!b0_0) X0_1)) fun p_3 =>
  (p_3.1, p_3.2)
theorem D1.hv {R : Rt} {h0 h : Hp} (k0 : Keep h0 h) {b0_0 : Bool} {a0_1 : Option Addr} {c0_1 l0_1 : Nat} {X0_1 : Nat} (r0_1 : RdE eU32 h a0_1 c0_1 (D.digs X0_1)) (e0_1 : l0_1 = (D.digs X0_1).length) (g : Post sZD h0 R (D1.v b0_0 X0_1)) : D1.t R b0_0 a0_1 l0_1 c0_1 h := by
  subst e0_1
  have kh := Keep.refl h
  unfold D1.v at g
  unfold D1.t
  refine boxV fun h_1 bx_1 k_1 => ?_
  have o_1 : h0.size ≤ h.size := k0.le
  have oh_1 : h.size ≤ h.size := kh.le
  have lt_1 := bx_1.lt
  have m_1 := k_1.tame
  have k0 := k0.trans k_1
  have kh := kh.trans k_1
  refine boxV fun h_2 bx_2 k_2 => ?_
  have d_1q_2 : h.size ≠ h_1.size := Nat.ne_of_lt bx_1.lt
  have bx_2 : BlkV h_2 (h_1.size) [.bool false, .slice none (D.digs 0).length 0] := by rw [D.digs_zero]; exact bx_2
  have o_2 : h0.size ≤ h_1.size := k0.le
  have oh_2 : h.size ≤ h_1.size := kh.le
  have lt_2 := bx_2.lt
  have m_2 := k_2.tame
  have bx_1 := bx_1.keep k_2
  have k0 := k0.trans k_2
  have kh := kh.trans k_2
  refine ldA bx_1 (base_add _ _) rfl ?_
  refine gBool_intro rfl ?_
  refine ldA bx_1 (base_add _ _) rfl ?_
  refine gSlice_intro rfl ?_
  refine hc_intro (gnomonref04_Mk.hs (r0_1.tame (m_1.trans m_2)) rfl) fun v h_3 ⟨k_3, s⟩ => ?_
  obtain ⟨p_3, hp_3⟩ : ∃ p, p = dz (sg (!b0_0) X0_1) := ⟨_, rfl⟩
  rw [← hp_3] at s
  replace g := lift_let2 hp_3 g
  have w_3 := bzMk (!b0_0) X0_1
  rw [← hp_3] at w_3
  obtain ⟨a_3, c_3, rfl, r_3⟩ := s
  refine gAgg_intro rfl (uncons_intro (gBool_intro rfl (uncons_intro (gSlice_intro rfl (unnil_intro (?_))))))
  have r_3 := r_3.from k0.le
  have m_3 := k_3.tame
  have bx_1 := bx_1.keep k_3
  have bx_2 := bx_2.keep k_3
  have k0 := k0.trans k_3
  have kh := kh.trans k_3
  refine stA bx_2 (base_add _ _) rfl fun h_4 bx_2 k_4 m_4 => ?_
  have bx_1 := bx_1.keepB d_1q_2 k_4
  have k0 := KeepB.keep k0 k_4 o_2
  have kh := KeepB.keep kh k_4 oh_2
  refine stA bx_2 (base_add _ _) rfl fun h_5 bx_2 k_5 m_5 => ?_
  have bx_1 := bx_1.keepB d_1q_2 k_5
  have k0 := KeepB.keep k0 k_5 o_2
  have kh := KeepB.keep kh k_5 oh_2
  refine ldA bx_2 (base_add _ _) rfl ?_
  refine gBool_intro rfl ?_
  refine ldA bx_2 (base_add _ _) rfl ?_
  refine gSlice_intro rfl ?_
  exact g _ _ k0 ⟨_, _, rfl, (r_3.tame (m_4.trans m_5))⟩
def v (b0_0 : Bool) (X0_1 : Nat) : (Bool × Nat) := D1.v b0_0 X0_1
theorem hv {h : Hp} {b0_0 : Bool} {a0_1 : Option Addr} {c0_1 l0_1 : Nat} {X0_1 : Nat} (r0_1 : RdE eU32 h a0_1 c0_1 (D.digs X0_1)) (e0_1 : l0_1 = (D.digs X0_1).length) : HC id #[.agg #[.bool b0_0, .slice a0_1 l0_1 c0_1]] h fun v_ h_ => Keep h h_ ∧ sZD h h_ v_ (v b0_0 X0_1) :=
  ok (D1.hv (Keep.refl _) r0_1 e0_1 fun v h' k s => ⟨k, s⟩)
end gnomonref04_Flip

namespace gnomonref04_Add
def D1.v (b0_0 : Bool) (X0_1 : Nat) (b1_0 : Bool) (X1_1 : Nat) : (Bool × Nat) :=
  bif (b0_0 == b1_0) then
    letV (X0_1 + X1_1) fun p_5 =>
    letV (dz (sg b0_0 p_5)) fun p_6 =>
    (p_6.1, p_6.2)
  else
    bif (decide ((cmpI X0_1 X1_1) ≥ (0 : Int))) then
      letV (X0_1 - X1_1) fun p_9 =>
      letV (dz (sg b0_0 p_9)) fun p_10 =>
      (p_10.1, p_10.2)
    else
      letV (X1_1 - X0_1) fun p_11 =>
      letV (dz (sg b1_0 p_11)) fun p_12 =>
      (p_12.1, p_12.2)
theorem D1.hv {R : Rt} {h0 h : Hp} (k0 : Keep h0 h) {b0_0 : Bool} {a0_1 : Option Addr} {c0_1 l0_1 : Nat} {X0_1 : Nat} (r0_1 : RdE eU32 h a0_1 c0_1 (D.digs X0_1)) (e0_1 : l0_1 = (D.digs X0_1).length) (w0_1 : (D.digs X0_1).length ≤ 1000000) {b1_0 : Bool} {a1_1 : Option Addr} {c1_1 l1_1 : Nat} {X1_1 : Nat} (r1_1 : RdE eU32 h a1_1 c1_1 (D.digs X1_1)) (e1_1 : l1_1 = (D.digs X1_1).length) (w1_1 : (D.digs X1_1).length ≤ 1000000) (g : Post sZD h0 R (D1.v b0_0 X0_1 b1_0 X1_1)) : D1.t R b0_0 a0_1 l0_1 c0_1 b1_0 a1_1 l1_1 c1_1 h := by
  subst e0_1 e1_1
  have kh := Keep.refl h
  have w_z : (D.digs 0).length = 0 := by simp [D.digs_zero]
  unfold D1.v at g
  unfold D1.t
  refine boxV fun h_1 bx_1 k_1 => ?_
  have o_1 : h0.size ≤ h.size := k0.le
  have oh_1 : h.size ≤ h.size := kh.le
  have lt_1 := bx_1.lt
  have m_1 := k_1.tame
  have k0 := k0.trans k_1
  have kh := kh.trans k_1
  refine boxV fun h_2 bx_2 k_2 => ?_
  have d_1q_2 : h.size ≠ h_1.size := Nat.ne_of_lt bx_1.lt
  have o_2 : h0.size ≤ h_1.size := k0.le
  have oh_2 : h.size ≤ h_1.size := kh.le
  have lt_2 := bx_2.lt
  have m_2 := k_2.tame
  have bx_1 := bx_1.keep k_2
  have k0 := k0.trans k_2
  have kh := kh.trans k_2
  refine boxV fun h_3 bx_3 k_3 => ?_
  have d_1q_3 : h.size ≠ h_2.size := Nat.ne_of_lt bx_1.lt
  have d_2q_3 : h_1.size ≠ h_2.size := Nat.ne_of_lt bx_2.lt
  have bx_3 : BlkV h_3 (h_2.size) [.bool false, .slice none (D.digs 0).length 0] := by rw [D.digs_zero]; exact bx_3
  have o_3 : h0.size ≤ h_2.size := k0.le
  have oh_3 : h.size ≤ h_2.size := kh.le
  have lt_3 := bx_3.lt
  have m_3 := k_3.tame
  have bx_1 := bx_1.keep k_3
  have bx_2 := bx_2.keep k_3
  have k0 := k0.trans k_3
  have kh := kh.trans k_3
  refine ldA bx_1 (base_add _ _) rfl ?_
  refine gBool_intro rfl ?_
  refine ldA bx_2 (base_add _ _) rfl ?_
  refine gBool_intro rfl ?_
  refine lift_bool g (fun q_4 g => ?_) (fun q_4 g => ?_)
  · refine ⟨blkLt (base_add _ _) ((m_2.trans m_3).lt lt_1), ?_⟩
    refine ldA bx_1 (base_add _ _) rfl ?_
    refine gBool_intro rfl ?_
    refine ⟨blkLt (base_add _ _) ((m_2.trans m_3).lt lt_1), ?_⟩
    refine ldA bx_1 (base_add _ _) rfl ?_
    refine gSlice_intro rfl ?_
    refine ⟨blkLt (base_add _ _) ((m_3).lt lt_2), ?_⟩
    refine ldA bx_2 (base_add _ _) rfl ?_
    refine gSlice_intro rfl ?_
    refine hc_intro (gnomonref01_Add.hv (r0_1.tame (m_1.trans (m_2.trans m_3))) rfl (r1_1.tame (m_1.trans (m_2.trans m_3))) rfl (by first | assumption | decide | omega) (by first | assumption | decide | omega)) fun v h_4 ⟨k_4, s⟩ => ?_
    obtain ⟨p_5, hp_5⟩ : ∃ p, p = X0_1 + X1_1 := ⟨_, rfl⟩
    rw [← hp_5] at s
    replace g := lift_let2 hp_5 g
    have w_5 := bdAdd X0_1 X1_1
    rw [← hp_5] at w_5
    obtain ⟨a_5, c_5, rfl, r_5⟩ := s
    refine gSlice_intro rfl (?_)
    have r_5 := r_5.from k0.le
    have m_4 := k_4.tame
    have bx_1 := bx_1.keep k_4
    have bx_2 := bx_2.keep k_4
    have bx_3 := bx_3.keep k_4
    have k0 := k0.trans k_4
    have kh := kh.trans k_4
    refine ⟨k_4.preLe (Nat.le_refl _), ?_⟩
    refine hc_intro (gnomonref04_Mk.hs r_5.rd rfl) fun v h_5 ⟨k_5, s⟩ => ?_
    obtain ⟨p_6, hp_6⟩ : ∃ p, p = dz (sg b0_0 p_5) := ⟨_, rfl⟩
    rw [← hp_6] at s
    replace g := lift_let2 hp_6 g
    have w_6 := bzMk b0_0 p_5
    rw [← hp_6] at w_6
    obtain ⟨a_6, c_6, rfl, r_6⟩ := s
    refine gAgg_intro rfl (uncons_intro (gBool_intro rfl (uncons_intro (gSlice_intro rfl (unnil_intro (?_))))))
    have r_6 := r_6.from k0.le
    have m_5 := k_5.tame
    have bx_1 := bx_1.keep k_5
    have bx_2 := bx_2.keep k_5
    have bx_3 := bx_3.keep k_5
    have k0 := k0.trans k_5
    have kh := kh.trans k_5
    refine ⟨k_5.preLe (m_4).le, ?_⟩
    refine stA bx_3 (base_add _ _) rfl fun h_6 bx_3 k_6 m_6 => ?_
    have bx_1 := bx_1.keepB d_1q_3 k_6
    have bx_2 := bx_2.keepB d_2q_3 k_6
    have k0 := KeepB.keep k0 k_6 o_3
    have kh := KeepB.keep kh k_6 oh_3
    refine stA bx_3 (base_add _ _) rfl fun h_7 bx_3 k_7 m_7 => ?_
    have bx_1 := bx_1.keepB d_1q_3 k_7
    have bx_2 := bx_2.keepB d_2q_3 k_7
    have k0 := KeepB.keep k0 k_7 o_3
    have kh := KeepB.keep kh k_7 oh_3
    refine ldA bx_3 (base_add _ _) rfl ?_
    refine gBool_intro rfl ?_
    refine ldA bx_3 (base_add _ _) rfl ?_
    refine gSlice_intro rfl ?_
    exact g _ _ k0 ⟨_, _, rfl, (r_6.tame (m_6.trans m_7))⟩
  · refine ldA bx_1 (base_add _ _) rfl ?_
    refine gSlice_intro rfl ?_
    refine ldA bx_2 (base_add _ _) rfl ?_
    refine gSlice_intro rfl ?_
    refine hc_intro (gnomonref01_Cmp.hv (r0_1.tame (m_1.trans (m_2.trans m_3))) rfl (r1_1.tame (m_1.trans (m_2.trans m_3))) rfl) fun v h_4 ⟨k_4, s⟩ => ?_
    obtain ⟨rfl, i_7⟩ := s
    refine gInt_intro rfl (?_)
    have m_4 := k_4.tame
    have bx_1 := bx_1.keep k_4
    have bx_2 := bx_2.keep k_4
    have bx_3 := bx_3.keep k_4
    have k0 := k0.trans k_4
    have kh := kh.trans k_4
    refine lift_dec g (fun q_8 g => ?_) (fun q_8 g => ?_)
    · refine ⟨blkLt (base_add _ _) ((m_2.trans (m_3.trans m_4)).lt lt_1), ?_⟩
      refine ldA bx_1 (base_add _ _) rfl ?_
      refine gBool_intro rfl ?_
      refine ⟨blkLt (base_add _ _) ((m_2.trans (m_3.trans m_4)).lt lt_1), ?_⟩
      refine ldA bx_1 (base_add _ _) rfl ?_
      refine gSlice_intro rfl ?_
      refine ⟨blkLt (base_add _ _) ((m_3.trans m_4).lt lt_2), ?_⟩
      refine ldA bx_2 (base_add _ _) rfl ?_
      refine gSlice_intro rfl ?_
      refine hc_intro (gnomonref01_Sub.hv (r0_1.tame (m_1.trans (m_2.trans (m_3.trans m_4)))) rfl (r1_1.tame (m_1.trans (m_2.trans (m_3.trans m_4)))) rfl) fun v h_5 ⟨k_5, s⟩ => ?_
      obtain ⟨p_9, hp_9⟩ : ∃ p, p = X0_1 - X1_1 := ⟨_, rfl⟩
      rw [← hp_9] at s
      replace g := lift_let2 hp_9 g
      have w_9 := bdLe (Nat.sub_le X0_1 X1_1)
      rw [← hp_9] at w_9
      obtain ⟨a_9, c_9, rfl, r_9⟩ := s
      refine gSlice_intro rfl (?_)
      have r_9 := r_9.from k0.le
      have m_5 := k_5.tame
      have bx_1 := bx_1.keep k_5
      have bx_2 := bx_2.keep k_5
      have bx_3 := bx_3.keep k_5
      have k0 := k0.trans k_5
      have kh := kh.trans k_5
      refine ⟨k_5.preLe (Nat.le_refl _), ?_⟩
      refine hc_intro (gnomonref04_Mk.hs r_9.rd rfl) fun v h_6 ⟨k_6, s⟩ => ?_
      obtain ⟨p_10, hp_10⟩ : ∃ p, p = dz (sg b0_0 p_9) := ⟨_, rfl⟩
      rw [← hp_10] at s
      replace g := lift_let2 hp_10 g
      have w_10 := bzMk b0_0 p_9
      rw [← hp_10] at w_10
      obtain ⟨a_10, c_10, rfl, r_10⟩ := s
      refine gAgg_intro rfl (uncons_intro (gBool_intro rfl (uncons_intro (gSlice_intro rfl (unnil_intro (?_))))))
      have r_10 := r_10.from k0.le
      have m_6 := k_6.tame
      have bx_1 := bx_1.keep k_6
      have bx_2 := bx_2.keep k_6
      have bx_3 := bx_3.keep k_6
      have k0 := k0.trans k_6
      have kh := kh.trans k_6
      refine ⟨k_6.preLe (m_5).le, ?_⟩
      refine stA bx_3 (base_add _ _) rfl fun h_7 bx_3 k_7 m_7 => ?_
      have bx_1 := bx_1.keepB d_1q_3 k_7
      have bx_2 := bx_2.keepB d_2q_3 k_7
      have k0 := KeepB.keep k0 k_7 o_3
      have kh := KeepB.keep kh k_7 oh_3
      refine stA bx_3 (base_add _ _) rfl fun h_8 bx_3 k_8 m_8 => ?_
      have bx_1 := bx_1.keepB d_1q_3 k_8
      have bx_2 := bx_2.keepB d_2q_3 k_8
      have k0 := KeepB.keep k0 k_8 o_3
      have kh := KeepB.keep kh k_8 oh_3
      refine ldA bx_3 (base_add _ _) rfl ?_
      refine gBool_intro rfl ?_
      refine ldA bx_3 (base_add _ _) rfl ?_
      refine gSlice_intro rfl ?_
      exact g _ _ k0 ⟨_, _, rfl, (r_10.tame (m_7.trans m_8))⟩
    · refine ⟨blkLt (base_add _ _) ((m_3.trans m_4).lt lt_2), ?_⟩
      refine ldA bx_2 (base_add _ _) rfl ?_
      refine gBool_intro rfl ?_
      refine ⟨blkLt (base_add _ _) ((m_3.trans m_4).lt lt_2), ?_⟩
      refine ldA bx_2 (base_add _ _) rfl ?_
      refine gSlice_intro rfl ?_
      refine ⟨blkLt (base_add _ _) ((m_2.trans (m_3.trans m_4)).lt lt_1), ?_⟩
      refine ldA bx_1 (base_add _ _) rfl ?_
      refine gSlice_intro rfl ?_
      refine hc_intro (gnomonref01_Sub.hv (r1_1.tame (m_1.trans (m_2.trans (m_3.trans m_4)))) rfl (r0_1.tame (m_1.trans (m_2.trans (m_3.trans m_4)))) rfl) fun v h_5 ⟨k_5, s⟩ => ?_
      obtain ⟨p_11, hp_11⟩ : ∃ p, p = X1_1 - X0_1 := ⟨_, rfl⟩
      rw [← hp_11] at s
      replace g := lift_let2 hp_11 g
      have w_11 := bdLe (Nat.sub_le X1_1 X0_1)
      rw [← hp_11] at w_11
      obtain ⟨a_11, c_11, rfl, r_11⟩ := s
      refine gSlice_intro rfl (?_)
      have r_11 := r_11.from k0.le
      have m_5 := k_5.tame
      have bx_1 := bx_1.keep k_5
      have bx_2 := bx_2.keep k_5
      have bx_3 := bx_3.keep k_5
      have k0 := k0.trans k_5
      have kh := kh.trans k_5
      refine ⟨k_5.preLe (Nat.le_refl _), ?_⟩
      refine hc_intro (gnomonref04_Mk.hs r_11.rd rfl) fun v h_6 ⟨k_6, s⟩ => ?_
      obtain ⟨p_12, hp_12⟩ : ∃ p, p = dz (sg b1_0 p_11) := ⟨_, rfl⟩
      rw [← hp_12] at s
      replace g := lift_let2 hp_12 g
      have w_12 := bzMk b1_0 p_11
      rw [← hp_12] at w_12
      obtain ⟨a_12, c_12, rfl, r_12⟩ := s
      refine gAgg_intro rfl (uncons_intro (gBool_intro rfl (uncons_intro (gSlice_intro rfl (unnil_intro (?_))))))
      have r_12 := r_12.from k0.le
      have m_6 := k_6.tame
      have bx_1 := bx_1.keep k_6
      have bx_2 := bx_2.keep k_6
      have bx_3 := bx_3.keep k_6
      have k0 := k0.trans k_6
      have kh := kh.trans k_6
      refine ⟨k_6.preLe (m_5).le, ?_⟩
      refine stA bx_3 (base_add _ _) rfl fun h_7 bx_3 k_7 m_7 => ?_
      have bx_1 := bx_1.keepB d_1q_3 k_7
      have bx_2 := bx_2.keepB d_2q_3 k_7
      have k0 := KeepB.keep k0 k_7 o_3
      have kh := KeepB.keep kh k_7 oh_3
      refine stA bx_3 (base_add _ _) rfl fun h_8 bx_3 k_8 m_8 => ?_
      have bx_1 := bx_1.keepB d_1q_3 k_8
      have bx_2 := bx_2.keepB d_2q_3 k_8
      have k0 := KeepB.keep k0 k_8 o_3
      have kh := KeepB.keep kh k_8 oh_3
      refine ldA bx_3 (base_add _ _) rfl ?_
      refine gBool_intro rfl ?_
      refine ldA bx_3 (base_add _ _) rfl ?_
      refine gSlice_intro rfl ?_
      exact g _ _ k0 ⟨_, _, rfl, (r_12.tame (m_7.trans m_8))⟩
def v (b0_0 : Bool) (X0_1 : Nat) (b1_0 : Bool) (X1_1 : Nat) : (Bool × Nat) := D1.v b0_0 X0_1 b1_0 X1_1
theorem hv {h : Hp} {b0_0 : Bool} {a0_1 : Option Addr} {c0_1 l0_1 : Nat} {X0_1 : Nat} (r0_1 : RdE eU32 h a0_1 c0_1 (D.digs X0_1)) (e0_1 : l0_1 = (D.digs X0_1).length) (w0_1 : (D.digs X0_1).length ≤ 1000000) {b1_0 : Bool} {a1_1 : Option Addr} {c1_1 l1_1 : Nat} {X1_1 : Nat} (r1_1 : RdE eU32 h a1_1 c1_1 (D.digs X1_1)) (e1_1 : l1_1 = (D.digs X1_1).length) (w1_1 : (D.digs X1_1).length ≤ 1000000) : HC id #[.agg #[.bool b0_0, .slice a0_1 l0_1 c0_1], .agg #[.bool b1_0, .slice a1_1 l1_1 c1_1]] h fun v_ h_ => Keep h h_ ∧ sZD h h_ v_ (v b0_0 X0_1 b1_0 X1_1) :=
  ok (D1.hv (Keep.refl _) r0_1 e0_1 w0_1 r1_1 e1_1 w1_1 fun v h' k s => ⟨k, s⟩)
end gnomonref04_Add

namespace gnomonref04_Mul
def D1.v (b0_0 : Bool) (X0_1 : Nat) (b1_0 : Bool) (X1_1 : Nat) : (Bool × Nat) :=
  letV (X0_1 * X1_1) fun p_4 =>
  letV (dz (sg ((!(b0_0 == b1_0))) p_4)) fun p_5 =>
  (p_5.1, p_5.2)
theorem D1.hv {R : Rt} {h0 h : Hp} (k0 : Keep h0 h) {b0_0 : Bool} {a0_1 : Option Addr} {c0_1 l0_1 : Nat} {X0_1 : Nat} (r0_1 : RdE eU32 h a0_1 c0_1 (D.digs X0_1)) (e0_1 : l0_1 = (D.digs X0_1).length) (w0_1 : (D.digs X0_1).length ≤ 1000000) {b1_0 : Bool} {a1_1 : Option Addr} {c1_1 l1_1 : Nat} {X1_1 : Nat} (r1_1 : RdE eU32 h a1_1 c1_1 (D.digs X1_1)) (e1_1 : l1_1 = (D.digs X1_1).length) (w1_1 : (D.digs X1_1).length ≤ 1000000) (g : Post sZD h0 R (D1.v b0_0 X0_1 b1_0 X1_1)) : D1.t R b0_0 a0_1 l0_1 c0_1 b1_0 a1_1 l1_1 c1_1 h := by
  subst e0_1 e1_1
  have kh := Keep.refl h
  have w_z : (D.digs 0).length = 0 := by simp [D.digs_zero]
  unfold D1.v at g
  unfold D1.t
  refine boxV fun h_1 bx_1 k_1 => ?_
  have o_1 : h0.size ≤ h.size := k0.le
  have oh_1 : h.size ≤ h.size := kh.le
  have lt_1 := bx_1.lt
  have m_1 := k_1.tame
  have k0 := k0.trans k_1
  have kh := kh.trans k_1
  refine boxV fun h_2 bx_2 k_2 => ?_
  have d_1q_2 : h.size ≠ h_1.size := Nat.ne_of_lt bx_1.lt
  have o_2 : h0.size ≤ h_1.size := k0.le
  have oh_2 : h.size ≤ h_1.size := kh.le
  have lt_2 := bx_2.lt
  have m_2 := k_2.tame
  have bx_1 := bx_1.keep k_2
  have k0 := k0.trans k_2
  have kh := kh.trans k_2
  refine boxV fun h_3 bx_3 k_3 => ?_
  have d_1q_3 : h.size ≠ h_2.size := Nat.ne_of_lt bx_1.lt
  have d_2q_3 : h_1.size ≠ h_2.size := Nat.ne_of_lt bx_2.lt
  have bx_3 : BlkV h_3 (h_2.size) [.bool false, .slice none (D.digs 0).length 0] := by rw [D.digs_zero]; exact bx_3
  have o_3 : h0.size ≤ h_2.size := k0.le
  have oh_3 : h.size ≤ h_2.size := kh.le
  have lt_3 := bx_3.lt
  have m_3 := k_3.tame
  have bx_1 := bx_1.keep k_3
  have bx_2 := bx_2.keep k_3
  have k0 := k0.trans k_3
  have kh := kh.trans k_3
  refine ⟨blkLt (base_add _ _) ((m_2.trans m_3).lt lt_1), ?_⟩
  refine ldA bx_1 (base_add _ _) rfl ?_
  refine gBool_intro rfl ?_
  refine ⟨blkLt (base_add _ _) ((m_3).lt lt_2), ?_⟩
  refine ldA bx_2 (base_add _ _) rfl ?_
  refine gBool_intro rfl ?_
  refine ⟨blkLt (base_add _ _) ((m_2.trans m_3).lt lt_1), ?_⟩
  refine ldA bx_1 (base_add _ _) rfl ?_
  refine gSlice_intro rfl ?_
  refine ⟨blkLt (base_add _ _) ((m_3).lt lt_2), ?_⟩
  refine ldA bx_2 (base_add _ _) rfl ?_
  refine gSlice_intro rfl ?_
  refine hc_intro (gnomonref01_Mul.hv (r0_1.tame (m_1.trans (m_2.trans m_3))) rfl (r1_1.tame (m_1.trans (m_2.trans m_3))) rfl (by first | assumption | decide | omega) (by first | assumption | decide | omega)) fun v h_4 ⟨k_4, s⟩ => ?_
  obtain ⟨p_4, hp_4⟩ : ∃ p, p = X0_1 * X1_1 := ⟨_, rfl⟩
  rw [← hp_4] at s
  replace g := lift_let2 hp_4 g
  have w_4 := bdMul X0_1 X1_1
  rw [← hp_4] at w_4
  obtain ⟨a_4, c_4, rfl, r_4⟩ := s
  refine gSlice_intro rfl (?_)
  have r_4 := r_4.from k0.le
  have m_4 := k_4.tame
  have bx_1 := bx_1.keep k_4
  have bx_2 := bx_2.keep k_4
  have bx_3 := bx_3.keep k_4
  have k0 := k0.trans k_4
  have kh := kh.trans k_4
  refine ⟨k_4.preLe (Nat.le_refl _), ?_⟩
  refine hc_intro (gnomonref04_Mk.hs r_4.rd rfl) fun v h_5 ⟨k_5, s⟩ => ?_
  obtain ⟨p_5, hp_5⟩ : ∃ p, p = dz (sg ((!(b0_0 == b1_0))) p_4) := ⟨_, rfl⟩
  rw [← hp_5] at s
  replace g := lift_let2 hp_5 g
  have w_5 := bzMk ((!(b0_0 == b1_0))) p_4
  rw [← hp_5] at w_5
  obtain ⟨a_5, c_5, rfl, r_5⟩ := s
  refine gAgg_intro rfl (uncons_intro (gBool_intro rfl (uncons_intro (gSlice_intro rfl (unnil_intro (?_))))))
  have r_5 := r_5.from k0.le
  have m_5 := k_5.tame
  have bx_1 := bx_1.keep k_5
  have bx_2 := bx_2.keep k_5
  have bx_3 := bx_3.keep k_5
  have k0 := k0.trans k_5
  have kh := kh.trans k_5
  refine ⟨k_5.preLe (m_4).le, ?_⟩
  refine stA bx_3 (base_add _ _) rfl fun h_6 bx_3 k_6 m_6 => ?_
  have bx_1 := bx_1.keepB d_1q_3 k_6
  have bx_2 := bx_2.keepB d_2q_3 k_6
  have k0 := KeepB.keep k0 k_6 o_3
  have kh := KeepB.keep kh k_6 oh_3
  refine stA bx_3 (base_add _ _) rfl fun h_7 bx_3 k_7 m_7 => ?_
  have bx_1 := bx_1.keepB d_1q_3 k_7
  have bx_2 := bx_2.keepB d_2q_3 k_7
  have k0 := KeepB.keep k0 k_7 o_3
  have kh := KeepB.keep kh k_7 oh_3
  refine ldA bx_3 (base_add _ _) rfl ?_
  refine gBool_intro rfl ?_
  refine ldA bx_3 (base_add _ _) rfl ?_
  refine gSlice_intro rfl ?_
  exact g _ _ k0 ⟨_, _, rfl, (r_5.tame (m_6.trans m_7))⟩
def v (b0_0 : Bool) (X0_1 : Nat) (b1_0 : Bool) (X1_1 : Nat) : (Bool × Nat) := D1.v b0_0 X0_1 b1_0 X1_1
theorem hv {h : Hp} {b0_0 : Bool} {a0_1 : Option Addr} {c0_1 l0_1 : Nat} {X0_1 : Nat} (r0_1 : RdE eU32 h a0_1 c0_1 (D.digs X0_1)) (e0_1 : l0_1 = (D.digs X0_1).length) (w0_1 : (D.digs X0_1).length ≤ 1000000) {b1_0 : Bool} {a1_1 : Option Addr} {c1_1 l1_1 : Nat} {X1_1 : Nat} (r1_1 : RdE eU32 h a1_1 c1_1 (D.digs X1_1)) (e1_1 : l1_1 = (D.digs X1_1).length) (w1_1 : (D.digs X1_1).length ≤ 1000000) : HC id #[.agg #[.bool b0_0, .slice a0_1 l0_1 c0_1], .agg #[.bool b1_0, .slice a1_1 l1_1 c1_1]] h fun v_ h_ => Keep h h_ ∧ sZD h h_ v_ (v b0_0 X0_1 b1_0 X1_1) :=
  ok (D1.hv (Keep.refl _) r0_1 e0_1 w0_1 r1_1 e1_1 w1_1 fun v h' k s => ⟨k, s⟩)
end gnomonref04_Mul

namespace gnomonref04_Shl
def D1.v (b0_0 : Bool) (X0_1 : Nat) (x1 : Int) : (Bool × Nat) :=
  letV (X0_1 * 2 ^ (Int.toNat x1)) fun p_3 =>
  letV (dz (sg b0_0 p_3)) fun p_4 =>
  (p_4.1, p_4.2)
theorem D1.hv {R : Rt} {h0 h : Hp} (k0 : Keep h0 h) {b0_0 : Bool} {a0_1 : Option Addr} {c0_1 l0_1 : Nat} {X0_1 : Nat} (r0_1 : RdE eU32 h a0_1 c0_1 (D.digs X0_1)) (e0_1 : l0_1 = (D.digs X0_1).length) (w0_1 : (D.digs X0_1).length ≤ 1000000) {x1 : Int} (i1 : In .i64 x1) (v1 : 0 ≤ x1) (v2 : x1 ≤ 35184372088832 ∨ X0_1 = 0) (g : Post sZD h0 R (D1.v b0_0 X0_1 x1)) : D1.t R b0_0 a0_1 l0_1 c0_1 x1 h := by
  subst e0_1
  have kh := Keep.refl h
  have w_z : (D.digs 0).length = 0 := by simp [D.digs_zero]
  unfold D1.v at g
  unfold D1.t
  refine boxV fun h_1 bx_1 k_1 => ?_
  have o_1 : h0.size ≤ h.size := k0.le
  have oh_1 : h.size ≤ h.size := kh.le
  have lt_1 := bx_1.lt
  have m_1 := k_1.tame
  have k0 := k0.trans k_1
  have kh := kh.trans k_1
  refine boxV fun h_2 bx_2 k_2 => ?_
  have d_1q_2 : h.size ≠ h_1.size := Nat.ne_of_lt bx_1.lt
  have bx_2 : BlkV h_2 (h_1.size) [.bool false, .slice none (D.digs 0).length 0] := by rw [D.digs_zero]; exact bx_2
  have o_2 : h0.size ≤ h_1.size := k0.le
  have oh_2 : h.size ≤ h_1.size := kh.le
  have lt_2 := bx_2.lt
  have m_2 := k_2.tame
  have bx_1 := bx_1.keep k_2
  have k0 := k0.trans k_2
  have kh := kh.trans k_2
  refine ⟨blkLt (base_add _ _) ((m_2).lt lt_1), ?_⟩
  refine ldA bx_1 (base_add _ _) rfl ?_
  refine gBool_intro rfl ?_
  refine ⟨blkLt (base_add _ _) ((m_2).lt lt_1), ?_⟩
  refine ldA bx_1 (base_add _ _) rfl ?_
  refine gSlice_intro rfl ?_
  refine hc_intro (gnomonref01_Shl.hv (r0_1.tame (m_1.trans m_2)) rfl i1 (by first | assumption | decide | omega) (by first | assumption | decide | omega) (by first | assumption | decide | omega)) fun v h_3 ⟨k_3, s⟩ => ?_
  obtain ⟨p_3, hp_3⟩ : ∃ p, p = X0_1 * 2 ^ (Int.toNat x1) := ⟨_, rfl⟩
  rw [← hp_3] at s
  replace g := lift_let2 hp_3 g
  obtain ⟨a_3, c_3, rfl, r_3⟩ := s
  refine gSlice_intro rfl (?_)
  have r_3 := r_3.from k0.le
  have m_3 := k_3.tame
  have bx_1 := bx_1.keep k_3
  have bx_2 := bx_2.keep k_3
  have k0 := k0.trans k_3
  have kh := kh.trans k_3
  refine ⟨k_3.preLe (Nat.le_refl _), ?_⟩
  refine hc_intro (gnomonref04_Mk.hs r_3.rd rfl) fun v h_4 ⟨k_4, s⟩ => ?_
  obtain ⟨p_4, hp_4⟩ : ∃ p, p = dz (sg b0_0 p_3) := ⟨_, rfl⟩
  rw [← hp_4] at s
  replace g := lift_let2 hp_4 g
  have w_4 := bzMk b0_0 p_3
  rw [← hp_4] at w_4
  obtain ⟨a_4, c_4, rfl, r_4⟩ := s
  refine gAgg_intro rfl (uncons_intro (gBool_intro rfl (uncons_intro (gSlice_intro rfl (unnil_intro (?_))))))
  have r_4 := r_4.from k0.le
  have m_4 := k_4.tame
  have bx_1 := bx_1.keep k_4
  have bx_2 := bx_2.keep k_4
  have k0 := k0.trans k_4
  have kh := kh.trans k_4
  refine ⟨k_4.preLe (m_3).le, ?_⟩
  refine stA bx_2 (base_add _ _) rfl fun h_5 bx_2 k_5 m_5 => ?_
  have bx_1 := bx_1.keepB d_1q_2 k_5
  have k0 := KeepB.keep k0 k_5 o_2
  have kh := KeepB.keep kh k_5 oh_2
  refine stA bx_2 (base_add _ _) rfl fun h_6 bx_2 k_6 m_6 => ?_
  have bx_1 := bx_1.keepB d_1q_2 k_6
  have k0 := KeepB.keep k0 k_6 o_2
  have kh := KeepB.keep kh k_6 oh_2
  refine ldA bx_2 (base_add _ _) rfl ?_
  refine gBool_intro rfl ?_
  refine ldA bx_2 (base_add _ _) rfl ?_
  refine gSlice_intro rfl ?_
  exact g _ _ k0 ⟨_, _, rfl, (r_4.tame (m_5.trans m_6))⟩
def v (b0_0 : Bool) (X0_1 : Nat) (x1 : Int) : (Bool × Nat) := D1.v b0_0 X0_1 x1
theorem hv {h : Hp} {b0_0 : Bool} {a0_1 : Option Addr} {c0_1 l0_1 : Nat} {X0_1 : Nat} (r0_1 : RdE eU32 h a0_1 c0_1 (D.digs X0_1)) (e0_1 : l0_1 = (D.digs X0_1).length) (w0_1 : (D.digs X0_1).length ≤ 1000000) {x1 : Int} (i1 : In .i64 x1) (v1 : 0 ≤ x1) (v2 : x1 ≤ 35184372088832 ∨ X0_1 = 0) : HC id #[.agg #[.bool b0_0, .slice a0_1 l0_1 c0_1], .int .i64 x1] h fun v_ h_ => Keep h h_ ∧ sZD h h_ v_ (v b0_0 X0_1 x1) :=
  ok (D1.hv (Keep.refl _) r0_1 e0_1 w0_1 i1 v1 v2 fun v h' k s => ⟨k, s⟩)
end gnomonref04_Shl

namespace gnomonref04_Floor
def D2.v (b3_0 : Bool) (X3_1 : Nat) (b4_0 : Bool) (X4_1 : Nat) (b5_0 : Bool) (X5_1 : Nat) (X6 : Nat) (X7 : Nat) : ((Bool × Nat) × (Bool × Nat)) :=
  letV (Int.toNat (1 : Int)) fun p_14 =>
  letV (X6 + p_14) fun p_15 =>
  letV (dz (sg true p_15)) fun p_16 =>
  letV (X3_1 - X7) fun p_17 =>
  letV (dz (sg false p_17)) fun p_18 =>
  ((p_16.1, p_16.2), (p_18.1, p_18.2))
theorem D2.hv {R : Rt} {h0 h : Hp} (k0 : Keep h0 h) {b3_0 : Bool} {a3_1 : Option Addr} {c3_1 : Nat} {X3_1 : Nat} (r3_1 : RdE eU32 h a3_1 c3_1 (D.digs X3_1)) (w3_1 : (D.digs X3_1).length ≤ 10000000) {B3 : Nat} (bx3 : BlkV h B3 [.bool b3_0, .slice a3_1 (D.digs X3_1).length c3_1]) (o3 : h0.size ≤ B3) {b4_0 : Bool} {a4_1 : Option Addr} {c4_1 : Nat} {X4_1 : Nat} (r4_1 : GotE eU32 h0 h a4_1 c4_1 (D.digs X4_1)) (w4_1 : (D.digs X4_1).length ≤ 10000000) {B4 : Nat} (bx4 : BlkV h B4 [.bool b4_0, .slice a4_1 (D.digs X4_1).length c4_1]) (o4 : h0.size ≤ B4) {b5_0 : Bool} {a5_1 : Option Addr} {c5_1 : Nat} {X5_1 : Nat} (r5_1 : GotE eU32 h0 h a5_1 c5_1 (D.digs X5_1)) (w5_1 : (D.digs X5_1).length ≤ 10000000) {B5 : Nat} (bx5 : BlkV h B5 [.bool b5_0, .slice a5_1 (D.digs X5_1).length c5_1]) (o5 : h0.size ≤ B5) {a6 : Option Addr} {c6 l6 : Nat} {X6 : Nat} (r6 : GotE eU32 h0 h a6 c6 (D.digs X6)) (e6 : l6 = (D.digs X6).length) (w6 : (D.digs X6).length ≤ 10000000) {a7 : Option Addr} {c7 l7 : Nat} {X7 : Nat} (r7 : GotE eU32 h0 h a7 c7 (D.digs X7)) (e7 : l7 = (D.digs X7).length) (w7 : (D.digs X7).length ≤ 10000000) (d3q4 : B3 ≠ B4) (d3q5 : B3 ≠ B5) (d4q5 : B4 ≠ B5) (g : Post (s2 sZD sZD) h0 R (D2.v b3_0 X3_1 b4_0 X4_1 b5_0 X5_1 X6 X7)) : D2.t R (⟨B3, 0, none⟩ : Addr) (⟨B4, 0, none⟩ : Addr) (⟨B5, 0, none⟩ : Addr) a6 l6 c6 a7 l7 c7 h := by
  subst e6 e7
  have kh := Keep.refl h
  have lt3 := bx3.lt
  have lt4 := bx4.lt
  have lt5 := bx5.lt
  have w_z : (D.digs 0).length = 0 := by simp [D.digs_zero]
  unfold D2.v at g
  unfold D2.t
  refine hc_intro (gnomonref01_Word.hv (show In .u64 (1 : Int) by decide)) fun v h_1 ⟨k_1, s⟩ => ?_
  obtain ⟨p_14, hp_14⟩ : ∃ p, p = Int.toNat (1 : Int) := ⟨_, rfl⟩
  rw [← hp_14] at s
  replace g := lift_let2 hp_14 g
  have w_14 := bdWord (show In .u64 (1 : Int) by decide)
  rw [← hp_14] at w_14
  obtain ⟨a_14, c_14, rfl, r_14⟩ := s
  refine gSlice_intro rfl (?_)
  have r_14 := r_14.from k0.le
  have m_1 := k_1.tame
  have bx3 := bx3.keep k_1
  have bx4 := bx4.keep k_1
  have bx5 := bx5.keep k_1
  have k0 := k0.trans k_1
  have kh := kh.trans k_1
  refine ⟨k_1.preLe (Nat.le_refl _), ?_⟩
  refine hc_intro (gnomonref01_Add.hv (r6.tame (m_1)).rd rfl r_14.rd rfl (by first | assumption | decide | omega) (by first | assumption | decide | omega)) fun v h_2 ⟨k_2, s⟩ => ?_
  obtain ⟨p_15, hp_15⟩ : ∃ p, p = X6 + p_14 := ⟨_, rfl⟩
  rw [← hp_15] at s
  replace g := lift_let2 hp_15 g
  have w_15 := bdAdd X6 p_14
  rw [← hp_15] at w_15
  obtain ⟨a_15, c_15, rfl, r_15⟩ := s
  refine gSlice_intro rfl (?_)
  have r_15 := r_15.from k0.le
  have m_2 := k_2.tame
  have bx3 := bx3.keep k_2
  have bx4 := bx4.keep k_2
  have bx5 := bx5.keep k_2
  have k0 := k0.trans k_2
  have kh := kh.trans k_2
  refine ⟨k_2.preLe (m_1).le, ?_⟩
  refine hc_intro (gnomonref04_Mk.hs r_15.rd rfl) fun v h_3 ⟨k_3, s⟩ => ?_
  obtain ⟨p_16, hp_16⟩ : ∃ p, p = dz (sg true p_15) := ⟨_, rfl⟩
  rw [← hp_16] at s
  replace g := lift_let2 hp_16 g
  have w_16 := bzMk true p_15
  rw [← hp_16] at w_16
  obtain ⟨a_16, c_16, rfl, r_16⟩ := s
  refine gAgg_intro rfl (uncons_intro (gBool_intro rfl (uncons_intro (gSlice_intro rfl (unnil_intro (?_))))))
  have r_16 := r_16.from k0.le
  have m_3 := k_3.tame
  have bx3 := bx3.keep k_3
  have bx4 := bx4.keep k_3
  have bx5 := bx5.keep k_3
  have k0 := k0.trans k_3
  have kh := kh.trans k_3
  refine ⟨k_3.preLe (m_1.trans m_2).le, ?_⟩
  refine ⟨blkLt (base_add _ _) (lt3), ?_⟩
  refine ldA bx3 (base_add _ _) rfl ?_
  refine gSlice_intro rfl ?_
  refine hc_intro (gnomonref01_Sub.hv (r3_1.tame (m_1.trans (m_2.trans m_3))) rfl (r7.tame (m_1.trans (m_2.trans m_3))).rd rfl) fun v h_4 ⟨k_4, s⟩ => ?_
  obtain ⟨p_17, hp_17⟩ : ∃ p, p = X3_1 - X7 := ⟨_, rfl⟩
  rw [← hp_17] at s
  replace g := lift_let2 hp_17 g
  have w_17 := bdLe (Nat.sub_le X3_1 X7)
  rw [← hp_17] at w_17
  obtain ⟨a_17, c_17, rfl, r_17⟩ := s
  refine gSlice_intro rfl (?_)
  have r_17 := r_17.from k0.le
  have m_4 := k_4.tame
  have bx3 := bx3.keep k_4
  have bx4 := bx4.keep k_4
  have bx5 := bx5.keep k_4
  have k0 := k0.trans k_4
  have kh := kh.trans k_4
  refine ⟨k_4.preLe (m_1.trans (m_2.trans m_3)).le, ?_⟩
  refine hc_intro (gnomonref04_Mk.hs r_17.rd rfl) fun v h_5 ⟨k_5, s⟩ => ?_
  obtain ⟨p_18, hp_18⟩ : ∃ p, p = dz (sg false p_17) := ⟨_, rfl⟩
  rw [← hp_18] at s
  replace g := lift_let2 hp_18 g
  have w_18 := bzMk false p_17
  rw [← hp_18] at w_18
  obtain ⟨a_18, c_18, rfl, r_18⟩ := s
  refine gAgg_intro rfl (uncons_intro (gBool_intro rfl (uncons_intro (gSlice_intro rfl (unnil_intro (?_))))))
  have r_18 := r_18.from k0.le
  have m_5 := k_5.tame
  have bx3 := bx3.keep k_5
  have bx4 := bx4.keep k_5
  have bx5 := bx5.keep k_5
  have k0 := k0.trans k_5
  have kh := kh.trans k_5
  refine ⟨k_5.preLe (m_1.trans (m_2.trans (m_3.trans m_4))).le, ?_⟩
  refine stA bx4 (base_add _ _) rfl fun h_6 bx4 k_6 m_6 => ?_
  have bx3 := bx3.keepB d3q4 k_6
  have bx5 := bx5.keepB (Ne.symm d4q5) k_6
  have k0 := KeepB.keep k0 k_6 o4
  refine stA bx4 (base_add _ _) rfl fun h_7 bx4 k_7 m_7 => ?_
  have bx3 := bx3.keepB d3q4 k_7
  have bx5 := bx5.keepB (Ne.symm d4q5) k_7
  have k0 := KeepB.keep k0 k_7 o4
  refine stA bx5 (base_add _ _) rfl fun h_8 bx5 k_8 m_8 => ?_
  have bx3 := bx3.keepB d3q5 k_8
  have bx4 := bx4.keepB d4q5 k_8
  have k0 := KeepB.keep k0 k_8 o5
  refine stA bx5 (base_add _ _) rfl fun h_9 bx5 k_9 m_9 => ?_
  have bx3 := bx3.keepB d3q5 k_9
  have bx4 := bx4.keepB d4q5 k_9
  have k0 := KeepB.keep k0 k_9 o5
  refine ldA bx4 (base_add _ _) rfl ?_
  refine gBool_intro rfl ?_
  refine ldA bx4 (base_add _ _) rfl ?_
  refine gSlice_intro rfl ?_
  refine ldA bx5 (base_add _ _) rfl ?_
  refine gBool_intro rfl ?_
  refine ldA bx5 (base_add _ _) rfl ?_
  refine gSlice_intro rfl ?_
  exact g _ _ k0 ⟨_, _, rfl, ⟨_, _, rfl, (r_16.tame (m_4.trans (m_5.trans (m_6.trans (m_7.trans (m_8.trans m_9))))))⟩, ⟨_, _, rfl, (r_18.tame (m_6.trans (m_7.trans (m_8.trans m_9))))⟩⟩
def D1.v (b0_0 : Bool) (X0_1 : Nat) (b1_0 : Bool) (X1_1 : Nat) : ((Bool × Nat) × (Bool × Nat)) :=
  letV (gnomonref04_Sign.v b1_0 X1_1) fun p_5 =>
  bif (decide (p_5 ≤ (0 : Int))) then
    ((false, 0), (false, 0))
  else
    letV (dmS X0_1 X1_1) fun p_7 =>
    bif (!b0_0) then
      letV (dz (sg b0_0 p_7.1)) fun p_9 =>
      letV (dz (sg false p_7.2)) fun p_10 =>
      ((p_9.1, p_9.2), (p_10.1, p_10.2))
    else
      bif (((((D.digs p_7.2).length : Nat) : Int)) == (0 : Int)) then
        letV (dz (sg b0_0 p_7.1)) fun p_12 =>
        letV (dz (sg false p_7.2)) fun p_13 =>
        ((p_12.1, p_12.2), (p_13.1, p_13.2))
      else
        D2.v b1_0 X1_1 false 0 false 0 p_7.1 p_7.2
theorem D1.hv {R : Rt} {h0 h : Hp} (k0 : Keep h0 h) {b0_0 : Bool} {a0_1 : Option Addr} {c0_1 l0_1 : Nat} {X0_1 : Nat} (r0_1 : RdE eU32 h a0_1 c0_1 (D.digs X0_1)) (e0_1 : l0_1 = (D.digs X0_1).length) (w0_1 : (D.digs X0_1).length ≤ 1000000) {b1_0 : Bool} {a1_1 : Option Addr} {c1_1 l1_1 : Nat} {X1_1 : Nat} (r1_1 : RdE eU32 h a1_1 c1_1 (D.digs X1_1)) (e1_1 : l1_1 = (D.digs X1_1).length) (w1_1 : (D.digs X1_1).length ≤ 1000000) (g : Post (s2 sZD sZD) h0 R (D1.v b0_0 X0_1 b1_0 X1_1)) : D1.t R b0_0 a0_1 l0_1 c0_1 b1_0 a1_1 l1_1 c1_1 h := by
  subst e0_1 e1_1
  have kh := Keep.refl h
  have w_z : (D.digs 0).length = 0 := by simp [D.digs_zero]
  unfold D1.v at g
  unfold D1.t
  refine boxV fun h_1 bx_1 k_1 => ?_
  have o_1 : h0.size ≤ h.size := k0.le
  have oh_1 : h.size ≤ h.size := kh.le
  have lt_1 := bx_1.lt
  have m_1 := k_1.tame
  have k0 := k0.trans k_1
  have kh := kh.trans k_1
  refine boxV fun h_2 bx_2 k_2 => ?_
  have d_1q_2 : h.size ≠ h_1.size := Nat.ne_of_lt bx_1.lt
  have o_2 : h0.size ≤ h_1.size := k0.le
  have oh_2 : h.size ≤ h_1.size := kh.le
  have lt_2 := bx_2.lt
  have m_2 := k_2.tame
  have bx_1 := bx_1.keep k_2
  have k0 := k0.trans k_2
  have kh := kh.trans k_2
  refine boxV fun h_3 bx_3 k_3 => ?_
  have d_1q_3 : h.size ≠ h_2.size := Nat.ne_of_lt bx_1.lt
  have d_2q_3 : h_1.size ≠ h_2.size := Nat.ne_of_lt bx_2.lt
  have bx_3 : BlkV h_3 (h_2.size) [.bool false, .slice none (D.digs 0).length 0] := by rw [D.digs_zero]; exact bx_3
  have o_3 : h0.size ≤ h_2.size := k0.le
  have oh_3 : h.size ≤ h_2.size := kh.le
  have lt_3 := bx_3.lt
  have m_3 := k_3.tame
  have bx_1 := bx_1.keep k_3
  have bx_2 := bx_2.keep k_3
  have k0 := k0.trans k_3
  have kh := kh.trans k_3
  refine boxV fun h_4 bx_4 k_4 => ?_
  have d_1q_4 : h.size ≠ h_3.size := Nat.ne_of_lt bx_1.lt
  have d_2q_4 : h_1.size ≠ h_3.size := Nat.ne_of_lt bx_2.lt
  have d_3q_4 : h_2.size ≠ h_3.size := Nat.ne_of_lt bx_3.lt
  have bx_4 : BlkV h_4 (h_3.size) [.bool false, .slice none (D.digs 0).length 0] := by rw [D.digs_zero]; exact bx_4
  have o_4 : h0.size ≤ h_3.size := k0.le
  have oh_4 : h.size ≤ h_3.size := kh.le
  have lt_4 := bx_4.lt
  have m_4 := k_4.tame
  have bx_1 := bx_1.keep k_4
  have bx_2 := bx_2.keep k_4
  have bx_3 := bx_3.keep k_4
  have k0 := k0.trans k_4
  have kh := kh.trans k_4
  refine ldA bx_2 (base_add _ _) rfl ?_
  refine gBool_intro rfl ?_
  refine ldA bx_2 (base_add _ _) rfl ?_
  refine gSlice_intro rfl ?_
  refine hc_intro (gnomonref04_Sign.hv (r1_1.tame (m_1.trans (m_2.trans (m_3.trans m_4)))) rfl) fun v h_5 ⟨k_5, s⟩ => ?_
  obtain ⟨p_5, hp_5⟩ : ∃ p, p = gnomonref04_Sign.v b1_0 X1_1 := ⟨_, rfl⟩
  rw [← hp_5] at s
  replace g := lift_let2 hp_5 g
  obtain ⟨rfl, i_5⟩ := s
  refine gInt_intro rfl (?_)
  have m_5 := k_5.tame
  have bx_1 := bx_1.keep k_5
  have bx_2 := bx_2.keep k_5
  have bx_3 := bx_3.keep k_5
  have bx_4 := bx_4.keep k_5
  have k0 := k0.trans k_5
  have kh := kh.trans k_5
  refine lift_dec g (fun q_6 g => ?_) (fun q_6 g => ?_)
  · refine stA bx_3 (base_add _ _) rfl fun h_6 bx_3 k_6 m_6 => ?_
    have bx_1 := bx_1.keepB d_1q_3 k_6
    have bx_2 := bx_2.keepB d_2q_3 k_6
    have bx_4 := bx_4.keepB (Ne.symm d_3q_4) k_6
    have k0 := KeepB.keep k0 k_6 o_3
    have kh := KeepB.keep kh k_6 oh_3
    refine stA bx_3 (base_add _ _) rfl fun h_7 bx_3 k_7 m_7 => ?_
    have bx_3 := bx_3.nilD
    have bx_1 := bx_1.keepB d_1q_3 k_7
    have bx_2 := bx_2.keepB d_2q_3 k_7
    have bx_4 := bx_4.keepB (Ne.symm d_3q_4) k_7
    have k0 := KeepB.keep k0 k_7 o_3
    have kh := KeepB.keep kh k_7 oh_3
    refine stA bx_4 (base_add _ _) rfl fun h_8 bx_4 k_8 m_8 => ?_
    have bx_1 := bx_1.keepB d_1q_4 k_8
    have bx_2 := bx_2.keepB d_2q_4 k_8
    have bx_3 := bx_3.keepB d_3q_4 k_8
    have k0 := KeepB.keep k0 k_8 o_4
    have kh := KeepB.keep kh k_8 oh_4
    refine stA bx_4 (base_add _ _) rfl fun h_9 bx_4 k_9 m_9 => ?_
    have bx_4 := bx_4.nilD
    have bx_1 := bx_1.keepB d_1q_4 k_9
    have bx_2 := bx_2.keepB d_2q_4 k_9
    have bx_3 := bx_3.keepB d_3q_4 k_9
    have k0 := KeepB.keep k0 k_9 o_4
    have kh := KeepB.keep kh k_9 oh_4
    refine ldA bx_3 (base_add _ _) rfl ?_
    refine gBool_intro rfl ?_
    refine ldA bx_3 (base_add _ _) rfl ?_
    refine gSlice_intro rfl ?_
    refine ldA bx_4 (base_add _ _) rfl ?_
    refine gBool_intro rfl ?_
    refine ldA bx_4 (base_add _ _) rfl ?_
    refine gSlice_intro rfl ?_
    exact g _ _ k0 ⟨_, _, rfl, ⟨_, _, rfl, (gotD0 _ _)⟩, ⟨_, _, rfl, (gotD0 _ _)⟩⟩
  · refine ldA bx_1 (base_add _ _) rfl ?_
    refine gSlice_intro rfl ?_
    refine ldA bx_2 (base_add _ _) rfl ?_
    refine gSlice_intro rfl ?_
    refine hc_intro (gnomonref01_DivMod.hv (r0_1.tame (m_1.trans (m_2.trans (m_3.trans (m_4.trans m_5))))) rfl (r1_1.tame (m_1.trans (m_2.trans (m_3.trans (m_4.trans m_5))))) rfl (by first | assumption | decide | omega)) fun v h_6 ⟨k_6, s⟩ => ?_
    obtain ⟨p_7, hp_7⟩ : ∃ p, p = dmS X0_1 X1_1 := ⟨_, rfl⟩
    rw [← hp_7] at s
    replace g := lift_let2 hp_7 g
    have w_7 := bdDm1 X0_1 X1_1
    rw [← hp_7] at w_7
    have w_7_1 := bdDm2 X0_1 X1_1
    rw [← hp_7] at w_7_1
    obtain ⟨_, _, rfl, ⟨a_7_0, c_7_0, rfl, r_7_0⟩, ⟨a_7_1, c_7_1, rfl, r_7_1⟩⟩ := s
    refine gTup_intro rfl (uncons_intro (gSlice_intro rfl (uncons_intro (gSlice_intro rfl (unnil_intro (?_))))))
    have r_7_0 := r_7_0.from k0.le
    have r_7_1 := r_7_1.from k0.le
    have m_6 := k_6.tame
    have bx_1 := bx_1.keep k_6
    have bx_2 := bx_2.keep k_6
    have bx_3 := bx_3.keep k_6
    have bx_4 := bx_4.keep k_6
    have k0 := k0.trans k_6
    have kh := kh.trans k_6
    refine ldA bx_1 (base_add _ _) rfl ?_
    refine gBool_intro rfl ?_
    refine lift_not g (fun q_8 g => ?_) (fun q_8 g => ?_)
    · refine ldA bx_1 (base_add _ _) rfl ?_
      refine gBool_intro rfl ?_
      refine hc_intro (gnomonref04_Mk.hs r_7_0.rd rfl) fun v h_7 ⟨k_7, s⟩ => ?_
      obtain ⟨p_9, hp_9⟩ : ∃ p, p = dz (sg b0_0 p_7.1) := ⟨_, rfl⟩
      rw [← hp_9] at s
      replace g := lift_let2 hp_9 g
      have w_9 := bzMk b0_0 p_7.1
      rw [← hp_9] at w_9
      obtain ⟨a_9, c_9, rfl, r_9⟩ := s
      refine gAgg_intro rfl (uncons_intro (gBool_intro rfl (uncons_intro (gSlice_intro rfl (unnil_intro (?_))))))
      have r_9 := r_9.from k0.le
      have m_7 := k_7.tame
      have bx_1 := bx_1.keep k_7
      have bx_2 := bx_2.keep k_7
      have bx_3 := bx_3.keep k_7
      have bx_4 := bx_4.keep k_7
      have k0 := k0.trans k_7
      have kh := kh.trans k_7
      refine hc_intro (gnomonref04_Mk.hs (r_7_1.tame (m_7)).rd rfl) fun v h_8 ⟨k_8, s⟩ => ?_
      obtain ⟨p_10, hp_10⟩ : ∃ p, p = dz (sg false p_7.2) := ⟨_, rfl⟩
      rw [← hp_10] at s
      replace g := lift_let2 hp_10 g
      have w_10 := bzMk false p_7.2
      rw [← hp_10] at w_10
      obtain ⟨a_10, c_10, rfl, r_10⟩ := s
      refine gAgg_intro rfl (uncons_intro (gBool_intro rfl (uncons_intro (gSlice_intro rfl (unnil_intro (?_))))))
      have r_10 := r_10.from k0.le
      have m_8 := k_8.tame
      have bx_1 := bx_1.keep k_8
      have bx_2 := bx_2.keep k_8
      have bx_3 := bx_3.keep k_8
      have bx_4 := bx_4.keep k_8
      have k0 := k0.trans k_8
      have kh := kh.trans k_8
      refine stA bx_3 (base_add _ _) rfl fun h_9 bx_3 k_9 m_9 => ?_
      have bx_1 := bx_1.keepB d_1q_3 k_9
      have bx_2 := bx_2.keepB d_2q_3 k_9
      have bx_4 := bx_4.keepB (Ne.symm d_3q_4) k_9
      have k0 := KeepB.keep k0 k_9 o_3
      have kh := KeepB.keep kh k_9 oh_3
      refine stA bx_3 (base_add _ _) rfl fun h_10 bx_3 k_10 m_10 => ?_
      have bx_1 := bx_1.keepB d_1q_3 k_10
      have bx_2 := bx_2.keepB d_2q_3 k_10
      have bx_4 := bx_4.keepB (Ne.symm d_3q_4) k_10
      have k0 := KeepB.keep k0 k_10 o_3
      have kh := KeepB.keep kh k_10 oh_3
      refine stA bx_4 (base_add _ _) rfl fun h_11 bx_4 k_11 m_11 => ?_
      have bx_1 := bx_1.keepB d_1q_4 k_11
      have bx_2 := bx_2.keepB d_2q_4 k_11
      have bx_3 := bx_3.keepB d_3q_4 k_11
      have k0 := KeepB.keep k0 k_11 o_4
      have kh := KeepB.keep kh k_11 oh_4
      refine stA bx_4 (base_add _ _) rfl fun h_12 bx_4 k_12 m_12 => ?_
      have bx_1 := bx_1.keepB d_1q_4 k_12
      have bx_2 := bx_2.keepB d_2q_4 k_12
      have bx_3 := bx_3.keepB d_3q_4 k_12
      have k0 := KeepB.keep k0 k_12 o_4
      have kh := KeepB.keep kh k_12 oh_4
      refine ldA bx_3 (base_add _ _) rfl ?_
      refine gBool_intro rfl ?_
      refine ldA bx_3 (base_add _ _) rfl ?_
      refine gSlice_intro rfl ?_
      refine ldA bx_4 (base_add _ _) rfl ?_
      refine gBool_intro rfl ?_
      refine ldA bx_4 (base_add _ _) rfl ?_
      refine gSlice_intro rfl ?_
      exact g _ _ k0 ⟨_, _, rfl, ⟨_, _, rfl, (r_9.tame (m_8.trans (m_9.trans (m_10.trans (m_11.trans m_12)))))⟩, ⟨_, _, rfl, (r_10.tame (m_9.trans (m_10.trans (m_11.trans m_12))))⟩⟩
    · refine lift_eq g (fun q_11 g => ?_) (fun q_11 g => ?_)
      · refine ldA bx_1 (base_add _ _) rfl ?_
        refine gBool_intro rfl ?_
        refine hc_intro (gnomonref04_Mk.hs r_7_0.rd rfl) fun v h_7 ⟨k_7, s⟩ => ?_
        obtain ⟨p_12, hp_12⟩ : ∃ p, p = dz (sg b0_0 p_7.1) := ⟨_, rfl⟩
        rw [← hp_12] at s
        replace g := lift_let2 hp_12 g
        have w_12 := bzMk b0_0 p_7.1
        rw [← hp_12] at w_12
        obtain ⟨a_12, c_12, rfl, r_12⟩ := s
        refine gAgg_intro rfl (uncons_intro (gBool_intro rfl (uncons_intro (gSlice_intro rfl (unnil_intro (?_))))))
        have r_12 := r_12.from k0.le
        have m_7 := k_7.tame
        have bx_1 := bx_1.keep k_7
        have bx_2 := bx_2.keep k_7
        have bx_3 := bx_3.keep k_7
        have bx_4 := bx_4.keep k_7
        have k0 := k0.trans k_7
        have kh := kh.trans k_7
        refine hc_intro (gnomonref04_Mk.hs (r_7_1.tame (m_7)).rd rfl) fun v h_8 ⟨k_8, s⟩ => ?_
        obtain ⟨p_13, hp_13⟩ : ∃ p, p = dz (sg false p_7.2) := ⟨_, rfl⟩
        rw [← hp_13] at s
        replace g := lift_let2 hp_13 g
        have w_13 := bzMk false p_7.2
        rw [← hp_13] at w_13
        obtain ⟨a_13, c_13, rfl, r_13⟩ := s
        refine gAgg_intro rfl (uncons_intro (gBool_intro rfl (uncons_intro (gSlice_intro rfl (unnil_intro (?_))))))
        have r_13 := r_13.from k0.le
        have m_8 := k_8.tame
        have bx_1 := bx_1.keep k_8
        have bx_2 := bx_2.keep k_8
        have bx_3 := bx_3.keep k_8
        have bx_4 := bx_4.keep k_8
        have k0 := k0.trans k_8
        have kh := kh.trans k_8
        refine stA bx_3 (base_add _ _) rfl fun h_9 bx_3 k_9 m_9 => ?_
        have bx_1 := bx_1.keepB d_1q_3 k_9
        have bx_2 := bx_2.keepB d_2q_3 k_9
        have bx_4 := bx_4.keepB (Ne.symm d_3q_4) k_9
        have k0 := KeepB.keep k0 k_9 o_3
        have kh := KeepB.keep kh k_9 oh_3
        refine stA bx_3 (base_add _ _) rfl fun h_10 bx_3 k_10 m_10 => ?_
        have bx_1 := bx_1.keepB d_1q_3 k_10
        have bx_2 := bx_2.keepB d_2q_3 k_10
        have bx_4 := bx_4.keepB (Ne.symm d_3q_4) k_10
        have k0 := KeepB.keep k0 k_10 o_3
        have kh := KeepB.keep kh k_10 oh_3
        refine stA bx_4 (base_add _ _) rfl fun h_11 bx_4 k_11 m_11 => ?_
        have bx_1 := bx_1.keepB d_1q_4 k_11
        have bx_2 := bx_2.keepB d_2q_4 k_11
        have bx_3 := bx_3.keepB d_3q_4 k_11
        have k0 := KeepB.keep k0 k_11 o_4
        have kh := KeepB.keep kh k_11 oh_4
        refine stA bx_4 (base_add _ _) rfl fun h_12 bx_4 k_12 m_12 => ?_
        have bx_1 := bx_1.keepB d_1q_4 k_12
        have bx_2 := bx_2.keepB d_2q_4 k_12
        have bx_3 := bx_3.keepB d_3q_4 k_12
        have k0 := KeepB.keep k0 k_12 o_4
        have kh := KeepB.keep kh k_12 oh_4
        refine ldA bx_3 (base_add _ _) rfl ?_
        refine gBool_intro rfl ?_
        refine ldA bx_3 (base_add _ _) rfl ?_
        refine gSlice_intro rfl ?_
        refine ldA bx_4 (base_add _ _) rfl ?_
        refine gBool_intro rfl ?_
        refine ldA bx_4 (base_add _ _) rfl ?_
        refine gSlice_intro rfl ?_
        exact g _ _ k0 ⟨_, _, rfl, ⟨_, _, rfl, (r_12.tame (m_8.trans (m_9.trans (m_10.trans (m_11.trans m_12)))))⟩, ⟨_, _, rfl, (r_13.tame (m_9.trans (m_10.trans (m_11.trans m_12))))⟩⟩
      · exact D2.hv k0 (r1_1.tame (m_1.trans (m_2.trans (m_3.trans (m_4.trans (m_5.trans m_6)))))) (by first | assumption | decide | omega) bx_2 o_2 (gotD0 _ _) (by first | assumption | decide | omega) bx_3 o_3 (gotD0 _ _) (by first | assumption | decide | omega) bx_4 o_4 r_7_0 rfl (by first | assumption | decide | omega) r_7_1 rfl (by first | assumption | decide | omega) d_2q_3 d_2q_4 d_3q_4 g
def v (b0_0 : Bool) (X0_1 : Nat) (b1_0 : Bool) (X1_1 : Nat) : ((Bool × Nat) × (Bool × Nat)) := D1.v b0_0 X0_1 b1_0 X1_1
theorem hv {h : Hp} {b0_0 : Bool} {a0_1 : Option Addr} {c0_1 l0_1 : Nat} {X0_1 : Nat} (r0_1 : RdE eU32 h a0_1 c0_1 (D.digs X0_1)) (e0_1 : l0_1 = (D.digs X0_1).length) (w0_1 : (D.digs X0_1).length ≤ 1000000) {b1_0 : Bool} {a1_1 : Option Addr} {c1_1 l1_1 : Nat} {X1_1 : Nat} (r1_1 : RdE eU32 h a1_1 c1_1 (D.digs X1_1)) (e1_1 : l1_1 = (D.digs X1_1).length) (w1_1 : (D.digs X1_1).length ≤ 1000000) : HC id #[.agg #[.bool b0_0, .slice a0_1 l0_1 c0_1], .agg #[.bool b1_0, .slice a1_1 l1_1 c1_1]] h fun v_ h_ => Keep h h_ ∧ (s2 sZD sZD) h h_ v_ (v b0_0 X0_1 b1_0 X1_1) :=
  ok (D1.hv (Keep.refl _) r0_1 e0_1 w0_1 r1_1 e1_1 w1_1 fun v h' k s => ⟨k, s⟩)
end gnomonref04_Floor

namespace gnomonref04_Even
def D1.v (b0_0 : Bool) (X0_1 : Nat) : Bool :=
  (((bitS X0_1 (0 : Int))) == (0 : Int))
theorem D1.hv {R : Rt} {h0 h : Hp} (k0 : Keep h0 h) {b0_0 : Bool} {a0_1 : Option Addr} {c0_1 l0_1 : Nat} {X0_1 : Nat} (r0_1 : RdE eU32 h a0_1 c0_1 (D.digs X0_1)) (e0_1 : l0_1 = (D.digs X0_1).length) (g : Post sBool h0 R (D1.v b0_0 X0_1)) : D1.t R b0_0 a0_1 l0_1 c0_1 h := by
  subst e0_1
  have kh := Keep.refl h
  unfold D1.v at g
  unfold D1.t
  refine boxV fun h_1 bx_1 k_1 => ?_
  have o_1 : h0.size ≤ h.size := k0.le
  have oh_1 : h.size ≤ h.size := kh.le
  have lt_1 := bx_1.lt
  have m_1 := k_1.tame
  have k0 := k0.trans k_1
  have kh := kh.trans k_1
  refine ldA bx_1 (base_add _ _) rfl ?_
  refine gSlice_intro rfl ?_
  refine hc_intro (gnomonref01_Bit.hv (r0_1.tame (m_1)) rfl (show In .i64 (0 : Int) by decide)) fun v h_2 ⟨k_2, s⟩ => ?_
  obtain ⟨rfl, i_2⟩ := s
  refine gInt_intro rfl (?_)
  have m_2 := k_2.tame
  have bx_1 := bx_1.keep k_2
  have k0 := k0.trans k_2
  have kh := kh.trans k_2
  exact g _ _ k0 rfl
def v (b0_0 : Bool) (X0_1 : Nat) : Bool := D1.v b0_0 X0_1
theorem hv {h : Hp} {b0_0 : Bool} {a0_1 : Option Addr} {c0_1 l0_1 : Nat} {X0_1 : Nat} (r0_1 : RdE eU32 h a0_1 c0_1 (D.digs X0_1)) (e0_1 : l0_1 = (D.digs X0_1).length) : HC id #[.agg #[.bool b0_0, .slice a0_1 l0_1 c0_1]] h fun v_ h_ => Keep h h_ ∧ sBool h h_ v_ (v b0_0 X0_1) :=
  ok (D1.hv (Keep.refl _) r0_1 e0_1 fun v h' k s => ⟨k, s⟩)
end gnomonref04_Even


namespace gnomonref04_DocForm
def D1.v (b0_0 : Bool) (xs0_1 : List Nat) : Bool :=
  bif (decide (Frm xs0_1)) then
    bif b0_0 then
      (!((((xs0_1.length : Nat) : Int)) == (0 : Int)))
    else
      (!false)
  else
    false
theorem D1.hv {R : Rt} {h0 h : Hp} (k0 : Keep h0 h) {b0_0 : Bool} {a0_1 : Option Addr} {c0_1 l0_1 : Nat} {xs0_1 : List Nat} (r0_1 : Rd h a0_1 c0_1 xs0_1) (e0_1 : l0_1 = xs0_1.length) (g : Post sBool h0 R (D1.v b0_0 xs0_1)) : D1.t R b0_0 a0_1 l0_1 c0_1 h := by
  subst e0_1
  have kh := Keep.refl h
  unfold D1.v at g
  unfold D1.t
  refine boxV fun h_1 bx_1 k_1 => ?_
  have o_1 : h0.size ≤ h.size := k0.le
  have oh_1 : h.size ≤ h.size := kh.le
  have lt_1 := bx_1.lt
  have m_1 := k_1.tame
  have k0 := k0.trans k_1
  have kh := kh.trans k_1
  refine ldA bx_1 (base_add _ _) rfl ?_
  refine gSlice_intro rfl ?_
  refine hc_intro (gnomonref01_DocForm.hv (r0_1.tame (m_1)) rfl) fun v h_2 ⟨k_2, s⟩ => ?_
  obtain rfl := s
  refine gBool_intro rfl (?_)
  have m_2 := k_2.tame
  have bx_1 := bx_1.keep k_2
  have k0 := k0.trans k_2
  have kh := kh.trans k_2
  refine lift_dec g (fun q_3 g => ?_) (fun q_3 g => ?_)
  · refine ldA bx_1 (base_add _ _) rfl ?_
    refine gBool_intro rfl ?_
    refine lift_bool g (fun q_4 g => ?_) (fun q_4 g => ?_)
    · refine ldA bx_1 (base_add _ _) rfl ?_
      refine gSlice_intro rfl ?_
      exact g _ _ k0 rfl
    · exact g _ _ k0 rfl
  · exact g _ _ k0 rfl
def v (b0_0 : Bool) (xs0_1 : List Nat) : Bool := D1.v b0_0 xs0_1
theorem hv {h : Hp} {b0_0 : Bool} {a0_1 : Option Addr} {c0_1 l0_1 : Nat} {xs0_1 : List Nat} (r0_1 : Rd h a0_1 c0_1 xs0_1) (e0_1 : l0_1 = xs0_1.length) : HC id #[.agg #[.bool b0_0, .slice a0_1 l0_1 c0_1]] h fun v_ h_ => Keep h h_ ∧ sBool h h_ v_ (v b0_0 xs0_1) :=
  ok (D1.hv (Keep.refl _) r0_1 e0_1 fun v h' k s => ⟨k, s⟩)
end gnomonref04_DocForm

namespace gnomonref04_Told
def D1.v (b0_0 : Bool) (X0_1 : Nat) : ((Bool × List Nat) × Int) :=
  bif (decide (((((D.digs X0_1).length : Nat) : Int)) > (16384 : Int))) then
    ((false, ([] : List Nat)), (5 : Int))
  else
    letV (zz (di (b0_0, X0_1))) fun p_4 =>
    ((p_4.1, p_4.2), (0 : Int))
theorem D1.hv {R : Rt} {h0 h : Hp} (k0 : Keep h0 h) {b0_0 : Bool} {a0_1 : Option Addr} {c0_1 l0_1 : Nat} {X0_1 : Nat} (r0_1 : RdE eU32 h a0_1 c0_1 (D.digs X0_1)) (e0_1 : l0_1 = (D.digs X0_1).length) (g : Post (s2 sZW (sI .i64)) h0 R (D1.v b0_0 X0_1)) : D1.t R b0_0 a0_1 l0_1 c0_1 h := by
  subst e0_1
  have kh := Keep.refl h
  unfold D1.v at g
  unfold D1.t
  refine boxV fun h_1 bx_1 k_1 => ?_
  have o_1 : h0.size ≤ h.size := k0.le
  have oh_1 : h.size ≤ h.size := kh.le
  have lt_1 := bx_1.lt
  have m_1 := k_1.tame
  have k0 := k0.trans k_1
  have kh := kh.trans k_1
  refine boxV fun h_2 bx_2 k_2 => ?_
  have d_1q_2 : h.size ≠ h_1.size := Nat.ne_of_lt bx_1.lt
  have o_2 : h0.size ≤ h_1.size := k0.le
  have oh_2 : h.size ≤ h_1.size := kh.le
  have lt_2 := bx_2.lt
  have m_2 := k_2.tame
  have bx_1 := bx_1.keep k_2
  have k0 := k0.trans k_2
  have kh := kh.trans k_2
  refine ldA bx_1 (base_add _ _) rfl ?_
  refine gSlice_intro rfl ?_
  refine lift_dec g (fun q_3 g => ?_) (fun q_3 g => ?_)
  · refine stA bx_2 (base_add _ _) rfl fun h_3 bx_2 k_3 m_3 => ?_
    have bx_1 := bx_1.keepB d_1q_2 k_3
    have k0 := KeepB.keep k0 k_3 o_2
    have kh := KeepB.keep kh k_3 oh_2
    refine stA bx_2 (base_add _ _) rfl fun h_4 bx_2 k_4 m_4 => ?_
    have bx_1 := bx_1.keepB d_1q_2 k_4
    have k0 := KeepB.keep k0 k_4 o_2
    have kh := KeepB.keep kh k_4 oh_2
    refine ldA bx_2 (base_add _ _) rfl ?_
    refine gBool_intro rfl ?_
    refine ldA bx_2 (base_add _ _) rfl ?_
    refine gSlice_intro rfl ?_
    exact g _ _ k0 ⟨_, _, rfl, ⟨_, _, rfl, (GotE.nil _ _)⟩, ⟨rfl, (show In .i64 (5 : Int) by decide)⟩⟩
  · refine ldA bx_1 (base_add _ _) rfl ?_
    refine gBool_intro rfl ?_
    refine ldA bx_1 (base_add _ _) rfl ?_
    refine gSlice_intro rfl ?_
    refine hc_intro (gnomonref04_To.hs (r0_1.tame (m_1.trans m_2)) rfl) fun v h_3 ⟨k_3, s⟩ => ?_
    obtain ⟨p_4, hp_4⟩ : ∃ p, p = zz (di (b0_0, X0_1)) := ⟨_, rfl⟩
    rw [← hp_4] at s
    replace g := lift_let2 hp_4 g
    obtain ⟨a_4, c_4, rfl, r_4⟩ := s
    refine gAgg_intro rfl (uncons_intro (gBool_intro rfl (uncons_intro (gSlice_intro rfl (unnil_intro (?_))))))
    have r_4 := r_4.from k0.le
    have m_3 := k_3.tame
    have bx_1 := bx_1.keep k_3
    have bx_2 := bx_2.keep k_3
    have k0 := k0.trans k_3
    have kh := kh.trans k_3
    refine stA bx_2 (base_add _ _) rfl fun h_4 bx_2 k_4 m_4 => ?_
    have bx_1 := bx_1.keepB d_1q_2 k_4
    have k0 := KeepB.keep k0 k_4 o_2
    have kh := KeepB.keep kh k_4 oh_2
    refine stA bx_2 (base_add _ _) rfl fun h_5 bx_2 k_5 m_5 => ?_
    have bx_1 := bx_1.keepB d_1q_2 k_5
    have k0 := KeepB.keep k0 k_5 o_2
    have kh := KeepB.keep kh k_5 oh_2
    refine ldA bx_2 (base_add _ _) rfl ?_
    refine gBool_intro rfl ?_
    refine ldA bx_2 (base_add _ _) rfl ?_
    refine gSlice_intro rfl ?_
    exact g _ _ k0 ⟨_, _, rfl, ⟨_, _, rfl, (r_4.tame (m_4.trans m_5))⟩, ⟨rfl, (show In .i64 (0 : Int) by decide)⟩⟩
def v (b0_0 : Bool) (X0_1 : Nat) : ((Bool × List Nat) × Int) := D1.v b0_0 X0_1
theorem hv {h : Hp} {b0_0 : Bool} {a0_1 : Option Addr} {c0_1 l0_1 : Nat} {X0_1 : Nat} (r0_1 : RdE eU32 h a0_1 c0_1 (D.digs X0_1)) (e0_1 : l0_1 = (D.digs X0_1).length) : HC id #[.agg #[.bool b0_0, .slice a0_1 l0_1 c0_1]] h fun v_ h_ => Keep h h_ ∧ (s2 sZW (sI .i64)) h h_ v_ (v b0_0 X0_1) :=
  ok (D1.hv (Keep.refl _) r0_1 e0_1 fun v h' k s => ⟨k, s⟩)
end gnomonref04_Told

end Go.Proofs.YtanlcacaihdceaaGreatDoor.G

/- The reference's whole numbers: what the first calls answer. -/
namespace Go.Proofs.YtanlcacaihdceaaGreatDoor.G
open Go.Gv
set_option linter.unusedVariables false
set_option maxRecDepth 100000
theorem di_sg (b : Bool) (X : Nat) : di (b, X) = sg b X := rfl
theorem rSign_v (b : Bool) (X : Nat) : gnomonref04_Sign.v b X = cmpZ (di (b, X)) 0 := by
  unfold gnomonref04_Sign.v gnomonref04_Sign.D1.v
  rw [di_sg]
  by_cases h : X = 0
  · have e : (((D.digs X).length : Int) == 0) = true := by have := (dlenZ X).mpr h; rw [this]; rfl
    rw [e, h, sg_zero]; rfl
  · have e : (((D.digs X).length : Int) == 0) = false := by
      have := mt (dlenZ X).mp h
      simp only [beq_eq_false_iff_ne, ne_eq]; omega
    rw [e]
    cases b
    · have : ¬ sg false X < 0 := by unfold sg; simp
      have h2 : sg false X ≠ 0 := fun e => h (sg_eq_zero.mp e)
      simp [cmpZ, this, h2]
    · have : sg true X < 0 := by unfold sg; simp; omega
      simp [cmpZ, this]
theorem rFlip_v (b : Bool) (X : Nat) : gnomonref04_Flip.v b X = dz (-di (b, X)) := by
  rw [di_sg, neg_sg]; rfl
theorem cmpI_ge {m n : Nat} : decide (cmpI m n ≥ 0) = decide (n ≤ m) := by
  unfold cmpI
  by_cases h : m < n
  · simp [h]
  · rw [if_neg h]; split <;> simp <;> omega
theorem rAdd_v (b c : Bool) (X Y : Nat) : gnomonref04_Add.v b X c Y = dz (di (b, X) + di (c, Y)) := by
  rw [di_sg, di_sg]
  unfold gnomonref04_Add.v gnomonref04_Add.D1.v
  by_cases h : b = c
  · subst h
    rw [add_sg_same]; simp only [beq_self_eq_true, cond_true]; rfl
  · have e : (b == c) = false := by simp [h]
    rw [e, cond_false, cmpI_ge]
    by_cases hl : Y ≤ X
    · rw [add_sg_diff h hl]; simp only [hl, decide_true, cond_true]; rfl
    · rw [Int.add_comm, add_sg_diff (fun e => h e.symm) (by omega)]; simp only [hl, decide_false, cond_false]; rfl
theorem rMul_v (b c : Bool) (X Y : Nat) : gnomonref04_Mul.v b X c Y = dz (di (b, X) * di (c, Y)) := by
  rw [di_sg, di_sg, mul_sg]
  have : xor b c = (!(b == c)) := by cases b <;> cases c <;> rfl
  rw [this]; rfl
theorem rShl_v (b : Bool) (X : Nat) (n : Int) : gnomonref04_Shl.v b X n = dz (di (b, X) * 2 ^ n.toNat) := by
  rw [di_sg, shl_sg]; rfl
theorem floZ_pos {a b : Int} (h : 0 < b) : floZ a b = (dz (flo a b), dz (mo a b)) := by
  unfold floZ mo
  rw [if_neg (by omega), flo_pos h, Int.emod_def]
theorem rFloor_v (b c : Bool) (X Y : Nat) : gnomonref04_Floor.v b X c Y = floZ (di (b, X)) (di (c, Y)) := by
  unfold gnomonref04_Floor.v gnomonref04_Floor.D1.v
  rw [rSign_v, di_sg, di_sg]
  simp only [letV]
  by_cases h : sg c Y ≤ 0
  · have : decide (cmpZ (sg c Y) 0 ≤ 0) = true := by
      apply decide_eq_true; unfold cmpZ; split
      · decide
      · rw [if_pos (by omega)]; decide
    rw [this, cond_true]
    unfold floZ; rw [if_pos h]
  · have : decide (cmpZ (sg c Y) 0 ≤ 0) = false := by
      apply decide_eq_false; unfold cmpZ; rw [if_neg (by omega), if_neg (by omega)]; decide
    rw [this, cond_false, floZ_pos (by omega)]
    have hc : c = false := by
      cases c
      · rfl
      · exfalso; apply h; unfold sg; simp
    subst hc
    have hY : Y ≠ 0 := fun e => h (by subst e; rw [sg_zero]; exact Int.le_refl _)
    have ed : dmS X Y = (X / Y, X % Y) := by unfold dmS; rw [if_neg hY]
    rw [ed]
    by_cases hX : X = 0
    · subst hX
      rw [sg_zero, flo_zero, mo_zero, Nat.zero_div, Nat.zero_mod]
      have e0 : (((D.digs 0).length : Int) == 0) = true := by rw [(dlenZ 0).mpr rfl]; rfl
      cases b
      · simp only [Bool.not_false, cond_true, sg_zero]
      · simp only [Bool.not_true, cond_false, e0, cond_true, sg_zero]
    · rw [flo_sg hY fun _ => hX, mo_sg hY fun _ => hX, Bool.xor_false]
      cases b
      · simp only [Bool.not_false, cond_true, Bool.false_eq_true, false_and, if_false]
      · simp only [Bool.not_true, cond_false, true_and]
        by_cases hr : X % Y = 0
        · have e0 : (((D.digs (X % Y)).length : Int) == 0) = true := by rw [(dlenZ _).mpr hr]; rfl
          rw [e0, cond_true, if_neg (by simp [hr]), if_neg (by simp [hr])]
        · have e0 : (((D.digs (X % Y)).length : Int) == 0) = false := by
            have := mt (dlenZ (X % Y)).mp hr
            simp only [beq_eq_false_iff_ne, ne_eq]; omega
          rw [e0, cond_false, if_pos hr, if_pos hr]
          rfl
theorem rEven_v (b : Bool) (X : Nat) : gnomonref04_Even.v b X = decide (X % 2 = 0) := by
  unfold gnomonref04_Even.v gnomonref04_Even.D1.v bitS
  rw [if_neg (by decide)]
  simp only [Int.toNat_zero, Nat.pow_zero, Nat.div_one]
  rcases Nat.mod_two_eq_zero_or_one X with h | h <;> rw [h] <;> rfl
theorem rDocForm_v (b : Bool) (xs : List Nat) : gnomonref04_DocForm.v b xs = decide (FrmZ (b, xs)) := Form_v b xs
theorem rTold_v (b : Bool) (X : Nat) : gnomonref04_Told.v b X = zlim (di (b, X)) := by
  unfold gnomonref04_Told.v gnomonref04_Told.D1.v
  rw [di_sg]
  have hd := dlen_lim X
  by_cases h : (digs X).length ≤ 8192
  · have : decide (((D.digs X).length : Int) > 16384) = false := decide_eq_false (by have := hd.mpr h; omega)
    rw [this, cond_false, zlim_ok (by unfold SmZ; rw [sg_abs]; exact h)]; rfl
  · have : decide (((D.digs X).length : Int) > 16384) = true := decide_eq_true (by have := mt hd.mp h; omega)
    rw [this, cond_true, zlim_no (by unfold SmZ; rw [sg_abs]; exact h)]; rfl
section
variable {a b : Option Addr} {c d l m X Y : Nat} {xs ys : List Nat} {h : Hp} {x y : Int} {p q : Bool}
theorem gnomonref04_Sign.hs (r : RdE eU32 h a c (D.digs X)) (e : l = (D.digs X).length) : HC gnomonref04_Sign.id #[.agg #[.bool p, .slice a l c]] h fun v h' => Keep h h' ∧ sI .i64 h h' v (cmpZ (di (p, X)) 0) := by rw [← rSign_v]; exact gnomonref04_Sign.hv r e
theorem gnomonref04_Flip.hs (r : RdE eU32 h a c (D.digs X)) (e : l = (D.digs X).length) : HC gnomonref04_Flip.id #[.agg #[.bool p, .slice a l c]] h fun v h' => Keep h h' ∧ sZD h h' v (dz (-di (p, X))) := by rw [← rFlip_v]; exact gnomonref04_Flip.hv r e
theorem gnomonref04_Add.hs (r : RdE eU32 h a c (D.digs X)) (e : l = (D.digs X).length) (s : RdE eU32 h b d (D.digs Y)) (f : m = (D.digs Y).length) (w1 : (D.digs X).length ≤ 1000000) (w2 : (D.digs Y).length ≤ 1000000) : HC gnomonref04_Add.id #[.agg #[.bool p, .slice a l c], .agg #[.bool q, .slice b m d]] h fun v h' => Keep h h' ∧ sZD h h' v (dz (di (p, X) + di (q, Y))) := by rw [← rAdd_v]; exact gnomonref04_Add.hv r e w1 s f w2
theorem gnomonref04_Mul.hs (r : RdE eU32 h a c (D.digs X)) (e : l = (D.digs X).length) (s : RdE eU32 h b d (D.digs Y)) (f : m = (D.digs Y).length) (w1 : (D.digs X).length ≤ 1000000) (w2 : (D.digs Y).length ≤ 1000000) : HC gnomonref04_Mul.id #[.agg #[.bool p, .slice a l c], .agg #[.bool q, .slice b m d]] h fun v h' => Keep h h' ∧ sZD h h' v (dz (di (p, X) * di (q, Y))) := by rw [← rMul_v]; exact gnomonref04_Mul.hv r e w1 s f w2
theorem gnomonref04_Shl.hs (r : RdE eU32 h a c (D.digs X)) (e : l = (D.digs X).length) (i : In .i64 x) (w1 : (D.digs X).length ≤ 1000000) (v1 : 0 ≤ x) (v2 : x ≤ 35184372088832 ∨ cmpZ (di (p, X)) 0 = 0) : HC gnomonref04_Shl.id #[.agg #[.bool p, .slice a l c], .int .i64 x] h fun v h' => Keep h h' ∧ sZD h h' v (dz (di (p, X) * 2 ^ x.toNat)) := by rw [← rShl_v]; exact gnomonref04_Shl.hv r e w1 i v1 (v2.imp (fun z => z) fun z => by
    have : (cmpZ (di (p, X)) 0 == 0) = true := by rw [z]; rfl
    rw [cmp_eq_iff] at this
    exact sg_eq_zero.mp (of_decide_eq_true this))
theorem gnomonref04_Floor.hs (r : RdE eU32 h a c (D.digs X)) (e : l = (D.digs X).length) (s : RdE eU32 h b d (D.digs Y)) (f : m = (D.digs Y).length) (w1 : (D.digs X).length ≤ 1000000) (w2 : (D.digs Y).length ≤ 1000000) : HC gnomonref04_Floor.id #[.agg #[.bool p, .slice a l c], .agg #[.bool q, .slice b m d]] h fun v h' => Keep h h' ∧ s2 sZD sZD h h' v (floZ (di (p, X)) (di (q, Y))) := by rw [← rFloor_v]; exact gnomonref04_Floor.hv r e w1 s f w2
theorem gnomonref04_Even.hs (r : RdE eU32 h a c (D.digs X)) (e : l = (D.digs X).length) : HC gnomonref04_Even.id #[.agg #[.bool p, .slice a l c]] h fun v h' => Keep h h' ∧ sBool h h' v (decide (X % 2 = 0)) := by rw [← rEven_v p]; exact gnomonref04_Even.hv r e
theorem gnomonref04_DocForm.hs (r : Rd h a c xs) (e : l = xs.length) : HC gnomonref04_DocForm.id #[.agg #[.bool p, .slice a l c]] h fun v h' => Keep h h' ∧ sBool h h' v (decide (FrmZ (p, xs))) := by rw [← rDocForm_v]; exact gnomonref04_DocForm.hv r e
theorem gnomonref04_Told.hs (r : RdE eU32 h a c (D.digs X)) (e : l = (D.digs X).length) : HC gnomonref04_Told.id #[.agg #[.bool p, .slice a l c]] h fun v h' => Keep h h' ∧ s2 sZW (sI .i64) h h' v (zlim (di (p, X))) := by rw [← rTold_v]; exact gnomonref04_Told.hv r e
end
end Go.Proofs.YtanlcacaihdceaaGreatDoor.G
