/- Texts of this work, joined: DivQ2, RootN, MulSpec, MulSpec2, MulSpec3, MulRing, MulPow, NatD, DivRoot, DivLaws, StrRead, StrBld, StrText, StrDig, StrPlays. -/
import Derived.Test.YtdpkfipkjdlmlaaKB
import Derived.Test.YtdpkfipkjdlmlaaKC0
/- What shifted and QuoRem answer. -/
namespace Go.Proofs.Ytdpkfipkjdlmlaa.G
open Go.Gv
set_option maxRecDepth 100000
set_option linter.unusedVariables false
theorem shr_as {s x : Nat} (hs : s ≤ 64) : x / 2 ^ (64 - s) = x * 2 ^ s / 18446744073709551616 := by
  have e : 18446744073709551616 = 2 ^ (64 - s) * 2 ^ s := by rw [← Nat.pow_add, show 64 - s + s = 64 by omega]
  rw [e, Nat.mul_div_mul_right _ _ (Nat.pow_pos (by decide))]
theorem shifted_walk {R : Rt} {n s V q : Nat} {us0 : List Nat} {h0 : Hp} (hq : h0.size ≤ q) (hs0 : 0 < s) (hs : s < 64) (hn : us0.length = n) (hnn : n < 35184372088820) (hw0 : Words us0) (hV : val us0 * 2 ^ s = V) (hVlt : V < 2 ^ (64 * n))
    (post : ∀ h us, us.length = n → Own h q us → Keep h0 h → val us = V → R (.slice (some ⟨q, 0, none⟩) n n) h) :
    ∀ (k i c : Nat) (us : List Nat) (h : Hp), i + k = n → us.length = n → Own h q us → Keep h0 h → us.drop i = us0.drop i → c < 2 ^ s → val (us.take i) + c * 2 ^ (64 * i) = val (us0.take i) * 2 ^ s →
      natdiv_shifted.L4.t R (k + 1) (s : Int) (some ⟨q, 0, none⟩) n n (c : Int) (n : Int) (i : Int) h := by
  intro k
  induction k with
  | zero =>
    intro i c us h hi hul o kp hd hc e
    unfold natdiv_shifted.L4.t natdiv_shifted.D5.t
    refine c_dec (fun hb => absurd hb (by omega)) fun _ => ?_
    unfold natdiv_shifted.D2.t
    have ei : i = n := by omega
    subst ei
    rw [List.take_of_length_le (by omega), List.take_of_length_le (by omega), hV] at e
    have hc0 : c = 0 := by
      rcases Nat.eq_zero_or_pos c with h0 | h0
      · exact h0
      · have : 1 * 2 ^ (64 * i) ≤ c * 2 ^ (64 * i) := Nat.mul_le_mul_right _ h0
        omega
    subst hc0
    exact post h us hul o kp (by omega)
  | succ k ih =>
    intro i c us h hi hul o kp hd hc e
    have hx : us.getD i 0 = us0.getD i 0 := by
      have := congrArg (fun l => l.headD 0) hd
      simpa [headD_drop] using this
    have hxl := getD_lt hw0 i
    unfold natdiv_shifted.L4.t natdiv_shifted.D5.t
    refine c_dec (fun _ => ?_) fun hb => absurd (by omega) hb
    have r : Rd h (some ⟨q, 0, none⟩) n us := o.rd (by omega)
    have hcl : c < 18446744073709551616 := Nat.lt_trans hc (pow_lt64 hs)
    refine at_intro r (j := i) rfl hul.symm (by omega) ?_
    rw [hx]
    refine shl_k rfl s (2 ^ s) (by omega) rfl rfl ?_
    refine or_k rfl rfl (Nat.mod_lt _ (by decide)) hcl ?_
    rw [Nat.or_comm, shl_or hs hc]
    refine at_intro r (j := i) rfl hul.symm (by omega) ?_
    rw [hx]
    refine k_i64 ((64 - s : Nat) : Int) (by omega) (by omega) (by omega) ?_
    refine shr_k' rfl (64 - s) (2 ^ (64 - s)) (by omega) rfl rfl ?_
    rw [shr_as (by omega)]
    have hlo := shl_lo_lt (x := us0.getD i 0) hs hc
    have hhi := shl_hi_lt (k := s) hxl
    refine put_intro o (j := i) rfl hul.symm (by omega) rfl hlo fun o2 => ?_
    refine k_i64 ((i + 1 : Nat) : Int) (by omega) (by omega) (by omega) ?_
    refine ih (i + 1) _ _ _ (by omega) (by simp [hul]) o2 (KeepB.keep kp (KeepB.set _ _ _ _) hq) ?_ hhi ?_
    · rw [List.drop_set_of_lt (by omega), ← List.drop_drop, ← List.drop_drop, hd]
    · have et : (us.set i (us0.getD i 0 * 2 ^ s % 18446744073709551616 + c)).take (i + 1) = us.take i ++ [us0.getD i 0 * 2 ^ s % 18446744073709551616 + c] := take_set_succ (by omega)
      rw [et, val_append, List.length_take, Nat.min_eq_left (by omega), take64, Nat.add_mul, ← e, pow_step]
      have e1 : 2 ^ (64 * i) * us0.getD i 0 * 2 ^ s = us0.getD i 0 * 2 ^ s * 2 ^ (64 * i) := by rw [Nat.mul_assoc, Nat.mul_comm]
      rw [e1]
      generalize us0.getD i 0 * 2 ^ s = y
      generalize 2 ^ (64 * i) = P
      simp only [val, Nat.mul_zero, Nat.add_zero]
      have e2 : y * P = y % 18446744073709551616 * P + y / 18446744073709551616 * (18446744073709551616 * P) := by
        rw [← Nat.mul_assoc, ← Nat.add_mul]; congr 1; omega
      rw [Nat.mul_add, Nat.mul_comm P, Nat.mul_comm P]
      omega
theorem val_zeros (zs : List Nat) (m : Nat) : val (zs ++ List.replicate m 0) = val zs := by rw [val_append, val_replicate]; simp
theorem shifted_spec {a : Option Addr} {c l n s : Nat} {xs : List Nat} {h : Hp} (r : Rd h a c xs) (hl : l = xs.length) (hs : s < 64) (hxn : xs.length ≤ n) (hn : n < 35184372088820) (hlt : val xs * 2 ^ s < 2 ^ (64 * n)) :
    HC natdiv_shifted.id #[.slice a l c, .int .i64 (s : Int), .int .i64 (n : Int)] h fun v h' => Keep h h' ∧ ∃ q us, v = .slice (some ⟨q, 0, none⟩) n n ∧ h.size ≤ q ∧ Own h' q us ∧ us.length = n ∧ val us = val xs * 2 ^ s := by
  refine natdiv_shifted.ok ?_
  unfold natdiv_shifted.t natdiv_shifted.D1.t
  refine mk_intro n rfl rfl rfl rfl (by omega) fun h1 o1 k1 => ?_
  rw [Int.toNat_natCast]
  refine cp_intro o1 (r.keep k1) (by simp) hl (Nat.le_refl _) k1 fun h2 o2 k2 => ?_
  have e2 : List.take (List.replicate n 0).length xs ++ List.drop xs.length (List.replicate n 0) = xs ++ List.replicate (n - xs.length) 0 := by
    rw [List.length_replicate, List.take_of_length_le hxn, List.drop_replicate]
  rw [e2] at o2
  have hl2 : (xs ++ List.replicate (n - xs.length) 0).length = n := by simp; omega
  refine c_eq (fun hs0 => ?_) fun hs0 => ?_
  · have : s = 0 := by omega
    subst this
    exact ⟨k2, h.size, _, rfl, Nat.le_refl _, o2, hl2, by rw [val_zeros]; simp⟩
  · unfold natdiv_shifted.D3.t
    refine ⟨n + 1, shifted_walk (us0 := xs ++ List.replicate (n - xs.length) 0) (Nat.le_refl h.size) (by omega) hs hl2 hn o2.words (by rw [val_zeros]) hlt (fun h3 us hul o3 k3 ev => ⟨k3, h.size, us, rfl, Nat.le_refl _, o3, hul, ev⟩) n 0 0 _ h2 (by omega) hl2 o2 k2 rfl (Nat.pow_pos (by decide)) (by simp [val])⟩
theorem off_of_ne' {b q : Nat} (h : b ≠ q) : Off q (some ⟨b, 0, none⟩) := fun p e => by cases e; exact h
/-! ### QuoRem -/
def quoS (xs ys : List Nat) : List Nat × List Nat × Int := if Frm xs ∧ Frm ys then (if val ys = 0 then ([], [], 4) else (digs (val xs / val ys), digs (val xs % val ys), 0)) else ([], [], 2)
abbrev AnsQ : An (List Nat × List Nat × Int) := s3 sW sW (sI .i64)
theorem AnsQ.none {h0 h : Hp} {x : Int} (i : In .i64 x := by decide) : AnsQ h0 h (.tuple #[.slice Option.none 0 0, .slice Option.none 0 0, .int .i64 x]) ([], [], x) := ⟨_, _, _, rfl, ⟨_, _, rfl, GotE.nil _ _⟩, ⟨_, _, rfl, GotE.nil _ _⟩, rfl, i⟩
theorem AnsQ.mk {h0 h : Hp} {a b : Option Addr} {c d l m : Nat} {xs ys : List Nat} {x : Int} (r : GotE eU64 h0 h a c xs) (s : GotE eU64 h0 h b d ys) (hl : l = xs.length) (hm : m = ys.length) (i : In .i64 x) : AnsQ h0 h (.tuple #[.slice a l c, .slice b m d, .int .i64 x]) (xs, ys, x) := by
  subst hl; subst hm
  exact ⟨_, _, _, rfl, ⟨_, _, rfl, r⟩, ⟨_, _, rfl, s⟩, rfl, i⟩
theorem top_ne {ys : List Nat} (f : trimL ys = ys) (h : ys ≠ []) : ys.getD (ys.length - 1) 0 ≠ 0 := (trimL_iff.mp f).resolve_left h
theorem QuoRem_spec {a b : Option Addr} {c d l m : Nat} {xs ys : List Nat} {h : Hp} (r : Rd h a c xs) (s : Rd h b d ys) (hl : l = xs.length) (hm : m = ys.length) :
    HC natdiv_QuoRem.id #[.slice a l c, .slice b m d] h fun v h' => Keep h h' ∧ AnsQ h h' v (quoS xs ys) := by
  subst hl; subst hm
  refine natdiv_QuoRem.ok ?_
  unfold natdiv_QuoRem.t natdiv_QuoRem.D1.t
  refine hc_intro (Form_spec r rfl) fun v h1 ⟨e1, e2⟩ => ?_
  subst e1; subst e2
  refine gBool_intro rfl ?_
  refine c_not (fun hf => ⟨Keep.refl _, ?_⟩) fun hf => ?_
  · unfold quoS; rw [if_neg (fun hh => of_decide_eq_false hf hh.1)]; exact AnsQ.none
  refine hc_intro (Form_spec s rfl) fun v h2 ⟨e1, e2⟩ => ?_
  subst e1; subst e2
  refine gBool_intro rfl ?_
  refine c_not (fun hg => ⟨Keep.refl _, ?_⟩) fun hg => ?_
  · unfold quoS; rw [if_neg (fun hh => of_decide_eq_false hg hh.2)]; exact AnsQ.none
  have fx := of_decide_eq_true hf
  have fy := of_decide_eq_true hg
  have dx := fx.digs r.words
  have dy := fy.digs s.words
  have lx := fx.1; have ly := fy.1
  unfold natdiv_QuoRem.D2.t
  unfold quoS
  rw [if_pos ⟨fx, fy⟩]
  refine c_eq (fun h0 => ⟨Keep.refl _, ?_⟩) fun h0 => ?_
  · have : ys = [] := List.length_eq_zero_iff.mp (by omega)
    subst this
    rw [if_pos (show val [] = 0 from rfl)]; exact AnsQ.none
  have hy0 : ys ≠ [] := fun e => h0 (by subst e; rfl)
  have htop := top_ne fy.2 hy0
  have hlen0 : 0 < ys.length := List.length_pos_iff.mpr hy0
  have hyt := top64 s.words (m := ys.length - 1) (by omega)
  have hYge : 2 ^ (64 * (ys.length - 1)) ≤ val ys := by
    refine Nat.le_of_not_lt fun hh => ?_
    rw [Nat.div_eq_of_lt hh] at hyt
    exact htop hyt.symm
  have hY0 : val ys ≠ 0 := by
    have : 0 < 2 ^ (64 * (ys.length - 1)) := Nat.pow_pos (by decide)
    omega
  rw [if_neg hY0]
  refine hc_intro (Cmp_spec r s rfl rfl) fun v h3 ⟨e1, e2⟩ => ?_
  subst e1; subst e2
  refine gInt_intro rfl ?_
  refine c_dec (fun hb => ?_) fun hb => ?_
  · have hlt : val xs < val ys := by unfold cmpI at hb; split at hb <;> (try split at hb) <;> omega
    refine hc_intro (Norm_spec r rfl) fun v h4 ⟨k4, an⟩ => ?_
    rw [fx.lim r.words] at an
    refine an.elimG fun a4 c4 g4 _ => ⟨k4, ?_⟩
    rw [Nat.div_eq_of_lt hlt, Nat.mod_eq_of_lt hlt, digs_zero, dx]
    exact AnsQ.mk (GotE.nil _ _) g4 rfl rfl (by decide)
  have hge : val ys ≤ val xs := by unfold cmpI at hb; split at hb <;> (try split at hb) <;> omega
  refine c_eq (fun h1 => ?_) fun h1 => ?_
  · have hl1 : ys.length = 1 := by omega
    have ey : ys.getD 0 0 = val ys := by
      rw [hl1] at hyt
      simpa using hyt.symm
    have hw0 := s.word 0
    refine at_intro s (j := 0) rfl rfl (by omega) ?_
    rw [ey] at hw0 ⊢
    refine hc_intro (DivWord_spec r rfl hw0) fun v h4 ⟨k4, an⟩ => ?_
    have hmod := Nat.mod_lt (val xs) (show 0 < val ys by omega)
    have ed : divWS xs (val ys) = (digs (val xs / val ys), ((val xs % val ys : Nat) : Int), 0) := by unfold divWS; rw [if_pos fx, if_neg hY0]
    rw [ed] at an
    refine an.elim fun a4 c4 g4 => ?_
    refine hc_intro (Word_spec (w := val xs % val ys) (by omega) h4) fun v h5 ⟨k5, sw⟩ => ?_
    refine AnsS.elimG sw fun a5 c5 g5 => ?_
    exact ⟨k4.trans k5, AnsQ.mk (g4.keep k5) (g5.from k4.le) rfl rfl (by decide)⟩
  refine k_i64 ((ys.length - 1 : Nat) : Int) (by omega) (by omega) (by omega) ?_
  refine at_intro s (j := ys.length - 1) rfl rfl (by omega) ?_
  have htw := s.word (ys.length - 1)
  refine hc_intro (Lead_spec htw _) fun v h4 ⟨e1, e2⟩ => ?_
  subst e1; subst e2
  refine gInt_intro rfl ?_
  have hbl := blen_pos htop
  have hbt := blen_trim s.words (n := ys.length - 1) (by omega) htop
  obtain ⟨sh, hsh⟩ : ∃ sh, sh = 64 - blen (ys.getD (ys.length - 1) 0) := ⟨_, rfl⟩
  rw [← hsh]
  have hs64 : sh < 64 := by omega
  have e64 : (2 : Nat) ^ 64 = 18446744073709551616 := by decide
  have hble : blen (ys.getD (ys.length - 1) 0) ≤ 64 := blen_le.mpr (by omega)
  refine k_i64 ((xs.length + 1 : Nat) : Int) (by omega) (by omega) (by omega) ?_
  have hP : 2 ^ sh ≤ 2 ^ 64 := Nat.pow_le_pow_right (by decide) (by omega)
  have hP0 : 0 < 2 ^ sh := Nat.pow_pos (by decide)
  have hX := val_lt r.words
  have hXs : val xs * 2 ^ sh < 2 ^ (64 * (xs.length + 1)) := by
    rw [Nat.mul_add, Nat.pow_add, Nat.mul_one]
    calc val xs * 2 ^ sh < 2 ^ (64 * xs.length) * 2 ^ sh := Nat.mul_lt_mul_of_pos_right hX hP0
      _ ≤ _ := Nat.mul_le_mul_left _ hP
  have hYs : val ys * 2 ^ sh < 2 ^ (64 * ys.length) := by
    have h1 : val ys < 2 ^ (64 * (ys.length - 1) + blen (ys.getD (ys.length - 1) 0)) := blen_le.mp (by omega)
    have e1 : 64 * ys.length = 64 * (ys.length - 1) + blen (ys.getD (ys.length - 1) 0) + sh := by omega
    rw [e1, Nat.pow_add]
    exact Nat.mul_lt_mul_of_pos_right h1 hP0
  refine hc_intro (shifted_spec (n := xs.length + 1) r rfl hs64 (by omega) (by omega) hXs) fun v h5 ⟨k5, bu, us, ev, hbu, ou, hul, eu⟩ => ?_
  subst ev
  refine gSlice_intro rfl ?_
  refine hc_intro (shifted_spec (n := ys.length) (s.keep k5) rfl hs64 (Nat.le_refl _) (by omega) hYs) fun v h6 ⟨k6, bv, vs, ev, hbv, ov, hvl, ew⟩ => ?_
  subst ev
  refine gSlice_intro rfl ?_
  have hvtop : vs.getD (ys.length - 1) 0 ≠ 0 := by
    rw [← top64 ov.words (m := ys.length - 1) (by omega), ew]
    have h1 : 2 ^ (64 * (ys.length - 1)) ≤ val ys * 2 ^ sh := Nat.le_trans hYge (Nat.le_mul_of_pos_right _ hP0)
    have := Nat.div_pos h1 (Nat.pow_pos (by decide))
    omega
  have hlens : ys.length ≤ xs.length := by
    rw [← dx, ← dy]; exact digs_len_mono hge
  have hdrop : val (us.drop (xs.length + 1 - ys.length)) < val vs := by
    rw [val_drop ou.words, eu, ew, Nat.div_lt_iff_lt_mul (Nat.pow_pos (by decide))]
    calc val xs * 2 ^ sh < 2 ^ (64 * xs.length) * 2 ^ sh := Nat.mul_lt_mul_of_pos_right hX hP0
      _ = 2 ^ (64 * (ys.length - 1)) * 2 ^ sh * 2 ^ (64 * (xs.length + 1 - ys.length)) := by
        rw [← Nat.pow_add, ← Nat.pow_add, ← Nat.pow_add]; congr 1; omega
      _ ≤ _ := Nat.mul_le_mul_right _ (Nat.mul_le_mul_right _ hYge)
  have hbul := ou.lt
  have rv : Rd h6 (some ⟨bv, 0, none⟩) ys.length vs := ov.rd (by omega)
  have hbvu : bv ≠ bu := by omega
  refine hc_intro (long_spec rv hvl rfl (off_of_ne' hbvu) hlen0 hvtop (by omega) (Nat.le_refl _) (by omega) hul (ou.keep k6).toE hdrop) fun v h7 ⟨bq, us', qs, ev, hul', hql, ou', oq', k7, hbq, er, eq⟩ => ?_
  subst ev
  refine gSlice_intro rfl ?_
  rw [eu, ew] at er eq
  rw [Nat.mul_mod_mul_right] at er
  rw [Nat.mul_div_mul_right _ _ hP0] at eq
  have hR : val us' < 2 ^ (64 * ys.length) := by
    rw [er]
    exact Nat.lt_trans (Nat.mul_lt_mul_of_pos_right (Nat.mod_lt _ (by omega)) hP0) hYs
  have hlow := low64 (Nat.le_refl _) hR ou'.ok
  refine sl_to rfl (by omega) ?_
  have ru : Rd h7 (some ⟨bu, 0, none⟩) (xs.length + 1) (us'.take ys.length) := ((ou'.rd' (c := xs.length + 1) (by show _ ≤ 35184372088828; omega) (by omega)).to64).take _
  refine hc_intro (Norm_spec ru (by rw [List.length_take]; omega)) fun v h8 ⟨k8, an⟩ => ?_
  rw [hlow.2, er] at an
  have hmY : val xs % val ys < val ys := Nat.mod_lt _ (by omega)
  have lR : (digs (val xs % val ys * 2 ^ sh)).length ≤ 8192 := Nat.le_trans (digs_len.mpr (by rw [er] at hR; exact hR)) ly
  have eR : lim (val xs % val ys * 2 ^ sh) = (digs (val xs % val ys * 2 ^ sh), 0) := by unfold lim; rw [if_pos lR]
  rw [eR] at an
  refine an.elim fun a8 c8 r8 => ?_
  refine hc_intro (Shr_spec r8 rfl (by omega)) fun v h9 ⟨k9, an⟩ => ?_
  have lM : (digs (val xs % val ys)).length ≤ 8192 := Nat.le_trans (digs_len_mono (Nat.mod_le _ _)) (by rw [dx]; exact lx)
  have eS : shrS (digs (val xs % val ys * 2 ^ sh)) (sh : Int) = (digs (val xs % val ys), 0) := by
    unfold shrS
    rw [if_neg (by omega), if_pos ⟨lR, trimL_digs _⟩, val_digs, Int.toNat_natCast, Nat.mul_div_cancel _ hP0]
    unfold lim; rw [if_pos lM]
  rw [eS] at an
  refine an.elimG fun a9 c9 g9 _ => ?_
  have rq : Rd h9 (some ⟨bq, 0, none⟩) (xs.length + 1 - ys.length) qs := ((oq'.rd' (c := xs.length + 1 - ys.length) (by show _ ≤ 35184372088828; omega) (by omega)).to64).keep (k8.trans k9)
  refine hc_intro (Norm_spec rq hql.symm) fun v h10 ⟨k10, an⟩ => ?_
  have lQ : (digs (val xs / val ys)).length ≤ 8192 := Nat.le_trans (digs_len_mono (Nat.div_le_self _ _)) (by rw [dx]; exact lx)
  have eQ : lim (val qs) = (digs (val xs / val ys), 0) := by rw [eq]; unfold lim; rw [if_pos lQ]
  rw [eQ] at an
  refine an.elimG fun a10 c10 g10 _ => ?_
  have k0h7 : Keep _ h7 := k7.keep (k5.trans k6) hbu
  exact ⟨k0h7.trans (k8.trans (k9.trans k10)), AnsQ.mk (g10.from (k0h7.trans (k8.trans k9)).le) ((g9.keep k10).from (k0h7.trans k8).le) rfl rfl (by decide)⟩
end Go.Proofs.Ytdpkfipkjdlmlaa.G

/- Square roots of naturals, and Newton's steps towards them: plain law. -/
namespace Go.Proofs.Ytdpkfipkjdlmlaa.G
open Go.Gv
def rootN : Nat → Nat
  | 0 => 0
  | n + 1 => if (rootN n + 1) * (rootN n + 1) ≤ n + 1 then rootN n + 1 else rootN n
theorem rootN_both : ∀ A, rootN A * rootN A ≤ A ∧ A < (rootN A + 1) * (rootN A + 1)
  | 0 => by simp [rootN]
  | n + 1 => by
    obtain ⟨h1, h2⟩ := rootN_both n
    unfold rootN
    split
    · rename_i h
      refine ⟨h, ?_⟩
      have : (rootN n + 1 + 1) * (rootN n + 1 + 1) = (rootN n + 1) * (rootN n + 1) + 2 * (rootN n + 1) + 1 := by
        rw [Nat.add_mul (rootN n + 1) 1, Nat.mul_add, Nat.mul_add, Nat.mul_one, Nat.one_mul]; omega
      omega
    · rename_i h
      exact ⟨by omega, by omega⟩
theorem rootN_le (A : Nat) : rootN A * rootN A ≤ A := (rootN_both A).1
theorem rootN_lt (A : Nat) : A < (rootN A + 1) * (rootN A + 1) := (rootN_both A).2
theorem sq_mono {a b : Nat} (h : a ≤ b) : a * a ≤ b * b := Nat.mul_le_mul h h
theorem le_rootN {S A : Nat} (h : S * S ≤ A) : S ≤ rootN A := by
  refine Nat.le_of_not_lt fun hh => ?_
  have := sq_mono (show rootN A + 1 ≤ S by omega)
  have := rootN_lt A
  omega
theorem rootN_lt_of {S A : Nat} (h : A < S * S) : rootN A < S := by
  refine Nat.lt_of_not_le fun hh => ?_
  have := sq_mono hh
  have := rootN_le A
  omega
theorem rootN_uniq {S A : Nat} (h1 : S * S ≤ A) (h2 : A < (S + 1) * (S + 1)) : rootN A = S := by
  have := le_rootN h1
  have := rootN_lt_of h2
  omega
theorem rootN_pos {A : Nat} (h : A ≠ 0) : 0 < rootN A := le_rootN (S := 1) (by omega)
theorem newton_up {x A : Nat} (hx0 : x ≠ 0) : rootN A ≤ (x + A / x) / 2 := by
  have h1 := rootN_le A
  generalize rootN A = s at *
  rw [Nat.le_div_iff_mul_le (by decide)]
  by_cases h : 2 * s ≤ x
  · have := Nat.zero_le (A / x); omega
  · obtain ⟨d, hd⟩ : ∃ d, 2 * s = x + d := ⟨2 * s - x, by omega⟩
    have h2 : d ≤ A / x := by
      rw [Nat.le_div_iff_mul_le (by omega)]
      -- d * x ≤ s * s, from (x - s)^2 ≥ 0
      have h3 : d * x ≤ s * s := by
        rcases Nat.le_total s x with hh | hh
        · obtain ⟨e, he⟩ : ∃ e, x = s + e := ⟨x - s, by omega⟩
          obtain ⟨f, hf⟩ : ∃ f, s = d + e ∧ f = d := ⟨d, by omega, rfl⟩
          subst he
          rw [hf.1]
          simp only [Nat.add_mul, Nat.mul_add]
          have := Nat.mul_comm d e
          have := Nat.zero_le (e * e)
          omega
        · obtain ⟨e, he⟩ : ∃ e, s = x + e := ⟨s - x, by omega⟩
          have hde : d = x + 2 * e := by omega
          subst he; subst hde
          simp only [Nat.add_mul, Nat.mul_add, Nat.mul_assoc]
          have := Nat.mul_comm x e
          have := Nat.zero_le (e * e)
          omega
      omega
    omega
theorem newton_stop {x A : Nat} (hx0 : x ≠ 0) (hx : rootN A ≤ x) (h : x ≤ (x + A / x) / 2) : rootN A = x := by
  rw [Nat.le_div_iff_mul_le (by decide)] at h
  have h1 : x ≤ A / x := by omega
  rw [Nat.le_div_iff_mul_le (by omega)] at h1
  exact Nat.le_antisymm hx (le_rootN h1)
theorem newton_q {x A : Nat} (hx0 : x ≠ 0) (hx : rootN A ≤ x) : A / x ≤ x + 2 := by
  have h1 := rootN_lt A
  have h2 := sq_mono (show rootN A + 1 ≤ x + 1 by omega)
  have h3 : A < (x + 3) * x := by
    have e1 : (x + 1) * (x + 1) = x * x + 2 * x + 1 := by rw [Nat.add_mul, Nat.mul_add, Nat.one_mul, Nat.mul_one]; omega
    have e2 : (x + 3) * x = x * x + 3 * x := Nat.add_mul _ _ _
    omega
  have := (Nat.div_lt_iff_lt_mul (show 0 < x by omega)).mpr h3
  omega
theorem root_start (A k : Nat) : rootN A ≤ (rootN (A / 2 ^ (2 * k)) + 1) * 2 ^ k := by
  refine Nat.le_of_lt (rootN_lt_of ?_)
  have h1 := rootN_lt (A / 2 ^ (2 * k))
  generalize rootN (A / 2 ^ (2 * k)) = s at *
  have e : 2 ^ (2 * k) = 2 ^ k * 2 ^ k := by rw [← Nat.pow_add]; congr 1; omega
  rw [Nat.div_lt_iff_lt_mul (Nat.pow_pos (by decide)), e] at h1
  have e2 : (s + 1) * 2 ^ k * ((s + 1) * 2 ^ k) = (s + 1) * (s + 1) * (2 ^ k * 2 ^ k) := by
    rw [Nat.mul_assoc, Nat.mul_left_comm (2 ^ k), ← Nat.mul_assoc]
  rw [e2]; exact h1
theorem root_pow {A m : Nat} (h : A < 2 ^ (2 * m)) : rootN A < 2 ^ m := by
  refine rootN_lt_of ?_
  rw [← Nat.pow_add, show m + m = 2 * m by omega]; exact h
theorem root_first {A n : Nat} (h : A < 2 ^ n) : rootN A < 2 ^ ((n + 1) / 2) :=
  root_pow (Nat.lt_of_lt_of_le h (Nat.pow_le_pow_right (by decide) (by omega)))
/-- The start of the greater numbers is no longer than half of them. -/
theorem root_size {A n k : Nat} (h : A < 2 ^ n) (hk : 2 * k ≤ n) : (rootN (A / 2 ^ (2 * k)) + 1) * 2 ^ k ≤ 2 ^ ((n + 1) / 2) := by
  have h1 : A / 2 ^ (2 * k) < 2 ^ (n - 2 * k) := by
    rw [Nat.div_lt_iff_lt_mul (Nat.pow_pos (by decide)), ← Nat.pow_add, show n - 2 * k + 2 * k = n by omega]; exact h
  have h2 := root_first h1
  have h3 : (rootN (A / 2 ^ (2 * k)) + 1) * 2 ^ k ≤ 2 ^ ((n - 2 * k + 1) / 2) * 2 ^ k := Nat.mul_le_mul_right _ h2
  rw [← Nat.pow_add, show (n - 2 * k + 1) / 2 + k = (n + 1) / 2 by omega] at h3
  exact h3
end Go.Proofs.Ytdpkfipkjdlmlaa.G

/- What the parts of products answer: trim, cut, sum, addAt, takeAway, rows. -/
namespace Go.Proofs.Ytdpkfipkjdlmlaa.G
open Go.Gv
theorem trimL_take (xs : List Nat) : xs.take (trimL xs).length = trimL xs := by
  induction xs with
  | nil => rfl
  | cons x xs ih =>
    simp only [trimL]
    split
    · rfl
    · simp [ih]
theorem mtrim_loop {R : Rt} {a : Option Addr} {c l : Nat} {xs : List Nat} {h : Hp} (r : Rd h a c xs) (hl : l = xs.length) (g : R (.slice a (trimL xs).length (trimL xs).length) h) :
    ∀ n : Nat, n ≤ xs.length → trimL (xs.take n) = trimL xs → natmul_trim.L3.t R (n + 1) a l c (n : Int) h := by
  have h1 := r.len
  intro n
  have fin : ∀ n : Nat, n ≤ xs.length → trimL xs = xs.take n → natmul_trim.D2.t R a l c (n : Int) h := by
    intro n hn e
    refine sl_to3 rfl rfl (Nat.le_trans hn r.cap) ?_
    have e2 : (trimL xs).length = n := by rw [e, List.length_take]; omega
    rw [← e2]; exact g
  induction n with
  | zero =>
    intro hn hz
    unfold natmul_trim.L3.t natmul_trim.D4.t
    refine c_dec (fun h => absurd h (by omega)) fun _ => fin 0 hn ?_
    rw [← hz]; rfl
  | succ n ih =>
    intro hn hz
    refine c_dec (fun _ => ?_) fun h => absurd (by omega) h
    refine k_i64 (n : Int) (by omega) (by omega) (by omega) ?_
    refine at_intro r (j := n) rfl hl (by omega) ?_
    have es := take_snoc (xs := xs) (n := n) (by omega)
    refine c_eq (fun he => ?_) fun he => ?_
    · refine k_i64 (n : Int) (by omega) (by omega) (by omega) ?_
      refine ih (by omega) ?_
      rw [← hz, es, show xs.getD n 0 = 0 by omega, trimL_zero]
    · refine fin (n + 1) hn ?_
      rw [← hz, es, trimL_last _ (by omega)]
theorem rd_trim {h : Hp} {a : Option Addr} {c : Nat} {xs : List Nat} (r : Rd h a c xs) : Rd h a (trimL xs).length (trimL xs) := by
  have := r.take (trimL xs).length
  rw [trimL_take] at this; exact this.cap_le (Nat.le_refl _)
theorem mtrim_spec {a : Option Addr} {c l : Nat} {xs : List Nat} {h : Hp} (r : Rd h a c xs) (hl : l = xs.length) :
    HC natmul_trim.id #[.slice a l c] h fun v h' => h' = h ∧ v = .slice a (trimL xs).length (trimL xs).length := by
  refine natmul_trim.ok ?_
  refine ⟨xs.length + 1, ?_⟩
  subst hl
  exact mtrim_loop r rfl ⟨rfl, rfl⟩ xs.length (Nat.le_refl _) (by rw [List.take_length])
/-! ### adding in place -/
theorem addAt_tail {R : Rt} {c n T q : Nat} {h0 : Hp} (hT : T < 2 ^ (64 * n)) (g : ∀ h' zs, KeepB q h0 h' → Mine h' q zs → zs.length = n → val zs = T → R (.tuple #[]) h') (hn : n ≤ 35184372088828) :
    ∀ (k i ca : Nat) (zs : List Nat) (h : Hp), i + k = n → ca ≤ 1 → zs.length = n → Mine h q zs → KeepB q h0 h → val zs + ca * 2 ^ (64 * i) = T →
      natmul_addAt.L3.t R (k + 1) (some ⟨q, 0, none⟩) n c (ca : Int) (i : Int) h := by
  intro k
  induction k with
  | zero =>
    intro i ca zs h hi hc hz o kp e
    unfold natmul_addAt.L3.t natmul_addAt.D4.t
    refine c_dec (fun hb => ?_) fun hb => ?_
    · have : ca = 1 := by omega
      subst this
      have := lt_of_val (zs := zs) (T := T) (i := i) rfl (by omega) (by rw [hz]; exact hT)
      omega
    · have : ca = 0 := by omega
      subst this
      exact g _ _ kp o hz (by omega)
  | succ k ih =>
    intro i ca zs h hi hc hz o kp e
    unfold natmul_addAt.L3.t natmul_addAt.D4.t
    refine c_dec (fun hb => ?_) fun hb => ?_
    · have hw := o.word i
      refine at_intro (o.rd (c := n) (by omega)) (j := i) rfl (by omega) (by omega) ?_
      refine add_intro (b := 0) rfl rfl rfl hc ?_
      refine mine_put o (j := i) rfl hz.symm (by omega) rfl (by omega) fun o2 k2 => ?_
      refine k_i64 ((i + 1 : Nat) : Int) (by omega) (by omega) (by omega) ?_
      refine ih (i + 1) _ _ _ (by omega) (by omega) (by simp [hz]) o2 (kp.trans k2) ?_
      have hs := val_set (zs := zs) (j := i) (v := (zs.getD i 0 + 0 + ca) % 18446744073709551616) (by omega)
      have := step_up (B := 18446744073709551616) (p := 0) (c := ca) (r := 0) (z' := (zs.getD i 0 + 0 + ca) % 18446744073709551616) (c' := (zs.getD i 0 + 0 + ca) / 18446744073709551616) (by omega) hs
      rw [pow_step]
      simp only [Nat.zero_add, Nat.mul_zero] at this ⊢
      omega
    · have : ca = 0 := by omega
      subst this
      exact g _ _ kp o hz (by omega)
theorem addAt_walk {R : Rt} {a : Option Addr} {c c1 l n at_ T q : Nat} {bs : List Nat} {h0 : Hp} (r : Rd h0 a c1 bs) (hl : l = bs.length) (hoff : bs = [] ∨ Off q a) (hT : T < 2 ^ (64 * n)) (hfit : at_ + bs.length ≤ n) (hn : n ≤ 35184372088828)
    (g : ∀ h' zs, KeepB q h0 h' → Mine h' q zs → zs.length = n → val zs = T → R (.tuple #[]) h') :
    ∀ (k i ca : Nat) (zs : List Nat) (h : Hp), i + k = bs.length → ca ≤ 1 → zs.length = n → Mine h q zs → KeepB q h0 h → val zs + (val (bs.drop i) + ca) * 2 ^ (64 * (at_ + i)) = T →
      natmul_addAt.L7.t R (k + 1) (some ⟨q, 0, none⟩) n c a l c1 (at_ : Int) (ca : Int) (l : Int) (i : Int) h := by
  subst hl
  intro k
  induction k with
  | zero =>
    intro i ca zs h hi hc hz o kp e
    unfold natmul_addAt.L7.t natmul_addAt.D8.t
    refine c_dec (fun hb => absurd hb (by omega)) fun hb => ?_
    unfold natmul_addAt.D2.t
    have ei : i = bs.length := by omega
    subst ei
    refine k_i64 ((at_ + bs.length : Nat) : Int) (by omega) (by omega) (by omega) ?_
    refine ⟨n - (at_ + bs.length) + 1, ?_⟩
    refine addAt_tail hT g hn _ _ _ zs h (by omega) hc hz o kp ?_
    rw [List.drop_length] at e
    simpa [val] using e
  | succ k ih =>
    intro i ca zs h hi hc hz o kp e
    have hw := o.word (at_ + i)
    have hwb := r.word i
    have hoff' : Off q a := by
      rcases hoff with hh | hh
      · subst hh; simp at hi
      · exact hh
    unfold natmul_addAt.L7.t natmul_addAt.D8.t
    refine c_dec (fun hb => ?_) fun hb => absurd (by omega) hb
    refine k_i64 ((at_ + i : Nat) : Int) (by omega) (by omega) (by omega) ?_
    refine k_i64 ((at_ + i : Nat) : Int) (by omega) (by omega) (by omega) ?_
    refine at_intro (o.rd (c := n) (by omega)) (j := at_ + i) rfl (by omega) (by omega) ?_
    refine at_intro (r.keepB hoff' kp) (j := i) rfl rfl (by omega) ?_
    refine add_intro rfl rfl rfl hc ?_
    refine mine_put o (j := at_ + i) rfl hz.symm (by omega) rfl (by omega) fun o2 k2 => ?_
    refine k_i64 ((i + 1 : Nat) : Int) (by omega) (by omega) (by omega) ?_
    refine ih (i + 1) _ _ _ (by omega) (by omega) (by simp [hz]) o2 (kp.trans k2) ?_
    have hs := val_set (zs := zs) (j := at_ + i) (v := (zs.getD (at_ + i) 0 + bs.getD i 0 + ca) % 18446744073709551616) (by omega)
    have := step_up (B := 18446744073709551616) (p := bs.getD i 0) (c := ca) (r := val (bs.drop (i + 1))) (z' := (zs.getD (at_ + i) 0 + bs.getD i 0 + ca) % 18446744073709551616) (c' := (zs.getD (at_ + i) 0 + bs.getD i 0 + ca) / 18446744073709551616) (by omega) hs
    rw [← Nat.add_assoc, pow_step, this, ← val_getD_drop]; exact e
/-- Adding b to a block from a place on. -/
theorem addAt_spec {a : Option Addr} {c c1 l n m at_ q : Nat} {zs bs : List Nat} {h : Hp} (o : Mine h q zs) (r : Rd h a c1 bs) (hl : l = bs.length) (hz : n = zs.length) (hoff : bs = [] ∨ Off q a) (hT : val zs + val bs * 2 ^ (64 * at_) < 2 ^ (64 * zs.length)) (hfit : at_ + bs.length ≤ zs.length) {x : Int} (hx : x = (at_ : Int)) (hm : m = n) :
    HC natmul_addAt.id #[.slice (some ⟨q, 0, none⟩) m c, .slice a l c1, .int .i64 x] h fun v h' => v = .tuple #[] ∧ KeepB q h h' ∧ ∃ zs', Mine h' q zs' ∧ zs'.length = zs.length ∧ val zs' = val zs + val bs * 2 ^ (64 * at_) := by
  subst hx; subst hz; subst hm
  refine natmul_addAt.ok ?_
  unfold natmul_addAt.t natmul_addAt.D1.t natmul_addAt.D6.t
  have hlen := o.len
  refine ⟨bs.length + 1, ?_⟩
  refine addAt_walk r hl hoff hT hfit hlen (fun h' zs' k o' hz' e => ⟨rfl, k, zs', o', hz', e⟩) bs.length 0 0 zs h (by omega) (by omega) rfl o (KeepB.refl _ _) ?_
  simp
/-! ### taking away in place -/
theorem take_tail {R : Rt} {c n T q : Nat} {h0 : Hp} (g : ∀ h' zs, KeepB q h0 h' → Mine h' q zs → zs.length = n → val zs = T → R (.tuple #[]) h') (hn : n ≤ 35184372088828) :
    ∀ (k i ca : Nat) (zs : List Nat) (h : Hp), i + k = n → ca ≤ 1 → zs.length = n → Mine h q zs → KeepB q h0 h → val zs = T + ca * 2 ^ (64 * i) →
      natmul_takeAway.L3.t R (k + 1) (some ⟨q, 0, none⟩) n c (ca : Int) (i : Int) h := by
  intro k
  induction k with
  | zero =>
    intro i ca zs h hi hc hz o kp e
    unfold natmul_takeAway.L3.t natmul_takeAway.D4.t
    refine c_dec (fun hb => ?_) fun hb => ?_
    · have : ca = 1 := by omega
      subst this
      have := lt_of_val (zs := zs) (T := val zs) (i := i) rfl (by omega) (val_lt o.words)
      omega
    · have : ca = 0 := by omega
      subst this
      exact g _ _ kp o hz (by omega)
  | succ k ih =>
    intro i ca zs h hi hc hz o kp e
    unfold natmul_takeAway.L3.t natmul_takeAway.D4.t
    refine c_dec (fun hb => ?_) fun hb => ?_
    · have hw := o.word i
      refine at_intro (o.rd (c := n) (by omega)) (j := i) rfl (by omega) (by omega) ?_
      refine sub_intro (b := 0) rfl rfl rfl hc (by omega) ?_
      refine mine_put o (j := i) rfl hz.symm (by omega) rfl (by omega) fun o2 k2 => ?_
      refine k_i64 ((i + 1 : Nat) : Int) (by omega) (by omega) (by omega) ?_
      refine ih (i + 1) _ _ _ (by omega) (by split <;> omega) (by simp [hz]) o2 (kp.trans k2) ?_
      have hs := val_set (zs := zs) (j := i) (v := (zs.getD i 0 + 18446744073709551616 - 0 - ca) % 18446744073709551616) (by omega)
      have := step_down (B := 18446744073709551616) (u := 0) (o := ca) (r := 0) (T := T) (z' := (zs.getD i 0 + 18446744073709551616 - 0 - ca) % 18446744073709551616) (o' := if zs.getD i 0 < 0 + ca then 1 else 0) (by split <;> omega) hs (by simpa using e)
      rw [pow_step]
      simpa using this
    · have : ca = 0 := by omega
      subst this
      exact g _ _ kp o hz (by omega)
theorem take_walk {R : Rt} {a : Option Addr} {c c1 l n T q : Nat} {bs : List Nat} {h0 : Hp} (r : Rd h0 a c1 bs) (hl : l = bs.length) (hoff : bs = [] ∨ Off q a) (hfit : bs.length ≤ n) (hn : n ≤ 35184372088828)
    (g : ∀ h' zs, KeepB q h0 h' → Mine h' q zs → zs.length = n → val zs = T → R (.tuple #[]) h') :
    ∀ (k i ca : Nat) (zs : List Nat) (h : Hp), i + k = bs.length → ca ≤ 1 → zs.length = n → Mine h q zs → KeepB q h0 h → val zs = T + (val (bs.drop i) + ca) * 2 ^ (64 * i) →
      natmul_takeAway.L7.t R (k + 1) (some ⟨q, 0, none⟩) n c a l c1 (ca : Int) (l : Int) (i : Int) h := by
  subst hl
  intro k
  induction k with
  | zero =>
    intro i ca zs h hi hc hz o kp e
    unfold natmul_takeAway.L7.t natmul_takeAway.D8.t
    refine c_dec (fun hb => absurd hb (by omega)) fun hb => ?_
    unfold natmul_takeAway.D2.t
    have ei : i = bs.length := by omega
    subst ei
    refine ⟨n - bs.length + 1, ?_⟩
    refine take_tail g hn _ _ _ zs h (by omega) hc hz o kp ?_
    rw [List.drop_length] at e
    simpa [val] using e
  | succ k ih =>
    intro i ca zs h hi hc hz o kp e
    have hw := o.word i
    have hwb := r.word i
    have hoff' : Off q a := by
      rcases hoff with hh | hh
      · subst hh; simp at hi
      · exact hh
    unfold natmul_takeAway.L7.t natmul_takeAway.D8.t
    refine c_dec (fun hb => ?_) fun hb => absurd (by omega) hb
    refine at_intro (o.rd (c := n) (by omega)) (j := i) rfl (by omega) (by omega) ?_
    refine at_intro (r.keepB hoff' kp) (j := i) rfl rfl (by omega) ?_
    refine sub_intro rfl rfl rfl hc hwb ?_
    refine mine_put o (j := i) rfl hz.symm (by omega) rfl (by omega) fun o2 k2 => ?_
    refine k_i64 ((i + 1 : Nat) : Int) (by omega) (by omega) (by omega) ?_
    refine ih (i + 1) _ _ _ (by omega) (by split <;> omega) (by simp [hz]) o2 (kp.trans k2) ?_
    have hs := val_set (zs := zs) (j := i) (v := (zs.getD i 0 + 18446744073709551616 - bs.getD i 0 - ca) % 18446744073709551616) (by omega)
    rw [val_getD_drop] at e
    have := step_down (B := 18446744073709551616) (u := bs.getD i 0) (o := ca) (r := val (bs.drop (i + 1))) (T := T) (z' := (zs.getD i 0 + 18446744073709551616 - bs.getD i 0 - ca) % 18446744073709551616) (o' := if zs.getD i 0 < bs.getD i 0 + ca then 1 else 0) (by split <;> omega) hs e
    rw [pow_step]; exact this
theorem take_spec {a : Option Addr} {c c1 l n q : Nat} {zs bs : List Nat} {h : Hp} (o : Mine h q zs) (r : Rd h a c1 bs) (hl : l = bs.length) (hz : n = zs.length) (hoff : bs = [] ∨ Off q a) (hT : val bs ≤ val zs) (hfit : bs.length ≤ zs.length) :
    HC natmul_takeAway.id #[.slice (some ⟨q, 0, none⟩) n c, .slice a l c1] h fun v h' => v = .tuple #[] ∧ KeepB q h h' ∧ ∃ zs', Mine h' q zs' ∧ zs'.length = zs.length ∧ val zs' = val zs - val bs := by
  subst hz
  refine natmul_takeAway.ok ?_
  unfold natmul_takeAway.t natmul_takeAway.D1.t natmul_takeAway.D6.t
  have hlen := o.len
  refine ⟨bs.length + 1, ?_⟩
  refine take_walk (T := val zs - val bs) r hl hoff hfit hlen (fun h' zs' k o' hz' e => ⟨rfl, k, zs', o', hz', e⟩) bs.length 0 0 zs h (by omega) (by omega) rfl o (KeepB.refl _ _) ?_
  simp; omega
end Go.Proofs.Ytdpkfipkjdlmlaa.G

/- What rows, cut and sum answer. -/
namespace Go.Proofs.Ytdpkfipkjdlmlaa.G
open Go.Gv
set_option maxRecDepth 100000
theorem getD_set_ne {zs : List Nat} {i t v : Nat} (h : i ≠ t) : (zs.set i v).getD t 0 = zs.getD t 0 := by
  simp [List.getD, h]
theorem rows_inner {R : Rt} {N2 : Option Addr → Nat → Nat → Option Addr → Nat → Nat → Option Addr → Nat → Nat → Int → Int → Hp → Prop} {a b : Option Addr} {c c1 c2 la lb n j q T : Nat} {xs ys : List Nat} {h0 : Hp} {X : Int}
    (r : Rd h0 a c1 xs) (s : Rd h0 b c2 ys) (hla : la = xs.length) (hlb : lb = ys.length) (ox : xs = [] ∨ Off q a) (oy : Off q b) (hj : j < ys.length) (hn : n = xs.length + ys.length)
    (g : ∀ h' zs, KeepB q h0 h' → Mine h' q zs → zs.length = n → (∀ t, j + 1 + xs.length ≤ t → zs.getD t 0 = 0) → val zs + val (ys.drop (j + 1)) * val xs * 2 ^ (64 * (j + 1)) = T → N2 (some ⟨q, 0, none⟩) n c a la c1 b lb c2 X ((j + 1 : Nat) : Int) h') :
    ∀ (k i ca : Nat) (zs : List Nat) (h : Hp), i + k = xs.length → ca < 18446744073709551616 → zs.length = n → Mine h q zs → KeepB q h0 h → (∀ t, j + xs.length ≤ t → zs.getD t 0 = 0) →
      val zs + (val (xs.drop i) * ys.getD j 0 + ca) * 2 ^ (64 * (i + j)) + val (ys.drop (j + 1)) * val xs * 2 ^ (64 * (j + 1)) = T →
      natmul_rows.L8.t R N2 (k + 1) (some ⟨q, 0, none⟩) n c a la c1 b lb c2 (j : Int) (ca : Int) X (j : Int) (la : Int) (i : Int) h := by
  subst hla; subst hlb
  intro k
  induction k with
  | zero =>
    intro i ca zs h hi hc hz o kp z0 e
    have hlen := o.len
    unfold natmul_rows.L8.t natmul_rows.D9.t
    refine c_dec (fun hb => absurd hb (by omega)) fun hb => ?_
    have ei : i = xs.length := by omega
    subst ei
    unfold natmul_rows.D6.t
    refine k_i64 ((j + xs.length : Nat) : Int) (by omega) (by omega) (by omega) ?_
    refine mine_put o (j := j + xs.length) rfl hz.symm (by omega) rfl hc fun o2 k2 => ?_
    unfold natmul_rows.D4.t
    refine k_i64 ((j + 1 : Nat) : Int) (by omega) (by omega) (by omega) ?_
    refine g _ _ (kp.trans k2) o2 (by simp [hz]) (fun t ht => ?_) ?_
    · rw [getD_set_ne (by omega)]; exact z0 t (by omega)
    · have hs := val_set (zs := zs) (j := j + xs.length) (v := ca) (by omega)
      rw [z0 _ (Nat.le_refl _)] at hs
      rw [List.drop_length, Nat.add_comm xs.length j] at e
      simp only [val, Nat.zero_mul, Nat.zero_add, Nat.add_zero] at hs e
      omega
  | succ k ih =>
    intro i ca zs h hi hc hz o kp z0 e
    have hlen := o.len
    have hxn := r.word i
    have hyn := s.word j
    have hzn := o.word (i + j)
    have ox' : Off q a := by
      rcases ox with hh | hh
      · subst hh; simp at hi
      · exact hh
    have hp : xs.getD i 0 * ys.getD j 0 ≤ 340282366920938463426481119284349108225 := Nat.mul_le_mul (show xs.getD i 0 ≤ 18446744073709551615 by omega) (show ys.getD j 0 ≤ 18446744073709551615 by omega)
    unfold natmul_rows.L8.t natmul_rows.D9.t
    refine c_dec (fun hb => ?_) fun hb => absurd (by omega) hb
    refine at_intro (r.keepB ox' kp) (j := i) rfl rfl (by omega) ?_
    refine at_intro (s.keepB oy kp) (j := j) rfl rfl (by omega) ?_
    refine hc_intro (Mul64_spec hxn hyn _) fun v h' ⟨e1, an⟩ => ?_
    subst e1
    refine an.elim ?_
    have ev : val (xs.drop i) * ys.getD j 0 = xs.getD i 0 * ys.getD j 0 + 18446744073709551616 * (val (xs.drop (i + 1)) * ys.getD j 0) := by
      rw [val_getD_drop, Nat.add_mul, Nat.mul_assoc]
    rw [ev] at e
    generalize xs.getD i 0 * ys.getD j 0 = p at *
    refine add_intro (c := 0) rfl rfl rfl (by omega) ?_
    refine k_u64 ((p + ca) / 18446744073709551616) (by omega) (by omega) ?_
    refine k_i64 ((i + j : Nat) : Int) (by omega) (by omega) (by omega) ?_
    refine k_i64 ((i + j : Nat) : Int) (by omega) (by omega) (by omega) ?_
    refine at_intro (o.rd (c := n) (by omega)) (j := i + j) rfl (by omega) (by omega) ?_
    refine add_intro (c := 0) rfl rfl rfl (by omega) ?_
    have e5 : (zs.getD (i + j) 0 + (p % 18446744073709551616 + ca + 0) % 18446744073709551616 + 0) % 18446744073709551616 = (p + ca + zs.getD (i + j) 0) % 18446744073709551616 := by omega
    have e6 : (p + ca) / 18446744073709551616 + (zs.getD (i + j) 0 + (p % 18446744073709551616 + ca + 0) % 18446744073709551616 + 0) / 18446744073709551616 = (p + ca + zs.getD (i + j) 0) / 18446744073709551616 := by omega
    rw [e5]
    refine mine_put o (j := i + j) rfl hz.symm (by omega) rfl (by omega) fun o2 k2 => ?_
    refine k_u64 ((p + ca + zs.getD (i + j) 0) / 18446744073709551616) (by rw [← Int.natCast_add, e6]) (by omega) ?_
    refine k_i64 ((i + 1 : Nat) : Int) (by omega) (by omega) (by omega) ?_
    refine ih (i + 1) _ _ _ (by omega) (by omega) (by simp [hz]) o2 (kp.trans k2) (fun t ht => ?_) ?_
    · rw [getD_set_ne (by omega)]; exact z0 t ht
    · have hs := val_set (zs := zs) (j := i + j) (v := (p + ca + zs.getD (i + j) 0) % 18446744073709551616) (by omega)
      have := step_up (B := 18446744073709551616) (p := p) (c := ca) (r := val (xs.drop (i + 1)) * ys.getD j 0) (z' := (p + ca + zs.getD (i + j) 0) % 18446744073709551616) (c' := (p + ca + zs.getD (i + j) 0) / 18446744073709551616) (by omega) hs
      rw [show i + 1 + j = i + j + 1 by omega, pow_step (i + j), this]; exact e
theorem rows_outer {R : Rt} {a b : Option Addr} {c c1 c2 la lb n q T : Nat} {xs ys : List Nat} {h0 : Hp}
    (r : Rd h0 a c1 xs) (s : Rd h0 b c2 ys) (hla : la = xs.length) (hlb : lb = ys.length) (ox : xs = [] ∨ Off q a) (oy : ys = [] ∨ Off q b) (hn : n = xs.length + ys.length)
    (g : ∀ h' zs, KeepB q h0 h' → Mine h' q zs → zs.length = n → val zs = T → R (.tuple #[]) h') :
    ∀ (k j : Nat) (zs : List Nat) (h : Hp), j + k = ys.length → zs.length = n → Mine h q zs → KeepB q h0 h → (∀ t, j + xs.length ≤ t → zs.getD t 0 = 0) → val zs + val (ys.drop j) * val xs * 2 ^ (64 * j) = T →
      natmul_rows.L2.t R (k + 1) (some ⟨q, 0, none⟩) n c a la c1 b lb c2 (lb : Int) (j : Int) h := by
  subst hla; subst hlb
  intro k
  induction k with
  | zero =>
    intro j zs h hj hz o kp z0 e
    unfold natmul_rows.L2.t natmul_rows.D3.t
    refine c_dec (fun hb => absurd hb (by omega)) fun hb => ?_
    refine g _ _ kp o hz ?_
    rw [List.drop_of_length_le (by omega)] at e
    simpa [val] using e
  | succ k ih =>
    intro j zs h hj hz o kp z0 e
    have oy' : Off q b := by
      rcases oy with hh | hh
      · subst hh; simp at hj
      · exact hh
    unfold natmul_rows.L2.t natmul_rows.D3.t
    refine c_dec (fun hb => ?_) fun hb => absurd (by omega) hb
    unfold natmul_rows.D5.t natmul_rows.D7.t
    refine ⟨xs.length + 1, ?_⟩
    refine rows_inner (T := T) r s rfl rfl ox oy' (by omega) hn (fun h' zs' k' o' hz' z0' e' => ?_) xs.length 0 0 zs h (by omega) (by omega) hz o kp z0 ?_
    · exact ih (j + 1) zs' h' (by omega) hz' o' k' z0' e'
    · rw [val_getD_drop] at e
      rw [← e, pow_step, Nat.zero_add, List.drop_zero, Nat.add_zero, Nat.add_mul, Nat.add_mul, Nat.mul_comm (val xs)]
      have e2 : val (ys.drop (j + 1)) * val xs * (18446744073709551616 * 2 ^ (64 * j)) = 18446744073709551616 * val (ys.drop (j + 1)) * val xs * 2 ^ (64 * j) := by
        rw [Nat.mul_left_comm, Nat.mul_assoc 18446744073709551616, Nat.mul_assoc 18446744073709551616]
      rw [e2]; omega
theorem rows_spec {a b : Option Addr} {c c1 c2 la lb n q : Nat} {xs ys : List Nat} {h : Hp} (o : Mine h q (List.replicate n 0)) (r : Rd h a c1 xs) (s : Rd h b c2 ys) (hla : la = xs.length) (hlb : lb = ys.length) (ox : xs = [] ∨ Off q a) (oy : ys = [] ∨ Off q b) (hn : n = xs.length + ys.length) :
    HC natmul_rows.id #[.slice (some ⟨q, 0, none⟩) n c, .slice a la c1, .slice b lb c2] h fun v h' => v = .tuple #[] ∧ KeepB q h h' ∧ ∃ zs, Mine h' q zs ∧ zs.length = n ∧ val zs = val xs * val ys := by
  refine natmul_rows.ok ?_
  unfold natmul_rows.t natmul_rows.D1.t
  refine ⟨ys.length + 1, ?_⟩
  refine rows_outer r s hla hlb ox oy hn (fun h' zs' k o' hz' e => ⟨rfl, k, zs', o', hz', e⟩) ys.length 0 _ h (by omega) (by simp) o (KeepB.refl _ _) (fun t _ => ?_) ?_
  · simp only [List.getD, List.getElem?_replicate]; split <;> rfl
  · rw [val_replicate, List.drop_zero]; simp [Nat.mul_comm]
/-! ### parts and sums -/
/-- A list in new memory, whose block is the call's own. -/
def Fresh (h h' : Hp) (v : Value) (xs : List Nat) : Prop := ∃ q, h.size ≤ q ∧ v = .slice (some ⟨q, 0, none⟩) xs.length xs.length ∧ Mine h' q xs
theorem Fresh.elim {h h' : Hp} {v : Value} {xs : List Nat} {K : Option Addr → Nat → Nat → Prop} (f : Fresh h h' v xs) (g : ∀ q, h.size ≤ q → Mine h' q xs → K (some ⟨q, 0, none⟩) xs.length xs.length) : gSlice v K := by
  obtain ⟨q, hq, e, o⟩ := f
  subst e; exact g q hq o
theorem off_of_ne {b q : Nat} (h : b ≠ q) : Off q (some ⟨b, 0, none⟩) := fun p e => by cases e; exact h
/-- The trimmed upper part of a block is the call's answer. -/
theorem mtrim_fresh {h0 h : Hp} {q n c : Nat} {zs : List Nat} {K : Value → Hp → Prop} (hq : h0.size ≤ q) (o : Mine h q zs) (hn : n = zs.length) (hc : n ≤ c) (g : ∀ v, Fresh h0 h v (digs (val zs)) → K v h) :
    HC natmul_trim.id #[.slice (some ⟨q, 0, none⟩) n c] h K := by
  refine hc_intro (mtrim_spec (o.rd (c := c) (by omega)) hn) fun v h' ⟨e1, e2⟩ => ?_
  subst e1; subst e2
  refine g _ ?_
  rw [digs_val o.words]
  exact ⟨q, hq, rfl, by have := o.take (trimL zs).length; rw [trimL_take] at this; exact this⟩
theorem cut_spec {a : Option Addr} {c l k : Nat} {xs : List Nat} {h : Hp} {x : Int} (r : Rd h a c xs) (hl : l = xs.length) (hx : x = (k : Int)) :
    HC natmul_cut.id #[.slice a l c, .int .i64 x] h fun v h' => h' = h ∧ ∃ a2, v = .tuple #[.slice a (trimL (xs.take k)).length (trimL (xs.take k)).length, .slice a2 (xs.drop k).length (xs.drop k).length] ∧
      Rd h a (trimL (xs.take k)).length (trimL (xs.take k)) ∧ Rd h a2 (xs.drop k).length (xs.drop k) ∧ ∀ q, Off q a → Off q a2 := by
  subst hl; subst hx
  have hc := r.cap
  refine natmul_cut.ok ?_
  unfold natmul_cut.t natmul_cut.D1.t
  refine c_dec (fun hb => ?_) fun hb => ?_
  · refine sl_to3 rfl rfl hc ?_
    refine hc_intro (mtrim_spec (r.cap_le (Nat.le_refl _)) rfl) fun v h' ⟨e1, e2⟩ => ?_
    subst e1; subst e2
    refine gSlice_intro rfl ?_
    rw [List.take_of_length_le (by omega), List.drop_of_length_le (by omega)]
    exact ⟨rfl, none, rfl, rd_trim r, Rd.nil _ _ _, fun q _ => Off.none q⟩
  · refine sl_to3 rfl rfl (by omega) ?_
    have hk : (xs.take k).length = k := by rw [List.length_take]; omega
    have rt := (r.take k).cap_le (Nat.le_refl _)
    rw [hk] at rt
    refine hc_intro (mtrim_spec rt hk.symm) fun v h' ⟨e1, e2⟩ => ?_
    subst e1; subst e2
    refine gSlice_intro rfl ?_
    refine sl_mid3 rfl rfl rfl (by omega) hc ?_
    refine ⟨rfl, subA a xs.length k 1, ?_, rd_trim rt, ?_, fun q oq => oq.sub _ _ _⟩
    · rw [List.length_drop]
    · have rd := (r.cap_le (Nat.le_refl _)).drop k (by omega)
      exact rd.cap_le (Nat.le_refl _)
theorem val_cut (xs : List Nat) (k : Nat) : val xs = val (trimL (xs.take k)) + 2 ^ (64 * k) * val (xs.drop k) := by
  rw [val_trimL]
  by_cases h : k ≤ xs.length
  · conv => lhs; rw [← List.take_append_drop k xs]
    rw [val_append, List.length_take, Nat.min_eq_left h]
  · rw [List.take_of_length_le (by omega), List.drop_of_length_le (by omega)]; simp [val]
theorem fit_of {M n k : Nat} (hk : k ≤ n) (h : M * 2 ^ (64 * k) < 2 ^ (64 * n)) : k + (digs M).length ≤ n := by
  have : (digs M).length ≤ n - k := by
    rw [digs_len]
    have e : 2 ^ (64 * n) = 2 ^ (64 * (n - k)) * 2 ^ (64 * k) := by rw [← Nat.pow_add, show 64 * (n - k) + 64 * k = 64 * n by omega]
    rw [e] at h
    exact Nat.lt_of_mul_lt_mul_right h
  omega
theorem sum_made {R : Rt} {a b : Option Addr} {c d l m : Nat} {xs ys : List Nat} {h : Hp} (r : Rd h a c xs) (s : Rd h b d ys) (hl : l = xs.length) (hm : m = ys.length) (hxy : ys.length ≤ xs.length) (hx : xs.length < 35184372088828)
    (g : ∀ v h', Keep h h' → Fresh h h' v (digs (val xs + val ys)) → R v h') : natmul_sum.D2.t R a l c b m d h := by
  subst hl; subst hm
  unfold natmul_sum.D2.t
  refine k_i64 ((xs.length + 1 : Nat) : Int) (by omega) (by omega) (by omega) ?_
  refine mk_intro (xs.length + 1) rfl rfl rfl rfl (by omega) fun h1 o k => ?_
  refine cp_intro o (r.keep k) (by simp) rfl (Nat.le_refl _) k fun h2 o2 k2 => ?_
  have e : List.take (List.replicate (xs.length + 1) 0).length xs ++ List.drop xs.length (List.replicate (xs.length + 1) 0) = xs ++ [0] := by
    rw [List.take_of_length_le (by simp)]; simp
  rw [e] at o2
  have ev : val (xs ++ [0]) = val xs := by rw [← val_trimL, trimL_zero, val_trimL]
  have hx1 := val_lt r.words
  have hy1 := val_lt s.words
  have hp : 2 ^ (64 * ys.length) ≤ 2 ^ (64 * xs.length) := Nat.pow_le_pow_right (by decide) (by omega)
  refine hc_intro (addAt_spec (at_ := 0) o2.mine (s.keep k2) rfl (by simp) (s.off (Nat.le_refl _)) ?_ (by simp; omega) rfl rfl) fun v h3 ⟨e3, k3, zs, o3, hz3, ev3⟩ => ?_
  · rw [ev, List.length_append, List.length_singleton, pow_step, Nat.mul_zero, Nat.pow_zero, Nat.mul_one]
    generalize 2 ^ (64 * xs.length) = P at *; omega
  subst e3
  refine gTup_intro rfl (unnil_intro ?_)
  refine mtrim_fresh (Nat.le_refl h.size) o3 (by rw [hz3]; simp) (by omega) fun v f => ?_
  rw [ev3, ev, Nat.mul_zero, Nat.pow_zero, Nat.mul_one] at f
  obtain ⟨q, hq, e4, o4⟩ := f
  subst e4
  exact g _ _ (k3.keep k2 (Nat.le_refl _)) ⟨q, hq, rfl, o4⟩
theorem sum_spec {a b : Option Addr} {c d l m : Nat} {xs ys : List Nat} {h : Hp} (r : Rd h a c xs) (s : Rd h b d ys) (hl : l = xs.length) (hm : m = ys.length) (hx : xs.length < 35184372088828) (hy : ys.length < 35184372088828) :
    HC natmul_sum.id #[.slice a l c, .slice b m d] h fun v h' => Keep h h' ∧ Fresh h h' v (digs (val xs + val ys)) := by
  refine natmul_sum.ok ?_
  unfold natmul_sum.t natmul_sum.D1.t
  refine c_dec (fun hb => ?_) fun hb => ?_
  · refine sum_made s r hm hl (by omega) hy fun v h' k f => ⟨k, ?_⟩
    rw [Nat.add_comm]; exact f
  · exact sum_made r s hl hm (by omega) hx fun v h' k f => ⟨k, f⟩
end Go.Proofs.Ytdpkfipkjdlmlaa.G

/- What fill, slabs, thirds, product and Mul answer. -/
namespace Go.Proofs.Ytdpkfipkjdlmlaa.G
open Go.Gv
set_option maxRecDepth 100000
theorem stH_keepB {q : Nat} : ∀ {vs : List Value} {h : Hp} {i : Nat}, KeepB q h (stH h ⟨q, 0, none⟩ i vs)
  | [], h, _ => KeepB.refl _ _
  | v :: vs, h, i => by
    have e : stH h ⟨q, 0, none⟩ i (v :: vs) = stH (setH h ⟨q, i, none⟩ v) ⟨q, 0, none⟩ (i + 1) vs := by
      show stH (setH h ((⟨q, 0, none⟩ : Addr).add i) v) _ _ _ = _
      rw [base_add]
    rw [e]; exact (KeepB.set q h i v).trans stH_keepB
theorem mine_cp {h : Hp} {b l l2 c2 : Nat} {xs ys : List Nat} {a : Option Addr} (o : Mine h b xs) (r : Rd h a c2 ys) (hl : l = xs.length) (hl2 : l2 = ys.length) (hle : ys.length ≤ xs.length) {K : Int → Hp → Prop}
    (g : ∀ h', Mine h' b (ys ++ xs.drop ys.length) → KeepB b h h' → K (ys.length : Int) h') : cpK h 1 (some ⟨b, 0, none⟩) l (.slice a l2 c2) K := by
  subst hl; subst hl2
  obtain ⟨rest, o⟩ := o
  have hm : Nat.min ys.length xs.length = ys.length := Nat.min_eq_left hle
  refine ⟨ys.length, ys.map wv, rfl, ⟨by rw [List.length_map, hm]; omega, ?_, ?_⟩, ?_, ?_⟩
  · intro v hv
    obtain ⟨x, _, e⟩ := List.mem_map.mp hv
    subst e; rfl
  · cases a with
    | none =>
      show ys.map wv = []
      cases ys with
      | nil => simp
      | cons y ys => obtain ⟨p, e, _⟩ := r.at_ 0 (by simp); cases e
    | some p =>
      refine rdL_of fun j hj => ?_
      obtain ⟨p', e, g'⟩ := r.at_ j hj
      cases e
      rw [Nat.zero_add]; exact g'
  · refine stL_of fun j hj => ?_
    rw [Nat.zero_add, base_add]
    rw [List.length_map] at hj
    exact ⟨⟨_, o.cell (by rw [List.length_append]; omega)⟩, o.frozen j⟩
  · have := stH_own (h0 := #[]) (vs := ys) (i := 0) o r.words (by rw [List.length_append]; omega) (by simp) ⟨by simp, fun b hb => absurd hb (by simp)⟩
    rw [hm]
    refine g _ ⟨rest, ?_⟩ stH_keepB
    have e : List.take 0 (xs ++ rest) ++ (ys ++ List.drop (0 + ys.length) (xs ++ rest)) = ys ++ xs.drop ys.length ++ rest := by
      rw [List.take_zero, List.nil_append, Nat.zero_add, List.drop_append_of_le_length hle, List.append_assoc]
    rw [← e]; exact this.1
/-! ### the great recursion -/
def FillOK (N : Nat) : Prop := ∀ {a b : Option Addr} {c c1 c2 la lb n q : Nat} {xs ys : List Nat} {h : Hp}, xs.length + ys.length ≤ N → Mine h q (List.replicate n 0) → Rd h a c1 xs → Rd h b c2 ys → la = xs.length → lb = ys.length → (xs = [] ∨ Off q a) → (ys = [] ∨ Off q b) → n = xs.length + ys.length →
  HC natmul_fill.id #[.slice (some ⟨q, 0, none⟩) n c, .slice a la c1, .slice b lb c2] h fun v h' => v = .tuple #[] ∧ KeepB q h h' ∧ ∃ zs, Mine h' q zs ∧ zs.length = n ∧ val zs = val xs * val ys
theorem product_of {N : Nat} (ok : FillOK N) {a b : Option Addr} {c d l m : Nat} {xs ys : List Nat} {h : Hp} (hN : xs.length + ys.length ≤ N) (r : Rd h a c xs) (s : Rd h b d ys) (hl : l = xs.length) (hm : m = ys.length) (hb : xs.length + ys.length ≤ 35184372088828) :
    HC natmul_product.id #[.slice a l c, .slice b m d] h fun v h' => Keep h h' ∧ Fresh h h' v (digs (val xs * val ys)) := by
  subst hl; subst hm
  refine natmul_product.ok ?_
  unfold natmul_product.t natmul_product.D1.t
  refine k_i64 ((xs.length + ys.length : Nat) : Int) (by omega) (by omega) (by omega) ?_
  refine mk_intro (xs.length + ys.length) rfl rfl rfl rfl hb fun h1 o k => ?_
  refine hc_intro (ok hN o.mine (r.keep k) (s.keep k) rfl rfl (r.off (Nat.le_refl _)) (s.off (Nat.le_refl _)) rfl) fun v h2 ⟨e2, k2, zs, o2, hz, ev⟩ => ?_
  subst e2
  refine gTup_intro rfl (unnil_intro ?_)
  refine mtrim_fresh (Nat.le_refl h.size) o2 hz.symm (Nat.le_refl _) fun v f => ?_
  rw [ev] at f
  obtain ⟨q, hq, e4, o4⟩ := f
  subst e4
  exact ⟨k2.keep k (Nat.le_refl _), q, hq, rfl, o4⟩
theorem mul_fits {xs ys : List Nat} (hx : Words xs) (hy : Words ys) : val xs * val ys < 2 ^ (64 * (xs.length + ys.length)) := by
  rw [Nat.mul_add, Nat.pow_add]
  exact Nat.mul_lt_mul'' (val_lt hx) (val_lt hy)
theorem slabs_loop {N : Nat} (ok : ∀ M, M < N → FillOK M) {R : Rt} {a b : Option Addr} {c c1 c2 la lb n q : Nat} {xs ys : List Nat} {h0 : Hp} (hN : xs.length + ys.length ≤ N) (r : Rd h0 a c1 xs) (s : Rd h0 b c2 ys) (hla : la = xs.length) (hlb : lb = ys.length) (ox : Off q a) (oy : Off q b) (hn : n = xs.length + ys.length)
    (hl0 : 1 ≤ ys.length) (hl2 : 2 * ys.length ≤ xs.length) (hq : q < h0.size)
    (g : ∀ h' zs, KeepB q h0 h' → Mine h' q zs → zs.length = n → val zs = val xs * val ys → R (.tuple #[]) h') :
    ∀ (k i : Nat) (zs : List Nat) (h : Hp), xs.length ≤ i + k → i ≤ xs.length + ys.length → zs.length = n → Mine h q zs → KeepB q h0 h → val zs = val (xs.take i) * val ys →
      natmul_slabs.L2.t R (k + 1) (some ⟨q, 0, none⟩) n c a la c1 b lb c2 (i : Int) h := by
  subst hla; subst hlb
  intro k
  induction k with
  | zero =>
    intro i zs h hi hi2 hz o kp e
    unfold natmul_slabs.L2.t natmul_slabs.D3.t
    refine c_dec (fun hb => absurd hb (by omega)) fun hb => ?_
    rw [List.take_of_length_le (by omega)] at e
    exact g _ _ kp o hz e
  | succ k ih =>
    intro i zs h hi hi2 hz o kp e
    have hlen := o.len
    have hc1 := r.cap
    unfold natmul_slabs.L2.t natmul_slabs.D3.t
    refine c_dec (fun hb => ?_) fun hb => ?_
    · refine k_i64 ((i + ys.length : Nat) : Int) (by omega) (by omega) (by omega) ?_
      obtain ⟨m, hm⟩ : ∃ m, m = min (i + ys.length) xs.length := ⟨_, rfl⟩
      have em : (if (((xs.length : Nat) : Int)) < ((i + ys.length : Nat) : Int) then (((xs.length : Nat) : Int)) else ((i + ys.length : Nat) : Int)) = (m : Int) := by
        split <;> omega
      rw [em]
      refine sl_mid3 rfl rfl rfl (by omega) (by omega) ?_
      have hrt : (xs.take m).length = m := by rw [List.length_take]; omega
      have rt := ((r.keepB ox kp).take m).cap_le (c' := m) (by omega)
      have rd := rt.drop i (by omega)
      have hpl : ((xs.take m).drop i).length = m - i := by rw [List.length_drop, hrt]
      refine hc_intro (mtrim_spec (rd.cap_le (c' := m - i) (by omega)) hpl.symm) fun v h1 ⟨e1, e2⟩ => ?_
      subst e1; subst e2
      refine gSlice_intro rfl ?_
      have rp := rd_trim (rd.cap_le (c' := m - i) (by omega))
      have hpt := trimL_le ((xs.take m).drop i)
      refine hc_intro (product_of (ok (ys.length + ys.length) (by omega)) (by omega) rp (s.keepB oy kp) rfl rfl (by omega)) fun v h2 ⟨k2, f⟩ => ?_
      refine f.elim fun b2 hb2 o2 => ?_
      rw [val_trimL] at o2 ⊢
      have ep : val (xs.take m) = val (xs.take i) + 2 ^ (64 * i) * val ((xs.take m).drop i) := by
        conv => lhs; rw [← List.take_append_drop i (xs.take m)]
        rw [val_append, List.length_take, hrt, Nat.min_eq_left (by omega), List.take_take, Nat.min_eq_left (by omega)]
      have hle : val (xs.take m) ≤ val xs := by
        have : val xs = val (xs.take m) + 2 ^ (64 * m) * val (xs.drop m) := by
          conv => lhs; rw [← List.take_append_drop m xs]
          rw [val_append, hrt]
        omega
      have etot : val zs + val ((xs.take m).drop i) * val ys * 2 ^ (64 * i) = val (xs.take m) * val ys := by
        rw [e, ep, Nat.add_mul, Nat.mul_right_comm, Nat.mul_comm (2 ^ (64 * i))]
      have hlt : val (xs.take m) * val ys < 2 ^ (64 * zs.length) := by
        rw [hz, hn]
        exact Nat.lt_of_le_of_lt (Nat.mul_le_mul_right _ hle) (mul_fits r.words s.words)
      have o1 := o.keep k2
      have hqb : q ≠ b2 := by have := kp.le; omega
      refine hc_intro (addAt_spec (at_ := i) o1 (o2.rd (Nat.le_refl _)) rfl hz.symm (Or.inr (off_of_ne (Ne.symm hqb))) (by rw [val_digs, etot]; exact hlt) (fit_of (by omega) (by omega)) rfl rfl) fun v h3 ⟨e3, k3, zs3, o3, hz3, ev3⟩ => ?_
      subst e3
      refine gTup_intro rfl (unnil_intro ?_)
      refine k_i64 ((i + ys.length : Nat) : Int) (by omega) (by omega) (by omega) ?_
      rw [val_digs, etot] at ev3
      refine ih (i + ys.length) zs3 h3 (by omega) (by omega) (by omega) o3 ((kp.trans k2.toB).trans k3) ?_
      rw [ev3]
      congr 2
      by_cases hc : i + ys.length ≤ xs.length
      · rw [hm, Nat.min_eq_left hc]
      · rw [List.take_of_length_le (by omega), List.take_of_length_le (by omega)]
    · rw [List.take_of_length_le (by omega)] at e
      exact g _ _ kp o hz e
theorem kara {X Y x0 x1 y0 y1 W : Nat} (hx : X = x0 + W * x1) (hy : Y = y0 + W * y1) : (x0 + x1) * (y0 + y1) = x0 * y0 + (x0 * y1 + x1 * y0) + x1 * y1 ∧ X * Y = x0 * y0 + (x0 * y1 + x1 * y0) * W + x1 * y1 * (W * W) := by
  subst hx; subst hy
  constructor
  · rw [Nat.add_mul, Nat.mul_add, Nat.mul_add]; omega
  · have e1 : x0 * (W * y1) = x0 * y1 * W := by rw [Nat.mul_comm W, Nat.mul_assoc]
    have e2 : W * x1 * y0 = x1 * y0 * W := by rw [Nat.mul_assoc, Nat.mul_comm]
    have e3 : W * x1 * (W * y1) = x1 * y1 * (W * W) := by
      rw [Nat.mul_mul_mul_comm, Nat.mul_comm]
    rw [Nat.add_mul, Nat.mul_add, Nat.mul_add, e1, e2, e3, Nat.add_mul]; omega
theorem thirds_of {N : Nat} (ok : ∀ M, M < N → FillOK M) {a b : Option Addr} {c c1 c2 la lb n q : Nat} {xs ys : List Nat} {h : Hp} (hN : xs.length + ys.length ≤ N) (o : Mine h q (List.replicate n 0)) (r : Rd h a c1 xs) (s : Rd h b c2 ys) (hla : la = xs.length) (hlb : lb = ys.length) (ox : Off q a) (oy : Off q b) (hn : n = xs.length + ys.length)
    (h40 : 40 ≤ ys.length) (hxy : ys.length ≤ xs.length) (hl2 : xs.length < 2 * ys.length) :
    HC natmul_thirds.id #[.slice (some ⟨q, 0, none⟩) n c, .slice a la c1, .slice b lb c2] h fun v h' => v = .tuple #[] ∧ KeepB q h h' ∧ ∃ zs, Mine h' q zs ∧ zs.length = n ∧ val zs = val xs * val ys := by
  subst hla; subst hlb
  have hlen := o.len
  rw [List.length_replicate] at hlen
  have hqs := o.lt
  refine natmul_thirds.ok ?_
  unfold natmul_thirds.t natmul_thirds.D1.t
  refine k_i64 ((xs.length + 1 : Nat) : Int) (by omega) (by omega) (by omega) ?_
  obtain ⟨k, hk⟩ : ∃ k, k = (xs.length + 1) / 2 := ⟨_, rfl⟩
  refine ⟨by omega, k_i64 (k : Int) (by rw [hk]; exact tdiv_nat _ 2) (by omega) (by omega) ?_⟩
  refine hc_intro (cut_spec (k := k) r rfl rfl) fun v h1 ⟨e1, ax1, e2, rx0, rx1, ofx⟩ => ?_
  subst e1; subst e2
  refine gTup_intro rfl (uncons_intro (gSlice_intro rfl (uncons_intro (gSlice_intro rfl (unnil_intro ?_)))))
  refine hc_intro (cut_spec (k := k) s rfl rfl) fun v h1 ⟨e1, ay1, e2, ry0, ry1, ofy⟩ => ?_
  subst e1; subst e2
  refine gTup_intro rfl (uncons_intro (gSlice_intro rfl (uncons_intro (gSlice_intro rfl (unnil_intro ?_)))))
  have ex := val_cut xs k
  have ey := val_cut ys k
  have lx0 : (trimL (xs.take k)).length ≤ k := Nat.le_trans (trimL_le _) (by rw [List.length_take]; omega)
  have ly0 : (trimL (ys.take k)).length ≤ k := Nat.le_trans (trimL_le _) (by rw [List.length_take]; omega)
  have lx1 : (xs.drop k).length ≤ k := by rw [List.length_drop]; omega
  have ly1 : (ys.drop k).length ≤ k := by rw [List.length_drop]; omega
  have hXY := mul_fits r.words s.words
  rw [← hn] at hXY
  generalize trimL (xs.take k) = x0 at *
  generalize trimL (ys.take k) = y0 at *
  generalize xs.drop k = x1 at *
  generalize ys.drop k = y1 at *
  refine hc_intro (product_of (ok (k + k) (by omega)) (by omega) rx0 ry0 rfl rfl (by omega)) fun v h2 ⟨k2, f⟩ => ?_
  refine f.elim fun bl hbl ol => ?_
  refine hc_intro (product_of (ok (k + k) (by omega)) (by omega) (rx1.keep k2) (ry1.keep k2) rfl rfl (by omega)) fun v h3 ⟨k3, f⟩ => ?_
  refine f.elim fun bh hbh oh => ?_
  have k03 := k2.trans k3
  refine hc_intro (sum_spec (rx0.keep k03) (rx1.keep k03) rfl rfl (by omega) (by omega)) fun v h4 ⟨k4, f⟩ => ?_
  refine f.elim fun bs hbs os => ?_
  have k04 := k03.trans k4
  refine hc_intro (sum_spec (ry0.keep k04) (ry1.keep k04) rfl rfl (by omega) (by omega)) fun v h5 ⟨k5, f⟩ => ?_
  refine f.elim fun bt hbt ot => ?_
  have hsl : (digs (val x0 + val x1)).length ≤ k + 1 := digs_add_len (digs_len.mpr (Nat.lt_of_lt_of_le (val_lt rx0.words) (Nat.pow_le_pow_right (by decide) (by omega)))) (digs_len.mpr (Nat.lt_of_lt_of_le (val_lt rx1.words) (Nat.pow_le_pow_right (by decide) (by omega))))
  have htl : (digs (val y0 + val y1)).length ≤ k + 1 := digs_add_len (digs_len.mpr (Nat.lt_of_lt_of_le (val_lt ry0.words) (Nat.pow_le_pow_right (by decide) (by omega)))) (digs_len.mpr (Nat.lt_of_lt_of_le (val_lt ry1.words) (Nat.pow_le_pow_right (by decide) (by omega))))
  refine hc_intro (product_of (ok (k + 1 + (k + 1)) (by omega)) (by omega) ((os.rd (Nat.le_refl _)).keep k5) (ot.rd (Nat.le_refl _)) rfl rfl (by omega)) fun v h6 ⟨k6, f⟩ => ?_
  refine f.elim fun bm hbm om => ?_
  rw [val_digs, val_digs] at om ⊢
  have km := kara ex ey
  -- the numbers
  obtain ⟨L, hL⟩ : ∃ L, L = val x0 * val y0 := ⟨_, rfl⟩
  obtain ⟨H, hH⟩ : ∃ H, H = val x1 * val y1 := ⟨_, rfl⟩
  obtain ⟨M, hM⟩ : ∃ M, M = val x0 * val y1 + val x1 * val y0 := ⟨_, rfl⟩
  rw [← hL, ← hM, ← hH] at km
  rw [← hL] at ol ⊢
  rw [← hH] at oh ⊢
  rw [km.1] at om ⊢
  have k36 := k4.trans (k5.trans k6)
  have k26 := k3.trans k36
  have k06 := k2.trans k26
  have ol6 := ol.keep k26
  have oh6 := oh.keep k36
  have o6 := o.keep k06
  have hbl2 : bl < h2.size := ol.lt
  have hbh2 : bh < h3.size := oh.lt
  have hs23 := k3.le
  have hs26 := k36.le
  have hs6 : h3.size ≤ bm := by have := k4.le; have := k5.le; omega
  refine hc_intro (take_spec om (ol6.rd (Nat.le_refl _)) rfl rfl (Or.inr (off_of_ne (by omega))) (by rw [val_digs, val_digs]; omega) (digs_len_mono (by omega))) fun v h7 ⟨e7, k7, z7, o7, hz7, ev7⟩ => ?_
  subst e7
  refine gTup_intro rfl (unnil_intro ?_)
  rw [val_digs, val_digs] at ev7
  have oh7 := oh6.keepB (q := bm) (by omega) k7
  have ol7 := ol6.keepB (q := bm) (by omega) k7
  refine hc_intro (take_spec o7 (oh7.rd (Nat.le_refl _)) rfl hz7.symm (Or.inr (off_of_ne (by omega))) (by rw [val_digs]; omega) (by rw [hz7]; exact digs_len_mono (by omega))) fun v h8 ⟨e8, k8, z8, o8, hz8, ev8⟩ => ?_
  subst e8
  refine gTup_intro rfl (unnil_intro ?_)
  rw [val_digs] at ev8
  have evM : val z8 = M := by omega
  have hs12 := k2.le
  have k68 := k7.trans k8
  have k08 : Keep h1 h8 := k68.keep k06 (by omega)
  have o88 := (o6.keepB (q := bm) (by omega) k68)
  have ol8 := ol7.keepB (q := bm) (by omega) k8
  have oh8 := oh7.keepB (q := bm) (by omega) k8
  -- z
  have hWW : 2 ^ (64 * k) * 2 ^ (64 * k) = 2 ^ (64 * (2 * k)) := by rw [← Nat.pow_add, show 64 * k + 64 * k = 64 * (2 * k) by omega]
  have hT := km.2
  rw [hWW] at hT
  rw [hT] at hXY
  have hLn : (digs L).length ≤ n := digs_len.mpr (by omega)
  refine mine_cp o88 (ol8.rd (Nat.le_refl _)) (by simp) rfl (by simpa using hLn) fun h9 o9 k9 => ?_
  have ev9 : val (digs L ++ (List.replicate n 0).drop (digs L).length) = L := by
    rw [val_append, val_digs, List.drop_replicate, val_replicate]; simp
  have hz9 : (digs L ++ (List.replicate n 0).drop (digs L).length).length = n := by simp; omega
  have om9 := o8.keepB (q := q) (by omega) k9
  refine hc_intro (mtrim_spec (om9.rd (by omega)) (by omega)) fun v h10 ⟨e10, e11⟩ => ?_
  subst e10; subst e11
  refine gSlice_intro rfl ?_
  have rm := rd_trim (om9.rd (Nat.le_refl _))
  have hMt : trimL z8 = digs M := by rw [← evM, digs_val o8.words]
  rw [hMt] at rm ⊢
  refine hc_intro (addAt_spec (at_ := k) o9 rm rfl hz9.symm (Or.inr (off_of_ne (by omega))) (by rw [ev9, val_digs, hz9]; omega) (by rw [hz9]; exact fit_of (by omega) (by omega)) rfl rfl) fun v h11 ⟨e11, k11, z11, o11, hz11, ev11⟩ => ?_
  subst e11
  refine gTup_intro rfl (unnil_intro ?_)
  rw [ev9, val_digs] at ev11
  refine k_i64 ((2 * k : Nat) : Int) (by omega) (by omega) (by omega) ?_
  have oh11 := (oh8.keepB (q := q) (by omega) k9).keepB (q := q) (by omega) k11
  refine hc_intro (addAt_spec (at_ := 2 * k) o11 (oh11.rd (Nat.le_refl _)) rfl (by omega) (Or.inr (off_of_ne (by omega))) (by rw [ev11, val_digs, hz11, hz9]; omega) (by rw [hz11, hz9]; exact fit_of (by omega) (by omega)) rfl rfl) fun v h12 ⟨e12, k12, z12, o12, hz12, ev12⟩ => ?_
  subst e12
  refine gTup_intro rfl (unnil_intro ?_)
  refine ⟨rfl, k08.toB.trans (k9.trans (k11.trans k12)), z12, o12, by omega, ?_⟩
  rw [ev12, ev11, val_digs, hT]
theorem fill_ok (N : Nat) : FillOK N := by
  induction N using Nat.strongRecOn with
  | ind N ok =>
    have main : ∀ {a b : Option Addr} {c c1 c2 la lb n q : Nat} {xs ys : List Nat} {h : Hp}, xs.length + ys.length ≤ N → Mine h q (List.replicate n 0) → Rd h a c1 xs → Rd h b c2 ys → la = xs.length → lb = ys.length → (xs = [] ∨ Off q a) → (ys = [] ∨ Off q b) → n = xs.length + ys.length → ys.length ≤ xs.length →
        natmul_fill.D2.t (fun v h' => v = .tuple #[] ∧ KeepB q h h' ∧ ∃ zs, Mine h' q zs ∧ zs.length = n ∧ val zs = val xs * val ys) (some ⟨q, 0, none⟩) n c a la c1 b lb c2 h := by
      intro a b c c1 c2 la lb n q xs ys h hN o r s hla hlb ox oy hn hxy
      have hlen := o.len
      rw [List.length_replicate] at hlen
      unfold natmul_fill.D2.t
      refine c_dec (fun hs => ?_) fun hs => ?_
      · refine hc_intro (rows_spec o r s hla hlb ox oy hn) fun v h' ⟨e, k, hz⟩ => ?_
        subst e
        exact gTup_intro rfl (unnil_intro ⟨rfl, k, hz⟩)
      · have ox' : Off q a := by
          rcases ox with hh | hh
          · subst hh; have : ys.length ≤ 0 := hxy; omega
          · exact hh
        have oy' : Off q b := by
          rcases oy with hh | hh
          · subst hh; simp at hlb; omega
          · exact hh
        refine k_i64 ((2 * ys.length : Nat) : Int) (by omega) (by omega) (by omega) ?_
        refine c_dec (fun hb => ?_) fun hb => ?_
        · have hsl : HC natmul_slabs.id #[.slice (some ⟨q, 0, none⟩) n c, .slice a la c1, .slice b lb c2] h fun v h' => v = .tuple #[] ∧ KeepB q h h' ∧ ∃ zs, Mine h' q zs ∧ zs.length = n ∧ val zs = val xs * val ys := by
            refine natmul_slabs.ok ?_
            unfold natmul_slabs.t natmul_slabs.D1.t
            refine ⟨xs.length + 1, ?_⟩
            refine slabs_loop ok hN r s hla hlb ox' oy' hn (by omega) (by omega) o.lt (fun h' zs k o' hz e => ⟨rfl, k, zs, o', hz, e⟩) xs.length 0 _ h (by omega) (by omega) (by simp) o (KeepB.refl _ _) ?_
            rw [val_replicate]; simp [val]
          refine hc_intro hsl fun v h' ⟨e, k, hz⟩ => ?_
          subst e
          exact gTup_intro rfl (unnil_intro ⟨rfl, k, hz⟩)
        · refine hc_intro (thirds_of ok hN o r s hla hlb ox' oy' hn (by omega) hxy (by omega)) fun v h' ⟨e, k, hz⟩ => ?_
          subst e
          exact gTup_intro rfl (unnil_intro ⟨rfl, k, hz⟩)
    intro a b c c1 c2 la lb n q xs ys h hN o r s hla hlb ox oy hn
    refine natmul_fill.ok ?_
    unfold natmul_fill.t natmul_fill.D1.t
    refine c_dec (fun hb => ?_) fun hb => ?_
    · have := main (c := c) (by omega) o s r hlb hla oy ox (by omega) (by omega)
      rw [Nat.mul_comm (val ys)] at this; exact this
    · exact main hN o r s hla hlb ox oy hn (by omega)
theorem product_spec {a b : Option Addr} {c d l m : Nat} {xs ys : List Nat} {h : Hp} (r : Rd h a c xs) (s : Rd h b d ys) (hl : l = xs.length) (hm : m = ys.length) (hb : xs.length + ys.length ≤ 35184372088828) :
    HC natmul_product.id #[.slice a l c, .slice b m d] h fun v h' => Keep h h' ∧ Fresh h h' v (digs (val xs * val ys)) :=
  product_of (fill_ok _) (Nat.le_refl _) r s hl hm hb
/-- a * b; errors as the code gives them. -/
def mulS (xs ys : List Nat) : List Nat × Int := if Frm xs ∧ Frm ys then lim (val xs * val ys) else ([], 2)
theorem Mul_spec {a b : Option Addr} {c d l m : Nat} {xs ys : List Nat} {h : Hp} (r : Rd h a c xs) (s : Rd h b d ys) (hl : l = xs.length) (hm : m = ys.length) :
    HC natmul_Mul.id #[.slice a l c, .slice b m d] h fun v h' => Keep h h' ∧ Ans h h' v (mulS xs ys) := by
  refine natmul_Mul.ok ?_
  unfold natmul_Mul.t natmul_Mul.D1.t
  refine hc_intro (Form_spec r hl) fun v h' ⟨e1, e2⟩ => ?_
  subst e1; subst e2
  refine gBool_intro rfl ?_
  refine c_not (fun hf => ⟨Keep.refl _, ?_⟩) fun hf => ?_
  · unfold mulS; rw [if_neg (fun hh => of_decide_eq_false hf hh.1)]; exact Ans.none
  refine hc_intro (Form_spec s hm) fun v h' ⟨e1, e2⟩ => ?_
  subst e1; subst e2
  refine gBool_intro rfl ?_
  refine c_not (fun hf2 => ⟨Keep.refl _, ?_⟩) fun hf2 => ?_
  · unfold mulS; rw [if_neg (fun hh => of_decide_eq_false hf2 hh.2)]; exact Ans.none
  have f1 := of_decide_eq_true hf
  have f2 := of_decide_eq_true hf2
  have h1 := f1.1
  have h2 := f2.1
  unfold mulS; rw [if_pos ⟨f1, f2⟩]
  unfold natmul_Mul.D2.t
  refine hc_intro (product_spec r s hl hm (by omega)) fun v h3 ⟨k3, f⟩ => ?_
  refine f.elim fun b3 hb3 o3 => ?_
  have hc : HC natmul_told.id #[.slice (some ⟨b3, 0, none⟩) (digs (val xs * val ys)).length (digs (val xs * val ys)).length] h3 fun v h9 => h9 = h3 ∧ Ans h' h3 v (lim (val xs * val ys)) := by
    refine natmul_told.ok ?_
    unfold natmul_told.t natmul_told.D1.t
    refine c_dec (fun hb => ⟨rfl, ?_⟩) fun hb => ⟨rfl, ?_⟩
    · unfold lim; rw [if_neg (by omega)]; exact Ans.none
    · unfold lim; rw [if_pos (by omega)]; exact Ans.mk rfl rfl (o3.got hb3) (show In .i64 0 by decide)
  refine hc_intro hc fun v h4 ⟨e4, an⟩ => ?_
  subst e4
  refine an.elimG fun a5 c5 r5 i5 => ?_
  exact ⟨k3, Ans.back r5 i5⟩
end Go.Proofs.Ytdpkfipkjdlmlaa.G

/- The law NatmulRing of the translation answers true. -/
namespace Go.Proofs.Ytdpkfipkjdlmlaa.G
open Go.Gv
set_option maxRecDepth 100000
theorem Sqr_spec {a : Option Addr} {c l : Nat} {xs : List Nat} {h : Hp} (r : Rd h a c xs) (hl : l = xs.length) :
    HC natmul_Sqr.id #[.slice a l c] h fun v h' => Keep h h' ∧ Ans h h' v (mulS xs xs) := by
  refine natmul_Sqr.ok ?_
  unfold natmul_Sqr.t natmul_Sqr.D1.t
  refine hc_intro (Mul_spec r r hl hl) fun v h1 ⟨k, an⟩ => ?_
  refine an.elimG fun a5 c5 r5 i5 => ?_
  exact ⟨k, Ans.back r5 i5⟩
end Go.Proofs.Ytdpkfipkjdlmlaa.G

/- What next, power and Pow answer. -/
namespace Go.Proofs.Ytdpkfipkjdlmlaa.G
open Go.Gv
set_option maxRecDepth 100000
/-- A list that fills the beginning of a block of so many cells. -/
def Room (h : Hp) (q room : Nat) (xs : List Nat) : Prop := ∃ rest, Own h q (xs ++ rest) ∧ (xs ++ rest).length = room
theorem Room.keepB {h h' : Hp} {q p room : Nat} {xs : List Nat} (o : Room h p room xs) (hb : p ≠ q) (k : KeepB q h h') : Room h' p room xs := by
  obtain ⟨r, o, e⟩ := o; exact ⟨r, o.keepB hb k, e⟩
theorem Room.nil {h : Hp} {p room : Nat} {xs : List Nat} (o : Room h p room xs) : Room h p room [] := by
  obtain ⟨r, o, e⟩ := o; exact ⟨xs ++ r, o, e⟩
theorem Room.mine {h : Hp} {p room : Nat} {xs : List Nat} (o : Room h p room xs) : Mine h p xs := by
  obtain ⟨r, o, e⟩ := o; exact ⟨r, o⟩
theorem Room.le {h : Hp} {p room : Nat} {xs : List Nat} (o : Room h p room xs) : xs.length ≤ room := by
  obtain ⟨r, o, e⟩ := o; rw [List.length_append] at e; omega
theorem Room.take {h : Hp} {p room : Nat} {xs : List Nat} (o : Room h p room xs) (n : Nat) : Room h p room (xs.take n) := by
  obtain ⟨r, o, e⟩ := o; exact ⟨xs.drop n ++ r, by rw [← List.append_assoc, List.take_append_drop]; exact o, by rw [← List.append_assoc, List.take_append_drop]; exact e⟩
/-! ### the rounds: V is what is reached, from n's top bit down -/
structure PowSt (h0 h : Hp) (p q room : Nat) (V : Nat) : Prop where
  kp : Keep h0 h
  hp : h0.size ≤ p
  hq : h0.size ≤ q
  ne : p ≠ q
  z : Room h p room (digs V)
  s : Room h q room []
end Go.Proofs.Ytdpkfipkjdlmlaa.G

/- Answers of layers 1 and 2 on numbers whose limbs are few. -/
namespace Go.Proofs.Ytdpkfipkjdlmlaa.G
open Go.Gv
set_option linter.unusedVariables false
set_option maxRecDepth 100000
/-! ### answers on numbers -/
section
variable {X Y j k n w : Nat}
theorem frm_d (h : (digs X).length ≤ 8192) : Frm (digs X) := ⟨h, trimL_digs X⟩
theorem lim_d (h : (digs X).length ≤ 8192) : lim X = (digs X, 0) := by unfold lim; rw [if_pos h]
theorem addS_d (hx : (digs X).length ≤ 8192) (hy : (digs Y).length ≤ 8192) (hs : (digs (X + Y)).length ≤ 8192) : addS (digs X) (digs Y) = (digs (X + Y), 0) := by
  unfold addS; rw [if_pos ⟨frm_d hx, frm_d hy⟩, val_digs, val_digs, lim_d hs]
theorem subS_d (hx : (digs X).length ≤ 8192) (hy : (digs Y).length ≤ 8192) (h : Y ≤ X) : subS (digs X) (digs Y) = (digs (X - Y), 0) := by
  unfold subS; rw [if_pos ⟨frm_d hx, frm_d hy⟩, val_digs, val_digs, if_neg (by omega), lim_d (Nat.le_trans (digs_len_mono (Nat.sub_le _ _)) hx)]
theorem mulS_d (hx : (digs X).length ≤ 8192) (hy : (digs Y).length ≤ 8192) (hs : (digs (X * Y)).length ≤ 8192) : mulS (digs X) (digs Y) = (digs (X * Y), 0) := by
  unfold mulS; rw [if_pos ⟨frm_d hx, frm_d hy⟩, val_digs, val_digs, lim_d hs]
theorem mulWS_d (hx : (digs X).length ≤ 8192) (hs : (digs (X * w)).length ≤ 8192) : mulWS (digs X) w = (digs (X * w), 0) := by
  unfold mulWS; rw [if_pos (frm_d hx), val_digs, lim_d hs]
theorem divWS_d (hx : (digs X).length ≤ 8192) (hw : w ≠ 0) : divWS (digs X) w = (digs (X / w), ((X % w : Nat) : Int), 0) := by
  unfold divWS; rw [if_pos (frm_d hx), if_neg hw, val_digs]
theorem shlS_d (hx : (digs X).length ≤ 8192) (hs : (digs (X * 2 ^ n)).length ≤ 8192) : shlS (digs X) (n : Int) = (digs (X * 2 ^ n), 0) := by
  unfold shlS; rw [if_neg (by omega), if_pos (frm_d hx), val_digs, Int.toNat_natCast, lim_d hs]
theorem shrS_d (hx : (digs X).length ≤ 8192) : shrS (digs X) (n : Int) = (digs (X / 2 ^ n), 0) := by
  unfold shrS; rw [if_neg (by omega), if_pos (frm_d hx), val_digs, Int.toNat_natCast, lim_d (Nat.le_trans (digs_len_mono (Nat.div_le_self _ _)) hx)]
theorem dw_word (hw : w < 18446744073709551616) : (digs w).length ≤ 1 := by
  refine digs_len.mpr ?_
  have e : (2 : Nat) ^ (64 * 1) = 18446744073709551616 := by decide
  omega
theorem dl_pos (h : X ≠ 0) : 1 ≤ (digs X).length := by rw [digs_pos h]; simp
end
end Go.Proofs.Ytdpkfipkjdlmlaa.G

/- What root and Root answer, and the reference's Root, DocQuoRem, DocRoot. -/
namespace Go.Proofs.Ytdpkfipkjdlmlaa.G
open Go.Gv
set_option maxRecDepth 100000
set_option linter.unusedVariables false
theorem quoS_d {X Y : Nat} (hx : (digs X).length ≤ 8192) (hy : (digs Y).length ≤ 8192) (h0 : Y ≠ 0) : quoS (digs X) (digs Y) = (digs (X / Y), digs (X % Y), 0) := by
  unfold quoS; rw [if_pos ⟨frm_d hx, frm_d hy⟩, val_digs, val_digs, if_neg h0]
theorem AnsQ.elim {h0 h : Hp} {v : Value} {p : List Nat × List Nat × Int} {K : Option Addr → Nat → Nat → Option Addr → Nat → Nat → Int → Prop} (a : AnsQ h0 h v p) (g : ∀ a c b d, GotE eU64 h0 h a c p.1 → GotE eU64 h0 h b d p.2.1 → K a p.1.length c b p.2.1.length d p.2.2) :
    gTup v fun y => uncons y fun v1 y1 => gSlice v1 fun a l c => uncons y1 fun v2 y2 => gSlice v2 fun b m d => uncons y2 fun v3 y3 => gInt .i64 v3 fun x => unnil y3 (K a l c b m d x) := by
  obtain ⟨x, y, z, e, ⟨a, c, e1, r⟩, ⟨b, d, e2, s⟩, e3, _⟩ := a
  subst e; subst e1; subst e2; subst e3; exact g a c b d r s
theorem dl_blen {X k : Nat} (h : blen X ≤ 64 * k) : (digs X).length ≤ k := (lim_blen' k).mp h
theorem dl_root {m : Nat} (h1 : 1 ≤ m) (hm : m ≤ 524280) : (digs (2 * 2 ^ m + 2)).length ≤ 8192 := by
  refine dl_blen (Nat.le_trans (blen_le (k := m + 2).mpr ?_) (by omega))
  have e : 2 ^ (m + 2) = 4 * 2 ^ m := by rw [Nat.pow_add]; omega
  have e1 : 2 ≤ 2 ^ m := by
    have := Nat.pow_le_pow_right (n := 2) (by decide) h1
    simpa using this
  omega
theorem root_loop {R : Rt} {a : Option Addr} {c A XM : Nat} {h0 : Hp} (r : Rd h0 a c (digs A)) (hA : A ≠ 0) (la : (digs A).length ≤ 8192) (hM : (digs (2 * XM + 2)).length ≤ 8192)
    (post : ∀ h a' c', Keep h0 h → GotE eU64 h0 h a' c' (digs (rootN A)) → R (.slice a' (digs (rootN A)).length c') h) :
    ∀ (n X : Nat) (h : Hp) (a4 : Option Addr) (c4 : Nat), X < n → rootN A ≤ X → X ≤ XM → Keep h0 h → GotE eU64 h0 h a4 c4 (digs X) → natdiv_root.L2.t R n a (digs A).length c a4 (digs X).length c4 h := by
  have hpos := rootN_pos hA
  intro n
  induction n with
  | zero => intro X h a4 c4 hX; omega
  | succ n ih =>
    intro X h a4 c4 hX hr hXM k0 g
    unfold natdiv_root.L2.t natdiv_root.D3.t
    have hX0 : X ≠ 0 := by omega
    have hq := newton_q hX0 hr
    have lX : (digs X).length ≤ 8192 := Nat.le_trans (digs_len_mono (by omega)) hM
    have lQ : (digs (A / X)).length ≤ 8192 := Nat.le_trans (digs_len_mono (Nat.div_le_self _ _)) la
    have lS : (digs (X + A / X)).length ≤ 8192 := Nat.le_trans (digs_len_mono (by omega)) hM
    refine hc_intro (QuoRem_spec (r.keep k0) g.rd64 rfl rfl) fun v h1 ⟨k1, an⟩ => ?_
    rw [quoS_d la lX hX0] at an
    refine an.elim fun a1 c1 b1 d1 g1 _ => ?_
    refine hc_intro (Add_spec (g.rd64.keep k1) g1.rd64 rfl rfl) fun v h2 ⟨k2, an⟩ => ?_
    rw [addS_d lX lQ lS] at an
    refine an.elim fun a2 c2 r2 => ?_
    refine hc_intro (Shr_spec r2 rfl (by omega)) fun v h3 ⟨k3, an⟩ => ?_
    have es := shrS_d (X := X + A / X) (n := 1) lS
    rw [show (((1 : Nat)) : Int) = 1 by rfl, Nat.pow_one] at es
    rw [es] at an
    refine an.elimG fun a3 c3 g3 _ => ?_
    have k13 := k1.trans (k2.trans k3)
    refine hc_intro (Cmp_spec g3.rd64 (g.rd64.keep k13) rfl rfl) fun v h4 ⟨e4, ev⟩ => ?_
    subst e4; subst ev
    refine gInt_intro rfl ?_
    rw [val_digs, val_digs]
    have up := newton_up (A := A) hX0
    refine c_dec (fun hb => ?_) fun hb => ?_
    · have hge : X ≤ (X + A / X) / 2 := by unfold cmpI at hb; split at hb <;> omega
      have e := newton_stop hX0 hr hge
      have := post h4 a4 c4 (k0.trans k13) (by rw [e]; exact g.keep k13)
      rw [e] at this; exact this
    · have hlt : (X + A / X) / 2 < X := by
        refine Nat.lt_of_not_le fun hh => hb ?_
        unfold cmpI
        rw [if_neg (by omega)]
        split <;> decide
      exact ih ((X + A / X) / 2) h4 a3 c3 (by omega) up (by omega) (k0.trans k13) (g3.from (k0.trans (k1.trans k2)).le)
theorem root_spec : ∀ (N A : Nat) {a : Option Addr} {c l : Nat} {h : Hp}, A < N → Rd h a c (digs A) → l = (digs A).length → (digs A).length ≤ 8192 →
    HC natdiv_root.id #[.slice a l c] h fun v h' => Keep h h' ∧ AnsS h h' v (digs (rootN A)) := by
  intro N
  induction N with
  | zero => intro A a c l h hN; omega
  | succ N ih =>
    intro A a c l h hN r hl la
    subst hl
    refine natdiv_root.ok ?_
    unfold natdiv_root.t natdiv_root.D1.t
    refine hc_intro (Bits_spec r rfl) fun v h1 ⟨e1, e2⟩ => ?_
    subst e1; subst e2
    refine gInt_intro rfl ?_
    rw [val_digs]
    have hb : blen A ≤ 64 * 8192 := (lim_blen' 8192).mpr la
    refine c_eq (fun h0 => ?_) fun h0 => ?_
    · have hA0 : A = 0 := by
        rcases Nat.eq_zero_or_pos A with e | e
        · exact e
        · have := blen_pos (n := A) (by omega); omega
      subst hA0
      have e0 : digs (rootN 0) = [] := digs_zero
      rw [e0]
      exact ⟨Keep.refl _, none, 0, rfl, GotE.nil _ _⟩
    have hA : A ≠ 0 := fun e => h0 (by subst e; rw [blen_zero]; rfl)
    have hlt : A < 2 ^ blen A := blen_le.mp (Nat.le_refl _)
    have hM := dl_root (m := (blen A + 1) / 2) (by omega) (by omega)
    have l1 : (digs 1).length ≤ 8192 := Nat.le_trans (dw_word (w := 1) (by decide)) (by decide)
    have done : ∀ (h2 : Hp) (a2 : Option Addr) (c2 : Nat), Keep h1 h2 → GotE eU64 h1 h2 a2 c2 (digs (rootN A)) → Keep h1 h2 ∧ AnsS h1 h2 (.slice a2 (digs (rootN A)).length c2) (digs (rootN A)) := fun h2 a2 c2 k g => ⟨k, a2, c2, rfl, g⟩
    refine c_dec (fun hs => ?_) fun hs => ?_
    · refine hc_intro (Word_spec (w := 1) (by decide) h1) fun v h2 ⟨k2, sw⟩ => ?_
      refine AnsS.elim sw fun a2 c2 r2 => ?_
      refine k_i64 ((blen A + 1 : Nat) : Int) (by omega) (by omega) (by omega) ?_
      refine ⟨by decide, ?_⟩
      refine k_i64 (((blen A + 1) / 2 : Nat) : Int) (by rw [show (2 : Int) = ((2 : Nat) : Int) by rfl, tdiv_nat]) (by omega) (by omega) ?_
      refine hc_intro (Shl_spec r2 rfl (by omega)) fun v h3 ⟨k3, an⟩ => ?_
      have lX : (digs (1 * 2 ^ ((blen A + 1) / 2))).length ≤ 8192 := Nat.le_trans (digs_len_mono (by omega)) hM
      rw [shlS_d l1 lX, Nat.one_mul] at an
      refine an.elimG fun a3 c3 g3 _ => ?_
      have hr := root_first hlt
      exact ⟨2 ^ ((blen A + 1) / 2) + 1, root_loop r hA la hM (fun h4 a' c' k g => done h4 a' c' k g) _ _ h3 a3 c3 (by omega) (by omega) (Nat.le_refl _) (k2.trans k3) (g3.from k2.le)⟩
    · refine ⟨by decide, ?_⟩
      refine k_i64 ((blen A / 4 : Nat) : Int) (by rw [show (4 : Int) = ((4 : Nat) : Int) by rfl, tdiv_nat]) (by omega) (by omega) ?_
      refine k_i64 ((2 * (blen A / 4) : Nat) : Int) (by omega) (by omega) (by omega) ?_
      refine hc_intro (Shr_spec r rfl (by omega)) fun v h2 ⟨k2, an⟩ => ?_
      rw [shrS_d la] at an
      refine an.elim fun a2 c2 r2 => ?_
      have hr0 := root_start A (blen A / 4)
      have hsz := root_size (k := blen A / 4) hlt (by omega)
      have hdiv : A / 2 ^ (2 * (blen A / 4)) < A := Nat.div_lt_self (by omega) (Nat.one_lt_two_pow (by omega))
      have lU : (digs (A / 2 ^ (2 * (blen A / 4)))).length ≤ 8192 := Nat.le_trans (digs_len_mono (by omega)) la
      refine hc_intro (ih _ (by omega) r2 rfl lU) fun v h3 ⟨k3, sr⟩ => ?_
      refine AnsS.elim sr fun a3 c3 r3 => ?_
      refine hc_intro (Word_spec (w := 1) (by decide) h3) fun v h4 ⟨k4, sw⟩ => ?_
      refine AnsS.elim sw fun a4 c4 r4 => ?_
      generalize rootN (A / 2 ^ (2 * (blen A / 4))) = S at *
      have hP : 0 < 2 ^ (blen A / 4) := Nat.pow_pos (by decide)
      have hS1 : (S + 1) * 1 ≤ (S + 1) * 2 ^ (blen A / 4) := Nat.mul_le_mul_left _ hP
      have lS1 : (digs (S + 1)).length ≤ 8192 := Nat.le_trans (digs_len_mono (by omega)) hM
      have lS : (digs S).length ≤ 8192 := Nat.le_trans (digs_len_mono (by omega)) hM
      have lX : (digs ((S + 1) * 2 ^ (blen A / 4))).length ≤ 8192 := Nat.le_trans (digs_len_mono (by omega)) hM
      refine hc_intro (Add_spec (r3.keep k4) r4 rfl rfl) fun v h5 ⟨k5, an⟩ => ?_
      rw [addS_d lS l1 lS1] at an
      refine an.elim fun a5 c5 r5 => ?_
      refine hc_intro (Shl_spec r5 rfl (by omega)) fun v h6 ⟨k6, an⟩ => ?_
      rw [shlS_d lS1 lX] at an
      refine an.elimG fun a6 c6 g6 _ => ?_
      have k16 := k2.trans (k3.trans (k4.trans k5))
      exact ⟨(S + 1) * 2 ^ (blen A / 4) + 1, root_loop r hA la hM (fun h4 a' c' k g => done h4 a' c' k g) _ _ h6 a6 c6 (by omega) hr0 hsz (k16.trans k6) (g6.from k16.le)⟩
def rootS (xs : List Nat) : List Nat × List Nat × Int := if Frm xs then (digs (rootN (val xs)), digs (val xs - rootN (val xs) * rootN (val xs)), 0) else ([], [], 2)
theorem Root_spec {a : Option Addr} {c l : Nat} {xs : List Nat} {h : Hp} (r : Rd h a c xs) (hl : l = xs.length) :
    HC natdiv_Root.id #[.slice a l c] h fun v h' => Keep h h' ∧ AnsQ h h' v (rootS xs) := by
  subst hl
  refine natdiv_Root.ok ?_
  unfold natdiv_Root.t natdiv_Root.D1.t
  refine hc_intro (Form_spec r rfl) fun v h1 ⟨e1, e2⟩ => ?_
  subst e1; subst e2
  refine gBool_intro rfl ?_
  refine c_not (fun hf => ⟨Keep.refl _, ?_⟩) fun hf => ?_
  · unfold rootS; rw [if_neg (of_decide_eq_false hf)]; exact AnsQ.none
  have fx := of_decide_eq_true hf
  unfold rootS; rw [if_pos fx]
  have dx := fx.digs r.words
  have la : (digs (val xs)).length ≤ 8192 := by rw [dx]; exact fx.1
  have hle := rootN_le (val xs)
  have hS : rootN (val xs) ≤ rootN (val xs) * rootN (val xs) := Nat.le_mul_self _
  have r' : Rd h1 a c (digs (val xs)) := by rw [dx]; exact r
  have ll : xs.length = (digs (val xs)).length := by rw [dx]
  rw [ll]
  generalize val xs = A at *
  refine hc_intro (root_spec (A + 1) A (by omega) r' rfl la) fun v h2 ⟨k2, sr⟩ => ?_
  refine AnsS.elimG sr fun a2 c2 g2 => ?_
  have lS : (digs (rootN A)).length ≤ 8192 := Nat.le_trans (digs_len_mono (by omega)) la
  have lQ : (digs (rootN A * rootN A)).length ≤ 8192 := Nat.le_trans (digs_len_mono hle) la
  refine hc_intro (Sqr_spec g2.rd64 rfl) fun v h3 ⟨k3, an⟩ => ?_
  rw [mulS_d lS lS lQ] at an
  refine an.elim fun a3 c3 r3 => ?_
  refine hc_intro (Sub_spec (r'.keep (k2.trans k3)) r3 rfl rfl) fun v h4 ⟨k4, an⟩ => ?_
  rw [subS_d la lQ hle] at an
  refine an.elimG fun a4 c4 g4 _ => ?_
  exact ⟨k2.trans (k3.trans k4), AnsQ.mk (g2.keep (k3.trans k4)) (g4.from (k2.trans k3).le) rfl rfl (by decide)⟩
/-! ### the reference -/
abbrev sDD : An (Nat × Nat) := s2 sD sD
theorem sDD.elim {h0 h : Hp} {v : Value} {p : Nat × Nat} {K : Option Addr → Nat → Nat → Option Addr → Nat → Nat → Prop} (a : s2 sD sD h0 h v p) (g : ∀ a c b d, GotE eU32 h0 h a c (D.digs p.1) → GotE eU32 h0 h b d (D.digs p.2) → K a (D.digs p.1).length c b (D.digs p.2).length d) :
    gTup v fun y => uncons y fun v1 y1 => gSlice v1 fun a l c => uncons y1 fun v2 y2 => gSlice v2 fun b m d => unnil y2 (K a l c b m d) := by
  obtain ⟨x, y, e, ⟨a, c, e1, r⟩, ⟨b, d, e2, s⟩⟩ := a
  subst e; subst e1; subst e2; exact g a c b d r s
theorem D.dl_blen {X k : Nat} (h : blen X ≤ 32 * k) : (D.digs X).length ≤ k := (D.lim_blen' k).mp h
theorem D.dl_le {X Y k : Nat} (h : X ≤ Y) (hY : (D.digs Y).length ≤ k) : (D.digs X).length ≤ k := Nat.le_trans (D.digs_len_mono h) hY
theorem dlen0 (X : Nat) : (D.digs X).length = 0 ↔ X = 0 := by
  constructor
  · intro h
    have e : D.digs X = [] := List.length_eq_zero_iff.mp h
    rw [← D.val_digs X, e]; rfl
  · intro h; subst h; rw [D.digs_zero]; rfl
theorem rroot_loop {R : Rt} {a : Option Addr} {c A XM : Nat} {h0 : Hp} (r : RdE eU32 h0 a c (D.digs A)) (hA : A ≠ 0) (la : (D.digs A).length ≤ 1099511627000) (hM : (D.digs (2 * XM + 2)).length ≤ 1099511627000)
    (post : ∀ h a' c' b' d', Keep h0 h → GotE eU32 h0 h a' c' (D.digs (rootN A)) → GotE eU32 h0 h b' d' (D.digs (A - rootN A * rootN A)) → R (.tuple #[.slice a' (D.digs (rootN A)).length c', .slice b' (D.digs (A - rootN A * rootN A)).length d']) h) :
    ∀ (n X : Nat) (h : Hp) (a4 : Option Addr) (c4 : Nat), X < n → rootN A ≤ X → X ≤ XM → Keep h0 h → GotE eU32 h0 h a4 c4 (D.digs X) → gnomonref03_Root.L2.t R n a (D.digs A).length c a4 (D.digs X).length c4 h := by
  have hpos := rootN_pos hA
  intro n
  induction n with
  | zero => intro X h a4 c4 hX; omega
  | succ n ih =>
    intro X h a4 c4 hX hr hXM k0 g
    unfold gnomonref03_Root.L2.t gnomonref03_Root.D3.t
    have hX0 : X ≠ 0 := by omega
    have hq := newton_q hX0 hr
    have lX : (D.digs X).length ≤ 1099511627000 := D.dl_le (by omega) hM
    have lQ : (D.digs (A / X)).length ≤ 1099511627000 := D.dl_le (Nat.div_le_self _ _) la
    refine hc_intro (DivMod_spec (r.keep k0) g.rd rfl rfl (by omega)) fun v h1 ⟨k1, an⟩ => ?_
    have ed : dmS A X = (A / X, A % X) := by unfold dmS; rw [if_neg hX0]
    rw [ed] at an
    refine sDD.elim an fun a1 c1 b1 d1 g1 _ => ?_
    dsimp only at g1 ⊢
    refine hc_intro (rAdd_spec (g.rd.keep k1) g1.rd rfl rfl (Nat.le_trans lX (by decide)) (Nat.le_trans lQ (by decide))) fun v h2 ⟨k2, sd⟩ => ?_
    refine sd.elim fun a2 c2 g2 => ?_
    refine hc_intro (rShr_spec (n := 1) g2.rd rfl rfl (by omega)) fun v h3 ⟨k3, sd⟩ => ?_
    rw [Nat.pow_one] at sd
    refine sd.elim fun a3 c3 g3 => ?_
    have k13 := k1.trans (k2.trans k3)
    refine hc_intro (rCmp_spec g3.rd (g.rd.keep k13) rfl rfl) fun v h4 ⟨e4, ev⟩ => ?_
    subst e4; subst ev
    refine gInt_intro rfl ?_
    have up := newton_up (A := A) hX0
    refine c_dec (fun hb => ?_) fun hb => ?_
    · have hge : X ≤ (X + A / X) / 2 := by unfold cmpI at hb; split at hb <;> omega
      have e := newton_stop hX0 hr hge
      have hg := g.keep k13
      refine hc_intro (rMul_spec hg.rd hg.rd rfl rfl (by omega) (by omega)) fun v h5 ⟨k5, sd⟩ => ?_
      refine sd.elim fun a5 c5 g5 => ?_
      refine hc_intro (rSub_spec (r.keep (k0.trans (k13.trans k5))) g5.rd rfl rfl) fun v h6 ⟨k6, sd⟩ => ?_
      refine sd.elim fun a6 c6 g6 => ?_
      have k06 := k0.trans (k13.trans (k5.trans k6))
      have := post h6 a4 c4 a6 c6 k06 (by rw [e]; exact hg.keep (k5.trans k6)) (by rw [e]; exact g6.from (k0.trans (k13.trans k5)).le)
      rw [e] at this; exact this
    · have hlt : (X + A / X) / 2 < X := by
        refine Nat.lt_of_not_le fun hh => hb ?_
        unfold cmpI
        rw [if_neg (by omega)]
        split <;> decide
      exact ih ((X + A / X) / 2) h4 a3 c3 (by omega) up (by omega) (k0.trans k13) (g3.from (k0.trans (k1.trans k2)).le)
theorem D.dl_root {m K : Nat} (h1 : 1 ≤ m) (hm : m + 2 ≤ 32 * K) : (D.digs (2 * 2 ^ m + 2)).length ≤ K := by
  refine D.dl_blen (Nat.le_trans (blen_le (k := m + 2).mpr ?_) hm)
  have e : 2 ^ (m + 2) = 4 * 2 ^ m := by rw [Nat.pow_add]; omega
  have e1 : 2 ≤ 2 ^ m := by
    have := Nat.pow_le_pow_right (n := 2) (by decide) h1
    simpa using this
  omega
theorem rPow2_spec {x : Int} {n : Nat} (hx : x = (n : Int)) (hn : n ≤ 35184372088832) (h : Hp) : HC gnomonref01_Pow2.id #[.int .i64 x] h fun v h' => Keep h h' ∧ sD h h' v (2 ^ n) := by
  refine gnomonref01_Pow2.ok ?_
  unfold gnomonref01_Pow2.t gnomonref01_Pow2.D1.t
  refine hc_intro (rWord_spec (w := 1) rfl (by decide) h) fun v h1 ⟨k1, sd⟩ => ?_
  refine sd.elim fun a1 c1 g1 => ?_
  have l1 : (D.digs 1).length ≤ 1 := D.dl_blen (blen_le.mpr (by decide))
  refine hc_intro (rShl_spec g1.rd rfl hx hn (by omega)) fun v h2 ⟨k2, sd⟩ => ?_
  refine sd.elim fun a2 c2 g2 => ?_
  rw [Nat.one_mul] at g2 ⊢
  exact ⟨k1.trans k2, a2, c2, rfl, g2.from k1.le⟩
theorem rRoot_spec : ∀ (N A : Nat) {a : Option Addr} {c l : Nat} {h : Hp}, A < N → RdE eU32 h a c (D.digs A) → l = (D.digs A).length → (D.digs A).length ≤ 1099511626000 →
    HC gnomonref03_Root.id #[.slice a l c] h fun v h' => Keep h h' ∧ s2 sD sD h h' v (rootN A, A - rootN A * rootN A) := by
  intro N
  induction N with
  | zero => intro A a c l h hN; omega
  | succ N ih =>
    intro A a c l h hN r hl la
    subst hl
    refine gnomonref03_Root.ok ?_
    unfold gnomonref03_Root.t gnomonref03_Root.D1.t
    refine c_eq (fun h0 => ?_) fun h0 => ?_
    · have hA0 : A = 0 := (dlen0 A).mp (by omega)
      subst hA0
      refine hc_intro (rWord_spec (w := 0) rfl (by decide) h) fun v h1 ⟨k1, sd⟩ => ?_
      refine sd.elim fun a1 c1 g1 => ?_
      refine hc_intro (rWord_spec (w := 0) rfl (by decide) h1) fun v h2 ⟨k2, sd⟩ => ?_
      refine sd.elim fun a2 c2 g2 => ?_
      exact ⟨k1.trans k2, _, _, rfl, ⟨_, _, rfl, g1.keep k2⟩, ⟨_, _, rfl, g2.from k1.le⟩⟩
    have hA : A ≠ 0 := fun e => h0 (by have := (dlen0 A).mpr e; omega)
    have hb : blen A ≤ 32 * (D.digs A).length := (D.lim_blen' _).mpr (Nat.le_refl _)
    have hbp := blen_pos hA
    have hlt : A < 2 ^ blen A := blen_le.mp (Nat.le_refl _)
    refine hc_intro (rBits_spec r rfl) fun v h1 ⟨e1, e2⟩ => ?_
    subst e1; subst e2
    refine gInt_intro rfl ?_
    refine k_i64 ((blen A + 1 : Nat) : Int) (by omega) (by omega) (by omega) ?_
    refine ⟨by decide, ?_⟩
    refine k_i64 (((blen A + 1) / 2 : Nat) : Int) (by rw [show (2 : Int) = ((2 : Nat) : Int) by rfl, tdiv_nat]) (by omega) (by omega) ?_
    have hM : (D.digs (2 * 2 ^ ((blen A + 1) / 2) + 2)).length ≤ 1099511627000 := D.dl_root (by omega) (by omega)
    refine hc_intro (rPow2_spec rfl (by omega) h1) fun v h2 ⟨k2, sd⟩ => ?_
    refine sd.elim fun a2 c2 g2 => ?_
    refine hc_intro (rBits_spec (r.keep k2) rfl) fun v h3 ⟨e1, e2⟩ => ?_
    subst e1; subst e2
    refine gInt_intro rfl ?_
    have done : ∀ (h2 : Hp) (a2 : Option Addr) (c2 : Nat) (b2 : Option Addr) (d2 : Nat), Keep h1 h2 → GotE eU32 h1 h2 a2 c2 (D.digs (rootN A)) → GotE eU32 h1 h2 b2 d2 (D.digs (A - rootN A * rootN A)) → Keep h1 h2 ∧ s2 sD sD h1 h2 (.tuple #[.slice a2 (D.digs (rootN A)).length c2, .slice b2 (D.digs (A - rootN A * rootN A)).length d2]) (rootN A, A - rootN A * rootN A) := fun h2 a2 c2 b2 d2 k g g' => ⟨k, _, _, rfl, ⟨_, _, rfl, g⟩, ⟨_, _, rfl, g'⟩⟩
    have hr := root_first hlt
    refine c_dec (fun hs => ?_) fun hs => ?_
    · have r3 := r.keep k2
      refine hc_intro (rBits_spec r3 rfl) fun v h4 ⟨e1, e2⟩ => ?_
      subst e1; subst e2
      refine gInt_intro rfl ?_
      refine ⟨by decide, ?_⟩
      refine k_i64 ((blen A / 4 : Nat) : Int) (by rw [show (4 : Int) = ((4 : Nat) : Int) by rfl, tdiv_nat]) (by omega) (by omega) ?_
      refine k_i64 ((2 * (blen A / 4) : Nat) : Int) (by omega) (by omega) (by omega) ?_
      refine hc_intro (rShr_spec (n := 2 * (blen A / 4)) r3 rfl rfl (by omega)) fun v h5 ⟨k5, sd⟩ => ?_
      refine sd.elim fun a5 c5 g5 => ?_
      have hr0 := root_start A (blen A / 4)
      have hsz := root_size (k := blen A / 4) hlt (by omega)
      have hdiv : A / 2 ^ (2 * (blen A / 4)) < A := Nat.div_lt_self (by omega) (Nat.one_lt_two_pow (by omega))
      refine hc_intro (ih _ (by omega) g5.rd rfl (D.dl_le (by omega) la)) fun v h6 ⟨k6, sr⟩ => ?_
      refine sDD.elim sr fun a6 c6 b6 d6 g6 _ => ?_
      dsimp only at g6 ⊢
      refine hc_intro (rWord_spec (w := 1) rfl (by decide) h6) fun v h7 ⟨k7, sw⟩ => ?_
      refine sw.elim fun a7 c7 g7 => ?_
      generalize rootN (A / 2 ^ (2 * (blen A / 4))) = S at *
      have hP : 0 < 2 ^ (blen A / 4) := Nat.pow_pos (by decide)
      have hS1 : (S + 1) * 1 ≤ (S + 1) * 2 ^ (blen A / 4) := Nat.mul_le_mul_left _ hP
      have lS1 : (D.digs (S + 1)).length ≤ 1099511627000 := D.dl_le (by omega) hM
      have lS : (D.digs S).length ≤ 1099511627000 := D.dl_le (by omega) hM
      have l1 : (D.digs 1).length ≤ 1 := D.dl_blen (blen_le.mpr (by decide))
      refine hc_intro (rAdd_spec (g6.rd.keep k7) g7.rd rfl rfl (Nat.le_trans lS (by decide)) (Nat.le_trans l1 (by decide))) fun v h8 ⟨k8, sd⟩ => ?_
      refine sd.elim fun a8 c8 g8 => ?_
      refine hc_intro (rShl_spec g8.rd rfl rfl (by omega) (by omega)) fun v h9 ⟨k9, sd⟩ => ?_
      refine sd.elim fun a9 c9 g9 => ?_
      have k18 := k2.trans (k5.trans (k6.trans (k7.trans k8)))
      exact ⟨(S + 1) * 2 ^ (blen A / 4) + 1, rroot_loop r hA (by omega) hM (fun h4 a' c' b' d' k g g' => done h4 a' c' b' d' k g g') _ _ h9 a9 c9 (by omega) hr0 hsz (k18.trans k9) (g9.from k18.le)⟩
    · exact ⟨2 ^ ((blen A + 1) / 2) + 1, rroot_loop r hA (by omega) hM (fun h4 a' c' b' d' k g g' => done h4 a' c' b' d' k g g') _ _ _ a2 c2 (by omega) (by omega) (Nat.le_refl _) k2 g2⟩
theorem DocQuoRem_spec {a b : Option Addr} {c d l m : Nat} {xs ys : List Nat} {h : Hp} (r : Rd h a c xs) (s : Rd h b d ys) (hl : l = xs.length) (hm : m = ys.length) :
    HC gnomonref03_DocQuoRem.id #[.slice a l c, .slice b m d] h fun v h' => Keep h h' ∧ AnsQ h h' v (quoS xs ys) := by
  subst hl; subst hm
  refine gnomonref03_DocQuoRem.ok ?_
  unfold gnomonref03_DocQuoRem.t gnomonref03_DocQuoRem.D1.t
  refine hc_intro (DocForm_spec r rfl) fun v h1 ⟨e1, e2⟩ => ?_
  subst e1; subst e2
  refine gBool_intro rfl ?_
  refine c_not (fun hf => ⟨Keep.refl _, ?_⟩) fun hf => ?_
  · unfold quoS; rw [if_neg (fun hh => of_decide_eq_false hf hh.1)]; exact AnsQ.none
  refine hc_intro (DocForm_spec s rfl) fun v h2 ⟨e1, e2⟩ => ?_
  subst e1; subst e2
  refine gBool_intro rfl ?_
  refine c_not (fun hg => ⟨Keep.refl _, ?_⟩) fun hg => ?_
  · unfold quoS; rw [if_neg (fun hh => of_decide_eq_false hg hh.2)]; exact AnsQ.none
  have fx := of_decide_eq_true hf
  have fy := of_decide_eq_true hg
  unfold gnomonref03_DocQuoRem.D2.t
  unfold quoS
  rw [if_pos ⟨fx, fy⟩]
  refine c_eq (fun h0 => ⟨Keep.refl _, ?_⟩) fun h0 => ?_
  · have : ys = [] := List.length_eq_zero_iff.mp (by omega)
    subst this
    rw [if_pos (show val [] = 0 from rfl)]; exact AnsQ.none
  have hY0 : val ys ≠ 0 := fun e => h0 (by
    have := fy.digs s.words
    rw [e, digs_zero] at this
    rw [← this]; rfl)
  rw [if_neg hY0]
  refine hc_intro (From_spec r rfl) fun v h3 ⟨k3, sd⟩ => ?_
  refine sd.elim fun a3 c3 g3 => ?_
  refine hc_intro (From_spec (s.keep k3) rfl) fun v h4 ⟨k4, sd⟩ => ?_
  refine sd.elim fun a4 c4 g4 => ?_
  have lX := dl_frm fx r.words
  refine hc_intro (DivMod_spec (g3.rd.keep k4) g4.rd rfl rfl (by omega)) fun v h5 ⟨k5, an⟩ => ?_
  have ed : dmS (val xs) (val ys) = (val xs / val ys, val xs % val ys) := by unfold dmS; rw [if_neg hY0]
  rw [ed] at an
  refine sDD.elim an fun a5 c5 b5 d5 g5 g5' => ?_
  refine hc_intro (To_spec g5.rd rfl) fun v h6 ⟨k6, sw⟩ => ?_
  refine AnsS.elimG sw fun a6 c6 g6 => ?_
  refine hc_intro (To_spec (g5'.rd.keep k6) rfl) fun v h7 ⟨k7, sw⟩ => ?_
  refine AnsS.elimG sw fun a7 c7 g7 => ?_
  have k05 := k3.trans (k4.trans k5)
  exact ⟨k05.trans (k6.trans k7), AnsQ.mk ((g6.keep k7).from k05.le) (g7.from (k05.trans k6).le) rfl rfl (by decide)⟩
theorem DocRoot_spec {a : Option Addr} {c l : Nat} {xs : List Nat} {h : Hp} (r : Rd h a c xs) (hl : l = xs.length) :
    HC gnomonref03_DocRoot.id #[.slice a l c] h fun v h' => Keep h h' ∧ AnsQ h h' v (rootS xs) := by
  subst hl
  refine gnomonref03_DocRoot.ok ?_
  unfold gnomonref03_DocRoot.t gnomonref03_DocRoot.D1.t
  refine hc_intro (DocForm_spec r rfl) fun v h1 ⟨e1, e2⟩ => ?_
  subst e1; subst e2
  refine gBool_intro rfl ?_
  refine c_not (fun hf => ⟨Keep.refl _, ?_⟩) fun hf => ?_
  · unfold rootS; rw [if_neg (of_decide_eq_false hf)]; exact AnsQ.none
  have fx := of_decide_eq_true hf
  unfold rootS; rw [if_pos fx]
  refine hc_intro (From_spec r rfl) fun v h3 ⟨k3, sd⟩ => ?_
  refine sd.elim fun a3 c3 g3 => ?_
  have lX := dl_frm fx r.words
  refine hc_intro (rRoot_spec _ _ (Nat.lt_succ_self _) g3.rd rfl (by omega)) fun v h5 ⟨k5, an⟩ => ?_
  refine sDD.elim an fun a5 c5 b5 d5 g5 g5' => ?_
  refine hc_intro (To_spec g5.rd rfl) fun v h6 ⟨k6, sw⟩ => ?_
  refine AnsS.elimG sw fun a6 c6 g6 => ?_
  refine hc_intro (To_spec (g5'.rd.keep k6) rfl) fun v h7 ⟨k7, sw⟩ => ?_
  refine AnsS.elimG sw fun a7 c7 g7 => ?_
  have k05 := k3.trans k5
  exact ⟨k05.trans (k6.trans k7), AnsQ.mk ((g6.keep k7).from k05.le) (g7.from (k05.trans k6).le) rfl rfl (by decide)⟩
end Go.Proofs.Ytdpkfipkjdlmlaa.G

/- The laws NatdivDivides, NatdivSquares, NatdivUndoes of the translation answer true. -/
namespace Go.Proofs.Ytdpkfipkjdlmlaa.G
open Go.Gv
set_option maxRecDepth 100000
set_option linter.unusedVariables false
theorem digs1 {w : Nat} (h0 : w ≠ 0) (h : w < 18446744073709551616) : digs w = [w] := by
  rw [digs_pos h0, Nat.mod_eq_of_lt h, Nat.div_eq_of_lt h, digs_zero]
theorem htwin_spec {a : Option Addr} {c l : Nat} {xs : List Nat} {h : Hp} (r : Rd h a c xs) (hl : l = xs.length) :
    HC gnomonlaw03_twin.id #[.slice a l c] h fun v h' => Keep h h' ∧ AnsS h h' v xs := by
  subst hl
  have h1 := r.len
  refine gnomonlaw03_twin.ok ?_
  unfold gnomonlaw03_twin.t gnomonlaw03_twin.D1.t
  refine mk_intro xs.length rfl rfl rfl rfl (by omega) fun h1 o1 k1 => ?_
  rw [Int.toNat_natCast]
  refine cp_intro o1 (r.keep k1) (by simp) rfl (Nat.le_refl _) k1 fun h2 o2 k2 => ?_
  rw [List.length_replicate, List.take_length, List.drop_of_length_le (by simp), List.append_nil] at o2
  exact ⟨k2, _, _, rfl, o2.got' (Nat.le_refl _) rfl⟩
theorem hawake_spec (h : Hp) : HC gnomonlaw03_awake.id #[] h fun v h' => Keep h h' ∧ v = .bool true := by
  refine gnomonlaw03_awake.ok ?_
  unfold gnomonlaw03_awake.t gnomonlaw03_awake.D1.t
  have d1 : digs 1 = [1] := digs1 (by decide) (by decide)
  have d2 : digs 2 = [2] := digs1 (by decide) (by decide)
  have d3 : digs 3 = [3] := digs1 (by decide) (by decide)
  have d7 : digs 7 = [7] := digs1 (by decide) (by decide)
  have e1 : quoS [7] [3] = ([2], [1], 0) := by
    have := quoS_d (X := 7) (Y := 3) (by rw [d7]; decide) (by rw [d3]; decide) (by decide)
    rw [d7, d3, show 7 / 3 = 2 by rfl, show 7 % 3 = 1 by rfl, d2, d1] at this
    exact this
  have r7 : rootN 7 = 2 := rootN_uniq (by decide) (by decide)
  have e2 : rootS [7] = ([2], [3], 0) := by
    unfold rootS
    have f : Frm [7] := by rw [← d7]; exact frm_d (by rw [d7]; decide)
    rw [if_pos f, show val [7] = 7 by rfl, r7, show 7 - 2 * 2 = 3 by rfl, d2, d3]
  refine box_intro [7] (by rfl) (by decide) (by decide) fun h1 o1 k1 => ?_
  refine box_intro [3] (by rfl) (by decide) (by decide) fun h2 o2 k2 => ?_
  refine hc_intro (QuoRem_spec ((o1.rd (by decide)).keep k2) (o2.rd (by decide)) rfl rfl) fun v h3 ⟨k3, an⟩ => ?_
  rw [e1] at an
  refine an.elim fun a3 c3 b3 d3 g3 g3' => ?_
  refine box_intro [7] (by rfl) (by decide) (by decide) fun h4 o4 k4 => ?_
  refine hc_intro (Root_spec (o4.rd (by decide)) rfl) fun v h5 ⟨k5, an⟩ => ?_
  rw [e2] at an
  refine an.elim fun a5 c5 b5 d5 g5 g5' => ?_
  refine c_ne (fun hh => absurd rfl hh) fun _ => ?_
  refine c_ne (fun hh => absurd rfl hh) fun _ => ?_
  refine c_ne (fun hh => absurd rfl hh) fun _ => ?_
  refine c_ne (fun hh => absurd rfl hh) fun _ => ?_
  refine c_ne (fun hh => absurd rfl hh) fun _ => ?_
  refine c_ne (fun hh => absurd rfl hh) fun _ => ?_
  unfold gnomonlaw03_awake.D2.t
  have k45 := k4.trans k5
  refine at_intro (g3.keep k45).rd64 (j := 0) rfl rfl (by decide) ?_
  refine c_eq (fun _ => ?_) fun hh => absurd rfl hh
  refine at_intro (g3'.keep k45).rd64 (j := 0) rfl rfl (by decide) ?_
  refine c_eq (fun _ => ?_) fun hh => absurd rfl hh
  refine at_intro g5.rd64 (j := 0) rfl rfl (by decide) ?_
  refine c_eq (fun _ => ?_) fun hh => absurd rfl hh
  refine at_intro g5'.rd64 (j := 0) rfl rfl (by decide) ?_
  exact ⟨k1.trans (k2.trans (k3.trans k45)), rfl⟩
end Go.Proofs.Ytdpkfipkjdlmlaa.G

/- Read of decimal digits, the program's and the document's. -/
namespace Go.Proofs.Ytdpkfipkjdlmlaa.G
open Go.Gv
set_option maxRecDepth 100000
set_option linter.unusedVariables false
def readS (s : ByteArray) : List Nat × Int := if 4900 < s.size then ([], 7) else if s.size = 0 then ([], 8) else if (byt s).all isD = true then (digs (num (byt s)), 0) else ([], 8)
theorem readS_no {s : ByteArray} {i : Nat} (h1 : s.size ≤ 4900) (hi : i < s.size) (h : ¬ (48 ≤ (byt s).getD i 0 ∧ (byt s).getD i 0 ≤ 57)) : readS s = ([], 8) := by
  unfold readS
  rw [if_neg (by omega), if_neg (by omega), if_neg]
  intro ha
  have hl : i < (byt s).length := by rw [byt_len]; exact hi
  have := List.all_eq_true.mp ha ((byt s).getD i 0) (by
    have e : (byt s).getD i 0 = (byt s)[i] := by simp [List.getD, hl]
    rw [e]; exact List.getElem_mem hl)
  simp only [isD, decide_eq_true_eq] at this
  exact h this
theorem readS_yes {s : ByteArray} (h1 : s.size ≤ 4900) (h0 : s.size ≠ 0) (h : ∀ b ∈ byt s, isD b = true) : readS s = (digs (num (byt s)), 0) := by
  unfold readS
  rw [if_neg (by omega), if_neg h0, if_pos (List.all_eq_true.mpr h)]
theorem take_all {s : ByteArray} : (byt s).take s.size = byt s := by rw [← byt_len]; exact List.take_length
theorem digit_snoc {s : ByteArray} {i : Nat} (hi : i < s.size) (hd : ∀ b ∈ (byt s).take i, isD b = true) (h : 48 ≤ (byt s).getD i 0 ∧ (byt s).getD i 0 ≤ 57) : ∀ b ∈ (byt s).take (i + 1), isD b = true := by
  intro b hb
  rw [take_byt (by rw [byt_len]; exact hi)] at hb
  rcases List.mem_append.mp hb with h1 | h1
  · exact hd b h1
  · rw [List.mem_singleton.mp h1]; exact decide_eq_true h
theorem num_bound {s : ByteArray} (h1 : s.size ≤ 4900) {i : Nat} (hi : i ≤ s.size) (hd : ∀ b ∈ (byt s).take i, isD b = true) : num ((byt s).take i) < 10 ^ i := by
  have := num_lt hd i (by rw [List.length_take, byt_len]; omega)
  rwa [List.take_take, Nat.min_self] at this
/-! ### the document's -/
theorem Number_walk {R : Rt} {s : ByteArray} {h0 : Hp} (hs : s.size ≤ 4900) (hd : ∀ b ∈ byt s, isD b = true) (post : ∀ v h', Keep h0 h' → sD h0 h' v (num (byt s)) → R v h') :
    ∀ (k i : Nat) (a : Option Addr) (c : Nat) (h : Hp), i + k = s.size → GotE eU32 h0 h a c (D.digs (num ((byt s).take i))) → Keep h0 h →
      gnomonref03_Number.L4.t R (k + 1) s a (D.digs (num ((byt s).take i))).length c (i : Int) h := by
  intro k
  induction k with
  | zero =>
    intro i a c h hi g kp
    unfold gnomonref03_Number.L4.t gnomonref03_Number.D5.t
    refine c_dec (fun hb => absurd hb (by omega)) fun _ => ?_
    unfold gnomonref03_Number.D2.t
    have e : i = s.size := by omega
    subst e
    rw [take_all] at g ⊢
    exact post _ _ kp ⟨a, c, rfl, g⟩
  | succ k ih =>
    intro i a c h hi g kp
    have hl : i < (byt s).length := by rw [byt_len]; omega
    have hx := hd ((byt s).getD i 0) (by
      have e : (byt s).getD i 0 = (byt s)[i] := by simp [List.getD, hl]
      rw [e]; exact List.getElem_mem hl)
    simp only [isD, decide_eq_true_eq] at hx
    have hb := num_bound hs (i := i) (by omega) (fun b hb => hd b (List.mem_of_mem_take hb))
    unfold gnomonref03_Number.L4.t gnomonref03_Number.D5.t
    refine c_dec (fun _ => ?_) fun hb => absurd (by omega) hb
    refine idxS_at rfl (by omega) ?_
    refine letK_out ?_
    refine letK_out ?_
    have e1 : IntKind.u8.wrap (((byt s).getD i 0 : Nat) - 48 : Int) = (((byt s).getD i 0 - 48 : Nat) : Int) := by
      simp only [IntKind.wrap, IntKind.bits, IntKind.signed, Bool.false_and, Bool.false_eq_true, if_false]
      omega
    rw [e1]
    have e2 : IntKind.u32.wrap (((byt s).getD i 0 - 48 : Nat) : Int) = (((byt s).getD i 0 - 48 : Nat) : Int) := by
      simp only [IntKind.wrap, IntKind.bits, IntKind.signed, Bool.false_and, Bool.false_eq_true, if_false]
      omega
    rw [e2]
    have hlen : (D.digs (num ((byt s).take i))).length ≤ 1099511627776 := ddigs_10 hb (by omega)
    refine hc_intro (rMulSmall_spec (w := 10) (z := (byt s).getD i 0 - 48) g.rd rfl rfl rfl (by decide) (by omega) (by omega)) fun v h2 ⟨k2, s2⟩ => ?_
    rw [D.val_digs, ← num_take hl] at s2
    refine s2.elim fun a2 c2 g2 => ?_
    refine k_i64 ((i + 1 : Nat) : Int) (by omega) (by omega) (by omega) ?_
    exact ih (i + 1) a2 c2 h2 (by omega) (g2.from kp.le) (kp.trans k2)
theorem Number_spec {s : ByteArray} {h : Hp} (hs : s.size ≤ 4900) (hd : ∀ b ∈ byt s, isD b = true) : HC gnomonref03_Number.id #[.string s] h fun v h' => Keep h h' ∧ sD h h' v (num (byt s)) := by
  refine gnomonref03_Number.ok ?_
  unfold gnomonref03_Number.t gnomonref03_Number.D1.t
  refine hc_intro (rWord_spec (x := 0) (w := 0) rfl (by decide) h) fun v h1 ⟨k1, s1⟩ => ?_
  refine s1.elim fun a1 c1 g1 => ?_
  unfold gnomonref03_Number.D3.t
  refine ⟨s.size + 1, ?_⟩
  exact Number_walk hs hd (fun v h' k s => ⟨k, s⟩) s.size 0 a1 c1 h1 (by omega) g1 k1
theorem DocRead_walk {R : Rt} {s : ByteArray} {h : Hp} (hs : s.size ≤ 4900) (h0 : s.size ≠ 0) (post : ∀ v h', Keep h h' → Ans h h' v (readS s) → R v h') :
    ∀ (k i : Nat), i + k = s.size → (∀ b ∈ (byt s).take i, isD b = true) → gnomonref03_DocRead.L4.t R (k + 1) s (i : Int) h := by
  intro k
  induction k with
  | zero =>
    intro i hi hd
    unfold gnomonref03_DocRead.L4.t gnomonref03_DocRead.D5.t
    refine c_dec (fun hb => absurd hb (by omega)) fun _ => ?_
    unfold gnomonref03_DocRead.D2.t
    have e : i = s.size := by omega
    subst e
    rw [take_all] at hd
    refine hc_intro (Number_spec hs hd) fun v h1 ⟨k1, s1⟩ => ?_
    refine s1.elim fun a1 c1 g1 => ?_
    refine hc_intro (To_spec g1.rd rfl) fun v h2 ⟨k2, s2⟩ => ?_
    refine AnsS.elimG s2 fun a2 c2 g2 => ?_
    refine post _ _ (k1.trans k2) ?_
    have e := readS_yes hs h0 hd
    exact Ans.mk (by rw [e]) (by rw [e]) (by rw [e]; exact g2.from k1.le) (by rw [e]; exact (by decide : In .i64 0))
  | succ k ih =>
    intro i hi hd
    have no : ¬ (48 ≤ (byt s).getD i 0 ∧ (byt s).getD i 0 ≤ 57) → R (.tuple #[.slice none 0 0, .int .i64 8]) h := fun hx => by
      refine post _ _ (Keep.refl _) ?_
      rw [readS_no hs (by omega) hx]; exact Ans.none
    unfold gnomonref03_DocRead.L4.t gnomonref03_DocRead.D5.t
    refine c_dec (fun _ => ?_) fun hb => absurd (by omega) hb
    refine idxS_at rfl (by omega) ?_
    refine c_dec (fun hb => no (by omega)) fun h1 => ?_
    refine idxS_at rfl (by omega) ?_
    refine c_dec (fun hb => no (by omega)) fun h2 => ?_
    refine k_i64 ((i + 1 : Nat) : Int) (by omega) (by omega) (by omega) ?_
    exact ih (i + 1) (by omega) (digit_snoc (by omega) hd (by omega))
theorem readS_long {s : ByteArray} (h : 4900 < s.size) : readS s = ([], 7) := if_pos h
theorem readS_nil {s : ByteArray} (h : s.size = 0) : readS s = ([], 8) := by unfold readS; rw [if_neg (by omega), if_pos h]
theorem DocRead_spec (s : ByteArray) (h : Hp) : HC gnomonref03_DocRead.id #[.string s] h fun v h' => Keep h h' ∧ Ans h h' v (readS s) := by
  refine gnomonref03_DocRead.ok ?_
  unfold gnomonref03_DocRead.t gnomonref03_DocRead.D1.t
  refine c_dec (fun hb => ?_) fun hb => ?_
  · exact ⟨Keep.refl _, by rw [readS_long (by omega)]; exact Ans.none⟩
  refine c_str (fun e => ?_) fun e => ?_
  · exact ⟨Keep.refl _, by rw [readS_nil (by rw [e]; rfl)]; exact Ans.none⟩
  have h0 : s.size ≠ 0 := fun hh => e (ByteArray.ext (Array.eq_empty_of_size_eq_zero hh))
  unfold gnomonref03_DocRead.D3.t
  refine ⟨s.size + 1, ?_⟩
  exact DocRead_walk (by omega) h0 (fun v h' k a => ⟨k, a⟩) s.size 0 (by omega) (by simp)
/-! ### the program's -/
theorem wrap_i32 {x : Int} (h1 : -2147483648 ≤ x) (h2 : x < 2147483648) : IntKind.i32.wrap x = x := by
  have e1 : (2 : Int) ^ 32 = 4294967296 := by decide
  have e2 : (2 : Int) ^ (32 - 1) = 2147483648 := by decide
  simp only [IntKind.wrap, IntKind.bits, IntKind.signed, Bool.true_and, e1, e2]
  by_cases hx : x % 4294967296 ≥ 2147483648
  · rw [if_pos (by simpa using hx)]; omega
  · rw [if_neg (by simpa using hx)]; omega
theorem pow19 {j : Nat} (h : j ≤ 19) : 10 ^ j ≤ 10000000000000000000 := Nat.le_trans (Nat.pow_le_pow_right (by decide) h) (show 10 ^ 19 ≤ 10000000000000000000 by decide)
theorem Read_flush {K : Option Addr → Nat → Nat → Hp → Prop} {h0 h : Hp} {a : Option Addr} {c A w p T : Nat} (g : GotE eU64 h0 h a c (digs A)) (kp : Keep h0 h) (hp0 : 0 < p) (hp : p < 18446744073709551616) (hw : w < 18446744073709551616) (eT : A * p + w = T) (hT : (digs T).length ≤ 8192)
    (post : ∀ a' c' h', GotE eU64 h0 h' a' c' (digs T) → Keep h h' → K a' (digs T).length c' h') :
    HC nat_MulWord.id #[.slice a (digs A).length c, .int .u64 (p : Int)] h fun v10 h11 =>
      gTup v10 fun y12 => uncons y12 fun v13 y13 => gSlice v13 fun a_14 l_14 c_14 => uncons y13 fun v15 y15 => gInt .i64 v15 fun x_16 => unnil y15 <|
        HC nat_Word.id #[.int .u64 (w : Int)] h11 fun v17 h18 => gSlice v17 fun a_19 l_19 c_19 =>
          HC nat_Add.id #[.slice a_14 l_14 c_14, .slice a_19 l_19 c_19] h18 fun v20 h21 =>
            gTup v20 fun y22 => uncons y22 fun v23 y23 => gSlice v23 fun a_24 l_24 c_24 => uncons y23 fun v25 y25 => gInt .i64 v25 fun x_26 => unnil y25 <| K a_24 l_24 c_24 h21 := by
  subst eT
  have hA : (digs A).length ≤ 8192 := Nat.le_trans (digs_len_mono (by
    calc A = A * 1 := (Nat.mul_one _).symm
      _ ≤ A * p := Nat.mul_le_mul_left _ hp0
      _ ≤ A * p + w := Nat.le_add_right _ _)) hT
  have hAp : (digs (A * p)).length ≤ 8192 := Nat.le_trans (digs_len_mono (Nat.le_add_right _ _)) hT
  have hww : (digs w).length ≤ 8192 := Nat.le_trans (digs_len_mono (Nat.le_add_left _ _)) hT
  refine hc_intro (MulWord_spec g.rd64 rfl hp) fun v h1 ⟨k1, an⟩ => ?_
  rw [mulWS_d hA hAp] at an
  refine an.elimG fun a1 c1 g1 _ => ?_
  refine hc_intro (Word_spec hw h1) fun v h2 ⟨k2, an⟩ => ?_
  refine an.elimG fun a2 c2 g2 => ?_
  refine hc_intro (Add_spec (g1.keep k2).rd64 g2.rd64 rfl rfl) fun v h3 ⟨k3, an⟩ => ?_
  rw [addS_d hAp hww hT] at an
  refine an.elimG fun a3 c3 g3 _ => ?_
  exact post a3 c3 h3 (g3.from (Nat.le_trans kp.le (Nat.le_trans k1.le k2.le))) (k1.trans (k2.trans k3))
theorem Read_walk {R : Rt} {s : ByteArray} {h0 : Hp} {b : Nat} (hb : h0.size ≤ b) (hs : s.size ≤ 4900) (hs0 : s.size ≠ 0) (post : ∀ v h', Keep h0 h' → Ans h0 h' v (readS s) → R v h') :
    ∀ (k i j p A w : Nat) (a : Option Addr) (c : Nat) (h : Hp), i + k = s.size → j < 19 → (k = 0 → j = 0) → p = 10 ^ j → (∀ b ∈ (byt s).take i, isD b = true) → A * p + w = num ((byt s).take i) → w < p → h[b]? = some (.stringIter s i) →
      GotE eU64 h0 h a c (digs A) → Keep h0 h → natdiv_Read.L4.t R (k + 1) s a (digs A).length c (w : Int) (p : Int) ⟨b, 0, none⟩ h := by
  intro k
  induction k with
  | zero =>
    intro i j p A w a c h hi hj hj0 hp hd e hw it g kp
    unfold natdiv_Read.L4.t natdiv_Read.D5.t
    refine nx_intro it (fun _ => ?_) (fun h' h1 => absurd h1 (by omega)) (fun h' c h1 => absurd h1 (by omega))
    have e0 : i = s.size := by omega
    subst e0
    have ej := hj0 rfl
    subst ej
    subst hp
    rw [take_all] at hd e
    have ew : w = 0 := by rw [Nat.pow_zero] at hw; omega
    subst ew
    rw [Nat.pow_zero, Nat.mul_one, Nat.add_zero] at e
    subst e
    unfold natdiv_Read.D2.t
    have e := readS_yes hs hs0 hd
    exact post _ _ kp (Ans.mk (by rw [e]) (by rw [e]) (by rw [e]; exact g) (by rw [e]; exact (by decide : In .i64 0)))
  | succ k ih =>
    intro i j p A w a c h hi hj hj0 hp hd e hw it g kp
    have no : ∀ h', ¬ (48 ≤ (byt s).getD i 0 ∧ (byt s).getD i 0 ≤ 57) → KeepI b h h' → R (.tuple #[.slice none 0 0, .int .i64 8]) h' := fun h' hx k' => by
      refine post _ _ (k'.keep kp hb) ?_
      rw [readS_no hs (by omega) hx]; exact Ans.none
    have hp19 := pow19 (j := j) (by omega)
    have hp18 : 10 ^ (j + 1) ≤ 10000000000000000000 := pow19 (by omega)
    rw [Nat.pow_succ] at hp18
    rw [← hp] at hp19 hp18
    unfold natdiv_Read.L4.t natdiv_Read.D5.t
    refine nx_intro it (fun h1 => absurd h1 (by omega)) (fun h' h1 hx it' k' => ?_) (fun h' r h1 hx hr k' => ?_)
    · refine c_dec (fun hb => no h' (by omega) k') fun h2 => ?_
      refine c_dec (fun hb => no h' (by omega) k') fun h3 => ?_
      have hd' := digit_snoc (i := i) (by omega) hd (by omega)
      have hT := num_bound hs (i := i + 1) (by omega) hd'
      have hn := num_take (bs := byt s) (i := i) (by rw [byt_len]; omega)
      generalize hx' : (byt s).getD i 0 = x at *
      refine k_u64 (w * 10) (by omega) (by omega) ?_
      refine letK_out ?_
      have e1 : IntKind.i32.wrap ((x : Int) - 48) = ((x - 48 : Nat) : Int) := by rw [wrap_i32 (by omega) (by omega)]; omega
      rw [e1]
      refine k_u64 (x - 48) rfl (by omega) ?_
      refine k_u64 (w * 10 + (x - 48)) (by omega) (by omega) ?_
      refine k_u64 (p * 10) (by omega) (by omega) ?_
      have eT : A * (p * 10) + (w * 10 + (x - 48)) = num ((byt s).take (i + 1)) := by
        rw [hn, ← e, Nat.add_mul, Nat.mul_assoc]; omega
      have hTl : (digs (num ((byt s).take (i + 1)))).length ≤ 8192 := digs_10 hT (by omega)
      have flush : HC nat_MulWord.id #[.slice a (digs A).length c, .int .u64 ((p * 10 : Nat) : Int)] h' fun v10 h11 =>
          gTup v10 fun y12 => uncons y12 fun v13 y13 => gSlice v13 fun a_14 l_14 c_14 => uncons y13 fun v15 y15 => gInt .i64 v15 fun x_16 => unnil y15 <|
            HC nat_Word.id #[.int .u64 ((w * 10 + (x - 48) : Nat) : Int)] h11 fun v17 h18 => gSlice v17 fun a_19 l_19 c_19 =>
              HC nat_Add.id #[.slice a_14 l_14 c_14, .slice a_19 l_19 c_19] h18 fun v20 h21 =>
                gTup v20 fun y22 => uncons y22 fun v23 y23 => gSlice v23 fun a_24 l_24 c_24 => uncons y23 fun v25 y25 => gInt .i64 v25 fun x_26 => unnil y25 <| natdiv_Read.L4.t R (k + 1) s a_24 l_24 c_24 0 1 ⟨b, 0, none⟩ h21 := by
        refine Read_flush (g.keepI k') (k'.keep kp hb) (by omega) (by omega) (by omega) eT hTl fun a2 c2 h2 g2 k2 => ?_
        refine ih (i + 1) 0 1 (num ((byt s).take (i + 1))) 0 a2 c2 h2 (by omega) (by decide) (fun _ => rfl) rfl hd' (by rw [Nat.mul_one, Nat.add_zero]) (by decide) ?_ g2 ((k'.keep kp hb).trans k2)
        rw [k2.pre b (by
          rcases Nat.lt_or_ge b h'.size with h4 | h4
          · exact h4
          · rw [Array.getElem?_eq_none h4] at it'; cases it')]
        exact it'
      refine c_eq (fun h4 => flush) fun h4 => ?_
      refine k_i64 ((s.size : Int) - 1) rfl (by omega) (by omega) ?_
      refine c_eq (fun h5 => flush) fun h5 => ?_
      have hj1 : j + 1 < 19 := by
        refine Nat.lt_of_le_of_ne (by omega) fun hh => h4 ?_
        rw [hp, ← Nat.pow_succ, show j.succ = 19 by omega]; decide
      exact ih (i + 1) (j + 1) (p * 10) A (w * 10 + (x - 48)) a c h' (by omega) hj1 (fun hk => absurd hk (by omega)) (by rw [hp, Nat.pow_succ]) hd' eT (by omega) it' (g.keepI k') (k'.keep kp hb)
    · refine c_dec (fun hb => absurd hb (by omega)) fun _ => ?_
      exact c_dec (fun _ => no h' (by omega) k') fun hb => absurd (by omega) hb
theorem Read_spec (s : ByteArray) (h : Hp) : HC natdiv_Read.id #[.string s] h fun v h' => Keep h h' ∧ Ans h h' v (readS s) := by
  refine natdiv_Read.ok ?_
  unfold natdiv_Read.t natdiv_Read.D1.t
  refine c_dec (fun hb => ?_) fun hb => ?_
  · exact ⟨Keep.refl _, by rw [readS_long (by omega)]; exact Ans.none⟩
  refine c_str (fun e => ?_) fun e => ?_
  · exact ⟨Keep.refl _, by rw [readS_nil (by rw [e]; rfl)]; exact Ans.none⟩
  have h0 : s.size ≠ 0 := fun hh => e (ByteArray.ext (Array.eq_empty_of_size_eq_zero hh))
  unfold natdiv_Read.D3.t
  refine rg_intro fun h1 it k1 => ?_
  refine ⟨s.size + 1, ?_⟩
  have := Read_walk (R := fun v h' => Keep h h' ∧ Ans h h' v (readS s)) (Nat.le_refl h.size) (by omega) h0 (fun v h' k a => ⟨k, a⟩) s.size 0 0 1 0 0 none 0 h1 (by omega) (by decide) (fun _ => rfl) rfl (by simp) (by simp [num]) (by decide) it (by rw [digs_zero]; exact GotE.nil _ _) k1
  rw [digs_zero] at this
  exact this
theorem hread_spec (s : ByteArray) (h : Hp) : HC gnomonlaw03_read.id #[.string s] h fun v h' => Keep h h' ∧ v = .bool true := by
  refine gnomonlaw03_read.ok ?_
  unfold gnomonlaw03_read.t gnomonlaw03_read.D1.t
  refine hc_intro (Read_spec s h) fun v h1 ⟨k1, an⟩ => ?_
  refine an.elimG fun a1 c1 g1 _ => ?_
  refine hc_intro (DocRead_spec s h1) fun v h2 ⟨k2, an⟩ => ?_
  refine an.elimG fun a2 c2 g2 _ => ?_
  refine c_eq (fun _ => ?_) fun hh => absurd rfl hh
  refine Same_intro (g1.keep k2).rd64 g2.rd64 rfl rfl ?_
  rw [decide_eq_true rfl]
  exact ⟨k1.trans k2, rfl⟩
end Go.Proofs.Ytdpkfipkjdlmlaa.G

/- strings.Builder over heaps; appends of one byte beside another list. -/
namespace Go.Proofs.Ytdpkfipkjdlmlaa.G
open Go.Gv
set_option maxRecDepth 100000
set_option linter.unusedVariables false
/-- The builder at block b holds the bytes l. -/
def IsB (B b : Nat) (l : List Nat) (h : Hp) : Prop := ∀ w : World, w.heap = h → Lib.IsBuilder 70 5 B b (l.map eU8.enc) w
theorem isb_heap {B b : Nat} {bs : List Value} {w w2 : World} (e : w2.heap = w.heap) (h : Lib.IsBuilder 70 5 B b bs w) : Lib.IsBuilder 70 5 B b bs w2 := by
  unfold Lib.IsBuilder Lib.BuilderAt World.ownsRow at *; rw [e]; exact h
theorem bld_new {h : Hp} {K : Addr → Hp → Prop} (g : ∀ h', IsB h.size h.size [] h' → Keep h h' → K ⟨h.size, 0, none⟩ h') : boxK h 70 T70.zs K := by
  refine g _ (fun w e => Or.inl ⟨Nat.le_refl _, .slice none 0 0, ?_, ?_, ?_⟩) ⟨by simp, fun b hb => ?_⟩
  · rw [e]; simp; rfl
  · exact ⟨rfl, Or.inl ⟨rfl, rfl⟩⟩
  · intro hh; cases hh
  · rw [Array.getElem?_push]; rw [if_neg (by omega)]
theorem BLen_hc {B b : Nat} {l : List Nat} {h : Hp} {R : Value → Hp → Prop} (ib : IsB B b l h) (g : R (.int .i64 (l.length : Int)) h) : HC strings_Builder_Len.id #[.pointer (some ⟨b, 0, none⟩)] h R :=
  fun w hw => (Try.Builder_Len B b _ w (ib w hw)).mono fun e w' ⟨e1, e2⟩ => by
    subst e2
    rw [List.length_map] at e1
    exact ⟨_, e1, Same.refl _, by rw [hw]; exact g⟩
theorem BWrite_hc {h1 h : Hp} {b : Nat} {l : List Nat} {x : Int} {n : Nat} {R : Value → Hp → Prop} (ib : IsB h1.size b l h) (k : Keep h1 h) (hx : x = (n : Int)) (hl : l.length + 1 ≤ 140737488355328)
    (g : ∀ h', IsB h1.size b (l ++ [n]) h' → Keep h1 h' → R .nilIface h') : HC strings_Builder_WriteByte.id #[.pointer (some ⟨b, 0, none⟩), .int .u8 x] h R := by
  subst hx
  intro w hw
  refine (Try.writeByte h1.size b _ (n : Int) w (ib w hw) (by rw [List.length_map]; exact hl) (by rw [hw]; exact k.le)).mono fun e w' ⟨e1, e2, e3⟩ => ?_
  refine ⟨_, e1, ⟨e3.os, e3.tape, e3.output⟩, g w'.heap (fun w2 e => isb_heap e (Or.inr ?_)) ?_⟩
  · have : (l ++ [n]).map eU8.enc = l.map eU8.enc ++ [.int .u8 (n : Int)] := by simp; rfl
    rw [this]; exact e2
  · have h5 := e3.size
    rw [hw] at h5
    exact ⟨Nat.le_trans k.le h5, fun i hi => (e3.block i hi).trans (by rw [hw]; exact k.pre i hi)⟩
theorem BString_hc {h1 h : Hp} {b : Nat} {l : List Nat} {R : Value → Hp → Prop} (ib : IsB h1.size b l h) (k : Keep h1 h) (hl : ∀ x ∈ l, x < 256)
    (g : ∀ h', Keep h1 h' → R (.string (bstr l)) h') : HC strings_Builder_String.id #[.pointer (some ⟨b, 0, none⟩)] h R := by
  intro w hw
  have e : Lib.byteCells (l.map UInt8.ofNat) = l.map eU8.enc := by
    unfold Lib.byteCells
    rw [List.map_map]
    refine List.map_congr_left fun x hx => ?_
    have := hl x hx
    simp [Function.comp, eU8]
    omega
  refine (Try.Builder_String_any h1.size b (l.map UInt8.ofNat) w (by rw [e]; exact ib w hw) (by rw [hw]; exact k.le)).mono fun e w' ⟨e1, e3⟩ => ?_
  have h5 := e3.size
  rw [hw] at h5
  exact ⟨_, e1, ⟨e3.os, e3.tape, e3.output⟩, g w'.heap ⟨Nat.le_trans k.le h5, fun i hi => (e3.block i hi).trans (by rw [hw]; exact k.pre i hi)⟩⟩
/-! ### appends of a byte -/
/-- A list beside a list that grows. -/
structure Beside {α : Type} (E : El α) (h : Hp) (am : Option Addr) (cm : Nat) (ms : List α) (a : Option Addr) : Prop where
  rd : RdE E h am cm ms
  off : ms = [] ∨ ∀ p, am = some p → Off p.block a
theorem Beside.new {α β : Type} {E : El α} {F : El β} {h0 hb h : Hp} {am a : Option Addr} {cm c : Nat} {ms : List α} {xs : List β} (g : GotE E hb h am cm ms) (x : GotE F h0 hb a c xs) : Beside E h am cm ms a := by
  refine ⟨g.rd, ?_⟩
  rcases g.here with ⟨e1, _, _⟩ | ⟨b, rest, e1, e2, _, _⟩
  · exact Or.inl e1
  · refine Or.inr fun p e => ?_
    rw [e1] at e; cases e
    intro q eq
    rcases x.here with ⟨_, e3, _⟩ | ⟨b2, rest2, e3, _, o2, _⟩
    · rw [e3] at eq; cases eq
    · rw [e3] at eq; cases eq
      have := o2.lt
      show b2 ≠ b
      omega
theorem push8 {α : Type} {E : El α} {h0 h : Hp} {a am : Option Addr} {l c cm n : Nat} {x : Int} {xs : List Nat} {ms : List α} (g : GotE eU8 h0 h a c xs) (k0 : Keep h0 h) (hl : l = xs.length) (hx : x = (n : Int)) (hn : n < 256) (hlim : xs.length + 1 ≤ 140737488355328)
    (be : Beside E h am cm ms a) {K : Option Addr → Nat → Nat → Hp → Prop}
    (post : ∀ a' c' h', GotE eU8 h0 h' a' c' (xs ++ [n]) → Keep h0 h' → Beside E h' am cm ms a' → (xs.length + 1 ≤ c → c' = c) → K a' (xs ++ [n]).length c' h') : boxK h 5 [.int .u8 x] fun q h2 => apK h2 5 T5 a l c (.slice (some q) 1 1) K := by
  subst hx
  refine boxE eU8 [n] rfl (fun y hy => by rw [List.mem_singleton.mp hy]; exact hn) fun h2 o2 k2 => ?_
  have r := o2.rd' (c := 1) (by show 1 ≤ 281474976710656; decide) (Nat.le_refl _)
  refine apE3 (g.keep k2) (Nat.le_trans k0.le k2.le) r hl rfl rfl 0 rfl ok8 1 rfl (by decide) (by show _ ≤ 281474976710656; simp; omega) (fun _ => by simp; omega) fun a' c' h' g' kx e1 e2 => ?_
  rw [show xs.length + [n].length = (xs ++ [n]).length by simp]
  refine post a' c' h' g' (kx.keep (k0.trans k2) g.offs) ?_ (fun hc => (e1 (by simpa using hc)).1)
  refine ⟨?_, ?_⟩
  · rcases be.off with e | o
    · subst e; exact RdE.nil _ _ _
    · have r2 := be.rd.keep k2
      refine ⟨r2.len, r2.cap, r2.ok, fun i y hi => ?_⟩
      obtain ⟨p, e, gc⟩ := r2.at_ i y hi
      refine ⟨p, e, ?_⟩
      have hb := cellH_lt gc
      rw [cellH_congr (kx.pre _ hb (by rw [add_block]; exact o p e))]; exact gc
  · rcases be.off with e | o
    · exact Or.inl e
    · cases ms with
      | nil => exact Or.inl rfl
      | cons y ys =>
        refine Or.inr fun p e => ?_
        rcases e2 with e2 | ⟨b, e2, hb⟩
        · rw [e2]; exact o p e
        · intro q eq
          rw [e2] at eq; cases eq
          obtain ⟨p', e', gc⟩ := be.rd.at_ 0 y (by simp)
          rw [e] at e'; cases e'
          have h3 := cellH_lt gc
          rw [add_block] at h3
          have h4 := k2.le
          show b ≠ p.block
          omega
theorem k_u8 {x : Int} (y : Nat) (e : x = (y : Int)) (h : y < 256) {K : Int → Prop} (g : K (y : Int)) : letK (IntKind.u8.wrap x) K := by
  subst e
  refine ⟨?_⟩
  have e : IntKind.u8.wrap (y : Int) = (y : Int) := by
    simp only [IntKind.wrap, IntKind.bits, IntKind.signed, Bool.false_and, Bool.false_eq_true, if_false]
    omega
  rw [e]; exact g
theorem mod10 {n : Nat} {K : Int → Prop} (g : K ((n % 10 : Nat) : Int)) : (10 : Int) ≠ 0 ∧ letK (Int.tmod (n : Int) 10) K := by
  refine ⟨by decide, ?_⟩
  have e : Int.tmod (n : Int) 10 = ((n % 10 : Nat) : Int) := tmod_nat n 10
  rw [e]; exact ⟨g⟩
theorem div10 (n : Nat) : Int.tdiv (n : Int) 10 = ((n / 10 : Nat) : Int) := by
  rw [Int.tdiv_eq_ediv_of_nonneg (by omega)]; rfl
end Go.Proofs.Ytdpkfipkjdlmlaa.G

/- Text: the decimal digits of a natural, the program's and the document's. -/
namespace Go.Proofs.Ytdpkfipkjdlmlaa.G
open Go.Gv
set_option maxRecDepth 100000
set_option linter.unusedVariables false
def textS (xs : List Nat) : ByteArray × Int := if Frm xs then (if 4900 < (txt (val xs)).length then (⟨#[]⟩, 5) else (bstr (txt (val xs)), 0)) else (⟨#[]⟩, 2)
/-! ### the program's -/
theorem Text_inner {R : Rt} {N9 : Option Addr → Nat → Nat → Option Addr → Nat → Nat → Hp → Prop} {h0 : Hp} {aq : Option Addr} {cq lq r0 : Nat} {qs bs0 : List Nat} (hb : bs0.length ≤ 1000000) (hr : r0 < 18446744073709551616)
    (post : ∀ a c h', GotE eU8 h0 h' a c (bs0 ++ lowD 19 r0) → Keep h0 h' → Beside eU64 h' aq cq qs a → N9 aq lq cq a (bs0 ++ lowD 19 r0).length c h') :
    ∀ (k i : Nat) (a : Option Addr) (c : Nat) (h : Hp), i + k = 19 → GotE eU8 h0 h a c (bs0 ++ lowD i r0) → Keep h0 h → Beside eU64 h aq cq qs a →
      natdiv_Text.L14.t R N9 (k + 1) a (bs0 ++ lowD i r0).length c aq lq cq ((r0 / 10 ^ i : Nat) : Int) (i : Int) h := by
  intro k
  induction k with
  | zero =>
    intro i a c h hi g kp be
    unfold natdiv_Text.L14.t natdiv_Text.D15.t
    refine c_dec (fun hb => absurd hb (by omega)) fun _ => ?_
    unfold natdiv_Text.D12.t
    have e : i = 19 := by omega
    subst e
    exact post a c h g kp be
  | succ k ih =>
    intro i a c h hi g kp be
    have hq : r0 / 10 ^ i ≤ r0 := Nat.div_le_self _ _
    have e1 : r0 / 10 ^ (i + 1) = r0 / 10 ^ i / 10 := by rw [Nat.pow_succ, Nat.div_div_eq_div_mul]
    have e2 := lowD_snoc i r0
    have ih := ih (i + 1)
    rw [e1, e2, ← List.append_assoc] at ih
    generalize r0 / 10 ^ i = r at *
    unfold natdiv_Text.L14.t natdiv_Text.D15.t
    refine c_dec (fun _ => ?_) fun hb => absurd (by omega) hb
    refine mod10 ?_
    refine k_u64 (48 + r % 10) (by omega) (by omega) ?_
    refine k_u8 (48 + r % 10) rfl (by omega) ?_
    refine push8 g kp rfl rfl (by omega) (by rw [List.length_append, lowD_len]; omega) be fun a' c' h' g' k' be' _ => ?_
    refine ⟨by decide, ?_⟩
    rw [div10]
    refine k_u64 (r / 10) rfl (by omega) ?_
    refine k_i64 ((i + 1 : Nat) : Int) (by omega) (by omega) (by omega) ?_
    exact ih a' c' h' (by omega) g' k' be'
theorem Text_inner0 {R : Rt} {N9 : Option Addr → Nat → Nat → Option Addr → Nat → Nat → Hp → Prop} {h0 : Hp} {aq : Option Addr} {cq lq r0 : Nat} {qs bs0 : List Nat} (hb : bs0.length ≤ 1000000) (hr : r0 < 18446744073709551616)
    (post : ∀ a c h', GotE eU8 h0 h' a c (bs0 ++ lowD 19 r0) → Keep h0 h' → Beside eU64 h' aq cq qs a → N9 aq lq cq a (bs0 ++ lowD 19 r0).length c h')
    {a : Option Addr} {c : Nat} {h : Hp} (g : GotE eU8 h0 h a c bs0) (kp : Keep h0 h) (be : Beside eU64 h aq cq qs a) : natdiv_Text.L14.t R N9 20 a bs0.length c aq lq cq (r0 : Int) 0 h := by
  have := Text_inner (R := R) (N9 := N9) hb hr post 19 0 a c h rfl (by simpa [lowD] using g) kp be
  simpa [lowD] using this
/-- The builder's loop. -/
theorem Text_build {R : Rt} {h0 h1 : Hp} {ab : Option Addr} {cb b : Nat} {bs : List Nat} (k0 : Keep h0 h1) (r : RdE eU8 h1 ab cb bs) (hl : bs.length ≤ 2000000)
    (post : ∀ h', Keep h1 h' → IsB h1.size b (bs.reverse.dropWhile zz8) h' → natdiv_Text.D3.t R ⟨b, 0, none⟩ h') :
    ∀ (k i : Nat) (h : Hp), i + k = bs.length → Keep h1 h → IsB h1.size b ((bs.reverse.take i).dropWhile zz8) h → natdiv_Text.L5.t R (k + 1) ab bs.length cb ⟨b, 0, none⟩ (bs.length : Int) (i : Int) h := by
  intro k
  induction k with
  | zero =>
    intro i h hi kp ib
    unfold natdiv_Text.L5.t natdiv_Text.D6.t
    refine c_dec (fun hb => absurd hb (by omega)) fun _ => ?_
    rw [List.take_of_length_le (by rw [List.length_reverse]; omega)] at ib
    exact post h kp ib
  | succ k ih =>
    intro i h hi kp ib
    have hj : bs.length - 1 - i < bs.length := by omega
    have er : bs.reverse[i]? = some (bs.getD (bs.length - 1 - i) 0) := by
      rw [List.getElem?_reverse (by omega), getD_some hj]
    have et : bs.reverse.take (i + 1) = bs.reverse.take i ++ [bs.getD (bs.length - 1 - i) 0] := by rw [List.take_add_one, er]; rfl
    have hlen : ((bs.reverse.take i).dropWhile zz8).length + 1 ≤ 140737488355328 := by
      have := (List.dropWhile_sublist zz8 (l := bs.reverse.take i)).length_le
      rw [List.length_take, List.length_reverse] at this
      omega
    unfold natdiv_Text.L5.t natdiv_Text.D6.t
    refine c_dec (fun _ => ?_) fun hb => absurd (by omega) hb
    refine k_i64 ((bs.length : Int) - 1) rfl (by omega) (by omega) ?_
    refine k_i64 (((bs.length - 1 - i : Nat)) : Int) (by omega) (by omega) (by omega) ?_
    refine at8 (r.keep kp) (j := bs.length - 1 - i) rfl rfl hj ?_
    have ih := ih (i + 1)
    rw [et, List.dropWhile_append] at ih
    generalize bs.getD (bs.length - 1 - i) 0 = d at *
    have dz : ∀ {x : Nat}, x ≠ 48 → List.dropWhile zz8 [x] = [x] := fun {x} hx => by
      have : zz8 x = false := by rw [beq_eq_false_iff_ne]; exact hx
      simp [List.dropWhile, this]
    have write : ∀ h2, Keep h1 h2 → IsB h1.size b ((bs.reverse.take i).dropWhile zz8) h2 → ((bs.reverse.take i).dropWhile zz8 = [] → d ≠ 48) →
        HC strings_Builder_WriteByte.id #[.pointer (some ⟨b, 0, none⟩), .int .u8 (d : Int)] h2 fun v23 h24 => letK (IntKind.i64.wrap ((i : Int) + 1)) fun n25 => natdiv_Text.L5.t R (k + 1) ab bs.length cb ⟨b, 0, none⟩ (bs.length : Int) n25 h24 := by
      intro h2 k2 ib2 hd
      refine BWrite_hc ib2 k2 rfl hlen fun h3 ib3 k3 => ?_
      refine k_i64 ((i + 1 : Nat) : Int) (by omega) (by omega) (by omega) ?_
      refine ih h3 (by omega) k3 ?_
      split
      · next he =>
        have he := List.isEmpty_iff.mp he
        rw [he] at ib3
        rw [dz (hd he)]
        exact ib3
      · exact ib3
    refine c_ne (fun hd => write h kp ib fun _ hh => hd (by rw [hh]; rfl)) fun hd => ?_
    refine BLen_hc ib ?_
    refine gInt_intro rfl ?_
    refine c_dec (fun hp => write h kp ib fun he => absurd hp (by rw [he]; decide)) fun hp => ?_
    refine k_i64 ((i + 1 : Nat) : Int) (by omega) (by omega) (by omega) ?_
    refine ih h (by omega) kp ?_
    have he : (bs.reverse.take i).dropWhile zz8 = [] := List.length_eq_zero_iff.mp (by omega)
    rw [he] at ib ⊢
    have hd' : d = 48 := by omega
    subst hd'
    exact ib
theorem Text_end {R : Rt} {h0 h1 : Hp} {ab : Option Addr} {cb m X : Nat} (k0 : Keep h0 h1) (r : RdE eU8 h1 ab cb (lowD m X)) (hm : m ≤ 1000000) (hX : X < 10 ^ m)
    (post : ∀ h', Keep h0 h' → R (.tuple #[.string (if 4900 < (txt X).length then (⟨#[]⟩, 5) else (bstr (txt X), 0) : ByteArray × Int).1, .int .i64 (if 4900 < (txt X).length then (⟨#[]⟩, 5) else (bstr (txt X), 0) : ByteArray × Int).2]) h') :
    natdiv_Text.D2.t R ab (lowD m X).length cb h1 := by
  unfold natdiv_Text.D2.t
  refine bld_new fun h2 ib k2 => ?_
  unfold natdiv_Text.D4.t
  refine ⟨(lowD m X).length + 1, ?_⟩
  have hl := lowD_len m X
  have ib0 : ∀ w : World, w.heap = h2 → Lib.IsBuilder 70 5 h1.size h1.size (([] : List Nat).map eU8.enc) w := ib
  -- the frame begins at h1
  refine Text_build (h0 := h0) (h1 := h1) (b := h1.size) k0 r (by omega) (fun h3 k3 ib3 => ?_) (lowD m X).length 0 h2 (by omega) k2 (by rw [List.take_zero]; exact ib)
  rw [low_strip hX] at ib3
  have htx : ∀ x ∈ (dec X).reverse, x < 256 := fun x hx => by have := dec_digit (List.mem_reverse.mp hx); omega
  unfold natdiv_Text.D3.t
  refine BLen_hc ib3 ?_
  refine gInt_intro rfl ?_
  refine c_eq (fun hz => ?_) fun hz => ?_
  · have e : X = 0 := by
      refine dec_nil.mp (List.length_eq_zero_iff.mp ?_)
      rw [List.length_reverse] at hz; omega
    subst e
    have := post h3 (k0.trans k3)
    have e2 : (txt 0).length = 1 := by rfl
    rw [if_neg (by rw [e2]; decide)] at this
    exact this
  · have e : X ≠ 0 := fun hh => hz (by rw [hh, dec_zero]; rfl)
    have et : (dec X).reverse = txt X := by unfold txt; rw [if_neg e]
    rw [et] at ib3 hz htx
    refine BLen_hc ib3 ?_
    refine gInt_intro rfl ?_
    refine c_dec (fun hp => ?_) fun hp => ?_
    · have := post h3 (k0.trans k3)
      rw [if_pos (by omega)] at this
      exact this
    · refine BString_hc ib3 k3 htx fun h4 k4 => ?_
      refine gStr_intro rfl ?_
      have := post h4 (k0.trans k4)
      rw [if_neg (by omega)] at this
      exact this
theorem Text_outer {R : Rt} {h0 : Hp} {X M : Nat} (hX : (digs X).length ≤ 8192) (hM : M ≤ 40000) (hX2 : X < 10 ^ M)
    (post : ∀ h', Keep h0 h' → R (.tuple #[.string (if 4900 < (txt X).length then (⟨#[]⟩, 5) else (bstr (txt X), 0) : ByteArray × Int).1, .int .i64 (if 4900 < (txt X).length then (⟨#[]⟩, 5) else (bstr (txt X), 0) : ByteArray × Int).2]) h') :
    ∀ (n t : Nat) (a0 : Option Addr) (c0 : Nat) (a : Option Addr) (c : Nat) (h : Hp), X / 10 ^ (19 * t) < 10 ^ (19 * n) → t ≤ 40000 → Beside eU64 h a0 c0 (digs (X / 10 ^ (19 * t))) a → GotE eU8 h0 h a c (lowD (19 * t) X) → Keep h0 h →
      natdiv_Text.L9.t R (n + 1) a0 (digs (X / 10 ^ (19 * t))).length c0 a (lowD (19 * t) X).length c h := by
  intro n
  induction n with
  | zero =>
    intro t a0 c0 a c h hA ht be g kp
    have e : X / 10 ^ (19 * t) = 0 := by
      rw [Nat.mul_zero, Nat.pow_zero] at hA
      exact Nat.lt_one_iff.mp hA
    rw [e] at be ⊢
    unfold natdiv_Text.L9.t natdiv_Text.D10.t
    rw [digs_zero]
    refine c_dec (fun hb => absurd hb (by decide)) fun _ => ?_
    refine Text_end kp g.rd (by omega) ?_ post
    exact (Nat.div_eq_zero_iff_lt (Nat.pow_pos (by decide))).mp e
  | succ n ih =>
    intro t a0 c0 a c h hA ht be g kp
    have ih := ih (t + 1)
    have e1 : 10 ^ (19 * (t + 1)) = 10 ^ (19 * t) * 10 ^ 19 := by rw [← Nat.pow_add]; rfl
    have e2 : X / 10 ^ (19 * (t + 1)) = X / 10 ^ (19 * t) / 10 ^ 19 := by rw [e1, Nat.div_div_eq_div_mul]
    have e3 : lowD (19 * (t + 1)) X = lowD (19 * t) X ++ lowD 19 (X / 10 ^ (19 * t) % 10 ^ 19) := by rw [lowD_mod, ← lowD_add]; rfl
    have hle : X / 10 ^ (19 * t) ≤ X := Nat.div_le_self _ _
    have hA0 : (digs (X / 10 ^ (19 * t))).length ≤ 8192 := Nat.le_trans (digs_len_mono hle) hX
    by_cases e : X / 10 ^ (19 * t) = 0
    · rw [e] at be ⊢
      unfold natdiv_Text.L9.t natdiv_Text.D10.t
      rw [digs_zero]
      refine c_dec (fun hb => absurd hb (by decide)) fun _ => ?_
      refine Text_end kp g.rd (by omega) ?_ post
      exact (Nat.div_eq_zero_iff_lt (Nat.pow_pos (by decide))).mp e
    · have ht1 : t < 40000 := by
        refine Nat.lt_of_not_le fun hh => e ?_
        refine Nat.div_eq_of_lt (Nat.lt_of_lt_of_le hX2 (Nat.pow_le_pow_right (by decide) (by omega)))
      rw [e2, e3] at ih
      have hl := lowD_len (19 * t) X
      have hA' : X / 10 ^ (19 * t) / 10 ^ 19 < 10 ^ (19 * n) := by
        rw [Nat.div_lt_iff_lt_mul (Nat.pow_pos (by decide)), ← Nat.pow_add]; exact hA
      have hp := dl_pos e
      generalize hq : X / 10 ^ (19 * t) = A at *
      unfold natdiv_Text.L9.t natdiv_Text.D10.t
      refine c_dec (fun _ => ?_) fun hb => absurd (by omega) hb
      unfold natdiv_Text.D11.t
      have w0 : (10000000000000000000 : Int) = ((10 ^ 19 : Nat) : Int) := by decide
      rw [w0]
      refine hc_intro (DivWord_spec (w := 10 ^ 19) be.rd.to64 rfl (by decide)) fun v h1 ⟨k1, an⟩ => ?_
      rw [divWS_d hA0 (by decide)] at an
      refine an.elim fun a1 c1 g1 => ?_
      unfold natdiv_Text.D13.t
      refine ⟨20, ?_⟩
      refine Text_inner0 (qs := digs (A / 10 ^ 19)) (r0 := A % 10 ^ 19) (bs0 := lowD (19 * t) X) (by rw [hl]; omega) (Nat.lt_trans (Nat.mod_lt _ (Nat.pow_pos (by decide))) (by decide)) (fun a2 c2 h2 g2 k2 be2 => ?_) (g.keep k1) (kp.trans k1) (Beside.new g1 g)
      exact ih a1 c1 a2 c2 h2 hA' (by omega) be2 g2 k2
theorem Text_spec {a : Option Addr} {c l : Nat} {xs : List Nat} {h : Hp} (r : Rd h a c xs) (hl : l = xs.length) : HC natdiv_Text.id #[.slice a l c] h fun v h' => Keep h h' ∧ v = .tuple #[.string (textS xs).1, .int .i64 (textS xs).2] := by
  subst hl
  refine natdiv_Text.ok ?_
  unfold natdiv_Text.t natdiv_Text.D1.t
  refine hc_intro (Form_spec r rfl) fun v h1 ⟨e1, e2⟩ => ?_
  subst e1; subst e2
  refine gBool_intro rfl ?_
  refine c_not (fun hf => ?_) fun hf => ?_
  · have hf := of_decide_eq_false hf
    unfold textS; rw [if_neg hf]; exact ⟨Keep.refl _, rfl⟩
  have hf := of_decide_eq_true hf
  refine hc_intro (Bits_spec r rfl) fun v h2 ⟨e1, e2⟩ => ?_
  subst e1; subst e2
  refine gInt_intro rfl ?_
  have ex := hf.digs r.words
  have h8 := hf.1
  unfold textS
  rw [if_pos hf]
  generalize val xs = X at *
  subst ex
  refine c_dec (fun hb => ?_) fun hb => ?_
  · have : 4900 < (txt X).length := by
      obtain ⟨m, hm⟩ : ∃ m, m = 4900 := ⟨_, rfl⟩
      obtain ⟨b, hb2⟩ : ∃ b, b = 16278 := ⟨_, rfl⟩
      rw [← hm]
      refine Nat.lt_of_not_le fun hh => ?_
      have h1 := Nat.lt_of_lt_of_le ((txt_len (by omega)).mp hh) (ten_4900 hm hb2)
      have := blen_le.mpr h1
      omega
    rw [if_pos this]; exact ⟨Keep.refl _, rfl⟩
  · obtain ⟨m, hm⟩ : ∃ m, m = 16278 := ⟨_, rfl⟩
    have hX := blen_le.mp (show blen X ≤ m by omega)
    have e0 : X / 10 ^ (19 * 0) = X := by rw [Nat.mul_zero, Nat.pow_zero, Nat.div_one]
    refine ⟨X + 1, ?_⟩
    have := Text_outer (R := fun v h' => Keep h2 h' ∧ v = .tuple #[.string (if 4900 < (txt X).length then (⟨#[]⟩, 5) else (bstr (txt X), 0) : ByteArray × Int).1, .int .i64 (if 4900 < (txt X).length then (⟨#[]⟩, 5) else (bstr (txt X), 0) : ByteArray × Int).2]) (M := m) h8 (by omega) (Nat.lt_of_lt_of_le hX (Nat.pow_le_pow_left (by decide) _)) (fun h' k => ⟨k, rfl⟩) X 0 a c none 0 h2
      (by rw [e0]; exact Nat.lt_of_lt_of_le (Nat.lt_pow_self (by decide)) (Nat.pow_le_pow_right (by decide) (by omega))) (by decide) (by rw [e0]; exact ⟨r.toE, Or.inr fun p e q eq => by cases eq⟩) (GotE.nil _ _) (Keep.refl _)
    rw [e0] at this
    exact this
end Go.Proofs.Ytdpkfipkjdlmlaa.G

/- The document's digits, and its Text; the statement NatdivTexts. -/
namespace Go.Proofs.Ytdpkfipkjdlmlaa.G
open Go.Gv
set_option maxRecDepth 100000
set_option linter.unusedVariables false
theorem Dig_inner {R : Rt} {N14 : Option Addr → Nat → Nat → Option Addr → Nat → Nat → Hp → Prop} {h0 : Hp} {aq : Option Addr} {cq lq r0 : Nat} {qs bs0 : List Nat} (hb : bs0.length ≤ 1000000) (hr : r0 < 4294967296)
    (post : ∀ a c h', GotE eU8 h0 h' a c (bs0 ++ lowD 9 r0) → Keep h0 h' → Beside eU32 h' aq cq qs a → N14 a (bs0 ++ lowD 9 r0).length c aq lq cq h') :
    ∀ (k i : Nat) (a : Option Addr) (c : Nat) (h : Hp), i + k = 9 → GotE eU8 h0 h a c (bs0 ++ lowD i r0) → Keep h0 h → Beside eU32 h aq cq qs a →
      gnomonref03_Digits.L19.t R N14 (k + 1) a (bs0 ++ lowD i r0).length c aq lq cq ((r0 / 10 ^ i : Nat) : Int) (i : Int) h := by
  intro k
  induction k with
  | zero =>
    intro i a c h hi g kp be
    unfold gnomonref03_Digits.L19.t gnomonref03_Digits.D20.t
    refine c_dec (fun hb => absurd hb (by omega)) fun _ => ?_
    unfold gnomonref03_Digits.D17.t
    have e : i = 9 := by omega
    subst e
    exact post a c h g kp be
  | succ k ih =>
    intro i a c h hi g kp be
    have hq : r0 / 10 ^ i ≤ r0 := Nat.div_le_self _ _
    have e1 : r0 / 10 ^ (i + 1) = r0 / 10 ^ i / 10 := by rw [Nat.pow_succ, Nat.div_div_eq_div_mul]
    have e2 := lowD_snoc i r0
    have ih := ih (i + 1)
    rw [e1, e2, ← List.append_assoc] at ih
    generalize r0 / 10 ^ i = r at *
    unfold gnomonref03_Digits.L19.t gnomonref03_Digits.D20.t
    refine c_dec (fun _ => ?_) fun hb => absurd (by omega) hb
    refine mod10 ?_
    refine k_u32 (48 + r % 10) (by omega) (by omega) ?_
    refine k_u8 (48 + r % 10) rfl (by omega) ?_
    refine push8 g kp rfl rfl (by omega) (by rw [List.length_append, lowD_len]; omega) be fun a' c' h' g' k' be' _ => ?_
    refine ⟨by decide, ?_⟩
    rw [div10]
    refine k_u32 (r / 10) rfl (by omega) ?_
    refine k_i64 ((i + 1 : Nat) : Int) (by omega) (by omega) (by omega) ?_
    exact ih a' c' h' (by omega) g' k' be'
theorem Dig_inner0 {R : Rt} {N14 : Option Addr → Nat → Nat → Option Addr → Nat → Nat → Hp → Prop} {h0 : Hp} {aq : Option Addr} {cq lq r0 : Nat} {qs bs0 : List Nat} (hb : bs0.length ≤ 1000000) (hr : r0 < 4294967296)
    (post : ∀ a c h', GotE eU8 h0 h' a c (bs0 ++ lowD 9 r0) → Keep h0 h' → Beside eU32 h' aq cq qs a → N14 a (bs0 ++ lowD 9 r0).length c aq lq cq h')
    {a : Option Addr} {c : Nat} {h : Hp} (g : GotE eU8 h0 h a c bs0) (kp : Keep h0 h) (be : Beside eU32 h aq cq qs a) : gnomonref03_Digits.L19.t R N14 10 a bs0.length c aq lq cq (r0 : Int) 0 h := by
  have := Dig_inner (R := R) (N14 := N14) hb hr post 9 0 a c h rfl (by simpa [lowD] using g) kp be
  simpa [lowD] using this
/-- The digits turned round. -/
theorem Dig_turn {R : Rt} {h0 h1 : Hp} {al : Option Addr} {cl m : Nat} {ds : List Nat} (k0 : Keep h0 h1) (hl : ds.length ≤ 2000000) (post : ∀ h', Keep h1 h' → R (.string (bstr ds.reverse)) h') :
    ∀ (k i : Nat) (a : Option Addr) (c : Nat) (h : Hp), i + k = ds.length → GotE eU8 h1 h a c (ds.reverse.take i) → Keep h1 h → Beside eU8 h al cl ds a →
      gnomonref03_Digits.L5.t R (k + 1) al ds.length cl a (ds.reverse.take i).length c ((ds.length : Int) - 1 - (i : Int)) h := by
  intro k
  induction k with
  | zero =>
    intro i a c h hi g kp be
    unfold gnomonref03_Digits.L5.t gnomonref03_Digits.D6.t
    refine c_dec (fun hb => absurd hb (by omega)) fun _ => ?_
    unfold gnomonref03_Digits.D3.t
    refine b2s_intro g.rd rfl ?_
    rw [List.take_of_length_le (by rw [List.length_reverse]; omega)]
    exact post h kp
  | succ k ih =>
    intro i a c h hi g kp be
    have hj : ds.length - 1 - i < ds.length := by omega
    have er : ds.reverse[i]? = some (ds.getD (ds.length - 1 - i) 0) := by
      rw [List.getElem?_reverse (by omega), getD_some hj]
    have et : ds.reverse.take (i + 1) = ds.reverse.take i ++ [ds.getD (ds.length - 1 - i) 0] := by rw [List.take_add_one, er]; rfl
    have hw := be.rd.word8 (ds.length - 1 - i)
    unfold gnomonref03_Digits.L5.t gnomonref03_Digits.D6.t
    refine c_dec (fun _ => ?_) fun hb => absurd (by omega) hb
    refine at8 be.rd (j := ds.length - 1 - i) (by omega) rfl hj ?_
    have ih := ih (i + 1)
    rw [et] at ih
    generalize ds.getD (ds.length - 1 - i) 0 = d at *
    refine push8 g kp rfl rfl hw (by rw [List.length_take]; omega) be fun a' c' h' g' k' be' _ => ?_
    refine k_i64 ((ds.length : Int) - 1 - ((i + 1 : Nat) : Int)) (by omega) (by omega) (by omega) ?_
    exact ih a' c' h' (by omega) g' k' be'
theorem Dig_trim {R : Rt} {h0 h1 : Hp} {al : Option Addr} {X : Nat} (k0 : Keep h0 h1) (hX : X ≠ 0) (post : ∀ h', Keep h1 h' → R (.string (bstr (txt X))) h') :
    ∀ (k : Nat) (l : List Nat) (cl : Nat), l.length ≤ k → k ≤ 2000000 → RdE eU8 h1 al cl l → l.reverse.dropWhile zz8 = (dec X).reverse → gnomonref03_Digits.L9.t R (k + 1) al l.length cl h1 := by
  intro k
  induction k with
  | zero =>
    intro l cl hk _ r e
    have : l = [] := List.length_eq_zero_iff.mp (by omega)
    subst this
    have : dec X = [] := by simpa using e.symm
    exact absurd (dec_nil.mp this) hX
  | succ k ih =>
    intro l cl hk hk2 r e
    have hne : l ≠ [] := fun hh => by
      subst hh
      have : dec X = [] := by simpa using e.symm
      exact hX (dec_nil.mp this)
    have hlen : l.length ≠ 0 := fun hh => hne (List.length_eq_zero_iff.mp hh)
    have hj : l.length - 1 < l.length := by omega
    have el : l = l.take (l.length - 1) ++ [l.getD (l.length - 1) 0] := by
      have h1 := take_byt hj
      rw [show l.length - 1 + 1 = l.length by omega, List.take_length] at h1
      exact h1
    unfold gnomonref03_Digits.L9.t gnomonref03_Digits.D10.t
    refine k_i64 ((l.length : Int) - 1) rfl (by omega) (by omega) ?_
    refine at8 r (j := l.length - 1) (by omega) rfl hj ?_
    refine c_eq (fun hz => ?_) fun hz => ?_
    · refine k_i64 ((l.length : Int) - 1) rfl (by omega) (by omega) ?_
      have hc := r.cap
      refine sl_to (n := l.length - 1) (by omega) (by omega) ?_
      have := ih (l.take (l.length - 1)) cl (by rw [List.length_take]; omega) (by omega) (r.take _) (by
        rw [← e]
        conv => rhs; rw [el]
        have h48 : l.getD (l.length - 1) 0 = 48 := by omega
        rw [List.reverse_append, h48]; rfl)
      rw [List.length_take, Nat.min_eq_left (by omega)] at this
      exact this
    · have ez : zz8 (l.getD (l.length - 1) 0) = false := by rw [beq_eq_false_iff_ne]; omega
      have e2 : l.reverse.dropWhile zz8 = l.reverse := by
        conv => lhs; rw [el]
        conv => rhs; rw [el]
        rw [List.reverse_append]
        show List.dropWhile zz8 (l.getD (l.length - 1) 0 :: (l.take (l.length - 1)).reverse) = _
        rw [List.dropWhile_cons, ez]; rfl
      rw [e2] at e
      have e3 : l = dec X := List.reverse_inj.mp e
      have et : l.reverse = txt X := by unfold txt; rw [if_neg hX, e3]
      have hl8 := r.len8
      unfold gnomonref03_Digits.D2.t
      refine mkE eU8 0 0 l.length rfl ok8 1 rfl (by decide) rfl rfl (by omega) (by omega) fun h2 o2 k2 => ?_
      rw [Int.toNat_natCast]
      unfold gnomonref03_Digits.D4.t
      refine k_i64 ((l.length : Int) - 1) rfl (by omega) (by omega) ?_
      refine ⟨l.length + 1, ?_⟩
      have g0 : GotE eU8 h1 h2 (some ⟨h1.size, 0, none⟩) l.length [] := BlkE.got (xs := []) (rest := List.replicate l.length 0) (by simpa using o2) (Nat.le_refl _) (by simp) (by simp) (by simp)
      have be : Beside eU8 h2 al cl l (some ⟨h1.size, 0, none⟩) := by
        refine ⟨r.keep k2, Or.inr fun p ep q eq => ?_⟩
        cases eq
        obtain ⟨p', e', gc⟩ := r.at_ 0 _ (getD_some (by omega : 0 < l.length))
        rw [ep] at e'; cases e'
        have h3 := cellH_lt gc
        rw [add_block] at h3
        show h1.size ≠ p.block
        omega
      have := Dig_turn (R := R) (m := 0) (Keep.refl h1) (by omega) (fun h' k => by rw [et]; exact post h' k) l.length 0 (some ⟨h1.size, 0, none⟩) l.length h2 (by omega) (by simpa using g0) k2 be
      simpa using this
theorem Dig_outer {R : Rt} {h0 : Hp} {X M : Nat} (hX0 : X ≠ 0) (hM : M ≤ 80000) (hX2 : X < 10 ^ M) (post : ∀ h', Keep h0 h' → R (.string (bstr (txt X))) h') :
    ∀ (n t : Nat) (a0 : Option Addr) (c0 : Nat) (a : Option Addr) (c : Nat) (h : Hp), X / 10 ^ (9 * t) < 10 ^ (9 * n) → t ≤ 80000 → Beside eU32 h a0 c0 (D.digs (X / 10 ^ (9 * t))) a → GotE eU8 h0 h a c (lowD (9 * t) X) → Keep h0 h →
      gnomonref03_Digits.L14.t R (n + 1) a (lowD (9 * t) X).length c a0 (D.digs (X / 10 ^ (9 * t))).length c0 h := by
  have fin : ∀ (n t : Nat) (a0 : Option Addr) (c0 : Nat) (a : Option Addr) (c : Nat) (h : Hp), X / 10 ^ (9 * t) = 0 → t ≤ 80000 → GotE eU8 h0 h a c (lowD (9 * t) X) → Keep h0 h →
      gnomonref03_Digits.L14.t R (n + 1) a (lowD (9 * t) X).length c a0 (D.digs (X / 10 ^ (9 * t))).length c0 h := by
    intro n t a0 c0 a c h e ht g kp
    have hl := lowD_len (9 * t) X
    have hlt := (Nat.div_eq_zero_iff_lt (Nat.pow_pos (by decide))).mp e
    rw [e]
    unfold gnomonref03_Digits.L14.t gnomonref03_Digits.D15.t
    refine c_dec (fun hb => absurd hb (by rw [D.digs_zero]; decide)) fun _ => ?_
    refine ⟨9 * t + 1, ?_⟩
    exact Dig_trim (h0 := h0) kp hX0 (fun h' k => post h' (kp.trans k)) (9 * t) _ c (by omega) (by omega) g.rd (low_strip hlt)
  intro n
  induction n with
  | zero =>
    intro t a0 c0 a c h hA ht be g kp
    refine fin 0 t a0 c0 a c h ?_ ht g kp
    rw [Nat.mul_zero, Nat.pow_zero] at hA
    exact Nat.lt_one_iff.mp hA
  | succ n ih =>
    intro t a0 c0 a c h hA ht be g kp
    by_cases e : X / 10 ^ (9 * t) = 0
    · exact fin (n + 1) t a0 c0 a c h e ht g kp
    have ih := ih (t + 1)
    have e1 : 10 ^ (9 * (t + 1)) = 10 ^ (9 * t) * 10 ^ 9 := by rw [← Nat.pow_add]; rfl
    have e2 : X / 10 ^ (9 * (t + 1)) = X / 10 ^ (9 * t) / 10 ^ 9 := by rw [e1, Nat.div_div_eq_div_mul]
    have e3 : lowD (9 * (t + 1)) X = lowD (9 * t) X ++ lowD 9 (X / 10 ^ (9 * t) % 10 ^ 9) := by rw [lowD_mod, ← lowD_add]; rfl
    have ht1 : t < 80000 := by
      refine Nat.lt_of_not_le fun hh => e ?_
      refine Nat.div_eq_of_lt (Nat.lt_of_lt_of_le hX2 (Nat.pow_le_pow_right (by decide) (by omega)))
    rw [e2, e3] at ih
    have hl := lowD_len (9 * t) X
    have hA' : X / 10 ^ (9 * t) / 10 ^ 9 < 10 ^ (9 * n) := by
      rw [Nat.div_lt_iff_lt_mul (Nat.pow_pos (by decide)), ← Nat.pow_add]; exact hA
    have hp : 1 ≤ (D.digs (X / 10 ^ (9 * t))).length := by rw [D.digs_pos e]; simp
    generalize hq : X / 10 ^ (9 * t) = A at *
    unfold gnomonref03_Digits.L14.t gnomonref03_Digits.D15.t
    refine c_dec (fun _ => ?_) fun hb => absurd (by omega) hb
    unfold gnomonref03_Digits.D16.t
    refine hc_intro (rDivSmall_spec (w := 10 ^ 9) be.rd rfl rfl (by decide) (by decide)) fun v h1 ⟨k1, a1, c1, e5, g1⟩ => ?_
    subst e5
    rw [D.val_digs] at g1 ⊢
    refine gTup_intro rfl (uncons_intro (gSlice_intro rfl (uncons_intro (gInt_intro rfl (unnil_intro ?_)))))
    unfold gnomonref03_Digits.D18.t
    refine ⟨10, ?_⟩
    refine Dig_inner0 (qs := D.digs (A / 10 ^ 9)) (r0 := A % 10 ^ 9) (bs0 := lowD (9 * t) X) (by rw [hl]; omega) (Nat.lt_trans (Nat.mod_lt _ (Nat.pow_pos (by decide))) (by decide)) (fun a2 c2 h2 g2 k2 be2 => ?_) (g.keep k1) (kp.trans k1) (Beside.new g1 g)
    exact ih a1 c1 a2 c2 h2 hA' (by omega) be2 g2 k2
theorem Digits_spec {a : Option Addr} {c l X : Nat} {h : Hp} (r : RdE eU32 h a c (D.digs X)) (hl : l = (D.digs X).length) (hX : (D.digs X).length ≤ 1000) :
    HC gnomonref03_Digits.id #[.slice a l c] h fun v h' => Keep h h' ∧ v = .string (bstr (txt X)) := by
  subst hl
  refine gnomonref03_Digits.ok ?_
  unfold gnomonref03_Digits.t gnomonref03_Digits.D1.t
  refine c_eq (fun h0 => ?_) fun h0 => ?_
  · have e : X = 0 := by
      have : (D.digs X).length = 0 := by omega
      have h1 := D.val_digs X
      rw [List.length_eq_zero_iff.mp this] at h1
      exact h1.symm
    subst e; exact ⟨Keep.refl _, rfl⟩
  have hX0 : X ≠ 0 := fun hh => h0 (by rw [hh, D.digs_zero]; rfl)
  unfold gnomonref03_Digits.D13.t
  refine hc_intro (rNorm_spec r rfl) fun v h1 ⟨k1, s1⟩ => ?_
  rw [D.val_digs] at s1
  refine s1.elim fun a1 c1 g1 => ?_
  have e0 : X / 10 ^ (9 * 0) = X := by rw [Nat.mul_zero, Nat.pow_zero, Nat.div_one]
  obtain ⟨m, hm⟩ : ∃ m, m = 32000 := ⟨_, rfl⟩
  obtain ⟨q, hq⟩ : ∃ q, q = 1000 := ⟨_, rfl⟩
  have hlt : X < 10 ^ m := Nat.lt_of_lt_of_le (D.digs_len.mp (show (D.digs X).length ≤ q by omega)) (Nat.le_trans (Nat.pow_le_pow_left (by decide : 2 ≤ 10) _) (Nat.pow_le_pow_right (by decide) (by omega)))
  refine ⟨X + 1, ?_⟩
  have := Dig_outer (R := fun v h' => Keep h h' ∧ v = .string (bstr (txt X))) (h0 := h1) (M := m) hX0 (by omega) hlt (fun h' k => ⟨k1.trans k, rfl⟩) X 0 a1 c1 none 0 h1
    (by rw [e0]; exact Nat.lt_of_lt_of_le (Nat.lt_pow_self (by decide)) (Nat.pow_le_pow_right (by decide) (by omega))) (by decide) (by rw [e0]; exact ⟨g1.rd, Or.inr fun p e q eq => by cases eq⟩) (GotE.nil _ _) (Keep.refl _)
  rw [e0] at this
  exact this
theorem DocText_spec {a : Option Addr} {c l : Nat} {xs : List Nat} {h : Hp} (r : Rd h a c xs) (hl : l = xs.length) : HC gnomonref03_DocText.id #[.slice a l c] h fun v h' => Keep h h' ∧ v = .tuple #[.string (textS xs).1, .int .i64 (textS xs).2] := by
  subst hl
  refine gnomonref03_DocText.ok ?_
  unfold gnomonref03_DocText.t gnomonref03_DocText.D1.t
  refine hc_intro (DocForm_spec r rfl) fun v h1 ⟨e1, e2⟩ => ?_
  subst e1; subst e2
  refine gBool_intro rfl ?_
  refine c_not (fun hf => ?_) fun hf => ?_
  · have hf := of_decide_eq_false hf
    unfold textS; rw [if_neg hf]; exact ⟨Keep.refl _, rfl⟩
  have hf := of_decide_eq_true hf
  have ex := hf.digs r.words
  unfold textS
  rw [if_pos hf]
  refine c_dec (fun hb => ?_) fun hb => ?_
  · have : 4900 < (txt (val xs)).length := by
      obtain ⟨m, hm⟩ : ∃ m, m = 4900 := ⟨_, rfl⟩
      obtain ⟨b, hb2⟩ : ∃ b, b = 16278 := ⟨_, rfl⟩
      rw [← hm]
      refine Nat.lt_of_not_le fun hh => ?_
      have h1 := Nat.lt_of_lt_of_le ((txt_len (by omega)).mp hh) (ten_4900 hm hb2)
      obtain ⟨q, hq⟩ : ∃ q, q = 260 := ⟨_, rfl⟩
      have h2 : (digs (val xs)).length ≤ q := digs_len.mpr (Nat.lt_of_lt_of_le h1 (Nat.pow_le_pow_right (by decide) (by omega)))
      rw [ex] at h2
      omega
    rw [if_pos this]; exact ⟨Keep.refl _, rfl⟩
  · refine hc_intro (From_spec r rfl) fun v h2 ⟨k2, s2⟩ => ?_
    refine s2.elim fun a2 c2 g2 => ?_
    have hD : (D.digs (val xs)).length ≤ 2 * 260 := (dlen_two _ _).mpr (by rw [ex]; omega)
    refine hc_intro (Digits_spec g2.rd rfl (by omega)) fun v h3 ⟨k3, e⟩ => ?_
    subst e
    refine gStr_intro rfl ?_
    refine c_dec (fun hb => ?_) fun hb => ?_
    · rw [bstr_size] at hb
      rw [if_pos (by omega)]; exact ⟨k2.trans k3, rfl⟩
    · rw [bstr_size] at hb
      rw [if_neg (by omega)]; exact ⟨k2.trans k3, rfl⟩
theorem htext_spec {a : Option Addr} {c l : Nat} {xs : List Nat} {h : Hp} (r : Rd h a c xs) (hl : l = xs.length) : HC gnomonlaw03_text.id #[.slice a l c] h fun v h' => Keep h h' ∧ v = .bool true := by
  subst hl
  refine gnomonlaw03_text.ok ?_
  unfold gnomonlaw03_text.t gnomonlaw03_text.D1.t
  refine hc_intro (htwin_spec r rfl) fun v h1 ⟨k1, an⟩ => ?_
  refine AnsS.elim an fun a1 c1 r1 => ?_
  refine hc_intro (Text_spec r1 rfl) fun v h2 ⟨k2, e⟩ => ?_
  subst e
  refine gTup_intro rfl (uncons_intro (gStr_intro rfl (uncons_intro (gInt_intro rfl (unnil_intro ?_)))))
  refine hc_intro (DocText_spec (r.keep (k1.trans k2)) rfl) fun v h3 ⟨k3, e⟩ => ?_
  subst e
  refine gTup_intro rfl (uncons_intro (gStr_intro rfl (uncons_intro (gInt_intro rfl (unnil_intro ?_)))))
  refine c_eq (fun _ => ?_) fun hh => absurd rfl hh
  exact ⟨k1.trans (k2.trans k3), by rw [beq_self_eq_true]⟩
end Go.Proofs.Ytdpkfipkjdlmlaa.G

/- The statement NatdivPlays: every call of a script answers what the document says. -/
namespace Go.Proofs.Ytdpkfipkjdlmlaa.G
open Go.Gv
set_option maxRecDepth 100000
set_option linter.unusedVariables false
abbrev Op3 := Int × (List Nat × (List Nat × (ByteArray × Unit)))
abbrev saysOp3 : Says Op3 := saysCons (saysInt .i64) 1 (saysCons saysWords 1 (saysCons saysWords 1 (saysCons saysStr 1 saysEnd)))
abbrev RdOps3 (h : Hp) (a : Option Addr) (c : Nat) (os : List Op3) : Prop := RdList saysOp3 4 1954687338211 h a c os
theorem saysOp3_lasts : Lasts saysOp3 := saysCons_lasts (saysInt_lasts _) (saysCons_lasts saysWords_lasts (saysCons_lasts saysWords_lasts (saysCons_lasts saysStr_lasts saysEnd_lasts 1) 1) 1) 1
theorem RdOps3.keep {h h' : Hp} {a : Option Addr} {c : Nat} {os : List Op3} (r : RdOps3 h a c os) (k : Keep h h') : RdOps3 h' a c os := RdList.keep saysOp3_lasts r k
theorem op3_open {h : Hp} {q : Addr} {vs : List Value} {o : Op3} (rl : RdL h q 0 vs) (s : saysOp3 h vs o) :
    ∃ a c b d, cellH h (q.add 0) = some (.int .i64 o.1) ∧ cellH h (q.add 1) = some (.slice a o.2.1.length c) ∧ cellH h (q.add 2) = some (.slice b o.2.2.1.length d) ∧ cellH h (q.add 3) = some (.string o.2.2.2.1) ∧
      Rd h a c o.2.1 ∧ Rd h b d o.2.2.1 := by
  obtain ⟨l1, ⟨e1, w1⟩, l2, ⟨a, c, e2, r2, m2⟩, l3, ⟨b, d, e3, r3, m3⟩, l4, ⟨e4, w4⟩, e6⟩ := s
  obtain ⟨v0, v1, v2, v3, rfl⟩ : ∃ v0 v1 v2 v3, vs = [v0, v1, v2, v3] := by
    rw [List.drop_drop] at l2
    rw [List.drop_drop, List.drop_drop] at l3
    rw [List.drop_drop, List.drop_drop, List.drop_drop] at l4 e6
    have e7 : (vs.drop 4).length = 0 := by
      have : vs.drop (1 + 1 + 1 + 1) = [] := e6
      rw [show (4 : Nat) = 1 + 1 + 1 + 1 by rfl, this]; rfl
    simp only [List.length_drop] at l1 l2 l3 l4 e7
    match vs, l1, l2, l3, l4, e7 with
    | [v0, v1, v2, v3], _, _, _, _, _ => exact ⟨v0, v1, v2, v3, rfl⟩
    | [], h1, _, _, _, _ => simp at h1
    | [_], _, h2, _, _, _ => simp at h2
    | [_, _], _, _, h3, _, _ => simp at h3
    | [_, _, _], _, _, _, h4, _ => simp at h4
    | _ :: _ :: _ :: _ :: _ :: _, _, _, _, _, h7 => simp at h7
  simp only [List.take, List.drop, List.cons.injEq, and_true] at e1 e2 e3 e4
  subst e1; subst e2; subst e3; subst e4
  exact ⟨a, c, b, d, rl.1, rl.2.1, rl.2.2.1, rl.2.2.2.1, r2, r3⟩
theorem hquo_spec {a b : Option Addr} {c d l m : Nat} {xs ys : List Nat} {h : Hp} (r : Rd h a c xs) (s : Rd h b d ys) (hl : l = xs.length) (hm : m = ys.length) : HC gnomonlaw03_quoRem.id #[.slice a l c, .slice b m d] h fun v h' => Keep h h' ∧ v = .bool true := by
  subst hl; subst hm
  refine gnomonlaw03_quoRem.ok ?_
  unfold gnomonlaw03_quoRem.t gnomonlaw03_quoRem.D1.t
  refine hc_intro (htwin_spec r rfl) fun v h1 ⟨k1, an⟩ => ?_
  refine AnsS.elim an fun a1 c1 r1 => ?_
  refine hc_intro (htwin_spec (s.keep k1) rfl) fun v h2 ⟨k2, an⟩ => ?_
  refine AnsS.elim an fun a2 c2 r2 => ?_
  refine hc_intro (QuoRem_spec (r1.keep k2) r2 rfl rfl) fun v h3 ⟨k3, an⟩ => ?_
  refine an.elim fun a3 c3 b3 d3 g3 g3' => ?_
  have k03 := k1.trans (k2.trans k3)
  refine hc_intro (DocQuoRem_spec (r.keep k03) (s.keep k03) rfl rfl) fun v h4 ⟨k4, an⟩ => ?_
  refine an.elim fun a4 c4 b4 d4 g4 g4' => ?_
  refine c_eq (fun _ => ?_) fun hh => absurd rfl hh
  refine Same_intro (g3.keep k4).rd64 g4.rd64 rfl rfl ?_
  rw [decide_eq_true rfl]
  simp only [cond_true]
  refine Same_intro (g3'.keep k4).rd64 g4'.rd64 rfl rfl ?_
  rw [decide_eq_true rfl]
  exact ⟨k03.trans k4, rfl⟩
theorem hroot_spec {a : Option Addr} {c l : Nat} {xs : List Nat} {h : Hp} (r : Rd h a c xs) (hl : l = xs.length) : HC gnomonlaw03_root.id #[.slice a l c] h fun v h' => Keep h h' ∧ v = .bool true := by
  subst hl
  refine gnomonlaw03_root.ok ?_
  unfold gnomonlaw03_root.t gnomonlaw03_root.D1.t
  refine hc_intro (htwin_spec r rfl) fun v h1 ⟨k1, an⟩ => ?_
  refine AnsS.elim an fun a1 c1 r1 => ?_
  refine hc_intro (Root_spec r1 rfl) fun v h3 ⟨k3, an⟩ => ?_
  refine an.elim fun a3 c3 b3 d3 g3 g3' => ?_
  have k03 := k1.trans k3
  refine hc_intro (DocRoot_spec (r.keep k03) rfl) fun v h4 ⟨k4, an⟩ => ?_
  refine an.elim fun a4 c4 b4 d4 g4 g4' => ?_
  refine c_eq (fun _ => ?_) fun hh => absurd rfl hh
  refine Same_intro (g3.keep k4).rd64 g4.rd64 rfl rfl ?_
  rw [decide_eq_true rfl]
  simp only [cond_true]
  refine Same_intro (g3'.keep k4).rd64 g4'.rd64 rfl rfl ?_
  rw [decide_eq_true rfl]
  exact ⟨k03.trans k4, rfl⟩
theorem hplays_spec {a b : Option Addr} {c d : Nat} {n : Int} {xs ys : List Nat} {s : ByteArray} {h : Hp} (r : Rd h a c xs) (t : Rd h b d ys) :
    HC gnomonlaw03_plays.id #[.agg #[.int .i64 n, .slice a xs.length c, .slice b ys.length d, .string s]] h fun v h' => Keep h h' ∧ v = .bool true := by
  refine gnomonlaw03_plays.ok ?_
  unfold gnomonlaw03_plays.t gnomonlaw03_plays.D1.t
  refine boxV fun h2 o2 k2 => ?_
  refine ldV o2 (k := 0) rfl ?_
  refine gInt_intro rfl ?_
  refine c_eq (fun _ => ?_) fun _ => c_eq (fun _ => ?_) fun _ => c_eq (fun _ => ?_) fun _ => c_eq (fun _ => ?_) fun _ => ⟨k2, rfl⟩
  · refine ldV o2 (k := 1) rfl ?_
    refine gSlice_intro rfl ?_
    refine ldV o2 (k := 2) rfl ?_
    refine gSlice_intro rfl ?_
    refine hc_intro (hquo_spec (r.keep k2) (t.keep k2) rfl rfl) fun v h3 ⟨k3, e⟩ => ?_
    subst e
    exact gBool_intro rfl ⟨k2.trans k3, rfl⟩
  · refine ldV o2 (k := 1) rfl ?_
    refine gSlice_intro rfl ?_
    refine hc_intro (hroot_spec (r.keep k2) rfl) fun v h3 ⟨k3, e⟩ => ?_
    subst e
    exact gBool_intro rfl ⟨k2.trans k3, rfl⟩
  · refine ldV o2 (k := 1) rfl ?_
    refine gSlice_intro rfl ?_
    refine hc_intro (htext_spec (r.keep k2) rfl) fun v h3 ⟨k3, e⟩ => ?_
    subst e
    exact gBool_intro rfl ⟨k2.trans k3, rfl⟩
  · refine ldV o2 (k := 3) rfl ?_
    refine gStr_intro rfl ?_
    refine hc_intro (hread_spec s h2) fun v h3 ⟨k3, e⟩ => ?_
    subst e
    exact gBool_intro rfl ⟨k2.trans k3, rfl⟩
theorem hall_walk {R : Rt} {N4 : Option Addr → Nat → Nat → Int → Hp → Prop} {a : Option Addr} {c : Nat} {x : Int} {os : List Op3} {h0 : Hp} (r : RdOps3 h0 a c os) (post : ∀ h', Keep h0 h' → gnomonlaw03_NatdivPlays.D6.t R N4 a os.length c x h') :
    ∀ (k i : Nat) (h : Hp), i + k = os.length → Keep h0 h → gnomonlaw03_NatdivPlays.L8.t R N4 (k + 1) a os.length c x a os.length c (os.length : Int) (i : Int) h := by
  have h1 : os.length ≤ 1954687338211 := r.len
  intro k
  induction k with
  | zero =>
    intro i h hik kp
    unfold gnomonlaw03_NatdivPlays.L8.t gnomonlaw03_NatdivPlays.D9.t
    exact c_dec (fun hb => absurd hb (by omega)) fun _ => post _ kp
  | succ k ih =>
    intro i h hik kp
    unfold gnomonlaw03_NatdivPlays.L8.t gnomonlaw03_NatdivPlays.D9.t
    refine c_dec (fun _ => ?_) fun hb => absurd (by omega) hb
    obtain ⟨o, ho⟩ : ∃ o, os[i]? = some o := ⟨os[i]'(by omega), by simp⟩
    refine at_list (r.keep kp) rfl rfl ho fun q vs hvs rl s => ?_
    obtain ⟨a1, c1, b1, d1, e0, e1, e2, e3, r1, r2⟩ := op3_open rl s
    refine ldC e0 ?_
    refine gInt_intro rfl ?_
    refine ldC e1 ?_
    refine gSlice_intro rfl ?_
    refine ldC e2 ?_
    refine gSlice_intro rfl ?_
    refine ldC e3 ?_
    refine gStr_intro rfl ?_
    refine boxV fun h2 o2 k2 => ?_
    refine stV o2 (Nat.le_of_ble_eq_true rfl) fun h3 o3 k3 => ?_
    refine stV o3 (Nat.le_of_ble_eq_true rfl) fun h4 o4 k4 => ?_
    refine stV o4 (Nat.le_of_ble_eq_true rfl) fun h5 o5 k5 => ?_
    refine stV o5 (Nat.le_of_ble_eq_true rfl) fun h6 o6 k6 => ?_
    have kh : Keep h h6 := (k3.trans (k4.trans (k5.trans k6))).keep k2 (Nat.le_refl _)
    refine ldV o6 rfl ?_
    refine gInt_intro rfl ?_
    refine ldV o6 rfl ?_
    refine gSlice_intro rfl ?_
    refine ldV o6 rfl ?_
    refine gSlice_intro rfl ?_
    refine ldV o6 rfl ?_
    refine gStr_intro rfl ?_
    refine hc_intro (hplays_spec (r1.keep kh) (r2.keep kh)) fun v h8 ⟨k8, e8⟩ => ?_
    subst e8
    refine gBool_intro rfl ?_
    simp only [Bool.not_true, cond_false]
    refine k_i64 ((i + 1 : Nat) : Int) (by omega) (by omega) (by omega) ?_
    exact ih (i + 1) h8 (by omega) (kp.trans (kh.trans k8))
theorem NatdivPlays_law {a : Option Addr} {c l : Nat} {os : List Op3} {h : Hp} (r : RdOps3 h a c os) (hl : l = os.length) : HC gnomonlaw03_NatdivPlays.id #[.slice a l c] h fun v h' => Keep h h' ∧ v = .bool true := by
  subst hl
  refine gnomonlaw03_NatdivPlays.ok ?_
  unfold gnomonlaw03_NatdivPlays.t gnomonlaw03_NatdivPlays.D1.t
  refine hc_intro (hawake_spec h) fun v h1 ⟨k1, e⟩ => ?_
  subst e
  refine gBool_intro rfl ?_
  simp only [Bool.not_true, cond_false]
  unfold gnomonlaw03_NatdivPlays.D3.t
  refine ⟨3, ?_⟩
  unfold gnomonlaw03_NatdivPlays.L4.t gnomonlaw03_NatdivPlays.D5.t
  refine c_dec (fun _ => ?_) fun hh => absurd (by decide) hh
  unfold gnomonlaw03_NatdivPlays.D7.t
  refine ⟨os.length + 1, hall_walk (r.keep k1) (fun h2 k2 => ?_) os.length 0 h1 (by omega) (Keep.refl _)⟩
  unfold gnomonlaw03_NatdivPlays.D6.t
  refine k_i64 1 rfl (by decide) (by decide) ?_
  unfold gnomonlaw03_NatdivPlays.L4.t gnomonlaw03_NatdivPlays.D5.t
  refine c_dec (fun _ => ?_) fun hh => absurd (by decide) hh
  unfold gnomonlaw03_NatdivPlays.D7.t
  refine ⟨os.length + 1, hall_walk ((r.keep k1).keep k2) (fun h3 k3 => ?_) os.length 0 h2 (by omega) (Keep.refl _)⟩
  unfold gnomonlaw03_NatdivPlays.D6.t
  refine k_i64 2 rfl (by decide) (by decide) ?_
  unfold gnomonlaw03_NatdivPlays.L4.t gnomonlaw03_NatdivPlays.D5.t
  refine c_dec (fun hh => absurd hh (by decide)) fun _ => ?_
  exact ⟨k1.trans (k2.trans k3), rfl⟩
end Go.Proofs.Ytdpkfipkjdlmlaa.G
