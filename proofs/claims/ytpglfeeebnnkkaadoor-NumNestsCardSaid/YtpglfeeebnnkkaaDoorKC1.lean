/- Texts of this work, joined: ZSpec, ZHv, ZNum, ZNum2, ZNum3, ZNum4, ZRef, ZRefL, ZRef2, ZRefM, ZRef3, ZLawL, ZAri, ZRef4. -/
import Derived.Test.YtpglfeeebnnkkaaDoorKB
import Derived.Test.YtpglfeeebnnkkaaDoorKC0
/- Whole numbers: what the calls answer, and the arithmetic of signs and sizes: plain law. -/
namespace Go.Proofs.YtpglfeeebnnkkaaDoor.G
open Go.Gv
set_option linter.unusedVariables false
def negZ (x : Zw) : Zw × Int := if FrmZ x then zlim (-zi x) else (nz, 2)
def twoZ (f : Int → Int → Int) (x y : Zw) : Zw × Int := if FrmZ x ∧ FrmZ y then zlim (f (zi x) (zi y)) else (nz, 2)
def quoZ (f : Int → Int → Int) (x y : Zw) : Zw × Int := if FrmZ x ∧ FrmZ y then (if zi y = 0 then (nz, 4) else zlim (f (zi x) (zi y))) else (nz, 2)
def shlZ (x : Zw) (n : Int) : Zw × Int := if n < 0 then (nz, 1) else if FrmZ x then zlim (zi x * 2 ^ n.toNat) else (nz, 2)
def shrZ (f : Int → Int → Int) (x : Zw) (n : Int) : Zw × Int := if n < 0 then (nz, 1) else if FrmZ x then zlim (f (zi x) (2 ^ n.toNat)) else (nz, 2)
def cmpZ (i j : Int) : Int := if i < j then -1 else if i = j then 0 else 1
def cmpS (x y : Zw) : Int × Int := if FrmZ x ∧ FrmZ y then (cmpZ (zi x) (zi y), 0) else (0, 2)
def smaS (x : Zw) : Int × Int := if FrmZ x then (if -9223372036854775808 ≤ zi x ∧ zi x < 9223372036854775808 then (zi x, 0) else (0, 5)) else (0, 2)
def addI (x y : Int) : Int := x + y
def subI (x y : Int) : Int := x - y
def mulI (x y : Int) : Int := x * y
/-- An answer: the sign goes where the list is empty; nothing, where there was an error. -/
def tellZ (b : Bool) (p : List Nat × Int) : Zw × Int := if p.2 ≠ 0 then (nz, p.2) else ((b && decide (0 < p.1.length), p.1), 0)
theorem len_pos_digs (n : Nat) : decide (0 < (digs n).length) = decide (n ≠ 0) := by
  by_cases h : n = 0
  · subst h; rw [digs_zero]; rfl
  · rw [digs_pos h]; simp [h]
theorem tell_lim (b : Bool) (n : Nat) : tellZ b (lim n) = zlim (sg b n) := by
  unfold tellZ
  by_cases h : (digs n).length ≤ 8192
  · have e : lim n = (digs n, 0) := by unfold lim; exact if_pos h
    rw [e, zlim_ok (by unfold SmZ; rw [sg_abs]; exact h), zz_sg]
    simp only [ne_eq, not_true_eq_false, if_false, len_pos_digs]
  · rw [lim_big2 h, zlim_no (by unfold SmZ; rw [sg_abs]; exact h)]
    rfl
theorem add_sg_same (b : Bool) (A B : Nat) : sg b A + sg b B = sg b (A + B) := by unfold sg; cases b <;> simp <;> omega
theorem add_sg_diff {p q : Bool} {A B : Nat} (h : p ≠ q) (hl : B ≤ A) : sg p A + sg q B = sg p (A - B) := by
  unfold sg; cases p <;> cases q <;> simp at h ⊢ <;> omega
theorem neg_sg (p : Bool) (A : Nat) : -sg p A = sg (!p) A := by unfold sg; cases p <;> simp
theorem mul_sg (p q : Bool) (A B : Nat) : sg p A * sg q B = sg (xor p q) (A * B) := by
  unfold sg; cases p <;> cases q <;> simp [Int.neg_mul, Int.mul_neg]
theorem sg_zero (p : Bool) : sg p 0 = 0 := by unfold sg; cases p <;> rfl
theorem sg_eq_zero {p : Bool} {A : Nat} : sg p A = 0 ↔ A = 0 := by unfold sg; cases p <;> simp
theorem sg_false (A : Nat) : sg false A = (A : Int) := rfl
theorem pow2_sg (n : Nat) : ((2 : Int) ^ n) = sg false (2 ^ n) := by rw [sg_false]; exact (Int.natCast_pow 2 n).symm
theorem pow2_ne (n : Nat) : (2 : Nat) ^ n ≠ 0 := Nat.pos_iff_ne_zero.mp (Nat.two_pow_pos n)
theorem shl_sg (p : Bool) (A n : Nat) : sg p A * 2 ^ n = sg p (A * 2 ^ n) := by rw [pow2_sg, mul_sg]; simp
theorem sg_neg_of {p : Bool} {A : Nat} (h : p = true → A ≠ 0) : decide (sg p A < 0) = p := by
  rw [sg_neg]; cases p
  · rfl
  · simp [h rfl]
theorem flo_zero (b : Int) : flo 0 b = 0 := by unfold flo; split <;> simp
theorem cei_sg {p q : Bool} {A B : Nat} (hB : B ≠ 0) (hp : p = true → A ≠ 0) : cei (sg p A) (sg q B) = sg (xor p q) (if (xor p q) = false ∧ A % B ≠ 0 then A / B + 1 else A / B) := by
  unfold cei
  by_cases hA : A = 0
  · subst hA; rw [sg_zero]; simp [flo_zero, sg_zero]
  · rw [neg_sg, flo_sg hB fun _ => hA, neg_sg]
    have e : (!(xor (!p) q)) = xor p q := by cases p <;> cases q <;> rfl
    have e2 : (xor (!p) q = true) ↔ (xor p q = false) := by cases p <;> cases q <;> simp
    rw [e]
    simp only [e2]
theorem nea_sg {p q : Bool} {A B : Nat} (hB : B ≠ 0) (hp : p = true → A ≠ 0) : nea (sg p A) (sg q B) = sg (xor p q) (nearN A B) := by
  unfold nea
  rw [sg_neg_of hp, sg_neg_of fun _ => hB, sg_abs, sg_abs]
theorem near_zero {A B : Nat} (h : 2 * A < B) : nearN A B = 0 := by
  unfold nearN
  rw [Nat.mod_eq_of_lt (by omega), Nat.div_eq_of_lt (by omega), if_neg (by omega)]
/-- Rounding down and the rest. -/
theorem flo_bound {a b : Int} (hb : 0 < b) : flo a b * b ≤ a ∧ a < (flo a b + 1) * b := by
  unfold flo; rw [if_neg (by omega)]
  exact ⟨Int.ediv_mul_le _ (by omega), Int.lt_ediv_add_one_mul_self _ hb⟩
theorem flo_neg {a b : Int} (hb : b < 0) : flo a b = flo (-a) (-b) := by unfold flo; rw [if_pos hb, if_neg (by omega)]
theorem mo_zero (b : Int) : mo 0 b = 0 := by unfold mo; rw [flo_zero]; simp
/-- The rest has the divisor's sign. -/
theorem mo_sg {p q : Bool} {A B : Nat} (hB : B ≠ 0) (hp : p = true → A ≠ 0) : mo (sg p A) (sg q B) = sg q (if (xor p q) = true ∧ A % B ≠ 0 then B - A % B else A % B) := by
  unfold mo
  rw [flo_sg hB hp, mul_sg]
  have hd := Nat.div_add_mod A B
  have hm := Nat.mod_lt A (show 0 < B by omega)
  have ex : (xor q (xor p q)) = p := by cases p <;> cases q <;> rfl
  rw [ex]
  generalize A % B = r at *
  generalize A / B = Q at *
  have e1 : B * (Q + 1) = B * Q + B := by rw [Nat.mul_add, Nat.mul_one]
  by_cases c : (xor p q) = true ∧ r ≠ 0
  · rw [if_pos c, if_pos c, e1]
    generalize B * Q = T at *
    subst hd
    obtain ⟨c1, c2⟩ := c
    cases p <;> cases q <;> simp at c1 <;> simp only [sg, if_true, Bool.false_eq_true, if_false] <;> omega
  · rw [if_neg c, if_neg c]
    generalize B * Q = T at *
    subst hd
    have c3 : p = q ∨ r = 0 := by
      by_cases hr : r = 0
      · exact Or.inr hr
      · refine Or.inl ?_
        cases p <;> cases q <;> first | rfl | exact absurd ⟨rfl, hr⟩ c
    rcases c3 with rfl | rfl
    · cases p <;> simp only [sg, if_true, Bool.false_eq_true, if_false] <;> omega
    · cases p <;> cases q <;> simp only [sg, if_true, Bool.false_eq_true, if_false] <;> omega
/-! ### bits of a size -/
theorem bit_half {A n : Nat} : (A / 2 ^ n % 2 = 1) ↔ 2 ^ (n + 1) ≤ 2 * (A % 2 ^ (n + 1)) := by
  have h1 : A % 2 ^ (n + 1) = A % 2 ^ n + 2 ^ n * (A / 2 ^ n % 2) := by rw [Nat.pow_succ, Nat.mod_mul]
  have h2 := Nat.mod_lt A (Nat.two_pow_pos n)
  have h3 : 2 ^ (n + 1) = 2 * 2 ^ n := by rw [Nat.pow_succ]; omega
  rcases Nat.mod_two_eq_zero_or_one (A / 2 ^ n) with e | e
  · rw [e] at h1; rw [h1, e, h3]; omega
  · rw [e] at h1; rw [h1, e, h3]; omega
theorem ctz_half {A n : Nat} (hA : A ≠ 0) (h : A / 2 ^ n % 2 = 1) : ctz A = n ↔ 2 * (A % 2 ^ (n + 1)) = 2 ^ (n + 1) := by
  have h1 : A % 2 ^ (n + 1) = A % 2 ^ n + 2 ^ n * (A / 2 ^ n % 2) := by rw [Nat.pow_succ, Nat.mod_mul]
  have h3 : 2 ^ (n + 1) = 2 * 2 ^ n := by rw [Nat.pow_succ]; omega
  rw [h] at h1
  constructor
  · intro e
    obtain ⟨m, hm⟩ := ctz_form hA
    rw [e] at hm
    have : A % 2 ^ n = 0 := by rw [hm]; exact Nat.mul_mod_right _ _
    omega
  · intro e
    exact ctz_of (by omega) h
theorem ctz_some {A n : Nat} (hA : A ≠ 0) : ctz A < n ↔ A % 2 ^ n ≠ 0 := by
  obtain ⟨m, hm⟩ := ctz_form hA
  constructor
  · intro h e
    have hd : 2 ^ n ∣ A := Nat.dvd_of_mod_eq_zero e
    have h2 : 2 ^ (ctz A + 1) ∣ A := Nat.dvd_trans (Nat.pow_dvd_pow 2 (by omega)) hd
    rw [hm] at h2
    have h4 : ctz (2 ^ ctz A * (2 * m + 1)) = ctz A := ctz_pow _ _
    rw [h4] at h2
    rw [Nat.pow_succ] at h2
    have h3 := Nat.dvd_of_mul_dvd_mul_left (Nat.two_pow_pos _) h2
    omega
  · intro h
    rcases Nat.lt_or_ge (ctz A) n with h1 | h1
    · exact h1
    · exfalso; apply h
      rw [hm]
      exact Nat.mod_eq_zero_of_dvd (Nat.dvd_trans (Nat.pow_dvd_pow 2 h1) (Nat.dvd_mul_right _ _))
end Go.Proofs.YtpglfeeebnnkkaaDoor.G

/- Contracts that the lifted functions of layer 4 use. -/
namespace Go.Proofs.YtpglfeeebnnkkaaDoor.G
open Go.Gv
set_option linter.unusedVariables false
set_option maxRecDepth 100000
theorem Tab.tame {h h' : Hp} (t : Tab h) (m : Tame h h') : Tab h' := fun i hi => m.cell _ _ rfl (t i hi)
section
variable {a b : Option Addr} {c d l m : Nat} {xs ys : List Nat} {h0 h : Hp} {x y : Int}
theorem natmul_Mul.hv (r : Rd h a c xs) (e : l = xs.length) (s : Rd h b d ys) (f : m = ys.length) : HC natmul_Mul.id #[.slice a l c, .slice b m d] h fun v h' => Keep h h' ∧ Ans h h' v (mulS xs ys) := Mul_spec r s e f
theorem natdiv_QuoRem.hv (r : Rd h a c xs) (e : l = xs.length) (s : Rd h b d ys) (f : m = ys.length) : HC natdiv_QuoRem.id #[.slice a l c, .slice b m d] h fun v h' => Keep h h' ∧ AnsQ h h' v (quoS xs ys) := QuoRem_spec r s e f
theorem num_whole.hv (p : Bool) (a : Option Addr) (l c : Nat) (h : Hp) : HC num_whole.id #[.bool p, .slice a l c] h fun v h' => Keep h h' ∧ v = .agg #[.bool (p && decide (0 < l)), .slice a l c] := by
  refine num_whole.ok ?_
  unfold num_whole.t num_whole.D1.t
  refine boxV fun h2 o2 k2 => ?_
  have el : decide (((l : Nat) : Int) > 0) = decide (0 < l) := by by_cases hl : 0 < l <;> simp [hl]
  refine c_bool (fun hp => ?_) fun hp => ?_
  · subst hp
    refine stA o2 (base_add _ _) rfl fun h3 o2 k3 m3 => ?_
    refine stA o2 (base_add _ _) rfl fun h4 o2 k4 m4 => ?_
    refine ldA o2 (base_add _ _) rfl ?_
    refine gBool_intro rfl ?_
    refine ldA o2 (base_add _ _) rfl ?_
    refine gSlice_intro rfl ?_
    exact ⟨KeepB.keep (KeepB.keep k2 k3 (Nat.le_refl _)) k4 (Nat.le_refl _), by rw [el]; rfl⟩
  · subst hp
    refine stA o2 (base_add _ _) rfl fun h3 o2 k3 m3 => ?_
    refine stA o2 (base_add _ _) rfl fun h4 o2 k4 m4 => ?_
    refine ldA o2 (base_add _ _) rfl ?_
    refine gBool_intro rfl ?_
    refine ldA o2 (base_add _ _) rfl ?_
    refine gSlice_intro rfl ?_
    exact ⟨KeepB.keep (KeepB.keep k2 k3 (Nat.le_refl _)) k4 (Nat.le_refl _), rfl⟩
theorem tellZ_no {p : Bool} (h : x ≠ 0) : tellZ p (xs, x) = (nz, x) := by unfold tellZ; rw [if_pos h]
theorem tellZ_ok (p : Bool) (xs : List Nat) : tellZ p (xs, 0) = ((p && decide (0 < xs.length), xs), 0) := by unfold tellZ; simp
theorem num_told.hf {p : Bool} (g : GotE eU64 h0 h a c xs) (e : l = xs.length) (i : In .i64 x) : HC num_told.id #[.bool p, .slice a l c, .int .i64 x] h fun v h' => Keep h h' ∧ s2 sZW (sI .i64) h0 h' v (tellZ p (xs, x)) := by
  subst e
  refine num_told.ok ?_
  unfold num_told.t num_told.D1.t
  refine boxV fun h2 o2 k2 => ?_
  refine c_ne (fun hx => ?_) fun hx => ?_
  · refine stA o2 (base_add _ _) rfl fun h3 o2 k3 m3 => ?_
    refine stA o2 (base_add _ _) rfl fun h4 o2 k4 m4 => ?_
    refine ldA o2 (base_add _ _) rfl ?_
    refine gBool_intro rfl ?_
    refine ldA o2 (base_add _ _) rfl ?_
    refine gSlice_intro rfl ?_
    rw [tellZ_no hx]
    exact ⟨KeepB.keep (KeepB.keep k2 k3 (Nat.le_refl _)) k4 (Nat.le_refl _), _, _, rfl, ⟨_, _, rfl, GotE.nil _ _⟩, rfl, i⟩
  · subst hx
    refine hc_intro (num_whole.hv p a xs.length c h2) fun v h3 ⟨k3, s⟩ => ?_
    subst s
    have o2 := o2.keep k3
    refine gAgg_intro rfl ?_
    refine uncons_intro ?_
    refine gBool_intro rfl ?_
    refine uncons_intro ?_
    refine gSlice_intro rfl ?_
    refine unnil_intro ?_
    refine stA o2 (base_add _ _) rfl fun h4 o2 k4 m4 => ?_
    refine stA o2 (base_add _ _) rfl fun h5 o2 k5 m5 => ?_
    refine ldA o2 (base_add _ _) rfl ?_
    refine gBool_intro rfl ?_
    refine ldA o2 (base_add _ _) rfl ?_
    refine gSlice_intro rfl ?_
    rw [tellZ_ok]
    exact ⟨KeepB.keep (KeepB.keep (k2.trans k3) k4 (Nat.le_refl _)) k5 (Nat.le_refl _), _, _, rfl, ⟨_, _, rfl, g.tame (k2.tame.trans (k3.tame.trans (m4.trans m5)))⟩, rfl, i⟩
/-- Is the size one above the whole part? -/
def moreB (w : Int) (neg odd some : Bool) (half : Int) : Bool := if w = 0 then (neg && some) else if w = 1 then (!neg && some) else (decide (0 < half) || (decide (half = 0) && odd))
theorem num_way_more.hv {p q s : Bool} (h : Hp) : HC num_way_more.id #[.int .i64 x, .bool p, .bool q, .bool s, .int .i64 y] h fun v h' => h' = h ∧ v = .bool (moreB x p q s y) := by
  refine num_way_more.ok ?_
  unfold num_way_more.t num_way_more.D1.t
  refine c_eq (fun e => ?_) fun e => ?_
  · cases p <;> exact ⟨rfl, by simp [moreB, e]⟩
  · refine c_eq (fun e1 => ?_) fun e1 => ?_
    · cases p <;> exact ⟨rfl, by simp [moreB, e1]⟩
    · refine c_dec (fun e2 => ?_) fun e2 => ?_
      · exact ⟨rfl, by have : 0 < y := e2; simp [moreB, e, e1, this]⟩
      · refine c_eq (fun e3 => ?_) fun e3 => ?_
        · exact ⟨rfl, by subst e3; simp [moreB, e, e1]⟩
        · exact ⟨rfl, by have : ¬ 0 < y := e2; simp [moreB, e, e1, e3, this]⟩
def madeZ (w : Int) (neg : Bool) (q : List Nat) (some : Bool) (half : Int) : Zw × Int := tellZ neg (if moreB w neg (bitS (val q) 0 == 1) some half = true then addS q (digs 1) else (q, 0))
theorem num_way_made.hf {p s : Bool} (z0 : h0.size ≤ h.size) (w : In .i64 x) (g : GotE eU64 h0 h a c xs) (e : l = xs.length) (i : In .i64 y) : HC num_way_made.id #[.int .i64 x, .bool p, .slice a l c, .bool s, .int .i64 y] h fun v h' => Keep h h' ∧ s2 sZW (sI .i64) h0 h' v (madeZ x p xs s y) := by
  subst e
  refine num_way_made.ok ?_
  unfold num_way_made.t num_way_made.D1.t
  refine boxV fun h2 o2 k2 => ?_
  refine hc_intro (nat_Bit.hv (g.rd64.keep k2) rfl (by decide)) fun v h4 ⟨k4, e⟩ => ?_
  refine gBool_intro e ?_
  refine hc_intro (num_way_more.hv h4) fun v h7 ⟨e, e1⟩ => ?_
  subst e; subst e1
  refine gBool_intro rfl ?_
  have o2 := o2.keep k4
  have k24 := k2.trans k4
  unfold madeZ
  refine c_not (fun hm => ?_) fun hm => ?_
  · rw [if_neg (by rw [hm]; decide)]
    refine hc_intro (num_told.hf (g.keep k24) rfl (by decide)) fun v h10 ⟨k10, s⟩ => ?_
    obtain ⟨v1, v2, e, ⟨a1, c1, e1, r1⟩, e2, i2⟩ := s
    subst e; subst e1; subst e2
    refine gTup_intro rfl ?_
    refine uncons_intro ?_
    refine gAgg_intro rfl ?_
    refine uncons_intro ?_
    refine gBool_intro rfl ?_
    refine uncons_intro ?_
    refine gSlice_intro rfl ?_
    refine unnil_intro ?_
    refine uncons_intro ?_
    refine gInt_intro rfl ?_
    refine unnil_intro ?_
    have o2 := o2.keep k10
    refine stA o2 (base_add _ _) rfl fun h4 o2 k4 m4 => ?_
    refine stA o2 (base_add _ _) rfl fun h5 o2 k5 m5 => ?_
    refine ldA o2 (base_add _ _) rfl ?_
    refine gBool_intro rfl ?_
    refine ldA o2 (base_add _ _) rfl ?_
    refine gSlice_intro rfl ?_
    exact ⟨KeepB.keep (KeepB.keep (k24.trans k10) k4 (Nat.le_refl _)) k5 (Nat.le_refl _), _, _, rfl, ⟨_, _, rfl, r1.tame (m4.trans m5)⟩, rfl, i2⟩
  · rw [if_pos hm]
    refine hc_intro (nat_Word.hv (x := 1) (by decide)) fun v h27 ⟨k27, a28, c28, e, r28⟩ => ?_
    subst e
    refine gSlice_intro rfl ?_
    have k227 := k24.trans k27
    refine hc_intro (nat_Add.hv (g.rd64.keep k227) rfl r28.rd64 rfl) fun v h30 ⟨k30, an⟩ => ?_
    have e1 : (1 : Int).toNat = 1 := rfl
    rw [e1] at an
    refine an.elimG fun a1 c1 r1 i1 => ?_
    have k230 := k227.trans k30
    refine hc_intro (num_told.hf (r1.from (Nat.le_trans z0 k227.le)) rfl i1) fun v h10 ⟨k10, s⟩ => ?_
    obtain ⟨v1, v2, e, ⟨a1, c1, e1, r1⟩, e2, i2⟩ := s
    subst e; subst e1; subst e2
    refine gTup_intro rfl ?_
    refine uncons_intro ?_
    refine gAgg_intro rfl ?_
    refine uncons_intro ?_
    refine gBool_intro rfl ?_
    refine uncons_intro ?_
    refine gSlice_intro rfl ?_
    refine unnil_intro ?_
    refine uncons_intro ?_
    refine gInt_intro rfl ?_
    refine unnil_intro ?_
    have o2 := (o2.keep (k27.trans k30)).keep k10
    refine stA o2 (base_add _ _) rfl fun h4 o2 k4 m4 => ?_
    refine stA o2 (base_add _ _) rfl fun h5 o2 k5 m5 => ?_
    refine ldA o2 (base_add _ _) rfl ?_
    refine gBool_intro rfl ?_
    refine ldA o2 (base_add _ _) rfl ?_
    refine gSlice_intro rfl ?_
    exact ⟨KeepB.keep (KeepB.keep (k230.trans k10) k4 (Nat.le_refl _)) k5 (Nat.le_refl _), _, _, rfl, ⟨_, _, rfl, r1.tame (m4.trans m5)⟩, rfl, i2⟩
end
end Go.Proofs.YtpglfeeebnnkkaaDoor.G

/- Functions without loops as functions of values. Written by a program of this work. -/
namespace Go.Proofs.YtpglfeeebnnkkaaDoor.G
open Go.Gv
set_option linter.unusedVariables false
set_option maxRecDepth 100000
namespace num_Of
def D1.v (x0 : Int) : (Bool × List Nat) :=
  bif (decide (x0 < (0 : Int))) then
    letV (digs (Int.toNat ((IntKind.u64.wrap (0 - (IntKind.u64.wrap x0)))))) fun p_3 =>
    ((true && decide (0 < p_3.length)), p_3)
  else
    letV (digs (Int.toNat (IntKind.u64.wrap x0))) fun p_4 =>
    ((false && decide (0 < p_4.length)), p_4)
theorem D1.hv {R : Rt} {h0 h : Hp} (k0 : Keep h0 h) {x0 : Int} (i0 : In .i64 x0) (g : Post sZW h0 R (D1.v x0)) : D1.t R x0 h := by
  have kh := Keep.refl h
  unfold D1.v at g
  unfold D1.t
  refine boxV fun h_1 bx_1 k_1 => ?_
  have o_1 : h0.size ≤ h.size := k0.le
  have oh_1 : h.size ≤ h.size := kh.le
  have lt_1 := bx_1.lt
  have m_1 := k_1.tame
  have k0 := k0.trans k_1
  have kh := kh.trans k_1
  refine lift_dec g (fun q_2 g => ?_) (fun q_2 g => ?_)
  · refine letK_out ?_
    refine letK_out ?_
    refine hc_intro (nat_Word.hv (in_wrap _ _)) fun v h_2 ⟨k_2, s⟩ => ?_
    obtain ⟨p_3, hp_3⟩ : ∃ p, p = digs (Int.toNat ((IntKind.u64.wrap (0 - (IntKind.u64.wrap x0))))) := ⟨_, rfl⟩
    rw [← hp_3] at s
    replace g := lift_let2 hp_3 g
    obtain ⟨a_3, c_3, rfl, r_3⟩ := s
    refine gSlice_intro rfl (?_)
    have r_3 := r_3.from k0.le
    have m_2 := k_2.tame
    have bx_1 := bx_1.keep k_2
    have k0 := k0.trans k_2
    have kh := kh.trans k_2
    refine hc_intro (num_whole.hv _ _ _ _ _) fun v h_3 ⟨k_3, s⟩ => ?_
    subst s
    refine gAgg_intro rfl (uncons_intro (gBool_intro rfl (uncons_intro (gSlice_intro rfl (unnil_intro (?_))))))
    have m_3 := k_3.tame
    have bx_1 := bx_1.keep k_3
    have k0 := k0.trans k_3
    have kh := kh.trans k_3
    refine stA bx_1 (base_add _ _) rfl fun h_4 bx_1 k_4 m_4 => ?_
    have k0 := KeepB.keep k0 k_4 o_1
    have kh := KeepB.keep kh k_4 oh_1
    refine stA bx_1 (base_add _ _) rfl fun h_5 bx_1 k_5 m_5 => ?_
    have k0 := KeepB.keep k0 k_5 o_1
    have kh := KeepB.keep kh k_5 oh_1
    refine ldA bx_1 (base_add _ _) rfl ?_
    refine gBool_intro rfl ?_
    refine ldA bx_1 (base_add _ _) rfl ?_
    refine gSlice_intro rfl ?_
    exact g _ _ k0 ⟨_, _, rfl, (r_3.tame (m_3.trans (m_4.trans m_5)))⟩
  · refine letK_out ?_
    refine hc_intro (nat_Word.hv (in_wrap _ _)) fun v h_2 ⟨k_2, s⟩ => ?_
    obtain ⟨p_4, hp_4⟩ : ∃ p, p = digs (Int.toNat (IntKind.u64.wrap x0)) := ⟨_, rfl⟩
    rw [← hp_4] at s
    replace g := lift_let2 hp_4 g
    obtain ⟨a_4, c_4, rfl, r_4⟩ := s
    refine gSlice_intro rfl (?_)
    have r_4 := r_4.from k0.le
    have m_2 := k_2.tame
    have bx_1 := bx_1.keep k_2
    have k0 := k0.trans k_2
    have kh := kh.trans k_2
    refine hc_intro (num_whole.hv _ _ _ _ _) fun v h_3 ⟨k_3, s⟩ => ?_
    subst s
    refine gAgg_intro rfl (uncons_intro (gBool_intro rfl (uncons_intro (gSlice_intro rfl (unnil_intro (?_))))))
    have m_3 := k_3.tame
    have bx_1 := bx_1.keep k_3
    have k0 := k0.trans k_3
    have kh := kh.trans k_3
    refine stA bx_1 (base_add _ _) rfl fun h_4 bx_1 k_4 m_4 => ?_
    have k0 := KeepB.keep k0 k_4 o_1
    have kh := KeepB.keep kh k_4 oh_1
    refine stA bx_1 (base_add _ _) rfl fun h_5 bx_1 k_5 m_5 => ?_
    have k0 := KeepB.keep k0 k_5 o_1
    have kh := KeepB.keep kh k_5 oh_1
    refine ldA bx_1 (base_add _ _) rfl ?_
    refine gBool_intro rfl ?_
    refine ldA bx_1 (base_add _ _) rfl ?_
    refine gSlice_intro rfl ?_
    exact g _ _ k0 ⟨_, _, rfl, (r_4.tame (m_3.trans (m_4.trans m_5)))⟩
def v (x0 : Int) : (Bool × List Nat) := D1.v x0
theorem hv {h : Hp} {x0 : Int} (i0 : In .i64 x0) : HC id #[.int .i64 x0] h fun v_ h_ => Keep h h_ ∧ sZW h h_ v_ (v x0) :=
  ok (D1.hv (Keep.refl _) i0 fun v h' k s => ⟨k, s⟩)
end num_Of

namespace num_Form
def D1.v (b0_0 : Bool) (xs0_1 : List Nat) : Bool :=
  bif (decide (Frm xs0_1)) then
    bif b0_0 then
      (!((((xs0_1.length : Nat) : Int)) == (0 : Int)))
    else
      (!false)
  else
    false
theorem D1.hv {R : Rt} {h0 h : Hp} (k0 : Keep h0 h) {b0_0 : Bool} {a0_1 : Option Addr} {c0_1 l0_1 : Nat} {xs0_1 : List Nat} (r0_1 : Rd h a0_1 c0_1 xs0_1) (e0_1 : l0_1 = xs0_1.length) (g : Post sBool h0 R (D1.v b0_0 xs0_1)) : D1.t R b0_0 a0_1 l0_1 c0_1 h := by
  subst e0_1
  have kh := Keep.refl h
  unfold D1.v at g
  unfold D1.t
  refine boxV fun h_1 bx_1 k_1 => ?_
  have o_1 : h0.size ≤ h.size := k0.le
  have oh_1 : h.size ≤ h.size := kh.le
  have lt_1 := bx_1.lt
  have m_1 := k_1.tame
  have k0 := k0.trans k_1
  have kh := kh.trans k_1
  refine ldA bx_1 (base_add _ _) rfl ?_
  refine gSlice_intro rfl ?_
  refine hc_intro (nat_Form.hv (r0_1.tame (m_1)) rfl) fun v h_2 ⟨k_2, s⟩ => ?_
  obtain rfl := s
  refine gBool_intro rfl (?_)
  have m_2 := k_2.tame
  have bx_1 := bx_1.keep k_2
  have k0 := k0.trans k_2
  have kh := kh.trans k_2
  refine lift_dec g (fun q_3 g => ?_) (fun q_3 g => ?_)
  · refine ldA bx_1 (base_add _ _) rfl ?_
    refine gBool_intro rfl ?_
    refine lift_bool g (fun q_4 g => ?_) (fun q_4 g => ?_)
    · refine ldA bx_1 (base_add _ _) rfl ?_
      refine gSlice_intro rfl ?_
      exact g _ _ k0 rfl
    · exact g _ _ k0 rfl
  · exact g _ _ k0 rfl
def v (b0_0 : Bool) (xs0_1 : List Nat) : Bool := D1.v b0_0 xs0_1
theorem hv {h : Hp} {b0_0 : Bool} {a0_1 : Option Addr} {c0_1 l0_1 : Nat} {xs0_1 : List Nat} (r0_1 : Rd h a0_1 c0_1 xs0_1) (e0_1 : l0_1 = xs0_1.length) : HC id #[.agg #[.bool b0_0, .slice a0_1 l0_1 c0_1]] h fun v_ h_ => Keep h h_ ∧ sBool h h_ v_ (v b0_0 xs0_1) :=
  ok (D1.hv (Keep.refl _) r0_1 e0_1 fun v h' k s => ⟨k, s⟩)
end num_Form

namespace num_Sign
def D1.v (b0_0 : Bool) (xs0_1 : List Nat) : Int :=
  bif (((((blen (val xs0_1) : Nat) : Int))) == (0 : Int)) then
    (0 : Int)
  else
    bif b0_0 then
      (-1 : Int)
    else
      (1 : Int)
theorem D1.hv {R : Rt} {h0 h : Hp} (k0 : Keep h0 h) {b0_0 : Bool} {a0_1 : Option Addr} {c0_1 l0_1 : Nat} {xs0_1 : List Nat} (r0_1 : Rd h a0_1 c0_1 xs0_1) (e0_1 : l0_1 = xs0_1.length) (g : Post (sI .i64) h0 R (D1.v b0_0 xs0_1)) : D1.t R b0_0 a0_1 l0_1 c0_1 h := by
  subst e0_1
  have kh := Keep.refl h
  unfold D1.v at g
  unfold D1.t
  refine boxV fun h_1 bx_1 k_1 => ?_
  have o_1 : h0.size ≤ h.size := k0.le
  have oh_1 : h.size ≤ h.size := kh.le
  have lt_1 := bx_1.lt
  have m_1 := k_1.tame
  have k0 := k0.trans k_1
  have kh := kh.trans k_1
  refine ldA bx_1 (base_add _ _) rfl ?_
  refine gSlice_intro rfl ?_
  refine hc_intro (nat_Bits.hv (r0_1.tame (m_1)) rfl) fun v h_2 ⟨k_2, s⟩ => ?_
  obtain ⟨rfl, i_2⟩ := s
  refine gInt_intro rfl (?_)
  have m_2 := k_2.tame
  have bx_1 := bx_1.keep k_2
  have k0 := k0.trans k_2
  have kh := kh.trans k_2
  refine lift_eq g (fun q_3 g => ?_) (fun q_3 g => ?_)
  · exact g _ _ k0 ⟨rfl, (show In .i64 (0 : Int) by decide)⟩
  · refine ldA bx_1 (base_add _ _) rfl ?_
    refine gBool_intro rfl ?_
    refine lift_bool g (fun q_4 g => ?_) (fun q_4 g => ?_)
    · exact g _ _ k0 ⟨rfl, (show In .i64 (-1 : Int) by decide)⟩
    · exact g _ _ k0 ⟨rfl, (show In .i64 (1 : Int) by decide)⟩
def v (b0_0 : Bool) (xs0_1 : List Nat) : Int := D1.v b0_0 xs0_1
theorem hv {h : Hp} {b0_0 : Bool} {a0_1 : Option Addr} {c0_1 l0_1 : Nat} {xs0_1 : List Nat} (r0_1 : Rd h a0_1 c0_1 xs0_1) (e0_1 : l0_1 = xs0_1.length) : HC id #[.agg #[.bool b0_0, .slice a0_1 l0_1 c0_1]] h fun v_ h_ => Keep h h_ ∧ (sI .i64) h h_ v_ (v b0_0 xs0_1) :=
  ok (D1.hv (Keep.refl _) r0_1 e0_1 fun v h' k s => ⟨k, s⟩)
end num_Sign

namespace num_Small
def D2.v (b1_0 : Bool) (xs1_1 : List Nat) (x4 : Int) : (Int × Int) :=
  bif b1_0 then
    ((IntKind.i64.wrap ((IntKind.u64.wrap (0 - x4)))), (0 : Int))
  else
    ((IntKind.i64.wrap x4), (0 : Int))
theorem D2.hv {R : Rt} {h0 h : Hp} (k0 : Keep h0 h) {b1_0 : Bool} {a1_1 : Option Addr} {c1_1 : Nat} {xs1_1 : List Nat} (r1_1 : Rd h a1_1 c1_1 xs1_1) {B1 : Nat} (bx1 : BlkV h B1 [.bool b1_0, .slice a1_1 xs1_1.length c1_1]) (o1 : h0.size ≤ B1) {x4 : Int} (i4 : In .u64 x4) (g : Post (s2 (sI .i64) (sI .i64)) h0 R (D2.v b1_0 xs1_1 x4)) : D2.t R (⟨B1, 0, none⟩ : Addr) x4 h := by
  have kh := Keep.refl h
  have lt1 := bx1.lt
  unfold D2.v at g
  unfold D2.t
  refine ldA bx1 (base_add _ _) rfl ?_
  refine gBool_intro rfl ?_
  refine lift_bool g (fun q_9 g => ?_) (fun q_9 g => ?_)
  · refine letK_out ?_
    refine letK_out ?_
    exact g _ _ k0 ⟨_, _, rfl, ⟨rfl, (in_wrap _ _)⟩, ⟨rfl, (show In .i64 (0 : Int) by decide)⟩⟩
  · refine letK_out ?_
    exact g _ _ k0 ⟨_, _, rfl, ⟨rfl, (in_wrap _ _)⟩, ⟨rfl, (show In .i64 (0 : Int) by decide)⟩⟩
def D1.v (b0_0 : Bool) (xs0_1 : List Nat) : (Int × Int) :=
  letV (num_Form.v b0_0 xs0_1) fun p_2 =>
  bif (!p_2) then
    ((0 : Int), (2 : Int))
  else
    bif ((((xs0_1.length : Nat) : Int)) == (0 : Int)) then
      ((0 : Int), (0 : Int))
    else
      bif (decide ((((xs0_1.length : Nat) : Int)) > (1 : Int))) then
        ((0 : Int), (5 : Int))
      else
        bif (decide ((((xs0_1.getD 0 0 : Nat) : Int)) > (9223372036854775808 : Int))) then
          ((0 : Int), (5 : Int))
        else
          bif ((((xs0_1.getD 0 0 : Nat) : Int)) == (9223372036854775808 : Int)) then
            bif (!b0_0) then
              ((0 : Int), (5 : Int))
            else
              D2.v b0_0 xs0_1 (((xs0_1.getD 0 0 : Nat) : Int))
          else
            D2.v b0_0 xs0_1 (((xs0_1.getD 0 0 : Nat) : Int))
theorem D1.hv {R : Rt} {h0 h : Hp} (k0 : Keep h0 h) {b0_0 : Bool} {a0_1 : Option Addr} {c0_1 l0_1 : Nat} {xs0_1 : List Nat} (r0_1 : Rd h a0_1 c0_1 xs0_1) (e0_1 : l0_1 = xs0_1.length) (g : Post (s2 (sI .i64) (sI .i64)) h0 R (D1.v b0_0 xs0_1)) : D1.t R b0_0 a0_1 l0_1 c0_1 h := by
  subst e0_1
  have kh := Keep.refl h
  unfold D1.v at g
  unfold D1.t
  refine boxV fun h_1 bx_1 k_1 => ?_
  have o_1 : h0.size ≤ h.size := k0.le
  have oh_1 : h.size ≤ h.size := kh.le
  have lt_1 := bx_1.lt
  have m_1 := k_1.tame
  have k0 := k0.trans k_1
  have kh := kh.trans k_1
  refine ldA bx_1 (base_add _ _) rfl ?_
  refine gBool_intro rfl ?_
  refine ldA bx_1 (base_add _ _) rfl ?_
  refine gSlice_intro rfl ?_
  refine hc_intro (num_Form.hv (r0_1.tame (m_1)) rfl) fun v h_2 ⟨k_2, s⟩ => ?_
  obtain ⟨p_2, hp_2⟩ : ∃ p, p = num_Form.v b0_0 xs0_1 := ⟨_, rfl⟩
  rw [← hp_2] at s
  replace g := lift_let2 hp_2 g
  obtain rfl := s
  refine gBool_intro rfl (?_)
  have m_2 := k_2.tame
  have bx_1 := bx_1.keep k_2
  have k0 := k0.trans k_2
  have kh := kh.trans k_2
  refine lift_not g (fun q_3 g => ?_) (fun q_3 g => ?_)
  · exact g _ _ k0 ⟨_, _, rfl, ⟨rfl, (show In .i64 (0 : Int) by decide)⟩, ⟨rfl, (show In .i64 (2 : Int) by decide)⟩⟩
  · refine ldA bx_1 (base_add _ _) rfl ?_
    refine gSlice_intro rfl ?_
    refine lift_eq g (fun q_4 g => ?_) (fun q_4 g => ?_)
    · exact g _ _ k0 ⟨_, _, rfl, ⟨rfl, (show In .i64 (0 : Int) by decide)⟩, ⟨rfl, (show In .i64 (0 : Int) by decide)⟩⟩
    · refine ldA bx_1 (base_add _ _) rfl ?_
      refine gSlice_intro rfl ?_
      refine at64 ((r0_1.tame (m_1.trans m_2))).toE (j := 0) (by first | assumption | decide | omega) rfl (by first | assumption | decide | omega) ?_
      refine ldA bx_1 (base_add _ _) rfl ?_
      refine gSlice_intro rfl ?_
      refine lift_dec g (fun q_5 g => ?_) (fun q_5 g => ?_)
      · exact g _ _ k0 ⟨_, _, rfl, ⟨rfl, (show In .i64 (0 : Int) by decide)⟩, ⟨rfl, (show In .i64 (5 : Int) by decide)⟩⟩
      · refine lift_dec g (fun q_6 g => ?_) (fun q_6 g => ?_)
        · exact g _ _ k0 ⟨_, _, rfl, ⟨rfl, (show In .i64 (0 : Int) by decide)⟩, ⟨rfl, (show In .i64 (5 : Int) by decide)⟩⟩
        · refine lift_eq g (fun q_7 g => ?_) (fun q_7 g => ?_)
          · refine ldA bx_1 (base_add _ _) rfl ?_
            refine gBool_intro rfl ?_
            refine lift_not g (fun q_8 g => ?_) (fun q_8 g => ?_)
            · exact g _ _ k0 ⟨_, _, rfl, ⟨rfl, (show In .i64 (0 : Int) by decide)⟩, ⟨rfl, (show In .i64 (5 : Int) by decide)⟩⟩
            · exact D2.hv k0 (r0_1.tame (m_1.trans m_2)) bx_1 o_1 (in_at64 ((r0_1.tame (m_1.trans m_2))).toE _) g
          · exact D2.hv k0 (r0_1.tame (m_1.trans m_2)) bx_1 o_1 (in_at64 ((r0_1.tame (m_1.trans m_2))).toE _) g
def v (b0_0 : Bool) (xs0_1 : List Nat) : (Int × Int) := D1.v b0_0 xs0_1
theorem hv {h : Hp} {b0_0 : Bool} {a0_1 : Option Addr} {c0_1 l0_1 : Nat} {xs0_1 : List Nat} (r0_1 : Rd h a0_1 c0_1 xs0_1) (e0_1 : l0_1 = xs0_1.length) : HC id #[.agg #[.bool b0_0, .slice a0_1 l0_1 c0_1]] h fun v_ h_ => Keep h h_ ∧ (s2 (sI .i64) (sI .i64)) h h_ v_ (v b0_0 xs0_1) :=
  ok (D1.hv (Keep.refl _) r0_1 e0_1 fun v h' k s => ⟨k, s⟩)
end num_Small

namespace num_Cmp
def D3.v (b2_0 : Bool) (xs2_1 : List Nat) (b3_0 : Bool) (xs3_1 : List Nat) : (Int × Int) :=
  ((cmpI (val xs2_1) (val xs3_1)), (0 : Int))
theorem D3.hv {R : Rt} {h0 h : Hp} (k0 : Keep h0 h) {b2_0 : Bool} {a2_1 : Option Addr} {c2_1 : Nat} {xs2_1 : List Nat} (r2_1 : Rd h a2_1 c2_1 xs2_1) {B2 : Nat} (bx2 : BlkV h B2 [.bool b2_0, .slice a2_1 xs2_1.length c2_1]) (o2 : h0.size ≤ B2) {b3_0 : Bool} {a3_1 : Option Addr} {c3_1 : Nat} {xs3_1 : List Nat} (r3_1 : Rd h a3_1 c3_1 xs3_1) {B3 : Nat} (bx3 : BlkV h B3 [.bool b3_0, .slice a3_1 xs3_1.length c3_1]) (o3 : h0.size ≤ B3) (d2q3 : B2 ≠ B3) (g : Post (s2 (sI .i64) (sI .i64)) h0 R (D3.v b2_0 xs2_1 b3_0 xs3_1)) : D3.t R (⟨B2, 0, none⟩ : Addr) (⟨B3, 0, none⟩ : Addr) h := by
  have kh := Keep.refl h
  have lt2 := bx2.lt
  have lt3 := bx3.lt
  unfold D3.v at g
  unfold D3.t
  refine ldA bx2 (base_add _ _) rfl ?_
  refine gSlice_intro rfl ?_
  refine ldA bx3 (base_add _ _) rfl ?_
  refine gSlice_intro rfl ?_
  refine hc_intro (nat_Cmp.hv r2_1 rfl r3_1 rfl) fun v h_1 ⟨k_1, s⟩ => ?_
  obtain ⟨rfl, i_13⟩ := s
  refine gInt_intro rfl (?_)
  have m_1 := k_1.tame
  have bx2 := bx2.keep k_1
  have bx3 := bx3.keep k_1
  have k0 := k0.trans k_1
  have kh := kh.trans k_1
  exact g _ _ k0 ⟨_, _, rfl, ⟨rfl, i_13⟩, ⟨rfl, (show In .i64 (0 : Int) by decide)⟩⟩
def D2.v (b2_0 : Bool) (xs2_1 : List Nat) (b3_0 : Bool) (xs3_1 : List Nat) : (Int × Int) :=
  bif b2_0 then
    bif (!b3_0) then
      ((-1 : Int), (0 : Int))
    else
      bif (!b2_0) then
        bif b3_0 then
          ((1 : Int), (0 : Int))
        else
          bif b2_0 then
            ((cmpI (val xs3_1) (val xs2_1)), (0 : Int))
          else
            D3.v b2_0 xs2_1 b3_0 xs3_1
      else
        bif b2_0 then
          ((cmpI (val xs3_1) (val xs2_1)), (0 : Int))
        else
          D3.v b2_0 xs2_1 b3_0 xs3_1
  else
    bif (!b2_0) then
      bif b3_0 then
        ((1 : Int), (0 : Int))
      else
        bif b2_0 then
          ((cmpI (val xs3_1) (val xs2_1)), (0 : Int))
        else
          D3.v b2_0 xs2_1 b3_0 xs3_1
    else
      bif b2_0 then
        ((cmpI (val xs3_1) (val xs2_1)), (0 : Int))
      else
        D3.v b2_0 xs2_1 b3_0 xs3_1
theorem D2.hv {R : Rt} {h0 h : Hp} (k0 : Keep h0 h) {b2_0 : Bool} {a2_1 : Option Addr} {c2_1 : Nat} {xs2_1 : List Nat} (r2_1 : Rd h a2_1 c2_1 xs2_1) {B2 : Nat} (bx2 : BlkV h B2 [.bool b2_0, .slice a2_1 xs2_1.length c2_1]) (o2 : h0.size ≤ B2) {b3_0 : Bool} {a3_1 : Option Addr} {c3_1 : Nat} {xs3_1 : List Nat} (r3_1 : Rd h a3_1 c3_1 xs3_1) {B3 : Nat} (bx3 : BlkV h B3 [.bool b3_0, .slice a3_1 xs3_1.length c3_1]) (o3 : h0.size ≤ B3) (d2q3 : B2 ≠ B3) (g : Post (s2 (sI .i64) (sI .i64)) h0 R (D2.v b2_0 xs2_1 b3_0 xs3_1)) : D2.t R (⟨B2, 0, none⟩ : Addr) (⟨B3, 0, none⟩ : Addr) h := by
  have kh := Keep.refl h
  have lt2 := bx2.lt
  have lt3 := bx3.lt
  unfold D2.v at g
  unfold D2.t
  refine ldA bx2 (base_add _ _) rfl ?_
  refine gBool_intro rfl ?_
  refine lift_bool g (fun q_7 g => ?_) (fun q_7 g => ?_)
  · refine ldA bx3 (base_add _ _) rfl ?_
    refine gBool_intro rfl ?_
    refine lift_not g (fun q_8 g => ?_) (fun q_8 g => ?_)
    · exact g _ _ k0 ⟨_, _, rfl, ⟨rfl, (show In .i64 (-1 : Int) by decide)⟩, ⟨rfl, (show In .i64 (0 : Int) by decide)⟩⟩
    · refine ldA bx2 (base_add _ _) rfl ?_
      refine gBool_intro rfl ?_
      refine lift_not g (fun q_9 g => ?_) (fun q_9 g => ?_)
      · refine ldA bx3 (base_add _ _) rfl ?_
        refine gBool_intro rfl ?_
        refine lift_bool g (fun q_10 g => ?_) (fun q_10 g => ?_)
        · exact g _ _ k0 ⟨_, _, rfl, ⟨rfl, (show In .i64 (1 : Int) by decide)⟩, ⟨rfl, (show In .i64 (0 : Int) by decide)⟩⟩
        · refine ldA bx2 (base_add _ _) rfl ?_
          refine gBool_intro rfl ?_
          refine lift_bool g (fun q_11 g => ?_) (fun q_11 g => ?_)
          · refine ldA bx3 (base_add _ _) rfl ?_
            refine gSlice_intro rfl ?_
            refine ldA bx2 (base_add _ _) rfl ?_
            refine gSlice_intro rfl ?_
            refine hc_intro (nat_Cmp.hv r3_1 rfl r2_1 rfl) fun v h_1 ⟨k_1, s⟩ => ?_
            obtain ⟨rfl, i_12⟩ := s
            refine gInt_intro rfl (?_)
            have m_1 := k_1.tame
            have bx2 := bx2.keep k_1
            have bx3 := bx3.keep k_1
            have k0 := k0.trans k_1
            have kh := kh.trans k_1
            exact g _ _ k0 ⟨_, _, rfl, ⟨rfl, i_12⟩, ⟨rfl, (show In .i64 (0 : Int) by decide)⟩⟩
          · exact D3.hv k0 r2_1 bx2 o2 r3_1 bx3 o3 d2q3 g
      · refine ldA bx2 (base_add _ _) rfl ?_
        refine gBool_intro rfl ?_
        refine lift_bool g (fun q_14 g => ?_) (fun q_14 g => ?_)
        · refine ldA bx3 (base_add _ _) rfl ?_
          refine gSlice_intro rfl ?_
          refine ldA bx2 (base_add _ _) rfl ?_
          refine gSlice_intro rfl ?_
          refine hc_intro (nat_Cmp.hv r3_1 rfl r2_1 rfl) fun v h_1 ⟨k_1, s⟩ => ?_
          obtain ⟨rfl, i_15⟩ := s
          refine gInt_intro rfl (?_)
          have m_1 := k_1.tame
          have bx2 := bx2.keep k_1
          have bx3 := bx3.keep k_1
          have k0 := k0.trans k_1
          have kh := kh.trans k_1
          exact g _ _ k0 ⟨_, _, rfl, ⟨rfl, i_15⟩, ⟨rfl, (show In .i64 (0 : Int) by decide)⟩⟩
        · exact D3.hv k0 r2_1 bx2 o2 r3_1 bx3 o3 d2q3 g
  · refine ldA bx2 (base_add _ _) rfl ?_
    refine gBool_intro rfl ?_
    refine lift_not g (fun q_16 g => ?_) (fun q_16 g => ?_)
    · refine ldA bx3 (base_add _ _) rfl ?_
      refine gBool_intro rfl ?_
      refine lift_bool g (fun q_17 g => ?_) (fun q_17 g => ?_)
      · exact g _ _ k0 ⟨_, _, rfl, ⟨rfl, (show In .i64 (1 : Int) by decide)⟩, ⟨rfl, (show In .i64 (0 : Int) by decide)⟩⟩
      · refine ldA bx2 (base_add _ _) rfl ?_
        refine gBool_intro rfl ?_
        refine lift_bool g (fun q_18 g => ?_) (fun q_18 g => ?_)
        · refine ldA bx3 (base_add _ _) rfl ?_
          refine gSlice_intro rfl ?_
          refine ldA bx2 (base_add _ _) rfl ?_
          refine gSlice_intro rfl ?_
          refine hc_intro (nat_Cmp.hv r3_1 rfl r2_1 rfl) fun v h_1 ⟨k_1, s⟩ => ?_
          obtain ⟨rfl, i_19⟩ := s
          refine gInt_intro rfl (?_)
          have m_1 := k_1.tame
          have bx2 := bx2.keep k_1
          have bx3 := bx3.keep k_1
          have k0 := k0.trans k_1
          have kh := kh.trans k_1
          exact g _ _ k0 ⟨_, _, rfl, ⟨rfl, i_19⟩, ⟨rfl, (show In .i64 (0 : Int) by decide)⟩⟩
        · exact D3.hv k0 r2_1 bx2 o2 r3_1 bx3 o3 d2q3 g
    · refine ldA bx2 (base_add _ _) rfl ?_
      refine gBool_intro rfl ?_
      refine lift_bool g (fun q_20 g => ?_) (fun q_20 g => ?_)
      · refine ldA bx3 (base_add _ _) rfl ?_
        refine gSlice_intro rfl ?_
        refine ldA bx2 (base_add _ _) rfl ?_
        refine gSlice_intro rfl ?_
        refine hc_intro (nat_Cmp.hv r3_1 rfl r2_1 rfl) fun v h_1 ⟨k_1, s⟩ => ?_
        obtain ⟨rfl, i_21⟩ := s
        refine gInt_intro rfl (?_)
        have m_1 := k_1.tame
        have bx2 := bx2.keep k_1
        have bx3 := bx3.keep k_1
        have k0 := k0.trans k_1
        have kh := kh.trans k_1
        exact g _ _ k0 ⟨_, _, rfl, ⟨rfl, i_21⟩, ⟨rfl, (show In .i64 (0 : Int) by decide)⟩⟩
      · exact D3.hv k0 r2_1 bx2 o2 r3_1 bx3 o3 d2q3 g
def D1.v (b0_0 : Bool) (xs0_1 : List Nat) (b1_0 : Bool) (xs1_1 : List Nat) : (Int × Int) :=
  letV (num_Form.v b0_0 xs0_1) fun p_3 =>
  bif (!p_3) then
    ((0 : Int), (2 : Int))
  else
    letV (num_Form.v b1_0 xs1_1) fun p_5 =>
    bif (!p_5) then
      ((0 : Int), (2 : Int))
    else
      D2.v b0_0 xs0_1 b1_0 xs1_1
theorem D1.hv {R : Rt} {h0 h : Hp} (k0 : Keep h0 h) {b0_0 : Bool} {a0_1 : Option Addr} {c0_1 l0_1 : Nat} {xs0_1 : List Nat} (r0_1 : Rd h a0_1 c0_1 xs0_1) (e0_1 : l0_1 = xs0_1.length) {b1_0 : Bool} {a1_1 : Option Addr} {c1_1 l1_1 : Nat} {xs1_1 : List Nat} (r1_1 : Rd h a1_1 c1_1 xs1_1) (e1_1 : l1_1 = xs1_1.length) (g : Post (s2 (sI .i64) (sI .i64)) h0 R (D1.v b0_0 xs0_1 b1_0 xs1_1)) : D1.t R b0_0 a0_1 l0_1 c0_1 b1_0 a1_1 l1_1 c1_1 h := by
  subst e0_1 e1_1
  have kh := Keep.refl h
  unfold D1.v at g
  unfold D1.t
  refine boxV fun h_1 bx_1 k_1 => ?_
  have o_1 : h0.size ≤ h.size := k0.le
  have oh_1 : h.size ≤ h.size := kh.le
  have lt_1 := bx_1.lt
  have m_1 := k_1.tame
  have k0 := k0.trans k_1
  have kh := kh.trans k_1
  refine boxV fun h_2 bx_2 k_2 => ?_
  have d_1q_2 : h.size ≠ h_1.size := Nat.ne_of_lt bx_1.lt
  have o_2 : h0.size ≤ h_1.size := k0.le
  have oh_2 : h.size ≤ h_1.size := kh.le
  have lt_2 := bx_2.lt
  have m_2 := k_2.tame
  have bx_1 := bx_1.keep k_2
  have k0 := k0.trans k_2
  have kh := kh.trans k_2
  refine ldA bx_1 (base_add _ _) rfl ?_
  refine gBool_intro rfl ?_
  refine ldA bx_1 (base_add _ _) rfl ?_
  refine gSlice_intro rfl ?_
  refine hc_intro (num_Form.hv (r0_1.tame (m_1.trans m_2)) rfl) fun v h_3 ⟨k_3, s⟩ => ?_
  obtain ⟨p_3, hp_3⟩ : ∃ p, p = num_Form.v b0_0 xs0_1 := ⟨_, rfl⟩
  rw [← hp_3] at s
  replace g := lift_let2 hp_3 g
  obtain rfl := s
  refine gBool_intro rfl (?_)
  have m_3 := k_3.tame
  have bx_1 := bx_1.keep k_3
  have bx_2 := bx_2.keep k_3
  have k0 := k0.trans k_3
  have kh := kh.trans k_3
  refine lift_not g (fun q_4 g => ?_) (fun q_4 g => ?_)
  · exact g _ _ k0 ⟨_, _, rfl, ⟨rfl, (show In .i64 (0 : Int) by decide)⟩, ⟨rfl, (show In .i64 (2 : Int) by decide)⟩⟩
  · refine ldA bx_2 (base_add _ _) rfl ?_
    refine gBool_intro rfl ?_
    refine ldA bx_2 (base_add _ _) rfl ?_
    refine gSlice_intro rfl ?_
    refine hc_intro (num_Form.hv (r1_1.tame (m_1.trans (m_2.trans m_3))) rfl) fun v h_4 ⟨k_4, s⟩ => ?_
    obtain ⟨p_5, hp_5⟩ : ∃ p, p = num_Form.v b1_0 xs1_1 := ⟨_, rfl⟩
    rw [← hp_5] at s
    replace g := lift_let2 hp_5 g
    obtain rfl := s
    refine gBool_intro rfl (?_)
    have m_4 := k_4.tame
    have bx_1 := bx_1.keep k_4
    have bx_2 := bx_2.keep k_4
    have k0 := k0.trans k_4
    have kh := kh.trans k_4
    refine lift_not g (fun q_6 g => ?_) (fun q_6 g => ?_)
    · exact g _ _ k0 ⟨_, _, rfl, ⟨rfl, (show In .i64 (0 : Int) by decide)⟩, ⟨rfl, (show In .i64 (2 : Int) by decide)⟩⟩
    · exact D2.hv k0 (r0_1.tame (m_1.trans (m_2.trans (m_3.trans m_4)))) bx_1 o_1 (r1_1.tame (m_1.trans (m_2.trans (m_3.trans m_4)))) bx_2 o_2 d_1q_2 g
def v (b0_0 : Bool) (xs0_1 : List Nat) (b1_0 : Bool) (xs1_1 : List Nat) : (Int × Int) := D1.v b0_0 xs0_1 b1_0 xs1_1
theorem hv {h : Hp} {b0_0 : Bool} {a0_1 : Option Addr} {c0_1 l0_1 : Nat} {xs0_1 : List Nat} (r0_1 : Rd h a0_1 c0_1 xs0_1) (e0_1 : l0_1 = xs0_1.length) {b1_0 : Bool} {a1_1 : Option Addr} {c1_1 l1_1 : Nat} {xs1_1 : List Nat} (r1_1 : Rd h a1_1 c1_1 xs1_1) (e1_1 : l1_1 = xs1_1.length) : HC id #[.agg #[.bool b0_0, .slice a0_1 l0_1 c0_1], .agg #[.bool b1_0, .slice a1_1 l1_1 c1_1]] h fun v_ h_ => Keep h h_ ∧ (s2 (sI .i64) (sI .i64)) h h_ v_ (v b0_0 xs0_1 b1_0 xs1_1) :=
  ok (D1.hv (Keep.refl _) r0_1 e0_1 r1_1 e1_1 fun v h' k s => ⟨k, s⟩)
end num_Cmp

namespace num_Neg
def D1.v (b0_0 : Bool) (xs0_1 : List Nat) : ((Bool × List Nat) × Int) :=
  letV (num_Form.v b0_0 xs0_1) fun p_3 =>
  bif (!p_3) then
    ((false, ([] : List Nat)), (2 : Int))
  else
    letV (lim (val xs0_1)) fun p_5 =>
    letV (tellZ (!b0_0) (p_5.1, p_5.2)) fun p_6 =>
    ((p_6.1.1, p_6.1.2), p_6.2)
theorem D1.hv {R : Rt} {h0 h : Hp} (k0 : Keep h0 h) {b0_0 : Bool} {a0_1 : Option Addr} {c0_1 l0_1 : Nat} {xs0_1 : List Nat} (r0_1 : Rd h a0_1 c0_1 xs0_1) (e0_1 : l0_1 = xs0_1.length) (g : Post (s2 sZW (sI .i64)) h0 R (D1.v b0_0 xs0_1)) : D1.t R b0_0 a0_1 l0_1 c0_1 h := by
  subst e0_1
  have kh := Keep.refl h
  unfold D1.v at g
  unfold D1.t
  refine boxV fun h_1 bx_1 k_1 => ?_
  have o_1 : h0.size ≤ h.size := k0.le
  have oh_1 : h.size ≤ h.size := kh.le
  have lt_1 := bx_1.lt
  have m_1 := k_1.tame
  have k0 := k0.trans k_1
  have kh := kh.trans k_1
  refine boxV fun h_2 bx_2 k_2 => ?_
  have d_1q_2 : h.size ≠ h_1.size := Nat.ne_of_lt bx_1.lt
  have o_2 : h0.size ≤ h_1.size := k0.le
  have oh_2 : h.size ≤ h_1.size := kh.le
  have lt_2 := bx_2.lt
  have m_2 := k_2.tame
  have bx_1 := bx_1.keep k_2
  have k0 := k0.trans k_2
  have kh := kh.trans k_2
  refine ldA bx_1 (base_add _ _) rfl ?_
  refine gBool_intro rfl ?_
  refine ldA bx_1 (base_add _ _) rfl ?_
  refine gSlice_intro rfl ?_
  refine hc_intro (num_Form.hv (r0_1.tame (m_1.trans m_2)) rfl) fun v h_3 ⟨k_3, s⟩ => ?_
  obtain ⟨p_3, hp_3⟩ : ∃ p, p = num_Form.v b0_0 xs0_1 := ⟨_, rfl⟩
  rw [← hp_3] at s
  replace g := lift_let2 hp_3 g
  obtain rfl := s
  refine gBool_intro rfl (?_)
  have m_3 := k_3.tame
  have bx_1 := bx_1.keep k_3
  have bx_2 := bx_2.keep k_3
  have k0 := k0.trans k_3
  have kh := kh.trans k_3
  refine lift_not g (fun q_4 g => ?_) (fun q_4 g => ?_)
  · refine stA bx_2 (base_add _ _) rfl fun h_4 bx_2 k_4 m_4 => ?_
    have bx_1 := bx_1.keepB d_1q_2 k_4
    have k0 := KeepB.keep k0 k_4 o_2
    have kh := KeepB.keep kh k_4 oh_2
    refine stA bx_2 (base_add _ _) rfl fun h_5 bx_2 k_5 m_5 => ?_
    have bx_1 := bx_1.keepB d_1q_2 k_5
    have k0 := KeepB.keep k0 k_5 o_2
    have kh := KeepB.keep kh k_5 oh_2
    refine ldA bx_2 (base_add _ _) rfl ?_
    refine gBool_intro rfl ?_
    refine ldA bx_2 (base_add _ _) rfl ?_
    refine gSlice_intro rfl ?_
    exact g _ _ k0 ⟨_, _, rfl, ⟨_, _, rfl, (GotE.nil _ _)⟩, ⟨rfl, (show In .i64 (2 : Int) by decide)⟩⟩
  · refine ldA bx_1 (base_add _ _) rfl ?_
    refine gSlice_intro rfl ?_
    refine hc_intro (nat_Norm.hv (r0_1.tame (m_1.trans (m_2.trans m_3))) rfl) fun v h_4 ⟨k_4, s⟩ => ?_
    obtain ⟨p_5, hp_5⟩ : ∃ p, p = lim (val xs0_1) := ⟨_, rfl⟩
    rw [← hp_5] at s
    replace g := lift_let2 hp_5 g
    obtain ⟨_, _, rfl, ⟨a_5_0, c_5_0, rfl, r_5_0⟩, ⟨rfl, i_5_1⟩⟩ := s
    refine gTup_intro rfl (uncons_intro (gSlice_intro rfl (uncons_intro (gInt_intro rfl (unnil_intro (?_))))))
    have r_5_0 := r_5_0.from k0.le
    have m_4 := k_4.tame
    have bx_1 := bx_1.keep k_4
    have bx_2 := bx_2.keep k_4
    have k0 := k0.trans k_4
    have kh := kh.trans k_4
    refine ldA bx_1 (base_add _ _) rfl ?_
    refine gBool_intro rfl ?_
    refine hc_intro (num_told.hf r_5_0 rfl i_5_1) fun v h_5 ⟨k_5, s⟩ => ?_
    obtain ⟨p_6, hp_6⟩ : ∃ p, p = tellZ (!b0_0) (p_5.1, p_5.2) := ⟨_, rfl⟩
    rw [← hp_6] at s
    replace g := lift_let2 hp_6 g
    obtain ⟨_, _, rfl, ⟨a_6_0, c_6_0, rfl, r_6_0⟩, ⟨rfl, i_6_1⟩⟩ := s
    refine gTup_intro rfl (uncons_intro (gAgg_intro rfl (uncons_intro (gBool_intro rfl (uncons_intro (gSlice_intro rfl (unnil_intro (uncons_intro (gInt_intro rfl (unnil_intro (?_)))))))))))
    have m_5 := k_5.tame
    have bx_1 := bx_1.keep k_5
    have bx_2 := bx_2.keep k_5
    have k0 := k0.trans k_5
    have kh := kh.trans k_5
    refine stA bx_2 (base_add _ _) rfl fun h_6 bx_2 k_6 m_6 => ?_
    have bx_1 := bx_1.keepB d_1q_2 k_6
    have k0 := KeepB.keep k0 k_6 o_2
    have kh := KeepB.keep kh k_6 oh_2
    refine stA bx_2 (base_add _ _) rfl fun h_7 bx_2 k_7 m_7 => ?_
    have bx_1 := bx_1.keepB d_1q_2 k_7
    have k0 := KeepB.keep k0 k_7 o_2
    have kh := KeepB.keep kh k_7 oh_2
    refine ldA bx_2 (base_add _ _) rfl ?_
    refine gBool_intro rfl ?_
    refine ldA bx_2 (base_add _ _) rfl ?_
    refine gSlice_intro rfl ?_
    exact g _ _ k0 ⟨_, _, rfl, ⟨_, _, rfl, (r_6_0.tame (m_6.trans m_7))⟩, ⟨rfl, i_6_1⟩⟩
def v (b0_0 : Bool) (xs0_1 : List Nat) : ((Bool × List Nat) × Int) := D1.v b0_0 xs0_1
theorem hv {h : Hp} {b0_0 : Bool} {a0_1 : Option Addr} {c0_1 l0_1 : Nat} {xs0_1 : List Nat} (r0_1 : Rd h a0_1 c0_1 xs0_1) (e0_1 : l0_1 = xs0_1.length) : HC id #[.agg #[.bool b0_0, .slice a0_1 l0_1 c0_1]] h fun v_ h_ => Keep h h_ ∧ (s2 sZW (sI .i64)) h h_ v_ (v b0_0 xs0_1) :=
  ok (D1.hv (Keep.refl _) r0_1 e0_1 fun v h' k s => ⟨k, s⟩)
end num_Neg

namespace num_Add
def D3.v (b2_0 : Bool) (xs2_1 : List Nat) (b3_0 : Bool) (xs3_1 : List Nat) (b4_0 : Bool) (xs4_1 : List Nat) : ((Bool × List Nat) × Int) :=
  letV (subS xs2_1 xs3_1) fun p_13 =>
  letV (tellZ b2_0 (p_13.1, p_13.2)) fun p_14 =>
  ((p_14.1.1, p_14.1.2), p_14.2)
theorem D3.hv {R : Rt} {h0 h : Hp} (k0 : Keep h0 h) {b2_0 : Bool} {a2_1 : Option Addr} {c2_1 : Nat} {xs2_1 : List Nat} (r2_1 : Rd h a2_1 c2_1 xs2_1) {B2 : Nat} (bx2 : BlkV h B2 [.bool b2_0, .slice a2_1 xs2_1.length c2_1]) (o2 : h0.size ≤ B2) {b3_0 : Bool} {a3_1 : Option Addr} {c3_1 : Nat} {xs3_1 : List Nat} (r3_1 : Rd h a3_1 c3_1 xs3_1) {B3 : Nat} (bx3 : BlkV h B3 [.bool b3_0, .slice a3_1 xs3_1.length c3_1]) (o3 : h0.size ≤ B3) {b4_0 : Bool} {a4_1 : Option Addr} {c4_1 : Nat} {xs4_1 : List Nat} (r4_1 : GotE eU64 h0 h a4_1 c4_1 xs4_1) {B4 : Nat} (bx4 : BlkV h B4 [.bool b4_0, .slice a4_1 xs4_1.length c4_1]) (o4 : h0.size ≤ B4) (d2q3 : B2 ≠ B3) (d2q4 : B2 ≠ B4) (d3q4 : B3 ≠ B4) (g : Post (s2 sZW (sI .i64)) h0 R (D3.v b2_0 xs2_1 b3_0 xs3_1 b4_0 xs4_1)) : D3.t R (⟨B2, 0, none⟩ : Addr) (⟨B3, 0, none⟩ : Addr) (⟨B4, 0, none⟩ : Addr) h := by
  have kh := Keep.refl h
  have lt2 := bx2.lt
  have lt3 := bx3.lt
  have lt4 := bx4.lt
  unfold D3.v at g
  unfold D3.t
  refine ldA bx2 (base_add _ _) rfl ?_
  refine gSlice_intro rfl ?_
  refine ldA bx3 (base_add _ _) rfl ?_
  refine gSlice_intro rfl ?_
  refine hc_intro (nat_Sub.hv r2_1 rfl r3_1 rfl) fun v h_1 ⟨k_1, s⟩ => ?_
  obtain ⟨p_13, hp_13⟩ : ∃ p, p = subS xs2_1 xs3_1 := ⟨_, rfl⟩
  rw [← hp_13] at s
  replace g := lift_let2 hp_13 g
  obtain ⟨_, _, rfl, ⟨a_13_0, c_13_0, rfl, r_13_0⟩, ⟨rfl, i_13_1⟩⟩ := s
  refine gTup_intro rfl (uncons_intro (gSlice_intro rfl (uncons_intro (gInt_intro rfl (unnil_intro (?_))))))
  have r_13_0 := r_13_0.from k0.le
  have m_1 := k_1.tame
  have bx2 := bx2.keep k_1
  have bx3 := bx3.keep k_1
  have bx4 := bx4.keep k_1
  have k0 := k0.trans k_1
  have kh := kh.trans k_1
  refine ldA bx2 (base_add _ _) rfl ?_
  refine gBool_intro rfl ?_
  refine hc_intro (num_told.hf r_13_0 rfl i_13_1) fun v h_2 ⟨k_2, s⟩ => ?_
  obtain ⟨p_14, hp_14⟩ : ∃ p, p = tellZ b2_0 (p_13.1, p_13.2) := ⟨_, rfl⟩
  rw [← hp_14] at s
  replace g := lift_let2 hp_14 g
  obtain ⟨_, _, rfl, ⟨a_14_0, c_14_0, rfl, r_14_0⟩, ⟨rfl, i_14_1⟩⟩ := s
  refine gTup_intro rfl (uncons_intro (gAgg_intro rfl (uncons_intro (gBool_intro rfl (uncons_intro (gSlice_intro rfl (unnil_intro (uncons_intro (gInt_intro rfl (unnil_intro (?_)))))))))))
  have m_2 := k_2.tame
  have bx2 := bx2.keep k_2
  have bx3 := bx3.keep k_2
  have bx4 := bx4.keep k_2
  have k0 := k0.trans k_2
  have kh := kh.trans k_2
  refine stA bx4 (base_add _ _) rfl fun h_3 bx4 k_3 m_3 => ?_
  have bx2 := bx2.keepB d2q4 k_3
  have bx3 := bx3.keepB d3q4 k_3
  have k0 := KeepB.keep k0 k_3 o4
  refine stA bx4 (base_add _ _) rfl fun h_4 bx4 k_4 m_4 => ?_
  have bx2 := bx2.keepB d2q4 k_4
  have bx3 := bx3.keepB d3q4 k_4
  have k0 := KeepB.keep k0 k_4 o4
  refine ldA bx4 (base_add _ _) rfl ?_
  refine gBool_intro rfl ?_
  refine ldA bx4 (base_add _ _) rfl ?_
  refine gSlice_intro rfl ?_
  exact g _ _ k0 ⟨_, _, rfl, ⟨_, _, rfl, (r_14_0.tame (m_3.trans m_4))⟩, ⟨rfl, i_14_1⟩⟩
def D2.v (b2_0 : Bool) (xs2_1 : List Nat) (b3_0 : Bool) (xs3_1 : List Nat) (b4_0 : Bool) (xs4_1 : List Nat) : ((Bool × List Nat) × Int) :=
  bif (b2_0 == b3_0) then
    letV (addS xs2_1 xs3_1) fun p_9 =>
    letV (tellZ b2_0 (p_9.1, p_9.2)) fun p_10 =>
    ((p_10.1.1, p_10.1.2), p_10.2)
  else
    bif (decide (((cmpI (val xs2_1) (val xs3_1))) < (0 : Int))) then
      D3.v b3_0 xs3_1 b2_0 xs2_1 b4_0 xs4_1
    else
      D3.v b2_0 xs2_1 b3_0 xs3_1 b4_0 xs4_1
theorem D2.hv {R : Rt} {h0 h : Hp} (k0 : Keep h0 h) {b2_0 : Bool} {a2_1 : Option Addr} {c2_1 : Nat} {xs2_1 : List Nat} (r2_1 : Rd h a2_1 c2_1 xs2_1) {B2 : Nat} (bx2 : BlkV h B2 [.bool b2_0, .slice a2_1 xs2_1.length c2_1]) (o2 : h0.size ≤ B2) {b3_0 : Bool} {a3_1 : Option Addr} {c3_1 : Nat} {xs3_1 : List Nat} (r3_1 : Rd h a3_1 c3_1 xs3_1) {B3 : Nat} (bx3 : BlkV h B3 [.bool b3_0, .slice a3_1 xs3_1.length c3_1]) (o3 : h0.size ≤ B3) {b4_0 : Bool} {a4_1 : Option Addr} {c4_1 : Nat} {xs4_1 : List Nat} (r4_1 : GotE eU64 h0 h a4_1 c4_1 xs4_1) {B4 : Nat} (bx4 : BlkV h B4 [.bool b4_0, .slice a4_1 xs4_1.length c4_1]) (o4 : h0.size ≤ B4) (d2q3 : B2 ≠ B3) (d2q4 : B2 ≠ B4) (d3q4 : B3 ≠ B4) (g : Post (s2 sZW (sI .i64)) h0 R (D2.v b2_0 xs2_1 b3_0 xs3_1 b4_0 xs4_1)) : D2.t R (⟨B2, 0, none⟩ : Addr) (⟨B3, 0, none⟩ : Addr) (⟨B4, 0, none⟩ : Addr) h := by
  have kh := Keep.refl h
  have lt2 := bx2.lt
  have lt3 := bx3.lt
  have lt4 := bx4.lt
  unfold D2.v at g
  unfold D2.t
  refine ldA bx2 (base_add _ _) rfl ?_
  refine gBool_intro rfl ?_
  refine ldA bx3 (base_add _ _) rfl ?_
  refine gBool_intro rfl ?_
  refine lift_bool g (fun q_8 g => ?_) (fun q_8 g => ?_)
  · refine ldA bx2 (base_add _ _) rfl ?_
    refine gSlice_intro rfl ?_
    refine ldA bx3 (base_add _ _) rfl ?_
    refine gSlice_intro rfl ?_
    refine hc_intro (nat_Add.hv r2_1 rfl r3_1 rfl) fun v h_1 ⟨k_1, s⟩ => ?_
    obtain ⟨p_9, hp_9⟩ : ∃ p, p = addS xs2_1 xs3_1 := ⟨_, rfl⟩
    rw [← hp_9] at s
    replace g := lift_let2 hp_9 g
    obtain ⟨_, _, rfl, ⟨a_9_0, c_9_0, rfl, r_9_0⟩, ⟨rfl, i_9_1⟩⟩ := s
    refine gTup_intro rfl (uncons_intro (gSlice_intro rfl (uncons_intro (gInt_intro rfl (unnil_intro (?_))))))
    have r_9_0 := r_9_0.from k0.le
    have m_1 := k_1.tame
    have bx2 := bx2.keep k_1
    have bx3 := bx3.keep k_1
    have bx4 := bx4.keep k_1
    have k0 := k0.trans k_1
    have kh := kh.trans k_1
    refine ldA bx2 (base_add _ _) rfl ?_
    refine gBool_intro rfl ?_
    refine hc_intro (num_told.hf r_9_0 rfl i_9_1) fun v h_2 ⟨k_2, s⟩ => ?_
    obtain ⟨p_10, hp_10⟩ : ∃ p, p = tellZ b2_0 (p_9.1, p_9.2) := ⟨_, rfl⟩
    rw [← hp_10] at s
    replace g := lift_let2 hp_10 g
    obtain ⟨_, _, rfl, ⟨a_10_0, c_10_0, rfl, r_10_0⟩, ⟨rfl, i_10_1⟩⟩ := s
    refine gTup_intro rfl (uncons_intro (gAgg_intro rfl (uncons_intro (gBool_intro rfl (uncons_intro (gSlice_intro rfl (unnil_intro (uncons_intro (gInt_intro rfl (unnil_intro (?_)))))))))))
    have m_2 := k_2.tame
    have bx2 := bx2.keep k_2
    have bx3 := bx3.keep k_2
    have bx4 := bx4.keep k_2
    have k0 := k0.trans k_2
    have kh := kh.trans k_2
    refine stA bx4 (base_add _ _) rfl fun h_3 bx4 k_3 m_3 => ?_
    have bx2 := bx2.keepB d2q4 k_3
    have bx3 := bx3.keepB d3q4 k_3
    have k0 := KeepB.keep k0 k_3 o4
    refine stA bx4 (base_add _ _) rfl fun h_4 bx4 k_4 m_4 => ?_
    have bx2 := bx2.keepB d2q4 k_4
    have bx3 := bx3.keepB d3q4 k_4
    have k0 := KeepB.keep k0 k_4 o4
    refine ldA bx4 (base_add _ _) rfl ?_
    refine gBool_intro rfl ?_
    refine ldA bx4 (base_add _ _) rfl ?_
    refine gSlice_intro rfl ?_
    exact g _ _ k0 ⟨_, _, rfl, ⟨_, _, rfl, (r_10_0.tame (m_3.trans m_4))⟩, ⟨rfl, i_10_1⟩⟩
  · refine ldA bx2 (base_add _ _) rfl ?_
    refine gSlice_intro rfl ?_
    refine ldA bx3 (base_add _ _) rfl ?_
    refine gSlice_intro rfl ?_
    refine hc_intro (nat_Cmp.hv r2_1 rfl r3_1 rfl) fun v h_1 ⟨k_1, s⟩ => ?_
    obtain ⟨rfl, i_11⟩ := s
    refine gInt_intro rfl (?_)
    have m_1 := k_1.tame
    have bx2 := bx2.keep k_1
    have bx3 := bx3.keep k_1
    have bx4 := bx4.keep k_1
    have k0 := k0.trans k_1
    have kh := kh.trans k_1
    refine lift_dec g (fun q_12 g => ?_) (fun q_12 g => ?_)
    · refine ldA bx3 (base_add _ _) rfl ?_
      refine gBool_intro rfl ?_
      refine ldA bx3 (base_add _ _) rfl ?_
      refine gSlice_intro rfl ?_
      refine ldA bx2 (base_add _ _) rfl ?_
      refine gBool_intro rfl ?_
      refine ldA bx2 (base_add _ _) rfl ?_
      refine gSlice_intro rfl ?_
      refine stA bx2 (base_add _ _) rfl fun h_2 bx2 k_2 m_2 => ?_
      have bx3 := bx3.keepB (Ne.symm d2q3) k_2
      have bx4 := bx4.keepB (Ne.symm d2q4) k_2
      have k0 := KeepB.keep k0 k_2 o2
      refine stA bx2 (base_add _ _) rfl fun h_3 bx2 k_3 m_3 => ?_
      have bx3 := bx3.keepB (Ne.symm d2q3) k_3
      have bx4 := bx4.keepB (Ne.symm d2q4) k_3
      have k0 := KeepB.keep k0 k_3 o2
      refine stA bx3 (base_add _ _) rfl fun h_4 bx3 k_4 m_4 => ?_
      have bx2 := bx2.keepB d2q3 k_4
      have bx4 := bx4.keepB (Ne.symm d3q4) k_4
      have k0 := KeepB.keep k0 k_4 o3
      refine stA bx3 (base_add _ _) rfl fun h_5 bx3 k_5 m_5 => ?_
      have bx2 := bx2.keepB d2q3 k_5
      have bx4 := bx4.keepB (Ne.symm d3q4) k_5
      have k0 := KeepB.keep k0 k_5 o3
      exact D3.hv k0 (r3_1.tame (m_1.trans (m_2.trans (m_3.trans (m_4.trans m_5))))) bx2 o2 (r2_1.tame (m_1.trans (m_2.trans (m_3.trans (m_4.trans m_5))))) bx3 o3 (r4_1.tame (m_1.trans (m_2.trans (m_3.trans (m_4.trans m_5))))) bx4 o4 d2q3 d2q4 d3q4 g
    · exact D3.hv k0 (r2_1.tame (m_1)) bx2 o2 (r3_1.tame (m_1)) bx3 o3 (r4_1.tame (m_1)) bx4 o4 d2q3 d2q4 d3q4 g
def D1.v (b0_0 : Bool) (xs0_1 : List Nat) (b1_0 : Bool) (xs1_1 : List Nat) : ((Bool × List Nat) × Int) :=
  letV (num_Form.v b0_0 xs0_1) fun p_4 =>
  bif (!p_4) then
    ((false, ([] : List Nat)), (2 : Int))
  else
    letV (num_Form.v b1_0 xs1_1) fun p_6 =>
    bif (!p_6) then
      ((false, ([] : List Nat)), (2 : Int))
    else
      D2.v b0_0 xs0_1 b1_0 xs1_1 false ([] : List Nat)
theorem D1.hv {R : Rt} {h0 h : Hp} (k0 : Keep h0 h) {b0_0 : Bool} {a0_1 : Option Addr} {c0_1 l0_1 : Nat} {xs0_1 : List Nat} (r0_1 : Rd h a0_1 c0_1 xs0_1) (e0_1 : l0_1 = xs0_1.length) {b1_0 : Bool} {a1_1 : Option Addr} {c1_1 l1_1 : Nat} {xs1_1 : List Nat} (r1_1 : Rd h a1_1 c1_1 xs1_1) (e1_1 : l1_1 = xs1_1.length) (g : Post (s2 sZW (sI .i64)) h0 R (D1.v b0_0 xs0_1 b1_0 xs1_1)) : D1.t R b0_0 a0_1 l0_1 c0_1 b1_0 a1_1 l1_1 c1_1 h := by
  subst e0_1 e1_1
  have kh := Keep.refl h
  unfold D1.v at g
  unfold D1.t
  refine boxV fun h_1 bx_1 k_1 => ?_
  have o_1 : h0.size ≤ h.size := k0.le
  have oh_1 : h.size ≤ h.size := kh.le
  have lt_1 := bx_1.lt
  have m_1 := k_1.tame
  have k0 := k0.trans k_1
  have kh := kh.trans k_1
  refine boxV fun h_2 bx_2 k_2 => ?_
  have d_1q_2 : h.size ≠ h_1.size := Nat.ne_of_lt bx_1.lt
  have o_2 : h0.size ≤ h_1.size := k0.le
  have oh_2 : h.size ≤ h_1.size := kh.le
  have lt_2 := bx_2.lt
  have m_2 := k_2.tame
  have bx_1 := bx_1.keep k_2
  have k0 := k0.trans k_2
  have kh := kh.trans k_2
  refine boxV fun h_3 bx_3 k_3 => ?_
  have d_1q_3 : h.size ≠ h_2.size := Nat.ne_of_lt bx_1.lt
  have d_2q_3 : h_1.size ≠ h_2.size := Nat.ne_of_lt bx_2.lt
  have o_3 : h0.size ≤ h_2.size := k0.le
  have oh_3 : h.size ≤ h_2.size := kh.le
  have lt_3 := bx_3.lt
  have m_3 := k_3.tame
  have bx_1 := bx_1.keep k_3
  have bx_2 := bx_2.keep k_3
  have k0 := k0.trans k_3
  have kh := kh.trans k_3
  refine ldA bx_1 (base_add _ _) rfl ?_
  refine gBool_intro rfl ?_
  refine ldA bx_1 (base_add _ _) rfl ?_
  refine gSlice_intro rfl ?_
  refine hc_intro (num_Form.hv (r0_1.tame (m_1.trans (m_2.trans m_3))) rfl) fun v h_4 ⟨k_4, s⟩ => ?_
  obtain ⟨p_4, hp_4⟩ : ∃ p, p = num_Form.v b0_0 xs0_1 := ⟨_, rfl⟩
  rw [← hp_4] at s
  replace g := lift_let2 hp_4 g
  obtain rfl := s
  refine gBool_intro rfl (?_)
  have m_4 := k_4.tame
  have bx_1 := bx_1.keep k_4
  have bx_2 := bx_2.keep k_4
  have bx_3 := bx_3.keep k_4
  have k0 := k0.trans k_4
  have kh := kh.trans k_4
  refine lift_not g (fun q_5 g => ?_) (fun q_5 g => ?_)
  · refine stA bx_3 (base_add _ _) rfl fun h_5 bx_3 k_5 m_5 => ?_
    have bx_1 := bx_1.keepB d_1q_3 k_5
    have bx_2 := bx_2.keepB d_2q_3 k_5
    have k0 := KeepB.keep k0 k_5 o_3
    have kh := KeepB.keep kh k_5 oh_3
    refine stA bx_3 (base_add _ _) rfl fun h_6 bx_3 k_6 m_6 => ?_
    have bx_1 := bx_1.keepB d_1q_3 k_6
    have bx_2 := bx_2.keepB d_2q_3 k_6
    have k0 := KeepB.keep k0 k_6 o_3
    have kh := KeepB.keep kh k_6 oh_3
    refine ldA bx_3 (base_add _ _) rfl ?_
    refine gBool_intro rfl ?_
    refine ldA bx_3 (base_add _ _) rfl ?_
    refine gSlice_intro rfl ?_
    exact g _ _ k0 ⟨_, _, rfl, ⟨_, _, rfl, (GotE.nil _ _)⟩, ⟨rfl, (show In .i64 (2 : Int) by decide)⟩⟩
  · refine ldA bx_2 (base_add _ _) rfl ?_
    refine gBool_intro rfl ?_
    refine ldA bx_2 (base_add _ _) rfl ?_
    refine gSlice_intro rfl ?_
    refine hc_intro (num_Form.hv (r1_1.tame (m_1.trans (m_2.trans (m_3.trans m_4)))) rfl) fun v h_5 ⟨k_5, s⟩ => ?_
    obtain ⟨p_6, hp_6⟩ : ∃ p, p = num_Form.v b1_0 xs1_1 := ⟨_, rfl⟩
    rw [← hp_6] at s
    replace g := lift_let2 hp_6 g
    obtain rfl := s
    refine gBool_intro rfl (?_)
    have m_5 := k_5.tame
    have bx_1 := bx_1.keep k_5
    have bx_2 := bx_2.keep k_5
    have bx_3 := bx_3.keep k_5
    have k0 := k0.trans k_5
    have kh := kh.trans k_5
    refine lift_not g (fun q_7 g => ?_) (fun q_7 g => ?_)
    · refine stA bx_3 (base_add _ _) rfl fun h_6 bx_3 k_6 m_6 => ?_
      have bx_1 := bx_1.keepB d_1q_3 k_6
      have bx_2 := bx_2.keepB d_2q_3 k_6
      have k0 := KeepB.keep k0 k_6 o_3
      have kh := KeepB.keep kh k_6 oh_3
      refine stA bx_3 (base_add _ _) rfl fun h_7 bx_3 k_7 m_7 => ?_
      have bx_1 := bx_1.keepB d_1q_3 k_7
      have bx_2 := bx_2.keepB d_2q_3 k_7
      have k0 := KeepB.keep k0 k_7 o_3
      have kh := KeepB.keep kh k_7 oh_3
      refine ldA bx_3 (base_add _ _) rfl ?_
      refine gBool_intro rfl ?_
      refine ldA bx_3 (base_add _ _) rfl ?_
      refine gSlice_intro rfl ?_
      exact g _ _ k0 ⟨_, _, rfl, ⟨_, _, rfl, (GotE.nil _ _)⟩, ⟨rfl, (show In .i64 (2 : Int) by decide)⟩⟩
    · exact D2.hv k0 (r0_1.tame (m_1.trans (m_2.trans (m_3.trans (m_4.trans m_5))))) bx_1 o_1 (r1_1.tame (m_1.trans (m_2.trans (m_3.trans (m_4.trans m_5))))) bx_2 o_2 (GotE.nil _ _) bx_3 o_3 d_1q_2 d_1q_3 d_2q_3 g
def v (b0_0 : Bool) (xs0_1 : List Nat) (b1_0 : Bool) (xs1_1 : List Nat) : ((Bool × List Nat) × Int) := D1.v b0_0 xs0_1 b1_0 xs1_1
theorem hv {h : Hp} {b0_0 : Bool} {a0_1 : Option Addr} {c0_1 l0_1 : Nat} {xs0_1 : List Nat} (r0_1 : Rd h a0_1 c0_1 xs0_1) (e0_1 : l0_1 = xs0_1.length) {b1_0 : Bool} {a1_1 : Option Addr} {c1_1 l1_1 : Nat} {xs1_1 : List Nat} (r1_1 : Rd h a1_1 c1_1 xs1_1) (e1_1 : l1_1 = xs1_1.length) : HC id #[.agg #[.bool b0_0, .slice a0_1 l0_1 c0_1], .agg #[.bool b1_0, .slice a1_1 l1_1 c1_1]] h fun v_ h_ => Keep h h_ ∧ (s2 sZW (sI .i64)) h h_ v_ (v b0_0 xs0_1 b1_0 xs1_1) :=
  ok (D1.hv (Keep.refl _) r0_1 e0_1 r1_1 e1_1 fun v h' k s => ⟨k, s⟩)
end num_Add

namespace num_Mul
def D2.v (b2_0 : Bool) (xs2_1 : List Nat) (b3_0 : Bool) (xs3_1 : List Nat) (b4_0 : Bool) (xs4_1 : List Nat) : ((Bool × List Nat) × Int) :=
  letV (mulS xs2_1 xs3_1) fun p_8 =>
  letV (tellZ ((!(b2_0 == b3_0))) (p_8.1, p_8.2)) fun p_9 =>
  ((p_9.1.1, p_9.1.2), p_9.2)
theorem D2.hv {R : Rt} {h0 h : Hp} (k0 : Keep h0 h) {b2_0 : Bool} {a2_1 : Option Addr} {c2_1 : Nat} {xs2_1 : List Nat} (r2_1 : Rd h a2_1 c2_1 xs2_1) {B2 : Nat} (bx2 : BlkV h B2 [.bool b2_0, .slice a2_1 xs2_1.length c2_1]) (o2 : h0.size ≤ B2) {b3_0 : Bool} {a3_1 : Option Addr} {c3_1 : Nat} {xs3_1 : List Nat} (r3_1 : Rd h a3_1 c3_1 xs3_1) {B3 : Nat} (bx3 : BlkV h B3 [.bool b3_0, .slice a3_1 xs3_1.length c3_1]) (o3 : h0.size ≤ B3) {b4_0 : Bool} {a4_1 : Option Addr} {c4_1 : Nat} {xs4_1 : List Nat} (r4_1 : GotE eU64 h0 h a4_1 c4_1 xs4_1) {B4 : Nat} (bx4 : BlkV h B4 [.bool b4_0, .slice a4_1 xs4_1.length c4_1]) (o4 : h0.size ≤ B4) (d2q3 : B2 ≠ B3) (d2q4 : B2 ≠ B4) (d3q4 : B3 ≠ B4) (g : Post (s2 sZW (sI .i64)) h0 R (D2.v b2_0 xs2_1 b3_0 xs3_1 b4_0 xs4_1)) : D2.t R (⟨B2, 0, none⟩ : Addr) (⟨B3, 0, none⟩ : Addr) (⟨B4, 0, none⟩ : Addr) h := by
  have kh := Keep.refl h
  have lt2 := bx2.lt
  have lt3 := bx3.lt
  have lt4 := bx4.lt
  unfold D2.v at g
  unfold D2.t
  refine ldA bx2 (base_add _ _) rfl ?_
  refine gSlice_intro rfl ?_
  refine ldA bx3 (base_add _ _) rfl ?_
  refine gSlice_intro rfl ?_
  refine hc_intro (natmul_Mul.hv r2_1 rfl r3_1 rfl) fun v h_1 ⟨k_1, s⟩ => ?_
  obtain ⟨p_8, hp_8⟩ : ∃ p, p = mulS xs2_1 xs3_1 := ⟨_, rfl⟩
  rw [← hp_8] at s
  replace g := lift_let2 hp_8 g
  obtain ⟨_, _, rfl, ⟨a_8_0, c_8_0, rfl, r_8_0⟩, ⟨rfl, i_8_1⟩⟩ := s
  refine gTup_intro rfl (uncons_intro (gSlice_intro rfl (uncons_intro (gInt_intro rfl (unnil_intro (?_))))))
  have r_8_0 := r_8_0.from k0.le
  have m_1 := k_1.tame
  have bx2 := bx2.keep k_1
  have bx3 := bx3.keep k_1
  have bx4 := bx4.keep k_1
  have k0 := k0.trans k_1
  have kh := kh.trans k_1
  refine ldA bx2 (base_add _ _) rfl ?_
  refine gBool_intro rfl ?_
  refine ldA bx3 (base_add _ _) rfl ?_
  refine gBool_intro rfl ?_
  refine hc_intro (num_told.hf r_8_0 rfl i_8_1) fun v h_2 ⟨k_2, s⟩ => ?_
  obtain ⟨p_9, hp_9⟩ : ∃ p, p = tellZ ((!(b2_0 == b3_0))) (p_8.1, p_8.2) := ⟨_, rfl⟩
  rw [← hp_9] at s
  replace g := lift_let2 hp_9 g
  obtain ⟨_, _, rfl, ⟨a_9_0, c_9_0, rfl, r_9_0⟩, ⟨rfl, i_9_1⟩⟩ := s
  refine gTup_intro rfl (uncons_intro (gAgg_intro rfl (uncons_intro (gBool_intro rfl (uncons_intro (gSlice_intro rfl (unnil_intro (uncons_intro (gInt_intro rfl (unnil_intro (?_)))))))))))
  have m_2 := k_2.tame
  have bx2 := bx2.keep k_2
  have bx3 := bx3.keep k_2
  have bx4 := bx4.keep k_2
  have k0 := k0.trans k_2
  have kh := kh.trans k_2
  refine stA bx4 (base_add _ _) rfl fun h_3 bx4 k_3 m_3 => ?_
  have bx2 := bx2.keepB d2q4 k_3
  have bx3 := bx3.keepB d3q4 k_3
  have k0 := KeepB.keep k0 k_3 o4
  refine stA bx4 (base_add _ _) rfl fun h_4 bx4 k_4 m_4 => ?_
  have bx2 := bx2.keepB d2q4 k_4
  have bx3 := bx3.keepB d3q4 k_4
  have k0 := KeepB.keep k0 k_4 o4
  refine ldA bx4 (base_add _ _) rfl ?_
  refine gBool_intro rfl ?_
  refine ldA bx4 (base_add _ _) rfl ?_
  refine gSlice_intro rfl ?_
  exact g _ _ k0 ⟨_, _, rfl, ⟨_, _, rfl, (r_9_0.tame (m_3.trans m_4))⟩, ⟨rfl, i_9_1⟩⟩
def D1.v (b0_0 : Bool) (xs0_1 : List Nat) (b1_0 : Bool) (xs1_1 : List Nat) : ((Bool × List Nat) × Int) :=
  letV (num_Form.v b0_0 xs0_1) fun p_4 =>
  bif (!p_4) then
    ((false, ([] : List Nat)), (2 : Int))
  else
    letV (num_Form.v b1_0 xs1_1) fun p_6 =>
    bif (!p_6) then
      ((false, ([] : List Nat)), (2 : Int))
    else
      D2.v b0_0 xs0_1 b1_0 xs1_1 false ([] : List Nat)
theorem D1.hv {R : Rt} {h0 h : Hp} (k0 : Keep h0 h) {b0_0 : Bool} {a0_1 : Option Addr} {c0_1 l0_1 : Nat} {xs0_1 : List Nat} (r0_1 : Rd h a0_1 c0_1 xs0_1) (e0_1 : l0_1 = xs0_1.length) {b1_0 : Bool} {a1_1 : Option Addr} {c1_1 l1_1 : Nat} {xs1_1 : List Nat} (r1_1 : Rd h a1_1 c1_1 xs1_1) (e1_1 : l1_1 = xs1_1.length) (g : Post (s2 sZW (sI .i64)) h0 R (D1.v b0_0 xs0_1 b1_0 xs1_1)) : D1.t R b0_0 a0_1 l0_1 c0_1 b1_0 a1_1 l1_1 c1_1 h := by
  subst e0_1 e1_1
  have kh := Keep.refl h
  unfold D1.v at g
  unfold D1.t
  refine boxV fun h_1 bx_1 k_1 => ?_
  have o_1 : h0.size ≤ h.size := k0.le
  have oh_1 : h.size ≤ h.size := kh.le
  have lt_1 := bx_1.lt
  have m_1 := k_1.tame
  have k0 := k0.trans k_1
  have kh := kh.trans k_1
  refine boxV fun h_2 bx_2 k_2 => ?_
  have d_1q_2 : h.size ≠ h_1.size := Nat.ne_of_lt bx_1.lt
  have o_2 : h0.size ≤ h_1.size := k0.le
  have oh_2 : h.size ≤ h_1.size := kh.le
  have lt_2 := bx_2.lt
  have m_2 := k_2.tame
  have bx_1 := bx_1.keep k_2
  have k0 := k0.trans k_2
  have kh := kh.trans k_2
  refine boxV fun h_3 bx_3 k_3 => ?_
  have d_1q_3 : h.size ≠ h_2.size := Nat.ne_of_lt bx_1.lt
  have d_2q_3 : h_1.size ≠ h_2.size := Nat.ne_of_lt bx_2.lt
  have o_3 : h0.size ≤ h_2.size := k0.le
  have oh_3 : h.size ≤ h_2.size := kh.le
  have lt_3 := bx_3.lt
  have m_3 := k_3.tame
  have bx_1 := bx_1.keep k_3
  have bx_2 := bx_2.keep k_3
  have k0 := k0.trans k_3
  have kh := kh.trans k_3
  refine ldA bx_1 (base_add _ _) rfl ?_
  refine gBool_intro rfl ?_
  refine ldA bx_1 (base_add _ _) rfl ?_
  refine gSlice_intro rfl ?_
  refine hc_intro (num_Form.hv (r0_1.tame (m_1.trans (m_2.trans m_3))) rfl) fun v h_4 ⟨k_4, s⟩ => ?_
  obtain ⟨p_4, hp_4⟩ : ∃ p, p = num_Form.v b0_0 xs0_1 := ⟨_, rfl⟩
  rw [← hp_4] at s
  replace g := lift_let2 hp_4 g
  obtain rfl := s
  refine gBool_intro rfl (?_)
  have m_4 := k_4.tame
  have bx_1 := bx_1.keep k_4
  have bx_2 := bx_2.keep k_4
  have bx_3 := bx_3.keep k_4
  have k0 := k0.trans k_4
  have kh := kh.trans k_4
  refine lift_not g (fun q_5 g => ?_) (fun q_5 g => ?_)
  · refine stA bx_3 (base_add _ _) rfl fun h_5 bx_3 k_5 m_5 => ?_
    have bx_1 := bx_1.keepB d_1q_3 k_5
    have bx_2 := bx_2.keepB d_2q_3 k_5
    have k0 := KeepB.keep k0 k_5 o_3
    have kh := KeepB.keep kh k_5 oh_3
    refine stA bx_3 (base_add _ _) rfl fun h_6 bx_3 k_6 m_6 => ?_
    have bx_1 := bx_1.keepB d_1q_3 k_6
    have bx_2 := bx_2.keepB d_2q_3 k_6
    have k0 := KeepB.keep k0 k_6 o_3
    have kh := KeepB.keep kh k_6 oh_3
    refine ldA bx_3 (base_add _ _) rfl ?_
    refine gBool_intro rfl ?_
    refine ldA bx_3 (base_add _ _) rfl ?_
    refine gSlice_intro rfl ?_
    exact g _ _ k0 ⟨_, _, rfl, ⟨_, _, rfl, (GotE.nil _ _)⟩, ⟨rfl, (show In .i64 (2 : Int) by decide)⟩⟩
  · refine ldA bx_2 (base_add _ _) rfl ?_
    refine gBool_intro rfl ?_
    refine ldA bx_2 (base_add _ _) rfl ?_
    refine gSlice_intro rfl ?_
    refine hc_intro (num_Form.hv (r1_1.tame (m_1.trans (m_2.trans (m_3.trans m_4)))) rfl) fun v h_5 ⟨k_5, s⟩ => ?_
    obtain ⟨p_6, hp_6⟩ : ∃ p, p = num_Form.v b1_0 xs1_1 := ⟨_, rfl⟩
    rw [← hp_6] at s
    replace g := lift_let2 hp_6 g
    obtain rfl := s
    refine gBool_intro rfl (?_)
    have m_5 := k_5.tame
    have bx_1 := bx_1.keep k_5
    have bx_2 := bx_2.keep k_5
    have bx_3 := bx_3.keep k_5
    have k0 := k0.trans k_5
    have kh := kh.trans k_5
    refine lift_not g (fun q_7 g => ?_) (fun q_7 g => ?_)
    · refine stA bx_3 (base_add _ _) rfl fun h_6 bx_3 k_6 m_6 => ?_
      have bx_1 := bx_1.keepB d_1q_3 k_6
      have bx_2 := bx_2.keepB d_2q_3 k_6
      have k0 := KeepB.keep k0 k_6 o_3
      have kh := KeepB.keep kh k_6 oh_3
      refine stA bx_3 (base_add _ _) rfl fun h_7 bx_3 k_7 m_7 => ?_
      have bx_1 := bx_1.keepB d_1q_3 k_7
      have bx_2 := bx_2.keepB d_2q_3 k_7
      have k0 := KeepB.keep k0 k_7 o_3
      have kh := KeepB.keep kh k_7 oh_3
      refine ldA bx_3 (base_add _ _) rfl ?_
      refine gBool_intro rfl ?_
      refine ldA bx_3 (base_add _ _) rfl ?_
      refine gSlice_intro rfl ?_
      exact g _ _ k0 ⟨_, _, rfl, ⟨_, _, rfl, (GotE.nil _ _)⟩, ⟨rfl, (show In .i64 (2 : Int) by decide)⟩⟩
    · exact D2.hv k0 (r0_1.tame (m_1.trans (m_2.trans (m_3.trans (m_4.trans m_5))))) bx_1 o_1 (r1_1.tame (m_1.trans (m_2.trans (m_3.trans (m_4.trans m_5))))) bx_2 o_2 (GotE.nil _ _) bx_3 o_3 d_1q_2 d_1q_3 d_2q_3 g
def v (b0_0 : Bool) (xs0_1 : List Nat) (b1_0 : Bool) (xs1_1 : List Nat) : ((Bool × List Nat) × Int) := D1.v b0_0 xs0_1 b1_0 xs1_1
theorem hv {h : Hp} {b0_0 : Bool} {a0_1 : Option Addr} {c0_1 l0_1 : Nat} {xs0_1 : List Nat} (r0_1 : Rd h a0_1 c0_1 xs0_1) (e0_1 : l0_1 = xs0_1.length) {b1_0 : Bool} {a1_1 : Option Addr} {c1_1 l1_1 : Nat} {xs1_1 : List Nat} (r1_1 : Rd h a1_1 c1_1 xs1_1) (e1_1 : l1_1 = xs1_1.length) : HC id #[.agg #[.bool b0_0, .slice a0_1 l0_1 c0_1], .agg #[.bool b1_0, .slice a1_1 l1_1 c1_1]] h fun v_ h_ => Keep h h_ ∧ (s2 sZW (sI .i64)) h h_ v_ (v b0_0 xs0_1 b1_0 xs1_1) :=
  ok (D1.hv (Keep.refl _) r0_1 e0_1 r1_1 e1_1 fun v h' k s => ⟨k, s⟩)
end num_Mul

namespace num_Shl
def D1.v (b0_0 : Bool) (xs0_1 : List Nat) (x1 : Int) : ((Bool × List Nat) × Int) :=
  bif (decide (x1 < (0 : Int))) then
    ((false, ([] : List Nat)), (1 : Int))
  else
    letV (num_Form.v b0_0 xs0_1) fun p_4 =>
    bif (!p_4) then
      ((false, ([] : List Nat)), (2 : Int))
    else
      letV (shlS xs0_1 x1) fun p_6 =>
      letV (tellZ b0_0 (p_6.1, p_6.2)) fun p_7 =>
      ((p_7.1.1, p_7.1.2), p_7.2)
theorem D1.hv {R : Rt} {h0 h : Hp} (k0 : Keep h0 h) {b0_0 : Bool} {a0_1 : Option Addr} {c0_1 l0_1 : Nat} {xs0_1 : List Nat} (r0_1 : Rd h a0_1 c0_1 xs0_1) (e0_1 : l0_1 = xs0_1.length) {x1 : Int} (i1 : In .i64 x1) (g : Post (s2 sZW (sI .i64)) h0 R (D1.v b0_0 xs0_1 x1)) : D1.t R b0_0 a0_1 l0_1 c0_1 x1 h := by
  subst e0_1
  have kh := Keep.refl h
  unfold D1.v at g
  unfold D1.t
  refine boxV fun h_1 bx_1 k_1 => ?_
  have o_1 : h0.size ≤ h.size := k0.le
  have oh_1 : h.size ≤ h.size := kh.le
  have lt_1 := bx_1.lt
  have m_1 := k_1.tame
  have k0 := k0.trans k_1
  have kh := kh.trans k_1
  refine boxV fun h_2 bx_2 k_2 => ?_
  have d_1q_2 : h.size ≠ h_1.size := Nat.ne_of_lt bx_1.lt
  have o_2 : h0.size ≤ h_1.size := k0.le
  have oh_2 : h.size ≤ h_1.size := kh.le
  have lt_2 := bx_2.lt
  have m_2 := k_2.tame
  have bx_1 := bx_1.keep k_2
  have k0 := k0.trans k_2
  have kh := kh.trans k_2
  refine lift_dec g (fun q_3 g => ?_) (fun q_3 g => ?_)
  · refine stA bx_2 (base_add _ _) rfl fun h_3 bx_2 k_3 m_3 => ?_
    have bx_1 := bx_1.keepB d_1q_2 k_3
    have k0 := KeepB.keep k0 k_3 o_2
    have kh := KeepB.keep kh k_3 oh_2
    refine stA bx_2 (base_add _ _) rfl fun h_4 bx_2 k_4 m_4 => ?_
    have bx_1 := bx_1.keepB d_1q_2 k_4
    have k0 := KeepB.keep k0 k_4 o_2
    have kh := KeepB.keep kh k_4 oh_2
    refine ldA bx_2 (base_add _ _) rfl ?_
    refine gBool_intro rfl ?_
    refine ldA bx_2 (base_add _ _) rfl ?_
    refine gSlice_intro rfl ?_
    exact g _ _ k0 ⟨_, _, rfl, ⟨_, _, rfl, (GotE.nil _ _)⟩, ⟨rfl, (show In .i64 (1 : Int) by decide)⟩⟩
  · refine ldA bx_1 (base_add _ _) rfl ?_
    refine gBool_intro rfl ?_
    refine ldA bx_1 (base_add _ _) rfl ?_
    refine gSlice_intro rfl ?_
    refine hc_intro (num_Form.hv (r0_1.tame (m_1.trans m_2)) rfl) fun v h_3 ⟨k_3, s⟩ => ?_
    obtain ⟨p_4, hp_4⟩ : ∃ p, p = num_Form.v b0_0 xs0_1 := ⟨_, rfl⟩
    rw [← hp_4] at s
    replace g := lift_let2 hp_4 g
    obtain rfl := s
    refine gBool_intro rfl (?_)
    have m_3 := k_3.tame
    have bx_1 := bx_1.keep k_3
    have bx_2 := bx_2.keep k_3
    have k0 := k0.trans k_3
    have kh := kh.trans k_3
    refine lift_not g (fun q_5 g => ?_) (fun q_5 g => ?_)
    · refine stA bx_2 (base_add _ _) rfl fun h_4 bx_2 k_4 m_4 => ?_
      have bx_1 := bx_1.keepB d_1q_2 k_4
      have k0 := KeepB.keep k0 k_4 o_2
      have kh := KeepB.keep kh k_4 oh_2
      refine stA bx_2 (base_add _ _) rfl fun h_5 bx_2 k_5 m_5 => ?_
      have bx_1 := bx_1.keepB d_1q_2 k_5
      have k0 := KeepB.keep k0 k_5 o_2
      have kh := KeepB.keep kh k_5 oh_2
      refine ldA bx_2 (base_add _ _) rfl ?_
      refine gBool_intro rfl ?_
      refine ldA bx_2 (base_add _ _) rfl ?_
      refine gSlice_intro rfl ?_
      exact g _ _ k0 ⟨_, _, rfl, ⟨_, _, rfl, (GotE.nil _ _)⟩, ⟨rfl, (show In .i64 (2 : Int) by decide)⟩⟩
    · refine ldA bx_1 (base_add _ _) rfl ?_
      refine gSlice_intro rfl ?_
      refine hc_intro (nat_Shl.hv (r0_1.tame (m_1.trans (m_2.trans m_3))) rfl i1) fun v h_4 ⟨k_4, s⟩ => ?_
      obtain ⟨p_6, hp_6⟩ : ∃ p, p = shlS xs0_1 x1 := ⟨_, rfl⟩
      rw [← hp_6] at s
      replace g := lift_let2 hp_6 g
      obtain ⟨_, _, rfl, ⟨a_6_0, c_6_0, rfl, r_6_0⟩, ⟨rfl, i_6_1⟩⟩ := s
      refine gTup_intro rfl (uncons_intro (gSlice_intro rfl (uncons_intro (gInt_intro rfl (unnil_intro (?_))))))
      have r_6_0 := r_6_0.from k0.le
      have m_4 := k_4.tame
      have bx_1 := bx_1.keep k_4
      have bx_2 := bx_2.keep k_4
      have k0 := k0.trans k_4
      have kh := kh.trans k_4
      refine ldA bx_1 (base_add _ _) rfl ?_
      refine gBool_intro rfl ?_
      refine hc_intro (num_told.hf r_6_0 rfl i_6_1) fun v h_5 ⟨k_5, s⟩ => ?_
      obtain ⟨p_7, hp_7⟩ : ∃ p, p = tellZ b0_0 (p_6.1, p_6.2) := ⟨_, rfl⟩
      rw [← hp_7] at s
      replace g := lift_let2 hp_7 g
      obtain ⟨_, _, rfl, ⟨a_7_0, c_7_0, rfl, r_7_0⟩, ⟨rfl, i_7_1⟩⟩ := s
      refine gTup_intro rfl (uncons_intro (gAgg_intro rfl (uncons_intro (gBool_intro rfl (uncons_intro (gSlice_intro rfl (unnil_intro (uncons_intro (gInt_intro rfl (unnil_intro (?_)))))))))))
      have m_5 := k_5.tame
      have bx_1 := bx_1.keep k_5
      have bx_2 := bx_2.keep k_5
      have k0 := k0.trans k_5
      have kh := kh.trans k_5
      refine stA bx_2 (base_add _ _) rfl fun h_6 bx_2 k_6 m_6 => ?_
      have bx_1 := bx_1.keepB d_1q_2 k_6
      have k0 := KeepB.keep k0 k_6 o_2
      have kh := KeepB.keep kh k_6 oh_2
      refine stA bx_2 (base_add _ _) rfl fun h_7 bx_2 k_7 m_7 => ?_
      have bx_1 := bx_1.keepB d_1q_2 k_7
      have k0 := KeepB.keep k0 k_7 o_2
      have kh := KeepB.keep kh k_7 oh_2
      refine ldA bx_2 (base_add _ _) rfl ?_
      refine gBool_intro rfl ?_
      refine ldA bx_2 (base_add _ _) rfl ?_
      refine gSlice_intro rfl ?_
      exact g _ _ k0 ⟨_, _, rfl, ⟨_, _, rfl, (r_7_0.tame (m_6.trans m_7))⟩, ⟨rfl, i_7_1⟩⟩
def v (b0_0 : Bool) (xs0_1 : List Nat) (x1 : Int) : ((Bool × List Nat) × Int) := D1.v b0_0 xs0_1 x1
theorem hv {h : Hp} {b0_0 : Bool} {a0_1 : Option Addr} {c0_1 l0_1 : Nat} {xs0_1 : List Nat} (r0_1 : Rd h a0_1 c0_1 xs0_1) (e0_1 : l0_1 = xs0_1.length) {x1 : Int} (i1 : In .i64 x1) : HC id #[.agg #[.bool b0_0, .slice a0_1 l0_1 c0_1], .int .i64 x1] h fun v_ h_ => Keep h h_ ∧ (s2 sZW (sI .i64)) h h_ v_ (v b0_0 xs0_1 x1) :=
  ok (D1.hv (Keep.refl _) r0_1 e0_1 i1 fun v h' k s => ⟨k, s⟩)
end num_Shl

namespace num_way_shr
def D3.v (x0 : Int) (b4_0 : Bool) (xs4_1 : List Nat) (b6_0 : Bool) (xs6_1 : List Nat) (xs8 : List Nat) (b10 : Bool) (x11 : Int) : ((Bool × List Nat) × Int) :=
  letV (madeZ x0 b4_0 xs8 b10 x11) fun p_14 =>
  ((p_14.1.1, p_14.1.2), p_14.2)
theorem D3.hv {R : Rt} {h0 h : Hp} (k0 : Keep h0 h) {x0 : Int} (i0 : In .i64 x0) {b4_0 : Bool} {a4_1 : Option Addr} {c4_1 : Nat} {xs4_1 : List Nat} (r4_1 : Rd h a4_1 c4_1 xs4_1) {B4 : Nat} (bx4 : BlkV h B4 [.bool b4_0, .slice a4_1 xs4_1.length c4_1]) (o4 : h0.size ≤ B4) {b6_0 : Bool} {a6_1 : Option Addr} {c6_1 : Nat} {xs6_1 : List Nat} (r6_1 : GotE eU64 h0 h a6_1 c6_1 xs6_1) {B6 : Nat} (bx6 : BlkV h B6 [.bool b6_0, .slice a6_1 xs6_1.length c6_1]) (o6 : h0.size ≤ B6) {a8 : Option Addr} {c8 l8 : Nat} {xs8 : List Nat} (r8 : GotE eU64 h0 h a8 c8 xs8) (e8 : l8 = xs8.length) {b10 : Bool} {x11 : Int} (i11 : In .i64 x11) (d4q6 : B4 ≠ B6) (tb : Tab h) (g : Post (s2 sZW (sI .i64)) h0 R (D3.v x0 b4_0 xs4_1 b6_0 xs6_1 xs8 b10 x11)) : D3.t R x0 (⟨B4, 0, none⟩ : Addr) (⟨B6, 0, none⟩ : Addr) a8 l8 c8 b10 x11 h := by
  subst e8
  have kh := Keep.refl h
  have lt4 := bx4.lt
  have lt6 := bx6.lt
  unfold D3.v at g
  unfold D3.t
  refine ldA bx4 (base_add _ _) rfl ?_
  refine gBool_intro rfl ?_
  refine hc_intro (num_way_made.hf k0.le i0 r8 rfl i11) fun v h_1 ⟨k_1, s⟩ => ?_
  obtain ⟨p_14, hp_14⟩ : ∃ p, p = madeZ x0 b4_0 xs8 b10 x11 := ⟨_, rfl⟩
  rw [← hp_14] at s
  replace g := lift_let2 hp_14 g
  obtain ⟨_, _, rfl, ⟨a_14_0, c_14_0, rfl, r_14_0⟩, ⟨rfl, i_14_1⟩⟩ := s
  refine gTup_intro rfl (uncons_intro (gAgg_intro rfl (uncons_intro (gBool_intro rfl (uncons_intro (gSlice_intro rfl (unnil_intro (uncons_intro (gInt_intro rfl (unnil_intro (?_)))))))))))
  have m_1 := k_1.tame
  have bx4 := bx4.keep k_1
  have bx6 := bx6.keep k_1
  have k0 := k0.trans k_1
  have kh := kh.trans k_1
  refine stA bx6 (base_add _ _) rfl fun h_2 bx6 k_2 m_2 => ?_
  have bx4 := bx4.keepB d4q6 k_2
  have k0 := KeepB.keep k0 k_2 o6
  refine stA bx6 (base_add _ _) rfl fun h_3 bx6 k_3 m_3 => ?_
  have bx4 := bx4.keepB d4q6 k_3
  have k0 := KeepB.keep k0 k_3 o6
  refine ldA bx6 (base_add _ _) rfl ?_
  refine gBool_intro rfl ?_
  refine ldA bx6 (base_add _ _) rfl ?_
  refine gSlice_intro rfl ?_
  exact g _ _ k0 ⟨_, _, rfl, ⟨_, _, rfl, (r_14_0.tame (m_2.trans m_3))⟩, ⟨rfl, i_14_1⟩⟩
def D2.v (x0 : Int) (x2 : Int) (b4_0 : Bool) (xs4_1 : List Nat) (b6_0 : Bool) (xs6_1 : List Nat) (xs8 : List Nat) (b10 : Bool) : ((Bool × List Nat) × Int) :=
  bif (bitS (val xs4_1) ((IntKind.i64.wrap (x2 - (1 : Int)))) == 1) then
    bif (((((ctz (val xs4_1) : Nat) : Int))) == ((IntKind.i64.wrap (x2 - (1 : Int))))) then
      D3.v x0 b4_0 xs4_1 b6_0 xs6_1 xs8 b10 (0 : Int)
    else
      D3.v x0 b4_0 xs4_1 b6_0 xs6_1 xs8 b10 (1 : Int)
  else
    D3.v x0 b4_0 xs4_1 b6_0 xs6_1 xs8 b10 (-1 : Int)
theorem D2.hv {R : Rt} {h0 h : Hp} (k0 : Keep h0 h) {x0 : Int} (i0 : In .i64 x0) {x2 : Int} (i2 : In .i64 x2) {b4_0 : Bool} {a4_1 : Option Addr} {c4_1 : Nat} {xs4_1 : List Nat} (r4_1 : Rd h a4_1 c4_1 xs4_1) {B4 : Nat} (bx4 : BlkV h B4 [.bool b4_0, .slice a4_1 xs4_1.length c4_1]) (o4 : h0.size ≤ B4) {b6_0 : Bool} {a6_1 : Option Addr} {c6_1 : Nat} {xs6_1 : List Nat} (r6_1 : GotE eU64 h0 h a6_1 c6_1 xs6_1) {B6 : Nat} (bx6 : BlkV h B6 [.bool b6_0, .slice a6_1 xs6_1.length c6_1]) (o6 : h0.size ≤ B6) {a8 : Option Addr} {c8 l8 : Nat} {xs8 : List Nat} (r8 : GotE eU64 h0 h a8 c8 xs8) (e8 : l8 = xs8.length) {b10 : Bool} (d4q6 : B4 ≠ B6) (tb : Tab h) (g : Post (s2 sZW (sI .i64)) h0 R (D2.v x0 x2 b4_0 xs4_1 b6_0 xs6_1 xs8 b10)) : D2.t R x0 x2 (⟨B4, 0, none⟩ : Addr) (⟨B6, 0, none⟩ : Addr) a8 l8 c8 b10 h := by
  subst e8
  have kh := Keep.refl h
  have lt4 := bx4.lt
  have lt6 := bx6.lt
  unfold D2.v at g
  unfold D2.t
  refine ldA bx4 (base_add _ _) rfl ?_
  refine gSlice_intro rfl ?_
  refine letK_out ?_
  refine hc_intro (nat_Bit.hv r4_1 rfl (in_wrap _ _)) fun v h_1 ⟨k_1, s⟩ => ?_
  obtain rfl := s
  refine gBool_intro rfl (?_)
  have m_1 := k_1.tame
  have bx4 := bx4.keep k_1
  have bx6 := bx6.keep k_1
  have k0 := k0.trans k_1
  have kh := kh.trans k_1
  refine lift_bool g (fun q_11 g => ?_) (fun q_11 g => ?_)
  · refine ldA bx4 (base_add _ _) rfl ?_
    refine gSlice_intro rfl ?_
    refine hc_intro (nat_Trail.hv (r4_1.tame (m_1)) rfl (tb.tame (m_1))) fun v h_2 ⟨k_2, s⟩ => ?_
    obtain ⟨rfl, i_12⟩ := s
    refine gInt_intro rfl (?_)
    have m_2 := k_2.tame
    have bx4 := bx4.keep k_2
    have bx6 := bx6.keep k_2
    have k0 := k0.trans k_2
    have kh := kh.trans k_2
    refine letK_out ?_
    refine lift_eq g (fun q_13 g => ?_) (fun q_13 g => ?_)
    · exact D3.hv k0 i0 (r4_1.tame (m_1.trans m_2)) bx4 o4 (r6_1.tame (m_1.trans m_2)) bx6 o6 (r8.tame (m_1.trans m_2)) rfl (show In .i64 (0 : Int) by decide) d4q6 (tb.tame (m_1.trans m_2)) g
    · exact D3.hv k0 i0 (r4_1.tame (m_1.trans m_2)) bx4 o4 (r6_1.tame (m_1.trans m_2)) bx6 o6 (r8.tame (m_1.trans m_2)) rfl (show In .i64 (1 : Int) by decide) d4q6 (tb.tame (m_1.trans m_2)) g
  · exact D3.hv k0 i0 (r4_1.tame (m_1)) bx4 o4 (r6_1.tame (m_1)) bx6 o6 (r8.tame (m_1)) rfl (show In .i64 (-1 : Int) by decide) d4q6 (tb.tame (m_1)) g
def D1.v (x0 : Int) (b1_0 : Bool) (xs1_1 : List Nat) (x2 : Int) : ((Bool × List Nat) × Int) :=
  bif (decide (x2 < (0 : Int))) then
    ((false, ([] : List Nat)), (1 : Int))
  else
    letV (num_Form.v b1_0 xs1_1) fun p_4 =>
    bif (!p_4) then
      ((false, ([] : List Nat)), (2 : Int))
    else
      letV (shrS xs1_1 x2) fun p_6 =>
      bif (p_6.2 != (0 : Int)) then
        ((false, ([] : List Nat)), p_6.2)
      else
        bif (decide ((((xs1_1.length : Nat) : Int)) > (0 : Int))) then
          D2.v x0 x2 b1_0 xs1_1 false ([] : List Nat) p_6.1 ((decide (((((ctz (val xs1_1) : Nat) : Int))) < x2)))
        else
          D2.v x0 x2 b1_0 xs1_1 false ([] : List Nat) p_6.1 false
theorem D1.hv {R : Rt} {h0 h : Hp} (k0 : Keep h0 h) {x0 : Int} (i0 : In .i64 x0) {b1_0 : Bool} {a1_1 : Option Addr} {c1_1 l1_1 : Nat} {xs1_1 : List Nat} (r1_1 : Rd h a1_1 c1_1 xs1_1) (e1_1 : l1_1 = xs1_1.length) {x2 : Int} (i2 : In .i64 x2) (tb : Tab h) (g : Post (s2 sZW (sI .i64)) h0 R (D1.v x0 b1_0 xs1_1 x2)) : D1.t R x0 b1_0 a1_1 l1_1 c1_1 x2 h := by
  subst e1_1
  have kh := Keep.refl h
  unfold D1.v at g
  unfold D1.t
  refine boxV fun h_1 bx_1 k_1 => ?_
  have o_1 : h0.size ≤ h.size := k0.le
  have oh_1 : h.size ≤ h.size := kh.le
  have lt_1 := bx_1.lt
  have m_1 := k_1.tame
  have k0 := k0.trans k_1
  have kh := kh.trans k_1
  refine boxV fun h_2 bx_2 k_2 => ?_
  have d_1q_2 : h.size ≠ h_1.size := Nat.ne_of_lt bx_1.lt
  have o_2 : h0.size ≤ h_1.size := k0.le
  have oh_2 : h.size ≤ h_1.size := kh.le
  have lt_2 := bx_2.lt
  have m_2 := k_2.tame
  have bx_1 := bx_1.keep k_2
  have k0 := k0.trans k_2
  have kh := kh.trans k_2
  refine lift_dec g (fun q_3 g => ?_) (fun q_3 g => ?_)
  · refine stA bx_2 (base_add _ _) rfl fun h_3 bx_2 k_3 m_3 => ?_
    have bx_1 := bx_1.keepB d_1q_2 k_3
    have k0 := KeepB.keep k0 k_3 o_2
    have kh := KeepB.keep kh k_3 oh_2
    refine stA bx_2 (base_add _ _) rfl fun h_4 bx_2 k_4 m_4 => ?_
    have bx_1 := bx_1.keepB d_1q_2 k_4
    have k0 := KeepB.keep k0 k_4 o_2
    have kh := KeepB.keep kh k_4 oh_2
    refine ldA bx_2 (base_add _ _) rfl ?_
    refine gBool_intro rfl ?_
    refine ldA bx_2 (base_add _ _) rfl ?_
    refine gSlice_intro rfl ?_
    exact g _ _ k0 ⟨_, _, rfl, ⟨_, _, rfl, (GotE.nil _ _)⟩, ⟨rfl, (show In .i64 (1 : Int) by decide)⟩⟩
  · refine ldA bx_1 (base_add _ _) rfl ?_
    refine gBool_intro rfl ?_
    refine ldA bx_1 (base_add _ _) rfl ?_
    refine gSlice_intro rfl ?_
    refine hc_intro (num_Form.hv (r1_1.tame (m_1.trans m_2)) rfl) fun v h_3 ⟨k_3, s⟩ => ?_
    obtain ⟨p_4, hp_4⟩ : ∃ p, p = num_Form.v b1_0 xs1_1 := ⟨_, rfl⟩
    rw [← hp_4] at s
    replace g := lift_let2 hp_4 g
    obtain rfl := s
    refine gBool_intro rfl (?_)
    have m_3 := k_3.tame
    have bx_1 := bx_1.keep k_3
    have bx_2 := bx_2.keep k_3
    have k0 := k0.trans k_3
    have kh := kh.trans k_3
    refine lift_not g (fun q_5 g => ?_) (fun q_5 g => ?_)
    · refine stA bx_2 (base_add _ _) rfl fun h_4 bx_2 k_4 m_4 => ?_
      have bx_1 := bx_1.keepB d_1q_2 k_4
      have k0 := KeepB.keep k0 k_4 o_2
      have kh := KeepB.keep kh k_4 oh_2
      refine stA bx_2 (base_add _ _) rfl fun h_5 bx_2 k_5 m_5 => ?_
      have bx_1 := bx_1.keepB d_1q_2 k_5
      have k0 := KeepB.keep k0 k_5 o_2
      have kh := KeepB.keep kh k_5 oh_2
      refine ldA bx_2 (base_add _ _) rfl ?_
      refine gBool_intro rfl ?_
      refine ldA bx_2 (base_add _ _) rfl ?_
      refine gSlice_intro rfl ?_
      exact g _ _ k0 ⟨_, _, rfl, ⟨_, _, rfl, (GotE.nil _ _)⟩, ⟨rfl, (show In .i64 (2 : Int) by decide)⟩⟩
    · refine ldA bx_1 (base_add _ _) rfl ?_
      refine gSlice_intro rfl ?_
      refine hc_intro (nat_Shr.hv (r1_1.tame (m_1.trans (m_2.trans m_3))) rfl i2) fun v h_4 ⟨k_4, s⟩ => ?_
      obtain ⟨p_6, hp_6⟩ : ∃ p, p = shrS xs1_1 x2 := ⟨_, rfl⟩
      rw [← hp_6] at s
      replace g := lift_let2 hp_6 g
      obtain ⟨_, _, rfl, ⟨a_6_0, c_6_0, rfl, r_6_0⟩, ⟨rfl, i_6_1⟩⟩ := s
      refine gTup_intro rfl (uncons_intro (gSlice_intro rfl (uncons_intro (gInt_intro rfl (unnil_intro (?_))))))
      have r_6_0 := r_6_0.from k0.le
      have m_4 := k_4.tame
      have bx_1 := bx_1.keep k_4
      have bx_2 := bx_2.keep k_4
      have k0 := k0.trans k_4
      have kh := kh.trans k_4
      refine lift_ne g (fun q_7 g => ?_) (fun q_7 g => ?_)
      · refine stA bx_2 (base_add _ _) rfl fun h_5 bx_2 k_5 m_5 => ?_
        have bx_1 := bx_1.keepB d_1q_2 k_5
        have k0 := KeepB.keep k0 k_5 o_2
        have kh := KeepB.keep kh k_5 oh_2
        refine stA bx_2 (base_add _ _) rfl fun h_6 bx_2 k_6 m_6 => ?_
        have bx_1 := bx_1.keepB d_1q_2 k_6
        have k0 := KeepB.keep k0 k_6 o_2
        have kh := KeepB.keep kh k_6 oh_2
        refine ldA bx_2 (base_add _ _) rfl ?_
        refine gBool_intro rfl ?_
        refine ldA bx_2 (base_add _ _) rfl ?_
        refine gSlice_intro rfl ?_
        exact g _ _ k0 ⟨_, _, rfl, ⟨_, _, rfl, (GotE.nil _ _)⟩, ⟨rfl, i_6_1⟩⟩
      · refine ldA bx_1 (base_add _ _) rfl ?_
        refine gSlice_intro rfl ?_
        refine lift_dec g (fun q_8 g => ?_) (fun q_8 g => ?_)
        · refine ldA bx_1 (base_add _ _) rfl ?_
          refine gSlice_intro rfl ?_
          refine hc_intro (nat_Trail.hv (r1_1.tame (m_1.trans (m_2.trans (m_3.trans m_4)))) rfl (tb.tame (m_1.trans (m_2.trans (m_3.trans m_4))))) fun v h_5 ⟨k_5, s⟩ => ?_
          obtain ⟨rfl, i_9⟩ := s
          refine gInt_intro rfl (?_)
          have m_5 := k_5.tame
          have bx_1 := bx_1.keep k_5
          have bx_2 := bx_2.keep k_5
          have k0 := k0.trans k_5
          have kh := kh.trans k_5
          exact D2.hv k0 i0 i2 (r1_1.tame (m_1.trans (m_2.trans (m_3.trans (m_4.trans m_5))))) bx_1 o_1 (GotE.nil _ _) bx_2 o_2 (r_6_0.tame (m_5)) rfl d_1q_2 (tb.tame (m_1.trans (m_2.trans (m_3.trans (m_4.trans m_5))))) g
        · exact D2.hv k0 i0 i2 (r1_1.tame (m_1.trans (m_2.trans (m_3.trans m_4)))) bx_1 o_1 (GotE.nil _ _) bx_2 o_2 r_6_0 rfl d_1q_2 (tb.tame (m_1.trans (m_2.trans (m_3.trans m_4)))) g
def v (x0 : Int) (b1_0 : Bool) (xs1_1 : List Nat) (x2 : Int) : ((Bool × List Nat) × Int) := D1.v x0 b1_0 xs1_1 x2
theorem hv {h : Hp} {x0 : Int} (i0 : In .i64 x0) {b1_0 : Bool} {a1_1 : Option Addr} {c1_1 l1_1 : Nat} {xs1_1 : List Nat} (r1_1 : Rd h a1_1 c1_1 xs1_1) (e1_1 : l1_1 = xs1_1.length) {x2 : Int} (i2 : In .i64 x2) (tb : Tab h) : HC id #[.int .i64 x0, .agg #[.bool b1_0, .slice a1_1 l1_1 c1_1], .int .i64 x2] h fun v_ h_ => Keep h h_ ∧ (s2 sZW (sI .i64)) h h_ v_ (v x0 b1_0 xs1_1 x2) :=
  ok (D1.hv (Keep.refl _) i0 r1_1 e1_1 i2 tb fun v h' k s => ⟨k, s⟩)
end num_way_shr

namespace num_way_div
def D2.v (x0 : Int) (b4_0 : Bool) (xs4_1 : List Nat) (b5_0 : Bool) (xs5_1 : List Nat) (b6_0 : Bool) (xs6_1 : List Nat) : ((Bool × List Nat) × Int) :=
  bif ((((xs5_1.length : Nat) : Int)) == (0 : Int)) then
    ((false, ([] : List Nat)), (4 : Int))
  else
    letV (quoS xs4_1 xs5_1) fun p_9 =>
    bif (p_9.2.2 != (0 : Int)) then
      ((false, ([] : List Nat)), p_9.2.2)
    else
      letV (subS xs5_1 p_9.2.1) fun p_11 =>
      bif (p_11.2 != (0 : Int)) then
        ((false, ([] : List Nat)), p_11.2)
      else
        letV (madeZ x0 ((!(b4_0 == b5_0))) p_9.1 ((decide ((((p_9.2.1.length : Nat) : Int)) > (0 : Int)))) ((cmpI (val p_9.2.1) (val p_11.1)))) fun p_14 =>
        ((p_14.1.1, p_14.1.2), p_14.2)
theorem D2.hv {R : Rt} {h0 h : Hp} (k0 : Keep h0 h) {x0 : Int} (i0 : In .i64 x0) {b4_0 : Bool} {a4_1 : Option Addr} {c4_1 : Nat} {xs4_1 : List Nat} (r4_1 : Rd h a4_1 c4_1 xs4_1) {B4 : Nat} (bx4 : BlkV h B4 [.bool b4_0, .slice a4_1 xs4_1.length c4_1]) (o4 : h0.size ≤ B4) {b5_0 : Bool} {a5_1 : Option Addr} {c5_1 : Nat} {xs5_1 : List Nat} (r5_1 : Rd h a5_1 c5_1 xs5_1) {B5 : Nat} (bx5 : BlkV h B5 [.bool b5_0, .slice a5_1 xs5_1.length c5_1]) (o5 : h0.size ≤ B5) {b6_0 : Bool} {a6_1 : Option Addr} {c6_1 : Nat} {xs6_1 : List Nat} (r6_1 : GotE eU64 h0 h a6_1 c6_1 xs6_1) {B6 : Nat} (bx6 : BlkV h B6 [.bool b6_0, .slice a6_1 xs6_1.length c6_1]) (o6 : h0.size ≤ B6) (d4q5 : B4 ≠ B5) (d4q6 : B4 ≠ B6) (d5q6 : B5 ≠ B6) (g : Post (s2 sZW (sI .i64)) h0 R (D2.v x0 b4_0 xs4_1 b5_0 xs5_1 b6_0 xs6_1)) : D2.t R x0 (⟨B4, 0, none⟩ : Addr) (⟨B5, 0, none⟩ : Addr) (⟨B6, 0, none⟩ : Addr) h := by
  have kh := Keep.refl h
  have lt4 := bx4.lt
  have lt5 := bx5.lt
  have lt6 := bx6.lt
  unfold D2.v at g
  unfold D2.t
  refine ldA bx5 (base_add _ _) rfl ?_
  refine gSlice_intro rfl ?_
  refine lift_eq g (fun q_8 g => ?_) (fun q_8 g => ?_)
  · refine stA bx6 (base_add _ _) rfl fun h_1 bx6 k_1 m_1 => ?_
    have bx4 := bx4.keepB d4q6 k_1
    have bx5 := bx5.keepB d5q6 k_1
    have k0 := KeepB.keep k0 k_1 o6
    refine stA bx6 (base_add _ _) rfl fun h_2 bx6 k_2 m_2 => ?_
    have bx4 := bx4.keepB d4q6 k_2
    have bx5 := bx5.keepB d5q6 k_2
    have k0 := KeepB.keep k0 k_2 o6
    refine ldA bx6 (base_add _ _) rfl ?_
    refine gBool_intro rfl ?_
    refine ldA bx6 (base_add _ _) rfl ?_
    refine gSlice_intro rfl ?_
    exact g _ _ k0 ⟨_, _, rfl, ⟨_, _, rfl, (GotE.nil _ _)⟩, ⟨rfl, (show In .i64 (4 : Int) by decide)⟩⟩
  · refine ldA bx4 (base_add _ _) rfl ?_
    refine gSlice_intro rfl ?_
    refine ldA bx5 (base_add _ _) rfl ?_
    refine gSlice_intro rfl ?_
    refine hc_intro (natdiv_QuoRem.hv r4_1 rfl r5_1 rfl) fun v h_1 ⟨k_1, s⟩ => ?_
    obtain ⟨p_9, hp_9⟩ : ∃ p, p = quoS xs4_1 xs5_1 := ⟨_, rfl⟩
    rw [← hp_9] at s
    replace g := lift_let2 hp_9 g
    obtain ⟨_, _, _, rfl, ⟨a_9_0, c_9_0, rfl, r_9_0⟩, ⟨a_9_1, c_9_1, rfl, r_9_1⟩, ⟨rfl, i_9_2⟩⟩ := s
    refine gTup_intro rfl (uncons_intro (gSlice_intro rfl (uncons_intro (gSlice_intro rfl (uncons_intro (gInt_intro rfl (unnil_intro (?_))))))))
    have r_9_0 := r_9_0.from k0.le
    have r_9_1 := r_9_1.from k0.le
    have m_1 := k_1.tame
    have bx4 := bx4.keep k_1
    have bx5 := bx5.keep k_1
    have bx6 := bx6.keep k_1
    have k0 := k0.trans k_1
    have kh := kh.trans k_1
    refine lift_ne g (fun q_10 g => ?_) (fun q_10 g => ?_)
    · refine stA bx6 (base_add _ _) rfl fun h_2 bx6 k_2 m_2 => ?_
      have bx4 := bx4.keepB d4q6 k_2
      have bx5 := bx5.keepB d5q6 k_2
      have k0 := KeepB.keep k0 k_2 o6
      refine stA bx6 (base_add _ _) rfl fun h_3 bx6 k_3 m_3 => ?_
      have bx4 := bx4.keepB d4q6 k_3
      have bx5 := bx5.keepB d5q6 k_3
      have k0 := KeepB.keep k0 k_3 o6
      refine ldA bx6 (base_add _ _) rfl ?_
      refine gBool_intro rfl ?_
      refine ldA bx6 (base_add _ _) rfl ?_
      refine gSlice_intro rfl ?_
      exact g _ _ k0 ⟨_, _, rfl, ⟨_, _, rfl, (GotE.nil _ _)⟩, ⟨rfl, i_9_2⟩⟩
    · refine ldA bx5 (base_add _ _) rfl ?_
      refine gSlice_intro rfl ?_
      refine hc_intro (nat_Sub.hv (r5_1.tame (m_1)) rfl r_9_1.rd64 rfl) fun v h_2 ⟨k_2, s⟩ => ?_
      obtain ⟨p_11, hp_11⟩ : ∃ p, p = subS xs5_1 p_9.2.1 := ⟨_, rfl⟩
      rw [← hp_11] at s
      replace g := lift_let2 hp_11 g
      obtain ⟨_, _, rfl, ⟨a_11_0, c_11_0, rfl, r_11_0⟩, ⟨rfl, i_11_1⟩⟩ := s
      refine gTup_intro rfl (uncons_intro (gSlice_intro rfl (uncons_intro (gInt_intro rfl (unnil_intro (?_))))))
      have r_11_0 := r_11_0.from k0.le
      have m_2 := k_2.tame
      have bx4 := bx4.keep k_2
      have bx5 := bx5.keep k_2
      have bx6 := bx6.keep k_2
      have k0 := k0.trans k_2
      have kh := kh.trans k_2
      refine lift_ne g (fun q_12 g => ?_) (fun q_12 g => ?_)
      · refine stA bx6 (base_add _ _) rfl fun h_3 bx6 k_3 m_3 => ?_
        have bx4 := bx4.keepB d4q6 k_3
        have bx5 := bx5.keepB d5q6 k_3
        have k0 := KeepB.keep k0 k_3 o6
        refine stA bx6 (base_add _ _) rfl fun h_4 bx6 k_4 m_4 => ?_
        have bx4 := bx4.keepB d4q6 k_4
        have bx5 := bx5.keepB d5q6 k_4
        have k0 := KeepB.keep k0 k_4 o6
        refine ldA bx6 (base_add _ _) rfl ?_
        refine gBool_intro rfl ?_
        refine ldA bx6 (base_add _ _) rfl ?_
        refine gSlice_intro rfl ?_
        exact g _ _ k0 ⟨_, _, rfl, ⟨_, _, rfl, (GotE.nil _ _)⟩, ⟨rfl, i_11_1⟩⟩
      · refine ⟨blkLt (base_add _ _) ((m_1.trans m_2).lt lt4), ?_⟩
        refine ldA bx4 (base_add _ _) rfl ?_
        refine gBool_intro rfl ?_
        refine ⟨blkLt (base_add _ _) ((m_1.trans m_2).lt lt5), ?_⟩
        refine ldA bx5 (base_add _ _) rfl ?_
        refine gBool_intro rfl ?_
        refine hc_intro (nat_Cmp.hv (r_9_1.tame (m_2)).rd64 rfl r_11_0.rd64 rfl) fun v h_3 ⟨k_3, s⟩ => ?_
        obtain ⟨rfl, i_13⟩ := s
        refine gInt_intro rfl (?_)
        have m_3 := k_3.tame
        have bx4 := bx4.keep k_3
        have bx5 := bx5.keep k_3
        have bx6 := bx6.keep k_3
        have k0 := k0.trans k_3
        have kh := kh.trans k_3
        refine ⟨k_3.preLe (Nat.le_refl _), ?_⟩
        refine hc_intro (num_way_made.hf k0.le i0 (r_9_0.tame (m_2.trans m_3)) rfl i_13) fun v h_4 ⟨k_4, s⟩ => ?_
        obtain ⟨p_14, hp_14⟩ : ∃ p, p = madeZ x0 ((!(b4_0 == b5_0))) p_9.1 ((decide ((((p_9.2.1.length : Nat) : Int)) > (0 : Int)))) ((cmpI (val p_9.2.1) (val p_11.1))) := ⟨_, rfl⟩
        rw [← hp_14] at s
        replace g := lift_let2 hp_14 g
        obtain ⟨_, _, rfl, ⟨a_14_0, c_14_0, rfl, r_14_0⟩, ⟨rfl, i_14_1⟩⟩ := s
        refine gTup_intro rfl (uncons_intro (gAgg_intro rfl (uncons_intro (gBool_intro rfl (uncons_intro (gSlice_intro rfl (unnil_intro (uncons_intro (gInt_intro rfl (unnil_intro (?_)))))))))))
        have m_4 := k_4.tame
        have bx4 := bx4.keep k_4
        have bx5 := bx5.keep k_4
        have bx6 := bx6.keep k_4
        have k0 := k0.trans k_4
        have kh := kh.trans k_4
        refine ⟨k_4.preLe (m_3).le, ?_⟩
        refine stA bx6 (base_add _ _) rfl fun h_5 bx6 k_5 m_5 => ?_
        have bx4 := bx4.keepB d4q6 k_5
        have bx5 := bx5.keepB d5q6 k_5
        have k0 := KeepB.keep k0 k_5 o6
        refine stA bx6 (base_add _ _) rfl fun h_6 bx6 k_6 m_6 => ?_
        have bx4 := bx4.keepB d4q6 k_6
        have bx5 := bx5.keepB d5q6 k_6
        have k0 := KeepB.keep k0 k_6 o6
        refine ldA bx6 (base_add _ _) rfl ?_
        refine gBool_intro rfl ?_
        refine ldA bx6 (base_add _ _) rfl ?_
        refine gSlice_intro rfl ?_
        exact g _ _ k0 ⟨_, _, rfl, ⟨_, _, rfl, (r_14_0.tame (m_5.trans m_6))⟩, ⟨rfl, i_14_1⟩⟩
def D1.v (x0 : Int) (b1_0 : Bool) (xs1_1 : List Nat) (b2_0 : Bool) (xs2_1 : List Nat) : ((Bool × List Nat) × Int) :=
  letV (num_Form.v b1_0 xs1_1) fun p_4 =>
  bif (!p_4) then
    ((false, ([] : List Nat)), (2 : Int))
  else
    letV (num_Form.v b2_0 xs2_1) fun p_6 =>
    bif (!p_6) then
      ((false, ([] : List Nat)), (2 : Int))
    else
      D2.v x0 b1_0 xs1_1 b2_0 xs2_1 false ([] : List Nat)
theorem D1.hv {R : Rt} {h0 h : Hp} (k0 : Keep h0 h) {x0 : Int} (i0 : In .i64 x0) {b1_0 : Bool} {a1_1 : Option Addr} {c1_1 l1_1 : Nat} {xs1_1 : List Nat} (r1_1 : Rd h a1_1 c1_1 xs1_1) (e1_1 : l1_1 = xs1_1.length) {b2_0 : Bool} {a2_1 : Option Addr} {c2_1 l2_1 : Nat} {xs2_1 : List Nat} (r2_1 : Rd h a2_1 c2_1 xs2_1) (e2_1 : l2_1 = xs2_1.length) (g : Post (s2 sZW (sI .i64)) h0 R (D1.v x0 b1_0 xs1_1 b2_0 xs2_1)) : D1.t R x0 b1_0 a1_1 l1_1 c1_1 b2_0 a2_1 l2_1 c2_1 h := by
  subst e1_1 e2_1
  have kh := Keep.refl h
  unfold D1.v at g
  unfold D1.t
  refine boxV fun h_1 bx_1 k_1 => ?_
  have o_1 : h0.size ≤ h.size := k0.le
  have oh_1 : h.size ≤ h.size := kh.le
  have lt_1 := bx_1.lt
  have m_1 := k_1.tame
  have k0 := k0.trans k_1
  have kh := kh.trans k_1
  refine boxV fun h_2 bx_2 k_2 => ?_
  have d_1q_2 : h.size ≠ h_1.size := Nat.ne_of_lt bx_1.lt
  have o_2 : h0.size ≤ h_1.size := k0.le
  have oh_2 : h.size ≤ h_1.size := kh.le
  have lt_2 := bx_2.lt
  have m_2 := k_2.tame
  have bx_1 := bx_1.keep k_2
  have k0 := k0.trans k_2
  have kh := kh.trans k_2
  refine boxV fun h_3 bx_3 k_3 => ?_
  have d_1q_3 : h.size ≠ h_2.size := Nat.ne_of_lt bx_1.lt
  have d_2q_3 : h_1.size ≠ h_2.size := Nat.ne_of_lt bx_2.lt
  have o_3 : h0.size ≤ h_2.size := k0.le
  have oh_3 : h.size ≤ h_2.size := kh.le
  have lt_3 := bx_3.lt
  have m_3 := k_3.tame
  have bx_1 := bx_1.keep k_3
  have bx_2 := bx_2.keep k_3
  have k0 := k0.trans k_3
  have kh := kh.trans k_3
  refine ldA bx_1 (base_add _ _) rfl ?_
  refine gBool_intro rfl ?_
  refine ldA bx_1 (base_add _ _) rfl ?_
  refine gSlice_intro rfl ?_
  refine hc_intro (num_Form.hv (r1_1.tame (m_1.trans (m_2.trans m_3))) rfl) fun v h_4 ⟨k_4, s⟩ => ?_
  obtain ⟨p_4, hp_4⟩ : ∃ p, p = num_Form.v b1_0 xs1_1 := ⟨_, rfl⟩
  rw [← hp_4] at s
  replace g := lift_let2 hp_4 g
  obtain rfl := s
  refine gBool_intro rfl (?_)
  have m_4 := k_4.tame
  have bx_1 := bx_1.keep k_4
  have bx_2 := bx_2.keep k_4
  have bx_3 := bx_3.keep k_4
  have k0 := k0.trans k_4
  have kh := kh.trans k_4
  refine lift_not g (fun q_5 g => ?_) (fun q_5 g => ?_)
  · refine stA bx_3 (base_add _ _) rfl fun h_5 bx_3 k_5 m_5 => ?_
    have bx_1 := bx_1.keepB d_1q_3 k_5
    have bx_2 := bx_2.keepB d_2q_3 k_5
    have k0 := KeepB.keep k0 k_5 o_3
    have kh := KeepB.keep kh k_5 oh_3
    refine stA bx_3 (base_add _ _) rfl fun h_6 bx_3 k_6 m_6 => ?_
    have bx_1 := bx_1.keepB d_1q_3 k_6
    have bx_2 := bx_2.keepB d_2q_3 k_6
    have k0 := KeepB.keep k0 k_6 o_3
    have kh := KeepB.keep kh k_6 oh_3
    refine ldA bx_3 (base_add _ _) rfl ?_
    refine gBool_intro rfl ?_
    refine ldA bx_3 (base_add _ _) rfl ?_
    refine gSlice_intro rfl ?_
    exact g _ _ k0 ⟨_, _, rfl, ⟨_, _, rfl, (GotE.nil _ _)⟩, ⟨rfl, (show In .i64 (2 : Int) by decide)⟩⟩
  · refine ldA bx_2 (base_add _ _) rfl ?_
    refine gBool_intro rfl ?_
    refine ldA bx_2 (base_add _ _) rfl ?_
    refine gSlice_intro rfl ?_
    refine hc_intro (num_Form.hv (r2_1.tame (m_1.trans (m_2.trans (m_3.trans m_4)))) rfl) fun v h_5 ⟨k_5, s⟩ => ?_
    obtain ⟨p_6, hp_6⟩ : ∃ p, p = num_Form.v b2_0 xs2_1 := ⟨_, rfl⟩
    rw [← hp_6] at s
    replace g := lift_let2 hp_6 g
    obtain rfl := s
    refine gBool_intro rfl (?_)
    have m_5 := k_5.tame
    have bx_1 := bx_1.keep k_5
    have bx_2 := bx_2.keep k_5
    have bx_3 := bx_3.keep k_5
    have k0 := k0.trans k_5
    have kh := kh.trans k_5
    refine lift_not g (fun q_7 g => ?_) (fun q_7 g => ?_)
    · refine stA bx_3 (base_add _ _) rfl fun h_6 bx_3 k_6 m_6 => ?_
      have bx_1 := bx_1.keepB d_1q_3 k_6
      have bx_2 := bx_2.keepB d_2q_3 k_6
      have k0 := KeepB.keep k0 k_6 o_3
      have kh := KeepB.keep kh k_6 oh_3
      refine stA bx_3 (base_add _ _) rfl fun h_7 bx_3 k_7 m_7 => ?_
      have bx_1 := bx_1.keepB d_1q_3 k_7
      have bx_2 := bx_2.keepB d_2q_3 k_7
      have k0 := KeepB.keep k0 k_7 o_3
      have kh := KeepB.keep kh k_7 oh_3
      refine ldA bx_3 (base_add _ _) rfl ?_
      refine gBool_intro rfl ?_
      refine ldA bx_3 (base_add _ _) rfl ?_
      refine gSlice_intro rfl ?_
      exact g _ _ k0 ⟨_, _, rfl, ⟨_, _, rfl, (GotE.nil _ _)⟩, ⟨rfl, (show In .i64 (2 : Int) by decide)⟩⟩
    · exact D2.hv k0 i0 (r1_1.tame (m_1.trans (m_2.trans (m_3.trans (m_4.trans m_5))))) bx_1 o_1 (r2_1.tame (m_1.trans (m_2.trans (m_3.trans (m_4.trans m_5))))) bx_2 o_2 (GotE.nil _ _) bx_3 o_3 d_1q_2 d_1q_3 d_2q_3 g
def v (x0 : Int) (b1_0 : Bool) (xs1_1 : List Nat) (b2_0 : Bool) (xs2_1 : List Nat) : ((Bool × List Nat) × Int) := D1.v x0 b1_0 xs1_1 b2_0 xs2_1
theorem hv {h : Hp} {x0 : Int} (i0 : In .i64 x0) {b1_0 : Bool} {a1_1 : Option Addr} {c1_1 l1_1 : Nat} {xs1_1 : List Nat} (r1_1 : Rd h a1_1 c1_1 xs1_1) (e1_1 : l1_1 = xs1_1.length) {b2_0 : Bool} {a2_1 : Option Addr} {c2_1 l2_1 : Nat} {xs2_1 : List Nat} (r2_1 : Rd h a2_1 c2_1 xs2_1) (e2_1 : l2_1 = xs2_1.length) : HC id #[.int .i64 x0, .agg #[.bool b1_0, .slice a1_1 l1_1 c1_1], .agg #[.bool b2_0, .slice a2_1 l2_1 c2_1]] h fun v_ h_ => Keep h h_ ∧ (s2 sZW (sI .i64)) h h_ v_ (v x0 b1_0 xs1_1 b2_0 xs2_1) :=
  ok (D1.hv (Keep.refl _) i0 r1_1 e1_1 r2_1 e2_1 fun v h' k s => ⟨k, s⟩)
end num_way_div

end Go.Proofs.YtpglfeeebnnkkaaDoor.G

/- The calls of layer 4 over values: what they answer. -/
namespace Go.Proofs.YtpglfeeebnnkkaaDoor.G
open Go.Gv
set_option linter.unusedVariables false
set_option maxRecDepth 100000
theorem Form_v (b : Bool) (xs : List Nat) : num_Form.v b xs = decide (FrmZ (b, xs)) := by
  unfold num_Form.v num_Form.D1.v FrmZ
  by_cases f : Frm xs
  · cases b
    · simp [f]
    · cases xs with
      | nil => simp [f]
      | cons x xs => simp [f]; omega
  · simp [f]
theorem Sign_v (b : Bool) (xs : List Nat) : num_Sign.v b xs = cmpZ (zi (b, xs)) 0 := by
  unfold num_Sign.v num_Sign.D1.v
  rw [zi_sg]
  show _ = cmpZ (sg b (val xs)) 0
  by_cases h : val xs = 0
  · rw [h, sg_zero, blen_zero]; simp [cmpZ]
  · have := blen_pos h
    have e : (((blen (val xs) : Nat) : Int) == 0) = false := by simp; omega
    rw [e]
    cases b
    · have : ¬ sg false (val xs) < 0 := by unfold sg; simp
      have h2 : sg false (val xs) ≠ 0 := fun e => h (sg_eq_zero.mp e)
      simp [cmpZ, this, h2]
    · have : sg true (val xs) < 0 := by unfold sg; simp; omega
      simp [cmpZ, this]
theorem Of_v {n : Int} (i : In .i64 n) : num_Of.v n = zz n := by
  rw [in_i64] at i
  unfold num_Of.v num_Of.D1.v zz
  by_cases h : n < 0
  · have e1 : IntKind.u64.wrap (0 - IntKind.u64.wrap n) = ((n.natAbs : Nat) : Int) := by
      rw [wrap_u64, wrap_u64]; omega
    simp only [h, decide_true, cond_true, letV, Bool.true_and]
    rw [e1, Int.toNat_natCast, len_pos_digs]
    have : n.natAbs ≠ 0 := by omega
    simp [this]
  · have e1 : IntKind.u64.wrap n = ((n.natAbs : Nat) : Int) := by rw [wrap_u64]; omega
    simp only [h, decide_false, cond_false, letV, Bool.false_and]
    rw [e1, Int.toNat_natCast]
theorem Neg_v (b : Bool) (xs : List Nat) : num_Neg.v b xs = negZ (b, xs) := by
  unfold num_Neg.v num_Neg.D1.v negZ
  rw [Form_v]
  by_cases f : FrmZ (b, xs)
  · simp only [f, decide_true, letV, Bool.not_true, cond_false, if_true]
    show tellZ (!b) (lim (val xs)) = _
    rw [tell_lim, zi_sg, neg_sg]
  · simp only [f, decide_false, letV, Bool.not_false, cond_true, if_false]
    rfl
theorem cmpI_lt {m n : Nat} : decide (cmpI m n < 0) = decide (m < n) := by
  unfold cmpI
  by_cases h : m < n
  · simp [h]
  · rw [if_neg h]; split <;> simp [h]
theorem Add_D2 {b c : Bool} {xs ys : List Nat} (fx : Frm xs) (fy : Frm ys) (p : Bool) (zs : List Nat) : num_Add.D2.v b xs c ys p zs = zlim (sg b (val xs) + sg c (val ys)) := by
  unfold num_Add.D2.v num_Add.D3.v
  by_cases h : b = c
  · subst h
    simp only [beq_self_eq_true, cond_true, letV]
    show tellZ b (addS xs ys) = _
    rw [addS_form fx fy, tell_lim, add_sg_same]
  · have e : (b == c) = false := by simp [h]
    simp only [e, cond_false, letV, cmpI_lt]
    by_cases hl : val xs < val ys
    · simp only [hl, decide_true, cond_true]
      show tellZ c (subS ys xs) = _
      rw [subS_form fy fx (Nat.le_of_lt hl), tell_lim, Int.add_comm, add_sg_diff (fun e => h e.symm) (Nat.le_of_lt hl)]
    · simp only [hl, decide_false, cond_false]
      show tellZ b (subS xs ys) = _
      rw [subS_form fx fy (by omega), tell_lim, add_sg_diff h (by omega)]
theorem Add_v (b c : Bool) (xs ys : List Nat) : num_Add.v b xs c ys = twoZ addI (b, xs) (c, ys) := by
  unfold num_Add.v num_Add.D1.v twoZ
  rw [Form_v, Form_v]
  by_cases f : FrmZ (b, xs)
  · by_cases f2 : FrmZ (c, ys)
    · simp only [f, f2, decide_true, letV, Bool.not_true, cond_false, and_self, if_true]
      exact Add_D2 f.1 f2.1 _ _
    · simp only [f, f2, decide_true, decide_false, letV, Bool.not_true, Bool.not_false, cond_false, cond_true, and_false, if_false]; rfl
  · simp only [f, decide_false, letV, Bool.not_false, cond_true, false_and, if_false]; rfl
theorem Mul_v (b c : Bool) (xs ys : List Nat) : num_Mul.v b xs c ys = twoZ mulI (b, xs) (c, ys) := by
  unfold num_Mul.v num_Mul.D1.v num_Mul.D2.v twoZ
  rw [Form_v, Form_v]
  by_cases f : FrmZ (b, xs)
  · by_cases f2 : FrmZ (c, ys)
    · simp only [f, f2, decide_true, letV, Bool.not_true, cond_false, and_self, if_true]
      show tellZ (!(b == c)) (mulS xs ys) = zlim (sg b (val xs) * sg c (val ys))
      unfold mulS
      rw [if_pos ⟨f.1, f2.1⟩, tell_lim, mul_sg]
      have : (!(b == c)) = xor b c := by cases b <;> cases c <;> rfl
      rw [this]
    · simp only [f, f2, decide_true, decide_false, letV, Bool.not_true, Bool.not_false, cond_false, cond_true, and_false, if_false]; rfl
  · simp only [f, decide_false, letV, Bool.not_false, cond_true, false_and, if_false]; rfl
theorem Shl_v (b : Bool) (xs : List Nat) (n : Int) : num_Shl.v b xs n = shlZ (b, xs) n := by
  unfold num_Shl.v num_Shl.D1.v shlZ
  rw [Form_v]
  by_cases hn : n < 0
  · simp only [hn, decide_true, cond_true, if_true]; rfl
  · by_cases f : FrmZ (b, xs)
    · simp only [hn, f, decide_true, decide_false, letV, Bool.not_true, cond_false, if_true, if_false]
      show tellZ b (shlS xs n) = zlim (sg b (val xs) * 2 ^ n.toNat)
      unfold shlS
      rw [if_neg hn, if_pos f.1, tell_lim, shl_sg]
    · simp only [hn, f, decide_false, letV, Bool.not_false, cond_true, cond_false, if_false]; rfl
theorem cmp_sg {b c : Bool} {A B : Nat} (hb : b = true → A ≠ 0) (hc : c = true → B ≠ 0) : cmpZ (sg b A) (sg c B) = if b = true ∧ c = false then -1 else if b = false ∧ c = true then 1 else if b = true then cmpI B A else cmpI A B := by
  unfold cmpZ cmpI sg
  cases b <;> cases c
  · simp only [Bool.false_eq_true, and_false, if_false, and_true]
    by_cases h : A < B
    · simp [h]
    · simp only [h, if_false, Int.ofNat_lt, Int.natCast_inj]
  · simp only [Bool.false_eq_true, if_false, and_self, if_true, reduceCtorEq]
    have := hc rfl
    rw [if_neg (by omega), if_neg (by omega)]
  · simp only [if_true, Bool.false_eq_true, if_false, and_self, reduceCtorEq]
    have := hb rfl
    rw [if_pos (by omega)]
  · simp only [if_true, reduceCtorEq, and_false, false_and, if_false]
    by_cases h : B < A
    · rw [if_pos (by omega), if_pos h]
    · rw [if_neg (by omega), if_neg h]
      by_cases h2 : B = A
      · rw [if_pos (by omega), if_pos h2]
      · rw [if_neg (by omega), if_neg h2]
theorem frmZ_ne {b : Bool} {xs : List Nat} (f : FrmZ (b, xs)) : b = true → val xs ≠ 0 := fun h h0 => f.2 ⟨h, (val_nil_iff f.1).mp h0⟩
theorem Cmp_v (b c : Bool) (xs ys : List Nat) : num_Cmp.v b xs c ys = cmpS (b, xs) (c, ys) := by
  unfold num_Cmp.v num_Cmp.D1.v cmpS
  rw [Form_v, Form_v]
  by_cases f : FrmZ (b, xs)
  · by_cases f2 : FrmZ (c, ys)
    · simp only [f, f2, decide_true, letV, Bool.not_true, cond_false, and_self, if_true]
      rw [zi_sg, zi_sg]
      show _ = (cmpZ (sg b (val xs)) (sg c (val ys)), 0)
      rw [cmp_sg (frmZ_ne f) (frmZ_ne f2)]
      cases b <;> cases c <;> simp [num_Cmp.D2.v, num_Cmp.D3.v]
    · simp only [f, f2, decide_true, decide_false, letV, Bool.not_true, Bool.not_false, cond_false, cond_true, and_false, if_false]
  · simp only [f, decide_false, letV, Bool.not_false, cond_true, false_and, if_false]
theorem Small_v {b : Bool} {xs : List Nat} (hw : Words xs) : num_Small.v b xs = smaS (b, xs) := by
  unfold num_Small.v num_Small.D1.v smaS
  rw [Form_v]
  by_cases f : FrmZ (b, xs)
  · simp only [f, decide_true, letV, Bool.not_true, cond_false, if_true]
    rw [zi_sg]
    show _ = if -9223372036854775808 ≤ sg b (val xs) ∧ sg b (val xs) < 9223372036854775808 then (sg b (val xs), 0) else (0, 5)
    match xs, hw, f with
    | [], _, _ => rw [show val [] = 0 from rfl, sg_zero]; rfl
    | [w], hw, f =>
      have hw := hw w (by simp)
      have h0 : w ≠ 0 := by
        intro e; subst e
        have := f.1.2
        simp [trimL] at this
      have e1 : val [w] = w := by simp [val]
      rw [e1]
      have e2 : ([w] : List Nat).getD 0 0 = w := rfl
      simp only [List.length_singleton, e2]
      unfold num_Small.D2.v
      have c0 : (((1 : Nat) : Int) == 0) = false := rfl
      have c1 : decide (((1 : Nat) : Int) > 1) = false := rfl
      rw [c0, c1]
      simp only [cond_false]
      by_cases h1 : w > 9223372036854775808
      · have : decide (((w : Nat) : Int) > 9223372036854775808) = true := by simp; omega
        rw [this]; simp only [cond_true]
        rw [if_neg]
        unfold sg; cases b <;> simp <;> omega
      · have : decide (((w : Nat) : Int) > 9223372036854775808) = false := by simp; omega
        rw [this]; simp only [cond_false]
        by_cases h2 : w = 9223372036854775808
        · subst h2
          cases b
          · rfl
          · simp only [sg, if_true]; rfl
        · have : (((w : Nat) : Int) == 9223372036854775808) = false := by simp; omega
          rw [this]; simp only [cond_false]
          cases b
          · simp only [cond_false, sg, Bool.false_eq_true, if_false]
            rw [wrap_i64 (by omega) (by omega), if_pos (by omega)]
          · simp only [cond_true, sg, if_true]
            rw [wrap_u64, if_pos (by omega)]
            have e3 : (0 - ((w : Nat) : Int)) % 18446744073709551616 = 18446744073709551616 - (w : Int) := by omega
            rw [e3]
            have e4 : IntKind.i64.wrap (18446744073709551616 - (w : Int)) = -(w : Int) := by
              have e1 : (2 : Int) ^ 64 = 18446744073709551616 := by decide
              have e2 : (2 : Int) ^ (64 - 1) = 9223372036854775808 := by decide
              simp only [IntKind.wrap, IntKind.bits, IntKind.signed, Bool.true_and, e1, e2]
              rw [if_pos (by simp; omega)]; omega
            rw [e4]
    | w :: x :: t, hw, f =>
      have hl : (w :: x :: t).length = t.length + 2 := rfl
      have hb : 18446744073709551616 ≤ val (w :: x :: t) := by
        have hlt := val_lt_len (xs := [18446744073709551615]) (ys := w :: x :: t) (by intro y hy; simp at hy; omega) f.1.2 (by simp)
        have : val [18446744073709551615] = 18446744073709551615 := by simp [val]
        omega
      generalize val (w :: x :: t) = V at hb ⊢
      rw [hl]
      have c0 : (((t.length + 2 : Nat) : Int) == 0) = false := by simp; omega
      have c1 : decide (((t.length + 2 : Nat) : Int) > 1) = true := by simp; omega
      rw [c0, c1]
      simp only [cond_false, cond_true]
      rw [if_neg]
      unfold sg; cases b <;> simp <;> omega
  · simp only [f, decide_false, letV, Bool.not_false, cond_true, if_false]
/-! ### quotients -/
theorem made_lim (w : Int) (neg : Bool) {Q : Nat} (some : Bool) (half : Int) (h : (digs Q).length ≤ 8192) : madeZ w neg (digs Q) some half = zlim (sg neg (if moreB w neg (Q % 2 == 1) some half = true then Q + 1 else Q)) := by
  unfold madeZ
  have e : (bitS (val (digs Q)) 0 == 1) = (Q % 2 == 1) := by
    rw [val_digs]; unfold bitS
    rw [if_neg (by decide)]
    simp only [Int.toNat_zero, Nat.pow_zero, Nat.div_one]
    rcases Nat.mod_two_eq_zero_or_one Q with h | h <;> rw [h] <;> rfl
  rw [e]
  have l1 : (digs 1).length ≤ 8192 := by rw [digs_pos (by decide)]; simp [digs_zero]
  have f1 : Frm (digs Q) := ⟨h, trimL_digs Q⟩
  have f2 : Frm (digs 1) := ⟨l1, trimL_digs 1⟩
  have e2 : (digs Q, (0 : Int)) = lim Q := by unfold lim; rw [if_pos h]
  rw [addS_form f1 f2, val_digs, val_digs, e2, ← apply_ite lim, tell_lim]
/-- Rounding, by the way: down, up, to the nearest. -/
def wayF (w : Int) : Int → Int → Int := if w = 0 then flo else if w = 1 then cei else nea
theorem way_sg (w : Int) {p q : Bool} {A B : Nat} (hB : B ≠ 0) (hp : p = true → A ≠ 0) : wayF w (sg p A) (sg q B) = sg (xor p q) (if moreB w (xor p q) (A / B % 2 == 1) (decide (A % B ≠ 0)) (cmpI (A % B) (B - A % B)) = true then A / B + 1 else A / B) := by
  unfold wayF moreB
  by_cases h0 : w = 0
  · rw [if_pos h0, if_pos h0, flo_sg hB hp]
    simp only [Bool.and_eq_true, decide_eq_true_eq]
  · rw [if_neg h0, if_neg h0]
    by_cases h1 : w = 1
    · rw [if_pos h1, if_pos h1, cei_sg hB hp]
      simp only [Bool.and_eq_true, decide_eq_true_eq, Bool.not_eq_true']
    · rw [if_neg h1, if_neg h1, nea_sg hB hp]
      unfold nearN
      have hm := Nat.mod_lt A (show 0 < B by omega)
      generalize A % B = r at *
      generalize A / B = Q
      congr 1
      have e : ((decide (0 < cmpI r (B - r)) || (decide (cmpI r (B - r) = 0) && (Q % 2 == 1))) = true) ↔ (B < 2 * r ∨ (2 * r = B ∧ Q % 2 = 1)) := by
        unfold cmpI
        rcases Nat.lt_trichotomy r (B - r) with h | h | h
        · rw [if_pos h]; simp; omega
        · rw [if_neg (by omega), if_pos h]; simp; omega
        · rw [if_neg (by omega), if_neg (by omega)]; simp; omega
      by_cases c : B < 2 * r ∨ (2 * r = B ∧ Q % 2 = 1)
      · rw [if_pos c, if_pos (e.mpr c)]
      · rw [if_neg c, if_neg (fun h => c (e.mp h))]
theorem shr_D3 (w : Int) (b : Bool) (xs : List Nat) (p : Bool) (zs qs : List Nat) (s : Bool) (y : Int) : num_way_shr.D3.v w b xs p zs qs s y = madeZ w b qs s y := rfl
theorem shr_half {A n : Nat} (hn : n < 9223372036854775808) (K : Int → Zw × Int) : (bif (bitS A (IntKind.i64.wrap ((n : Int) - 1)) == 1) then (bif (((ctz A : Nat) : Int) == IntKind.i64.wrap ((n : Int) - 1)) then K 0 else K 1) else K (-1)) = K (cmpI (A % 2 ^ n) (2 ^ n - A % 2 ^ n)) := by
  have hw : IntKind.i64.wrap ((n : Int) - 1) = (n : Int) - 1 := wrap_i64 (by omega) (by omega)
  rw [hw]
  by_cases hA : A = 0
  · subst hA
    have : bitS 0 ((n : Int) - 1) = 0 := by unfold bitS; split <;> simp
    rw [this, Nat.zero_mod]
    have : cmpI 0 (2 ^ n - 0) = -1 := by unfold cmpI; rw [if_pos (by have := Nat.two_pow_pos n; omega)]
    rw [this]; rfl
  rcases Nat.eq_zero_or_pos n with h0 | h0
  · subst h0
    have : bitS A (((0 : Nat) : Int) - 1) = 0 := by unfold bitS; rw [if_pos (by decide)]
    rw [this, Nat.pow_zero, Nat.mod_one]
    rfl
  · obtain ⟨m, rfl⟩ : ∃ m, n = m + 1 := ⟨n - 1, by omega⟩
    have e1 : ((m + 1 : Nat) : Int) - 1 = (m : Int) := by omega
    rw [e1]
    have hbit : bitS A (m : Int) = ((A / 2 ^ m % 2 : Nat) : Int) := by unfold bitS; rw [if_neg (by omega), Int.toNat_natCast]
    rw [hbit]
    have hh := bit_half (A := A) (n := m)
    have hm := Nat.mod_lt A (Nat.two_pow_pos (m + 1))
    rcases Nat.mod_two_eq_zero_or_one (A / 2 ^ m) with e | e
    · rw [e] at hh ⊢
      have : cmpI (A % 2 ^ (m + 1)) (2 ^ (m + 1) - A % 2 ^ (m + 1)) = -1 := by
        unfold cmpI
        rw [if_pos]
        have : ¬ 2 ^ (m + 1) ≤ 2 * (A % 2 ^ (m + 1)) := fun h => absurd (hh.mpr h) (by decide)
        omega
      rw [this]; rfl
    · have h2 := hh.mp e
      have h3 := ctz_half hA e
      rw [e]
      by_cases hc : ctz A = m
      · have h4 := h3.mp hc
        have : cmpI (A % 2 ^ (m + 1)) (2 ^ (m + 1) - A % 2 ^ (m + 1)) = 0 := by
          unfold cmpI
          rw [if_neg (by omega), if_pos (by omega)]
        rw [this, hc]; simp
      · have h4 : ¬ 2 * (A % 2 ^ (m + 1)) = 2 ^ (m + 1) := fun h => hc (h3.mpr h)
        have : cmpI (A % 2 ^ (m + 1)) (2 ^ (m + 1) - A % 2 ^ (m + 1)) = 1 := by
          unfold cmpI
          rw [if_neg (by omega), if_neg (by omega)]
        have hne : (((ctz A : Nat) : Int) == ((m : Nat) : Int)) = false := by simp; omega
        rw [this, hne]; simp
theorem digs_frm {b : Bool} {xs : List Nat} (f : FrmZ (b, xs)) (hw : Words xs) : digs (val xs) = xs := f.1.digs hw
theorem way_shr_v (w : Int) {b : Bool} {xs : List Nat} (hw : Words xs) {n : Int} (i : In .i64 n) : num_way_shr.v w b xs n = shrZ (wayF w) (b, xs) n := by
  rw [in_i64] at i
  unfold num_way_shr.v num_way_shr.D1.v shrZ
  rw [Form_v]
  by_cases hn : n < 0
  · simp only [hn, decide_true, cond_true, if_true]; rfl
  · obtain ⟨k, rfl⟩ := Int.eq_ofNat_of_zero_le (Int.not_lt.mp hn)
    by_cases f : FrmZ (b, xs)
    · have hd : (digs (val xs / 2 ^ k)).length ≤ 8192 := by
        have h1 := digs_len_mono (Nat.div_le_self (val xs) (2 ^ k))
        rw [digs_frm f hw] at h1
        exact Nat.le_trans h1 f.1.1
      have es : shrS xs (k : Int) = (digs (val xs / 2 ^ k), 0) := by
        unfold shrS
        rw [if_neg hn, if_pos f.1, Int.toNat_natCast]
        unfold lim; rw [if_pos hd]
      simp only [hn, f, decide_true, decide_false, letV, Bool.not_true, cond_false, if_true, if_false, Int.toNat_natCast]
      rw [es]
      have D : ∀ s : Bool, num_way_shr.D2.v w (k : Int) b xs false [] (digs (val xs / 2 ^ k)) s = zlim (sg b (if moreB w b (val xs / 2 ^ k % 2 == 1) s (cmpI (val xs % 2 ^ k) (2 ^ k - val xs % 2 ^ k)) = true then val xs / 2 ^ k + 1 else val xs / 2 ^ k)) := by
        intro s
        unfold num_way_shr.D2.v
        simp only [shr_D3]
        rw [shr_half (A := val xs) (n := k) (by omega) fun y => madeZ w b (digs (val xs / 2 ^ k)) s y, made_lim _ _ _ _ hd]
      simp only [D]
      have e0 : ((0 : Int) != 0) = false := rfl
      rw [e0, cond_false, zi_sg]
      show _ = zlim (wayF w (sg b (val xs)) (2 ^ k))
      rw [pow2_sg, way_sg w (pow2_ne k) (frmZ_ne f), Bool.xor_false]
      by_cases hx : xs = []
      · subst hx
        have e1 : decide (((([] : List Nat).length : Nat) : Int) > 0) = false := rfl
        have e2 : decide (val [] % 2 ^ k ≠ 0) = false := by simp [val]
        rw [e1, e2]; rfl
      · have hA : val xs ≠ 0 := fun h => hx ((val_nil_iff f.1).mp h)
        have hl : 0 < xs.length := List.length_pos_iff.mpr hx
        have e1 : decide (((xs.length : Nat) : Int) > 0) = true := by simp; omega
        have e2 : decide (((ctz (val xs) : Nat) : Int) < (k : Int)) = decide (val xs % 2 ^ k ≠ 0) := by
          rw [decide_eq_decide, ← ctz_some hA]; omega
        rw [e1, e2]; rfl
    · simp only [hn, f, decide_false, letV, Bool.not_false, cond_true, cond_false, if_false]; rfl
theorem way_div_v (w : Int) {b c : Bool} {xs ys : List Nat} (hw : Words xs) (hy : Words ys) : num_way_div.v w b xs c ys = quoZ (wayF w) (b, xs) (c, ys) := by
  unfold num_way_div.v num_way_div.D1.v num_way_div.D2.v quoZ
  rw [Form_v, Form_v]
  by_cases f : FrmZ (b, xs)
  · by_cases f2 : FrmZ (c, ys)
    · simp only [f, f2, decide_true, letV, Bool.not_true, cond_false, and_self, if_true]
      have hz : zi (c, ys) = 0 ↔ ys = [] := by rw [zi_sg, sg_eq_zero]; exact val_nil_iff f2.1
      by_cases h0 : ys = []
      · rw [if_pos (hz.mpr h0)]; subst h0; rfl
      · have hB : val ys ≠ 0 := fun h => h0 ((val_nil_iff f2.1).mp h)
        have e0 : (((ys.length : Nat) : Int) == 0) = false := by simp; exact h0
        rw [if_neg (fun h => h0 (hz.mp h)), e0, cond_false]
        have lx : (digs (val xs)).length ≤ 8192 := by rw [digs_frm f hw]; exact f.1.1
        have ly : (digs (val ys)).length ≤ 8192 := by rw [digs_frm f2 hy]; exact f2.1.1
        have eq : quoS xs ys = (digs (val xs / val ys), digs (val xs % val ys), 0) := by
          unfold quoS
          rw [if_pos ⟨f.1, f2.1⟩, if_neg hB]
        have hm := Nat.mod_lt (val xs) (show 0 < val ys by omega)
        have lr : (digs (val xs % val ys)).length ≤ 8192 := Nat.le_trans (digs_len_mono (Nat.le_of_lt hm)) ly
        have es : subS ys (digs (val xs % val ys)) = (digs (val ys - val xs % val ys), 0) := by
          rw [subS_form f2.1 ⟨lr, trimL_digs _⟩ (by rw [val_digs]; exact Nat.le_of_lt hm), val_digs]
          unfold lim; rw [if_pos (Nat.le_trans (digs_len_mono (Nat.sub_le _ _)) ly)]
        rw [eq]
        simp only [es]
        have e1 : ((0 : Int) != 0) = false := rfl
        rw [e1, cond_false, val_digs, val_digs]
        show madeZ w _ _ _ _ = zlim (wayF w (sg b (val xs)) (sg c (val ys)))
        rw [made_lim _ _ _ _ (Nat.le_trans (digs_len_mono (Nat.div_le_self _ _)) lx), way_sg w hB (frmZ_ne f)]
        have ex : (!(b == c)) = xor b c := by cases b <;> cases c <;> rfl
        have el : decide (((digs (val xs % val ys)).length : Int) > 0) = decide (val xs % val ys ≠ 0) := by
          rw [← len_pos_digs, decide_eq_decide]; omega
        rw [ex, el]
    · simp only [f, f2, decide_true, decide_false, letV, Bool.not_true, Bool.not_false, cond_false, cond_true, and_false, if_false]; rfl
  · simp only [f, decide_false, letV, Bool.not_false, cond_true, false_and, if_false]; rfl
/-! ### the contracts -/
section
variable {a b : Option Addr} {c d l m : Nat} {xs ys : List Nat} {h : Hp} {x y : Int} {p q : Bool}
theorem num_Of.hs (i : In .i64 x) : HC num_Of.id #[.int .i64 x] h fun v h' => Keep h h' ∧ sZW h h' v (zz x) := by rw [← Of_v i]; exact num_Of.hv i
theorem num_Form.hs (r : Rd h a c xs) (e : l = xs.length) : HC num_Form.id #[.agg #[.bool p, .slice a l c]] h fun v h' => Keep h h' ∧ sBool h h' v (decide (FrmZ (p, xs))) := by rw [← Form_v]; exact num_Form.hv r e
theorem num_Sign.hs (r : Rd h a c xs) (e : l = xs.length) : HC num_Sign.id #[.agg #[.bool p, .slice a l c]] h fun v h' => Keep h h' ∧ sI .i64 h h' v (cmpZ (zi (p, xs)) 0) := by rw [← Sign_v]; exact num_Sign.hv r e
theorem num_Small.hs (r : Rd h a c xs) (e : l = xs.length) : HC num_Small.id #[.agg #[.bool p, .slice a l c]] h fun v h' => Keep h h' ∧ s2 (sI .i64) (sI .i64) h h' v (smaS (p, xs)) := by rw [← Small_v r.words]; exact num_Small.hv r e
theorem num_Cmp.hs (r : Rd h a c xs) (e : l = xs.length) (s : Rd h b d ys) (f : m = ys.length) : HC num_Cmp.id #[.agg #[.bool p, .slice a l c], .agg #[.bool q, .slice b m d]] h fun v h' => Keep h h' ∧ s2 (sI .i64) (sI .i64) h h' v (cmpS (p, xs) (q, ys)) := by rw [← Cmp_v]; exact num_Cmp.hv r e s f
theorem num_Neg.hs (r : Rd h a c xs) (e : l = xs.length) : HC num_Neg.id #[.agg #[.bool p, .slice a l c]] h fun v h' => Keep h h' ∧ s2 sZW (sI .i64) h h' v (negZ (p, xs)) := by rw [← Neg_v]; exact num_Neg.hv r e
theorem num_Add.hs (r : Rd h a c xs) (e : l = xs.length) (s : Rd h b d ys) (f : m = ys.length) : HC num_Add.id #[.agg #[.bool p, .slice a l c], .agg #[.bool q, .slice b m d]] h fun v h' => Keep h h' ∧ s2 sZW (sI .i64) h h' v (twoZ addI (p, xs) (q, ys)) := by rw [← Add_v]; exact num_Add.hv r e s f
theorem num_Mul.hs (r : Rd h a c xs) (e : l = xs.length) (s : Rd h b d ys) (f : m = ys.length) : HC num_Mul.id #[.agg #[.bool p, .slice a l c], .agg #[.bool q, .slice b m d]] h fun v h' => Keep h h' ∧ s2 sZW (sI .i64) h h' v (twoZ mulI (p, xs) (q, ys)) := by rw [← Mul_v]; exact num_Mul.hv r e s f
theorem num_Shl.hs (r : Rd h a c xs) (e : l = xs.length) (i : In .i64 x) : HC num_Shl.id #[.agg #[.bool p, .slice a l c], .int .i64 x] h fun v h' => Keep h h' ∧ s2 sZW (sI .i64) h h' v (shlZ (p, xs) x) := by rw [← Shl_v]; exact num_Shl.hv r e i
theorem num_way_shr.hs (j : In .i64 y) (r : Rd h a c xs) (e : l = xs.length) (i : In .i64 x) (tb : Tab h) : HC num_way_shr.id #[.int .i64 y, .agg #[.bool p, .slice a l c], .int .i64 x] h fun v h' => Keep h h' ∧ s2 sZW (sI .i64) h h' v (shrZ (wayF y) (p, xs) x) := by rw [← way_shr_v y r.words i]; exact num_way_shr.hv j r e i tb
theorem num_way_div.hs (j : In .i64 y) (r : Rd h a c xs) (e : l = xs.length) (s : Rd h b d ys) (f : m = ys.length) : HC num_way_div.id #[.int .i64 y, .agg #[.bool p, .slice a l c], .agg #[.bool q, .slice b m d]] h fun v h' => Keep h h' ∧ s2 sZW (sI .i64) h h' v (quoZ (wayF y) (p, xs) (q, ys)) := by rw [← way_div_v y r.words s.words]; exact num_way_div.hv j r e s f
end
end Go.Proofs.YtpglfeeebnnkkaaDoor.G

/- Functions without loops as functions of values. Written by a program of this work. -/
namespace Go.Proofs.YtpglfeeebnnkkaaDoor.G
open Go.Gv
set_option linter.unusedVariables false
set_option maxRecDepth 100000
namespace num_Sub
def D2.v (b2_0 : Bool) (xs2_1 : List Nat) (b3_0 : Bool) (xs3_1 : List Nat) (b4_0 : Bool) (xs4_1 : List Nat) : ((Bool × List Nat) × Int) :=
  letV (twoZ addI (b2_0, xs2_1) ((((!b3_0) && decide (0 < xs3_1.length))), xs3_1)) fun p_8 =>
  ((p_8.1.1, p_8.1.2), p_8.2)
theorem D2.hv {R : Rt} {h0 h : Hp} (k0 : Keep h0 h) {b2_0 : Bool} {a2_1 : Option Addr} {c2_1 : Nat} {xs2_1 : List Nat} (r2_1 : Rd h a2_1 c2_1 xs2_1) {B2 : Nat} (bx2 : BlkV h B2 [.bool b2_0, .slice a2_1 xs2_1.length c2_1]) (o2 : h0.size ≤ B2) {b3_0 : Bool} {a3_1 : Option Addr} {c3_1 : Nat} {xs3_1 : List Nat} (r3_1 : Rd h a3_1 c3_1 xs3_1) {B3 : Nat} (bx3 : BlkV h B3 [.bool b3_0, .slice a3_1 xs3_1.length c3_1]) (o3 : h0.size ≤ B3) {b4_0 : Bool} {a4_1 : Option Addr} {c4_1 : Nat} {xs4_1 : List Nat} (r4_1 : GotE eU64 h0 h a4_1 c4_1 xs4_1) {B4 : Nat} (bx4 : BlkV h B4 [.bool b4_0, .slice a4_1 xs4_1.length c4_1]) (o4 : h0.size ≤ B4) (d2q3 : B2 ≠ B3) (d2q4 : B2 ≠ B4) (d3q4 : B3 ≠ B4) (g : Post (s2 sZW (sI .i64)) h0 R (D2.v b2_0 xs2_1 b3_0 xs3_1 b4_0 xs4_1)) : D2.t R (⟨B2, 0, none⟩ : Addr) (⟨B3, 0, none⟩ : Addr) (⟨B4, 0, none⟩ : Addr) h := by
  have kh := Keep.refl h
  have lt2 := bx2.lt
  have lt3 := bx3.lt
  have lt4 := bx4.lt
  unfold D2.v at g
  unfold D2.t
  refine ⟨blkLt rfl (lt2), ?_⟩
  refine ldA bx2 (base_add _ _) rfl ?_
  refine gBool_intro rfl ?_
  refine ldA bx2 (base_add _ _) rfl ?_
  refine gSlice_intro rfl ?_
  refine ⟨blkLt (base_add _ _) (lt3), ?_⟩
  refine ldA bx3 (base_add _ _) rfl ?_
  refine gBool_intro rfl ?_
  refine ⟨blkLt (base_add _ _) (lt3), ?_⟩
  refine ldA bx3 (base_add _ _) rfl ?_
  refine gSlice_intro rfl ?_
  refine hc_intro (num_whole.hv _ _ _ _ _) fun v h_1 ⟨k_1, s⟩ => ?_
  subst s
  refine gAgg_intro rfl (uncons_intro (gBool_intro rfl (uncons_intro (gSlice_intro rfl (unnil_intro (?_))))))
  have m_1 := k_1.tame
  have bx2 := bx2.keep k_1
  have bx3 := bx3.keep k_1
  have bx4 := bx4.keep k_1
  have k0 := k0.trans k_1
  have kh := kh.trans k_1
  refine ⟨k_1.preLe (Nat.le_refl _), ?_⟩
  refine hc_intro (num_Add.hs (r2_1.tame (m_1)) rfl (r3_1.tame (m_1)) rfl) fun v h_2 ⟨k_2, s⟩ => ?_
  obtain ⟨p_8, hp_8⟩ : ∃ p, p = twoZ addI (b2_0, xs2_1) ((((!b3_0) && decide (0 < xs3_1.length))), xs3_1) := ⟨_, rfl⟩
  rw [← hp_8] at s
  replace g := lift_let2 hp_8 g
  obtain ⟨_, _, rfl, ⟨a_8_0, c_8_0, rfl, r_8_0⟩, ⟨rfl, i_8_1⟩⟩ := s
  refine gTup_intro rfl (uncons_intro (gAgg_intro rfl (uncons_intro (gBool_intro rfl (uncons_intro (gSlice_intro rfl (unnil_intro (uncons_intro (gInt_intro rfl (unnil_intro (?_)))))))))))
  have r_8_0 := r_8_0.from k0.le
  have m_2 := k_2.tame
  have bx2 := bx2.keep k_2
  have bx3 := bx3.keep k_2
  have bx4 := bx4.keep k_2
  have k0 := k0.trans k_2
  have kh := kh.trans k_2
  refine ⟨k_2.preLe (m_1).le, ?_⟩
  refine stA bx4 (base_add _ _) rfl fun h_3 bx4 k_3 m_3 => ?_
  have bx2 := bx2.keepB d2q4 k_3
  have bx3 := bx3.keepB d3q4 k_3
  have k0 := KeepB.keep k0 k_3 o4
  refine stA bx4 (base_add _ _) rfl fun h_4 bx4 k_4 m_4 => ?_
  have bx2 := bx2.keepB d2q4 k_4
  have bx3 := bx3.keepB d3q4 k_4
  have k0 := KeepB.keep k0 k_4 o4
  refine ldA bx4 (base_add _ _) rfl ?_
  refine gBool_intro rfl ?_
  refine ldA bx4 (base_add _ _) rfl ?_
  refine gSlice_intro rfl ?_
  exact g _ _ k0 ⟨_, _, rfl, ⟨_, _, rfl, (r_8_0.tame (m_3.trans m_4))⟩, ⟨rfl, i_8_1⟩⟩
def D1.v (b0_0 : Bool) (xs0_1 : List Nat) (b1_0 : Bool) (xs1_1 : List Nat) : ((Bool × List Nat) × Int) :=
  bif (!(decide (FrmZ (b0_0, xs0_1)))) then
    ((false, ([] : List Nat)), (2 : Int))
  else
    bif (!(decide (FrmZ (b1_0, xs1_1)))) then
      ((false, ([] : List Nat)), (2 : Int))
    else
      D2.v b0_0 xs0_1 b1_0 xs1_1 false ([] : List Nat)
theorem D1.hv {R : Rt} {h0 h : Hp} (k0 : Keep h0 h) {b0_0 : Bool} {a0_1 : Option Addr} {c0_1 l0_1 : Nat} {xs0_1 : List Nat} (r0_1 : Rd h a0_1 c0_1 xs0_1) (e0_1 : l0_1 = xs0_1.length) {b1_0 : Bool} {a1_1 : Option Addr} {c1_1 l1_1 : Nat} {xs1_1 : List Nat} (r1_1 : Rd h a1_1 c1_1 xs1_1) (e1_1 : l1_1 = xs1_1.length) (g : Post (s2 sZW (sI .i64)) h0 R (D1.v b0_0 xs0_1 b1_0 xs1_1)) : D1.t R b0_0 a0_1 l0_1 c0_1 b1_0 a1_1 l1_1 c1_1 h := by
  subst e0_1 e1_1
  have kh := Keep.refl h
  unfold D1.v at g
  unfold D1.t
  refine boxV fun h_1 bx_1 k_1 => ?_
  have o_1 : h0.size ≤ h.size := k0.le
  have oh_1 : h.size ≤ h.size := kh.le
  have lt_1 := bx_1.lt
  have m_1 := k_1.tame
  have k0 := k0.trans k_1
  have kh := kh.trans k_1
  refine boxV fun h_2 bx_2 k_2 => ?_
  have d_1q_2 : h.size ≠ h_1.size := Nat.ne_of_lt bx_1.lt
  have o_2 : h0.size ≤ h_1.size := k0.le
  have oh_2 : h.size ≤ h_1.size := kh.le
  have lt_2 := bx_2.lt
  have m_2 := k_2.tame
  have bx_1 := bx_1.keep k_2
  have k0 := k0.trans k_2
  have kh := kh.trans k_2
  refine boxV fun h_3 bx_3 k_3 => ?_
  have d_1q_3 : h.size ≠ h_2.size := Nat.ne_of_lt bx_1.lt
  have d_2q_3 : h_1.size ≠ h_2.size := Nat.ne_of_lt bx_2.lt
  have o_3 : h0.size ≤ h_2.size := k0.le
  have oh_3 : h.size ≤ h_2.size := kh.le
  have lt_3 := bx_3.lt
  have m_3 := k_3.tame
  have bx_1 := bx_1.keep k_3
  have bx_2 := bx_2.keep k_3
  have k0 := k0.trans k_3
  have kh := kh.trans k_3
  refine ldA bx_1 (base_add _ _) rfl ?_
  refine gBool_intro rfl ?_
  refine ldA bx_1 (base_add _ _) rfl ?_
  refine gSlice_intro rfl ?_
  refine hc_intro (num_Form.hs (r0_1.tame (m_1.trans (m_2.trans m_3))) rfl) fun v h_4 ⟨k_4, s⟩ => ?_
  obtain rfl := s
  refine gBool_intro rfl (?_)
  have m_4 := k_4.tame
  have bx_1 := bx_1.keep k_4
  have bx_2 := bx_2.keep k_4
  have bx_3 := bx_3.keep k_4
  have k0 := k0.trans k_4
  have kh := kh.trans k_4
  refine lift_not g (fun q_5 g => ?_) (fun q_5 g => ?_)
  · refine stA bx_3 (base_add _ _) rfl fun h_5 bx_3 k_5 m_5 => ?_
    have bx_1 := bx_1.keepB d_1q_3 k_5
    have bx_2 := bx_2.keepB d_2q_3 k_5
    have k0 := KeepB.keep k0 k_5 o_3
    have kh := KeepB.keep kh k_5 oh_3
    refine stA bx_3 (base_add _ _) rfl fun h_6 bx_3 k_6 m_6 => ?_
    have bx_1 := bx_1.keepB d_1q_3 k_6
    have bx_2 := bx_2.keepB d_2q_3 k_6
    have k0 := KeepB.keep k0 k_6 o_3
    have kh := KeepB.keep kh k_6 oh_3
    refine ldA bx_3 (base_add _ _) rfl ?_
    refine gBool_intro rfl ?_
    refine ldA bx_3 (base_add _ _) rfl ?_
    refine gSlice_intro rfl ?_
    exact g _ _ k0 ⟨_, _, rfl, ⟨_, _, rfl, (GotE.nil _ _)⟩, ⟨rfl, (show In .i64 (2 : Int) by decide)⟩⟩
  · refine ldA bx_2 (base_add _ _) rfl ?_
    refine gBool_intro rfl ?_
    refine ldA bx_2 (base_add _ _) rfl ?_
    refine gSlice_intro rfl ?_
    refine hc_intro (num_Form.hs (r1_1.tame (m_1.trans (m_2.trans (m_3.trans m_4)))) rfl) fun v h_5 ⟨k_5, s⟩ => ?_
    obtain rfl := s
    refine gBool_intro rfl (?_)
    have m_5 := k_5.tame
    have bx_1 := bx_1.keep k_5
    have bx_2 := bx_2.keep k_5
    have bx_3 := bx_3.keep k_5
    have k0 := k0.trans k_5
    have kh := kh.trans k_5
    refine lift_not g (fun q_7 g => ?_) (fun q_7 g => ?_)
    · refine stA bx_3 (base_add _ _) rfl fun h_6 bx_3 k_6 m_6 => ?_
      have bx_1 := bx_1.keepB d_1q_3 k_6
      have bx_2 := bx_2.keepB d_2q_3 k_6
      have k0 := KeepB.keep k0 k_6 o_3
      have kh := KeepB.keep kh k_6 oh_3
      refine stA bx_3 (base_add _ _) rfl fun h_7 bx_3 k_7 m_7 => ?_
      have bx_1 := bx_1.keepB d_1q_3 k_7
      have bx_2 := bx_2.keepB d_2q_3 k_7
      have k0 := KeepB.keep k0 k_7 o_3
      have kh := KeepB.keep kh k_7 oh_3
      refine ldA bx_3 (base_add _ _) rfl ?_
      refine gBool_intro rfl ?_
      refine ldA bx_3 (base_add _ _) rfl ?_
      refine gSlice_intro rfl ?_
      exact g _ _ k0 ⟨_, _, rfl, ⟨_, _, rfl, (GotE.nil _ _)⟩, ⟨rfl, (show In .i64 (2 : Int) by decide)⟩⟩
    · exact D2.hv k0 (r0_1.tame (m_1.trans (m_2.trans (m_3.trans (m_4.trans m_5))))) bx_1 o_1 (r1_1.tame (m_1.trans (m_2.trans (m_3.trans (m_4.trans m_5))))) bx_2 o_2 (GotE.nil _ _) bx_3 o_3 d_1q_2 d_1q_3 d_2q_3 g
def v (b0_0 : Bool) (xs0_1 : List Nat) (b1_0 : Bool) (xs1_1 : List Nat) : ((Bool × List Nat) × Int) := D1.v b0_0 xs0_1 b1_0 xs1_1
theorem hv {h : Hp} {b0_0 : Bool} {a0_1 : Option Addr} {c0_1 l0_1 : Nat} {xs0_1 : List Nat} (r0_1 : Rd h a0_1 c0_1 xs0_1) (e0_1 : l0_1 = xs0_1.length) {b1_0 : Bool} {a1_1 : Option Addr} {c1_1 l1_1 : Nat} {xs1_1 : List Nat} (r1_1 : Rd h a1_1 c1_1 xs1_1) (e1_1 : l1_1 = xs1_1.length) : HC id #[.agg #[.bool b0_0, .slice a0_1 l0_1 c0_1], .agg #[.bool b1_0, .slice a1_1 l1_1 c1_1]] h fun v_ h_ => Keep h h_ ∧ (s2 sZW (sI .i64)) h h_ v_ (v b0_0 xs0_1 b1_0 xs1_1) :=
  ok (D1.hv (Keep.refl _) r0_1 e0_1 r1_1 e1_1 fun v h' k s => ⟨k, s⟩)
end num_Sub

namespace num_FloorShr
def D1.v (b0_0 : Bool) (xs0_1 : List Nat) (x1 : Int) : ((Bool × List Nat) × Int) :=
  letV (shrZ (wayF (0 : Int)) (b0_0, xs0_1) x1) fun p_3 =>
  ((p_3.1.1, p_3.1.2), p_3.2)
theorem D1.hv {R : Rt} {h0 h : Hp} (k0 : Keep h0 h) {b0_0 : Bool} {a0_1 : Option Addr} {c0_1 l0_1 : Nat} {xs0_1 : List Nat} (r0_1 : Rd h a0_1 c0_1 xs0_1) (e0_1 : l0_1 = xs0_1.length) {x1 : Int} (i1 : In .i64 x1) (tb : Tab h) (g : Post (s2 sZW (sI .i64)) h0 R (D1.v b0_0 xs0_1 x1)) : D1.t R b0_0 a0_1 l0_1 c0_1 x1 h := by
  subst e0_1
  have kh := Keep.refl h
  unfold D1.v at g
  unfold D1.t
  refine boxV fun h_1 bx_1 k_1 => ?_
  have o_1 : h0.size ≤ h.size := k0.le
  have oh_1 : h.size ≤ h.size := kh.le
  have lt_1 := bx_1.lt
  have m_1 := k_1.tame
  have k0 := k0.trans k_1
  have kh := kh.trans k_1
  refine boxV fun h_2 bx_2 k_2 => ?_
  have d_1q_2 : h.size ≠ h_1.size := Nat.ne_of_lt bx_1.lt
  have o_2 : h0.size ≤ h_1.size := k0.le
  have oh_2 : h.size ≤ h_1.size := kh.le
  have lt_2 := bx_2.lt
  have m_2 := k_2.tame
  have bx_1 := bx_1.keep k_2
  have k0 := k0.trans k_2
  have kh := kh.trans k_2
  refine ldA bx_1 (base_add _ _) rfl ?_
  refine gBool_intro rfl ?_
  refine ldA bx_1 (base_add _ _) rfl ?_
  refine gSlice_intro rfl ?_
  refine hc_intro (num_way_shr.hs (show In .i64 (0 : Int) by decide) (r0_1.tame (m_1.trans m_2)) rfl i1 (tb.tame (m_1.trans m_2))) fun v h_3 ⟨k_3, s⟩ => ?_
  obtain ⟨p_3, hp_3⟩ : ∃ p, p = shrZ (wayF (0 : Int)) (b0_0, xs0_1) x1 := ⟨_, rfl⟩
  rw [← hp_3] at s
  replace g := lift_let2 hp_3 g
  obtain ⟨_, _, rfl, ⟨a_3_0, c_3_0, rfl, r_3_0⟩, ⟨rfl, i_3_1⟩⟩ := s
  refine gTup_intro rfl (uncons_intro (gAgg_intro rfl (uncons_intro (gBool_intro rfl (uncons_intro (gSlice_intro rfl (unnil_intro (uncons_intro (gInt_intro rfl (unnil_intro (?_)))))))))))
  have r_3_0 := r_3_0.from k0.le
  have m_3 := k_3.tame
  have bx_1 := bx_1.keep k_3
  have bx_2 := bx_2.keep k_3
  have k0 := k0.trans k_3
  have kh := kh.trans k_3
  refine stA bx_2 (base_add _ _) rfl fun h_4 bx_2 k_4 m_4 => ?_
  have bx_1 := bx_1.keepB d_1q_2 k_4
  have k0 := KeepB.keep k0 k_4 o_2
  have kh := KeepB.keep kh k_4 oh_2
  refine stA bx_2 (base_add _ _) rfl fun h_5 bx_2 k_5 m_5 => ?_
  have bx_1 := bx_1.keepB d_1q_2 k_5
  have k0 := KeepB.keep k0 k_5 o_2
  have kh := KeepB.keep kh k_5 oh_2
  refine ldA bx_2 (base_add _ _) rfl ?_
  refine gBool_intro rfl ?_
  refine ldA bx_2 (base_add _ _) rfl ?_
  refine gSlice_intro rfl ?_
  exact g _ _ k0 ⟨_, _, rfl, ⟨_, _, rfl, (r_3_0.tame (m_4.trans m_5))⟩, ⟨rfl, i_3_1⟩⟩
def v (b0_0 : Bool) (xs0_1 : List Nat) (x1 : Int) : ((Bool × List Nat) × Int) := D1.v b0_0 xs0_1 x1
theorem hv {h : Hp} {b0_0 : Bool} {a0_1 : Option Addr} {c0_1 l0_1 : Nat} {xs0_1 : List Nat} (r0_1 : Rd h a0_1 c0_1 xs0_1) (e0_1 : l0_1 = xs0_1.length) {x1 : Int} (i1 : In .i64 x1) (tb : Tab h) : HC id #[.agg #[.bool b0_0, .slice a0_1 l0_1 c0_1], .int .i64 x1] h fun v_ h_ => Keep h h_ ∧ (s2 sZW (sI .i64)) h h_ v_ (v b0_0 xs0_1 x1) :=
  ok (D1.hv (Keep.refl _) r0_1 e0_1 i1 tb fun v h' k s => ⟨k, s⟩)
end num_FloorShr

namespace num_CeilShr
def D1.v (b0_0 : Bool) (xs0_1 : List Nat) (x1 : Int) : ((Bool × List Nat) × Int) :=
  letV (shrZ (wayF (1 : Int)) (b0_0, xs0_1) x1) fun p_3 =>
  ((p_3.1.1, p_3.1.2), p_3.2)
theorem D1.hv {R : Rt} {h0 h : Hp} (k0 : Keep h0 h) {b0_0 : Bool} {a0_1 : Option Addr} {c0_1 l0_1 : Nat} {xs0_1 : List Nat} (r0_1 : Rd h a0_1 c0_1 xs0_1) (e0_1 : l0_1 = xs0_1.length) {x1 : Int} (i1 : In .i64 x1) (tb : Tab h) (g : Post (s2 sZW (sI .i64)) h0 R (D1.v b0_0 xs0_1 x1)) : D1.t R b0_0 a0_1 l0_1 c0_1 x1 h := by
  subst e0_1
  have kh := Keep.refl h
  unfold D1.v at g
  unfold D1.t
  refine boxV fun h_1 bx_1 k_1 => ?_
  have o_1 : h0.size ≤ h.size := k0.le
  have oh_1 : h.size ≤ h.size := kh.le
  have lt_1 := bx_1.lt
  have m_1 := k_1.tame
  have k0 := k0.trans k_1
  have kh := kh.trans k_1
  refine boxV fun h_2 bx_2 k_2 => ?_
  have d_1q_2 : h.size ≠ h_1.size := Nat.ne_of_lt bx_1.lt
  have o_2 : h0.size ≤ h_1.size := k0.le
  have oh_2 : h.size ≤ h_1.size := kh.le
  have lt_2 := bx_2.lt
  have m_2 := k_2.tame
  have bx_1 := bx_1.keep k_2
  have k0 := k0.trans k_2
  have kh := kh.trans k_2
  refine ldA bx_1 (base_add _ _) rfl ?_
  refine gBool_intro rfl ?_
  refine ldA bx_1 (base_add _ _) rfl ?_
  refine gSlice_intro rfl ?_
  refine hc_intro (num_way_shr.hs (show In .i64 (1 : Int) by decide) (r0_1.tame (m_1.trans m_2)) rfl i1 (tb.tame (m_1.trans m_2))) fun v h_3 ⟨k_3, s⟩ => ?_
  obtain ⟨p_3, hp_3⟩ : ∃ p, p = shrZ (wayF (1 : Int)) (b0_0, xs0_1) x1 := ⟨_, rfl⟩
  rw [← hp_3] at s
  replace g := lift_let2 hp_3 g
  obtain ⟨_, _, rfl, ⟨a_3_0, c_3_0, rfl, r_3_0⟩, ⟨rfl, i_3_1⟩⟩ := s
  refine gTup_intro rfl (uncons_intro (gAgg_intro rfl (uncons_intro (gBool_intro rfl (uncons_intro (gSlice_intro rfl (unnil_intro (uncons_intro (gInt_intro rfl (unnil_intro (?_)))))))))))
  have r_3_0 := r_3_0.from k0.le
  have m_3 := k_3.tame
  have bx_1 := bx_1.keep k_3
  have bx_2 := bx_2.keep k_3
  have k0 := k0.trans k_3
  have kh := kh.trans k_3
  refine stA bx_2 (base_add _ _) rfl fun h_4 bx_2 k_4 m_4 => ?_
  have bx_1 := bx_1.keepB d_1q_2 k_4
  have k0 := KeepB.keep k0 k_4 o_2
  have kh := KeepB.keep kh k_4 oh_2
  refine stA bx_2 (base_add _ _) rfl fun h_5 bx_2 k_5 m_5 => ?_
  have bx_1 := bx_1.keepB d_1q_2 k_5
  have k0 := KeepB.keep k0 k_5 o_2
  have kh := KeepB.keep kh k_5 oh_2
  refine ldA bx_2 (base_add _ _) rfl ?_
  refine gBool_intro rfl ?_
  refine ldA bx_2 (base_add _ _) rfl ?_
  refine gSlice_intro rfl ?_
  exact g _ _ k0 ⟨_, _, rfl, ⟨_, _, rfl, (r_3_0.tame (m_4.trans m_5))⟩, ⟨rfl, i_3_1⟩⟩
def v (b0_0 : Bool) (xs0_1 : List Nat) (x1 : Int) : ((Bool × List Nat) × Int) := D1.v b0_0 xs0_1 x1
theorem hv {h : Hp} {b0_0 : Bool} {a0_1 : Option Addr} {c0_1 l0_1 : Nat} {xs0_1 : List Nat} (r0_1 : Rd h a0_1 c0_1 xs0_1) (e0_1 : l0_1 = xs0_1.length) {x1 : Int} (i1 : In .i64 x1) (tb : Tab h) : HC id #[.agg #[.bool b0_0, .slice a0_1 l0_1 c0_1], .int .i64 x1] h fun v_ h_ => Keep h h_ ∧ (s2 sZW (sI .i64)) h h_ v_ (v b0_0 xs0_1 x1) :=
  ok (D1.hv (Keep.refl _) r0_1 e0_1 i1 tb fun v h' k s => ⟨k, s⟩)
end num_CeilShr

namespace num_NearShr
def D1.v (b0_0 : Bool) (xs0_1 : List Nat) (x1 : Int) : ((Bool × List Nat) × Int) :=
  letV (shrZ (wayF (2 : Int)) (b0_0, xs0_1) x1) fun p_3 =>
  ((p_3.1.1, p_3.1.2), p_3.2)
theorem D1.hv {R : Rt} {h0 h : Hp} (k0 : Keep h0 h) {b0_0 : Bool} {a0_1 : Option Addr} {c0_1 l0_1 : Nat} {xs0_1 : List Nat} (r0_1 : Rd h a0_1 c0_1 xs0_1) (e0_1 : l0_1 = xs0_1.length) {x1 : Int} (i1 : In .i64 x1) (tb : Tab h) (g : Post (s2 sZW (sI .i64)) h0 R (D1.v b0_0 xs0_1 x1)) : D1.t R b0_0 a0_1 l0_1 c0_1 x1 h := by
  subst e0_1
  have kh := Keep.refl h
  unfold D1.v at g
  unfold D1.t
  refine boxV fun h_1 bx_1 k_1 => ?_
  have o_1 : h0.size ≤ h.size := k0.le
  have oh_1 : h.size ≤ h.size := kh.le
  have lt_1 := bx_1.lt
  have m_1 := k_1.tame
  have k0 := k0.trans k_1
  have kh := kh.trans k_1
  refine boxV fun h_2 bx_2 k_2 => ?_
  have d_1q_2 : h.size ≠ h_1.size := Nat.ne_of_lt bx_1.lt
  have o_2 : h0.size ≤ h_1.size := k0.le
  have oh_2 : h.size ≤ h_1.size := kh.le
  have lt_2 := bx_2.lt
  have m_2 := k_2.tame
  have bx_1 := bx_1.keep k_2
  have k0 := k0.trans k_2
  have kh := kh.trans k_2
  refine ldA bx_1 (base_add _ _) rfl ?_
  refine gBool_intro rfl ?_
  refine ldA bx_1 (base_add _ _) rfl ?_
  refine gSlice_intro rfl ?_
  refine hc_intro (num_way_shr.hs (show In .i64 (2 : Int) by decide) (r0_1.tame (m_1.trans m_2)) rfl i1 (tb.tame (m_1.trans m_2))) fun v h_3 ⟨k_3, s⟩ => ?_
  obtain ⟨p_3, hp_3⟩ : ∃ p, p = shrZ (wayF (2 : Int)) (b0_0, xs0_1) x1 := ⟨_, rfl⟩
  rw [← hp_3] at s
  replace g := lift_let2 hp_3 g
  obtain ⟨_, _, rfl, ⟨a_3_0, c_3_0, rfl, r_3_0⟩, ⟨rfl, i_3_1⟩⟩ := s
  refine gTup_intro rfl (uncons_intro (gAgg_intro rfl (uncons_intro (gBool_intro rfl (uncons_intro (gSlice_intro rfl (unnil_intro (uncons_intro (gInt_intro rfl (unnil_intro (?_)))))))))))
  have r_3_0 := r_3_0.from k0.le
  have m_3 := k_3.tame
  have bx_1 := bx_1.keep k_3
  have bx_2 := bx_2.keep k_3
  have k0 := k0.trans k_3
  have kh := kh.trans k_3
  refine stA bx_2 (base_add _ _) rfl fun h_4 bx_2 k_4 m_4 => ?_
  have bx_1 := bx_1.keepB d_1q_2 k_4
  have k0 := KeepB.keep k0 k_4 o_2
  have kh := KeepB.keep kh k_4 oh_2
  refine stA bx_2 (base_add _ _) rfl fun h_5 bx_2 k_5 m_5 => ?_
  have bx_1 := bx_1.keepB d_1q_2 k_5
  have k0 := KeepB.keep k0 k_5 o_2
  have kh := KeepB.keep kh k_5 oh_2
  refine ldA bx_2 (base_add _ _) rfl ?_
  refine gBool_intro rfl ?_
  refine ldA bx_2 (base_add _ _) rfl ?_
  refine gSlice_intro rfl ?_
  exact g _ _ k0 ⟨_, _, rfl, ⟨_, _, rfl, (r_3_0.tame (m_4.trans m_5))⟩, ⟨rfl, i_3_1⟩⟩
def v (b0_0 : Bool) (xs0_1 : List Nat) (x1 : Int) : ((Bool × List Nat) × Int) := D1.v b0_0 xs0_1 x1
theorem hv {h : Hp} {b0_0 : Bool} {a0_1 : Option Addr} {c0_1 l0_1 : Nat} {xs0_1 : List Nat} (r0_1 : Rd h a0_1 c0_1 xs0_1) (e0_1 : l0_1 = xs0_1.length) {x1 : Int} (i1 : In .i64 x1) (tb : Tab h) : HC id #[.agg #[.bool b0_0, .slice a0_1 l0_1 c0_1], .int .i64 x1] h fun v_ h_ => Keep h h_ ∧ (s2 sZW (sI .i64)) h h_ v_ (v b0_0 xs0_1 x1) :=
  ok (D1.hv (Keep.refl _) r0_1 e0_1 i1 tb fun v h' k s => ⟨k, s⟩)
end num_NearShr

namespace num_FloorDiv
def D1.v (b0_0 : Bool) (xs0_1 : List Nat) (b1_0 : Bool) (xs1_1 : List Nat) : ((Bool × List Nat) × Int) :=
  letV (quoZ (wayF (0 : Int)) (b0_0, xs0_1) (b1_0, xs1_1)) fun p_4 =>
  ((p_4.1.1, p_4.1.2), p_4.2)
theorem D1.hv {R : Rt} {h0 h : Hp} (k0 : Keep h0 h) {b0_0 : Bool} {a0_1 : Option Addr} {c0_1 l0_1 : Nat} {xs0_1 : List Nat} (r0_1 : Rd h a0_1 c0_1 xs0_1) (e0_1 : l0_1 = xs0_1.length) {b1_0 : Bool} {a1_1 : Option Addr} {c1_1 l1_1 : Nat} {xs1_1 : List Nat} (r1_1 : Rd h a1_1 c1_1 xs1_1) (e1_1 : l1_1 = xs1_1.length) (g : Post (s2 sZW (sI .i64)) h0 R (D1.v b0_0 xs0_1 b1_0 xs1_1)) : D1.t R b0_0 a0_1 l0_1 c0_1 b1_0 a1_1 l1_1 c1_1 h := by
  subst e0_1 e1_1
  have kh := Keep.refl h
  unfold D1.v at g
  unfold D1.t
  refine boxV fun h_1 bx_1 k_1 => ?_
  have o_1 : h0.size ≤ h.size := k0.le
  have oh_1 : h.size ≤ h.size := kh.le
  have lt_1 := bx_1.lt
  have m_1 := k_1.tame
  have k0 := k0.trans k_1
  have kh := kh.trans k_1
  refine boxV fun h_2 bx_2 k_2 => ?_
  have d_1q_2 : h.size ≠ h_1.size := Nat.ne_of_lt bx_1.lt
  have o_2 : h0.size ≤ h_1.size := k0.le
  have oh_2 : h.size ≤ h_1.size := kh.le
  have lt_2 := bx_2.lt
  have m_2 := k_2.tame
  have bx_1 := bx_1.keep k_2
  have k0 := k0.trans k_2
  have kh := kh.trans k_2
  refine boxV fun h_3 bx_3 k_3 => ?_
  have d_1q_3 : h.size ≠ h_2.size := Nat.ne_of_lt bx_1.lt
  have d_2q_3 : h_1.size ≠ h_2.size := Nat.ne_of_lt bx_2.lt
  have o_3 : h0.size ≤ h_2.size := k0.le
  have oh_3 : h.size ≤ h_2.size := kh.le
  have lt_3 := bx_3.lt
  have m_3 := k_3.tame
  have bx_1 := bx_1.keep k_3
  have bx_2 := bx_2.keep k_3
  have k0 := k0.trans k_3
  have kh := kh.trans k_3
  refine ldA bx_1 (base_add _ _) rfl ?_
  refine gBool_intro rfl ?_
  refine ldA bx_1 (base_add _ _) rfl ?_
  refine gSlice_intro rfl ?_
  refine ldA bx_2 (base_add _ _) rfl ?_
  refine gBool_intro rfl ?_
  refine ldA bx_2 (base_add _ _) rfl ?_
  refine gSlice_intro rfl ?_
  refine hc_intro (num_way_div.hs (show In .i64 (0 : Int) by decide) (r0_1.tame (m_1.trans (m_2.trans m_3))) rfl (r1_1.tame (m_1.trans (m_2.trans m_3))) rfl) fun v h_4 ⟨k_4, s⟩ => ?_
  obtain ⟨p_4, hp_4⟩ : ∃ p, p = quoZ (wayF (0 : Int)) (b0_0, xs0_1) (b1_0, xs1_1) := ⟨_, rfl⟩
  rw [← hp_4] at s
  replace g := lift_let2 hp_4 g
  obtain ⟨_, _, rfl, ⟨a_4_0, c_4_0, rfl, r_4_0⟩, ⟨rfl, i_4_1⟩⟩ := s
  refine gTup_intro rfl (uncons_intro (gAgg_intro rfl (uncons_intro (gBool_intro rfl (uncons_intro (gSlice_intro rfl (unnil_intro (uncons_intro (gInt_intro rfl (unnil_intro (?_)))))))))))
  have r_4_0 := r_4_0.from k0.le
  have m_4 := k_4.tame
  have bx_1 := bx_1.keep k_4
  have bx_2 := bx_2.keep k_4
  have bx_3 := bx_3.keep k_4
  have k0 := k0.trans k_4
  have kh := kh.trans k_4
  refine stA bx_3 (base_add _ _) rfl fun h_5 bx_3 k_5 m_5 => ?_
  have bx_1 := bx_1.keepB d_1q_3 k_5
  have bx_2 := bx_2.keepB d_2q_3 k_5
  have k0 := KeepB.keep k0 k_5 o_3
  have kh := KeepB.keep kh k_5 oh_3
  refine stA bx_3 (base_add _ _) rfl fun h_6 bx_3 k_6 m_6 => ?_
  have bx_1 := bx_1.keepB d_1q_3 k_6
  have bx_2 := bx_2.keepB d_2q_3 k_6
  have k0 := KeepB.keep k0 k_6 o_3
  have kh := KeepB.keep kh k_6 oh_3
  refine ldA bx_3 (base_add _ _) rfl ?_
  refine gBool_intro rfl ?_
  refine ldA bx_3 (base_add _ _) rfl ?_
  refine gSlice_intro rfl ?_
  exact g _ _ k0 ⟨_, _, rfl, ⟨_, _, rfl, (r_4_0.tame (m_5.trans m_6))⟩, ⟨rfl, i_4_1⟩⟩
def v (b0_0 : Bool) (xs0_1 : List Nat) (b1_0 : Bool) (xs1_1 : List Nat) : ((Bool × List Nat) × Int) := D1.v b0_0 xs0_1 b1_0 xs1_1
theorem hv {h : Hp} {b0_0 : Bool} {a0_1 : Option Addr} {c0_1 l0_1 : Nat} {xs0_1 : List Nat} (r0_1 : Rd h a0_1 c0_1 xs0_1) (e0_1 : l0_1 = xs0_1.length) {b1_0 : Bool} {a1_1 : Option Addr} {c1_1 l1_1 : Nat} {xs1_1 : List Nat} (r1_1 : Rd h a1_1 c1_1 xs1_1) (e1_1 : l1_1 = xs1_1.length) : HC id #[.agg #[.bool b0_0, .slice a0_1 l0_1 c0_1], .agg #[.bool b1_0, .slice a1_1 l1_1 c1_1]] h fun v_ h_ => Keep h h_ ∧ (s2 sZW (sI .i64)) h h_ v_ (v b0_0 xs0_1 b1_0 xs1_1) :=
  ok (D1.hv (Keep.refl _) r0_1 e0_1 r1_1 e1_1 fun v h' k s => ⟨k, s⟩)
end num_FloorDiv

namespace num_CeilDiv
def D1.v (b0_0 : Bool) (xs0_1 : List Nat) (b1_0 : Bool) (xs1_1 : List Nat) : ((Bool × List Nat) × Int) :=
  letV (quoZ (wayF (1 : Int)) (b0_0, xs0_1) (b1_0, xs1_1)) fun p_4 =>
  ((p_4.1.1, p_4.1.2), p_4.2)
theorem D1.hv {R : Rt} {h0 h : Hp} (k0 : Keep h0 h) {b0_0 : Bool} {a0_1 : Option Addr} {c0_1 l0_1 : Nat} {xs0_1 : List Nat} (r0_1 : Rd h a0_1 c0_1 xs0_1) (e0_1 : l0_1 = xs0_1.length) {b1_0 : Bool} {a1_1 : Option Addr} {c1_1 l1_1 : Nat} {xs1_1 : List Nat} (r1_1 : Rd h a1_1 c1_1 xs1_1) (e1_1 : l1_1 = xs1_1.length) (g : Post (s2 sZW (sI .i64)) h0 R (D1.v b0_0 xs0_1 b1_0 xs1_1)) : D1.t R b0_0 a0_1 l0_1 c0_1 b1_0 a1_1 l1_1 c1_1 h := by
  subst e0_1 e1_1
  have kh := Keep.refl h
  unfold D1.v at g
  unfold D1.t
  refine boxV fun h_1 bx_1 k_1 => ?_
  have o_1 : h0.size ≤ h.size := k0.le
  have oh_1 : h.size ≤ h.size := kh.le
  have lt_1 := bx_1.lt
  have m_1 := k_1.tame
  have k0 := k0.trans k_1
  have kh := kh.trans k_1
  refine boxV fun h_2 bx_2 k_2 => ?_
  have d_1q_2 : h.size ≠ h_1.size := Nat.ne_of_lt bx_1.lt
  have o_2 : h0.size ≤ h_1.size := k0.le
  have oh_2 : h.size ≤ h_1.size := kh.le
  have lt_2 := bx_2.lt
  have m_2 := k_2.tame
  have bx_1 := bx_1.keep k_2
  have k0 := k0.trans k_2
  have kh := kh.trans k_2
  refine boxV fun h_3 bx_3 k_3 => ?_
  have d_1q_3 : h.size ≠ h_2.size := Nat.ne_of_lt bx_1.lt
  have d_2q_3 : h_1.size ≠ h_2.size := Nat.ne_of_lt bx_2.lt
  have o_3 : h0.size ≤ h_2.size := k0.le
  have oh_3 : h.size ≤ h_2.size := kh.le
  have lt_3 := bx_3.lt
  have m_3 := k_3.tame
  have bx_1 := bx_1.keep k_3
  have bx_2 := bx_2.keep k_3
  have k0 := k0.trans k_3
  have kh := kh.trans k_3
  refine ldA bx_1 (base_add _ _) rfl ?_
  refine gBool_intro rfl ?_
  refine ldA bx_1 (base_add _ _) rfl ?_
  refine gSlice_intro rfl ?_
  refine ldA bx_2 (base_add _ _) rfl ?_
  refine gBool_intro rfl ?_
  refine ldA bx_2 (base_add _ _) rfl ?_
  refine gSlice_intro rfl ?_
  refine hc_intro (num_way_div.hs (show In .i64 (1 : Int) by decide) (r0_1.tame (m_1.trans (m_2.trans m_3))) rfl (r1_1.tame (m_1.trans (m_2.trans m_3))) rfl) fun v h_4 ⟨k_4, s⟩ => ?_
  obtain ⟨p_4, hp_4⟩ : ∃ p, p = quoZ (wayF (1 : Int)) (b0_0, xs0_1) (b1_0, xs1_1) := ⟨_, rfl⟩
  rw [← hp_4] at s
  replace g := lift_let2 hp_4 g
  obtain ⟨_, _, rfl, ⟨a_4_0, c_4_0, rfl, r_4_0⟩, ⟨rfl, i_4_1⟩⟩ := s
  refine gTup_intro rfl (uncons_intro (gAgg_intro rfl (uncons_intro (gBool_intro rfl (uncons_intro (gSlice_intro rfl (unnil_intro (uncons_intro (gInt_intro rfl (unnil_intro (?_)))))))))))
  have r_4_0 := r_4_0.from k0.le
  have m_4 := k_4.tame
  have bx_1 := bx_1.keep k_4
  have bx_2 := bx_2.keep k_4
  have bx_3 := bx_3.keep k_4
  have k0 := k0.trans k_4
  have kh := kh.trans k_4
  refine stA bx_3 (base_add _ _) rfl fun h_5 bx_3 k_5 m_5 => ?_
  have bx_1 := bx_1.keepB d_1q_3 k_5
  have bx_2 := bx_2.keepB d_2q_3 k_5
  have k0 := KeepB.keep k0 k_5 o_3
  have kh := KeepB.keep kh k_5 oh_3
  refine stA bx_3 (base_add _ _) rfl fun h_6 bx_3 k_6 m_6 => ?_
  have bx_1 := bx_1.keepB d_1q_3 k_6
  have bx_2 := bx_2.keepB d_2q_3 k_6
  have k0 := KeepB.keep k0 k_6 o_3
  have kh := KeepB.keep kh k_6 oh_3
  refine ldA bx_3 (base_add _ _) rfl ?_
  refine gBool_intro rfl ?_
  refine ldA bx_3 (base_add _ _) rfl ?_
  refine gSlice_intro rfl ?_
  exact g _ _ k0 ⟨_, _, rfl, ⟨_, _, rfl, (r_4_0.tame (m_5.trans m_6))⟩, ⟨rfl, i_4_1⟩⟩
def v (b0_0 : Bool) (xs0_1 : List Nat) (b1_0 : Bool) (xs1_1 : List Nat) : ((Bool × List Nat) × Int) := D1.v b0_0 xs0_1 b1_0 xs1_1
theorem hv {h : Hp} {b0_0 : Bool} {a0_1 : Option Addr} {c0_1 l0_1 : Nat} {xs0_1 : List Nat} (r0_1 : Rd h a0_1 c0_1 xs0_1) (e0_1 : l0_1 = xs0_1.length) {b1_0 : Bool} {a1_1 : Option Addr} {c1_1 l1_1 : Nat} {xs1_1 : List Nat} (r1_1 : Rd h a1_1 c1_1 xs1_1) (e1_1 : l1_1 = xs1_1.length) : HC id #[.agg #[.bool b0_0, .slice a0_1 l0_1 c0_1], .agg #[.bool b1_0, .slice a1_1 l1_1 c1_1]] h fun v_ h_ => Keep h h_ ∧ (s2 sZW (sI .i64)) h h_ v_ (v b0_0 xs0_1 b1_0 xs1_1) :=
  ok (D1.hv (Keep.refl _) r0_1 e0_1 r1_1 e1_1 fun v h' k s => ⟨k, s⟩)
end num_CeilDiv

namespace num_NearDiv
def D1.v (b0_0 : Bool) (xs0_1 : List Nat) (b1_0 : Bool) (xs1_1 : List Nat) : ((Bool × List Nat) × Int) :=
  letV (quoZ (wayF (2 : Int)) (b0_0, xs0_1) (b1_0, xs1_1)) fun p_4 =>
  ((p_4.1.1, p_4.1.2), p_4.2)
theorem D1.hv {R : Rt} {h0 h : Hp} (k0 : Keep h0 h) {b0_0 : Bool} {a0_1 : Option Addr} {c0_1 l0_1 : Nat} {xs0_1 : List Nat} (r0_1 : Rd h a0_1 c0_1 xs0_1) (e0_1 : l0_1 = xs0_1.length) {b1_0 : Bool} {a1_1 : Option Addr} {c1_1 l1_1 : Nat} {xs1_1 : List Nat} (r1_1 : Rd h a1_1 c1_1 xs1_1) (e1_1 : l1_1 = xs1_1.length) (g : Post (s2 sZW (sI .i64)) h0 R (D1.v b0_0 xs0_1 b1_0 xs1_1)) : D1.t R b0_0 a0_1 l0_1 c0_1 b1_0 a1_1 l1_1 c1_1 h := by
  subst e0_1 e1_1
  have kh := Keep.refl h
  unfold D1.v at g
  unfold D1.t
  refine boxV fun h_1 bx_1 k_1 => ?_
  have o_1 : h0.size ≤ h.size := k0.le
  have oh_1 : h.size ≤ h.size := kh.le
  have lt_1 := bx_1.lt
  have m_1 := k_1.tame
  have k0 := k0.trans k_1
  have kh := kh.trans k_1
  refine boxV fun h_2 bx_2 k_2 => ?_
  have d_1q_2 : h.size ≠ h_1.size := Nat.ne_of_lt bx_1.lt
  have o_2 : h0.size ≤ h_1.size := k0.le
  have oh_2 : h.size ≤ h_1.size := kh.le
  have lt_2 := bx_2.lt
  have m_2 := k_2.tame
  have bx_1 := bx_1.keep k_2
  have k0 := k0.trans k_2
  have kh := kh.trans k_2
  refine boxV fun h_3 bx_3 k_3 => ?_
  have d_1q_3 : h.size ≠ h_2.size := Nat.ne_of_lt bx_1.lt
  have d_2q_3 : h_1.size ≠ h_2.size := Nat.ne_of_lt bx_2.lt
  have o_3 : h0.size ≤ h_2.size := k0.le
  have oh_3 : h.size ≤ h_2.size := kh.le
  have lt_3 := bx_3.lt
  have m_3 := k_3.tame
  have bx_1 := bx_1.keep k_3
  have bx_2 := bx_2.keep k_3
  have k0 := k0.trans k_3
  have kh := kh.trans k_3
  refine ldA bx_1 (base_add _ _) rfl ?_
  refine gBool_intro rfl ?_
  refine ldA bx_1 (base_add _ _) rfl ?_
  refine gSlice_intro rfl ?_
  refine ldA bx_2 (base_add _ _) rfl ?_
  refine gBool_intro rfl ?_
  refine ldA bx_2 (base_add _ _) rfl ?_
  refine gSlice_intro rfl ?_
  refine hc_intro (num_way_div.hs (show In .i64 (2 : Int) by decide) (r0_1.tame (m_1.trans (m_2.trans m_3))) rfl (r1_1.tame (m_1.trans (m_2.trans m_3))) rfl) fun v h_4 ⟨k_4, s⟩ => ?_
  obtain ⟨p_4, hp_4⟩ : ∃ p, p = quoZ (wayF (2 : Int)) (b0_0, xs0_1) (b1_0, xs1_1) := ⟨_, rfl⟩
  rw [← hp_4] at s
  replace g := lift_let2 hp_4 g
  obtain ⟨_, _, rfl, ⟨a_4_0, c_4_0, rfl, r_4_0⟩, ⟨rfl, i_4_1⟩⟩ := s
  refine gTup_intro rfl (uncons_intro (gAgg_intro rfl (uncons_intro (gBool_intro rfl (uncons_intro (gSlice_intro rfl (unnil_intro (uncons_intro (gInt_intro rfl (unnil_intro (?_)))))))))))
  have r_4_0 := r_4_0.from k0.le
  have m_4 := k_4.tame
  have bx_1 := bx_1.keep k_4
  have bx_2 := bx_2.keep k_4
  have bx_3 := bx_3.keep k_4
  have k0 := k0.trans k_4
  have kh := kh.trans k_4
  refine stA bx_3 (base_add _ _) rfl fun h_5 bx_3 k_5 m_5 => ?_
  have bx_1 := bx_1.keepB d_1q_3 k_5
  have bx_2 := bx_2.keepB d_2q_3 k_5
  have k0 := KeepB.keep k0 k_5 o_3
  have kh := KeepB.keep kh k_5 oh_3
  refine stA bx_3 (base_add _ _) rfl fun h_6 bx_3 k_6 m_6 => ?_
  have bx_1 := bx_1.keepB d_1q_3 k_6
  have bx_2 := bx_2.keepB d_2q_3 k_6
  have k0 := KeepB.keep k0 k_6 o_3
  have kh := KeepB.keep kh k_6 oh_3
  refine ldA bx_3 (base_add _ _) rfl ?_
  refine gBool_intro rfl ?_
  refine ldA bx_3 (base_add _ _) rfl ?_
  refine gSlice_intro rfl ?_
  exact g _ _ k0 ⟨_, _, rfl, ⟨_, _, rfl, (r_4_0.tame (m_5.trans m_6))⟩, ⟨rfl, i_4_1⟩⟩
def v (b0_0 : Bool) (xs0_1 : List Nat) (b1_0 : Bool) (xs1_1 : List Nat) : ((Bool × List Nat) × Int) := D1.v b0_0 xs0_1 b1_0 xs1_1
theorem hv {h : Hp} {b0_0 : Bool} {a0_1 : Option Addr} {c0_1 l0_1 : Nat} {xs0_1 : List Nat} (r0_1 : Rd h a0_1 c0_1 xs0_1) (e0_1 : l0_1 = xs0_1.length) {b1_0 : Bool} {a1_1 : Option Addr} {c1_1 l1_1 : Nat} {xs1_1 : List Nat} (r1_1 : Rd h a1_1 c1_1 xs1_1) (e1_1 : l1_1 = xs1_1.length) : HC id #[.agg #[.bool b0_0, .slice a0_1 l0_1 c0_1], .agg #[.bool b1_0, .slice a1_1 l1_1 c1_1]] h fun v_ h_ => Keep h h_ ∧ (s2 sZW (sI .i64)) h h_ v_ (v b0_0 xs0_1 b1_0 xs1_1) :=
  ok (D1.hv (Keep.refl _) r0_1 e0_1 r1_1 e1_1 fun v h' k s => ⟨k, s⟩)
end num_NearDiv

namespace num_Mod
def D3.v (b3_0 : Bool) (xs3_1 : List Nat) (b4_0 : Bool) (xs4_1 : List Nat) (xs7 : List Nat) (x8 : Int) : ((Bool × List Nat) × Int) :=
  letV (tellZ b3_0 (xs7, x8)) fun p_14 =>
  ((p_14.1.1, p_14.1.2), p_14.2)
theorem D3.hv {R : Rt} {h0 h : Hp} (k0 : Keep h0 h) {b3_0 : Bool} {a3_1 : Option Addr} {c3_1 : Nat} {xs3_1 : List Nat} (r3_1 : Rd h a3_1 c3_1 xs3_1) {B3 : Nat} (bx3 : BlkV h B3 [.bool b3_0, .slice a3_1 xs3_1.length c3_1]) (o3 : h0.size ≤ B3) {b4_0 : Bool} {a4_1 : Option Addr} {c4_1 : Nat} {xs4_1 : List Nat} (r4_1 : GotE eU64 h0 h a4_1 c4_1 xs4_1) {B4 : Nat} (bx4 : BlkV h B4 [.bool b4_0, .slice a4_1 xs4_1.length c4_1]) (o4 : h0.size ≤ B4) {a7 : Option Addr} {c7 l7 : Nat} {xs7 : List Nat} (r7 : GotE eU64 h0 h a7 c7 xs7) (e7 : l7 = xs7.length) {x8 : Int} (i8 : In .i64 x8) (d3q4 : B3 ≠ B4) (g : Post (s2 sZW (sI .i64)) h0 R (D3.v b3_0 xs3_1 b4_0 xs4_1 xs7 x8)) : D3.t R (⟨B3, 0, none⟩ : Addr) (⟨B4, 0, none⟩ : Addr) a7 l7 c7 x8 h := by
  subst e7
  have kh := Keep.refl h
  have lt3 := bx3.lt
  have lt4 := bx4.lt
  unfold D3.v at g
  unfold D3.t
  refine ldA bx3 (base_add _ _) rfl ?_
  refine gBool_intro rfl ?_
  refine hc_intro (num_told.hf r7 rfl i8) fun v h_1 ⟨k_1, s⟩ => ?_
  obtain ⟨p_14, hp_14⟩ : ∃ p, p = tellZ b3_0 (xs7, x8) := ⟨_, rfl⟩
  rw [← hp_14] at s
  replace g := lift_let2 hp_14 g
  obtain ⟨_, _, rfl, ⟨a_14_0, c_14_0, rfl, r_14_0⟩, ⟨rfl, i_14_1⟩⟩ := s
  refine gTup_intro rfl (uncons_intro (gAgg_intro rfl (uncons_intro (gBool_intro rfl (uncons_intro (gSlice_intro rfl (unnil_intro (uncons_intro (gInt_intro rfl (unnil_intro (?_)))))))))))
  have m_1 := k_1.tame
  have bx3 := bx3.keep k_1
  have bx4 := bx4.keep k_1
  have k0 := k0.trans k_1
  have kh := kh.trans k_1
  refine stA bx4 (base_add _ _) rfl fun h_2 bx4 k_2 m_2 => ?_
  have bx3 := bx3.keepB d3q4 k_2
  have k0 := KeepB.keep k0 k_2 o4
  refine stA bx4 (base_add _ _) rfl fun h_3 bx4 k_3 m_3 => ?_
  have bx3 := bx3.keepB d3q4 k_3
  have k0 := KeepB.keep k0 k_3 o4
  refine ldA bx4 (base_add _ _) rfl ?_
  refine gBool_intro rfl ?_
  refine ldA bx4 (base_add _ _) rfl ?_
  refine gSlice_intro rfl ?_
  exact g _ _ k0 ⟨_, _, rfl, ⟨_, _, rfl, (r_14_0.tame (m_2.trans m_3))⟩, ⟨rfl, i_14_1⟩⟩
def D2.v (b2_0 : Bool) (xs2_1 : List Nat) (b3_0 : Bool) (xs3_1 : List Nat) (b4_0 : Bool) (xs4_1 : List Nat) : ((Bool × List Nat) × Int) :=
  bif ((((xs3_1.length : Nat) : Int)) == (0 : Int)) then
    ((false, ([] : List Nat)), (4 : Int))
  else
    letV (quoS xs2_1 xs3_1) fun p_9 =>
    bif (p_9.2.2 != (0 : Int)) then
      ((false, ([] : List Nat)), p_9.2.2)
    else
      bif (!(b2_0 == b3_0)) then
        bif (decide ((((p_9.2.1.length : Nat) : Int)) > (0 : Int))) then
          letV (subS xs3_1 p_9.2.1) fun p_13 =>
          D3.v b3_0 xs3_1 b4_0 xs4_1 p_13.1 p_13.2
        else
          D3.v b3_0 xs3_1 b4_0 xs4_1 p_9.2.1 p_9.2.2
      else
        D3.v b3_0 xs3_1 b4_0 xs4_1 p_9.2.1 p_9.2.2
theorem D2.hv {R : Rt} {h0 h : Hp} (k0 : Keep h0 h) {b2_0 : Bool} {a2_1 : Option Addr} {c2_1 : Nat} {xs2_1 : List Nat} (r2_1 : Rd h a2_1 c2_1 xs2_1) {B2 : Nat} (bx2 : BlkV h B2 [.bool b2_0, .slice a2_1 xs2_1.length c2_1]) (o2 : h0.size ≤ B2) {b3_0 : Bool} {a3_1 : Option Addr} {c3_1 : Nat} {xs3_1 : List Nat} (r3_1 : Rd h a3_1 c3_1 xs3_1) {B3 : Nat} (bx3 : BlkV h B3 [.bool b3_0, .slice a3_1 xs3_1.length c3_1]) (o3 : h0.size ≤ B3) {b4_0 : Bool} {a4_1 : Option Addr} {c4_1 : Nat} {xs4_1 : List Nat} (r4_1 : GotE eU64 h0 h a4_1 c4_1 xs4_1) {B4 : Nat} (bx4 : BlkV h B4 [.bool b4_0, .slice a4_1 xs4_1.length c4_1]) (o4 : h0.size ≤ B4) (d2q3 : B2 ≠ B3) (d2q4 : B2 ≠ B4) (d3q4 : B3 ≠ B4) (g : Post (s2 sZW (sI .i64)) h0 R (D2.v b2_0 xs2_1 b3_0 xs3_1 b4_0 xs4_1)) : D2.t R (⟨B2, 0, none⟩ : Addr) (⟨B3, 0, none⟩ : Addr) (⟨B4, 0, none⟩ : Addr) h := by
  have kh := Keep.refl h
  have lt2 := bx2.lt
  have lt3 := bx3.lt
  have lt4 := bx4.lt
  unfold D2.v at g
  unfold D2.t
  refine ldA bx3 (base_add _ _) rfl ?_
  refine gSlice_intro rfl ?_
  refine lift_eq g (fun q_8 g => ?_) (fun q_8 g => ?_)
  · refine stA bx4 (base_add _ _) rfl fun h_1 bx4 k_1 m_1 => ?_
    have bx2 := bx2.keepB d2q4 k_1
    have bx3 := bx3.keepB d3q4 k_1
    have k0 := KeepB.keep k0 k_1 o4
    refine stA bx4 (base_add _ _) rfl fun h_2 bx4 k_2 m_2 => ?_
    have bx2 := bx2.keepB d2q4 k_2
    have bx3 := bx3.keepB d3q4 k_2
    have k0 := KeepB.keep k0 k_2 o4
    refine ldA bx4 (base_add _ _) rfl ?_
    refine gBool_intro rfl ?_
    refine ldA bx4 (base_add _ _) rfl ?_
    refine gSlice_intro rfl ?_
    exact g _ _ k0 ⟨_, _, rfl, ⟨_, _, rfl, (GotE.nil _ _)⟩, ⟨rfl, (show In .i64 (4 : Int) by decide)⟩⟩
  · refine ldA bx2 (base_add _ _) rfl ?_
    refine gSlice_intro rfl ?_
    refine ldA bx3 (base_add _ _) rfl ?_
    refine gSlice_intro rfl ?_
    refine hc_intro (natdiv_QuoRem.hv r2_1 rfl r3_1 rfl) fun v h_1 ⟨k_1, s⟩ => ?_
    obtain ⟨p_9, hp_9⟩ : ∃ p, p = quoS xs2_1 xs3_1 := ⟨_, rfl⟩
    rw [← hp_9] at s
    replace g := lift_let2 hp_9 g
    obtain ⟨_, _, _, rfl, ⟨a_9_0, c_9_0, rfl, r_9_0⟩, ⟨a_9_1, c_9_1, rfl, r_9_1⟩, ⟨rfl, i_9_2⟩⟩ := s
    refine gTup_intro rfl (uncons_intro (gSlice_intro rfl (uncons_intro (gSlice_intro rfl (uncons_intro (gInt_intro rfl (unnil_intro (?_))))))))
    have r_9_0 := r_9_0.from k0.le
    have r_9_1 := r_9_1.from k0.le
    have m_1 := k_1.tame
    have bx2 := bx2.keep k_1
    have bx3 := bx3.keep k_1
    have bx4 := bx4.keep k_1
    have k0 := k0.trans k_1
    have kh := kh.trans k_1
    refine lift_ne g (fun q_10 g => ?_) (fun q_10 g => ?_)
    · refine stA bx4 (base_add _ _) rfl fun h_2 bx4 k_2 m_2 => ?_
      have bx2 := bx2.keepB d2q4 k_2
      have bx3 := bx3.keepB d3q4 k_2
      have k0 := KeepB.keep k0 k_2 o4
      refine stA bx4 (base_add _ _) rfl fun h_3 bx4 k_3 m_3 => ?_
      have bx2 := bx2.keepB d2q4 k_3
      have bx3 := bx3.keepB d3q4 k_3
      have k0 := KeepB.keep k0 k_3 o4
      refine ldA bx4 (base_add _ _) rfl ?_
      refine gBool_intro rfl ?_
      refine ldA bx4 (base_add _ _) rfl ?_
      refine gSlice_intro rfl ?_
      exact g _ _ k0 ⟨_, _, rfl, ⟨_, _, rfl, (GotE.nil _ _)⟩, ⟨rfl, i_9_2⟩⟩
    · refine ldA bx2 (base_add _ _) rfl ?_
      refine gBool_intro rfl ?_
      refine ldA bx3 (base_add _ _) rfl ?_
      refine gBool_intro rfl ?_
      refine lift_not g (fun q_11 g => ?_) (fun q_11 g => ?_)
      · refine lift_dec g (fun q_12 g => ?_) (fun q_12 g => ?_)
        · refine ldA bx3 (base_add _ _) rfl ?_
          refine gSlice_intro rfl ?_
          refine hc_intro (nat_Sub.hv (r3_1.tame (m_1)) rfl r_9_1.rd64 rfl) fun v h_2 ⟨k_2, s⟩ => ?_
          obtain ⟨p_13, hp_13⟩ : ∃ p, p = subS xs3_1 p_9.2.1 := ⟨_, rfl⟩
          rw [← hp_13] at s
          replace g := lift_let2 hp_13 g
          obtain ⟨_, _, rfl, ⟨a_13_0, c_13_0, rfl, r_13_0⟩, ⟨rfl, i_13_1⟩⟩ := s
          refine gTup_intro rfl (uncons_intro (gSlice_intro rfl (uncons_intro (gInt_intro rfl (unnil_intro (?_))))))
          have r_13_0 := r_13_0.from k0.le
          have m_2 := k_2.tame
          have bx2 := bx2.keep k_2
          have bx3 := bx3.keep k_2
          have bx4 := bx4.keep k_2
          have k0 := k0.trans k_2
          have kh := kh.trans k_2
          exact D3.hv k0 (r3_1.tame (m_1.trans m_2)) bx3 o3 (r4_1.tame (m_1.trans m_2)) bx4 o4 r_13_0 rfl i_13_1 d3q4 g
        · exact D3.hv k0 (r3_1.tame (m_1)) bx3 o3 (r4_1.tame (m_1)) bx4 o4 r_9_1 rfl i_9_2 d3q4 g
      · exact D3.hv k0 (r3_1.tame (m_1)) bx3 o3 (r4_1.tame (m_1)) bx4 o4 r_9_1 rfl i_9_2 d3q4 g
def D1.v (b0_0 : Bool) (xs0_1 : List Nat) (b1_0 : Bool) (xs1_1 : List Nat) : ((Bool × List Nat) × Int) :=
  bif (!(decide (FrmZ (b0_0, xs0_1)))) then
    ((false, ([] : List Nat)), (2 : Int))
  else
    bif (!(decide (FrmZ (b1_0, xs1_1)))) then
      ((false, ([] : List Nat)), (2 : Int))
    else
      D2.v b0_0 xs0_1 b1_0 xs1_1 false ([] : List Nat)
theorem D1.hv {R : Rt} {h0 h : Hp} (k0 : Keep h0 h) {b0_0 : Bool} {a0_1 : Option Addr} {c0_1 l0_1 : Nat} {xs0_1 : List Nat} (r0_1 : Rd h a0_1 c0_1 xs0_1) (e0_1 : l0_1 = xs0_1.length) {b1_0 : Bool} {a1_1 : Option Addr} {c1_1 l1_1 : Nat} {xs1_1 : List Nat} (r1_1 : Rd h a1_1 c1_1 xs1_1) (e1_1 : l1_1 = xs1_1.length) (g : Post (s2 sZW (sI .i64)) h0 R (D1.v b0_0 xs0_1 b1_0 xs1_1)) : D1.t R b0_0 a0_1 l0_1 c0_1 b1_0 a1_1 l1_1 c1_1 h := by
  subst e0_1 e1_1
  have kh := Keep.refl h
  unfold D1.v at g
  unfold D1.t
  refine boxV fun h_1 bx_1 k_1 => ?_
  have o_1 : h0.size ≤ h.size := k0.le
  have oh_1 : h.size ≤ h.size := kh.le
  have lt_1 := bx_1.lt
  have m_1 := k_1.tame
  have k0 := k0.trans k_1
  have kh := kh.trans k_1
  refine boxV fun h_2 bx_2 k_2 => ?_
  have d_1q_2 : h.size ≠ h_1.size := Nat.ne_of_lt bx_1.lt
  have o_2 : h0.size ≤ h_1.size := k0.le
  have oh_2 : h.size ≤ h_1.size := kh.le
  have lt_2 := bx_2.lt
  have m_2 := k_2.tame
  have bx_1 := bx_1.keep k_2
  have k0 := k0.trans k_2
  have kh := kh.trans k_2
  refine boxV fun h_3 bx_3 k_3 => ?_
  have d_1q_3 : h.size ≠ h_2.size := Nat.ne_of_lt bx_1.lt
  have d_2q_3 : h_1.size ≠ h_2.size := Nat.ne_of_lt bx_2.lt
  have o_3 : h0.size ≤ h_2.size := k0.le
  have oh_3 : h.size ≤ h_2.size := kh.le
  have lt_3 := bx_3.lt
  have m_3 := k_3.tame
  have bx_1 := bx_1.keep k_3
  have bx_2 := bx_2.keep k_3
  have k0 := k0.trans k_3
  have kh := kh.trans k_3
  refine ldA bx_1 (base_add _ _) rfl ?_
  refine gBool_intro rfl ?_
  refine ldA bx_1 (base_add _ _) rfl ?_
  refine gSlice_intro rfl ?_
  refine hc_intro (num_Form.hs (r0_1.tame (m_1.trans (m_2.trans m_3))) rfl) fun v h_4 ⟨k_4, s⟩ => ?_
  obtain rfl := s
  refine gBool_intro rfl (?_)
  have m_4 := k_4.tame
  have bx_1 := bx_1.keep k_4
  have bx_2 := bx_2.keep k_4
  have bx_3 := bx_3.keep k_4
  have k0 := k0.trans k_4
  have kh := kh.trans k_4
  refine lift_not g (fun q_5 g => ?_) (fun q_5 g => ?_)
  · refine stA bx_3 (base_add _ _) rfl fun h_5 bx_3 k_5 m_5 => ?_
    have bx_1 := bx_1.keepB d_1q_3 k_5
    have bx_2 := bx_2.keepB d_2q_3 k_5
    have k0 := KeepB.keep k0 k_5 o_3
    have kh := KeepB.keep kh k_5 oh_3
    refine stA bx_3 (base_add _ _) rfl fun h_6 bx_3 k_6 m_6 => ?_
    have bx_1 := bx_1.keepB d_1q_3 k_6
    have bx_2 := bx_2.keepB d_2q_3 k_6
    have k0 := KeepB.keep k0 k_6 o_3
    have kh := KeepB.keep kh k_6 oh_3
    refine ldA bx_3 (base_add _ _) rfl ?_
    refine gBool_intro rfl ?_
    refine ldA bx_3 (base_add _ _) rfl ?_
    refine gSlice_intro rfl ?_
    exact g _ _ k0 ⟨_, _, rfl, ⟨_, _, rfl, (GotE.nil _ _)⟩, ⟨rfl, (show In .i64 (2 : Int) by decide)⟩⟩
  · refine ldA bx_2 (base_add _ _) rfl ?_
    refine gBool_intro rfl ?_
    refine ldA bx_2 (base_add _ _) rfl ?_
    refine gSlice_intro rfl ?_
    refine hc_intro (num_Form.hs (r1_1.tame (m_1.trans (m_2.trans (m_3.trans m_4)))) rfl) fun v h_5 ⟨k_5, s⟩ => ?_
    obtain rfl := s
    refine gBool_intro rfl (?_)
    have m_5 := k_5.tame
    have bx_1 := bx_1.keep k_5
    have bx_2 := bx_2.keep k_5
    have bx_3 := bx_3.keep k_5
    have k0 := k0.trans k_5
    have kh := kh.trans k_5
    refine lift_not g (fun q_7 g => ?_) (fun q_7 g => ?_)
    · refine stA bx_3 (base_add _ _) rfl fun h_6 bx_3 k_6 m_6 => ?_
      have bx_1 := bx_1.keepB d_1q_3 k_6
      have bx_2 := bx_2.keepB d_2q_3 k_6
      have k0 := KeepB.keep k0 k_6 o_3
      have kh := KeepB.keep kh k_6 oh_3
      refine stA bx_3 (base_add _ _) rfl fun h_7 bx_3 k_7 m_7 => ?_
      have bx_1 := bx_1.keepB d_1q_3 k_7
      have bx_2 := bx_2.keepB d_2q_3 k_7
      have k0 := KeepB.keep k0 k_7 o_3
      have kh := KeepB.keep kh k_7 oh_3
      refine ldA bx_3 (base_add _ _) rfl ?_
      refine gBool_intro rfl ?_
      refine ldA bx_3 (base_add _ _) rfl ?_
      refine gSlice_intro rfl ?_
      exact g _ _ k0 ⟨_, _, rfl, ⟨_, _, rfl, (GotE.nil _ _)⟩, ⟨rfl, (show In .i64 (2 : Int) by decide)⟩⟩
    · exact D2.hv k0 (r0_1.tame (m_1.trans (m_2.trans (m_3.trans (m_4.trans m_5))))) bx_1 o_1 (r1_1.tame (m_1.trans (m_2.trans (m_3.trans (m_4.trans m_5))))) bx_2 o_2 (GotE.nil _ _) bx_3 o_3 d_1q_2 d_1q_3 d_2q_3 g
def v (b0_0 : Bool) (xs0_1 : List Nat) (b1_0 : Bool) (xs1_1 : List Nat) : ((Bool × List Nat) × Int) := D1.v b0_0 xs0_1 b1_0 xs1_1
theorem hv {h : Hp} {b0_0 : Bool} {a0_1 : Option Addr} {c0_1 l0_1 : Nat} {xs0_1 : List Nat} (r0_1 : Rd h a0_1 c0_1 xs0_1) (e0_1 : l0_1 = xs0_1.length) {b1_0 : Bool} {a1_1 : Option Addr} {c1_1 l1_1 : Nat} {xs1_1 : List Nat} (r1_1 : Rd h a1_1 c1_1 xs1_1) (e1_1 : l1_1 = xs1_1.length) : HC id #[.agg #[.bool b0_0, .slice a0_1 l0_1 c0_1], .agg #[.bool b1_0, .slice a1_1 l1_1 c1_1]] h fun v_ h_ => Keep h h_ ∧ (s2 sZW (sI .i64)) h h_ v_ (v b0_0 xs0_1 b1_0 xs1_1) :=
  ok (D1.hv (Keep.refl _) r0_1 e0_1 r1_1 e1_1 fun v h' k s => ⟨k, s⟩)
end num_Mod

end Go.Proofs.YtpglfeeebnnkkaaDoor.G

/- The other calls of layer 4 over values. -/
namespace Go.Proofs.YtpglfeeebnnkkaaDoor.G
open Go.Gv
set_option linter.unusedVariables false
set_option maxRecDepth 100000
theorem way0 : wayF 0 = flo := rfl
theorem way1 : wayF 1 = cei := rfl
theorem way2 : wayF 2 = nea := rfl
theorem frmZ_neg {c : Bool} {ys : List Nat} (f : FrmZ (c, ys)) : FrmZ ((!c) && decide (0 < ys.length), ys) := by
  refine ⟨f.1, ?_⟩
  rintro ⟨h1, h2⟩
  have h2 : ys = [] := h2
  subst h2; simp at h1
theorem zi_neg (c : Bool) (ys : List Nat) : zi ((!c) && decide (0 < ys.length), ys) = -zi (c, ys) := by
  rw [zi_sg, zi_sg, neg_sg]
  show sg _ (val ys) = sg (!c) (val ys)
  cases ys with
  | nil => rw [show val [] = 0 from rfl, sg_zero, sg_zero]
  | cons y ys => simp
theorem Sub_v (b c : Bool) (xs ys : List Nat) : num_Sub.v b xs c ys = twoZ subI (b, xs) (c, ys) := by
  unfold num_Sub.v num_Sub.D1.v num_Sub.D2.v
  by_cases f : FrmZ (b, xs)
  · by_cases f2 : FrmZ (c, ys)
    · simp only [f, f2, decide_true, letV, Bool.not_true, cond_false]
      show twoZ addI (b, xs) ((!c) && decide (0 < ys.length), ys) = _
      unfold twoZ
      rw [if_pos ⟨f, frmZ_neg f2⟩, if_pos ⟨f, f2⟩, zi_neg]
      rfl
    · simp only [f, f2, decide_true, decide_false, letV, Bool.not_true, Bool.not_false, cond_false, cond_true, twoZ, and_false, if_false]; rfl
  · simp only [f, decide_false, letV, Bool.not_false, cond_true, twoZ, false_and, if_false]; rfl
theorem Mod_v {b c : Bool} {xs ys : List Nat} (hw : Words xs) (hy : Words ys) : num_Mod.v b xs c ys = quoZ mo (b, xs) (c, ys) := by
  unfold num_Mod.v num_Mod.D1.v num_Mod.D2.v quoZ
  by_cases f : FrmZ (b, xs)
  · by_cases f2 : FrmZ (c, ys)
    · simp only [f, f2, decide_true, letV, Bool.not_true, cond_false, and_self, if_true]
      have hz : zi (c, ys) = 0 ↔ ys = [] := by rw [zi_sg, sg_eq_zero]; exact val_nil_iff f2.1
      by_cases h0 : ys = []
      · rw [if_pos (hz.mpr h0)]; subst h0; rfl
      · have hB : val ys ≠ 0 := fun h => h0 ((val_nil_iff f2.1).mp h)
        have e0 : (((ys.length : Nat) : Int) == 0) = false := by simp; exact h0
        rw [if_neg (fun h => h0 (hz.mp h)), e0, cond_false]
        have ly : (digs (val ys)).length ≤ 8192 := by rw [digs_frm f2 hy]; exact f2.1.1
        have eq : quoS xs ys = (digs (val xs / val ys), digs (val xs % val ys), 0) := by
          unfold quoS
          rw [if_pos ⟨f.1, f2.1⟩, if_neg hB]
        have hm := Nat.mod_lt (val xs) (show 0 < val ys by omega)
        have lr : (digs (val xs % val ys)).length ≤ 8192 := Nat.le_trans (digs_len_mono (Nat.le_of_lt hm)) ly
        have el : decide (((digs (val xs % val ys)).length : Int) > 0) = decide (val xs % val ys ≠ 0) := by
          rw [← len_pos_digs, decide_eq_decide]; omega
        have e1 : ((0 : Int) != 0) = false := rfl
        have es : subS ys (digs (val xs % val ys)) = lim (val ys - val xs % val ys) := by
          rw [subS_form f2.1 ⟨lr, trimL_digs _⟩ (by rw [val_digs]; exact Nat.le_of_lt hm), val_digs]
        have er : (digs (val xs % val ys), (0 : Int)) = lim (val xs % val ys) := by unfold lim; rw [if_pos lr]
        have D : ∀ p : List Nat × Int, num_Mod.D3.v c ys false [] p.1 p.2 = tellZ c p := fun _ => rfl
        have D2 : num_Mod.D3.v c ys false [] (digs (val xs % val ys)) 0 = tellZ c (lim (val xs % val ys)) := by rw [← er]; rfl
        rw [eq]
        simp only [el, e1, cond_false, D2]
        rw [D, es, tell_lim, tell_lim]
        show _ = zlim (mo (sg b (val xs)) (sg c (val ys)))
        rw [mo_sg hB (frmZ_ne f)]
        have ex : (!(b == c)) = xor b c := by cases b <;> cases c <;> rfl
        rw [ex]
        by_cases c1 : xor b c = true
        · rw [c1, cond_true]
          by_cases c2 : val xs % val ys ≠ 0
          · simp [c2]
          · simp [c2]
        · have c1 : xor b c = false := by simpa using c1
          rw [c1, cond_false]; simp
    · simp only [f, f2, decide_true, decide_false, letV, Bool.not_true, Bool.not_false, cond_false, cond_true, and_false, if_false]; rfl
  · simp only [f, decide_false, letV, Bool.not_false, cond_true, false_and, if_false]; rfl
section
variable {a b : Option Addr} {c d l m : Nat} {xs ys : List Nat} {h : Hp} {x y : Int} {p q : Bool}
theorem num_Sub.hs (r : Rd h a c xs) (e : l = xs.length) (s : Rd h b d ys) (f : m = ys.length) : HC num_Sub.id #[.agg #[.bool p, .slice a l c], .agg #[.bool q, .slice b m d]] h fun v h' => Keep h h' ∧ s2 sZW (sI .i64) h h' v (twoZ subI (p, xs) (q, ys)) := by rw [← Sub_v]; exact num_Sub.hv r e s f
theorem num_FloorShr.hs (r : Rd h a c xs) (e : l = xs.length) (i : In .i64 x) (tb : Tab h) : HC num_FloorShr.id #[.agg #[.bool p, .slice a l c], .int .i64 x] h fun v h' => Keep h h' ∧ s2 sZW (sI .i64) h h' v (shrZ flo (p, xs) x) := num_FloorShr.hv r e i tb
theorem num_CeilShr.hs (r : Rd h a c xs) (e : l = xs.length) (i : In .i64 x) (tb : Tab h) : HC num_CeilShr.id #[.agg #[.bool p, .slice a l c], .int .i64 x] h fun v h' => Keep h h' ∧ s2 sZW (sI .i64) h h' v (shrZ cei (p, xs) x) := num_CeilShr.hv r e i tb
theorem num_NearShr.hs (r : Rd h a c xs) (e : l = xs.length) (i : In .i64 x) (tb : Tab h) : HC num_NearShr.id #[.agg #[.bool p, .slice a l c], .int .i64 x] h fun v h' => Keep h h' ∧ s2 sZW (sI .i64) h h' v (shrZ nea (p, xs) x) := num_NearShr.hv r e i tb
theorem num_FloorDiv.hs (r : Rd h a c xs) (e : l = xs.length) (s : Rd h b d ys) (f : m = ys.length) : HC num_FloorDiv.id #[.agg #[.bool p, .slice a l c], .agg #[.bool q, .slice b m d]] h fun v h' => Keep h h' ∧ s2 sZW (sI .i64) h h' v (quoZ flo (p, xs) (q, ys)) := num_FloorDiv.hv r e s f
theorem num_CeilDiv.hs (r : Rd h a c xs) (e : l = xs.length) (s : Rd h b d ys) (f : m = ys.length) : HC num_CeilDiv.id #[.agg #[.bool p, .slice a l c], .agg #[.bool q, .slice b m d]] h fun v h' => Keep h h' ∧ s2 sZW (sI .i64) h h' v (quoZ cei (p, xs) (q, ys)) := num_CeilDiv.hv r e s f
theorem num_NearDiv.hs (r : Rd h a c xs) (e : l = xs.length) (s : Rd h b d ys) (f : m = ys.length) : HC num_NearDiv.id #[.agg #[.bool p, .slice a l c], .agg #[.bool q, .slice b m d]] h fun v h' => Keep h h' ∧ s2 sZW (sI .i64) h h' v (quoZ nea (p, xs) (q, ys)) := num_NearDiv.hv r e s f
theorem num_Mod.hs (r : Rd h a c xs) (e : l = xs.length) (s : Rd h b d ys) (f : m = ys.length) : HC num_Mod.id #[.agg #[.bool p, .slice a l c], .agg #[.bool q, .slice b m d]] h fun v h' => Keep h h' ∧ s2 sZW (sI .i64) h h' v (quoZ mo (p, xs) (q, ys)) := by rw [← Mod_v r.words s.words]; exact num_Mod.hv r e s f
end
end Go.Proofs.YtpglfeeebnnkkaaDoor.G

/- The reference's digits in the form that the lifted functions use. -/
namespace Go.Proofs.YtpglfeeebnnkkaaDoor.G
open Go.Gv
set_option linter.unusedVariables false
section
variable {a b : Option Addr} {c d l m X Y : Nat} {xs ys : List Nat} {h : Hp} {x y : Int}
theorem gnomonref01_Norm.hv (r : RdE eU32 h a c (D.digs X)) (e : l = (D.digs X).length) : HC gnomonref01_Norm.id #[.slice a l c] h fun v h' => Keep h h' ∧ sD h h' v X := by
  have := rNorm_spec r e
  rw [D.val_digs] at this; exact this
theorem gnomonref01_From.hv (r : Rd h a c xs) (e : l = xs.length) : HC gnomonref01_From.id #[.slice a l c] h fun v h' => Keep h h' ∧ sD h h' v (val xs) := From_spec r e
theorem gnomonref01_To.hv (r : RdE eU32 h a c (D.digs X)) (e : l = (D.digs X).length) : HC gnomonref01_To.id #[.slice a l c] h fun v h' => Keep h h' ∧ sW h h' v (digs X) := To_spec r e
theorem gnomonref01_Same.hv (r : Rd h a c xs) (e : l = xs.length) (s : Rd h b d ys) (f : m = ys.length) : HQC gnomonref01_Same.id #[.slice a l c, .slice b m d] h fun v => sBool h h v (decide (xs = ys)) := Same_spec r s e f
end
end Go.Proofs.YtpglfeeebnnkkaaDoor.G

/- Functions without loops as functions of values. Written by a program of this work. -/
namespace Go.Proofs.YtpglfeeebnnkkaaDoor.G
open Go.Gv
set_option linter.unusedVariables false
set_option maxRecDepth 100000
namespace gnomonref04_Mk
def D1.v (b0 : Bool) (X1 : Nat) : (Bool × Nat) :=
  letV (X1) fun p_2 =>
  bif b0 then
    ((decide (((((D.digs p_2).length : Nat) : Int)) > (0 : Int))), p_2)
  else
    (false, p_2)
theorem D1.hv {R : Rt} {h0 h : Hp} (k0 : Keep h0 h) {b0 : Bool} {a1 : Option Addr} {c1 l1 : Nat} {X1 : Nat} (r1 : RdE eU32 h a1 c1 (D.digs X1)) (e1 : l1 = (D.digs X1).length) (g : Post sZD h0 R (D1.v b0 X1)) : D1.t R b0 a1 l1 c1 h := by
  subst e1
  have kh := Keep.refl h
  unfold D1.v at g
  unfold D1.t
  refine boxV fun h_1 bx_1 k_1 => ?_
  have o_1 : h0.size ≤ h.size := k0.le
  have oh_1 : h.size ≤ h.size := kh.le
  have lt_1 := bx_1.lt
  have m_1 := k_1.tame
  have k0 := k0.trans k_1
  have kh := kh.trans k_1
  refine hc_intro (gnomonref01_Norm.hv (r1.tame (m_1)) rfl) fun v h_2 ⟨k_2, s⟩ => ?_
  obtain ⟨p_2, hp_2⟩ : ∃ p, p = X1 := ⟨_, rfl⟩
  rw [← hp_2] at s
  replace g := lift_let2 hp_2 g
  obtain ⟨a_2, c_2, rfl, r_2⟩ := s
  refine gSlice_intro rfl (?_)
  have r_2 := r_2.from k0.le
  have m_2 := k_2.tame
  have bx_1 := bx_1.keep k_2
  have k0 := k0.trans k_2
  have kh := kh.trans k_2
  refine lift_bool g (fun q_3 g => ?_) (fun q_3 g => ?_)
  · refine stA bx_1 (base_add _ _) rfl fun h_3 bx_1 k_3 m_3 => ?_
    have k0 := KeepB.keep k0 k_3 o_1
    have kh := KeepB.keep kh k_3 oh_1
    refine stA bx_1 (base_add _ _) rfl fun h_4 bx_1 k_4 m_4 => ?_
    have k0 := KeepB.keep k0 k_4 o_1
    have kh := KeepB.keep kh k_4 oh_1
    refine ldA bx_1 (base_add _ _) rfl ?_
    refine gBool_intro rfl ?_
    refine ldA bx_1 (base_add _ _) rfl ?_
    refine gSlice_intro rfl ?_
    exact g _ _ k0 ⟨_, _, rfl, (r_2.tame (m_3.trans m_4))⟩
  · refine stA bx_1 (base_add _ _) rfl fun h_3 bx_1 k_3 m_3 => ?_
    have k0 := KeepB.keep k0 k_3 o_1
    have kh := KeepB.keep kh k_3 oh_1
    refine stA bx_1 (base_add _ _) rfl fun h_4 bx_1 k_4 m_4 => ?_
    have k0 := KeepB.keep k0 k_4 o_1
    have kh := KeepB.keep kh k_4 oh_1
    refine ldA bx_1 (base_add _ _) rfl ?_
    refine gBool_intro rfl ?_
    refine ldA bx_1 (base_add _ _) rfl ?_
    refine gSlice_intro rfl ?_
    exact g _ _ k0 ⟨_, _, rfl, (r_2.tame (m_3.trans m_4))⟩
def v (b0 : Bool) (X1 : Nat) : (Bool × Nat) := D1.v b0 X1
theorem hv {h : Hp} {b0 : Bool} {a1 : Option Addr} {c1 l1 : Nat} {X1 : Nat} (r1 : RdE eU32 h a1 c1 (D.digs X1)) (e1 : l1 = (D.digs X1).length) : HC id #[.bool b0, .slice a1 l1 c1] h fun v_ h_ => Keep h h_ ∧ sZD h h_ v_ (v b0 X1) :=
  ok (D1.hv (Keep.refl _) r1 e1 fun v h' k s => ⟨k, s⟩)
end gnomonref04_Mk

namespace gnomonlaw04_same
def D1.v (b0_0 : Bool) (xs0_1 : List Nat) (b1_0 : Bool) (xs1_1 : List Nat) : Bool :=
  bif (b0_0 == b1_0) then
    (decide (xs0_1 = xs1_1))
  else
    false
theorem D1.hv {R : Rt} {h0 h : Hp} (k0 : Keep h0 h) {b0_0 : Bool} {a0_1 : Option Addr} {c0_1 l0_1 : Nat} {xs0_1 : List Nat} (r0_1 : Rd h a0_1 c0_1 xs0_1) (e0_1 : l0_1 = xs0_1.length) {b1_0 : Bool} {a1_1 : Option Addr} {c1_1 l1_1 : Nat} {xs1_1 : List Nat} (r1_1 : Rd h a1_1 c1_1 xs1_1) (e1_1 : l1_1 = xs1_1.length) (g : Post sBool h0 R (D1.v b0_0 xs0_1 b1_0 xs1_1)) : D1.t R b0_0 a0_1 l0_1 c0_1 b1_0 a1_1 l1_1 c1_1 h := by
  subst e0_1 e1_1
  have kh := Keep.refl h
  unfold D1.v at g
  unfold D1.t
  refine boxV fun h_1 bx_1 k_1 => ?_
  have o_1 : h0.size ≤ h.size := k0.le
  have oh_1 : h.size ≤ h.size := kh.le
  have lt_1 := bx_1.lt
  have m_1 := k_1.tame
  have k0 := k0.trans k_1
  have kh := kh.trans k_1
  refine boxV fun h_2 bx_2 k_2 => ?_
  have d_1q_2 : h.size ≠ h_1.size := Nat.ne_of_lt bx_1.lt
  have o_2 : h0.size ≤ h_1.size := k0.le
  have oh_2 : h.size ≤ h_1.size := kh.le
  have lt_2 := bx_2.lt
  have m_2 := k_2.tame
  have bx_1 := bx_1.keep k_2
  have k0 := k0.trans k_2
  have kh := kh.trans k_2
  refine ldA bx_1 (base_add _ _) rfl ?_
  refine gBool_intro rfl ?_
  refine ldA bx_2 (base_add _ _) rfl ?_
  refine gBool_intro rfl ?_
  refine lift_bool g (fun q_3 g => ?_) (fun q_3 g => ?_)
  · refine ldA bx_1 (base_add _ _) rfl ?_
    refine gSlice_intro rfl ?_
    refine ldA bx_2 (base_add _ _) rfl ?_
    refine gSlice_intro rfl ?_
    refine hq_intro (gnomonref01_Same.hv (r0_1.tame (m_1.trans m_2)) rfl (r1_1.tame (m_1.trans m_2)) rfl) fun v s => ?_
    obtain rfl := s
    refine gBool_intro rfl (?_)
    exact g _ _ k0 rfl
  · exact g _ _ k0 rfl
def v (b0_0 : Bool) (xs0_1 : List Nat) (b1_0 : Bool) (xs1_1 : List Nat) : Bool := D1.v b0_0 xs0_1 b1_0 xs1_1
theorem hv {h : Hp} {b0_0 : Bool} {a0_1 : Option Addr} {c0_1 l0_1 : Nat} {xs0_1 : List Nat} (r0_1 : Rd h a0_1 c0_1 xs0_1) (e0_1 : l0_1 = xs0_1.length) {b1_0 : Bool} {a1_1 : Option Addr} {c1_1 l1_1 : Nat} {xs1_1 : List Nat} (r1_1 : Rd h a1_1 c1_1 xs1_1) (e1_1 : l1_1 = xs1_1.length) : HC id #[.agg #[.bool b0_0, .slice a0_1 l0_1 c0_1], .agg #[.bool b1_0, .slice a1_1 l1_1 c1_1]] h fun v_ h_ => Keep h h_ ∧ sBool h h_ v_ (v b0_0 xs0_1 b1_0 xs1_1) :=
  ok (D1.hv (Keep.refl _) r0_1 e0_1 r1_1 e1_1 fun v h' k s => ⟨k, s⟩)
end gnomonlaw04_same

end Go.Proofs.YtpglfeeebnnkkaaDoor.G

/- The reference's whole numbers: making one. -/
namespace Go.Proofs.YtpglfeeebnnkkaaDoor.G
open Go.Gv
set_option linter.unusedVariables false
theorem dlenZ (X : Nat) : (D.digs X).length = 0 ↔ X = 0 := by
  constructor
  · intro h
    have h2 : D.digs X = [] := List.length_eq_zero_iff.mp h
    rw [← D.val_digs X, h2]; rfl
  · intro h; subst h; simp [D.digs_zero]
theorem dz_sg' (b : Bool) (n : Nat) : dz (sg b n) = (b && decide (n ≠ 0), n) := dz_sg b n
theorem Mk_v (b : Bool) (X : Nat) : gnomonref04_Mk.v b X = dz (sg b X) := by
  unfold gnomonref04_Mk.v gnomonref04_Mk.D1.v
  rw [dz_sg]
  have e : decide ((((D.digs X).length : Nat) : Int) > 0) = decide (X ≠ 0) := by
    rw [decide_eq_decide]; have := dlenZ X; omega
  simp only [letV, e]
  cases b <;> rfl
theorem same_v (b c : Bool) (xs ys : List Nat) : gnomonlaw04_same.v b xs c ys = decide ((b, xs) = (c, ys)) := by
  unfold gnomonlaw04_same.v gnomonlaw04_same.D1.v
  by_cases h : b = c
  · subst h; simp
  · have : (b == c) = false := by simp [h]
    rw [this]; simp [h]
section
variable {a b : Option Addr} {c d l m X : Nat} {xs ys : List Nat} {h : Hp} {x y : Int} {p q : Bool}
theorem gnomonref04_Mk.hs (r : RdE eU32 h a c (D.digs X)) (e : l = (D.digs X).length) : HC gnomonref04_Mk.id #[.bool p, .slice a l c] h fun v h' => Keep h h' ∧ sZD h h' v (dz (sg p X)) := by rw [← Mk_v]; exact gnomonref04_Mk.hv r e
theorem gnomonlaw04_same.hs (r : Rd h a c xs) (e : l = xs.length) (s : Rd h b d ys) (f : m = ys.length) : HC gnomonlaw04_same.id #[.agg #[.bool p, .slice a l c], .agg #[.bool q, .slice b m d]] h fun v h' => Keep h h' ∧ sBool h h' v (decide ((p, xs) = (q, ys))) := by rw [← same_v]; exact gnomonlaw04_same.hv r e s f
theorem gnomonref04_Of.hs (i : In .i64 x) : HC gnomonref04_Of.id #[.int .i64 x] h fun v h' => Keep h h' ∧ sZD h h' v (dz x) := by
  rw [in_i64] at i
  refine gnomonref04_Of.ok ?_
  unfold gnomonref04_Of.t gnomonref04_Of.D1.t
  refine boxV fun h2 o2 k2 => ?_
  refine c_dec (fun hx => ?_) fun hx => ?_
  · have hx : x < 0 := hx
    refine letK_intro (y := x + 1) (wrap_i64 (by omega) (by omega)) ?_
    refine letK_intro (y := -(x + 1)) (by rw [show 0 - (x + 1) = -(x + 1) by omega]; exact wrap_i64 (by omega) (by omega)) ?_
    refine letK_intro (y := (((x + 1).natAbs : Nat) : Int)) (by rw [wrap_u64]; omega) ?_
    refine hc_intro (rWord_spec (w := (x + 1).natAbs) rfl (by omega) h2) fun v h7 ⟨k7, s⟩ => ?_
    refine s.elim fun a1 c1 r1 => ?_
    refine hc_intro (rWord_spec (w := 1) rfl (by omega) h7) fun v h10 ⟨k10, s⟩ => ?_
    refine s.elim fun a2 c2 r2 => ?_
    have l1 : (D.digs (x + 1).natAbs).length ≤ 2 := dlen_pow.mpr (by omega)
    have l2 : (D.digs 1).length ≤ 2 := dlen_pow.mpr (by omega)
    refine hc_intro (rAdd_spec (r1.rd.keep k10) r2.rd rfl rfl (by omega) (by omega)) fun v h13 ⟨k13, s⟩ => ?_
    refine s.elim fun a3 c3 r3 => ?_
    refine hc_intro (gnomonref04_Mk.hs r3.rd rfl) fun v h16 ⟨k16, s⟩ => ?_
    have ez : sg true ((x + 1).natAbs + 1) = x := by unfold sg; simp only [if_true]; omega
    rw [ez] at s
    have kk := k2.trans (k7.trans (k10.trans k13))
    obtain ⟨a4, c4, e, r4⟩ := s
    subst e
    refine gAgg_intro rfl ?_
    refine uncons_intro ?_
    refine gBool_intro rfl ?_
    refine uncons_intro ?_
    refine gSlice_intro rfl ?_
    refine unnil_intro ?_
    have o2 := o2.keep (k7.trans (k10.trans (k13.trans k16)))
    refine stA o2 (base_add _ _) rfl fun h4 o2 k4 m4 => ?_
    refine stA o2 (base_add _ _) rfl fun h5 o2 k5 m5 => ?_
    refine ldA o2 (base_add _ _) rfl ?_
    refine gBool_intro rfl ?_
    refine ldA o2 (base_add _ _) rfl ?_
    refine gSlice_intro rfl ?_
    exact ⟨KeepB.keep (KeepB.keep (kk.trans k16) k4 (Nat.le_refl _)) k5 (Nat.le_refl _), _, _, rfl, (r4.from kk.le).tame (m4.trans m5)⟩
  · have hx : ¬ x < 0 := hx
    refine letK_intro (y := ((x.natAbs : Nat) : Int)) (by rw [wrap_u64]; omega) ?_
    refine hc_intro (rWord_spec (w := x.natAbs) rfl (by omega) h2) fun v h7 ⟨k7, s⟩ => ?_
    refine s.elim fun a1 c1 r1 => ?_
    refine hc_intro (gnomonref04_Mk.hs r1.rd rfl) fun v h16 ⟨k16, s⟩ => ?_
    have ez : sg false x.natAbs = x := by unfold sg; simp only [Bool.false_eq_true, if_false]; omega
    rw [ez] at s
    have kk := k2.trans k7
    obtain ⟨a4, c4, e, r4⟩ := s
    subst e
    refine gAgg_intro rfl ?_
    refine uncons_intro ?_
    refine gBool_intro rfl ?_
    refine uncons_intro ?_
    refine gSlice_intro rfl ?_
    refine unnil_intro ?_
    have o2 := o2.keep (k7.trans k16)
    refine stA o2 (base_add _ _) rfl fun h4 o2 k4 m4 => ?_
    refine stA o2 (base_add _ _) rfl fun h5 o2 k5 m5 => ?_
    refine ldA o2 (base_add _ _) rfl ?_
    refine gBool_intro rfl ?_
    refine ldA o2 (base_add _ _) rfl ?_
    refine gSlice_intro rfl ?_
    exact ⟨KeepB.keep (KeepB.keep (kk.trans k16) k4 (Nat.le_refl _)) k5 (Nat.le_refl _), _, _, rfl, (r4.from kk.le).tame (m4.trans m5)⟩
end
end Go.Proofs.YtpglfeeebnnkkaaDoor.G

/- Functions without loops as functions of values. Written by a program of this work. -/
namespace Go.Proofs.YtpglfeeebnnkkaaDoor.G
open Go.Gv
set_option linter.unusedVariables false
set_option maxRecDepth 100000
namespace gnomonref04_From
def D1.v (b0_0 : Bool) (xs0_1 : List Nat) : (Bool × Nat) :=
  letV (val xs0_1) fun p_3 =>
  letV (dz (sg b0_0 p_3)) fun p_4 =>
  (p_4.1, p_4.2)
theorem D1.hv {R : Rt} {h0 h : Hp} (k0 : Keep h0 h) {b0_0 : Bool} {a0_1 : Option Addr} {c0_1 l0_1 : Nat} {xs0_1 : List Nat} (r0_1 : Rd h a0_1 c0_1 xs0_1) (e0_1 : l0_1 = xs0_1.length) (g : Post sZD h0 R (D1.v b0_0 xs0_1)) : D1.t R b0_0 a0_1 l0_1 c0_1 h := by
  subst e0_1
  have kh := Keep.refl h
  unfold D1.v at g
  unfold D1.t
  refine boxV fun h_1 bx_1 k_1 => ?_
  have o_1 : h0.size ≤ h.size := k0.le
  have oh_1 : h.size ≤ h.size := kh.le
  have lt_1 := bx_1.lt
  have m_1 := k_1.tame
  have k0 := k0.trans k_1
  have kh := kh.trans k_1
  refine boxV fun h_2 bx_2 k_2 => ?_
  have d_1q_2 : h.size ≠ h_1.size := Nat.ne_of_lt bx_1.lt
  have o_2 : h0.size ≤ h_1.size := k0.le
  have oh_2 : h.size ≤ h_1.size := kh.le
  have lt_2 := bx_2.lt
  have m_2 := k_2.tame
  have bx_1 := bx_1.keep k_2
  have k0 := k0.trans k_2
  have kh := kh.trans k_2
  refine ⟨blkLt (base_add _ _) ((m_2).lt lt_1), ?_⟩
  refine ldA bx_1 (base_add _ _) rfl ?_
  refine gBool_intro rfl ?_
  refine ⟨blkLt (base_add _ _) ((m_2).lt lt_1), ?_⟩
  refine ldA bx_1 (base_add _ _) rfl ?_
  refine gSlice_intro rfl ?_
  refine hc_intro (gnomonref01_From.hv (r0_1.tame (m_1.trans m_2)) rfl) fun v h_3 ⟨k_3, s⟩ => ?_
  obtain ⟨p_3, hp_3⟩ : ∃ p, p = val xs0_1 := ⟨_, rfl⟩
  rw [← hp_3] at s
  replace g := lift_let2 hp_3 g
  obtain ⟨a_3, c_3, rfl, r_3⟩ := s
  refine gSlice_intro rfl (?_)
  have r_3 := r_3.from k0.le
  have m_3 := k_3.tame
  have bx_1 := bx_1.keep k_3
  have bx_2 := bx_2.keep k_3
  have k0 := k0.trans k_3
  have kh := kh.trans k_3
  refine ⟨k_3.preLe (Nat.le_refl _), ?_⟩
  refine hc_intro (gnomonref04_Mk.hs r_3.rd rfl) fun v h_4 ⟨k_4, s⟩ => ?_
  obtain ⟨p_4, hp_4⟩ : ∃ p, p = dz (sg b0_0 p_3) := ⟨_, rfl⟩
  rw [← hp_4] at s
  replace g := lift_let2 hp_4 g
  obtain ⟨a_4, c_4, rfl, r_4⟩ := s
  refine gAgg_intro rfl (uncons_intro (gBool_intro rfl (uncons_intro (gSlice_intro rfl (unnil_intro (?_))))))
  have r_4 := r_4.from k0.le
  have m_4 := k_4.tame
  have bx_1 := bx_1.keep k_4
  have bx_2 := bx_2.keep k_4
  have k0 := k0.trans k_4
  have kh := kh.trans k_4
  refine ⟨k_4.preLe (m_3).le, ?_⟩
  refine stA bx_2 (base_add _ _) rfl fun h_5 bx_2 k_5 m_5 => ?_
  have bx_1 := bx_1.keepB d_1q_2 k_5
  have k0 := KeepB.keep k0 k_5 o_2
  have kh := KeepB.keep kh k_5 oh_2
  refine stA bx_2 (base_add _ _) rfl fun h_6 bx_2 k_6 m_6 => ?_
  have bx_1 := bx_1.keepB d_1q_2 k_6
  have k0 := KeepB.keep k0 k_6 o_2
  have kh := KeepB.keep kh k_6 oh_2
  refine ldA bx_2 (base_add _ _) rfl ?_
  refine gBool_intro rfl ?_
  refine ldA bx_2 (base_add _ _) rfl ?_
  refine gSlice_intro rfl ?_
  exact g _ _ k0 ⟨_, _, rfl, (r_4.tame (m_5.trans m_6))⟩
def v (b0_0 : Bool) (xs0_1 : List Nat) : (Bool × Nat) := D1.v b0_0 xs0_1
theorem hv {h : Hp} {b0_0 : Bool} {a0_1 : Option Addr} {c0_1 l0_1 : Nat} {xs0_1 : List Nat} (r0_1 : Rd h a0_1 c0_1 xs0_1) (e0_1 : l0_1 = xs0_1.length) : HC id #[.agg #[.bool b0_0, .slice a0_1 l0_1 c0_1]] h fun v_ h_ => Keep h h_ ∧ sZD h h_ v_ (v b0_0 xs0_1) :=
  ok (D1.hv (Keep.refl _) r0_1 e0_1 fun v h' k s => ⟨k, s⟩)
end gnomonref04_From

namespace gnomonref04_To
def D1.v (b0_0 : Bool) (X0_1 : Nat) : (Bool × List Nat) :=
  bif b0_0 then
    letV (digs X0_1) fun p_4 =>
    ((decide (((((D.digs X0_1).length : Nat) : Int)) > (0 : Int))), p_4)
  else
    letV (digs X0_1) fun p_5 =>
    (false, p_5)
theorem D1.hv {R : Rt} {h0 h : Hp} (k0 : Keep h0 h) {b0_0 : Bool} {a0_1 : Option Addr} {c0_1 l0_1 : Nat} {X0_1 : Nat} (r0_1 : RdE eU32 h a0_1 c0_1 (D.digs X0_1)) (e0_1 : l0_1 = (D.digs X0_1).length) (g : Post sZW h0 R (D1.v b0_0 X0_1)) : D1.t R b0_0 a0_1 l0_1 c0_1 h := by
  subst e0_1
  have kh := Keep.refl h
  unfold D1.v at g
  unfold D1.t
  refine boxV fun h_1 bx_1 k_1 => ?_
  have o_1 : h0.size ≤ h.size := k0.le
  have oh_1 : h.size ≤ h.size := kh.le
  have lt_1 := bx_1.lt
  have m_1 := k_1.tame
  have k0 := k0.trans k_1
  have kh := kh.trans k_1
  refine boxV fun h_2 bx_2 k_2 => ?_
  have d_1q_2 : h.size ≠ h_1.size := Nat.ne_of_lt bx_1.lt
  have o_2 : h0.size ≤ h_1.size := k0.le
  have oh_2 : h.size ≤ h_1.size := kh.le
  have lt_2 := bx_2.lt
  have m_2 := k_2.tame
  have bx_1 := bx_1.keep k_2
  have k0 := k0.trans k_2
  have kh := kh.trans k_2
  refine ⟨blkLt (base_add _ _) ((m_2).lt lt_1), ?_⟩
  refine ldA bx_1 (base_add _ _) rfl ?_
  refine gBool_intro rfl ?_
  refine lift_bool g (fun q_3 g => ?_) (fun q_3 g => ?_)
  · refine ⟨blkLt (base_add _ _) ((m_2).lt lt_1), ?_⟩
    refine ldA bx_1 (base_add _ _) rfl ?_
    refine gSlice_intro rfl ?_
    refine ⟨blkLt (base_add _ _) ((m_2).lt lt_1), ?_⟩
    refine ldA bx_1 (base_add _ _) rfl ?_
    refine gSlice_intro rfl ?_
    refine hc_intro (gnomonref01_To.hv (r0_1.tame (m_1.trans m_2)) rfl) fun v h_3 ⟨k_3, s⟩ => ?_
    obtain ⟨p_4, hp_4⟩ : ∃ p, p = digs X0_1 := ⟨_, rfl⟩
    rw [← hp_4] at s
    replace g := lift_let2 hp_4 g
    obtain ⟨a_4, c_4, rfl, r_4⟩ := s
    refine gSlice_intro rfl (?_)
    have r_4 := r_4.from k0.le
    have m_3 := k_3.tame
    have bx_1 := bx_1.keep k_3
    have bx_2 := bx_2.keep k_3
    have k0 := k0.trans k_3
    have kh := kh.trans k_3
    refine ⟨k_3.preLe (Nat.le_refl _), ?_⟩
    refine stA bx_2 (base_add _ _) rfl fun h_4 bx_2 k_4 m_4 => ?_
    have bx_1 := bx_1.keepB d_1q_2 k_4
    have k0 := KeepB.keep k0 k_4 o_2
    have kh := KeepB.keep kh k_4 oh_2
    refine stA bx_2 (base_add _ _) rfl fun h_5 bx_2 k_5 m_5 => ?_
    have bx_1 := bx_1.keepB d_1q_2 k_5
    have k0 := KeepB.keep k0 k_5 o_2
    have kh := KeepB.keep kh k_5 oh_2
    refine ldA bx_2 (base_add _ _) rfl ?_
    refine gBool_intro rfl ?_
    refine ldA bx_2 (base_add _ _) rfl ?_
    refine gSlice_intro rfl ?_
    exact g _ _ k0 ⟨_, _, rfl, (r_4.tame (m_4.trans m_5))⟩
  · refine ⟨blkLt (base_add _ _) ((m_2).lt lt_1), ?_⟩
    refine ldA bx_1 (base_add _ _) rfl ?_
    refine gSlice_intro rfl ?_
    refine hc_intro (gnomonref01_To.hv (r0_1.tame (m_1.trans m_2)) rfl) fun v h_3 ⟨k_3, s⟩ => ?_
    obtain ⟨p_5, hp_5⟩ : ∃ p, p = digs X0_1 := ⟨_, rfl⟩
    rw [← hp_5] at s
    replace g := lift_let2 hp_5 g
    obtain ⟨a_5, c_5, rfl, r_5⟩ := s
    refine gSlice_intro rfl (?_)
    have r_5 := r_5.from k0.le
    have m_3 := k_3.tame
    have bx_1 := bx_1.keep k_3
    have bx_2 := bx_2.keep k_3
    have k0 := k0.trans k_3
    have kh := kh.trans k_3
    refine ⟨k_3.preLe (Nat.le_refl _), ?_⟩
    refine stA bx_2 (base_add _ _) rfl fun h_4 bx_2 k_4 m_4 => ?_
    have bx_1 := bx_1.keepB d_1q_2 k_4
    have k0 := KeepB.keep k0 k_4 o_2
    have kh := KeepB.keep kh k_4 oh_2
    refine stA bx_2 (base_add _ _) rfl fun h_5 bx_2 k_5 m_5 => ?_
    have bx_1 := bx_1.keepB d_1q_2 k_5
    have k0 := KeepB.keep k0 k_5 o_2
    have kh := KeepB.keep kh k_5 oh_2
    refine ldA bx_2 (base_add _ _) rfl ?_
    refine gBool_intro rfl ?_
    refine ldA bx_2 (base_add _ _) rfl ?_
    refine gSlice_intro rfl ?_
    exact g _ _ k0 ⟨_, _, rfl, (r_5.tame (m_4.trans m_5))⟩
def v (b0_0 : Bool) (X0_1 : Nat) : (Bool × List Nat) := D1.v b0_0 X0_1
theorem hv {h : Hp} {b0_0 : Bool} {a0_1 : Option Addr} {c0_1 l0_1 : Nat} {X0_1 : Nat} (r0_1 : RdE eU32 h a0_1 c0_1 (D.digs X0_1)) (e0_1 : l0_1 = (D.digs X0_1).length) : HC id #[.agg #[.bool b0_0, .slice a0_1 l0_1 c0_1]] h fun v_ h_ => Keep h h_ ∧ sZW h h_ v_ (v b0_0 X0_1) :=
  ok (D1.hv (Keep.refl _) r0_1 e0_1 fun v h' k s => ⟨k, s⟩)
end gnomonref04_To

end Go.Proofs.YtpglfeeebnnkkaaDoor.G

/- The reference's whole numbers: from limbs and back. -/
namespace Go.Proofs.YtpglfeeebnnkkaaDoor.G
open Go.Gv
set_option linter.unusedVariables false
theorem From_v (b : Bool) (xs : List Nat) : gnomonref04_From.v b xs = dz (zi (b, xs)) := rfl
theorem To_v (b : Bool) (X : Nat) : gnomonref04_To.v b X = zz (di (b, X)) := by
  unfold gnomonref04_To.v gnomonref04_To.D1.v
  have e1 : di (b, X) = sg b X := rfl
  rw [e1, zz_sg]
  have e : decide ((((D.digs X).length : Nat) : Int) > 0) = decide (X ≠ 0) := by
    rw [decide_eq_decide]; have := dlenZ X; omega
  simp only [letV, e]
  cases b <;> rfl
section
variable {a b : Option Addr} {c d l m X : Nat} {xs ys : List Nat} {h : Hp} {x y : Int} {p q : Bool}
theorem gnomonref04_From.hs (r : Rd h a c xs) (e : l = xs.length) : HC gnomonref04_From.id #[.agg #[.bool p, .slice a l c]] h fun v h' => Keep h h' ∧ sZD h h' v (dz (zi (p, xs))) := gnomonref04_From.hv r e
theorem gnomonref04_To.hs (r : RdE eU32 h a c (D.digs X)) (e : l = (D.digs X).length) : HC gnomonref04_To.id #[.agg #[.bool p, .slice a l c]] h fun v h' => Keep h h' ∧ sZW h h' v (zz (di (p, X))) := by rw [← To_v]; exact gnomonref04_To.hv r e
end
end Go.Proofs.YtpglfeeebnnkkaaDoor.G

/- Functions without loops as functions of values. Written by a program of this work. -/
namespace Go.Proofs.YtpglfeeebnnkkaaDoor.G
open Go.Gv
set_option linter.unusedVariables false
set_option maxRecDepth 100000
namespace gnomonref04_DocOf
def D1.v (x0 : Int) : (Bool × List Nat) :=
  letV (dz x0) fun p_2 =>
  letV (zz (di (p_2.1, p_2.2))) fun p_3 =>
  (p_3.1, p_3.2)
theorem D1.hv {R : Rt} {h0 h : Hp} (k0 : Keep h0 h) {x0 : Int} (i0 : In .i64 x0) (g : Post sZW h0 R (D1.v x0)) : D1.t R x0 h := by
  have kh := Keep.refl h
  unfold D1.v at g
  unfold D1.t
  refine boxV fun h_1 bx_1 k_1 => ?_
  have o_1 : h0.size ≤ h.size := k0.le
  have oh_1 : h.size ≤ h.size := kh.le
  have lt_1 := bx_1.lt
  have m_1 := k_1.tame
  have k0 := k0.trans k_1
  have kh := kh.trans k_1
  refine hc_intro (gnomonref04_Of.hs i0) fun v h_2 ⟨k_2, s⟩ => ?_
  obtain ⟨p_2, hp_2⟩ : ∃ p, p = dz x0 := ⟨_, rfl⟩
  rw [← hp_2] at s
  replace g := lift_let2 hp_2 g
  obtain ⟨a_2, c_2, rfl, r_2⟩ := s
  refine gAgg_intro rfl (uncons_intro (gBool_intro rfl (uncons_intro (gSlice_intro rfl (unnil_intro (?_))))))
  have r_2 := r_2.from k0.le
  have m_2 := k_2.tame
  have bx_1 := bx_1.keep k_2
  have k0 := k0.trans k_2
  have kh := kh.trans k_2
  refine hc_intro (gnomonref04_To.hs r_2.rd rfl) fun v h_3 ⟨k_3, s⟩ => ?_
  obtain ⟨p_3, hp_3⟩ : ∃ p, p = zz (di (p_2.1, p_2.2)) := ⟨_, rfl⟩
  rw [← hp_3] at s
  replace g := lift_let2 hp_3 g
  obtain ⟨a_3, c_3, rfl, r_3⟩ := s
  refine gAgg_intro rfl (uncons_intro (gBool_intro rfl (uncons_intro (gSlice_intro rfl (unnil_intro (?_))))))
  have r_3 := r_3.from k0.le
  have m_3 := k_3.tame
  have bx_1 := bx_1.keep k_3
  have k0 := k0.trans k_3
  have kh := kh.trans k_3
  refine stA bx_1 (base_add _ _) rfl fun h_4 bx_1 k_4 m_4 => ?_
  have k0 := KeepB.keep k0 k_4 o_1
  have kh := KeepB.keep kh k_4 oh_1
  refine stA bx_1 (base_add _ _) rfl fun h_5 bx_1 k_5 m_5 => ?_
  have k0 := KeepB.keep k0 k_5 o_1
  have kh := KeepB.keep kh k_5 oh_1
  refine ldA bx_1 (base_add _ _) rfl ?_
  refine gBool_intro rfl ?_
  refine ldA bx_1 (base_add _ _) rfl ?_
  refine gSlice_intro rfl ?_
  exact g _ _ k0 ⟨_, _, rfl, (r_3.tame (m_4.trans m_5))⟩
def v (x0 : Int) : (Bool × List Nat) := D1.v x0
theorem hv {h : Hp} {x0 : Int} (i0 : In .i64 x0) : HC id #[.int .i64 x0] h fun v_ h_ => Keep h h_ ∧ sZW h h_ v_ (v x0) :=
  ok (D1.hv (Keep.refl _) i0 fun v h' k s => ⟨k, s⟩)
end gnomonref04_DocOf

namespace gnomonlaw04_formed
def D1.v (b0_0 : Bool) (xs0_1 : List Nat) : ((Bool × List Nat) × Bool) :=
  letV (dz (zi (b0_0, xs0_1))) fun p_3 =>
  letV (zz (di (p_3.1, p_3.2))) fun p_4 =>
  ((p_4.1, p_4.2), (decide ((((p_4.2.length : Nat) : Int)) ≤ (8192 : Int))))
theorem D1.hv {R : Rt} {h0 h : Hp} (k0 : Keep h0 h) {b0_0 : Bool} {a0_1 : Option Addr} {c0_1 l0_1 : Nat} {xs0_1 : List Nat} (r0_1 : Rd h a0_1 c0_1 xs0_1) (e0_1 : l0_1 = xs0_1.length) (g : Post (s2 sZW sBool) h0 R (D1.v b0_0 xs0_1)) : D1.t R b0_0 a0_1 l0_1 c0_1 h := by
  subst e0_1
  have kh := Keep.refl h
  unfold D1.v at g
  unfold D1.t
  refine boxV fun h_1 bx_1 k_1 => ?_
  have o_1 : h0.size ≤ h.size := k0.le
  have oh_1 : h.size ≤ h.size := kh.le
  have lt_1 := bx_1.lt
  have m_1 := k_1.tame
  have k0 := k0.trans k_1
  have kh := kh.trans k_1
  refine boxV fun h_2 bx_2 k_2 => ?_
  have d_1q_2 : h.size ≠ h_1.size := Nat.ne_of_lt bx_1.lt
  have o_2 : h0.size ≤ h_1.size := k0.le
  have oh_2 : h.size ≤ h_1.size := kh.le
  have lt_2 := bx_2.lt
  have m_2 := k_2.tame
  have bx_1 := bx_1.keep k_2
  have k0 := k0.trans k_2
  have kh := kh.trans k_2
  refine ldA bx_1 (base_add _ _) rfl ?_
  refine gBool_intro rfl ?_
  refine ldA bx_1 (base_add _ _) rfl ?_
  refine gSlice_intro rfl ?_
  refine hc_intro (gnomonref04_From.hs (r0_1.tame (m_1.trans m_2)) rfl) fun v h_3 ⟨k_3, s⟩ => ?_
  obtain ⟨p_3, hp_3⟩ : ∃ p, p = dz (zi (b0_0, xs0_1)) := ⟨_, rfl⟩
  rw [← hp_3] at s
  replace g := lift_let2 hp_3 g
  obtain ⟨a_3, c_3, rfl, r_3⟩ := s
  refine gAgg_intro rfl (uncons_intro (gBool_intro rfl (uncons_intro (gSlice_intro rfl (unnil_intro (?_))))))
  have r_3 := r_3.from k0.le
  have m_3 := k_3.tame
  have bx_1 := bx_1.keep k_3
  have bx_2 := bx_2.keep k_3
  have k0 := k0.trans k_3
  have kh := kh.trans k_3
  refine hc_intro (gnomonref04_To.hs r_3.rd rfl) fun v h_4 ⟨k_4, s⟩ => ?_
  obtain ⟨p_4, hp_4⟩ : ∃ p, p = zz (di (p_3.1, p_3.2)) := ⟨_, rfl⟩
  rw [← hp_4] at s
  replace g := lift_let2 hp_4 g
  obtain ⟨a_4, c_4, rfl, r_4⟩ := s
  refine gAgg_intro rfl (uncons_intro (gBool_intro rfl (uncons_intro (gSlice_intro rfl (unnil_intro (?_))))))
  have r_4 := r_4.from k0.le
  have m_4 := k_4.tame
  have bx_1 := bx_1.keep k_4
  have bx_2 := bx_2.keep k_4
  have k0 := k0.trans k_4
  have kh := kh.trans k_4
  refine boxV fun h_5 bx_5 k_5 => ?_
  have d_1q_5 : h.size ≠ h_4.size := Nat.ne_of_lt bx_1.lt
  have d_2q_5 : h_1.size ≠ h_4.size := Nat.ne_of_lt bx_2.lt
  have o_5 : h0.size ≤ h_4.size := k0.le
  have oh_5 : h.size ≤ h_4.size := kh.le
  have lt_5 := bx_5.lt
  have m_5 := k_5.tame
  have bx_1 := bx_1.keep k_5
  have bx_2 := bx_2.keep k_5
  have k0 := k0.trans k_5
  have kh := kh.trans k_5
  refine stA bx_5 (base_add _ _) rfl fun h_6 bx_5 k_6 m_6 => ?_
  have bx_1 := bx_1.keepB d_1q_5 k_6
  have bx_2 := bx_2.keepB d_2q_5 k_6
  have k0 := KeepB.keep k0 k_6 o_5
  have kh := KeepB.keep kh k_6 oh_5
  refine stA bx_5 (base_add _ _) rfl fun h_7 bx_5 k_7 m_7 => ?_
  have bx_1 := bx_1.keepB d_1q_5 k_7
  have bx_2 := bx_2.keepB d_2q_5 k_7
  have k0 := KeepB.keep k0 k_7 o_5
  have kh := KeepB.keep kh k_7 oh_5
  refine ⟨blkLt rfl ((m_6.trans m_7).lt lt_5), ?_⟩
  refine ldA bx_5 (base_add _ _) rfl ?_
  refine gBool_intro rfl ?_
  refine ldA bx_5 (base_add _ _) rfl ?_
  refine gSlice_intro rfl ?_
  refine ⟨?_, ?_⟩
  · refine ⟨blkLt (base_add _ _) ((m_6.trans m_7).lt lt_5), ?_⟩
    refine ldA bx_5 (base_add _ _) rfl ?_
    refine gSlice_intro rfl ?_
    refine stA bx_2 (base_add _ _) rfl fun h_8 bx_2 k_8 m_8 => ?_
    have bx_1 := bx_1.keepB d_1q_2 k_8
    have bx_5 := bx_5.keepB (Ne.symm d_2q_5) k_8
    have k0 := KeepB.keep k0 k_8 o_2
    have kh := KeepB.keep kh k_8 oh_2
    refine stA bx_2 (base_add _ _) rfl fun h_9 bx_2 k_9 m_9 => ?_
    have bx_1 := bx_1.keepB d_1q_2 k_9
    have bx_5 := bx_5.keepB (Ne.symm d_2q_5) k_9
    have k0 := KeepB.keep k0 k_9 o_2
    have kh := KeepB.keep kh k_9 oh_2
    refine ldA bx_2 (base_add _ _) rfl ?_
    refine gBool_intro rfl ?_
    refine ldA bx_2 (base_add _ _) rfl ?_
    refine gSlice_intro rfl ?_
    exact g _ _ k0 ⟨_, _, rfl, ⟨_, _, rfl, (r_4.tame (m_5.trans (m_6.trans (m_7.trans (m_8.trans m_9)))))⟩, rfl⟩
  · refine stA bx_2 (base_add _ _) rfl fun h_8 bx_2 k_8 m_8 => ?_
    have bx_1 := bx_1.keepB d_1q_2 k_8
    have bx_5 := bx_5.keepB (Ne.symm d_2q_5) k_8
    have k0 := KeepB.keep k0 k_8 o_2
    have kh := KeepB.keep kh k_8 oh_2
    refine stA bx_2 (base_add _ _) rfl fun h_9 bx_2 k_9 m_9 => ?_
    have bx_1 := bx_1.keepB d_1q_2 k_9
    have bx_5 := bx_5.keepB (Ne.symm d_2q_5) k_9
    have k0 := KeepB.keep k0 k_9 o_2
    have kh := KeepB.keep kh k_9 oh_2
    refine ⟨blkLt (base_add _ _) ((m_6.trans m_7).lt lt_5), ?_⟩
    refine ldA bx_5 (base_add _ _) rfl ?_
    refine gSlice_intro rfl ?_
    refine ldA bx_2 (base_add _ _) rfl ?_
    refine gBool_intro rfl ?_
    refine ldA bx_2 (base_add _ _) rfl ?_
    refine gSlice_intro rfl ?_
    exact g _ _ k0 ⟨_, _, rfl, ⟨_, _, rfl, (r_4.tame (m_5.trans (m_6.trans (m_7.trans (m_8.trans m_9)))))⟩, rfl⟩
def v (b0_0 : Bool) (xs0_1 : List Nat) : ((Bool × List Nat) × Bool) := D1.v b0_0 xs0_1
theorem hv {h : Hp} {b0_0 : Bool} {a0_1 : Option Addr} {c0_1 l0_1 : Nat} {xs0_1 : List Nat} (r0_1 : Rd h a0_1 c0_1 xs0_1) (e0_1 : l0_1 = xs0_1.length) : HC id #[.agg #[.bool b0_0, .slice a0_1 l0_1 c0_1]] h fun v_ h_ => Keep h h_ ∧ (s2 sZW sBool) h h_ v_ (v b0_0 xs0_1) :=
  ok (D1.hv (Keep.refl _) r0_1 e0_1 fun v h' k s => ⟨k, s⟩)
end gnomonlaw04_formed

namespace gnomonlaw04_awake
def D2.v (x2 : Int) (b3_0 : Bool) (xs3_1 : List Nat) (x4 : Int) : Bool :=
  letV (smaS (b3_0, xs3_1)) fun p_8 =>
  bif (x2 == (0 : Int)) then
    bif (x4 == (0 : Int)) then
      bif (p_8.2 == (0 : Int)) then
        bif (p_8.1 == (-14 : Int)) then
          bif (((cmpZ (zi (b3_0, xs3_1)) 0)) == (-1 : Int)) then
            (decide (FrmZ (b3_0, xs3_1)))
          else
            false
        else
          false
      else
        false
    else
      false
  else
    false
theorem D2.hv {R : Rt} {h0 h : Hp} (k0 : Keep h0 h) {x2 : Int} (i2 : In .i64 x2) {b3_0 : Bool} {a3_1 : Option Addr} {c3_1 : Nat} {xs3_1 : List Nat} (r3_1 : GotE eU64 h0 h a3_1 c3_1 xs3_1) {B3 : Nat} (bx3 : BlkV h B3 [.bool b3_0, .slice a3_1 xs3_1.length c3_1]) (o3 : h0.size ≤ B3) {x4 : Int} (i4 : In .i64 x4) (g : Post sBool h0 R (D2.v x2 b3_0 xs3_1 x4)) : D2.t R x2 (⟨B3, 0, none⟩ : Addr) x4 h := by
  have kh := Keep.refl h
  have lt3 := bx3.lt
  unfold D2.v at g
  unfold D2.t
  refine ldA bx3 (base_add _ _) rfl ?_
  refine gBool_intro rfl ?_
  refine ldA bx3 (base_add _ _) rfl ?_
  refine gSlice_intro rfl ?_
  refine hc_intro (num_Small.hs r3_1.rd64 rfl) fun v h_1 ⟨k_1, s⟩ => ?_
  obtain ⟨p_8, hp_8⟩ : ∃ p, p = smaS (b3_0, xs3_1) := ⟨_, rfl⟩
  rw [← hp_8] at s
  replace g := lift_let2 hp_8 g
  obtain ⟨_, _, rfl, ⟨rfl, i_8_0⟩, ⟨rfl, i_8_1⟩⟩ := s
  refine gTup_intro rfl (uncons_intro (gInt_intro rfl (uncons_intro (gInt_intro rfl (unnil_intro (?_))))))
  have m_1 := k_1.tame
  have bx3 := bx3.keep k_1
  have k0 := k0.trans k_1
  have kh := kh.trans k_1
  refine lift_eq g (fun q_9 g => ?_) (fun q_9 g => ?_)
  · refine lift_eq g (fun q_10 g => ?_) (fun q_10 g => ?_)
    · refine lift_eq g (fun q_11 g => ?_) (fun q_11 g => ?_)
      · refine lift_eq g (fun q_12 g => ?_) (fun q_12 g => ?_)
        · refine ldA bx3 (base_add _ _) rfl ?_
          refine gBool_intro rfl ?_
          refine ldA bx3 (base_add _ _) rfl ?_
          refine gSlice_intro rfl ?_
          refine hc_intro (num_Sign.hs (r3_1.tame (m_1)).rd64 rfl) fun v h_2 ⟨k_2, s⟩ => ?_
          obtain ⟨rfl, i_13⟩ := s
          refine gInt_intro rfl (?_)
          have m_2 := k_2.tame
          have bx3 := bx3.keep k_2
          have k0 := k0.trans k_2
          have kh := kh.trans k_2
          refine lift_eq g (fun q_14 g => ?_) (fun q_14 g => ?_)
          · refine ldA bx3 (base_add _ _) rfl ?_
            refine gBool_intro rfl ?_
            refine ldA bx3 (base_add _ _) rfl ?_
            refine gSlice_intro rfl ?_
            refine hc_intro (num_Form.hs (r3_1.tame (m_1.trans m_2)).rd64 rfl) fun v h_3 ⟨k_3, s⟩ => ?_
            obtain rfl := s
            refine gBool_intro rfl (?_)
            have m_3 := k_3.tame
            have bx3 := bx3.keep k_3
            have k0 := k0.trans k_3
            have kh := kh.trans k_3
            exact g _ _ k0 rfl
          · exact g _ _ k0 rfl
        · exact g _ _ k0 rfl
      · exact g _ _ k0 rfl
    · exact g _ _ k0 rfl
  · exact g _ _ k0 rfl
def D1.v  : Bool :=
  letV (zz (-5 : Int)) fun p_1 =>
  letV (zz (3 : Int)) fun p_2 =>
  letV (twoZ addI (p_1.1, p_1.2) (p_2.1, p_2.2)) fun p_3 =>
  letV (zz (7 : Int)) fun p_5 =>
  letV (twoZ mulI (p_3.1.1, p_3.1.2) (p_5.1, p_5.2)) fun p_6 =>
  D2.v p_3.2 p_6.1.1 p_6.1.2 p_6.2
theorem D1.hv {R : Rt} {h0 h : Hp} (k0 : Keep h0 h)  (g : Post sBool h0 R (D1.v )) : D1.t R  h := by
  have kh := Keep.refl h
  unfold D1.v at g
  unfold D1.t
  refine hc_intro (num_Of.hs (show In .i64 (-5 : Int) by decide)) fun v h_1 ⟨k_1, s⟩ => ?_
  obtain ⟨p_1, hp_1⟩ : ∃ p, p = zz (-5 : Int) := ⟨_, rfl⟩
  rw [← hp_1] at s
  replace g := lift_let2 hp_1 g
  obtain ⟨a_1, c_1, rfl, r_1⟩ := s
  refine gAgg_intro rfl (uncons_intro (gBool_intro rfl (uncons_intro (gSlice_intro rfl (unnil_intro (?_))))))
  have r_1 := r_1.from k0.le
  have m_1 := k_1.tame
  have k0 := k0.trans k_1
  have kh := kh.trans k_1
  refine hc_intro (num_Of.hs (show In .i64 (3 : Int) by decide)) fun v h_2 ⟨k_2, s⟩ => ?_
  obtain ⟨p_2, hp_2⟩ : ∃ p, p = zz (3 : Int) := ⟨_, rfl⟩
  rw [← hp_2] at s
  replace g := lift_let2 hp_2 g
  obtain ⟨a_2, c_2, rfl, r_2⟩ := s
  refine gAgg_intro rfl (uncons_intro (gBool_intro rfl (uncons_intro (gSlice_intro rfl (unnil_intro (?_))))))
  have r_2 := r_2.from k0.le
  have m_2 := k_2.tame
  have k0 := k0.trans k_2
  have kh := kh.trans k_2
  refine hc_intro (num_Add.hs (r_1.tame (m_2)).rd64 rfl r_2.rd64 rfl) fun v h_3 ⟨k_3, s⟩ => ?_
  obtain ⟨p_3, hp_3⟩ : ∃ p, p = twoZ addI (p_1.1, p_1.2) (p_2.1, p_2.2) := ⟨_, rfl⟩
  rw [← hp_3] at s
  replace g := lift_let2 hp_3 g
  obtain ⟨_, _, rfl, ⟨a_3_0, c_3_0, rfl, r_3_0⟩, ⟨rfl, i_3_1⟩⟩ := s
  refine gTup_intro rfl (uncons_intro (gAgg_intro rfl (uncons_intro (gBool_intro rfl (uncons_intro (gSlice_intro rfl (unnil_intro (uncons_intro (gInt_intro rfl (unnil_intro (?_)))))))))))
  have r_3_0 := r_3_0.from k0.le
  have m_3 := k_3.tame
  have k0 := k0.trans k_3
  have kh := kh.trans k_3
  refine boxV fun h_4 bx_4 k_4 => ?_
  have o_4 : h0.size ≤ h_3.size := k0.le
  have oh_4 : h.size ≤ h_3.size := kh.le
  have lt_4 := bx_4.lt
  have m_4 := k_4.tame
  have k0 := k0.trans k_4
  have kh := kh.trans k_4
  refine stA bx_4 (base_add _ _) rfl fun h_5 bx_4 k_5 m_5 => ?_
  have k0 := KeepB.keep k0 k_5 o_4
  have kh := KeepB.keep kh k_5 oh_4
  refine stA bx_4 (base_add _ _) rfl fun h_6 bx_4 k_6 m_6 => ?_
  have k0 := KeepB.keep k0 k_6 o_4
  have kh := KeepB.keep kh k_6 oh_4
  refine ⟨blkLt rfl ((m_5.trans m_6).lt lt_4), ?_⟩
  refine ldA bx_4 (base_add _ _) rfl ?_
  refine gBool_intro rfl ?_
  refine ldA bx_4 (base_add _ _) rfl ?_
  refine gSlice_intro rfl ?_
  refine ⟨?_, ?_⟩
  · refine hc_intro (num_Of.hs (show In .i64 (7 : Int) by decide)) fun v h_7 ⟨k_7, s⟩ => ?_
    obtain ⟨p_5, hp_5⟩ : ∃ p, p = zz (7 : Int) := ⟨_, rfl⟩
    rw [← hp_5] at s
    replace g := lift_let2 hp_5 g
    obtain ⟨a_5, c_5, rfl, r_5⟩ := s
    refine gAgg_intro rfl (uncons_intro (gBool_intro rfl (uncons_intro (gSlice_intro rfl (unnil_intro (?_))))))
    have r_5 := r_5.from k0.le
    have m_7 := k_7.tame
    have bx_4 := bx_4.keep k_7
    have k0 := k0.trans k_7
    have kh := kh.trans k_7
    refine ⟨k_7.preLe (Nat.le_refl _), ?_⟩
    refine ⟨?_, ?_⟩
    · refine hc_intro (num_Mul.hs (r_3_0.tame (m_4.trans (m_5.trans (m_6.trans m_7)))).rd64 rfl r_5.rd64 rfl) fun v h_8 ⟨k_8, s⟩ => ?_
      obtain ⟨p_6, hp_6⟩ : ∃ p, p = twoZ mulI (p_3.1.1, p_3.1.2) (p_5.1, p_5.2) := ⟨_, rfl⟩
      rw [← hp_6] at s
      replace g := lift_let2 hp_6 g
      obtain ⟨_, _, rfl, ⟨a_6_0, c_6_0, rfl, r_6_0⟩, ⟨rfl, i_6_1⟩⟩ := s
      refine gTup_intro rfl (uncons_intro (gAgg_intro rfl (uncons_intro (gBool_intro rfl (uncons_intro (gSlice_intro rfl (unnil_intro (uncons_intro (gInt_intro rfl (unnil_intro (?_)))))))))))
      have r_6_0 := r_6_0.from k0.le
      have m_8 := k_8.tame
      have bx_4 := bx_4.keep k_8
      have k0 := k0.trans k_8
      have kh := kh.trans k_8
      refine ⟨k_8.preLe (m_7).le, ?_⟩
      refine boxV fun h_9 bx_7 k_9 => ?_
      have d_4q_7 : h_3.size ≠ h_8.size := Nat.ne_of_lt bx_4.lt
      have o_7 : h0.size ≤ h_8.size := k0.le
      have oh_7 : h.size ≤ h_8.size := kh.le
      have lt_7 := bx_7.lt
      have m_9 := k_9.tame
      have bx_4 := bx_4.keep k_9
      have k0 := k0.trans k_9
      have kh := kh.trans k_9
      refine ⟨k_9.preLe (m_7.trans m_8).le, ?_⟩
      refine stA bx_7 (base_add _ _) rfl fun h_10 bx_7 k_10 m_10 => ?_
      have bx_4 := bx_4.keepB d_4q_7 k_10
      have k0 := KeepB.keep k0 k_10 o_7
      have kh := KeepB.keep kh k_10 oh_7
      refine stA bx_7 (base_add _ _) rfl fun h_11 bx_7 k_11 m_11 => ?_
      have bx_4 := bx_4.keepB d_4q_7 k_11
      have k0 := KeepB.keep k0 k_11 o_7
      have kh := KeepB.keep kh k_11 oh_7
      exact D2.hv k0 i_3_1 (r_6_0.tame (m_9.trans (m_10.trans m_11))) bx_7 o_7 i_6_1 g
    · refine boxV fun h_8 bx_16 k_8 => ?_
      have d_4q_16 : h_3.size ≠ h_7.size := Nat.ne_of_lt bx_4.lt
      have o_16 : h0.size ≤ h_7.size := k0.le
      have oh_16 : h.size ≤ h_7.size := kh.le
      have lt_16 := bx_16.lt
      have m_8 := k_8.tame
      have bx_4 := bx_4.keep k_8
      have k0 := k0.trans k_8
      have kh := kh.trans k_8
      refine ⟨k_8.preLe (m_7).le, ?_⟩
      refine hc_intro (num_Mul.hs (r_3_0.tame (m_4.trans (m_5.trans (m_6.trans (m_7.trans m_8))))).rd64 rfl (r_5.tame (m_8)).rd64 rfl) fun v h_9 ⟨k_9, s⟩ => ?_
      obtain ⟨p_17, hp_17⟩ : ∃ p, p = twoZ mulI (p_3.1.1, p_3.1.2) (p_5.1, p_5.2) := ⟨_, rfl⟩
      rw [← hp_17] at s
      replace g := lift_let2 hp_17 g
      obtain ⟨_, _, rfl, ⟨a_17_0, c_17_0, rfl, r_17_0⟩, ⟨rfl, i_17_1⟩⟩ := s
      refine gTup_intro rfl (uncons_intro (gAgg_intro rfl (uncons_intro (gBool_intro rfl (uncons_intro (gSlice_intro rfl (unnil_intro (uncons_intro (gInt_intro rfl (unnil_intro (?_)))))))))))
      have r_17_0 := r_17_0.from k0.le
      have m_9 := k_9.tame
      have bx_4 := bx_4.keep k_9
      have bx_16 := bx_16.keep k_9
      have k0 := k0.trans k_9
      have kh := kh.trans k_9
      refine ⟨k_9.preLe (m_7.trans m_8).le, ?_⟩
      refine stA bx_16 (base_add _ _) rfl fun h_10 bx_16 k_10 m_10 => ?_
      have bx_4 := bx_4.keepB d_4q_16 k_10
      have k0 := KeepB.keep k0 k_10 o_16
      have kh := KeepB.keep kh k_10 oh_16
      refine stA bx_16 (base_add _ _) rfl fun h_11 bx_16 k_11 m_11 => ?_
      have bx_4 := bx_4.keepB d_4q_16 k_11
      have k0 := KeepB.keep k0 k_11 o_16
      have kh := KeepB.keep kh k_11 oh_16
      exact D2.hv k0 i_3_1 (r_17_0.tame (m_10.trans m_11)) bx_16 o_16 i_17_1 g
  · refine boxV fun h_7 bx_18 k_7 => ?_
    have d_4q_18 : h_3.size ≠ h_6.size := Nat.ne_of_lt bx_4.lt
    have o_18 : h0.size ≤ h_6.size := k0.le
    have oh_18 : h.size ≤ h_6.size := kh.le
    have lt_18 := bx_18.lt
    have m_7 := k_7.tame
    have bx_4 := bx_4.keep k_7
    have k0 := k0.trans k_7
    have kh := kh.trans k_7
    refine ⟨k_7.preLe (Nat.le_refl _), ?_⟩
    refine hc_intro (num_Of.hs (show In .i64 (7 : Int) by decide)) fun v h_8 ⟨k_8, s⟩ => ?_
    obtain ⟨p_19, hp_19⟩ : ∃ p, p = zz (7 : Int) := ⟨_, rfl⟩
    rw [← hp_19] at s
    replace g := lift_let2 hp_19 g
    obtain ⟨a_19, c_19, rfl, r_19⟩ := s
    refine gAgg_intro rfl (uncons_intro (gBool_intro rfl (uncons_intro (gSlice_intro rfl (unnil_intro (?_))))))
    have r_19 := r_19.from k0.le
    have m_8 := k_8.tame
    have bx_4 := bx_4.keep k_8
    have bx_18 := bx_18.keep k_8
    have k0 := k0.trans k_8
    have kh := kh.trans k_8
    refine ⟨k_8.preLe (m_7).le, ?_⟩
    refine hc_intro (num_Mul.hs (r_3_0.tame (m_4.trans (m_5.trans (m_6.trans (m_7.trans m_8))))).rd64 rfl r_19.rd64 rfl) fun v h_9 ⟨k_9, s⟩ => ?_
    obtain ⟨p_20, hp_20⟩ : ∃ p, p = twoZ mulI (p_3.1.1, p_3.1.2) (p_19.1, p_19.2) := ⟨_, rfl⟩
    rw [← hp_20] at s
    replace g := lift_let2 hp_20 g
    obtain ⟨_, _, rfl, ⟨a_20_0, c_20_0, rfl, r_20_0⟩, ⟨rfl, i_20_1⟩⟩ := s
    refine gTup_intro rfl (uncons_intro (gAgg_intro rfl (uncons_intro (gBool_intro rfl (uncons_intro (gSlice_intro rfl (unnil_intro (uncons_intro (gInt_intro rfl (unnil_intro (?_)))))))))))
    have r_20_0 := r_20_0.from k0.le
    have m_9 := k_9.tame
    have bx_4 := bx_4.keep k_9
    have bx_18 := bx_18.keep k_9
    have k0 := k0.trans k_9
    have kh := kh.trans k_9
    refine ⟨k_9.preLe (m_7.trans m_8).le, ?_⟩
    refine stA bx_18 (base_add _ _) rfl fun h_10 bx_18 k_10 m_10 => ?_
    have bx_4 := bx_4.keepB d_4q_18 k_10
    have k0 := KeepB.keep k0 k_10 o_18
    have kh := KeepB.keep kh k_10 oh_18
    refine stA bx_18 (base_add _ _) rfl fun h_11 bx_18 k_11 m_11 => ?_
    have bx_4 := bx_4.keepB d_4q_18 k_11
    have k0 := KeepB.keep k0 k_11 o_18
    have kh := KeepB.keep kh k_11 oh_18
    exact D2.hv k0 i_3_1 (r_20_0.tame (m_10.trans m_11)) bx_18 o_18 i_20_1 g
def v  : Bool := D1.v 
theorem hv {h : Hp}  : HC id #[] h fun v_ h_ => Keep h h_ ∧ sBool h h_ v_ (v) :=
  ok (D1.hv (Keep.refl _)  fun v h' k s => ⟨k, s⟩)
end gnomonlaw04_awake

namespace gnomonlaw04_halves
def D1.v  : Bool :=
  letV (zz (-7 : Int)) fun p_1 =>
  letV (zz (2 : Int)) fun p_2 =>
  letV (quoZ flo (p_1.1, p_1.2) (p_2.1, p_2.2)) fun p_3 =>
  letV (zz (7 : Int)) fun p_5 =>
  letV (shrZ nea (p_5.1, p_5.2) (1 : Int)) fun p_6 =>
  letV (zz (-7 : Int)) fun p_8 =>
  letV (zz (3 : Int)) fun p_9 =>
  letV (quoZ mo (p_8.1, p_8.2) (p_9.1, p_9.2)) fun p_10 =>
  bif (p_3.2 == (0 : Int)) then
    bif (p_6.2 == (0 : Int)) then
      bif (p_10.2 == (0 : Int)) then
        letV (gnomonref04_DocOf.v (-4 : Int)) fun p_15 =>
        bif (decide ((p_3.1.1, p_3.1.2) = (p_15.1, p_15.2))) then
          letV (gnomonref04_DocOf.v (4 : Int)) fun p_18 =>
          bif (decide ((p_6.1.1, p_6.1.2) = (p_18.1, p_18.2))) then
            letV (gnomonref04_DocOf.v (2 : Int)) fun p_21 =>
            (decide ((p_10.1.1, p_10.1.2) = (p_21.1, p_21.2)))
          else
            false
        else
          false
      else
        false
    else
      false
  else
    false
theorem D1.hv {R : Rt} {h0 h : Hp} (k0 : Keep h0 h)  (tb : Tab h) (g : Post sBool h0 R (D1.v )) : D1.t R  h := by
  have kh := Keep.refl h
  unfold D1.v at g
  unfold D1.t
  refine hc_intro (num_Of.hs (show In .i64 (-7 : Int) by decide)) fun v h_1 ⟨k_1, s⟩ => ?_
  obtain ⟨p_1, hp_1⟩ : ∃ p, p = zz (-7 : Int) := ⟨_, rfl⟩
  rw [← hp_1] at s
  replace g := lift_let2 hp_1 g
  obtain ⟨a_1, c_1, rfl, r_1⟩ := s
  refine gAgg_intro rfl (uncons_intro (gBool_intro rfl (uncons_intro (gSlice_intro rfl (unnil_intro (?_))))))
  have r_1 := r_1.from k0.le
  have m_1 := k_1.tame
  have k0 := k0.trans k_1
  have kh := kh.trans k_1
  refine hc_intro (num_Of.hs (show In .i64 (2 : Int) by decide)) fun v h_2 ⟨k_2, s⟩ => ?_
  obtain ⟨p_2, hp_2⟩ : ∃ p, p = zz (2 : Int) := ⟨_, rfl⟩
  rw [← hp_2] at s
  replace g := lift_let2 hp_2 g
  obtain ⟨a_2, c_2, rfl, r_2⟩ := s
  refine gAgg_intro rfl (uncons_intro (gBool_intro rfl (uncons_intro (gSlice_intro rfl (unnil_intro (?_))))))
  have r_2 := r_2.from k0.le
  have m_2 := k_2.tame
  have k0 := k0.trans k_2
  have kh := kh.trans k_2
  refine hc_intro (num_FloorDiv.hs (r_1.tame (m_2)).rd64 rfl r_2.rd64 rfl) fun v h_3 ⟨k_3, s⟩ => ?_
  obtain ⟨p_3, hp_3⟩ : ∃ p, p = quoZ flo (p_1.1, p_1.2) (p_2.1, p_2.2) := ⟨_, rfl⟩
  rw [← hp_3] at s
  replace g := lift_let2 hp_3 g
  obtain ⟨_, _, rfl, ⟨a_3_0, c_3_0, rfl, r_3_0⟩, ⟨rfl, i_3_1⟩⟩ := s
  refine gTup_intro rfl (uncons_intro (gAgg_intro rfl (uncons_intro (gBool_intro rfl (uncons_intro (gSlice_intro rfl (unnil_intro (uncons_intro (gInt_intro rfl (unnil_intro (?_)))))))))))
  have r_3_0 := r_3_0.from k0.le
  have m_3 := k_3.tame
  have k0 := k0.trans k_3
  have kh := kh.trans k_3
  refine boxV fun h_4 bx_4 k_4 => ?_
  have o_4 : h0.size ≤ h_3.size := k0.le
  have oh_4 : h.size ≤ h_3.size := kh.le
  have lt_4 := bx_4.lt
  have m_4 := k_4.tame
  have k0 := k0.trans k_4
  have kh := kh.trans k_4
  refine stA bx_4 (base_add _ _) rfl fun h_5 bx_4 k_5 m_5 => ?_
  have k0 := KeepB.keep k0 k_5 o_4
  have kh := KeepB.keep kh k_5 oh_4
  refine stA bx_4 (base_add _ _) rfl fun h_6 bx_4 k_6 m_6 => ?_
  have k0 := KeepB.keep k0 k_6 o_4
  have kh := KeepB.keep kh k_6 oh_4
  refine hc_intro (num_Of.hs (show In .i64 (7 : Int) by decide)) fun v h_7 ⟨k_7, s⟩ => ?_
  obtain ⟨p_5, hp_5⟩ : ∃ p, p = zz (7 : Int) := ⟨_, rfl⟩
  rw [← hp_5] at s
  replace g := lift_let2 hp_5 g
  obtain ⟨a_5, c_5, rfl, r_5⟩ := s
  refine gAgg_intro rfl (uncons_intro (gBool_intro rfl (uncons_intro (gSlice_intro rfl (unnil_intro (?_))))))
  have r_5 := r_5.from k0.le
  have m_7 := k_7.tame
  have bx_4 := bx_4.keep k_7
  have k0 := k0.trans k_7
  have kh := kh.trans k_7
  refine hc_intro (num_NearShr.hs r_5.rd64 rfl (show In .i64 (1 : Int) by decide) (tb.tame (m_1.trans (m_2.trans (m_3.trans (m_4.trans (m_5.trans (m_6.trans m_7)))))))) fun v h_8 ⟨k_8, s⟩ => ?_
  obtain ⟨p_6, hp_6⟩ : ∃ p, p = shrZ nea (p_5.1, p_5.2) (1 : Int) := ⟨_, rfl⟩
  rw [← hp_6] at s
  replace g := lift_let2 hp_6 g
  obtain ⟨_, _, rfl, ⟨a_6_0, c_6_0, rfl, r_6_0⟩, ⟨rfl, i_6_1⟩⟩ := s
  refine gTup_intro rfl (uncons_intro (gAgg_intro rfl (uncons_intro (gBool_intro rfl (uncons_intro (gSlice_intro rfl (unnil_intro (uncons_intro (gInt_intro rfl (unnil_intro (?_)))))))))))
  have r_6_0 := r_6_0.from k0.le
  have m_8 := k_8.tame
  have bx_4 := bx_4.keep k_8
  have k0 := k0.trans k_8
  have kh := kh.trans k_8
  refine boxV fun h_9 bx_7 k_9 => ?_
  have d_4q_7 : h_3.size ≠ h_8.size := Nat.ne_of_lt bx_4.lt
  have o_7 : h0.size ≤ h_8.size := k0.le
  have oh_7 : h.size ≤ h_8.size := kh.le
  have lt_7 := bx_7.lt
  have m_9 := k_9.tame
  have bx_4 := bx_4.keep k_9
  have k0 := k0.trans k_9
  have kh := kh.trans k_9
  refine stA bx_7 (base_add _ _) rfl fun h_10 bx_7 k_10 m_10 => ?_
  have bx_4 := bx_4.keepB d_4q_7 k_10
  have k0 := KeepB.keep k0 k_10 o_7
  have kh := KeepB.keep kh k_10 oh_7
  refine stA bx_7 (base_add _ _) rfl fun h_11 bx_7 k_11 m_11 => ?_
  have bx_4 := bx_4.keepB d_4q_7 k_11
  have k0 := KeepB.keep k0 k_11 o_7
  have kh := KeepB.keep kh k_11 oh_7
  refine hc_intro (num_Of.hs (show In .i64 (-7 : Int) by decide)) fun v h_12 ⟨k_12, s⟩ => ?_
  obtain ⟨p_8, hp_8⟩ : ∃ p, p = zz (-7 : Int) := ⟨_, rfl⟩
  rw [← hp_8] at s
  replace g := lift_let2 hp_8 g
  obtain ⟨a_8, c_8, rfl, r_8⟩ := s
  refine gAgg_intro rfl (uncons_intro (gBool_intro rfl (uncons_intro (gSlice_intro rfl (unnil_intro (?_))))))
  have r_8 := r_8.from k0.le
  have m_12 := k_12.tame
  have bx_4 := bx_4.keep k_12
  have bx_7 := bx_7.keep k_12
  have k0 := k0.trans k_12
  have kh := kh.trans k_12
  refine hc_intro (num_Of.hs (show In .i64 (3 : Int) by decide)) fun v h_13 ⟨k_13, s⟩ => ?_
  obtain ⟨p_9, hp_9⟩ : ∃ p, p = zz (3 : Int) := ⟨_, rfl⟩
  rw [← hp_9] at s
  replace g := lift_let2 hp_9 g
  obtain ⟨a_9, c_9, rfl, r_9⟩ := s
  refine gAgg_intro rfl (uncons_intro (gBool_intro rfl (uncons_intro (gSlice_intro rfl (unnil_intro (?_))))))
  have r_9 := r_9.from k0.le
  have m_13 := k_13.tame
  have bx_4 := bx_4.keep k_13
  have bx_7 := bx_7.keep k_13
  have k0 := k0.trans k_13
  have kh := kh.trans k_13
  refine hc_intro (num_Mod.hs (r_8.tame (m_13)).rd64 rfl r_9.rd64 rfl) fun v h_14 ⟨k_14, s⟩ => ?_
  obtain ⟨p_10, hp_10⟩ : ∃ p, p = quoZ mo (p_8.1, p_8.2) (p_9.1, p_9.2) := ⟨_, rfl⟩
  rw [← hp_10] at s
  replace g := lift_let2 hp_10 g
  obtain ⟨_, _, rfl, ⟨a_10_0, c_10_0, rfl, r_10_0⟩, ⟨rfl, i_10_1⟩⟩ := s
  refine gTup_intro rfl (uncons_intro (gAgg_intro rfl (uncons_intro (gBool_intro rfl (uncons_intro (gSlice_intro rfl (unnil_intro (uncons_intro (gInt_intro rfl (unnil_intro (?_)))))))))))
  have r_10_0 := r_10_0.from k0.le
  have m_14 := k_14.tame
  have bx_4 := bx_4.keep k_14
  have bx_7 := bx_7.keep k_14
  have k0 := k0.trans k_14
  have kh := kh.trans k_14
  refine boxV fun h_15 bx_11 k_15 => ?_
  have d_4q_11 : h_3.size ≠ h_14.size := Nat.ne_of_lt bx_4.lt
  have d_7q_11 : h_8.size ≠ h_14.size := Nat.ne_of_lt bx_7.lt
  have o_11 : h0.size ≤ h_14.size := k0.le
  have oh_11 : h.size ≤ h_14.size := kh.le
  have lt_11 := bx_11.lt
  have m_15 := k_15.tame
  have bx_4 := bx_4.keep k_15
  have bx_7 := bx_7.keep k_15
  have k0 := k0.trans k_15
  have kh := kh.trans k_15
  refine stA bx_11 (base_add _ _) rfl fun h_16 bx_11 k_16 m_16 => ?_
  have bx_4 := bx_4.keepB d_4q_11 k_16
  have bx_7 := bx_7.keepB d_7q_11 k_16
  have k0 := KeepB.keep k0 k_16 o_11
  have kh := KeepB.keep kh k_16 oh_11
  refine stA bx_11 (base_add _ _) rfl fun h_17 bx_11 k_17 m_17 => ?_
  have bx_4 := bx_4.keepB d_4q_11 k_17
  have bx_7 := bx_7.keepB d_7q_11 k_17
  have k0 := KeepB.keep k0 k_17 o_11
  have kh := KeepB.keep kh k_17 oh_11
  refine lift_eq g (fun q_12 g => ?_) (fun q_12 g => ?_)
  · refine lift_eq g (fun q_13 g => ?_) (fun q_13 g => ?_)
    · refine lift_eq g (fun q_14 g => ?_) (fun q_14 g => ?_)
      · refine ⟨blkLt rfl ((m_5.trans (m_6.trans (m_7.trans (m_8.trans (m_9.trans (m_10.trans (m_11.trans (m_12.trans (m_13.trans (m_14.trans (m_15.trans (m_16.trans m_17)))))))))))).lt lt_4), ?_⟩
        refine ldA bx_4 (base_add _ _) rfl ?_
        refine gBool_intro rfl ?_
        refine ldA bx_4 (base_add _ _) rfl ?_
        refine gSlice_intro rfl ?_
        refine hc_intro (gnomonref04_DocOf.hv (show In .i64 (-4 : Int) by decide)) fun v h_18 ⟨k_18, s⟩ => ?_
        obtain ⟨p_15, hp_15⟩ : ∃ p, p = gnomonref04_DocOf.v (-4 : Int) := ⟨_, rfl⟩
        rw [← hp_15] at s
        replace g := lift_let2 hp_15 g
        obtain ⟨a_15, c_15, rfl, r_15⟩ := s
        refine gAgg_intro rfl (uncons_intro (gBool_intro rfl (uncons_intro (gSlice_intro rfl (unnil_intro (?_))))))
        have r_15 := r_15.from k0.le
        have m_18 := k_18.tame
        have bx_4 := bx_4.keep k_18
        have bx_7 := bx_7.keep k_18
        have bx_11 := bx_11.keep k_18
        have k0 := k0.trans k_18
        have kh := kh.trans k_18
        refine ⟨k_18.preLe (Nat.le_refl _), ?_⟩
        refine hc_intro (gnomonlaw04_same.hs (r_3_0.tame (m_4.trans (m_5.trans (m_6.trans (m_7.trans (m_8.trans (m_9.trans (m_10.trans (m_11.trans (m_12.trans (m_13.trans (m_14.trans (m_15.trans (m_16.trans (m_17.trans m_18))))))))))))))).rd64 rfl r_15.rd64 rfl) fun v h_19 ⟨k_19, s⟩ => ?_
        obtain rfl := s
        refine gBool_intro rfl (?_)
        have m_19 := k_19.tame
        have bx_4 := bx_4.keep k_19
        have bx_7 := bx_7.keep k_19
        have bx_11 := bx_11.keep k_19
        have k0 := k0.trans k_19
        have kh := kh.trans k_19
        refine ⟨k_19.preLe (m_18).le, ?_⟩
        refine lift_dec g (fun q_17 g => ?_) (fun q_17 g => ?_)
        · refine ⟨blkLt rfl ((m_10.trans (m_11.trans (m_12.trans (m_13.trans (m_14.trans (m_15.trans (m_16.trans m_17))))))).lt lt_7), ?_⟩
          refine ldA bx_7 (base_add _ _) rfl ?_
          refine gBool_intro rfl ?_
          refine ldA bx_7 (base_add _ _) rfl ?_
          refine gSlice_intro rfl ?_
          refine hc_intro (gnomonref04_DocOf.hv (show In .i64 (4 : Int) by decide)) fun v h_20 ⟨k_20, s⟩ => ?_
          obtain ⟨p_18, hp_18⟩ : ∃ p, p = gnomonref04_DocOf.v (4 : Int) := ⟨_, rfl⟩
          rw [← hp_18] at s
          replace g := lift_let2 hp_18 g
          obtain ⟨a_18, c_18, rfl, r_18⟩ := s
          refine gAgg_intro rfl (uncons_intro (gBool_intro rfl (uncons_intro (gSlice_intro rfl (unnil_intro (?_))))))
          have r_18 := r_18.from k0.le
          have m_20 := k_20.tame
          have bx_4 := bx_4.keep k_20
          have bx_7 := bx_7.keep k_20
          have bx_11 := bx_11.keep k_20
          have k0 := k0.trans k_20
          have kh := kh.trans k_20
          refine ⟨k_20.preLe (m_18.trans m_19).le, ?_⟩
          refine hc_intro (gnomonlaw04_same.hs (r_6_0.tame (m_9.trans (m_10.trans (m_11.trans (m_12.trans (m_13.trans (m_14.trans (m_15.trans (m_16.trans (m_17.trans (m_18.trans (m_19.trans m_20)))))))))))).rd64 rfl r_18.rd64 rfl) fun v h_21 ⟨k_21, s⟩ => ?_
          obtain rfl := s
          refine gBool_intro rfl (?_)
          have m_21 := k_21.tame
          have bx_4 := bx_4.keep k_21
          have bx_7 := bx_7.keep k_21
          have bx_11 := bx_11.keep k_21
          have k0 := k0.trans k_21
          have kh := kh.trans k_21
          refine ⟨k_21.preLe (m_18.trans (m_19.trans m_20)).le, ?_⟩
          refine lift_dec g (fun q_20 g => ?_) (fun q_20 g => ?_)
          · refine ⟨blkLt rfl ((m_16.trans m_17).lt lt_11), ?_⟩
            refine ldA bx_11 (base_add _ _) rfl ?_
            refine gBool_intro rfl ?_
            refine ldA bx_11 (base_add _ _) rfl ?_
            refine gSlice_intro rfl ?_
            refine hc_intro (gnomonref04_DocOf.hv (show In .i64 (2 : Int) by decide)) fun v h_22 ⟨k_22, s⟩ => ?_
            obtain ⟨p_21, hp_21⟩ : ∃ p, p = gnomonref04_DocOf.v (2 : Int) := ⟨_, rfl⟩
            rw [← hp_21] at s
            replace g := lift_let2 hp_21 g
            obtain ⟨a_21, c_21, rfl, r_21⟩ := s
            refine gAgg_intro rfl (uncons_intro (gBool_intro rfl (uncons_intro (gSlice_intro rfl (unnil_intro (?_))))))
            have r_21 := r_21.from k0.le
            have m_22 := k_22.tame
            have bx_4 := bx_4.keep k_22
            have bx_7 := bx_7.keep k_22
            have bx_11 := bx_11.keep k_22
            have k0 := k0.trans k_22
            have kh := kh.trans k_22
            refine ⟨k_22.preLe (m_18.trans (m_19.trans (m_20.trans m_21))).le, ?_⟩
            refine hc_intro (gnomonlaw04_same.hs (r_10_0.tame (m_15.trans (m_16.trans (m_17.trans (m_18.trans (m_19.trans (m_20.trans (m_21.trans m_22)))))))).rd64 rfl r_21.rd64 rfl) fun v h_23 ⟨k_23, s⟩ => ?_
            obtain rfl := s
            refine gBool_intro rfl (?_)
            have m_23 := k_23.tame
            have bx_4 := bx_4.keep k_23
            have bx_7 := bx_7.keep k_23
            have bx_11 := bx_11.keep k_23
            have k0 := k0.trans k_23
            have kh := kh.trans k_23
            refine ⟨k_23.preLe (m_18.trans (m_19.trans (m_20.trans (m_21.trans m_22)))).le, ?_⟩
            exact g _ _ k0 rfl
          · exact g _ _ k0 rfl
        · exact g _ _ k0 rfl
      · exact g _ _ k0 rfl
    · exact g _ _ k0 rfl
  · exact g _ _ k0 rfl
def v  : Bool := D1.v 
theorem hv {h : Hp}  (tb : Tab h) : HC id #[] h fun v_ h_ => Keep h h_ ∧ sBool h h_ v_ (v) :=
  ok (D1.hv (Keep.refl _)  tb fun v h' k s => ⟨k, s⟩)
end gnomonlaw04_halves

end Go.Proofs.YtpglfeeebnnkkaaDoor.G

/- Whole numbers: sums, products, quotients and shifts of numbers in form: plain law. -/
namespace Go.Proofs.YtpglfeeebnnkkaaDoor.G
open Go.Gv
set_option linter.unusedVariables false
theorem sg_of (a : Int) : ∃ p A, a = sg p A ∧ (p = true → A ≠ 0) ∧ A = a.natAbs := by
  by_cases h : a < 0
  · exact ⟨true, a.natAbs, by unfold sg; simp; omega, fun _ => by omega, rfl⟩
  · exact ⟨false, a.natAbs, by unfold sg; simp; omega, fun h => (by cases h), rfl⟩
theorem quo_up {A B : Nat} (h : A % B ≠ 0) : A / B + 1 ≤ A := by
  have hd := Nat.div_add_mod A B
  rcases Nat.eq_zero_or_pos B with h0 | h0
  · subst h0; simp at h ⊢; omega
  have hm := Nat.mod_lt A h0
  generalize A % B = r at *
  have h2 : 2 ≤ B := by omega
  have h3 := Nat.mul_le_mul_right (A / B) h2
  omega
theorem flo_abs {a b : Int} (hb : b ≠ 0) : (flo a b).natAbs ≤ a.natAbs := by
  obtain ⟨p, A, rfl, hp, _⟩ := sg_of a
  obtain ⟨q, B, rfl, hq, _⟩ := sg_of b
  have hB : B ≠ 0 := fun h => hb (sg_eq_zero.mpr h)
  rw [flo_sg hB hp, sg_abs, sg_abs]
  split
  · rename_i h; exact quo_up h.2
  · exact Nat.div_le_self _ _
theorem cei_abs {a b : Int} (hb : b ≠ 0) : (cei a b).natAbs ≤ a.natAbs := by
  have := flo_abs (a := -a) hb
  unfold cei; rw [Int.natAbs_neg] at this ⊢; exact this
theorem near_le {A B : Nat} (hB : B ≠ 0) : nearN A B ≤ A := by
  unfold nearN
  split
  · rename_i h; exact quo_up (by omega)
  · exact Nat.div_le_self _ _
theorem nea_abs {a b : Int} (hb : b ≠ 0) : (nea a b).natAbs ≤ a.natAbs := by
  unfold nea; rw [sg_abs]; exact near_le (by omega)
theorem mo_abs {a b : Int} (hb : b ≠ 0) : (mo a b).natAbs < b.natAbs := by
  obtain ⟨p, A, rfl, hp, _⟩ := sg_of a
  obtain ⟨q, B, rfl, hq, _⟩ := sg_of b
  have hB : B ≠ 0 := fun h => hb (sg_eq_zero.mpr h)
  rw [mo_sg hB hp, sg_abs, sg_abs]
  have hm := Nat.mod_lt A (show 0 < B by omega)
  split
  · rename_i h; omega
  · exact hm
theorem pow2_pos (n : Nat) : (0 : Int) < 2 ^ n := by rw [pow2_sg, sg_false]; have := Nat.two_pow_pos n; omega
theorem pow2_nz (n : Nat) : ((2 : Int) ^ n) ≠ 0 := by have := pow2_pos n; omega
theorem nea_neg {a b : Int} : nea (-a) b = -nea a b := by
  by_cases h : a = 0
  · subst h
    unfold nea
    have : nearN (0 : Int).natAbs b.natAbs = 0 := by
      unfold nearN; simp
    simp only [Int.neg_zero, this, sg_zero]
  · unfold nea
    rw [Int.natAbs_neg, neg_sg]
    congr 1
    have : decide (-a < 0) = !decide (a < 0) := by
      by_cases h2 : a < 0
      · simp [h2]; omega
      · simp [h2]; omega
    rw [this]; cases decide (a < 0) <;> cases decide (b < 0) <;> rfl
theorem flo_flip {a b : Int} (hb : b ≠ 0) : flo a (-b) = flo (-a) b := by
  unfold flo
  by_cases h : b < 0
  · rw [if_neg (by omega), if_pos h, Int.neg_neg]
  · rw [if_pos (by omega), if_neg h, Int.neg_neg]
theorem neg_cei (a b : Int) : -cei a b = flo (-a) b := by unfold cei; omega
/-! ### answers of numbers in form -/
theorem sm_neg {i : Int} (h : SmZ i) : SmZ (-i) := by unfold SmZ at *; rw [Int.natAbs_neg]; exact h
theorem neg_zz {i : Int} (h : SmZ i) : negZ (zz i) = (zz (-i), 0) := by
  unfold negZ; rw [if_pos (frm_zz h), zi_zz, zlim_ok (sm_neg h)]
theorem two_zz (f : Int → Int → Int) {i j : Int} (h : SmZ i) (g : SmZ j) : twoZ f (zz i) (zz j) = zlim (f i j) := by
  unfold twoZ; rw [if_pos ⟨frm_zz h, frm_zz g⟩, zi_zz, zi_zz]
theorem quo_zz {g : Int → Int → Int} {i j : Int} (h1 : SmZ i) (h2 : SmZ j) (h0 : j ≠ 0) : quoZ g (zz i) (zz j) = zlim (g i j) := by
  unfold quoZ
  rw [if_pos ⟨frm_zz h1, frm_zz h2⟩, zi_zz, zi_zz, if_neg h0]
theorem quo_z0 {g : Int → Int → Int} {i : Int} (h1 : SmZ i) (h2 : SmZ 0) : quoZ g (zz i) (zz 0) = (nz, 4) := by
  unfold quoZ
  rw [if_pos ⟨frm_zz h1, frm_zz h2⟩, zi_zz, zi_zz, if_pos rfl]
theorem shr_zz {g : Int → Int → Int} {i : Int} (h1 : SmZ i) (n : Nat) : shrZ g (zz i) (n : Int) = zlim (g i (2 ^ n)) := by
  unfold shrZ
  rw [if_neg (by omega), if_pos (frm_zz h1), zi_zz, Int.toNat_natCast]
theorem shl_zz {i : Int} (h1 : SmZ i) (n : Nat) : shlZ (zz i) (n : Int) = zlim (i * 2 ^ n) := by
  unfold shlZ
  rw [if_neg (by omega), if_pos (frm_zz h1), zi_zz, Int.toNat_natCast]
theorem cmp_zz {i j : Int} (h : SmZ i) (g : SmZ j) : cmpS (zz i) (zz j) = (cmpZ i j, 0) := by
  unfold cmpS; rw [if_pos ⟨frm_zz h, frm_zz g⟩, zi_zz, zi_zz]
theorem sma_zz {i : Int} (h : SmZ i) : smaS (zz i) = if -9223372036854775808 ≤ i ∧ i < 9223372036854775808 then (i, 0) else (0, 5) := by
  unfold smaS; rw [if_pos (frm_zz h), zi_zz]
theorem zz_eq {i j : Int} : (zz i = zz j) ↔ i = j := ⟨zz_inj, fun e => by rw [e]⟩
theorem eta2 (p : Zw) : (p.1, p.2) = p := rfl
theorem dl_pow2 {k j : Nat} (h : k < 64 * j) : (digs (2 ^ k)).length ≤ j := digs_len.mpr (Nat.pow_lt_pow_right (by decide) h)
theorem sm_small {i : Int} (h : i.natAbs < 340282366920938463463374607431768211456) : SmZ i := by
  unfold SmZ
  have : (digs i.natAbs).length ≤ 2 := digs_len.mpr (by simpa using h)
  omega
theorem cmpZ_wrap (i : Int) : IntKind.i64.wrap (0 - cmpZ i 0) = cmpZ (-i) 0 := by
  unfold cmpZ
  rcases Int.lt_trichotomy i 0 with h | h | h
  · rw [if_pos h, if_neg (by omega), if_neg (by omega)]; rfl
  · subst h; rfl
  · rw [if_neg (by omega), if_neg (by omega), if_pos (by omega)]; rfl
theorem nea_mul (a : Int) (n : Nat) : nea (a * 2 ^ n) (2 ^ n) = a := by
  obtain ⟨p, A, rfl, hp, _⟩ := sg_of a
  rw [shl_sg, pow2_sg, nea_sg (pow2_ne n) (fun h h0 => hp h (by
    rcases Nat.mul_eq_zero.mp h0 with h1 | h1
    · exact h1
    · exact absurd h1 (pow2_ne n))), Bool.xor_false]
  congr 1
  unfold nearN
  rw [Nat.mul_mod_left, Nat.mul_div_cancel _ (Nat.two_pow_pos n)]
  rw [if_neg (by have := Nat.two_pow_pos n; omega)]
theorem flo_two (a : Int) (j k : Nat) : flo (flo a (2 ^ j)) (2 ^ k) = flo a (2 ^ (j + k)) := by
  have h1 := pow2_pos j; have h2 := pow2_pos k; have h3 := pow2_pos (j + k)
  unfold flo
  rw [if_neg (by omega), if_neg (by omega), if_neg (by omega), Int.pow_add, Int.ediv_ediv_of_nonneg (by omega)]
theorem cmp_neg_iff (i : Int) : decide (cmpZ i 0 < 0) = decide (i < 0) := by
  unfold cmpZ
  by_cases h : i < 0
  · simp [h]
  · rw [if_neg h]; split <;> simp [h]
theorem cmp_pos_iff (i : Int) : decide (cmpZ i 0 > 0) = decide (i > 0) := by
  unfold cmpZ
  rcases Int.lt_trichotomy i 0 with h | h | h
  · rw [if_pos h]; simp; omega
  · subst h; simp
  · rw [if_neg (by omega), if_neg (by omega)]; simp; omega
theorem cmp_lt_iff (i j : Int) : decide (cmpZ i j < 0) = decide (i < j) := by
  unfold cmpZ
  by_cases h : i < j
  · simp [h]
  · rw [if_neg h]; split <;> simp [h]
theorem cmp_gt_iff (i j : Int) : decide (cmpZ i j > 0) = decide (i > j) := by
  unfold cmpZ
  rcases Int.lt_trichotomy i j with h | h | h
  · rw [if_pos h]; simp; omega
  · subst h; simp
  · rw [if_neg (by omega), if_neg (by omega)]; simp; omega
theorem cmp_eq_iff (i : Int) : (cmpZ i 0 == 0) = decide (i = 0) := by
  unfold cmpZ
  rcases Int.lt_trichotomy i 0 with h | h | h
  · rw [if_pos h]; have : i ≠ 0 := by omega
    simp [this]
  · subst h; simp
  · rw [if_neg (by omega), if_neg (by omega)]; have : i ≠ 0 := by omega
    simp [this]
end Go.Proofs.YtpglfeeebnnkkaaDoor.G

/- Layer 4: numbers brought into form; the calls whose answers are fixed. -/
namespace Go.Proofs.YtpglfeeebnnkkaaDoor.G
open Go.Gv
set_option linter.unusedVariables false
set_option maxRecDepth 100000
theorem formed_v (b : Bool) (xs : List Nat) : gnomonlaw04_formed.v b xs = (zz (zi (b, xs)), decide (SmZ (zi (b, xs)))) := by
  unfold gnomonlaw04_formed.v gnomonlaw04_formed.D1.v
  simp only [letV]
  have e : di ((dz (zi (b, xs))).1, (dz (zi (b, xs))).2) = zi (b, xs) := di_dz _
  rw [e]
  have e2 : decide (((((zz (zi (b, xs))).2).length : Nat) : Int) ≤ 8192) = decide (SmZ (zi (b, xs))) := decide_eq_decide.mpr (by
    show ((((digs (zi (b, xs)).natAbs).length : Nat) : Int) ≤ 8192) ↔ ((digs (zi (b, xs)).natAbs).length ≤ 8192)
    omega)
  rw [e2]
theorem DocOf_v (x : Int) : gnomonref04_DocOf.v x = zz x := by
  unfold gnomonref04_DocOf.v gnomonref04_DocOf.D1.v
  simp only [letV]
  have e : di ((dz x).1, (dz x).2) = x := di_dz _
  rw [e]
section
variable {a : Option Addr} {c l : Nat} {xs : List Nat} {h : Hp} {x : Int} {p : Bool}
theorem gnomonref04_DocOf.hs (i : In .i64 x) : HC gnomonref04_DocOf.id #[.int .i64 x] h fun v h' => Keep h h' ∧ sZW h h' v (zz x) := by rw [← DocOf_v]; exact gnomonref04_DocOf.hv i
theorem gnomonlaw04_formed.hs (r : Rd h a c xs) (e : l = xs.length) : HC gnomonlaw04_formed.id #[.agg #[.bool p, .slice a l c]] h fun v h' => Keep h h' ∧ s2 sZW sBool h h' v (zz (zi (p, xs)), decide (SmZ (zi (p, xs)))) := by rw [← formed_v]; exact gnomonlaw04_formed.hv r e
end
theorem awake4_true : gnomonlaw04_awake.v = true := by
  have s : ∀ i : Int, i.natAbs < 18446744073709551616 → SmZ i := fun i h => sm_small (by omega)
  have f : ∀ i : Int, i.natAbs < 18446744073709551616 → FrmZ (zz i) := fun i h => frm_zz (s i h)
  have t : ∀ (g : Int → Int → Int) (i j : Int), i.natAbs < 18446744073709551616 → j.natAbs < 18446744073709551616 → (g i j).natAbs < 18446744073709551616 → twoZ g (zz i) (zz j) = (zz (g i j), 0) := by
    intro g i j h1 h2 h3
    unfold twoZ
    rw [if_pos ⟨f i h1, f j h2⟩, zi_zz, zi_zz, zlim_ok (s _ h3)]
  unfold gnomonlaw04_awake.v gnomonlaw04_awake.D1.v
  simp only [letV]
  have e1 : twoZ addI ((zz (-5)).1, (zz (-5)).2) ((zz 3).1, (zz 3).2) = (zz (-2), 0) := t addI (-5) 3 (by decide) (by decide) (by decide)
  rw [e1]
  have e2 : twoZ mulI ((zz (-2), (0 : Int)).1.1, (zz (-2), (0 : Int)).1.2) ((zz 7).1, (zz 7).2) = (zz (-14), 0) := t mulI (-2) 7 (by decide) (by decide) (by decide)
  rw [e2]
  unfold gnomonlaw04_awake.D2.v
  have f14 : FrmZ ((zz (-14)).1, (zz (-14)).2) := f (-14) (by decide)
  have z14 : zi ((zz (-14)).1, (zz (-14)).2) = -14 := zi_zz (-14)
  have e3 : smaS ((zz (-14)).1, (zz (-14)).2) = (-14, 0) := by
    unfold smaS
    rw [if_pos f14, z14]; rfl
  simp only [letV, e3, z14]
  rw [show cmpZ (-14) 0 = -1 from rfl]
  simp only [decide_eq_true f14]; rfl
theorem halves_true : gnomonlaw04_halves.v = true := by
  have s : ∀ i : Int, i.natAbs < 18446744073709551616 → SmZ i := fun i h => sm_small (by omega)
  unfold gnomonlaw04_halves.v gnomonlaw04_halves.D1.v
  simp only [letV, DocOf_v]
  have e1 : quoZ flo ((zz (-7)).1, (zz (-7)).2) ((zz 2).1, (zz 2).2) = (zz (-4), 0) := by
    have := quo_zz (g := flo) (s (-7) (by decide)) (s 2 (by decide)) (by decide)
    rw [show flo (-7) 2 = -4 by decide, zlim_ok (s _ (by decide))] at this; exact this
  have e2 : shrZ nea ((zz 7).1, (zz 7).2) 1 = (zz 4, 0) := by
    have := shr_zz (g := nea) (s 7 (by decide)) 1
    rw [show nea 7 (2 ^ 1) = 4 by decide, zlim_ok (s _ (by decide))] at this; exact this
  have e3 : quoZ mo ((zz (-7)).1, (zz (-7)).2) ((zz 3).1, (zz 3).2) = (zz 2, 0) := by
    have := quo_zz (g := mo) (s (-7) (by decide)) (s 3 (by decide)) (by decide)
    rw [show mo (-7) 3 = 2 by decide, zlim_ok (s _ (by decide))] at this; exact this
  rw [e1, e2, e3]
  simp
theorem awake_hs {h : Hp} : HC gnomonlaw04_awake.id #[] h fun v h' => Keep h h' ∧ sBool h h' v true := by
  have := gnomonlaw04_awake.hv (h := h)
  rw [awake4_true] at this; exact this
theorem halves_hs {h : Hp} (tb : Tab h) : HC gnomonlaw04_halves.id #[] h fun v h' => Keep h h' ∧ sBool h h' v true := by
  have := gnomonlaw04_halves.hv tb
  rw [halves_true] at this; exact this
end Go.Proofs.YtpglfeeebnnkkaaDoor.G
