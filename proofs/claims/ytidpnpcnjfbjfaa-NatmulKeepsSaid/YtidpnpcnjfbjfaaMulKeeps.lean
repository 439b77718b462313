/- The law NatmulKeeps of the translation answers true. -/
import Derived.Test.YtidpnpcnjfbjfaaMulLists
import Derived.Test.YtidpnpcnjfbjfaaRef01m
import Derived.Test.YtidpnpcnjfbjfaaMulParted
import Derived.Test.YtidpnpcnjfbjfaaMulPows
import Derived.Test.YtidpnpcnjfbjfaaGvFresh
namespace Go.Proofs.Ytidpnpcnjfbjfaa.G
open Go.Gv
set_option linter.unusedVariables false
set_option maxRecDepth 100000
/-! ### what a call answers -/
def oneL (p : List Nat × Int) : List (List Nat) × Int := ([p.1], p.2)
def ansV (k : Int) (xs ys : List Nat) (n : Int) : List (List Nat) × Int :=
  if k = 1 then oneL (mulS xs ys) else if k = 2 then oneL (mulS xs xs) else if k = 3 then oneL (powS xs n)
  else if k = 4 then ([(partsS xs ys n).1, (partsS xs ys n).2.1, (partsS xs ys n).2.2.1], (partsS xs ys n).2.2.2) else oneL (prodS [xs, ys])
/-- A list of lists that was made here: the headers in the block q, each list in a block of its own, made between lo and hi. -/
structure LL (lo hi : Nat) (h : Hp) (q : Nat) (hs : List Sl) (lls : List (List Nat)) : Prop where
  blk : BlkE eSl h q hs
  fr : FreshL lo hi h hs lls
  loq : lo ≤ q
  hiq : hi ≤ q
  loh : lo ≤ hi
  n3 : lls.length ≤ 3
theorem FreshL.heads {lo hi : Nat} {h : Hp} {hs : List Sl} {lls : List (List Nat)} (f : FreshL lo hi h hs lls) : Heads h hs lls := ⟨f.len, fun i s xs e1 e2 => ⟨(f.at_ i s xs e1 e2).1, (f.at_ i s xs e1 e2).rd⟩⟩
section
variable {lo hi q r : Nat} {h h' : Hp} {hs : List Sl} {lls : List (List Nat)}
theorem LL.keep (x : LL lo hi h q hs lls) (k : Keep h h') : LL lo hi h' q hs lls := ⟨x.blk.keep k, x.fr.keep k, x.loq, x.hiq, x.loh, x.n3⟩
theorem LL.keepB (x : LL lo hi h q hs lls) (k : KeepB r h h') (hr : r < lo ∨ q < r) : LL lo hi h' q hs lls := by
  have := x.loq; have := x.hiq
  exact ⟨x.blk.keepB (by omega) k, x.fr.keepB (by omega) k, x.loq, x.hiq, x.loh, x.n3⟩
theorem LL.len (x : LL lo hi h q hs lls) : hs.length = lls.length := x.fr.len
theorem LL.rd (x : LL lo hi h q hs lls) : RdE eSl h (some ⟨q, 0, none⟩) lls.length hs := by
  have := x.len; have := x.n3
  exact x.blk.rd' (by show hs.length ≤ 11728124029610; omega) (by omega)
theorem LL.heads (x : LL lo hi h q hs lls) : Heads h hs lls := FreshL.heads x.fr
end
/-- The answer's lists, each in memory of its own. -/
def AnsLL (h0 h : Hp) (v : Value) (p : List (List Nat) × Int) : Prop := ∃ q hs m, v = .tuple #[.slice (some ⟨q, 0, none⟩) p.1.length p.1.length, .int .i64 p.2] ∧ LL h0.size m h q hs p.1
theorem AnsLL.elim {h0 h : Hp} {v : Value} {p : List (List Nat) × Int} {K : Option Addr → Nat → Nat → Int → Prop} (a : AnsLL h0 h v p) (g : ∀ q hs m, LL h0.size m h q hs p.1 → K (some ⟨q, 0, none⟩) p.1.length p.1.length p.2) :
    gTup v fun y => uncons y fun v1 y1 => gSlice v1 fun a l c => uncons y1 fun v2 y2 => gInt .i64 v2 fun x => unnil y2 (K a l c x) := by
  obtain ⟨q, hs, m, e, o⟩ := a
  subst e; exact g q hs m o
theorem AnsLL.from {h0 h1 h : Hp} {v : Value} {p : List (List Nat) × Int} (a : AnsLL h1 h v p) (k : h0.size ≤ h1.size) : AnsLL h0 h v p := by
  obtain ⟨q, hs, m, e, o⟩ := a
  exact ⟨q, hs, m, e, o.blk, o.fr.wide k (Nat.le_refl _), Nat.le_trans k o.loq, o.hiq, Nat.le_trans k o.loh, o.n3⟩
theorem Ans.elimF {h0 h : Hp} {v : Value} {p : List Nat × Int} {K : Option Addr → Nat → Nat → Int → Prop} (a : Ans h0 h v p) (g : ∀ a c, FreshL h0.size h.size h [(a, p.1.length, c)] [p.1] → K a p.1.length c p.2) :
    gTup v fun y => uncons y fun v1 y1 => gSlice v1 fun a l c => uncons y1 fun v2 y2 => gInt .i64 v2 fun x => unnil y2 (K a l c x) :=
  a.elimG fun a c r _ => g a c (FreshL.one (Own1.of_got r rfl (Nat.le_refl _) (Nat.le_refl _)))
theorem Ans4F.elim {lo : Nat} {h : Hp} {v : Value} {xs ys zs : List Nat} {e : Int} {K : Option Addr → Nat → Nat → Option Addr → Nat → Nat → Option Addr → Nat → Nat → Int → Prop} (a : Ans4F lo h v xs ys zs e)
    (g : ∀ a b d c1 c2 c3, FreshL lo h.size h [(a, xs.length, c1), (b, ys.length, c2), (d, zs.length, c3)] [xs, ys, zs] → K a xs.length c1 b ys.length c2 d zs.length c3 e) :
    gTup v fun y => uncons y fun v1 y1 => gSlice v1 fun a l c => uncons y1 fun v2 y2 => gSlice v2 fun b m c' => uncons y2 fun v3 y3 => gSlice v3 fun d n c'' => uncons y3 fun v4 y4 => gInt .i64 v4 fun z => unnil y4 (K a l c b m c' d n c'' z) := by
  obtain ⟨a, b, d, c1, c2, c3, e, f⟩ := a
  subst e; exact g a b d c1 c2 c3 f
/-- A box of headers. -/
theorem boxLL {h0 h : Hp} {e : TypeId} {hs : List Sl} {cs : List Value} {lls : List (List Nat)} {x : Int} (f : FreshL h0.size h.size h hs lls) (k0 : h0.size ≤ h.size) (h3 : lls.length ≤ 3) (hcs : cs = hs.map eSl.enc) {K : Addr → Hp → Prop}
    (g : ∀ h', Keep h h' → AnsLL h0 h' (.tuple #[.slice (some ⟨h.size, 0, none⟩) lls.length lls.length, .int .i64 x]) (lls, x) → K ⟨h.size, 0, none⟩ h') : boxK h e cs K :=
  boxE eSl hs hcs (fun _ _ => trivial) fun h' o k => g h' k ⟨h.size, hs, h.size, rfl, o, f.keep k, k0, Nat.le_refl _, k0, h3⟩
section
variable {h : Hp} {a b : Option Addr} {c d l m : Nat} {xs ys : List Nat} {k n : Int} {e : Option Addr} {f g : Nat}
theorem pair_ll (r : Rd h a c xs) (s : Rd h b d ys) (hx : xs.length ≤ 17592186043904) (hy : ys.length ≤ 17592186043904) {ty : TypeId} {K : Addr → Hp → Prop}
    (gk : ∀ h', Keep h h' → RdLL h' (some ⟨h.size, 0, none⟩) 2 [xs, ys] → K ⟨h.size, 0, none⟩ h') : boxK h ty [.slice a xs.length c, .slice b ys.length d] K := by
  refine boxE eSl [(a, xs.length, c), (b, ys.length, d)] rfl (fun _ _ => trivial) fun h' o k1 => gk h' k1 ?_
  have hd : Heads h' [(a, xs.length, c), (b, ys.length, d)] [xs, ys] := ((Heads.nil h').snoc (s := (a, xs.length, c)) rfl (r.keep k1)).snoc (s := (b, ys.length, d)) rfl (s.keep k1)
  refine hd.rdLL (o.rd' (c := 2) (show 2 ≤ 11728124029610 by decide) (Nat.le_refl 2)) (Nat.le_of_ble_eq_true rfl) fun x hx' => ?_
  simp at hx'
  rcases hx' with e | e <;> subst e <;> assumption
theorem ansV1 {k : Int} (xs ys : List Nat) (n : Int) (h : k = 1) : ansV k xs ys n = ([(mulS xs ys).1], (mulS xs ys).2) := by unfold ansV; rw [if_pos h]; rfl
theorem ansV2 {k : Int} (xs ys : List Nat) (n : Int) (h1 : k ≠ 1) (h : k = 2) : ansV k xs ys n = ([(mulS xs xs).1], (mulS xs xs).2) := by unfold ansV; rw [if_neg h1, if_pos h]; rfl
theorem ansV3 {k : Int} (xs ys : List Nat) (n : Int) (h1 : k ≠ 1) (h2 : k ≠ 2) (h : k = 3) : ansV k xs ys n = ([(powS xs n).1], (powS xs n).2) := by unfold ansV; rw [if_neg h1, if_neg h2, if_pos h]; rfl
theorem ansV4 {k : Int} (xs ys : List Nat) (n : Int) (h1 : k ≠ 1) (h2 : k ≠ 2) (h3 : k ≠ 3) (h : k = 4) : ansV k xs ys n = ([(partsS xs ys n).1, (partsS xs ys n).2.1, (partsS xs ys n).2.2.1], (partsS xs ys n).2.2.2) := by unfold ansV; rw [if_neg h1, if_neg h2, if_neg h3, if_pos h]
theorem ansV5 {k : Int} (xs ys : List Nat) (n : Int) (h1 : k ≠ 1) (h2 : k ≠ 2) (h3 : k ≠ 3) (h : k ≠ 4) : ansV k xs ys n = ([(prodS [xs, ys]).1], (prodS [xs, ys]).2) := by unfold ansV; rw [if_neg h1, if_neg h2, if_neg h3, if_neg h]; rfl
theorem answers_spec (r : Rd h a c xs) (s : Rd h b d ys) (hl : l = xs.length) (hm : m = ys.length) (hn : In .i64 n) (hx : xs.length ≤ 17592186043904) (hy : ys.length ≤ 17592186043904) :
    HC gnomonlaw02_answers.id #[.agg #[.int .i64 k, .slice a l c, .slice b m d, .int .i64 n, .slice e f g]] h fun v h' => Keep h h' ∧ AnsLL h h' v (ansV k xs ys n) := by
  subst hl; subst hm
  refine gnomonlaw02_answers.ok ?_
  unfold gnomonlaw02_answers.t gnomonlaw02_answers.D1.t
  refine boxV fun h1 o1 k1 => ?_
  have r1 := r.keep k1
  have s1 := s.keep k1
  refine ldI o1 rfl ?_
  refine c_eq (fun hk => ?_) fun hk1 => ?_
  · rw [ansV1 xs ys n hk]
    refine ldS o1 rfl ?_
    refine ldS o1 rfl ?_
    refine hc_intro (Mul_spec r1 s1 rfl rfl) fun v h2 ⟨k2, an⟩ => ?_
    refine Ans.elimF an fun a2 c2 f2 => ?_
    exact boxLL (h0 := h1) f2 k2.le (Nat.le_of_ble_eq_true rfl) rfl fun h3 k3 A => ⟨k1.trans (k2.trans k3), AnsLL.from A k1.le⟩
  refine c_eq (fun hk => ?_) fun hk2 => ?_
  · rw [ansV2 xs ys n hk1 hk]
    refine ldS o1 rfl ?_
    refine hc_intro (Sqr_spec r1 rfl) fun v h2 ⟨k2, an⟩ => ?_
    refine Ans.elimF an fun a2 c2 f2 => ?_
    exact boxLL (h0 := h1) f2 k2.le (Nat.le_of_ble_eq_true rfl) rfl fun h3 k3 A => ⟨k1.trans (k2.trans k3), AnsLL.from A k1.le⟩
  refine c_eq (fun hk => ?_) fun hk3 => ?_
  · rw [ansV3 xs ys n hk1 hk2 hk]
    refine ldS o1 rfl ?_
    refine ldI o1 rfl ?_
    refine hc_intro (Pow_spec r1 rfl hn) fun v h2 ⟨k2, an⟩ => ?_
    refine Ans.elimF an fun a2 c2 f2 => ?_
    exact boxLL (h0 := h1) f2 k2.le (Nat.le_of_ble_eq_true rfl) rfl fun h3 k3 A => ⟨k1.trans (k2.trans k3), AnsLL.from A k1.le⟩
  refine c_eq (fun hk => ?_) fun hk4 => ?_
  · rw [ansV4 xs ys n hk1 hk2 hk3 hk]
    refine ldS o1 rfl ?_
    refine ldS o1 rfl ?_
    refine ldI o1 rfl ?_
    refine hc_intro (Parts_fullF r1 s1 rfl rfl) fun v h2 ⟨k2, an⟩ => ?_
    refine Ans4F.elim an fun a2 b2 d2 c1 c2 c3 f2 => ?_
    exact boxLL (h0 := h1) f2 k2.le (Nat.le_of_ble_eq_true rfl) rfl fun h3 k3 A => ⟨k1.trans (k2.trans k3), AnsLL.from A k1.le⟩
  · rw [ansV5 xs ys n hk1 hk2 hk3 hk4]
    refine ldS o1 rfl ?_
    refine ldS o1 rfl ?_
    refine pair_ll r1 s1 hx hy fun h2 k2 rl => ?_
    refine hc_intro (Product_spec rl rfl) fun v h3 ⟨k3, an⟩ => ?_
    refine Ans.elimF an fun a2 c2 f2 => ?_
    exact boxLL (h0 := h2) f2 k3.le (Nat.le_of_ble_eq_true rfl) rfl fun h4 k4 A => ⟨k1.trans (k2.trans (k3.trans k4)), AnsLL.from A (k1.trans k2).le⟩
theorem ldoc_spec (r : Rd h a c xs) (s : Rd h b d ys) (hl : l = xs.length) (hm : m = ys.length) (hn : In .i64 n) (hx : xs.length ≤ 17592186043904) (hy : ys.length ≤ 17592186043904) :
    HC gnomonlaw02_doc.id #[.agg #[.int .i64 k, .slice a l c, .slice b m d, .int .i64 n, .slice e f g]] h fun v h' => Keep h h' ∧ AnsLL h h' v (ansV k xs ys n) := by
  subst hl; subst hm
  refine gnomonlaw02_doc.ok ?_
  unfold gnomonlaw02_doc.t gnomonlaw02_doc.D1.t
  refine boxV fun h1 o1 k1 => ?_
  have r1 := r.keep k1
  have s1 := s.keep k1
  refine ldI o1 rfl ?_
  refine c_eq (fun hk => ?_) fun hk1 => ?_
  · rw [ansV1 xs ys n hk]
    refine ldS o1 rfl ?_
    refine ldS o1 rfl ?_
    refine hc_intro (DocMul_spec r1 s1 rfl rfl) fun v h2 ⟨k2, an⟩ => ?_
    refine Ans.elimF an fun a2 c2 f2 => ?_
    exact boxLL (h0 := h1) f2 k2.le (Nat.le_of_ble_eq_true rfl) rfl fun h3 k3 A => ⟨k1.trans (k2.trans k3), AnsLL.from A k1.le⟩
  refine c_eq (fun hk => ?_) fun hk2 => ?_
  · rw [ansV2 xs ys n hk1 hk]
    refine ldS o1 rfl ?_
    refine hc_intro (DocSqr_spec r1 rfl) fun v h2 ⟨k2, an⟩ => ?_
    refine Ans.elimF an fun a2 c2 f2 => ?_
    exact boxLL (h0 := h1) f2 k2.le (Nat.le_of_ble_eq_true rfl) rfl fun h3 k3 A => ⟨k1.trans (k2.trans k3), AnsLL.from A k1.le⟩
  refine c_eq (fun hk => ?_) fun hk3 => ?_
  · rw [ansV3 xs ys n hk1 hk2 hk]
    refine ldS o1 rfl ?_
    refine ldI o1 rfl ?_
    refine hc_intro (DocPow_spec r1 rfl hn) fun v h2 ⟨k2, an⟩ => ?_
    refine Ans.elimF an fun a2 c2 f2 => ?_
    exact boxLL (h0 := h1) f2 k2.le (Nat.le_of_ble_eq_true rfl) rfl fun h3 k3 A => ⟨k1.trans (k2.trans k3), AnsLL.from A k1.le⟩
  refine c_eq (fun hk => ?_) fun hk4 => ?_
  · rw [ansV4 xs ys n hk1 hk2 hk3 hk]
    refine ldS o1 rfl ?_
    refine ldS o1 rfl ?_
    refine ldI o1 rfl ?_
    refine hc_intro (DocParts_specF r1 s1 rfl rfl) fun v h2 ⟨k2, an⟩ => ?_
    refine Ans4F.elim an fun a2 b2 d2 c1 c2 c3 f2 => ?_
    exact boxLL (h0 := h1) f2 k2.le (Nat.le_of_ble_eq_true rfl) rfl fun h3 k3 A => ⟨k1.trans (k2.trans k3), AnsLL.from A k1.le⟩
  · rw [ansV5 xs ys n hk1 hk2 hk3 hk4]
    refine ldS o1 rfl ?_
    refine ldS o1 rfl ?_
    refine pair_ll r1 s1 hx hy fun h2 k2 rl => ?_
    refine hc_intro (DocProduct_spec rl rfl) fun v h3 ⟨k3, an⟩ => ?_
    refine Ans.elimF an fun a2 c2 f2 => ?_
    exact boxLL (h0 := h2) f2 k3.le (Nat.le_of_ble_eq_true rfl) rfl fun h4 k4 A => ⟨k1.trans (k2.trans (k3.trans k4)), AnsLL.from A (k1.trans k2).le⟩
theorem ltwin_spec (r : Rd h a c xs) (s : Rd h b d ys) (hl : l = xs.length) (hm : m = ys.length) :
    HC gnomonlaw02_twin.id #[.agg #[.int .i64 k, .slice a l c, .slice b m d, .int .i64 n, .slice e f g]] h fun v h' => Keep h h' ∧ ∃ a' c' b' d', v = .agg #[.int .i64 k, .slice a' xs.length c', .slice b' ys.length d', .int .i64 n, .slice e f g] ∧ Rd h' a' c' xs ∧ Rd h' b' d' ys := by
  subst hl; subst hm
  refine gnomonlaw02_twin.ok ?_
  unfold gnomonlaw02_twin.t gnomonlaw02_twin.D1.t
  refine boxV fun h1 o1 k1 => ?_
  have lt1 := o1.lt
  refine boxV fun h2 o2 k2 => ?_
  have lt2 := o2.lt
  have k02 := k1.trans k2
  have o1 := o1.keep k2
  refine ldS o1 rfl ?_
  refine hc_intro (Twin_spec (r.keep k02) rfl) fun v h3 ⟨k3, an⟩ => ?_
  refine an.elimG fun a3 c3 g3 => ?_
  have k03 := k02.trans k3
  refine stV (o1.keep k3) (Nat.le_of_ble_eq_true rfl) fun h4 o4 k4 => ?_
  have o2 := (o2.keep k3).keepB (by omega) k4
  have g3 := g3.keepB (by omega) k4
  have k04 := k4.keep k03 (Nat.le_refl _)
  refine ldS o4 rfl ?_
  refine hc_intro (Twin_spec (s.keep k04) rfl) fun v h5 ⟨k5, an⟩ => ?_
  refine an.elimG fun a5 c5 g5 => ?_
  have k05 := k04.trans k5
  have z4 := Nat.le_trans k3.le k4.le
  refine stV (o4.keep k5) (Nat.le_of_ble_eq_true rfl) fun h6 o6 k6 => ?_
  have o2 := (o2.keep k5).keepB (by omega) k6
  have g3 := (g3.keep k5).keepB (by omega) k6
  have g5 := g5.keepB (by omega) k6
  have k06 := k6.keep k05 (Nat.le_refl _)
  refine ldI o6 rfl ?_
  refine ldS o6 rfl ?_
  refine ldS o6 rfl ?_
  refine ldI o6 rfl ?_
  refine ldS o6 rfl ?_
  refine st5 o2 rfl fun h7 o7 k7 => ?_
  refine ldI o7 rfl ?_
  refine ldS o7 rfl ?_
  refine ldS o7 rfl ?_
  refine ldI o7 rfl ?_
  refine ldS o7 rfl ?_
  exact ⟨k7.keep k06 (by omega), a3, c3, a5, c5, rfl, (g3.keepB (by omega) k7).rd.to64, (g5.keepB (by omega) k7).rd.to64⟩
end
theorem llike_spec {h : Hp} {a b : Option Addr} {c d l m : Nat} {hs1 hs2 : List Sl} {lls : List (List Nat)} (r1 : RdE eSl h a c hs1) (o1 : Heads h hs1 lls) (r2 : RdE eSl h b d hs2) (o2 : Heads h hs2 lls) (hl : l = lls.length) (hm : m = lls.length) (h3 : lls.length ≤ 3) :
    HC gnomonlaw02_like.id #[.slice a l c, .slice b m d] h fun v h' => h' = h ∧ v = .bool true := by
  subst hl; subst hm
  refine gnomonlaw02_like.ok ?_
  unfold gnomonlaw02_like.t gnomonlaw02_like.D1.t
  refine c_ne (fun hh => absurd rfl hh) fun _ => ?_
  unfold gnomonlaw02_like.D3.t
  refine ⟨lls.length + 1, ?_⟩
  have go : ∀ (k i : Nat), i + k = lls.length → gnomonlaw02_like.L4.t (fun v h' => h' = h ∧ v = .bool true) (k + 1) a lls.length c b lls.length d (i : Int) h := by
    intro k
    induction k with
    | zero =>
      intro i hik
      unfold gnomonlaw02_like.L4.t gnomonlaw02_like.D5.t
      exact c_dec (fun hb => absurd hb (by omega)) fun _ => ⟨rfl, rfl⟩
    | succ k ih =>
      intro i hik
      unfold gnomonlaw02_like.L4.t gnomonlaw02_like.D5.t
      refine c_dec (fun _ => ?_) fun hb => absurd (by omega) hb
      obtain ⟨x, hx⟩ : ∃ x, lls[i]? = some x := ⟨lls[i]'(by omega), by simp⟩
      refine heads_at r1 o1 o1.len.symm rfl hx fun a1 c1 q1 => ?_
      refine heads_at r2 o2 o2.len.symm rfl hx fun a2 c2 q2 => ?_
      refine Same_intro q1 q2 rfl rfl ?_
      refine c_not (fun hh => absurd hh (by simp)) fun _ => ?_
      refine k_i64 ((i + 1 : Nat) : Int) (by omega) (by omega) (by omega) ?_
      exact ih (i + 1) (by omega)
  exact go lls.length 0 (by omega)
theorem LL.like {lo hi lo2 hi2 q r : Nat} {h : Hp} {hs hs2 : List Sl} {lls : List (List Nat)} (x : LL lo hi h q hs lls) (y : LL lo2 hi2 h r hs2 lls) {K : Bool → Hp → Prop} (g : K true h) :
    HC gnomonlaw02_like.id #[.slice (some ⟨q, 0, none⟩) lls.length lls.length, .slice (some ⟨r, 0, none⟩) lls.length lls.length] h fun v h' => gBool v fun b => K b h' :=
  hc_intro (llike_spec x.rd x.heads y.rd y.heads rfl rfl x.n3) fun v h' ⟨e1, e2⟩ => by subst e1; subst e2; exact gBool_intro rfl g
/-! ### lists that lie apart, one group after the other -/
def SepN (hB h : Hp) (m : Nat) (hs : List Sl) : Prop := Sep hB h hs ∧ ∀ s ∈ hs, ∀ p, s.1 = some p → p.block < m
theorem SepN.wide {hB h : Hp} {m m' : Nat} {hs : List Sl} (S : SepN hB h m hs) (k : m ≤ m') : SepN hB h m' hs := ⟨S.1, fun s hs' p e => Nat.lt_of_lt_of_le (S.2 s hs' p e) k⟩
theorem SepN.keep {hB h h' : Hp} {m : Nat} {hs : List Sl} (S : SepN hB h m hs) (k : Keep h h') : SepN hB h' m hs :=
  ⟨⟨fun s hs' => let ⟨h1, h2, h3⟩ := S.1.one s hs'; ⟨h1, h2, h3.imp id fun ⟨b, zs, e1, e2, o, e3⟩ => ⟨b, zs, e1, e2, o.keep k, e3⟩⟩, S.1.two⟩, S.2⟩
theorem SepN.app {hB h : Hp} {lo hi : Nat} {hs hs2 : List Sl} {lls : List (List Nat)} (S : SepN hB h lo hs) (f : FreshL lo hi h hs2 lls) (hlo : hB.size ≤ lo) (hlh : lo ≤ hi) (sm : ∀ x ∈ lls, x.length ≤ 17592186044336) : SepN hB h hi (hs ++ hs2) := by
  refine ⟨⟨fun s hs' => ?_, fun i j s t p q e1 e2 f1 f2 e => ?_⟩, fun s hs' p e => ?_⟩
  · rcases List.mem_append.mp hs' with h1 | h1
    · exact S.1.one s h1
    · obtain ⟨i, hi'⟩ := List.getElem?_of_mem h1
      have hl := (List.getElem?_eq_some_iff.mp hi').1
      have hx : lls[i]? = some (lls[i]'(by rw [← f.len]; exact hl)) := List.getElem?_eq_getElem _
      obtain ⟨e1, e2, e3, e4⟩ := f.at_ i s _ hi' hx
      have := sm _ (List.mem_of_getElem? hx)
      refine ⟨by omega, by omega, ?_⟩
      rcases e4 with ⟨_, e5, e6⟩ | ⟨b, rest, e5, e6, _, o, e7⟩
      · exact Or.inl ⟨e5, e6⟩
      · exact Or.inr ⟨b, _, e5, Nat.le_trans hlo e6, o, e7⟩
  · have old : ∀ (i : Nat) (s : Sl) (p : Addr), (hs ++ hs2)[i]? = some s → s.1 = some p → (i < hs.length ∧ hs[i]? = some s ∧ p.block < lo) ∨ (hs.length ≤ i ∧ hs2[i - hs.length]? = some s ∧ lo ≤ p.block) := by
      intro i s p e1 f1
      rcases Nat.lt_or_ge i hs.length with hi' | hi'
      · rw [List.getElem?_append_left hi'] at e1
        exact Or.inl ⟨hi', e1, S.2 s (List.mem_of_getElem? e1) p f1⟩
      · rw [List.getElem?_append_right hi'] at e1
        exact Or.inr ⟨hi', e1, (f.block s (List.mem_of_getElem? e1) p f1).1⟩
    rcases old i s p e1 f1 with ⟨a1, a2, a3⟩ | ⟨a1, a2, a3⟩ <;> rcases old j t q e2 f2 with ⟨b1, b2, b3⟩ | ⟨b1, b2, b3⟩
    · exact S.1.two i j s t p q a2 b2 f1 f2 e
    · omega
    · omega
    · have := f.two _ _ s t p q a2 b2 f1 f2 e
      omega
  · rcases List.mem_append.mp hs' with h1 | h1
    · exact Nat.lt_of_lt_of_le (S.2 s h1 p e) hlh
    · exact (f.block s h1 p e).2
theorem lim_small (n : Nat) : (lim n).1.length ≤ 8192 := by
  unfold lim; split
  · assumption
  · simp
theorem ansV_small (k : Int) (xs ys : List Nat) (n : Int) : ∀ x ∈ (ansV k xs ys n).1, x.length ≤ 17592186044336 := by
  have hm : ∀ a b : List Nat, (mulS a b).1.length ≤ 8192 := fun a b => by unfold mulS; split; exact lim_small _; simp
  have hp : (powS xs n).1.length ≤ 8192 := by unfold powS; split; simp; split; exact lim_small _; simp
  have hr : (prodS [xs, ys]).1.length ≤ 8192 := by unfold prodS; split; exact lim_small _; simp
  have hq : (partsS xs ys n).1.length ≤ 8192 ∧ (partsS xs ys n).2.1.length ≤ 8192 ∧ (partsS xs ys n).2.2.1.length ≤ 8192 := by
    unfold partsS
    split
    · simp
    · split
      · unfold partsV
        split
        · rename_i hh; exact ⟨lim_len hh.1, lim_len hh.2.1, lim_len hh.2.2⟩
        · simp
      · simp
  intro x hx
  unfold ansV at hx
  have h1 := hm xs ys; have h2 := hm xs xs
  split at hx
  · simp [oneL] at hx; subst hx; omega
  · split at hx
    · simp [oneL] at hx; subst hx; omega
    · split at hx
      · simp [oneL] at hx; subst hx; omega
      · split at hx
        · simp at hx; rcases hx with e | e | e <;> subst e <;> omega
        · simp [oneL] at hx; subst hx; omega
theorem u64_nat (y : Int) : IntKind.u64.wrap y = (((IntKind.u64.wrap y).toNat : Nat) : Int) := by
  have hin := in_u64.mp (in_wrap .u64 y); omega
theorem u64_lt (y : Int) : (IntKind.u64.wrap y).toNat < 18446744073709551616 := by
  have hin := in_u64.mp (in_wrap .u64 y); omega
abbrev KpR (h0 : Hp) : Rt := fun v h' => Keep h0 h' ∧ v = .bool true
/-! ### the parts of keeps, the last one first -/
theorem keeps_L8 {h0 hX : Hp} {rows base : List Sl} {hss : List (List Sl)} {qr : Nat} (k0 : Keep h0 hX) (hr : rows.length = 5) (hlen : hss.length = 5)
    (all : ∀ (i : Nat) s hs, rows[i]? = some s → hss[i]? = some hs → s.2.1 = hs.length ∧ hs.length ≤ 3 ∧ RdE eSl hX s.1 s.2.2 hs) (hb : base.length = 2) (S : SepN h0 hX hX.size (base ++ hss.flatten)) :
    ∀ (k i : Nat) (h : Hp) (a : Option Addr) (c : Nat), i + k = 5 → Keep hX h → RdE eSl h (some ⟨qr, 0, none⟩) 5 rows → qr < h.size → (∀ p, a = some p → p.block ≠ qr) → GotE eSl hX h a c (base ++ (hss.take i).flatten) → (hss.take i).flatten.length ≤ 3 * i →
      gnomonlaw02_keeps.L8.t (KpR h0) (k + 1) a (base ++ (hss.take i).flatten).length c (some ⟨qr, 0, none⟩) 5 5 (5 : Int) (i : Int) h := by
  intro k
  induction k with
  | zero =>
    intro i h a c hik kX rr hq ha g hl
    unfold gnomonlaw02_keeps.L8.t gnomonlaw02_keeps.D9.t
    refine c_dec (fun hb => absurd hb (by omega)) fun _ => ?_
    unfold gnomonlaw02_keeps.D6.t
    have ei : i = 5 := by omega
    subst ei
    rw [List.take_of_length_le (by omega)] at g hl ⊢
    refine hc_intro (Apart_spec (k0.trans kX) g.rd rfl (by rw [List.length_append]; omega) (S.keep kX).1 fun p ep => ?_) fun v h' ⟨e, k'⟩ => ?_
    · rcases g.here with ⟨_, e, _⟩ | ⟨b, rest, e1, e2, o, e3⟩
      · rw [e] at ep; cases ep
      · rw [e1] at ep; cases ep
        refine ⟨o.lt, fun s hs q eq => ?_⟩
        have := S.2 s hs q eq
        show q.block ≠ b
        omega
    · subst e
      exact gBool_intro rfl ⟨k', rfl⟩
  | succ k ih =>
    intro i h a c hik kX rr hq ha g hl
    unfold gnomonlaw02_keeps.L8.t gnomonlaw02_keeps.D9.t
    refine c_dec (fun _ => ?_) fun hb => absurd (by omega) hb
    obtain ⟨s, hs⟩ : ∃ s, rows[i]? = some s := ⟨rows[i]'(by omega), by simp⟩
    obtain ⟨t, ht⟩ : ∃ t, hss[i]? = some t := ⟨hss[i]'(by omega), by simp⟩
    obtain ⟨e1, e2, r1⟩ := all i s t hs ht
    refine atSl rr rfl hr.symm hs ?_
    have hlen2 : (base ++ (hss.take i).flatten).length ≤ 17 := by rw [List.length_append]; omega
    refine apE3 (h0 := hX) g kX.le (r1.keep kX) rfl e1 rfl ((none, 0, 0) : Sl) rfl trivial 24 rfl (by decide) (by show _ ≤ 11728124029610; omega) (fun _ => by omega) fun a' c' h' g' kx hc hw => ?_
    refine k_i64 ((i + 1 : Nat) : Int) (by omega) (by omega) (by omega) ?_
    have ef : (hss.take (i + 1)).flatten = (hss.take i).flatten ++ t := by rw [List.take_add_one, ht]; simp
    have eb : (base ++ (hss.take i).flatten) ++ t = base ++ (hss.take (i + 1)).flatten := by rw [ef, List.append_assoc]
    have el : (base ++ (hss.take i).flatten).length + t.length = (base ++ (hss.take (i + 1)).flatten).length := by rw [← eb]; simp only [List.length_append]
    rw [el]
    have hq' : qr < h'.size := Nat.lt_of_lt_of_le hq kx.le
    refine ih (i + 1) h' a' c' (by omega) (kx.keep kX (GotE.offs g)) ?_ hq' ?_ (by rw [← eb]; exact g') (by rw [ef, List.length_append]; omega)
    · refine ⟨rr.len, rr.cap, rr.ok, fun j x hx => ?_⟩
      obtain ⟨p, ep, gp⟩ := rr.at_ j x hx
      refine ⟨p, ep, ?_⟩
      have epb : p.block = qr := by cases ep; rfl
      have e9 : h'[(p.add j).block]? = h[(p.add j).block]? := by rw [add_block, epb]; exact kx.pre qr hq (fun p' e' => ha p' e')
      rw [cellH_congr e9]; exact gp
    · intro p ep
      rcases hw with e | ⟨b, e, hb'⟩
      · rw [e] at ep; exact ha p ep
      · rw [e] at ep; cases ep; show b ≠ qr; omega
theorem keeps_D4 {h0 h : Hp} {A B qw qu q1 q2 q3 q4 qz q5 lw mw lu mu l1 m1 l2 m2 l3 m3 l4 m4 lz mz l5 m5 : Nat} {hsw hsu hs1 hs2 hs3 hs4 hsz hs5 : List Sl} {V U L : List (List Nat)} {za zb : List Nat} {la ca lb cb : Nat}
    (k0 : Keep h0 h) (hA : h0.size ≤ A) (hAB : A < B) (oA : Own h A za) (oB : Own h B zb) (sA : za.length ≤ 17592186044336) (sB : zb.length ≤ 17592186044336) (hla : la = za.length) (hca : ca = za.length) (hlb : lb = zb.length) (hcb : cb = zb.length)
    (w : LL lw mw h qw hsw V) (u : LL lu mu h qu hsu U) (x1 : LL l1 m1 h q1 hs1 V) (x2 : LL l2 m2 h q2 hs2 V) (x3 : LL l3 m3 h q3 hs3 U) (x4 : LL l4 m4 h q4 hs4 V) (z : LL lz mz h qz hsz L) (x5 : LL l5 m5 h q5 hs5 L)
    (ow : qw < A) (ou : qu < A) (o1 : B < l1) (o2 : m1 ≤ l2) (o3 : m2 ≤ l3) (o4 : m3 ≤ l4) (o5 : m4 ≤ l5) (oz : B < lz) (sV : ∀ x ∈ V, x.length ≤ 17592186044336) (sU : ∀ x ∈ U, x.length ≤ 17592186044336) (sL : ∀ x ∈ L, x.length ≤ 17592186044336) :
    gnomonlaw02_keeps.D4.t (KpR h0) (some ⟨qw, 0, none⟩) V.length V.length (some ⟨qu, 0, none⟩) U.length U.length (some ⟨A, 0, none⟩) la ca (some ⟨B, 0, none⟩) lb cb (some ⟨q1, 0, none⟩) V.length V.length (some ⟨q2, 0, none⟩) V.length V.length (some ⟨q3, 0, none⟩) U.length U.length (some ⟨q4, 0, none⟩) V.length V.length (some ⟨qz, 0, none⟩) L.length L.length (some ⟨q5, 0, none⟩) L.length L.length h := by
  subst hla; subst hca; subst hlb; subst hcb
  have d1 := x1.loh; have d2 := x2.loh; have d3 := x3.loh; have d4 := x4.loh; have d5 := x5.loh
  unfold gnomonlaw02_keeps.D4.t
  refine hc_intro (Over_spec oA rfl) fun v h1 ⟨ev, kA, wa, oA1, lwa⟩ => ?_
  subst ev
  refine gTup_intro rfl (unnil_intro ?_)
  refine hc_intro (Over_spec (oB.keepB (by omega) kA) rfl) fun v h2 ⟨ev, kB, wb, oB2, lwb⟩ => ?_
  subst ev
  refine gTup_intro rfl (unnil_intro ?_)
  have w := (w.keepB kA (by omega)).keepB kB (by omega)
  have u := (u.keepB kA (by omega)).keepB kB (by omega)
  have x1 := (x1.keepB kA (by omega)).keepB kB (by omega)
  have x2 := (x2.keepB kA (by omega)).keepB kB (by omega)
  have x3 := (x3.keepB kA (by omega)).keepB kB (by omega)
  have x4 := (x4.keepB kA (by omega)).keepB kB (by omega)
  have x5 := (x5.keepB kA (by omega)).keepB kB (by omega)
  have z := (z.keepB kA (by omega)).keepB kB (by omega)
  have oA2 : Own h2 A wa := oA1.keepB (by omega) kB
  have k02 : Keep h0 h2 := kB.keep (kA.keep k0 hA) (by omega)
  refine x1.like w ?_
  refine c_not (fun hh => absurd hh (by simp)) fun _ => ?_
  refine x2.like w ?_
  refine c_not (fun hh => absurd hh (by simp)) fun _ => ?_
  refine x3.like u ?_
  refine c_not (fun hh => absurd hh (by simp)) fun _ => ?_
  refine x4.like w ?_
  refine c_not (fun hh => absurd hh (by simp)) fun _ => ?_
  refine x5.like z ?_
  refine c_not (fun hh => absurd hh (by simp)) fun _ => ?_
  have S0 : SepN h0 h2 (B + 1) [((some ⟨A, 0, none⟩, za.length, za.length) : Sl), (some ⟨B, 0, none⟩, zb.length, zb.length)] := by
    refine ⟨⟨fun s hs => ?_, fun i j s t p q e1 e2 f1 f2 e => ?_⟩, fun s hs p e => ?_⟩
    · simp at hs
      rcases hs with e | e <;> subst e
      · exact ⟨Nat.le_refl _, sA, Or.inr ⟨A, wa, rfl, hA, oA2.toE, by show za.length ≤ wa.length; omega⟩⟩
      · exact ⟨Nat.le_refl _, sB, Or.inr ⟨B, wb, rfl, by omega, oB2.toE, by show zb.length ≤ wb.length; omega⟩⟩
    · match i, j with
      | 0, 0 | 1, 1 => rfl
      | 0, 1 => simp at e1 e2; subst e1; subst e2; cases f1; cases f2; have e : A = B := e; omega
      | 1, 0 => simp at e1 e2; subst e1; subst e2; cases f1; cases f2; have e : B = A := e; omega
      | i + 2, _ => simp at e1
      | _, j + 2 => simp at e2
    · simp at hs
      rcases hs with e1 | e1 <;> subst e1 <;> cases e
      · show A < B + 1; omega
      · show B < B + 1; omega
  have hh0 := hA
  have S1 := (S0.wide (show B + 1 ≤ l1 by omega)).app x1.fr (by omega) d1 sV
  have S2 := (S1.wide o2).app x2.fr (by omega) d2 sV
  have S3 := (S2.wide o3).app x3.fr (by omega) d3 sU
  have S4 := (S3.wide o4).app x4.fr (by omega) d4 sV
  have S5 := (S4.wide o5).app x5.fr (by omega) d5 sL
  have e5 : m5 ≤ h2.size := by have := x5.hiq; have := x5.blk.lt; omega
  have S6 := S5.wide e5
  unfold gnomonlaw02_keeps.D5.t
  refine boxE eSl [((some ⟨A, 0, none⟩, za.length, za.length) : Sl), (some ⟨B, 0, none⟩, zb.length, zb.length)] rfl (fun _ _ => trivial) fun h3 o3' k3 => ?_
  unfold gnomonlaw02_keeps.D7.t
  refine boxE eSl [((some ⟨q1, 0, none⟩, V.length, V.length) : Sl), (some ⟨q2, 0, none⟩, V.length, V.length), (some ⟨q3, 0, none⟩, U.length, U.length), (some ⟨q4, 0, none⟩, V.length, V.length), (some ⟨q5, 0, none⟩, L.length, L.length)] rfl (fun _ _ => trivial) fun h4 o4' k4 => ?_
  have lt3 := o3'.lt
  refine ⟨5 + 1, ?_⟩
  have := keeps_L8 (h0 := h0) (hX := h2) (qr := h3.size) (base := [((some ⟨A, 0, none⟩, za.length, za.length) : Sl), (some ⟨B, 0, none⟩, zb.length, zb.length)]) (hss := [hs1, hs2, hs3, hs4, hs5]) k02 (rows := [((some ⟨q1, 0, none⟩, V.length, V.length) : Sl), (some ⟨q2, 0, none⟩, V.length, V.length), (some ⟨q3, 0, none⟩, U.length, U.length), (some ⟨q4, 0, none⟩, V.length, V.length), (some ⟨q5, 0, none⟩, L.length, L.length)]) rfl rfl ?_ rfl ?_ 5 0 h4 (some ⟨h2.size, 0, none⟩) 2 (by omega) (k3.trans k4) (o4'.rd' (c := 5) (show 5 ≤ 11728124029610 by decide) (Nat.le_refl 5)) o4'.lt ?_ ?_ (by simp)
  · exact this
  · intro i s t e1 e2
    have f1 := x1.len; have f2 := x2.len; have f3 := x3.len; have f4 := x4.len; have f5 := x5.len
    have g1 := x1.n3; have g2 := x2.n3; have g3 := x3.n3; have g4 := x4.n3; have g5 := x5.n3
    match i with
    | 0 => simp at e1 e2; subst e1; subst e2; exact ⟨by show V.length = _; omega, by omega, x1.rd⟩
    | 1 => simp at e1 e2; subst e1; subst e2; exact ⟨by show V.length = _; omega, by omega, x2.rd⟩
    | 2 => simp at e1 e2; subst e1; subst e2; exact ⟨by show U.length = _; omega, by omega, x3.rd⟩
    | 3 => simp at e1 e2; subst e1; subst e2; exact ⟨by show V.length = _; omega, by omega, x4.rd⟩
    | 4 => simp at e1 e2; subst e1; subst e2; exact ⟨by show L.length = _; omega, by omega, x5.rd⟩
    | i + 5 => simp at e1
  · simpa [List.append_assoc] using S6
  · intro p ep; cases ep; show h2.size ≠ h3.size; omega
  · have := (o3'.keep k4).got' (h0 := h2) (c := 2) (Nat.le_refl _) (show 2 ≤ 11728124029610 by decide) rfl
    simpa using this
theorem keeps_L13 {R : Rt} {a5 a7 a9 a10 a12 a14 a16 a18 a20 : Option Addr} {l5 c5 l7 c7 l9 c9 l10 c10 l12 c12 l14 c14 l16 c16 l18 c18 l20 c20 c11 : Nat} {q13 : Addr} {B n : Nat} {h : Hp} (hn : n ≤ 17592186043904)
    (g : ∀ h' ws, ws.length = n → Mine h' B ws → KeepB B h h' → gnomonlaw02_keeps.D3.t R a5 l5 c5 a7 l7 c7 a9 l9 c9 a10 l10 c10 (some ⟨B, 0, none⟩) n c11 a12 l12 c12 q13 a14 l14 c14 a16 l16 c16 a18 l18 c18 a20 l20 c20 h') :
    ∀ (k i : Nat) (h' : Hp) (ws : List Nat), i + k = n → ws.length = n → Mine h' B ws → KeepB B h h' → gnomonlaw02_keeps.L13.t R (k + 1) a5 l5 c5 a7 l7 c7 a9 l9 c9 a10 l10 c10 (some ⟨B, 0, none⟩) n c11 a12 l12 c12 q13 a14 l14 c14 a16 l16 c16 a18 l18 c18 a20 l20 c20 (i : Int) h' := by
  intro k
  induction k with
  | zero =>
    intro i h' ws hik hw o kp
    unfold gnomonlaw02_keeps.L13.t gnomonlaw02_keeps.D14.t
    exact c_dec (fun hb => absurd hb (by omega)) fun _ => g h' ws hw o kp
  | succ k ih =>
    intro i h' ws hik hw o kp
    unfold gnomonlaw02_keeps.L13.t gnomonlaw02_keeps.D14.t
    refine c_dec (fun _ => ?_) fun hb => absurd (by omega) hb
    refine at_intro (o.rd (c := n) (by omega)) (j := i) rfl hw.symm (by omega) ?_
    refine ⟨by decide, ⟨⟨?_⟩⟩⟩
    refine mine_put o (j := i) rfl hw.symm (by omega) (u64_nat _) (u64_lt _) fun o2 k2 => ?_
    refine k_i64 ((i + 1 : Nat) : Int) (by omega) (by omega) (by omega) ?_
    exact ih (i + 1) _ _ (by omega) (by simp [hw]) o2 (kp.trans k2)
theorem keeps_L18 {R : Rt} {a5 a7 a10 a11 a12 a14 a16 a18 a20 : Option Addr} {l5 c5 l7 c7 l10 c10 l11 c11 l12 c12 l14 c14 l16 c16 l18 c18 l20 c20 c9 : Nat} {q13 : Addr} {B n : Nat} {h : Hp} (hn : n ≤ 17592186043904)
    (g : ∀ h' ws, ws.length = n → Mine h' B ws → KeepB B h h' → gnomonlaw02_keeps.D12.t R a5 l5 c5 a7 l7 c7 (some ⟨B, 0, none⟩) n c9 a10 l10 c10 a11 l11 c11 a12 l12 c12 q13 a14 l14 c14 a16 l16 c16 a18 l18 c18 a20 l20 c20 h') :
    ∀ (k i : Nat) (h' : Hp) (ws : List Nat), i + k = n → ws.length = n → Mine h' B ws → KeepB B h h' → gnomonlaw02_keeps.L18.t R (k + 1) a5 l5 c5 a7 l7 c7 (some ⟨B, 0, none⟩) n c9 a10 l10 c10 a11 l11 c11 a12 l12 c12 q13 a14 l14 c14 a16 l16 c16 a18 l18 c18 a20 l20 c20 (i : Int) h' := by
  intro k
  induction k with
  | zero =>
    intro i h' ws hik hw o kp
    unfold gnomonlaw02_keeps.L18.t gnomonlaw02_keeps.D19.t
    exact c_dec (fun hb => absurd hb (by omega)) fun _ => g h' ws hw o kp
  | succ k ih =>
    intro i h' ws hik hw o kp
    unfold gnomonlaw02_keeps.L18.t gnomonlaw02_keeps.D19.t
    refine c_dec (fun _ => ?_) fun hb => absurd (by omega) hb
    refine at_intro (o.rd (c := n) (by omega)) (j := i) rfl hw.symm (by omega) ?_
    refine ⟨by decide, ⟨⟨?_⟩⟩⟩
    refine mine_put o (j := i) rfl hw.symm (by omega) (u64_nat _) (u64_lt _) fun o2 k2 => ?_
    refine k_i64 ((i + 1 : Nat) : Int) (by omega) (by omega) (by omega) ?_
    exact ih (i + 1) _ _ (by omega) (by simp [hw]) o2 (kp.trans k2)
theorem _root_.Go.Gv.KeepB.cells_ne {q b m : Nat} {h h' : Hp} (k : KeepB q h h') (hb : b ≠ q) (e : cellsN h b = some m) : cellsN h' b = some m := by
  have := k.pre b (cellsN_lt e) hb
  unfold cellsN at *; rw [this]; exact e
theorem keeps_D3 {h0 h : Hp} {A B Q qw qu q1 q2 q3 q4 lw mw lu mu l1 m1 l2 m2 l3 m3 l4 m4 la lb : Nat} {hsw hsu hs1 hs2 hs3 hs4 : List Sl} {V U : List (List Nat)} {ws bs : List Nat} {k n : Int}
    (k0 : Keep h0 h) (hA : h0.size ≤ A) (hAB : A < B) (hBQ : B < Q) (oA : Mine h A ws) (oB : Mine h B bs) (hla : la = ws.length) (hlb : lb = bs.length) (sA : la ≤ 17592186043904) (sB : lb ≤ 17592186043904) (cA : cellsN h A = some (la + 80)) (cB : cellsN h B = some (lb + 80))
    (oQ : BlkV h Q [.int .i64 k, .slice (some ⟨A, 0, none⟩) la (la + 80), .slice (some ⟨B, 0, none⟩) lb (lb + 80), .int .i64 n, .slice none 0 0]) (hn : In .i64 n)
    (w : LL lw mw h qw hsw V) (u : LL lu mu h qu hsu U) (x1 : LL l1 m1 h q1 hs1 V) (x2 : LL l2 m2 h q2 hs2 V) (x3 : LL l3 m3 h q3 hs3 U) (x4 : LL l4 m4 h q4 hs4 V)
    (ow : qw < A) (ou : qu < A) (o1 : B < l1) (o2 : m1 ≤ l2) (o3 : m2 ≤ l3) (o4 : m3 ≤ l4) (sV : ∀ x ∈ V, x.length ≤ 17592186044336) (sU : ∀ x ∈ U, x.length ≤ 17592186044336) :
    gnomonlaw02_keeps.D3.t (KpR h0) (some ⟨qw, 0, none⟩) V.length V.length (some ⟨qu, 0, none⟩) U.length U.length (some ⟨A, 0, none⟩) la (la + 80) (some ⟨A, 0, none⟩) (la + 80) (la + 80) (some ⟨B, 0, none⟩) lb (lb + 80) (some ⟨B, 0, none⟩) (lb + 80) (lb + 80) ⟨Q, 0, none⟩ (some ⟨q1, 0, none⟩) V.length V.length (some ⟨q2, 0, none⟩) V.length V.length (some ⟨q3, 0, none⟩) U.length U.length (some ⟨q4, 0, none⟩) V.length V.length h := by
  subst hla; subst hlb
  unfold gnomonlaw02_keeps.D3.t
  have rA : Rd h (some ⟨A, 0, none⟩) (ws.length + 80) ws := oA.rd (by omega)
  have rB : Rd h (some ⟨B, 0, none⟩) (bs.length + 80) bs := oB.rd (by omega)
  refine ldI oQ rfl ?_
  refine ldS oQ rfl ?_
  refine ldS oQ rfl ?_
  refine ldI oQ rfl ?_
  refine ldS oQ rfl ?_
  refine hc_intro (ltwin_spec rA rB rfl rfl) fun v h1 ⟨k1, a', c', b', d', ev, r1, s1⟩ => ?_
  subst ev
  refine gAgg_intro rfl (uncons_intro (gInt_intro rfl (uncons_intro (gSlice_intro rfl (uncons_intro (gSlice_intro rfl (uncons_intro (gInt_intro rfl (uncons_intro (gSlice_intro rfl (unnil_intro ?_)))))))))))
  refine boxV fun h2 o2' k2 => ?_
  refine st5 o2' rfl fun h3 o3' k3 => ?_
  have k13 : Keep h1 h3 := k3.keep k2 (Nat.le_refl _)
  refine ldI o3' rfl ?_
  refine ldS o3' rfl ?_
  refine ldS o3' rfl ?_
  refine ldI o3' rfl ?_
  refine ldS o3' rfl ?_
  refine hc_intro (ldoc_spec (r1.keep k13) (s1.keep k13) rfl rfl hn (by omega) (by omega)) fun v h4 ⟨k4, an⟩ => ?_
  refine AnsLL.elim an fun qz hsz mz z => ?_
  have k04 : Keep h h4 := k1.trans (k13.trans k4)
  have oQ4 := oQ.keep k04
  refine ldI oQ4 rfl ?_
  refine ldS oQ4 rfl ?_
  refine ldS oQ4 rfl ?_
  refine ldI oQ4 rfl ?_
  refine ldS oQ4 rfl ?_
  refine hc_intro (answers_spec (rA.keep k04) (rB.keep k04) rfl rfl hn (by omega) (by omega)) fun v h5 ⟨k5, an⟩ => ?_
  refine AnsLL.elim an fun q5 hs5 m5 x5 => ?_
  have k05 := k04.trans k5
  refine c_ne (fun hh => absurd rfl hh) fun _ => ?_
  have z := z.keep k5
  refine x5.like z ?_
  refine c_not (fun hh => absurd hh (by simp)) fun _ => ?_
  have o35 := o3'.keep (k4.trans k5)
  refine ldS o35 rfl ?_
  refine Same_intro (rA.keep k05) (r1.keep (k13.trans (k4.trans k5))) rfl rfl ?_
  refine c_not (fun hh => absurd hh (by simp)) fun _ => ?_
  refine ldS o35 rfl ?_
  refine Same_intro (rB.keep k05) (s1.keep (k13.trans (k4.trans k5))) rfl rfl ?_
  refine c_not (fun hh => absurd hh (by simp)) fun _ => ?_
  obtain ⟨ra, wa, la'⟩ := Mine.room (q := A) oA (KeepB.refl _ _) cA
  obtain ⟨rb, wb, lb'⟩ := Mine.room (q := B) oB (KeepB.refl _ _) cB
  have z1 := oQ.lt; have z2 := k1.le; have z3 := k13.le; have z4 := k4.le
  have z5 := x4.hiq; have z6 := x4.blk.lt
  exact keeps_D4 (k0.trans k05) hA hAB (wa.keep k05) (wb.keep k05) (by omega) (by omega) la'.symm la'.symm lb'.symm lb'.symm (w.keep k05) (u.keep k05) (x1.keep k05) (x2.keep k05) (x3.keep k05) (x4.keep k05) z x5 ow ou o1 o2 o3 o4 (by omega) (by omega) sV sU (ansV_small _ _ _ _)
theorem keeps_spec {h : Hp} {a b e a' b' e' : Option Addr} {c d f c' d' f' l m g l' m' g' : Nat} {xs ys us vs : List Nat} {k n k' n' : Int}
    (r : Rd h a c xs) (s : Rd h b d ys) (hl : l = xs.length) (hm : m = ys.length) (hn : In .i64 n) (hx : xs.length ≤ 17592186043904) (hy : ys.length ≤ 17592186043904)
    (r' : Rd h a' c' us) (s' : Rd h b' d' vs) (hl' : l' = us.length) (hm' : m' = vs.length) (hn' : In .i64 n') (hx' : us.length ≤ 17592186043904) (hy' : vs.length ≤ 17592186043904) :
    HC gnomonlaw02_keeps.id #[.agg #[.int .i64 k, .slice a l c, .slice b m d, .int .i64 n, .slice e g f], .agg #[.int .i64 k', .slice a' l' c', .slice b' m' d', .int .i64 n', .slice e' g' f']] h fun v h' => Keep h h' ∧ v = .bool true := by
  subst hl; subst hm; subst hl'; subst hm'
  refine gnomonlaw02_keeps.ok ?_
  unfold gnomonlaw02_keeps.t gnomonlaw02_keeps.D1.t
  refine boxV fun h1 p1 k1 => ?_
  refine boxV fun h2 p3 k2 => ?_
  have k02 := k1.trans k2
  have p1 := p1.keep k2
  refine ldI p1 rfl ?_
  refine ldS p1 rfl ?_
  refine ldS p1 rfl ?_
  refine ldI p1 rfl ?_
  refine ldS p1 rfl ?_
  refine hc_intro (ltwin_spec (r.keep k02) (s.keep k02) rfl rfl) fun v h3 ⟨k3, a3, c3, b3, d3, ev, r3, s3⟩ => ?_
  subst ev
  refine gAgg_intro rfl (uncons_intro (gInt_intro rfl (uncons_intro (gSlice_intro rfl (uncons_intro (gSlice_intro rfl (uncons_intro (gInt_intro rfl (uncons_intro (gSlice_intro rfl (unnil_intro ?_)))))))))))
  refine hc_intro (ldoc_spec r3 s3 rfl rfl hn hx hy) fun v h4 ⟨k4, an⟩ => ?_
  refine AnsLL.elim an fun qw hsw mw w => ?_
  have tw := w.blk.lt; have twh := w.hiq
  have k24 := k3.trans k4
  have p34 := p3.keep k24
  refine ldI p34 rfl ?_
  refine ldS p34 rfl ?_
  refine ldS p34 rfl ?_
  refine ldI p34 rfl ?_
  refine ldS p34 rfl ?_
  have k04 := k02.trans k24
  refine hc_intro (ltwin_spec (r'.keep k04) (s'.keep k04) rfl rfl) fun v h5 ⟨k5, a5, c5, b5, d5, ev, r5, s5⟩ => ?_
  subst ev
  refine gAgg_intro rfl (uncons_intro (gInt_intro rfl (uncons_intro (gSlice_intro rfl (uncons_intro (gSlice_intro rfl (uncons_intro (gInt_intro rfl (uncons_intro (gSlice_intro rfl (unnil_intro ?_)))))))))))
  refine hc_intro (ldoc_spec r5 s5 rfl rfl hn' hx' hy') fun v h6 ⟨k6, an⟩ => ?_
  refine AnsLL.elim an fun qu hsu mu u => ?_
  have tu := u.blk.lt; have tuh := u.hiq
  have k46 := k5.trans k6
  have k06 := k04.trans k46
  have w := w.keep k46
  have p16 := p1.keep (k24.trans k46)
  have p36 := p34.keep k46
  refine ldS p16 rfl ?_
  refine hc_intro (Spare_spec (r.keep k06) rfl (by omega)) fun v h7 ⟨k7, A, hA, ev, oA⟩ => ?_
  subst ev
  refine gTup_intro rfl (uncons_intro (gSlice_intro rfl (uncons_intro (gSlice_intro rfl (unnil_intro ?_)))))
  refine ldS (p16.keep k7) rfl ?_
  refine hc_intro (Spare_spec (s.keep (k06.trans k7)) rfl (by omega)) fun v h8 ⟨k8, B, hB, ev, oB⟩ => ?_
  subst ev
  refine gTup_intro rfl (uncons_intro (gSlice_intro rfl (uncons_intro (gSlice_intro rfl (unnil_intro ?_)))))
  have k68 := k7.trans k8
  have p18 := p16.keep k68
  refine ldI p18 rfl ?_
  refine ldI p18 rfl ?_
  refine boxV fun h9 p9 k9 => ?_
  refine st5 p9 rfl fun h10 oQ k10 => ?_
  have k810 : Keep h8 h10 := k10.keep k9 (Nat.le_refl _)
  refine ldI oQ rfl ?_
  refine ldS oQ rfl ?_
  refine ldS oQ rfl ?_
  refine ldI oQ rfl ?_
  refine ldS oQ rfl ?_
  have hAl : A < h7.size := oA.lt
  have oA := oA.keep (k8.trans k810)
  have hBl : B < h8.size := oB.lt
  have oB := oB.keep k810
  have mA : Mine h10 A xs := ⟨_, oA⟩
  have mB : Mine h10 B ys := ⟨_, oB⟩
  have rA : Rd h10 (some ⟨A, 0, none⟩) (xs.length + 80) xs := mA.rd (by omega)
  have rB : Rd h10 (some ⟨B, 0, none⟩) (ys.length + 80) ys := mB.rd (by omega)
  have fA : Rd h10 (some ⟨A, 0, none⟩) (xs.length + 80) (xs ++ marks xs.length) := oA.rd (by simp [marks_len])
  have fB : Rd h10 (some ⟨B, 0, none⟩) (ys.length + 80) (ys ++ marks ys.length) := oB.rd (by simp [marks_len])
  have k010 := k06.trans (k68.trans k810)
  refine hc_intro (answers_spec rA rB rfl rfl hn hx hy) fun v h11 ⟨k11, an⟩ => ?_
  refine AnsLL.elim an fun q1 hs1 m1 x1 => ?_
  have t1 := x1.blk.lt; have t1h := x1.hiq
  refine c_ne (fun hh => absurd rfl hh) fun _ => ?_
  have w := w.keep (k68.trans (k810.trans k11))
  have u := u.keep (k68.trans (k810.trans k11))
  refine x1.like w ?_
  refine c_not (fun hh => absurd hh (by simp)) fun _ => ?_
  have k011 := k010.trans k11
  have p111 := p18.keep (k810.trans k11)
  have p311 := p36.keep (k68.trans (k810.trans k11))
  refine ldS p111 rfl ?_
  refine Kept_intro (fA.keep k11) (r.keep k011) rfl rfl ?_
  refine c_not (fun hh => absurd hh (by simp)) fun _ => ?_
  refine ldS p111 rfl ?_
  refine Kept_intro (fB.keep k11) (s.keep k011) rfl rfl ?_
  refine c_not (fun hh => absurd hh (by simp)) fun _ => ?_
  unfold gnomonlaw02_keeps.D2.t
  have oQ11 := oQ.keep k11
  refine ldI oQ11 rfl ?_
  refine ldS oQ11 rfl ?_
  refine ldS oQ11 rfl ?_
  refine ldI oQ11 rfl ?_
  refine ldS oQ11 rfl ?_
  refine hc_intro (answers_spec (rA.keep k11) (rB.keep k11) rfl rfl hn hx hy) fun v h12 ⟨k12, an⟩ => ?_
  refine AnsLL.elim an fun q2 hs2 m2 x2 => ?_
  have t2 := x2.blk.lt; have t2h := x2.hiq
  have p312 := p311.keep k12
  refine ldI p312 rfl ?_
  refine ldS p312 rfl ?_
  refine ldS p312 rfl ?_
  refine ldI p312 rfl ?_
  refine ldS p312 rfl ?_
  have k012 := k011.trans k12
  refine hc_intro (ltwin_spec (r'.keep k012) (s'.keep k012) rfl rfl) fun v h13 ⟨k13, a13, c13, b13, d13, ev, r13, s13⟩ => ?_
  subst ev
  refine gAgg_intro rfl (uncons_intro (gInt_intro rfl (uncons_intro (gSlice_intro rfl (uncons_intro (gSlice_intro rfl (uncons_intro (gInt_intro rfl (uncons_intro (gSlice_intro rfl (unnil_intro ?_)))))))))))
  refine hc_intro (answers_spec r13 s13 rfl rfl hn' hx' hy') fun v h14 ⟨k14, an⟩ => ?_
  refine AnsLL.elim an fun q3 hs3 m3 x3 => ?_
  have t3 := x3.blk.lt; have t3h := x3.hiq
  have k1114 := k12.trans (k13.trans k14)
  have oQ14 := oQ11.keep k1114
  refine ldI oQ14 rfl ?_
  refine ldS oQ14 rfl ?_
  refine ldS oQ14 rfl ?_
  refine ldI oQ14 rfl ?_
  refine ldS oQ14 rfl ?_
  have k1014 := k11.trans k1114
  refine hc_intro (answers_spec (rA.keep k1014) (rB.keep k1014) rfl rfl hn hx hy) fun v h15 ⟨k15, an⟩ => ?_
  refine AnsLL.elim an fun q4 hs4 m4 x4 => ?_
  have k1015 := k1014.trans k15
  have k1115 := k1114.trans k15
  have k015 := k010.trans k1015
  have w := w.keep k1115
  have u := u.keep k1115
  have x1 := x1.keep k1115
  have x2 := x2.keep (k13.trans (k14.trans k15))
  have x3 := x3.keep k15
  refine x1.like w ?_
  refine c_not (fun hh => absurd hh (by simp)) fun _ => ?_
  refine x2.like w ?_
  refine c_not (fun hh => absurd hh (by simp)) fun _ => ?_
  refine x3.like u ?_
  refine c_not (fun hh => absurd hh (by simp)) fun _ => ?_
  refine x4.like w ?_
  refine c_not (fun hh => absurd hh (by simp)) fun _ => ?_
  have p115 := p111.keep k1115
  refine ldS p115 rfl ?_
  refine Kept_intro (fA.keep k1015) (r.keep k015) rfl rfl ?_
  refine c_not (fun hh => absurd hh (by simp)) fun _ => ?_
  refine ldS p115 rfl ?_
  refine Kept_intro (fB.keep k1015) (s.keep k015) rfl rfl ?_
  refine c_not (fun hh => absurd hh (by simp)) fun _ => ?_
  have oA := oA.keep k1015
  have oB := oB.keep k1015
  have oQ := oQ.keep k1015
  have cA : cellsN h15 A = some (xs.length + 80) := by rw [oA.cellsN, List.length_append, marks_len]
  have cB : cellsN h15 B = some (ys.length + 80) := by rw [oB.cellsN, List.length_append, marks_len]
  have z6 := k06.le
  have zw := w.hiq; have zu := u.blk.lt
  have y1 := k7.le; have y2 := k8.le; have y3 := k810.le; have y4 := k11.le; have y5 := k12.le; have y6 := k13.le; have y7 := k14.le; have y8 := k15.le
  have lqw : qw < A := by have := k46.le; omega
  have lqu : qu < A := by omega
  have i1 : m1 ≤ h11.size := by omega
  have i2 : m2 ≤ h13.size := by omega
  have i3 : m3 ≤ h14.size := by omega
  unfold gnomonlaw02_keeps.D17.t
  refine ⟨xs.length + 1, keeps_L18 hx (fun h16 ws las mA' kA => ?_) xs.length 0 h15 xs (by omega) rfl (mA.keep k1015) (KeepB.refl _ _)⟩
  unfold gnomonlaw02_keeps.D12.t
  have mB' : Mine h16 B ys := (mB.keep k1015).keepB (by omega) kA
  refine ⟨ys.length + 1, keeps_L13 hy (fun h17 bs lbs mB'' kB => ?_) ys.length 0 h16 ys (by omega) rfl mB' (KeepB.refl _ _)⟩
  have hAh : h.size ≤ A := by omega
  have q1l := x1.loh; have q2l := x2.loh; have q3l := x3.loh; have q4l := x4.loh
  have oQ' := (oQ.keepB (show h8.size ≠ A by omega) kA).keepB (show h8.size ≠ B by omega) kB
  exact keeps_D3 (A := A) (B := B) (kB.keep (kA.keep k015 hAh) (by omega)) hAh (by omega) (by omega) (mA'.keepB (by omega) kB) mB'' las.symm lbs.symm hx hy (kB.cells_ne (by omega) (kA.len _ cA)) (kB.len _ (kA.cells_ne (by omega) cB)) oQ' hn
    ((w.keepB kA (by omega)).keepB kB (by omega)) ((u.keepB kA (by omega)).keepB kB (by omega)) ((x1.keepB kA (by omega)).keepB kB (by omega)) ((x2.keepB kA (by omega)).keepB kB (by omega)) ((x3.keepB kA (by omega)).keepB kB (by omega)) ((x4.keepB kA (by omega)).keepB kB (by omega))
    lqw lqu (by omega) (by omega) (by omega) (by omega) (ansV_small _ _ _ _) (ansV_small _ _ _ _)
theorem keeps_walk {h0 hb : Hp} {a0 : Option Addr} {c0 : Nat} {os : List Op2} (r : RdOps2 hb a0 c0 os) (kb : Keep h0 hb) :
    ∀ (k i : Nat) (h : Hp) (kL nL : Int) (a b e : Option Addr) (c d f g : Nat) (xs ys : List Nat), i + k = os.length → Keep hb h → BlkV h hb.size [.int .i64 kL, .slice a xs.length c, .slice b ys.length d, .int .i64 nL, .slice e g f] → Rd hb a c xs → Rd hb b d ys → In .i64 nL → xs.length ≤ 17592186043904 → ys.length ≤ 17592186043904 →
      gnomonlaw02_NatmulKeeps.L4.t (KpR h0) (k + 1) ⟨hb.size, 0, none⟩ a0 os.length c0 (os.length : Int) (i : Int) h := by
  have h1 : os.length ≤ 1599289640354 := r.len
  intro k
  induction k with
  | zero =>
    intro i h kL nL a b e c d f g xs ys hik kp oL rL sL iL zx zy
    unfold gnomonlaw02_NatmulKeeps.L4.t gnomonlaw02_NatmulKeeps.D5.t
    refine c_dec (fun hb => absurd hb (by omega)) fun _ => ?_
    unfold gnomonlaw02_NatmulKeeps.D2.t
    exact ⟨kb.trans kp, rfl⟩
  | succ k ih =>
    intro i h kL nL a b e c d f g xs ys hik kp oL rL sL iL zx zy
    unfold gnomonlaw02_NatmulKeeps.L4.t gnomonlaw02_NatmulKeeps.D5.t
    refine c_dec (fun _ => ?_) fun hb => absurd (by omega) hb
    obtain ⟨o, ho⟩ : ∃ o, os[i]? = some o := ⟨os[i]'(by omega), by simp⟩
    refine at_list r rfl rfl ho fun q vs hvs rl s => ?_
    obtain ⟨a1, c1, b1, d1, f1, g1, e0, e1, e2, e3, e4, i0, r1, r2, i3, r4, z1, z2⟩ := op2_open rl s
    refine ldC (kp.cell e0) ?_
    refine gInt_intro rfl ?_
    refine ldC (kp.cell e1) ?_
    refine gSlice_intro rfl ?_
    refine ldC (kp.cell e2) ?_
    refine gSlice_intro rfl ?_
    refine ldC (kp.cell e3) ?_
    refine gInt_intro rfl ?_
    refine ldC (kp.cell e4) ?_
    refine gSlice_intro rfl ?_
    refine boxV fun h42 o42 k42 => ?_
    refine st5 o42 rfl fun h47 o47 k47 => ?_
    have k1 : Keep h h47 := k47.keep k42 (Nat.le_refl _)
    have kp47 := kp.trans k1
    have oL47 := oL.keep k1
    have next : ∀ h', Keep h47 h' → letK (IntKind.i64.wrap ((i : Int) + 1)) fun n36 => gnomonlaw02_NatmulKeeps.L4.t (KpR h0) (k + 1) ⟨hb.size, 0, none⟩ a0 os.length c0 (os.length : Int) n36 h' := by
      intro h' k'
      refine k_i64 ((i + 1 : Nat) : Int) (by omega) (by omega) (by omega) ?_
      exact ih (i + 1) h' kL nL a b e c d f g xs ys (by omega) (kp47.trans k') (oL47.keep k') rL sL iL zx zy
    refine ldI o47 rfl ?_
    refine c_dec (fun _ => next _ (Keep.refl _)) fun hlo => ?_
    refine ldI o47 rfl ?_
    refine c_dec (fun _ => next _ (Keep.refl _)) fun hhi => ?_
    refine ldI oL47 rfl ?_
    refine ldS oL47 rfl ?_
    refine ldS oL47 rfl ?_
    refine ldI oL47 rfl ?_
    refine ldS oL47 rfl ?_
    refine boxV fun h65 o65 k65 => ?_
    refine st5 o65 rfl fun h70 o70 k70 => ?_
    have k2 : Keep h47 h70 := k70.keep k65 (Nat.le_refl _)
    refine ldI (o47.keep k2) rfl ?_
    refine stV o70 (Nat.le_of_ble_eq_true rfl) fun h73 o73 k73 => ?_
    have k3 : Keep h47 h73 := k73.keep k2 (Nat.le_refl _)
    have o473 := o47.keep k3
    have oL73 := oL47.keep k3
    refine ldI o473 rfl ?_
    refine ldS o473 rfl ?_
    refine ldS o473 rfl ?_
    refine ldI o473 rfl ?_
    refine ldS o473 rfl ?_
    refine ldI oL73 rfl ?_
    refine ldS oL73 rfl ?_
    refine ldS oL73 rfl ?_
    refine ldI oL73 rfl ?_
    refine ldS oL73 rfl ?_
    have kp73 := kp47.trans k3
    refine hc_intro (keeps_spec (r1.keep kp73) (r2.keep kp73) rfl rfl i3 z1 z2 (rL.keep kp73) (sL.keep kp73) rfl rfl iL zx zy) fun v h95 ⟨k95, ev⟩ => ?_
    subst ev
    refine gBool_intro rfl ?_
    refine c_not (fun hh => absurd hh (by simp)) fun _ => ?_
    have o495 := o473.keep k95
    have o95 := o73.keep k95
    refine ldI o495 rfl ?_
    refine ldS o495 rfl ?_
    refine ldS o495 rfl ?_
    refine ldI o495 rfl ?_
    refine ldS o495 rfl ?_
    refine ldI o95 rfl ?_
    refine ldS o95 rfl ?_
    refine ldS o95 rfl ?_
    refine ldI o95 rfl ?_
    refine ldS o95 rfl ?_
    have kp95 := kp73.trans k95
    refine hc_intro (keeps_spec (r1.keep kp95) (r2.keep kp95) rfl rfl i3 z1 z2 (rL.keep kp95) (sL.keep kp95) rfl rfl iL zx zy) fun v h118 ⟨k118, ev⟩ => ?_
    subst ev
    refine gBool_intro rfl ?_
    refine c_not (fun hh => absurd hh (by simp)) fun _ => ?_
    have o4118 := o495.keep k118
    refine ldI o4118 rfl ?_
    refine ldS o4118 rfl ?_
    refine ldS o4118 rfl ?_
    refine ldI o4118 rfl ?_
    refine ldS o4118 rfl ?_
    have kp118 := kp95.trans k118
    refine st5 (oL73.keep (k95.trans k118)) rfl fun h134 o134 k134 => ?_
    refine k_i64 ((i + 1 : Nat) : Int) (by omega) (by omega) (by omega) ?_
    exact ih (i + 1) h134 _ _ _ _ _ _ _ _ _ _ _ (by omega) (k134.keep kp118 (Nat.le_refl _)) o134 r1 r2 i3 z1 z2
theorem NatmulKeeps_law {a0 : Option Addr} {c0 l0 : Nat} {os : List Op2} {h : Hp} (r0 : RdOps2 h a0 c0 os) (hl0 : l0 = os.length) :
    HC gnomonlaw02_NatmulKeeps.id #[.slice a0 l0 c0] h fun v h' => Keep h h' ∧ v = .bool true := by
  subst hl0
  refine gnomonlaw02_NatmulKeeps.ok ?_
  unfold gnomonlaw02_NatmulKeeps.t gnomonlaw02_NatmulKeeps.D1.t
  refine box_intro [18446744073709551615, 3] (by rfl) (by decide) (by decide) fun h2 o2 k2 => ?_
  refine box_intro [7] (by rfl) (by decide) (by decide) fun h4 o4 k4 => ?_
  have r2 : Rd h4 (some ⟨h.size, 0, none⟩) 2 [18446744073709551615, 3] := (o2.rd (by decide)).keep k4
  have r4 : Rd h4 (some ⟨h2.size, 0, none⟩) 1 [7] := o4.rd (by decide)
  have k04 := k2.trans k4
  refine boxV fun h6 o6 k6 => ?_
  refine st5 o6 rfl fun h11 o11 k11 => ?_
  have k411 : Keep h4 h11 := k11.keep k6 (Nat.le_refl _)
  refine hc_intro (lawake_spec _) fun v h13 ⟨k13, e⟩ => ?_
  subst e
  refine gBool_intro rfl ?_
  refine c_not (fun hh => absurd hh (by simp)) fun _ => ?_
  have o13 := o11.keep k13
  refine ldI o13 rfl ?_
  refine ldS o13 rfl ?_
  refine ldS o13 rfl ?_
  refine ldI o13 rfl ?_
  refine ldS o13 rfl ?_
  refine box_intro [9, 9] (by rfl) (by decide) (by decide) fun h26 o26 k26 => ?_
  have k426 := k411.trans (k13.trans k26)
  refine hc_intro (keeps_spec (r2.keep k426) (r4.keep k426) rfl rfl (by decide) (by decide) (by decide) (o26.rd (by decide)) (Rd.nil _ _ _) rfl rfl (by decide) (by decide) (by decide)) fun v h28 ⟨k28, ev⟩ => ?_
  subst ev
  refine gBool_intro rfl ?_
  refine c_not (fun hh => absurd hh (by simp)) fun _ => ?_
  unfold gnomonlaw02_NatmulKeeps.D3.t
  refine ⟨os.length + 1, ?_⟩
  exact keeps_walk (r0.keep k04) k04 os.length 0 h28 1 0 _ _ none _ _ 0 0 [18446744073709551615, 3] [7] (by omega) (k426.trans k28) (o13.keep (k26.trans k28)) r2 r4 (by decide) (by decide) (by decide)
end Go.Proofs.Ytidpnpcnjfbjfaa.G
