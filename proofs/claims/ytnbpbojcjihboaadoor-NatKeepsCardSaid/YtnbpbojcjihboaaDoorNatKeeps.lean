/- The law NatKeeps of the translation answers true. -/
import Derived.Test.YtnbpbojcjihboaaDoorNatFin
import Derived.Test.YtnbpbojcjihboaaDoorRef01m
import Derived.Test.YtnbpbojcjihboaaDoorGvFresh
namespace Go.Proofs.YtnbpbojcjihboaaDoor.G
open Go.Gv
set_option linter.unusedVariables false
set_option maxRecDepth 100000
theorem u64_nat (y : Int) : IntKind.u64.wrap y = (((IntKind.u64.wrap y).toNat : Nat) : Int) := by
  have hin := in_u64.mp (in_wrap .u64 y); omega
theorem u64_lt (y : Int) : (IntKind.u64.wrap y).toNat < 18446744073709551616 := by
  have hin := in_u64.mp (in_wrap .u64 y); omega
abbrev KpR (h0 : Hp) : Rt := fun v h' => Keep h0 h' ∧ v = .bool true
theorem own_put {h : Hp} {b l : Nat} {xs tl : List Nat} (o : Own h b (xs ++ tl)) {i : Int} {j : Nat} (hi : i = (j : Int)) (hl : xs.length = l) (hj : j < l) {x : Int} {v : Nat} (hx : x = (v : Int)) (hv : v < 18446744073709551616) {K : Hp → Prop}
    (g : Own (setH h ⟨b, j, none⟩ (wv v)) b (xs.set j v ++ tl) → KeepB b h (setH h ⟨b, j, none⟩ (wv v)) → K (setH h ⟨b, j, none⟩ (wv v))) : idxK (some ⟨b, 0, none⟩) l i 1 fun q => stK h q (.int .u64 x) K := by
  subst hi; subst hx; subst hl
  have g' := o.set j hv
  rw [List.set_append_left _ _ hj] at g'
  refine ⟨⟨by omega, by omega⟩, ?_⟩
  show stK h ((⟨b, 0, none⟩ : Addr).add ((j : Int).toNat * 1)) _ _
  rw [show (j : Int).toNat * 1 = j by omega, base_add]
  exact ⟨⟨⟨_, o.cell (by rw [List.length_append]; omega)⟩, o.frozen j⟩, g g' (KeepB.set _ _ _ _)⟩
theorem _root_.Go.Gv.KeepB.cells_ne {q b m : Nat} {h h' : Hp} (k : KeepB q h h') (hb : b ≠ q) (e : cellsN h b = some m) : cellsN h' b = some m := by
  have := k.pre b (cellsN_lt e) hb
  unfold cellsN at *; rw [this]; exact e
/-- What one call of a script reads as, its lists' bounds too. -/
theorem op1_open2 {h : Hp} {q : Addr} {vs : List Value} {o : Op1} (rl : RdL h q 0 vs) (s : saysOp1 h vs o) :
    ∃ a c b d, cellH h (q.add 0) = some (.int .i64 o.1) ∧ cellH h (q.add 1) = some (.slice a o.2.1.length c) ∧ cellH h (q.add 2) = some (.slice b o.2.2.1.length d) ∧ cellH h (q.add 3) = some (.int .i64 o.2.2.2.1) ∧ cellH h (q.add 4) = some (.int .u64 o.2.2.2.2.1) ∧
      In .i64 o.1 ∧ Rd h a c o.2.1 ∧ Rd h b d o.2.2.1 ∧ In .i64 o.2.2.2.1 ∧ In .u64 o.2.2.2.2.1 ∧ o.2.1.length ≤ 17592186043904 ∧ o.2.2.1.length ≤ 17592186043904 := by
  obtain ⟨a, c, b, d, e0, e1, e2, e3, e4, i0, r1, r2, i3, i4⟩ := op1_open rl s
  obtain ⟨l1, ⟨e1', w1⟩, l2, ⟨_, _, _, _, m1⟩, l3, ⟨_, _, _, _, m2⟩, _⟩ := s
  exact ⟨a, c, b, d, e0, e1, e2, e3, e4, i0, r1, r2, i3, i4, m1, m2⟩
/-! ### what a call answers -/
abbrev lsV (k : Int) (xs ys : List Nat) (n w : Int) : List Nat × Int × Int := gnomonlaw01_list.v k xs ys n w
theorem lim_small (n : Nat) : (lim n).1.length ≤ 8192 := by
  unfold lim; split
  · assumption
  · simp
theorem lsV_small (k : Int) (xs ys : List Nat) (n w : Int) (hw : In .u64 w) (wx : Words xs) : (lsV k xs ys n w).1.length ≤ 8192 := by
  have h1 : (addS xs ys).1.length ≤ 8192 := by unfold addS; split; exact lim_small _; simp
  have h2 : (subS xs ys).1.length ≤ 8192 := by
    unfold subS; split
    · split
      · simp
      · exact lim_small _
    · simp
  have h3 : (shlS xs n).1.length ≤ 8192 := by
    unfold shlS; split
    · simp
    · split; exact lim_small _; simp
  have h4 : (shrS xs n).1.length ≤ 8192 := by
    unfold shrS; split
    · simp
    · split; exact lim_small _; simp
  have h5 : (lowS xs n).1.length ≤ 8192 := by
    unfold lowS; split
    · simp
    · split; exact lim_small _; simp
  have h6 : (mulWS xs (Int.toNat w)).1.length ≤ 8192 := by unfold mulWS; split; exact lim_small _; simp
  have h7 : (divWS xs (Int.toNat w)).1.length ≤ 8192 := by
    unfold divWS; split
    · rename_i hf
      split
      · simp
      · have : (digs (val xs / Int.toNat w)).length ≤ (digs (val xs)).length := digs_len_mono (Nat.div_le_self _ _)
        rw [hf.digs wx] at this
        exact Nat.le_trans this hf.1
    · simp
  have h8 : (digs (Int.toNat w)).length ≤ 8192 := by
    have h9 : (digs (Int.toNat w)).length ≤ 1 := digs_len.mpr (by have := in_u64.mp hw; have e : (2 : Nat) ^ (64 * 1) = 18446744073709551616 := by decide
                                                                  omega)
    omega
  unfold lsV gnomonlaw01_list.v gnomonlaw01_list.D1.v
  simp only [letV, gnomonlaw01_list.D2.v, cond_eq_ite]
  repeat' split
  all_goals first | assumption | exact lim_small _ | simp
section
variable {h : Hp} {a b : Option Addr} {c d l m : Nat} {xs ys : List Nat} {k n w : Int}
theorem list_ls (ik : In .i64 k) (r : Rd h a c xs) (hl : l = xs.length) (s : Rd h b d ys) (hm : m = ys.length) (hn : In .i64 n) (hw : In .u64 w) :
    HC gnomonlaw01_list.id #[.agg #[.int .i64 k, .slice a l c, .slice b m d, .int .i64 n, .int .u64 w]] h fun v h' => Keep h h' ∧ Ans3 h h' v (lsV k xs ys n w) := gnomonlaw01_list.hv ik r hl s hm hn hw
theorem doc_ls (ik : In .i64 k) (r : Rd h a c xs) (hl : l = xs.length) (s : Rd h b d ys) (hm : m = ys.length) (hn : In .i64 n) (hw : In .u64 w) :
    HC gnomonlaw01_doc.id #[.agg #[.int .i64 k, .slice a l c, .slice b m d, .int .i64 n, .int .u64 w]] h fun v h' => Keep h h' ∧ Ans3 h h' v (lsV k xs ys n w) := gnomonlaw01_doc.hv ik r hl s hm hn hw
end
theorem keeps_L8 {R : Rt} {a5 a8 a11 a12 a14 a16 a19 a22 a25 : Option Addr} {l5 c5 l8 c8 l11 c11 l12 c12 l14 c14 l16 c16 l19 c19 l22 c22 l25 c25 c13 : Nat} {q15 : Addr} {B n : Nat} {h : Hp} (hn : n ≤ 17592186043904)
    (g : ∀ h' ws, ws.length = n → Mine h' B ws → KeepB B h h' → gnomonlaw01_keeps.D4.t R a5 l5 c5 a8 l8 c8 a11 l11 c11 a12 l12 c12 (some ⟨B, 0, none⟩) n c13 a14 l14 c14 q15 a16 l16 c16 a19 l19 c19 a22 l22 c22 a25 l25 c25 h') :
    ∀ (k i : Nat) (h' : Hp) (ws : List Nat), i + k = n → ws.length = n → Mine h' B ws → KeepB B h h' → gnomonlaw01_keeps.L8.t R (k + 1) a5 l5 c5 a8 l8 c8 a11 l11 c11 a12 l12 c12 (some ⟨B, 0, none⟩) n c13 a14 l14 c14 q15 a16 l16 c16 a19 l19 c19 a22 l22 c22 a25 l25 c25 (i : Int) h' := by
  intro k
  induction k with
  | zero =>
    intro i h' ws hik hw o kp
    unfold gnomonlaw01_keeps.L8.t gnomonlaw01_keeps.D9.t
    exact c_dec (fun hb => absurd hb (by omega)) fun _ => g h' ws hw o kp
  | succ k ih =>
    intro i h' ws hik hw o kp
    unfold gnomonlaw01_keeps.L8.t gnomonlaw01_keeps.D9.t
    refine c_dec (fun _ => ?_) fun hb => absurd (by omega) hb
    refine at_intro (o.rd (c := n) (by omega)) (j := i) rfl hw.symm (by omega) ?_
    refine ⟨by decide, ⟨⟨?_⟩⟩⟩
    refine mine_put o (j := i) rfl hw.symm (by omega) (u64_nat _) (u64_lt _) fun o2 k2 => ?_
    refine k_i64 ((i + 1 : Nat) : Int) (by omega) (by omega) (by omega) ?_
    exact ih (i + 1) _ _ (by omega) (by simp [hw]) o2 (kp.trans k2)
theorem keeps_L13 {R : Rt} {a5 a8 a12 a13 a14 a16 a19 a22 a25 : Option Addr} {l5 c5 l8 c8 l12 c12 l13 c13 l14 c14 l16 c16 l19 c19 l22 c22 l25 c25 c11 : Nat} {q15 : Addr} {B n : Nat} {h : Hp} (hn : n ≤ 17592186043904)
    (g : ∀ h' ws, ws.length = n → Mine h' B ws → KeepB B h h' → gnomonlaw01_keeps.D7.t R a5 l5 c5 a8 l8 c8 (some ⟨B, 0, none⟩) n c11 a12 l12 c12 a13 l13 c13 a14 l14 c14 q15 a16 l16 c16 a19 l19 c19 a22 l22 c22 a25 l25 c25 h') :
    ∀ (k i : Nat) (h' : Hp) (ws : List Nat), i + k = n → ws.length = n → Mine h' B ws → KeepB B h h' → gnomonlaw01_keeps.L13.t R (k + 1) a5 l5 c5 a8 l8 c8 (some ⟨B, 0, none⟩) n c11 a12 l12 c12 a13 l13 c13 a14 l14 c14 q15 a16 l16 c16 a19 l19 c19 a22 l22 c22 a25 l25 c25 (i : Int) h' := by
  intro k
  induction k with
  | zero =>
    intro i h' ws hik hw o kp
    unfold gnomonlaw01_keeps.L13.t gnomonlaw01_keeps.D14.t
    exact c_dec (fun hb => absurd hb (by omega)) fun _ => g h' ws hw o kp
  | succ k ih =>
    intro i h' ws hik hw o kp
    unfold gnomonlaw01_keeps.L13.t gnomonlaw01_keeps.D14.t
    refine c_dec (fun _ => ?_) fun hb => absurd (by omega) hb
    refine at_intro (o.rd (c := n) (by omega)) (j := i) rfl hw.symm (by omega) ?_
    refine ⟨by decide, ⟨⟨?_⟩⟩⟩
    refine mine_put o (j := i) rfl hw.symm (by omega) (u64_nat _) (u64_lt _) fun o2 k2 => ?_
    refine k_i64 ((i + 1 : Nat) : Int) (by omega) (by omega) (by omega) ?_
    exact ih (i + 1) _ _ (by omega) (by simp [hw]) o2 (kp.trans k2)
theorem sl_own {lo hi : Nat} {h : Hp} {s : Sl} {xs : List Nat} (o : Own1 lo hi h s xs) (hx : xs.length ≤ 17592186044336) {hB : Hp} (hlo : hB.size ≤ lo) : s.2.1 ≤ s.2.2 ∧ s.2.1 ≤ 17592186044336 ∧ ((s.1 = none ∧ s.2.2 = 0) ∨ ∃ b zs, s.1 = some ⟨b, 0, none⟩ ∧ hB.size ≤ b ∧ BlkE eU64 h b zs ∧ s.2.2 ≤ zs.length) := by
  obtain ⟨e1, e2, e3, e4⟩ := o
  refine ⟨by omega, by omega, ?_⟩
  rcases e4 with ⟨_, e5, e6⟩ | ⟨b, rest, e5, e6, _, o, e7⟩
  · exact Or.inl ⟨e5, e6⟩
  · exact Or.inr ⟨b, _, e5, Nat.le_trans hlo e6, o, e7⟩
/-- The end of keeps: all is looked at once more, then written over. -/
theorem keeps_D5 {h0 h : Hp} {A B : Nat} {aw au a1 a2 a3 a4 az a5 : Option Addr} {cw cu c1 c2 c3 c4 cz c5 lw mw lu mu l1 m1 l2 m2 l3 m3 l4 m4 lz mz l5 m5 : Nat} {V U L : List Nat} {za zb : List Nat} {la ca lb cb : Nat}
    (k0 : Keep h0 h) (hA : h0.size ≤ A) (hAB : A < B) (oA : Own h A za) (oB : Own h B zb) (sA : za.length ≤ 17592186044336) (sB : zb.length ≤ 17592186044336) (hla : la = za.length) (hca : ca = za.length) (hlb : lb = zb.length) (hcb : cb = zb.length)
    (w : Own1 lw mw h (aw, V.length, cw) V) (u : Own1 lu mu h (au, U.length, cu) U) (x1 : Own1 l1 m1 h (a1, V.length, c1) V) (x2 : Own1 l2 m2 h (a2, V.length, c2) V) (x3 : Own1 l3 m3 h (a3, U.length, c3) U) (x4 : Own1 l4 m4 h (a4, V.length, c4) V) (z : Own1 lz mz h (az, L.length, cz) L) (x5 : Own1 l5 m5 h (a5, L.length, c5) L)
    (ow : mw ≤ A) (ou : mu ≤ A) (o1 : B < l1) (d1 : l1 ≤ m1) (o2 : m1 ≤ l2) (d2 : l2 ≤ m2) (o3 : m2 ≤ l3) (d3 : l3 ≤ m3) (o4 : m3 ≤ l4) (d4 : l4 ≤ m4) (o5 : m4 ≤ l5) (d5 : l5 ≤ m5) (d6 : m5 ≤ h.size) (oz : B < lz) (sV : V.length ≤ 17592186044336) (sU : U.length ≤ 17592186044336) (sL : L.length ≤ 17592186044336) :
    gnomonlaw01_keeps.D5.t (KpR h0) aw V.length cw au U.length cu (some ⟨A, 0, none⟩) la ca (some ⟨B, 0, none⟩) lb cb a1 V.length c1 a2 V.length c2 a3 U.length c3 a4 V.length c4 az L.length cz a5 L.length c5 h := by
  subst hla; subst hca; subst hlb; subst hcb
  unfold gnomonlaw01_keeps.D5.t
  refine hc_intro (Over_spec oA rfl) fun v h1 ⟨ev, kA, wa, oA1, lwa⟩ => ?_
  subst ev
  refine gTup_intro rfl (unnil_intro ?_)
  refine hc_intro (Over_spec (oB.keepB (by omega) kA) rfl) fun v h2 ⟨ev, kB, wb, oB2, lwb⟩ => ?_
  subst ev
  refine gTup_intro rfl (unnil_intro ?_)
  have w := (w.keepB (.inr (by omega)) kA).keepB (.inr (by omega)) kB
  have u := (u.keepB (.inr (by omega)) kA).keepB (.inr (by omega)) kB
  have x1 := (x1.keepB (.inl (by omega)) kA).keepB (.inl (by omega)) kB
  have x2 := (x2.keepB (.inl (by omega)) kA).keepB (.inl (by omega)) kB
  have x3 := (x3.keepB (.inl (by omega)) kA).keepB (.inl (by omega)) kB
  have x4 := (x4.keepB (.inl (by omega)) kA).keepB (.inl (by omega)) kB
  have x5 := (x5.keepB (.inl (by omega)) kA).keepB (.inl (by omega)) kB
  have z := (z.keepB (.inl (by omega)) kA).keepB (.inl (by omega)) kB
  have oA2 : Own h2 A wa := oA1.keepB (by omega) kB
  have k02 : Keep h0 h2 := kB.keep (kA.keep k0 hA) (by omega)
  refine Same_intro x1.rd w.rd rfl rfl ?_
  refine c_not (fun hh => absurd hh (by simp)) fun _ => ?_
  refine Same_intro x2.rd w.rd rfl rfl ?_
  refine c_not (fun hh => absurd hh (by simp)) fun _ => ?_
  refine Same_intro x3.rd u.rd rfl rfl ?_
  refine c_not (fun hh => absurd hh (by simp)) fun _ => ?_
  refine Same_intro x4.rd w.rd rfl rfl ?_
  refine c_not (fun hh => absurd hh (by simp)) fun _ => ?_
  refine Same_intro x5.rd z.rd rfl rfl ?_
  refine c_not (fun hh => absurd hh (by simp)) fun _ => ?_
  unfold gnomonlaw01_keeps.D6.t
  have hh1 := kA.le; have hh2 := kB.le
  refine boxE eSl [((a1, V.length, c1) : Sl), (a2, V.length, c2), (a3, U.length, c3), (a4, V.length, c4), (a5, L.length, c5), (some ⟨A, 0, none⟩, za.length, za.length), (some ⟨B, 0, none⟩, zb.length, zb.length)] rfl (fun _ _ => trivial) fun h3 o3' k3 => ?_
  have gA : Own1 A (A + 1) h3 (some ⟨A, 0, none⟩, za.length, za.length) wa := ⟨lwa.symm, by show wa.length ≤ za.length; omega, by omega, Or.inr ⟨A, [], rfl, Nat.le_refl _, by omega, by rw [List.append_nil]; exact (oA2.keep k3).toE, by show za.length ≤ _; simp; omega⟩⟩
  have gB : Own1 B (B + 1) h3 (some ⟨B, 0, none⟩, zb.length, zb.length) wb := ⟨lwb.symm, by show wb.length ≤ zb.length; omega, by omega, Or.inr ⟨B, [], rfl, Nat.le_refl _, by omega, by rw [List.append_nil]; exact (oB2.keep k3).toE, by show zb.length ≤ _; simp; omega⟩⟩
  have x1 := x1.keep k3; have x2 := x2.keep k3; have x3 := x3.keep k3; have x4 := x4.keep k3; have x5 := x5.keep k3
  have b1 := x1.block; have b2 := x2.block; have b3 := x3.block; have b4 := x4.block; have b5 := x5.block; have b6 := gA.block; have b7 := gB.block
  have S : Sep h0 h3 [((a1, V.length, c1) : Sl), (a2, V.length, c2), (a3, U.length, c3), (a4, V.length, c4), (a5, L.length, c5), (some ⟨A, 0, none⟩, za.length, za.length), (some ⟨B, 0, none⟩, zb.length, zb.length)] := by
    refine ⟨fun s hs => ?_, fun i j s t p q e1 e2 f1 f2 e => ?_⟩
    · simp at hs
      rcases hs with e | e | e | e | e | e | e <;> subst e
      · exact sl_own x1 sV (by omega)
      · exact sl_own x2 sV (by omega)
      · exact sl_own x3 sU (by omega)
      · exact sl_own x4 sV (by omega)
      · exact sl_own x5 sL (by omega)
      · exact sl_own gA (by omega) (by omega)
      · exact sl_own gB (by omega) (by omega)
    · have key : ∀ (i : Nat) (s : Sl) (p : Addr), [((a1, V.length, c1) : Sl), (a2, V.length, c2), (a3, U.length, c3), (a4, V.length, c4), (a5, L.length, c5), (some ⟨A, 0, none⟩, za.length, za.length), (some ⟨B, 0, none⟩, zb.length, zb.length)][i]? = some s → s.1 = some p →
          (i = 0 ∧ l1 ≤ p.block ∧ p.block < m1) ∨ (i = 1 ∧ l2 ≤ p.block ∧ p.block < m2) ∨ (i = 2 ∧ l3 ≤ p.block ∧ p.block < m3) ∨ (i = 3 ∧ l4 ≤ p.block ∧ p.block < m4) ∨ (i = 4 ∧ l5 ≤ p.block ∧ p.block < m5) ∨ (i = 5 ∧ A ≤ p.block ∧ p.block < A + 1) ∨ (i = 6 ∧ B ≤ p.block ∧ p.block < B + 1) := by
        intro i s p e1 f1
        match i with
        | 0 => simp at e1; subst e1; have := b1 p f1; omega
        | 1 => simp at e1; subst e1; have := b2 p f1; omega
        | 2 => simp at e1; subst e1; have := b3 p f1; omega
        | 3 => simp at e1; subst e1; have := b4 p f1; omega
        | 4 => simp at e1; subst e1; have := b5 p f1; omega
        | 5 => simp at e1; subst e1; have := b6 p f1; omega
        | 6 => simp at e1; subst e1; have := b7 p f1; omega
        | i + 7 => simp at e1
      have g1 := key i s p e1 f1
      have g2 := key j t q e2 f2
      omega
  refine hc_intro (Apart_spec (k02.trans k3) (o3'.rd' (c := 7) (show 7 ≤ 11728124029610 by decide) (Nat.le_refl 7)) rfl (Nat.le_of_ble_eq_true rfl) S fun p ep => ?_) fun v h' ⟨e, k'⟩ => ?_
  · cases ep
    refine ⟨o3'.lt, fun s hs q eq => ?_⟩
    have hB2 := oB2.lt
    simp at hs
    show q.block ≠ h2.size
    rcases hs with e | e | e | e | e | e | e <;> subst e
    · have := b1 q eq; omega
    · have := b2 q eq; omega
    · have := b3 q eq; omega
    · have := b4 q eq; omega
    · have := b5 q eq; omega
    · have := b6 q eq; omega
    · have := b7 q eq; omega
  · subst e
    exact gBool_intro rfl ⟨k', rfl⟩
theorem Ans3.elimO {h0 h : Hp} {v : Value} {p : List Nat × Int × Int} {K : Option Addr → Nat → Nat → Int → Int → Prop} (a : Ans3 h0 h v p) (g : ∀ a c, Own1 h0.size h.size h (a, p.1.length, c) p.1 → K a p.1.length c p.2.1 p.2.2) :
    gTup v fun y => uncons y fun v1 y1 => gSlice v1 fun a l c => uncons y1 fun v2 y2 => gInt .u64 v2 fun x => uncons y2 fun v3 y3 => gInt .i64 v3 fun z => unnil y3 (K a l c x z) :=
  a.elim fun a c r => g a c (Own1.of_got r rfl (Nat.le_refl _) (Nat.le_refl _))
/-- keeps once the lists are written over. -/
theorem keeps_D4 {h0 h : Hp} {A B Q : Nat} {aw au a1 a2 a3 a4 : Option Addr} {cw cu c1 c2 c3 c4 lw mw lu mu l1 m1 l2 m2 l3 m3 l4 m4 la lb : Nat} {V U : List Nat} {ws bs : List Nat} {k n x : Int}
    (k0 : Keep h0 h) (hA : h0.size ≤ A) (hAB : A < B) (hBQ : B < Q) (oA : Mine h A ws) (oB : Mine h B bs) (hla : la = ws.length) (hlb : lb = bs.length) (sA : la ≤ 17592186043904) (sB : lb ≤ 17592186043904) (cA : cellsN h A = some (la + 80)) (cB : cellsN h B = some (lb + 80))
    (oQ : BlkV h Q [.int .i64 k, .slice (some ⟨A, 0, none⟩) la (la + 80), .slice (some ⟨B, 0, none⟩) lb (lb + 80), .int .i64 n, .int .u64 x]) (hk : In .i64 k) (hn : In .i64 n) (hx : In .u64 x)
    (w : Own1 lw mw h (aw, V.length, cw) V) (u : Own1 lu mu h (au, U.length, cu) U) (x1 : Own1 l1 m1 h (a1, V.length, c1) V) (x2 : Own1 l2 m2 h (a2, V.length, c2) V) (x3 : Own1 l3 m3 h (a3, U.length, c3) U) (x4 : Own1 l4 m4 h (a4, V.length, c4) V)
    (ow : mw ≤ A) (ou : mu ≤ A) (o1 : B < l1) (d1 : l1 ≤ m1) (o2 : m1 ≤ l2) (d2 : l2 ≤ m2) (o3 : m2 ≤ l3) (d3 : l3 ≤ m3) (o4 : m3 ≤ l4) (d4 : l4 ≤ m4) (d5 : m4 ≤ h.size) (sV : V.length ≤ 8192) (sU : U.length ≤ 8192) :
    gnomonlaw01_keeps.D4.t (KpR h0) aw V.length cw au U.length cu (some ⟨A, 0, none⟩) la (la + 80) (some ⟨A, 0, none⟩) (la + 80) (la + 80) (some ⟨B, 0, none⟩) lb (lb + 80) (some ⟨B, 0, none⟩) (lb + 80) (lb + 80) ⟨Q, 0, none⟩ a1 V.length c1 a2 V.length c2 a3 U.length c3 a4 V.length c4 h := by
  subst hla; subst hlb
  unfold gnomonlaw01_keeps.D4.t
  have rA : Rd h (some ⟨A, 0, none⟩) (ws.length + 80) ws := oA.rd (by omega)
  have rB : Rd h (some ⟨B, 0, none⟩) (bs.length + 80) bs := oB.rd (by omega)
  refine ldI oQ rfl ?_
  refine ldS oQ rfl ?_
  refine ldS oQ rfl ?_
  refine ldI oQ rfl ?_
  refine ldI oQ rfl ?_
  refine hc_intro (gnomonlaw01_twin.hv hk rA rfl rB rfl hn hx) fun v h1 ⟨k1, a', c', b', d', ev, _, r1, s1, _, _⟩ => ?_
  subst ev
  refine gAgg_intro rfl (uncons_intro (gInt_intro rfl (uncons_intro (gSlice_intro rfl (uncons_intro (gSlice_intro rfl (uncons_intro (gInt_intro rfl (uncons_intro (gInt_intro rfl (unnil_intro ?_)))))))))))
  have r1 := r1.rd64; have s1 := s1.rd64
  refine boxV fun h2 o2' k2 => ?_
  refine st5 o2' rfl fun h3 o3' k3 => ?_
  have k13 : Keep h1 h3 := k3.keep k2 (Nat.le_refl _)
  refine ldI o3' rfl ?_
  refine ldS o3' rfl ?_
  refine ldS o3' rfl ?_
  refine ldI o3' rfl ?_
  refine ldI o3' rfl ?_
  refine hc_intro (doc_ls hk (r1.keep k13) rfl (s1.keep k13) rfl hn hx) fun v h4 ⟨k4, an⟩ => ?_
  refine Ans3.elimO an fun az cz z => ?_
  have k04 : Keep h h4 := k1.trans (k13.trans k4)
  have oQ4 := oQ.keep k04
  refine ldI oQ4 rfl ?_
  refine ldS oQ4 rfl ?_
  refine ldS oQ4 rfl ?_
  refine ldI oQ4 rfl ?_
  refine ldI oQ4 rfl ?_
  refine hc_intro (list_ls hk (rA.keep k04) rfl (rB.keep k04) rfl hn hx) fun v h5 ⟨k5, an⟩ => ?_
  refine Ans3.elimO an fun a5 c5 x5 => ?_
  have k05 := k04.trans k5
  refine c_ne (fun hh => absurd rfl hh) fun _ => ?_
  have z := z.keep k5
  refine Same_intro x5.rd z.rd rfl rfl ?_
  refine c_not (fun hh => absurd hh (by simp)) fun _ => ?_
  have o35 := o3'.keep (k4.trans k5)
  refine ldS o35 rfl ?_
  refine Same_intro (rA.keep k05) (r1.keep (k13.trans (k4.trans k5))) rfl rfl ?_
  refine c_not (fun hh => absurd hh (by simp)) fun _ => ?_
  refine ldS o35 rfl ?_
  refine Same_intro (rB.keep k05) (s1.keep (k13.trans (k4.trans k5))) rfl rfl ?_
  refine c_not (fun hh => absurd hh (by simp)) fun _ => ?_
  obtain ⟨ra, wa, la'⟩ := Mine.room (q := A) oA (KeepB.refl _ _) cA
  obtain ⟨rb, wb, lb'⟩ := Mine.room (q := B) oB (KeepB.refl _ _) cB
  have z1 := oQ.lt; have z2 := k1.le; have z3 := k13.le; have z4 := k4.le; have z5 := k5.le
  have sL := lsV_small k ws bs n x hx oA.words
  exact keeps_D5 (k0.trans k05) hA hAB (wa.keep k05) (wb.keep k05) (by omega) (by omega) la'.symm la'.symm lb'.symm lb'.symm (w.keep k05) (u.keep k05) (x1.keep k05) (x2.keep k05) (x3.keep k05) (x4.keep k05) z x5 ow ou o1 d1 o2 d2 o3 d3 o4 d4 (by omega) (by omega) (Nat.le_refl _) (by omega) (by omega) (by omega) (Nat.le_trans sL (by decide))
theorem keeps_spec {h : Hp} {a b a' b' : Option Addr} {c d c' d' l m l' m' : Nat} {xs ys us vs : List Nat} {k n x k' n' x' : Int}
    (hk : In .i64 k) (r : Rd h a c xs) (s : Rd h b d ys) (hl : l = xs.length) (hm : m = ys.length) (hn : In .i64 n) (hw : In .u64 x) (hx : xs.length ≤ 17592186043904) (hy : ys.length ≤ 17592186043904)
    (hk' : In .i64 k') (r' : Rd h a' c' us) (s' : Rd h b' d' vs) (hl' : l' = us.length) (hm' : m' = vs.length) (hn' : In .i64 n') (hw' : In .u64 x') :
    HC gnomonlaw01_keeps.id #[.agg #[.int .i64 k, .slice a l c, .slice b m d, .int .i64 n, .int .u64 x], .agg #[.int .i64 k', .slice a' l' c', .slice b' m' d', .int .i64 n', .int .u64 x']] h fun v h' => Keep h h' ∧ v = .bool true := by
  subst hl; subst hm; subst hl'; subst hm'
  refine gnomonlaw01_keeps.ok ?_
  unfold gnomonlaw01_keeps.t gnomonlaw01_keeps.D1.t
  refine boxV fun h1 p1 k1 => ?_
  refine boxV fun h2 p3 k2 => ?_
  have k02 := k1.trans k2
  have p1 := p1.keep k2
  refine ldI p1 rfl ?_
  refine ldS p1 rfl ?_
  refine ldS p1 rfl ?_
  refine ldI p1 rfl ?_
  refine ldI p1 rfl ?_
  refine hc_intro (doc_ls hk (r.keep k02) rfl (s.keep k02) rfl hn hw) fun v h4 ⟨k4, an⟩ => ?_
  refine Ans3.elimO an fun aw cw w => ?_
  have p34 := p3.keep k4
  refine ldI p34 rfl ?_
  refine ldS p34 rfl ?_
  refine ldS p34 rfl ?_
  refine ldI p34 rfl ?_
  refine ldI p34 rfl ?_
  have k04 := k02.trans k4
  refine hc_intro (doc_ls hk' (r'.keep k04) rfl (s'.keep k04) rfl hn' hw') fun v h6 ⟨k6, an⟩ => ?_
  refine Ans3.elimO an fun au cu u => ?_
  have k06 := k04.trans k6
  have w := w.keep k6
  have p16 := p1.keep (k4.trans k6)
  have p36 := p34.keep k6
  refine ldS p16 rfl ?_
  refine hc_intro (Spare_spec (r.keep k06) rfl (by omega)) fun v h7 ⟨k7, A, hA, ev, oA⟩ => ?_
  subst ev
  refine gTup_intro rfl (uncons_intro (gSlice_intro rfl (uncons_intro (gSlice_intro rfl (unnil_intro ?_)))))
  refine ldS (p16.keep k7) rfl ?_
  refine hc_intro (Spare_spec (s.keep (k06.trans k7)) rfl (by omega)) fun v h8 ⟨k8, B, hB, ev, oB⟩ => ?_
  subst ev
  refine gTup_intro rfl (uncons_intro (gSlice_intro rfl (uncons_intro (gSlice_intro rfl (unnil_intro ?_)))))
  have k68 := k7.trans k8
  have p18 := p16.keep k68
  refine ldI p18 rfl ?_
  refine ldI p18 rfl ?_
  refine ldI p18 rfl ?_
  refine boxV fun h9 p9 k9 => ?_
  refine st5 p9 rfl fun h10 oQ k10 => ?_
  have k810 : Keep h8 h10 := k10.keep k9 (Nat.le_refl _)
  refine ldI oQ rfl ?_
  refine ldS oQ rfl ?_
  refine ldS oQ rfl ?_
  refine ldI oQ rfl ?_
  refine ldI oQ rfl ?_
  have hAl : A < h7.size := oA.lt
  have oA := oA.keep (k8.trans k810)
  have hBl : B < h8.size := oB.lt
  have oB := oB.keep k810
  have mA : Mine h10 A xs := ⟨_, oA⟩
  have mB : Mine h10 B ys := ⟨_, oB⟩
  have rA : Rd h10 (some ⟨A, 0, none⟩) (xs.length + 80) xs := mA.rd (by omega)
  have rB : Rd h10 (some ⟨B, 0, none⟩) (ys.length + 80) ys := mB.rd (by omega)
  have fA : Rd h10 (some ⟨A, 0, none⟩) (xs.length + 80) (xs ++ marks xs.length) := oA.rd (by simp [marks_len])
  have fB : Rd h10 (some ⟨B, 0, none⟩) (ys.length + 80) (ys ++ marks ys.length) := oB.rd (by simp [marks_len])
  have k010 := k06.trans (k68.trans k810)
  refine hc_intro (list_ls hk rA rfl rB rfl hn hw) fun v h11 ⟨k11, an⟩ => ?_
  refine Ans3.elimO an fun a1 c1 x1 => ?_
  refine c_ne (fun hh => absurd rfl hh) fun _ => ?_
  have w := w.keep (k68.trans (k810.trans k11))
  have u := u.keep (k68.trans (k810.trans k11))
  refine Same_intro x1.rd w.rd rfl rfl ?_
  refine c_not (fun hh => absurd hh (by simp)) fun _ => ?_
  have k011 := k010.trans k11
  have p111 := p18.keep (k810.trans k11)
  have p311 := p36.keep (k68.trans (k810.trans k11))
  refine ldS p111 rfl ?_
  refine Kept_intro (fA.keep k11) (r.keep k011) rfl rfl ?_
  refine c_not (fun hh => absurd hh (by simp)) fun _ => ?_
  refine ldS p111 rfl ?_
  refine Kept_intro (fB.keep k11) (s.keep k011) rfl rfl ?_
  refine c_not (fun hh => absurd hh (by simp)) fun _ => ?_
  unfold gnomonlaw01_keeps.D2.t
  have oQ11 := oQ.keep k11
  refine ldI oQ11 rfl ?_
  refine ldS oQ11 rfl ?_
  refine ldS oQ11 rfl ?_
  refine ldI oQ11 rfl ?_
  refine ldI oQ11 rfl ?_
  refine hc_intro (list_ls hk (rA.keep k11) rfl (rB.keep k11) rfl hn hw) fun v h12 ⟨k12, an⟩ => ?_
  refine Ans3.elimO an fun a2 c2 x2 => ?_
  have p312 := p311.keep k12
  refine ldI p312 rfl ?_
  refine ldS p312 rfl ?_
  refine ldS p312 rfl ?_
  refine ldI p312 rfl ?_
  refine ldI p312 rfl ?_
  have k012 := k011.trans k12
  refine hc_intro (gnomonlaw01_twin.hv hk' (r'.keep k012) rfl (s'.keep k012) rfl hn' hw') fun v h13 ⟨k13, a13, c13, b13, d13, ev, _, r13, s13, _, _⟩ => ?_
  subst ev
  refine gAgg_intro rfl (uncons_intro (gInt_intro rfl (uncons_intro (gSlice_intro rfl (uncons_intro (gSlice_intro rfl (uncons_intro (gInt_intro rfl (uncons_intro (gInt_intro rfl (unnil_intro ?_)))))))))))
  refine hc_intro (list_ls hk' r13.rd64 rfl s13.rd64 rfl hn' hw') fun v h14 ⟨k14, an⟩ => ?_
  refine Ans3.elimO an fun a3 c3 x3 => ?_
  have k1114 := k12.trans (k13.trans k14)
  have oQ14 := oQ11.keep k1114
  refine ldI oQ14 rfl ?_
  refine ldS oQ14 rfl ?_
  refine ldS oQ14 rfl ?_
  refine ldI oQ14 rfl ?_
  refine ldI oQ14 rfl ?_
  have k1014 := k11.trans k1114
  refine hc_intro (list_ls hk (rA.keep k1014) rfl (rB.keep k1014) rfl hn hw) fun v h15 ⟨k15, an⟩ => ?_
  refine Ans3.elimO an fun a4 c4 x4 => ?_
  have k1015 := k1014.trans k15
  have k1115 := k1114.trans k15
  have k015 := k010.trans k1015
  have w := w.keep k1115
  have u := u.keep k1115
  have x1 := x1.keep k1115
  have x2 := x2.keep (k13.trans (k14.trans k15))
  have x3 := x3.keep k15
  have p115 := p111.keep k1115
  refine ldS p115 rfl ?_
  refine Kept_intro (fA.keep k1015) (r.keep k015) rfl rfl ?_
  refine c_not (fun hh => absurd hh (by simp)) fun _ => ?_
  refine ldS p115 rfl ?_
  refine Kept_intro (fB.keep k1015) (s.keep k015) rfl rfl ?_
  refine c_not (fun hh => absurd hh (by simp)) fun _ => ?_
  unfold gnomonlaw01_keeps.D3.t
  refine Same_intro x1.rd w.rd rfl rfl ?_
  refine c_not (fun hh => absurd hh (by simp)) fun _ => ?_
  refine Same_intro x2.rd w.rd rfl rfl ?_
  refine c_not (fun hh => absurd hh (by simp)) fun _ => ?_
  refine Same_intro x3.rd u.rd rfl rfl ?_
  refine c_not (fun hh => absurd hh (by simp)) fun _ => ?_
  refine Same_intro x4.rd w.rd rfl rfl ?_
  refine c_not (fun hh => absurd hh (by simp)) fun _ => ?_
  have oA := oA.keep k1015
  have oB := oB.keep k1015
  have oQ := oQ.keep k1015
  have cA : cellsN h15 A = some (xs.length + 80) := by rw [oA.cellsN, List.length_append, marks_len]
  have cB : cellsN h15 B = some (ys.length + 80) := by rw [oB.cellsN, List.length_append, marks_len]
  have z6 := k06.le; have z46 := k6.le
  have y1 := k7.le; have y2 := k8.le; have y3 := k810.le; have y4 := k11.le; have y5 := k12.le; have y6 := k13.le; have y7 := k14.le; have y8 := k15.le
  have zA := oA.lt; have zB := oB.lt
  unfold gnomonlaw01_keeps.D12.t
  refine ⟨xs.length + 1, keeps_L13 hx (fun h16 ws lws mA' kA => ?_) xs.length 0 h15 xs (by omega) rfl (mA.keep k1015) (KeepB.refl _ _)⟩
  unfold gnomonlaw01_keeps.D7.t
  have mB' : Mine h16 B ys := (mB.keep k1015).keepB (by omega) kA
  refine ⟨ys.length + 1, keeps_L8 hy (fun h17 bs lbs mB'' kB => ?_) ys.length 0 h16 ys (by omega) rfl mB' (KeepB.refl _ _)⟩
  have hAh : h.size ≤ A := by omega
  have oQ' := (oQ.keepB (show h8.size ≠ A by omega) kA).keepB (show h8.size ≠ B by omega) kB
  have sz := Nat.le_trans kA.le kB.le
  exact keeps_D4 (A := A) (B := B) (kB.keep (kA.keep k015 hAh) (by omega)) hAh (by omega) (by omega) (mA'.keepB (by omega) kB) mB'' lws.symm lbs.symm hx hy (kB.cells_ne (by omega) (kA.len _ cA)) (kB.len _ (kA.cells_ne (by omega) cB)) oQ' hk hn hw
    ((w.keepB (.inr (by omega)) kA).keepB (.inr (by omega)) kB) ((u.keepB (.inr (by omega)) kA).keepB (.inr (by omega)) kB) ((x1.keepB (.inl (by omega)) kA).keepB (.inl (by omega)) kB) ((x2.keepB (.inl (by omega)) kA).keepB (.inl (by omega)) kB) ((x3.keepB (.inl (by omega)) kA).keepB (.inl (by omega)) kB) ((x4.keepB (.inl (by omega)) kA).keepB (.inl (by omega)) kB)
    (by omega) (by omega) (by omega) (by omega) (by omega) (by omega) (by omega) (by omega) (by omega) (by omega) sz (lsV_small _ _ _ _ _ hw r.words) (lsV_small _ _ _ _ _ hw' r'.words)
section
variable {h : Hp} {a b a' b' : Option Addr} {c d l m c' d' l' m' : Nat} {xs ys : List Nat} {k n w : Int}
theorem says_spec (tb : Tab h) (r : Rd h a c xs) (s : Rd h b d ys) (hl : l = xs.length) (hm : m = ys.length) (r' : Rd h a' c' xs) (s' : Rd h b' d' ys) (hl' : l' = xs.length) (hm' : m' = ys.length) (hn : In .i64 n) :
    HC gnomonlaw01_says.id #[.agg #[.int .i64 k, .slice a l c, .slice b m d, .int .i64 n, .int .u64 w], .slice a' l' c', .slice b' m' d'] h fun v h' => Keep h h' ∧ v = .bool true := by
  subst hl; subst hm; subst hl'; subst hm'
  refine gnomonlaw01_says.ok ?_
  unfold gnomonlaw01_says.t gnomonlaw01_says.D1.t
  refine boxV fun h1 o1 k1 => ?_
  have r1 := r.keep k1; have s1 := s.keep k1; have r1' := r'.keep k1; have s1' := s'.keep k1; have tb1 := tb.keep k1
  refine ldI o1 rfl ?_
  refine c_eq (fun hk => ?_) fun hk1 => ?_
  · refine hc_intro (nat_Form.hv r1' rfl) fun v h2 ⟨k2, e⟩ => ?_
    have e : v = _ := e; subst e
    refine gBool_intro rfl ⟨k2.preLe (Nat.le_refl _), o1.addLt 1, ?_⟩
    refine ldS (o1.keep k2) rfl ?_
    refine hc_intro (gnomonref01_DocForm.hv (r1.keep k2) rfl) fun v h3 ⟨k3, e⟩ => ?_
    have e : v = _ := e; subst e
    exact gBool_intro rfl ⟨k3.preLe k2.le, k1.trans (k2.trans k3), by simp⟩
  refine c_eq (fun hk => ?_) fun hk2 => ?_
  · refine hc_intro (nat_Bits.hv r1' rfl) fun v h2 ⟨k2, e, _⟩ => ?_
    subst e
    refine gInt_intro rfl ⟨k2.preLe (Nat.le_refl _), o1.addLt 1, ?_⟩
    refine ldS (o1.keep k2) rfl ?_
    refine hc_intro (gnomonref01_DocBits.hv (r1.keep k2) rfl) fun v h3 ⟨k3, e, _⟩ => ?_
    subst e
    exact gInt_intro rfl ⟨k3.preLe k2.le, k1.trans (k2.trans k3), by simp⟩
  refine c_eq (fun hk => ?_) fun hk3 => ?_
  · refine hc_intro (nat_Trail.hv r1' rfl tb1) fun v h2 ⟨k2, e, _⟩ => ?_
    subst e
    refine gInt_intro rfl ⟨k2.preLe (Nat.le_refl _), o1.addLt 1, ?_⟩
    refine ldS (o1.keep k2) rfl ?_
    refine hc_intro (gnomonref01_DocTrail.hv (r1.keep k2) rfl) fun v h3 ⟨k3, e, _⟩ => ?_
    subst e
    exact gInt_intro rfl ⟨k3.preLe k2.le, k1.trans (k2.trans k3), by simp⟩
  refine c_eq (fun hk => ?_) fun hk4 => ?_
  · refine ⟨o1.addLt 3, ?_⟩
    refine ldI o1 rfl ?_
    refine hc_intro (nat_Bit.hv r1' rfl hn) fun v h2 ⟨k2, e⟩ => ?_
    have e : v = _ := e; subst e
    refine gBool_intro rfl ⟨k2.preLe (Nat.le_refl _), o1.addLt 1, ?_⟩
    refine ldS (o1.keep k2) rfl ?_
    refine ⟨o1.addLt 3, ?_⟩
    refine ldI (o1.keep k2) rfl ?_
    refine hc_intro (gnomonref01_DocBit.hv (r1.keep k2) rfl hn) fun v h3 ⟨k3, e⟩ => ?_
    have e : v = _ := e; subst e
    exact gBool_intro rfl ⟨k3.preLe k2.le, k1.trans (k2.trans k3), by simp⟩
  refine c_eq (fun hk => ?_) fun hk5 => ?_
  · refine hc_intro (nat_Cmp.hv r1' rfl s1' rfl) fun v h2 ⟨k2, e, _⟩ => ?_
    subst e
    refine gInt_intro rfl ⟨k2.preLe (Nat.le_refl _), o1.addLt 1, ?_⟩
    refine ldS (o1.keep k2) rfl ?_
    refine ⟨o1.addLt 2, ?_⟩
    refine ldS (o1.keep k2) rfl ?_
    refine hc_intro (gnomonref01_DocCmp.hv (r1.keep k2) rfl (s1.keep k2) rfl) fun v h3 ⟨k3, e, _⟩ => ?_
    subst e
    exact gInt_intro rfl ⟨k3.preLe k2.le, k1.trans (k2.trans k3), by simp⟩
  · exact ⟨k1, rfl⟩
end
theorem leaves_L5 {R : Rt} {a3 a4 a6 : Option Addr} {l3 c3 l4 c4 l6 c6 c5 : Nat} {q1 : Addr} {B n : Nat} {h : Hp} {tl : List Nat} (hn : n ≤ 17592186043904)
    (g : ∀ h' ws, ws.length = n → Own h' B (ws ++ tl) → KeepB B h h' → gnomonlaw01_leaves.D2.t R q1 a3 l3 c3 a4 l4 c4 (some ⟨B, 0, none⟩) n c5 a6 l6 c6 h') :
    ∀ (k i : Nat) (h' : Hp) (ws : List Nat), i + k = n → ws.length = n → Own h' B (ws ++ tl) → KeepB B h h' → gnomonlaw01_leaves.L5.t R (k + 1) q1 a3 l3 c3 a4 l4 c4 (some ⟨B, 0, none⟩) n c5 a6 l6 c6 (i : Int) h' := by
  intro k
  induction k with
  | zero =>
    intro i h' ws hik hw o kp
    unfold gnomonlaw01_leaves.L5.t gnomonlaw01_leaves.D6.t
    exact c_dec (fun hb => absurd hb (by omega)) fun _ => g h' ws hw o kp
  | succ k ih =>
    intro i h' ws hik hw o kp
    unfold gnomonlaw01_leaves.L5.t gnomonlaw01_leaves.D6.t
    refine c_dec (fun _ => ?_) fun hb => absurd (by omega) hb
    refine at_intro (Mine.rd (c := n) ⟨_, o⟩ (by omega)) (j := i) rfl hw.symm (by omega) ?_
    refine ⟨⟨by decide, ⟨?_⟩⟩⟩
    refine own_put o (j := i) rfl hw (by omega) (u64_nat _) (u64_lt _) fun o2 k2 => ?_
    refine k_i64 ((i + 1 : Nat) : Int) (by omega) (by omega) (by omega) ?_
    exact ih (i + 1) _ _ (by omega) (by simp [hw]) o2 (kp.trans k2)
theorem leaves_L10 {R : Rt} {a4 a5 a6 : Option Addr} {l4 c4 l5 c5 l6 c6 c3 : Nat} {q1 : Addr} {B n : Nat} {h : Hp} {tl : List Nat} (hn : n ≤ 17592186043904)
    (g : ∀ h' ws, ws.length = n → Own h' B (ws ++ tl) → KeepB B h h' → gnomonlaw01_leaves.D4.t R q1 (some ⟨B, 0, none⟩) n c3 a4 l4 c4 a5 l5 c5 a6 l6 c6 h') :
    ∀ (k i : Nat) (h' : Hp) (ws : List Nat), i + k = n → ws.length = n → Own h' B (ws ++ tl) → KeepB B h h' → gnomonlaw01_leaves.L10.t R (k + 1) q1 (some ⟨B, 0, none⟩) n c3 a4 l4 c4 a5 l5 c5 a6 l6 c6 (i : Int) h' := by
  intro k
  induction k with
  | zero =>
    intro i h' ws hik hw o kp
    unfold gnomonlaw01_leaves.L10.t gnomonlaw01_leaves.D11.t
    exact c_dec (fun hb => absurd hb (by omega)) fun _ => g h' ws hw o kp
  | succ k ih =>
    intro i h' ws hik hw o kp
    unfold gnomonlaw01_leaves.L10.t gnomonlaw01_leaves.D11.t
    refine c_dec (fun _ => ?_) fun hb => absurd (by omega) hb
    refine at_intro (Mine.rd (c := n) ⟨_, o⟩ (by omega)) (j := i) rfl hw.symm (by omega) ?_
    refine ⟨⟨by decide, ⟨?_⟩⟩⟩
    refine own_put o (j := i) rfl hw (by omega) (u64_nat _) (u64_lt _) fun o2 k2 => ?_
    refine k_i64 ((i + 1 : Nat) : Int) (by omega) (by omega) (by omega) ?_
    exact ih (i + 1) _ _ (by omega) (by simp [hw]) o2 (kp.trans k2)
theorem leaves_D3 {h0 h : Hp} {A B Q : Nat} {aa ab : Option Addr} {ca cb : Nat} {ws bs : List Nat} {k n w : Int} (tb : Tab h) (k0 : Keep h0 h) (oA : Own h A (ws ++ marks ws.length)) (oB : Own h B (bs ++ marks bs.length))
    (oQ : BlkV h Q [.int .i64 k, .slice aa ws.length ca, .slice ab bs.length cb, .int .i64 n, .int .u64 w]) (r : Rd h aa ca ws) (s : Rd h ab cb bs) (hn : In .i64 n) {la lb ma mb : Nat} (hla : la = ws.length) (hlb : lb = bs.length) (hma : ma = ws.length + 80) (hmb : mb = bs.length + 80) :
    gnomonlaw01_leaves.D3.t (KpR h0) (some ⟨A, 0, none⟩) la ma (some ⟨A, 0, none⟩) ma ma (some ⟨B, 0, none⟩) lb mb (some ⟨B, 0, none⟩) mb mb ⟨Q, 0, none⟩ h := by
  subst hla; subst hlb; subst hma; subst hmb
  have mA : Mine h A ws := ⟨_, oA⟩
  have mB : Mine h B bs := ⟨_, oB⟩
  unfold gnomonlaw01_leaves.D3.t
  refine ldI oQ rfl ?_
  refine ldS oQ rfl ?_
  refine ldS oQ rfl ?_
  refine ldI oQ rfl ?_
  refine ldI oQ rfl ?_
  refine hc_intro (says_spec tb r s rfl rfl (mA.rd (c := ws.length + 80) (by omega)) (mB.rd (c := bs.length + 80) (by omega)) rfl rfl hn) fun v h1 ⟨k1, e⟩ => ?_
  subst e
  refine gBool_intro rfl ?_
  refine c_bool (fun _ => ?_) fun hh => absurd hh (by simp)
  refine ldS (oQ.keep k1) rfl ?_
  refine Kept_intro ((oA.rd (c := ws.length + 80) (by simp [marks_len])).keep k1) (r.keep k1) rfl rfl ?_
  refine c_bool (fun _ => ?_) fun hh => absurd hh (by simp)
  refine ldS (oQ.keep k1) rfl ?_
  refine Kept_intro ((oB.rd (c := bs.length + 80) (by simp [marks_len])).keep k1) (s.keep k1) rfl rfl ?_
  exact ⟨k0.trans k1, rfl⟩
theorem leaves_D2 {h0 h : Hp} {A B Q : Nat} {aa ab : Option Addr} {ca cb : Nat} {ws bs xs ys : List Nat} {k n w : Int} (tb : Tab h) (k0 : Keep h0 h) (oA : Own h A (ws ++ marks ws.length)) (oB : Own h B (bs ++ marks bs.length))
    (oQ : BlkV h Q [.int .i64 k, .slice aa xs.length ca, .slice ab ys.length cb, .int .i64 n, .int .u64 w]) (hn : In .i64 n) {la lb ma mb : Nat} (hla : la = ws.length) (hlb : lb = bs.length) (hma : ma = ws.length + 80) (hmb : mb = bs.length + 80) :
    gnomonlaw01_leaves.D2.t (KpR h0) ⟨Q, 0, none⟩ (some ⟨A, 0, none⟩) la ma (some ⟨A, 0, none⟩) ma ma (some ⟨B, 0, none⟩) lb mb (some ⟨B, 0, none⟩) mb mb h := by
  subst hla; subst hlb; subst hma; subst hmb
  have rA : Rd h (some ⟨A, 0, none⟩) (ws.length + 80) ws := Mine.rd ⟨_, oA⟩ (by omega)
  have rB : Rd h (some ⟨B, 0, none⟩) (bs.length + 80) bs := Mine.rd ⟨_, oB⟩ (by omega)
  have fin : ∀ (h1 : Hp) (q : Nat) (vs : List Value) (a1 : Option Addr) (c1 : Nat) (b1 : Option Addr) (d1 : Nat), Keep h h1 → h.size ≤ q → BlkV h1 q vs → vs.length = 5 → Rd h1 a1 c1 ws → Rd h1 b1 d1 bs → (∀ p, a1 = some p → p.block ≠ q) → (∀ p, b1 = some p → p.block ≠ q) →
      stK h1 ((⟨q, 0, none⟩ : Addr).add 0) (.int .i64 k) fun h33 => stK h33 ((⟨q, 0, none⟩ : Addr).add 1) (.slice a1 ws.length c1) fun h34 => stK h34 ((⟨q, 0, none⟩ : Addr).add 2) (.slice b1 bs.length d1) fun h35 => stK h35 ((⟨q, 0, none⟩ : Addr).add 3) (.int .i64 n) fun h36 => stK h36 ((⟨q, 0, none⟩ : Addr).add 4) (.int .u64 0) fun h37 =>
        gnomonlaw01_leaves.D3.t (KpR h0) (some ⟨A, 0, none⟩) ws.length (ws.length + 80) (some ⟨A, 0, none⟩) (ws.length + 80) (ws.length + 80) (some ⟨B, 0, none⟩) bs.length (bs.length + 80) (some ⟨B, 0, none⟩) (bs.length + 80) (bs.length + 80) ⟨q, 0, none⟩ h37 := by
    intro h1 q vs a1 c1 b1 d1 k1 hq o hl ra rb na nb
    refine st5 o hl fun h2 o2 k2 => ?_
    have k02 := k2.keep k1 hq
    exact leaves_D3 (tb.keep k02) (k0.trans k02) (oA.keep k02) (oB.keep k02) o2 (ra.keepB (fun p ep => na p ep) k2) (rb.keepB (fun p ep => nb p ep) k2) hn rfl rfl rfl rfl
  unfold gnomonlaw01_leaves.D2.t
  refine ⟨oQ.addLt 0, ?_⟩
  refine ldI oQ rfl ?_
  refine ⟨oQ.addLt 3, ?_⟩
  refine ldI oQ rfl ?_
  refine ⟨?_, ?_⟩
  · refine hc_intro (gnomonref01_Twin.hv rA rfl) fun v h1 ⟨k1, a1, c1, e, g1⟩ => ?_
    subst e
    refine gSlice_intro rfl ⟨k1.preLe (Nat.le_refl _), ?_, ?_⟩
    · refine hc_intro (gnomonref01_Twin.hv (rB.keep k1) rfl) fun v h2 ⟨k2, b1, d1, e, g2⟩ => ?_
      subst e
      refine gSlice_intro rfl ⟨k2.preLe k1.le, ?_⟩
      refine boxV fun h3 o3 k3 => ⟨k3.preLe (k1.trans k2).le, ?_⟩
      have l1 := (Own1.of_got g1 rfl (Nat.le_refl _) (Nat.le_refl _)).block
      have l2 := (Own1.of_got g2 rfl (Nat.le_refl _) (Nat.le_refl _)).block
      have z1 := k1.le; have z2 := k2.le
      exact fin h3 h2.size _ a1 c1 b1 d1 (k1.trans (k2.trans k3)) (k1.trans k2).le o3 rfl ((g1.keep (k2.trans k3)).rd64) ((g2.keep k3).rd64) (fun p ep => by have := l1 p ep; omega) (fun p ep => by have := l2 p ep; omega)
    · refine boxV fun h2 o2 k2 => ⟨k2.preLe k1.le, ?_⟩
      have lt2 := o2.lt
      refine hc_intro (gnomonref01_Twin.hv (rB.keep (k1.trans k2)) rfl) fun v h3 ⟨k3, b1, d1, e, g2⟩ => ?_
      subst e
      refine gSlice_intro rfl ⟨k3.preLe (k1.trans k2).le, ?_⟩
      have l1 := (Own1.of_got g1 rfl (Nat.le_refl _) (Nat.le_refl _)).block
      have l2 := (Own1.of_got g2 rfl (Nat.le_refl _) (Nat.le_refl _)).block
      exact fin h3 h1.size _ a1 c1 b1 d1 (k1.trans (k2.trans k3)) k1.le (o2.keep k3) rfl ((g1.keep (k2.trans k3)).rd64) (g2.rd64) (fun p ep => by have := l1 p ep; omega) (fun p ep => by have := l2 p ep; omega)
  · refine boxV fun h1 o1 k1 => ⟨k1.preLe (Nat.le_refl _), ?_⟩
    have lt1 := o1.lt
    refine hc_intro (gnomonref01_Twin.hv (rA.keep k1) rfl) fun v h2 ⟨k2, a1, c1, e, g1⟩ => ?_
    subst e
    refine gSlice_intro rfl ⟨k2.preLe k1.le, ?_⟩
    refine hc_intro (gnomonref01_Twin.hv (rB.keep (k1.trans k2)) rfl) fun v h3 ⟨k3, b1, d1, e, g2⟩ => ?_
    subst e
    refine gSlice_intro rfl ⟨k3.preLe (k1.trans k2).le, ?_⟩
    have l1 := (Own1.of_got g1 rfl (Nat.le_refl _) (Nat.le_refl _)).block
    have l2 := (Own1.of_got g2 rfl (Nat.le_refl _) (Nat.le_refl _)).block
    have z2 := k2.le
    exact fin h3 h.size _ a1 c1 b1 d1 (k1.trans (k2.trans k3)) (Nat.le_refl _) (o1.keep (k2.trans k3)) rfl ((g1.keep k3).rd64) (g2.rd64) (fun p ep => by have := l1 p ep; omega) (fun p ep => by have := l2 p ep; omega)
theorem leaves_spec {h : Hp} {a b : Option Addr} {c d l m : Nat} {xs ys : List Nat} {k n w : Int} (tb : Tab h) (r : Rd h a c xs) (s : Rd h b d ys) (hl : l = xs.length) (hm : m = ys.length) (hn : In .i64 n) (hx : xs.length ≤ 17592186043904) (hy : ys.length ≤ 17592186043904) :
    HC gnomonlaw01_leaves.id #[.agg #[.int .i64 k, .slice a l c, .slice b m d, .int .i64 n, .int .u64 w]] h fun v h' => Keep h h' ∧ v = .bool true := by
  subst hl; subst hm
  refine gnomonlaw01_leaves.ok ?_
  unfold gnomonlaw01_leaves.t gnomonlaw01_leaves.D1.t
  refine boxV fun h1 o1 k1 => ?_
  have lt1 := o1.lt
  refine ldS o1 rfl ?_
  refine hc_intro (Spare_spec (r.keep k1) rfl (by omega)) fun v h2 ⟨k2, A, hA, ev, oA⟩ => ?_
  subst ev
  refine gTup_intro rfl (uncons_intro (gSlice_intro rfl (uncons_intro (gSlice_intro rfl (unnil_intro ?_)))))
  refine ldS (o1.keep k2) rfl ?_
  refine hc_intro (Spare_spec (s.keep (k1.trans k2)) rfl (by omega)) fun v h3 ⟨k3, B, hB, ev, oB⟩ => ?_
  subst ev
  refine gTup_intro rfl (uncons_intro (gSlice_intro rfl (uncons_intro (gSlice_intro rfl (unnil_intro ?_)))))
  have k03 := k1.trans (k2.trans k3)
  have ltA := oA.lt
  have ltB := oB.lt
  have oA3 := oA.keep k3
  have oQ := o1.keep (k2.trans k3)
  unfold gnomonlaw01_leaves.D14.t
  refine ⟨2 + 1, ?_⟩
  have go : ∀ (t i : Nat) (h4 : Hp), i + t = 2 → Keep h3 h4 → gnomonlaw01_leaves.L15.t (KpR h) (t + 1) ⟨h.size, 0, none⟩ (some ⟨A, 0, none⟩) xs.length (xs.length + 80) (some ⟨A, 0, none⟩) (xs.length + 80) (xs.length + 80) (some ⟨B, 0, none⟩) ys.length (ys.length + 80) (some ⟨B, 0, none⟩) (ys.length + 80) (ys.length + 80) (i : Int) h4 := by
    intro t
    induction t with
    | zero =>
      intro i h4 hi k4
      unfold gnomonlaw01_leaves.L15.t gnomonlaw01_leaves.D16.t
      refine c_dec (fun hb => absurd hb (by omega)) fun _ => ?_
      unfold gnomonlaw01_leaves.D9.t
      have oA4 := oA3.keep k4
      have oB4 := oB.keep k4
      have oQ4 := oQ.keep k4
      have k04 := k03.trans k4
      refine ⟨xs.length + 1, leaves_L10 (tl := marks xs.length) hx (fun h5 ws lws oA5 kA => ?_) xs.length 0 h4 xs (by omega) rfl oA4 (KeepB.refl _ _)⟩
      unfold gnomonlaw01_leaves.D4.t
      refine ⟨ys.length + 1, leaves_L5 (tl := marks ys.length) hy (fun h6 bs lbs oB6 kB => ?_) ys.length 0 h5 ys (by omega) rfl (oB4.keepB (by omega) kA) (KeepB.refl _ _)⟩
      have oA6 := oA5.keepB (show A ≠ B by omega) kB
      have z1 := k1.le
      have k06 : Keep h h6 := kB.keep (kA.keep k04 (by omega)) (by omega)
      have oQ6 := (oQ4.keepB (show h.size ≠ A by omega) kA).keepB (show h.size ≠ B by omega) kB
      have mA : marks xs.length = marks ws.length := by rw [lws]
      have mB : marks ys.length = marks bs.length := by rw [lbs]
      rw [mA] at oA6; rw [mB] at oB6
      exact leaves_D2 (tb.keep k06) k06 oA6 oB6 oQ6 hn lws.symm lbs.symm (by omega) (by omega)
    | succ t ih =>
      intro i h4 hi k4
      unfold gnomonlaw01_leaves.L15.t gnomonlaw01_leaves.D16.t
      refine c_dec (fun _ => ?_) fun hb => absurd (by omega) hb
      have oQ4 := oQ.keep k4
      have k04 := k03.trans k4
      refine ldI oQ4 rfl ?_
      refine ldS oQ4 rfl ?_
      refine ldS oQ4 rfl ?_
      refine ldI oQ4 rfl ?_
      refine ldI oQ4 rfl ?_
      have oA4 := oA3.keep k4
      have oB4 := oB.keep k4
      refine hc_intro (says_spec (tb.keep k04) (r.keep k04) (s.keep k04) rfl rfl (Mine.rd (c := xs.length + 80) ⟨_, oA4⟩ (by omega)) (Mine.rd (c := ys.length + 80) ⟨_, oB4⟩ (by omega)) rfl rfl hn) fun v h5 ⟨k5, e⟩ => ?_
      subst e
      refine gBool_intro rfl ?_
      refine c_not (fun hh => absurd hh (by simp)) fun _ => ?_
      refine ldS (oQ4.keep k5) rfl ?_
      refine Kept_intro ((oA4.rd (c := xs.length + 80) (by simp [marks_len])).keep k5) (r.keep (k04.trans k5)) rfl rfl ?_
      refine c_not (fun hh => absurd hh (by simp)) fun _ => ?_
      refine ldS (oQ4.keep k5) rfl ?_
      refine Kept_intro ((oB4.rd (c := ys.length + 80) (by simp [marks_len])).keep k5) (s.keep (k04.trans k5)) rfl rfl ?_
      refine c_not (fun hh => absurd hh (by simp)) fun _ => ?_
      refine k_i64 ((i + 1 : Nat) : Int) (by omega) (by omega) (by omega) ?_
      exact ih (i + 1) h5 (by omega) (k4.trans k5)
  exact go 2 0 h3 (by omega) (Keep.refl _)
theorem keeps_walk {h0 hb : Hp} {Q : Nat} {a0 : Option Addr} {c0 : Nat} {os : List Op1} (r : RdOps1 hb a0 c0 os) (kb : Keep h0 hb) (tb : Tab hb) (hbQ : hb.size ≤ Q) :
    ∀ (k i : Nat) (h : Hp) (kL nL wL : Int) (a b : Option Addr) (c d : Nat) (xs ys : List Nat), i + k = os.length → Keep hb h → BlkV h Q [.int .i64 kL, .slice a xs.length c, .slice b ys.length d, .int .i64 nL, .int .u64 wL] → Rd hb a c xs → Rd hb b d ys → In .i64 kL → In .i64 nL → In .u64 wL → xs.length ≤ 17592186043904 → ys.length ≤ 17592186043904 →
      gnomonlaw01_NatKeeps.L5.t (KpR h0) (k + 1) ⟨Q, 0, none⟩ a0 os.length c0 (os.length : Int) (i : Int) h := by
  have h1 : os.length ≤ 1954687338211 := r.len
  intro k
  induction k with
  | zero =>
    intro i h kL nL wL a b c d xs ys hik kp oL rL sL ikL iL iw zx zy
    unfold gnomonlaw01_NatKeeps.L5.t gnomonlaw01_NatKeeps.D6.t
    refine c_dec (fun hb => absurd hb (by omega)) fun _ => ?_
    unfold gnomonlaw01_NatKeeps.D3.t
    exact ⟨kb.trans kp, rfl⟩
  | succ k ih =>
    intro i h kL nL wL a b c d xs ys hik kp oL rL sL ikL iL iw zx zy
    unfold gnomonlaw01_NatKeeps.L5.t gnomonlaw01_NatKeeps.D6.t
    refine c_dec (fun _ => ?_) fun hb => absurd (by omega) hb
    obtain ⟨o, ho⟩ : ∃ o, os[i]? = some o := ⟨os[i]'(by omega), by simp⟩
    refine at_list r rfl rfl ho fun q vs hvs rl s => ?_
    obtain ⟨a1, c1, b1, d1, e0, e1, e2, e3, e4, i0, r1, r2, i3, i4, z1, z2⟩ := op1_open2 rl s
    refine ldC (kp.cell e0) ?_
    refine gInt_intro rfl ?_
    refine ldC (kp.cell e1) ?_
    refine gSlice_intro rfl ?_
    refine ldC (kp.cell e2) ?_
    refine gSlice_intro rfl ?_
    refine ldC (kp.cell e3) ?_
    refine gInt_intro rfl ?_
    refine ldC (kp.cell e4) ?_
    refine gInt_intro rfl ?_
    refine boxV fun h42 o42 k42 => ?_
    refine st5 o42 rfl fun h47 o47 k47 => ?_
    have k1 : Keep h h47 := k47.keep k42 (Nat.le_refl _)
    have kp47 := kp.trans k1
    have oL47 := oL.keep k1
    have next : ∀ h', Keep h47 h' → letK (IntKind.i64.wrap ((i : Int) + 1)) fun n36 => gnomonlaw01_NatKeeps.L5.t (KpR h0) (k + 1) ⟨Q, 0, none⟩ a0 os.length c0 (os.length : Int) n36 h' := by
      intro h' k'
      refine k_i64 ((i + 1 : Nat) : Int) (by omega) (by omega) (by omega) ?_
      exact ih (i + 1) h' kL nL wL a b c d xs ys (by omega) (kp47.trans k') (oL47.keep k') rL sL ikL iL iw zx zy
    refine ldI o47 rfl ?_
    refine c_dec (fun _ => ?_) fun _ => ?_
    · refine ldI o47 rfl ?_
      refine ldS o47 rfl ?_
      refine ldS o47 rfl ?_
      refine ldI o47 rfl ?_
      refine ldI o47 rfl ?_
      refine hc_intro (leaves_spec (tb.keep kp47) (r1.keep kp47) (r2.keep kp47) rfl rfl i3 z1 z2) fun v h80 ⟨k80, ev⟩ => ?_
      subst ev
      refine gBool_intro rfl ?_
      refine c_not (fun hh => absurd hh (by simp)) fun _ => next _ k80
    refine ldI o47 rfl ?_
    refine c_dec (fun _ => ?_) fun _ => ?_
    · refine ldI o47 rfl ?_
      refine ldS o47 rfl ?_
      refine ldS o47 rfl ?_
      refine ldI o47 rfl ?_
      refine ldI o47 rfl ?_
      refine hc_intro (leaves_spec (tb.keep kp47) (r1.keep kp47) (r2.keep kp47) rfl rfl i3 z1 z2) fun v h80 ⟨k80, ev⟩ => ?_
      subst ev
      refine gBool_intro rfl ?_
      refine c_not (fun hh => absurd hh (by simp)) fun _ => next _ k80
    refine ldI o47 rfl ?_
    refine c_dec (fun _ => ?_) fun _ => ?_
    · refine ldI o47 rfl ?_
      refine c_dec (fun _ => ?_) fun _ => ?_
      · refine ldI o47 rfl ?_
        refine ldS o47 rfl ?_
        refine ldS o47 rfl ?_
        refine ldI o47 rfl ?_
        refine ldI o47 rfl ?_
        refine hc_intro (leaves_spec (tb.keep kp47) (r1.keep kp47) (r2.keep kp47) rfl rfl i3 z1 z2) fun v h80 ⟨k80, ev⟩ => ?_
        subst ev
        refine gBool_intro rfl ?_
        refine c_not (fun hh => absurd hh (by simp)) fun _ => next _ k80
      · refine ldI oL47 rfl ?_
        refine ldS oL47 rfl ?_
        refine ldS oL47 rfl ?_
        refine ldI oL47 rfl ?_
        refine ldI oL47 rfl ?_
        refine boxV fun h65 o65 k65 => ?_
        refine st5 o65 rfl fun h70 o70 k70 => ?_
        have k2 : Keep h47 h70 := k70.keep k65 (Nat.le_refl _)
        refine ldI (o47.keep k2) rfl ?_
        refine stV o70 (Nat.le_of_ble_eq_true rfl) fun h73 o73 k73 => ?_
        have k3 : Keep h47 h73 := k73.keep k2 (Nat.le_refl _)
        have o473 := o47.keep k3
        have oL73 := oL47.keep k3
        refine ldI o473 rfl ?_
        refine ldS o473 rfl ?_
        refine ldS o473 rfl ?_
        refine ldI o473 rfl ?_
        refine ldI o473 rfl ?_
        refine ldI oL73 rfl ?_
        refine ldS oL73 rfl ?_
        refine ldS oL73 rfl ?_
        refine ldI oL73 rfl ?_
        refine ldI oL73 rfl ?_
        have kp73 := kp47.trans k3
        refine hc_intro (keeps_spec i0 (r1.keep kp73) (r2.keep kp73) rfl rfl i3 i4 z1 z2 ikL (rL.keep kp73) (sL.keep kp73) rfl rfl iL iw) fun v h95 ⟨k95, ev⟩ => ?_
        subst ev
        refine gBool_intro rfl ?_
        refine c_not (fun hh => absurd hh (by simp)) fun _ => ?_
        have o495 := o473.keep k95
        have o95 := o73.keep k95
        refine ldI o495 rfl ?_
        refine ldS o495 rfl ?_
        refine ldS o495 rfl ?_
        refine ldI o495 rfl ?_
        refine ldI o495 rfl ?_
        refine ldI o95 rfl ?_
        refine ldS o95 rfl ?_
        refine ldS o95 rfl ?_
        refine ldI o95 rfl ?_
        refine ldI o95 rfl ?_
        have kp95 := kp73.trans k95
        refine hc_intro (keeps_spec i0 (r1.keep kp95) (r2.keep kp95) rfl rfl i3 i4 z1 z2 i0 (rL.keep kp95) (sL.keep kp95) rfl rfl iL iw) fun v h118 ⟨k118, ev⟩ => ?_
        subst ev
        refine gBool_intro rfl ?_
        refine c_not (fun hh => absurd hh (by simp)) fun _ => ?_
        have o4118 := o495.keep k118
        refine ldI o4118 rfl ?_
        refine ldS o4118 rfl ?_
        refine ldS o4118 rfl ?_
        refine ldI o4118 rfl ?_
        refine ldI o4118 rfl ?_
        have kp118 := kp95.trans k118
        refine st5 (oL73.keep (k95.trans k118)) rfl fun h134 o134 k134 => ?_
        refine k_i64 ((i + 1 : Nat) : Int) (by omega) (by omega) (by omega) ?_
        exact ih (i + 1) h134 _ _ _ _ _ _ _ _ _ (by omega) (k134.keep kp118 hbQ) o134 r1 r2 i0 i3 i4 z1 z2
    · refine ldI oL47 rfl ?_
      refine ldS oL47 rfl ?_
      refine ldS oL47 rfl ?_
      refine ldI oL47 rfl ?_
      refine ldI oL47 rfl ?_
      refine boxV fun h65 o65 k65 => ?_
      refine st5 o65 rfl fun h70 o70 k70 => ?_
      have k2 : Keep h47 h70 := k70.keep k65 (Nat.le_refl _)
      refine ldI (o47.keep k2) rfl ?_
      refine stV o70 (Nat.le_of_ble_eq_true rfl) fun h73 o73 k73 => ?_
      have k3 : Keep h47 h73 := k73.keep k2 (Nat.le_refl _)
      have o473 := o47.keep k3
      have oL73 := oL47.keep k3
      refine ldI o473 rfl ?_
      refine ldS o473 rfl ?_
      refine ldS o473 rfl ?_
      refine ldI o473 rfl ?_
      refine ldI o473 rfl ?_
      refine ldI oL73 rfl ?_
      refine ldS oL73 rfl ?_
      refine ldS oL73 rfl ?_
      refine ldI oL73 rfl ?_
      refine ldI oL73 rfl ?_
      have kp73 := kp47.trans k3
      refine hc_intro (keeps_spec i0 (r1.keep kp73) (r2.keep kp73) rfl rfl i3 i4 z1 z2 ikL (rL.keep kp73) (sL.keep kp73) rfl rfl iL iw) fun v h95 ⟨k95, ev⟩ => ?_
      subst ev
      refine gBool_intro rfl ?_
      refine c_not (fun hh => absurd hh (by simp)) fun _ => ?_
      have o495 := o473.keep k95
      have o95 := o73.keep k95
      refine ldI o495 rfl ?_
      refine ldS o495 rfl ?_
      refine ldS o495 rfl ?_
      refine ldI o495 rfl ?_
      refine ldI o495 rfl ?_
      refine ldI o95 rfl ?_
      refine ldS o95 rfl ?_
      refine ldS o95 rfl ?_
      refine ldI o95 rfl ?_
      refine ldI o95 rfl ?_
      have kp95 := kp73.trans k95
      refine hc_intro (keeps_spec i0 (r1.keep kp95) (r2.keep kp95) rfl rfl i3 i4 z1 z2 i0 (rL.keep kp95) (sL.keep kp95) rfl rfl iL iw) fun v h118 ⟨k118, ev⟩ => ?_
      subst ev
      refine gBool_intro rfl ?_
      refine c_not (fun hh => absurd hh (by simp)) fun _ => ?_
      have o4118 := o495.keep k118
      refine ldI o4118 rfl ?_
      refine ldS o4118 rfl ?_
      refine ldS o4118 rfl ?_
      refine ldI o4118 rfl ?_
      refine ldI o4118 rfl ?_
      have kp118 := kp95.trans k118
      refine st5 (oL73.keep (k95.trans k118)) rfl fun h134 o134 k134 => ?_
      refine k_i64 ((i + 1 : Nat) : Int) (by omega) (by omega) (by omega) ?_
      exact ih (i + 1) h134 _ _ _ _ _ _ _ _ _ (by omega) (k134.keep kp118 hbQ) o134 r1 r2 i0 i3 i4 z1 z2
theorem NatKeeps_law {a0 : Option Addr} {c0 l0 : Nat} {os : List Op1} {h : Hp} (r0 : RdOps1 h a0 c0 os) (hl0 : l0 = os.length) (tb : Tab h) :
    HC gnomonlaw01_NatKeeps.id #[.slice a0 l0 c0] h fun v h' => Keep h h' ∧ v = .bool true := by
  subst hl0
  refine gnomonlaw01_NatKeeps.ok ?_
  unfold gnomonlaw01_NatKeeps.t gnomonlaw01_NatKeeps.D1.t
  refine box_intro [18446744073709551615, 3] (by rfl) (by decide) (by decide) fun h2 o2 k2 => ?_
  refine box_intro [1] (by rfl) (by decide) (by decide) fun h4 o4 k4 => ?_
  have r2 : Rd h4 (some ⟨h.size, 0, none⟩) 2 [18446744073709551615, 3] := (o2.rd (by decide)).keep k4
  have r4 : Rd h4 (some ⟨h2.size, 0, none⟩) 1 [1] := o4.rd (by decide)
  have k04 := k2.trans k4
  refine boxV fun h6 o6 k6 => ?_
  refine st5 o6 rfl fun h11 o11 k11 => ?_
  have k411 : Keep h4 h11 := k11.keep k6 (Nat.le_refl _)
  refine hc_intro gnomonlaw01_awake.hv fun v h13 ⟨k13, e⟩ => ?_
  have e : v = _ := e
  rw [awake_true] at e
  subst e
  refine gBool_intro rfl ?_
  refine c_not (fun hh => absurd hh (by simp)) fun _ => ?_
  have o13 := o11.keep k13
  refine ldI o13 rfl ?_
  refine ldS o13 rfl ?_
  refine ldS o13 rfl ?_
  refine ldI o13 rfl ?_
  refine ldI o13 rfl ?_
  refine box_intro [9, 9] (by rfl) (by decide) (by decide) fun h26 o26 k26 => ?_
  refine box_intro [4] (by rfl) (by decide) (by decide) fun h28 o28 k28 => ?_
  have k428 := k411.trans (k13.trans (k26.trans k28))
  refine hc_intro (keeps_spec (by decide) (r2.keep k428) (r4.keep k428) rfl rfl (by decide) (by decide) (by decide) (by decide) (by decide) ((o26.rd (by decide)).keep k28) (o28.rd (by decide)) rfl rfl (by decide) (by decide)) fun v h30 ⟨k30, ev⟩ => ?_
  subst ev
  refine gBool_intro rfl ?_
  refine c_not (fun hh => absurd hh (by simp)) fun _ => ?_
  have o30 := o13.keep (k26.trans (k28.trans k30))
  have k430 := k428.trans k30
  unfold gnomonlaw01_NatKeeps.D2.t
  refine ldI o30 rfl ?_
  refine ldS o30 rfl ?_
  refine ldS o30 rfl ?_
  refine ldI o30 rfl ?_
  refine ldI o30 rfl ?_
  refine boxV fun h43 o43 k43 => ?_
  refine st5 o43 rfl fun h48 o48 k48 => ?_
  have k448 : Keep h4 h48 := k430.trans (k48.keep k43 (Nat.le_refl _))
  unfold gnomonlaw01_NatKeeps.D4.t
  refine ⟨os.length + 1, ?_⟩
  exact keeps_walk (r0.keep k04) k04 (tb.keep k04) k430.le os.length 0 h48 8 0 0 _ _ _ _ [18446744073709551615, 3] [1] (by omega) k448 o48 r2 r4 (by decide) (by decide) (by decide) (by decide) (by decide)
end Go.Proofs.YtnbpbojcjihboaaDoor.G
