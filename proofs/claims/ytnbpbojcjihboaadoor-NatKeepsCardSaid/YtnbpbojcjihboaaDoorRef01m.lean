/- Apart answers true where each of the lists has memory of its own. -/
import Derived.Test.YtnbpbojcjihboaaDoorRef01k
import Derived.Test.YtnbpbojcjihboaaDoorGvBox
namespace Go.Proofs.YtnbpbojcjihboaaDoor.G
open Go.Gv
set_option linter.unusedVariables false
set_option maxRecDepth 100000
/-! ### marks -/
/-- The marks of the list i for the places k, k + 1, .. -/
def mkl (i : Nat) : Nat → Nat → List Nat
  | _, 0 => []
  | k, n + 1 => markN (i : Int) (k : Int) :: mkl i (k + 1) n
theorem mkl_len (i : Nat) : ∀ k n, (mkl i k n).length = n
  | _, 0 => rfl
  | k, n + 1 => by simp [mkl, mkl_len i (k + 1) n]
theorem mkl_ok (i : Nat) : ∀ k n, ∀ x ∈ mkl i k n, eU64.ok x
  | _, 0 => by simp [mkl]
  | k, n + 1 => by
    intro x hx
    rcases List.mem_cons.mp hx with e | e
    · subst e; exact markN_lt _ _
    · exact mkl_ok i (k + 1) n x e
theorem mkl_add (i : Nat) : ∀ k n m, mkl i k (n + m) = mkl i k n ++ mkl i (k + n) m
  | k, 0, m => by simp [mkl]
  | k, n + 1, m => by
    rw [show n + 1 + m = (n + m) + 1 by omega]
    simp only [mkl, List.cons_append]
    rw [mkl_add i (k + 1) n m, show k + 1 + n = k + (n + 1) by omega]
theorem mkl_get (i : Nat) : ∀ k n j, j < n → (mkl i k n)[j]? = some (markN (i : Int) ((k + j : Nat) : Int))
  | k, 0, j, h => absurd h (by omega)
  | k, n + 1, 0, _ => by simp [mkl]
  | k, n + 1, j + 1, h => by
    simp only [mkl, List.getElem?_cons_succ]
    rw [mkl_get i (k + 1) n j (by omega), show k + 1 + j = k + (j + 1) by omega]
theorem mkl_getD {i k n j : Nat} (h : j < n) : (mkl i k n).getD j 0 = markN (i : Int) ((k + j : Nat) : Int) := by simp [List.getD, mkl_get i k n j h]
theorem mkl_set {i n j : Nat} : (mkl i 0 n).set j (markN (i : Int) (j : Int)) = mkl i 0 n := by
  refine List.ext_getElem? fun p => ?_
  by_cases e : j = p
  · subst e
    by_cases h : j < n
    · rw [List.getElem?_set_self (by rw [mkl_len]; exact h), mkl_get i 0 n j h, Nat.zero_add]
    · rw [List.set_eq_of_length_le (by rw [mkl_len]; omega)]
  · rw [List.getElem?_set_ne e]
/-! ### blocks that lists own: the list, how many marks, how many cells -/
abbrev Bm := Nat → Option (Nat × Nat × Nat)
def updM (B : Bm) (b : Nat) (x : Nat × Nat × Nat) : Bm := fun c => if c = b then some x else B c
theorem updM_self (B : Bm) (b : Nat) (x : Nat × Nat × Nat) : updM B b x b = some x := by simp [updM]
theorem updM_ne {B : Bm} {b c : Nat} {x : Nat × Nat × Nat} (h : c ≠ b) : updM B b x c = B c := by simp [updM, h]
structure Mks (hB h : Hp) (B : Bm) : Prop where
  at_ : ∀ b i N m, B b = some (i, N, m) → hB.size ≤ b ∧ ∃ rest, BlkE eU64 h b (mkl i 0 N ++ rest) ∧ N + rest.length = m
theorem Mks.lt {hB h : Hp} {B : Bm} (M : Mks hB h B) {b : Nat} {x : Nat × Nat × Nat} (e : B b = some x) : b < h.size := by
  obtain ⟨i, N, m⟩ := x
  obtain ⟨_, rest, o, _⟩ := M.at_ b i N m e
  exact o.lt
theorem Mks.ge {hB h : Hp} {B : Bm} (M : Mks hB h B) {b : Nat} (hb : h.size ≤ b) : B b = none := by
  cases e : B b with
  | none => rfl
  | some x => have := M.lt e; omega
theorem Mks.old {hB h : Hp} {B : Bm} (M : Mks hB h B) {b : Nat} (hb : b < hB.size) : B b = none := by
  cases e : B b with
  | none => rfl
  | some x => obtain ⟨i, N, m⟩ := x; have := (M.at_ b i N m e).1; omega
theorem Mks.keep {hB h h' : Hp} {B : Bm} (M : Mks hB h B) (k : Keep h h') : Mks hB h' B :=
  ⟨fun b i N m e => let ⟨h1, rest, o, hl⟩ := M.at_ b i N m e; ⟨h1, rest, o.keep k, hl⟩⟩
theorem Mks.keepX {hB h h' : Hp} {B : Bm} {a : Option Addr} (M : Mks hB h B) (k : KeepX a h h') (ha : ∀ p, a = some p → B p.block = none) : Mks hB h' B :=
  ⟨fun b i N m e => let ⟨h1, rest, o, hl⟩ := M.at_ b i N m e; ⟨h1, rest, o.keepX k (fun p ep eb => (by rw [← eb, ha p ep] at e; cases e)), hl⟩⟩
/-- What a write to an owned block, or a new block, leaves as it was. -/
structure Stp (B : Bm) (h : Hp) (B' : Bm) (h' : Hp) : Prop where
  le : ∀ b i N m, B b = some (i, N, m) → ∃ N', N ≤ N' ∧ B' b = some (i, N', m)
  size : h.size ≤ h'.size
  off : ∀ b, b < h.size → B b = none → B' b = none ∧ h'[b]? = h[b]?
theorem Stp.refl (B : Bm) (h : Hp) : Stp B h B h := ⟨fun _ _ N _ e => ⟨N, Nat.le_refl _, e⟩, Nat.le_refl _, fun _ _ e => ⟨e, rfl⟩⟩
theorem Stp.trans {B B' B'' : Bm} {h h' h'' : Hp} (x : Stp B h B' h') (y : Stp B' h' B'' h'') : Stp B h B'' h'' := by
  refine ⟨fun b i N m e => ?_, Nat.le_trans x.size y.size, fun b hb e => ?_⟩
  · obtain ⟨N1, h1, e1⟩ := x.le b i N m e
    obtain ⟨N2, h2, e2⟩ := y.le b i N1 m e1
    exact ⟨N2, Nat.le_trans h1 h2, e2⟩
  · obtain ⟨e1, e2⟩ := x.off b hb e
    obtain ⟨e3, e4⟩ := y.off b (Nat.lt_of_lt_of_le hb x.size) e1
    exact ⟨e3, e4.trans e2⟩
theorem Stp.keep (B : Bm) {h h' : Hp} (k : Keep h h') : Stp B h B h' := ⟨fun _ _ N _ e => ⟨N, Nat.le_refl _, e⟩, k.le, fun b hb e => ⟨e, k.pre b hb⟩⟩
/-- A slice of the list i, of whose places the first j have their marks. -/
def MkJ (B : Bm) (i j : Nat) (s : Sl) : Prop := s.2.1 ≤ s.2.2 ∧ s.2.1 ≤ 17592186044416 ∧ ((s.1 = none ∧ s.2.2 = 0) ∨ ∃ b N m, s.1 = some ⟨b, 0, none⟩ ∧ B b = some (i, N, m) ∧ j ≤ N ∧ s.2.2 ≤ m)
theorem MkJ.step {B B' : Bm} {h h' : Hp} {i j : Nat} {s : Sl} (S : MkJ B i j s) (st : Stp B h B' h') : MkJ B' i j s := by
  obtain ⟨h1, h2, h3⟩ := S
  refine ⟨h1, h2, h3.imp id ?_⟩
  rintro ⟨b, N, m, e1, e2, e3, e4⟩
  obtain ⟨N', hN, e⟩ := st.le b i N m e2
  exact ⟨b, N', m, e1, e, Nat.le_trans e3 hN, e4⟩
theorem MkJ.nought {B : Bm} {i j : Nat} {s : Sl} (S : MkJ B i j s) : MkJ B i 0 s := by
  obtain ⟨h1, h2, h3⟩ := S
  refine ⟨h1, h2, h3.imp id ?_⟩
  rintro ⟨b, N, m, e1, e2, e3, e4⟩
  exact ⟨b, N, m, e1, e2, Nat.zero_le _, e4⟩
theorem mkl_split {i N n : Nat} (h : n ≤ N) (rest : List Nat) : mkl i 0 N ++ rest = mkl i 0 n ++ (mkl i n (N - n) ++ rest) := by
  have e := mkl_add i 0 n (N - n)
  rw [show n + (N - n) = N by omega, Nat.zero_add] at e
  rw [e, List.append_assoc]
theorem MkJ.rd {hB h : Hp} {B : Bm} {i : Nat} {s : Sl} (M : Mks hB h B) (S : MkJ B i s.2.1 s) : RdE eU64 h s.1 s.2.2 (mkl i 0 s.2.1) := by
  obtain ⟨h1, h2, h3⟩ := S
  rcases h3 with ⟨e1, e2⟩ | ⟨b, N, m, e1, e2, e3, e4⟩
  · have : s.2.1 = 0 := by omega
    rw [this]; exact RdE.nil _ _ _
  · obtain ⟨_, rest, o, _⟩ := M.at_ b i N m e2
    rw [mkl_split e3] at o
    rw [e1]
    exact o.rd (by rw [mkl_len]; exact Nat.le_trans h2 (by decide)) (by rw [mkl_len]; exact h1)
theorem Mks.put {hB h : Hp} {B : Bm} (M : Mks hB h B) {b i N m j : Nat} (e : B b = some (i, N, m)) (hj : j ≤ N) (hm : j < m) :
    Mks hB (setH h ⟨b, j, none⟩ (wv (markN (i : Int) (j : Int)))) (updM B b (i, max N (j + 1), m)) ∧ Stp B h (updM B b (i, max N (j + 1), m)) (setH h ⟨b, j, none⟩ (wv (markN (i : Int) (j : Int)))) := by
  constructor
  · refine ⟨fun c i' N' m' e' => ?_⟩
    by_cases hc : c = b
    · subst hc
      rw [updM_self] at e'
      simp only [Option.some.injEq, Prod.mk.injEq] at e'
      obtain ⟨rfl, rfl, rfl⟩ := e'
      obtain ⟨h1, rest, o, hl⟩ := M.at_ c i N m e
      refine ⟨h1, ?_⟩
      have o' := o.set j (v := markN (i : Int) (j : Int)) (markN_lt _ _)
      by_cases hjN : j < N
      · rw [List.set_append_left _ _ (by rw [mkl_len]; exact hjN), mkl_set] at o'
        rw [show max N (j + 1) = N by omega]
        exact ⟨rest, o', hl⟩
      · have ej : j = N := by omega
        subst ej
        rw [List.set_append_right _ _ (by rw [mkl_len]; exact Nat.le_refl _), mkl_len, Nat.sub_self] at o'
        cases rest with
        | nil => simp at hl; omega
        | cons r rs =>
          rw [show max j (j + 1) = j + 1 by omega]
          refine ⟨rs, ?_, by simp at hl; omega⟩
          have e1 : mkl i 0 (j + 1) ++ rs = mkl i 0 j ++ (markN (i : Int) (j : Int) :: rs) := by
            rw [mkl_add i 0 j 1, Nat.zero_add]; simp [mkl]
          rw [e1]; exact o'
    · rw [updM_ne hc] at e'
      obtain ⟨h1, rest, o, hl⟩ := M.at_ c i' N' m' e'
      exact ⟨h1, rest, o.keepB hc (KeepB.set _ _ _ _), hl⟩
  · refine ⟨fun c i' N' m' e' => ?_, by rw [size_setH]; exact Nat.le_refl _, fun c hc e' => ?_⟩
    · by_cases hc : c = b
      · subst hc
        rw [e] at e'
        simp only [Option.some.injEq, Prod.mk.injEq] at e'
        obtain ⟨rfl, rfl, rfl⟩ := e'
        exact ⟨_, Nat.le_max_left _ _, updM_self _ _ _⟩
      · exact ⟨N', Nat.le_refl _, by rw [updM_ne hc]; exact e'⟩
    · have hcb : c ≠ b := fun hh => by subst hh; rw [e] at e'; cases e'
      exact ⟨by rw [updM_ne hcb]; exact e', getElem?_setH hcb⟩
theorem Mks.cell {hB h : Hp} {B : Bm} (M : Mks hB h B) {b i N m j : Nat} (e : B b = some (i, N, m)) (hm : j < m) : (∃ o, cellH h ⟨b, j, none⟩ = some o) ∧ frozenH h ⟨b, j, none⟩ = false := by
  obtain ⟨_, rest, o, hl⟩ := M.at_ b i N m e
  have hlen : j < (mkl i 0 N ++ rest).length := by rw [List.length_append, mkl_len]; omega
  exact ⟨⟨_, o.cell (List.getElem?_eq_getElem hlen)⟩, o.frozen j⟩
theorem put_mk {hB h : Hp} {B : Bm} {i j : Nat} {s : Sl} (M : Mks hB h B) (S : MkJ B i j s) (hj : j < s.2.1) {K : Hp → Prop}
    (g : ∀ h' B', Mks hB h' B' → Stp B h B' h' → MkJ B' i (j + 1) s → K h') : idxK s.1 s.2.1 (j : Int) 1 fun q => stK h q (.int .u64 ((markN (i : Int) (j : Int) : Nat) : Int)) K := by
  obtain ⟨h1, h2, h3⟩ := S
  rcases h3 with ⟨e1, e2⟩ | ⟨b, N, m, e1, e2, e3, e4⟩
  · omega
  · obtain ⟨M', st⟩ := M.put e2 e3 (by omega)
    have S' : MkJ (updM B b (i, max N (j + 1), m)) i (j + 1) s := ⟨h1, h2, Or.inr ⟨b, _, m, e1, updM_self _ _ _, by omega, e4⟩⟩
    have g' := g _ _ M' st S'
    refine ⟨⟨by omega, by omega⟩, ?_⟩
    rw [e1]
    show stK h ((⟨b, 0, none⟩ : Addr).add ((j : Int).toNat * 1)) _ _
    rw [show (j : Int).toNat * 1 = j by omega, base_add]
    exact ⟨M.cell e2 (by omega), g'⟩
theorem Mks.puts {hB : Hp} {b i n m : Nat} : ∀ (k idx : Nat) {h : Hp} {B : Bm} {N : Nat}, Mks hB h B → B b = some (i, N, m) → n + idx ≤ N → n + idx + k ≤ m →
    ∃ B' N', Mks hB (stH h ⟨b, n, none⟩ idx ((mkl i (n + idx) k).map eU64.enc)) B' ∧ Stp B h B' (stH h ⟨b, n, none⟩ idx ((mkl i (n + idx) k).map eU64.enc)) ∧ B' b = some (i, N', m) ∧ n + idx + k ≤ N'
  | 0, idx, h, B, N, M, e, hN, hm => ⟨B, N, M, Stp.refl _ _, e, hN⟩
  | k + 1, idx, h, B, N, M, e, hN, hm => by
    obtain ⟨M1, st1⟩ := M.put e hN (by omega)
    obtain ⟨B', N', M2, st2, e2, h2⟩ := Mks.puts k (idx + 1) (n := n) M1 (updM_self _ _ _) (by omega) (by omega)
    have ea : (⟨b, n, none⟩ : Addr).add idx = ⟨b, n + idx, none⟩ := by rw [← base_add b n, add_add, base_add]
    have eh : stH h ⟨b, n, none⟩ idx ((mkl i (n + idx) (k + 1)).map eU64.enc) = stH (setH h ⟨b, n + idx, none⟩ (wv (markN (i : Int) ((n + idx : Nat) : Int)))) ⟨b, n, none⟩ (idx + 1) ((mkl i (n + (idx + 1)) k).map eU64.enc) := by
      show stH (setH h ((⟨b, n, none⟩ : Addr).add idx) (wv (markN (i : Int) ((n + idx : Nat) : Int)))) ⟨b, n, none⟩ (idx + 1) ((mkl i (n + idx + 1) k).map eU64.enc) = _
      rw [ea]; rfl
    rw [eh]
    exact ⟨B', N', M2, st1.trans st2, e2, by omega⟩
/-- append of marks of the list i to a slice of it. -/
theorem apM {hB h : Hp} {B : Bm} {e : TypeId} {ti : TyI} {i k n2 : Nat} {s : Sl} {a2 : Option Addr} {c2 c3 : Nat} (M : Mks hB h B) (k0 : hB.size ≤ h.size) (S : MkJ B i s.2.1 s) (r : RdE eU64 h a2 c2 (mkl i s.2.1 k)) (hn : n2 = k) (hk : 1 ≤ k)
    (hz : ti.zs = [eU64.enc 0]) (hlv : ti.leaves.length = 1) (hb : ti.bytes = 8) (hlim : s.2.1 + k ≤ 17592186044416) {K : Option Addr → Nat → Nat → Hp → Prop}
    (post : ∀ (s' : Sl) h' B', MkJ B' i s'.2.1 s' → s'.2.1 = s.2.1 + k → Mks hB h' B' → Stp B h B' h' → K s'.1 s'.2.1 s'.2.2 h') : apK h e ti s.1 s.2.1 s.2.2 (.slice a2 n2 c3) K := by
  subst hn
  have hS := S
  obtain ⟨h1, h2, h3⟩ := S
  have rs := r.srcL (l := n2) (c2 := c3) n2 (by rw [mkl_len]; exact Nat.le_refl _)
  rw [List.take_of_length_le (by rw [mkl_len]; exact Nat.le_refl _)] at rs
  refine ⟨n2, (mkl i s.2.1 n2).map eU64.enc, rfl, by rw [hlv]; exact rs, ?_, ?_⟩
  · intro hfc
    rcases h3 with ⟨e1, e2⟩ | ⟨b, N, m, e1, e2, e3, e4⟩
    · omega
    · rw [e1, hlv, Nat.mul_one]
      show StL h ((⟨b, 0, none⟩ : Addr).add s.2.1) 0 ((mkl i s.2.1 n2).map eU64.enc).length ∧ K (some ⟨b, 0, none⟩) (s.2.1 + n2) s.2.2 (stH h ((⟨b, 0, none⟩ : Addr).add s.2.1) 0 ((mkl i s.2.1 n2).map eU64.enc))
      rw [base_add]
      obtain ⟨B', N', M', st, e5, h5⟩ := M.puts (n := s.2.1) n2 0 e2 (by omega) (by omega)
      rw [Nat.add_zero] at M' st h5
      refine ⟨stLE_of fun j hj => ?_, ?_⟩
      · rw [List.length_map, mkl_len] at hj
        have ea : (⟨b, s.2.1, none⟩ : Addr).add (0 + j) = ⟨b, s.2.1 + j, none⟩ := by rw [Nat.zero_add, ← base_add b s.2.1, add_add, base_add]
        rw [ea]
        exact M.cell e2 (by omega)
      · exact post (some ⟨b, 0, none⟩, s.2.1 + n2, s.2.2) _ B' ⟨hfc, hlim, Or.inr ⟨b, N', m, rfl, e5, h5, e4⟩⟩ rfl M' st
  · intro hfc
    refine ⟨?_, by omega, by omega, (mkl i 0 s.2.1).map eU64.enc, ?_, ?_⟩
    · rw [hb]; exact growslice_fits (by omega) (by omega)
    · have r2 := (MkJ.rd M hS).srcL (l := s.2.1) (c2 := s.2.2) s.2.1 (by rw [mkl_len]; exact Nat.le_refl _)
      rw [List.take_of_length_le (by rw [mkl_len]; exact Nat.le_refl _)] at r2
      rw [hlv]; exact r2
    · intro nc hnc
      have hq : B h.size = none := M.ge (Nat.le_refl _)
      have kp : Keep h (h.push (.cells ((mkl i 0 s.2.1).map eU64.enc ++ ((mkl i s.2.1 n2).map eU64.enc ++ zerosL ti.zs (nc - (s.2.1 + n2)))).toArray e (0, 0))) := ⟨by simp, fun b' hb' => by rw [Array.getElem?_push]; rw [if_neg (by omega)]⟩
      refine post (some ⟨h.size, 0, none⟩, s.2.1 + n2, nc) _ (updM B h.size (i, s.2.1 + n2, nc)) ⟨hnc, hlim, Or.inr ⟨h.size, s.2.1 + n2, nc, rfl, updM_self _ _ _, Nat.le_refl _, Nat.le_refl _⟩⟩ rfl ⟨fun c i' N' m' e' => ?_⟩ ⟨fun c i' N' m' e' => ?_, kp.le, fun c hc e' => ?_⟩
      · by_cases hc : c = h.size
        · subst hc
          rw [updM_self] at e'
          simp only [Option.some.injEq, Prod.mk.injEq] at e'
          obtain ⟨rfl, rfl, rfl⟩ := e'
          refine ⟨k0, List.replicate (nc - (s.2.1 + n2)) 0, ⟨fun x hx => ?_, e, ?_⟩, by rw [List.length_replicate]; omega⟩
          · rcases List.mem_append.mp hx with h4 | h4
            · exact mkl_ok _ _ _ x h4
            · rw [List.eq_of_mem_replicate h4]; exact ok64
          · rw [hz, zerosL_one, mkl_add i 0 s.2.1 n2, Nat.zero_add]; simp
        · rw [updM_ne hc] at e'
          obtain ⟨h4, rest, o, hl⟩ := M.at_ c i' N' m' e'
          exact ⟨h4, rest, o.keep kp, hl⟩
      · have hc : c ≠ h.size := fun hh => by subst hh; rw [hq] at e'; cases e'
        exact ⟨N', Nat.le_refl _, by rw [updM_ne hc]; exact e'⟩
      · exact ⟨by rw [updM_ne (by omega)]; exact e', kp.pre c hc⟩
/-! ### what stands while Apart goes on -/
structure ASt (hB hE h : Hp) (B : Bm) (a0 : Option Addr) (c0 : Nat) (hs : List Sl) : Prop where
  mks : Mks hB h B
  kp : Keep hB h
  be : hB.size ≤ hE.size
  le : hE.size ≤ h.size
  hd : RdE eSl h a0 c0 hs
  hb : ∀ p, a0 = some p → B p.block = none
  hlt : ∀ p, a0 = some p → p.block < hE.size
theorem ASt.step {hB hE h h' : Hp} {B B' : Bm} {a0 : Option Addr} {c0 : Nat} {hs : List Sl} (s : ASt hB hE h B a0 c0 hs) (M : Mks hB h' B') (st : Stp B h B' h') : ASt hB hE h' B' a0 c0 hs := by
  have le := s.le
  refine ⟨M, ⟨Nat.le_trans s.kp.le st.size, fun b hb => ?_⟩, s.be, Nat.le_trans s.le st.size, ⟨s.hd.len, s.hd.cap, s.hd.ok, fun i x hx => ?_⟩, fun p ep => ?_, s.hlt⟩
  · exact ((st.off b (Nat.lt_of_lt_of_le hb s.kp.le) (s.mks.old hb)).2).trans (s.kp.pre b hb)
  · obtain ⟨p, e, g⟩ := s.hd.at_ i x hx
    refine ⟨p, e, ?_⟩
    have := s.hlt p e
    have e9 : h'[(p.add i).block]? = h[(p.add i).block]? := by rw [add_block]; exact (st.off p.block (by omega) (s.hb p e)).2
    rw [cellH_congr e9]; exact g
  · have := s.hlt p ep
    exact (st.off p.block (by omega) (s.hb p ep)).1
theorem ASt.keep {hB hE h h' : Hp} {B : Bm} {a0 : Option Addr} {c0 : Nat} {hs : List Sl} (s : ASt hB hE h B a0 c0 hs) (k : Keep h h') : ASt hB hE h' B a0 c0 hs := s.step (s.mks.keep k) (Stp.keep B k)
/-- The list of grown lists. -/
structure AGr (hE h : Hp) (B : Bm) (a : Option Addr) (c : Nat) (gs : List Sl) (n : Nat) : Prop where
  got : GotE eSl hE h a c gs
  gb : ∀ p, a = some p → B p.block = none
  all : ∀ (j : Nat) s, gs[j]? = some s → MkJ B (j % n) s.2.1 s
theorem AGr.step {hE h h' : Hp} {B B' : Bm} {a : Option Addr} {c n : Nat} {gs : List Sl} (g : AGr hE h B a c gs n) (st : Stp B h B' h') : AGr hE h' B' a c gs n := by
  have hlt : ∀ p, a = some p → p.block < h.size := fun p ep => by
    rcases g.got.here with ⟨_, e, _⟩ | ⟨b, rest, e1, e2, o, e3⟩
    · rw [e] at ep; cases ep
    · rw [e1] at ep; cases ep; exact o.lt
  refine ⟨⟨g.got.len, g.got.cap, ?_⟩, fun p ep => (st.off _ (hlt p ep) (g.gb p ep)).1, fun j s e => (g.all j s e).step st⟩
  rcases g.got.here with e | ⟨b, rest, e1, e2, o, e3⟩
  · exact Or.inl e
  · have hb := st.off b o.lt (g.gb _ e1)
    refine Or.inr ⟨b, rest, e1, e2, ?_, e3⟩
    obtain ⟨el, at_⟩ := o.at_
    exact ⟨o.ok, el, by rw [hb.2]; exact at_⟩
theorem push_g {hB hE h : Hp} {B : Bm} {a0 aG : Option Addr} {c0 cG lG n i : Nat} {hs gs : List Sl} {e e2 : TypeId} {ti : TyI} {s : Sl} (A : ASt hB hE h B a0 c0 hs) (G : AGr hE h B aG cG gs n) (hg : gs.length + 1 ≤ 100000) (hl : lG = gs.length) (ms : MkJ B i s.2.1 s) (hi : gs.length % n = i)
    (hz : ti.zs = [eSl.enc (none, 0, 0)]) (hlv : ti.leaves.length = 1) (hb : ti.bytes = 24) {K : Option Addr → Nat → Nat → Hp → Prop}
    (post : ∀ a' c' h', ASt hB hE h' B a0 c0 hs → AGr hE h' B a' c' (gs ++ [s]) n → K a' (gs.length + 1) c' h') : boxK h e [.slice s.1 s.2.1 s.2.2] fun q h2 => apK h2 e2 ti aG lG cG (.slice (some q) 1 1) K := by
  refine boxE eSl [s] rfl (fun _ _ => trivial) fun h1 o1 k1 => ?_
  have A1 := A.keep k1
  have G1 := G.step (Stp.keep B k1)
  refine apE3 (h0 := hE) G1.got A1.le (o1.rd' (c := 1) (show 1 ≤ 11728124029610 by decide) (Nat.le_refl 1)) hl rfl hlv ((none, 0, 0) : Sl) hz trivial 24 hb (by decide) (by simp; show _ ≤ 11728124029610; omega) (fun hh => by simp; omega) fun a' c' h' g' kx hc hw => ?_
  have hoff : ∀ b, b < hE.size → Off b aG := GotE.offs G1.got
  have A2 : ASt hB hE h' B a0 c0 hs := by
    have le1 := A1.le
    refine ⟨A1.mks.keepX kx G1.gb, ⟨Nat.le_trans A1.kp.le kx.le, fun b hb => ?_⟩, A1.be, Nat.le_trans A1.le kx.le, ⟨A1.hd.len, A1.hd.cap, A1.hd.ok, fun j x hx => ?_⟩, A1.hb, A1.hlt⟩
    · have hle : hB.size ≤ h1.size := A1.kp.le
      have hbe := A1.be
      exact (kx.pre b (by omega) (hoff b (by omega))).trans (A1.kp.pre b hb)
    · obtain ⟨p, ep, g⟩ := A1.hd.at_ j x hx
      refine ⟨p, ep, ?_⟩
      have := A1.hlt p ep
      have e9 : h'[(p.add j).block]? = h1[(p.add j).block]? := by rw [add_block]; exact kx.pre p.block (by omega) (hoff _ this)
      rw [cellH_congr e9]; exact g
  refine post a' c' h' A2 ⟨g', fun p ep => ?_, fun j t ht => ?_⟩
  · rcases hw with e3 | ⟨b, e3, hb3⟩
    · rw [e3] at ep; exact G1.gb p ep
    · rw [e3] at ep; cases ep; exact A1.mks.ge hb3
  · rcases Nat.lt_or_ge j gs.length with hj | hj
    · rw [List.getElem?_append_left hj] at ht; exact G1.all j t ht
    · rw [List.getElem?_append_right hj] at ht
      cases hd : j - gs.length with
      | zero =>
        rw [hd] at ht; simp at ht; subst ht
        rw [show j = gs.length by omega, hi]; exact ms
      | succ d => rw [hd] at ht; simp at ht
/-! ### the walk -/
variable {hB hE : Hp} {a0 : Option Addr} {c0 : Nat} {hs : List Sl}
abbrev ApR (hB : Hp) : Rt := fun v h' => v = .bool true ∧ Keep hB h'
theorem tmod_nat (j n : Nat) : Int.tmod (j : Int) (n : Int) = ((j % n : Nat) : Int) := by rw [Int.ofNat_tmod]
/-- The last look: at the lists. -/
theorem look_l {h : Hp} {B : Bm} (A : ASt hB hE h B a0 c0 hs) (hn : hs.length ≤ 50000) (all : ∀ (j : Nat) s, hs[j]? = some s → MkJ B j s.2.1 s) :
    ∀ (k i : Nat), i + k = hs.length → gnomonref01_Apart.L5.t (ApR hB) (k + 1) a0 hs.length c0 (i : Int) h := by
  intro k
  induction k with
  | zero =>
    intro i hik
    unfold gnomonref01_Apart.L5.t gnomonref01_Apart.D6.t
    refine c_dec (fun hb => absurd hb (by omega)) fun _ => ?_
    exact ⟨rfl, A.kp⟩
  | succ k ih =>
    intro i hik
    unfold gnomonref01_Apart.L5.t gnomonref01_Apart.D6.t
    refine c_dec (fun _ => ?_) fun hb => absurd (by omega) hb
    obtain ⟨s, hsi⟩ : ∃ s, hs[i]? = some s := ⟨hs[i]'(by omega), by simp⟩
    have ms := all i s hsi
    have r := MkJ.rd A.mks ms
    have hlen := ms.2.1
    unfold gnomonref01_Apart.D8.t
    refine ⟨s.2.1 + 1, ?_⟩
    have go : ∀ (m j : Nat), j + m = s.2.1 → gnomonref01_Apart.L9.t (ApR hB) (gnomonref01_Apart.L5.t (ApR hB) (k + 1)) (m + 1) a0 hs.length c0 (i : Int) (j : Int) h := by
      intro m
      induction m with
      | zero =>
        intro j hj
        unfold gnomonref01_Apart.L9.t gnomonref01_Apart.D10.t
        refine atSl A.hd rfl rfl hsi ?_
        refine c_dec (fun hb => absurd hb (by omega)) fun _ => ?_
        unfold gnomonref01_Apart.D7.t
        refine k_i64 ((i + 1 : Nat) : Int) (by omega) (by omega) (by omega) ?_
        exact ih (i + 1) (by omega)
      | succ m ihm =>
        intro j hj
        unfold gnomonref01_Apart.L9.t gnomonref01_Apart.D10.t
        refine atSl A.hd rfl rfl hsi ?_
        refine c_dec (fun _ => ?_) fun hb => absurd (by omega) hb
        refine atSl A.hd rfl rfl hsi ?_
        refine at64 r (j := j) rfl (by rw [mkl_len]) (by rw [mkl_len]; omega) ?_
        refine mark_intro _ _ ?_
        rw [mkl_getD (by omega), Nat.zero_add]
        refine c_ne (fun hh => absurd rfl hh) fun _ => ?_
        refine k_i64 ((j + 1 : Nat) : Int) (by omega) (by omega) (by omega) ?_
        exact ihm (j + 1) (by omega)
    exact go s.2.1 0 (by omega)
/-- The look at what has grown. -/
theorem look_g {h : Hp} {B : Bm} {aG : Option Addr} {cG : Nat} {gs : List Sl} (A : ASt hB hE h B a0 c0 hs) (hn : hs.length ≤ 50000) (all : ∀ (j : Nat) s, hs[j]? = some s → MkJ B j s.2.1 s) (G : AGr hE h B aG cG gs hs.length) (hg : gs.length = hs.length + hs.length) :
    ∀ (k i : Nat), i + k = gs.length → gnomonref01_Apart.L17.t (ApR hB) (k + 1) a0 hs.length c0 aG gs.length cG (i : Int) h := by
  intro k
  induction k with
  | zero =>
    intro i hik
    unfold gnomonref01_Apart.L17.t gnomonref01_Apart.D18.t
    refine c_dec (fun hb => absurd hb (by omega)) fun _ => ?_
    unfold gnomonref01_Apart.D4.t
    exact ⟨hs.length + 1, look_l A hn all hs.length 0 (by omega)⟩
  | succ k ih =>
    intro i hik
    unfold gnomonref01_Apart.L17.t gnomonref01_Apart.D18.t
    refine c_dec (fun _ => ?_) fun hb => absurd (by omega) hb
    obtain ⟨s, hsi⟩ : ∃ s, gs[i]? = some s := ⟨gs[i]'(by omega), by simp⟩
    have ms := G.all i s hsi
    have r := MkJ.rd A.mks ms
    have hlen := ms.2.1
    unfold gnomonref01_Apart.D20.t
    refine ⟨s.2.1 + 1, ?_⟩
    have go : ∀ (m j : Nat), j + m = s.2.1 → gnomonref01_Apart.L21.t (ApR hB) (gnomonref01_Apart.L17.t (ApR hB) (k + 1)) (m + 1) a0 hs.length c0 aG gs.length cG (i : Int) (j : Int) h := by
      intro m
      induction m with
      | zero =>
        intro j hj
        unfold gnomonref01_Apart.L21.t gnomonref01_Apart.D22.t
        refine atSl G.got.rd rfl rfl hsi ?_
        refine c_dec (fun hb => absurd hb (by omega)) fun _ => ?_
        unfold gnomonref01_Apart.D19.t
        refine k_i64 ((i + 1 : Nat) : Int) (by omega) (by omega) (by omega) ?_
        exact ih (i + 1) (by omega)
      | succ m ihm =>
        intro j hj
        unfold gnomonref01_Apart.L21.t gnomonref01_Apart.D22.t
        refine atSl G.got.rd rfl rfl hsi ?_
        refine c_dec (fun _ => ?_) fun hb => absurd (by omega) hb
        refine atSl G.got.rd rfl rfl hsi ?_
        refine at64 r (j := j) rfl (by rw [mkl_len]) (by rw [mkl_len]; omega) ?_
        refine ⟨by omega, ⟨?_⟩⟩
        rw [tmod_nat]
        refine mark_intro _ _ ?_
        rw [mkl_getD (by omega), Nat.zero_add]
        refine c_ne (fun hh => absurd rfl hh) fun _ => ?_
        refine k_i64 ((j + 1 : Nat) : Int) (by omega) (by omega) (by omega) ?_
        exact ihm (j + 1) (by omega)
    exact go s.2.1 0 (by omega)
/-- Growing by many. -/
theorem grow_many (hn : hs.length ≤ 10000) (hlim : ∀ (j : Nat) s, hs[j]? = some s → s.2.1 ≤ 17592186044336) :
    ∀ (k i : Nat) (h : Hp) (B : Bm) (aG : Option Addr) (cG : Nat) (gs : List Sl), i + k = hs.length → gs.length = hs.length + i → ASt hB hE h B a0 c0 hs → (∀ (j : Nat) s, hs[j]? = some s → MkJ B j s.2.1 s) → AGr hE h B aG cG gs hs.length →
      gnomonref01_Apart.L29.t (ApR hB) (k + 1) a0 hs.length c0 aG gs.length cG (i : Int) h := by
  intro k
  induction k with
  | zero =>
    intro i h B aG cG gs hik hg A all G
    unfold gnomonref01_Apart.L29.t gnomonref01_Apart.D30.t
    refine c_dec (fun hb => absurd hb (by omega)) fun _ => ?_
    unfold gnomonref01_Apart.D16.t
    exact ⟨gs.length + 1, look_g A (by omega) all G (by omega) gs.length 0 (by omega)⟩
  | succ k ih =>
    intro i h B aG cG gs hik hg A all G
    unfold gnomonref01_Apart.L29.t gnomonref01_Apart.D30.t
    refine c_dec (fun _ => ?_) fun hb => absurd (by omega) hb
    unfold gnomonref01_Apart.D32.t
    obtain ⟨s, hsi⟩ : ∃ s, hs[i]? = some s := ⟨hs[i]'(by omega), by simp⟩
    have hls := hlim i s hsi
    refine mk_intro 80 rfl rfl rfl rfl (by omega) fun h1 o1 k1 => ?_
    unfold gnomonref01_Apart.D34.t
    refine ⟨80 + 1, ?_⟩
    have go : ∀ (m j : Nat) (h3 : Hp), j + m = 80 → Keep h h3 → Own h3 h.size ((mkl i s.2.1 80).take j ++ List.replicate (80 - j) 0) →
        gnomonref01_Apart.L35.t (ApR hB) (gnomonref01_Apart.L29.t (ApR hB) (k + 1)) (m + 1) a0 hs.length c0 aG gs.length cG (i : Int) (some ⟨h.size, 0, none⟩) ((80 : Int).toNat) ((80 : Int).toNat) (j : Int) h3 := by
      intro m
      induction m with
      | zero =>
        intro j h3 hj k3 o3
        have ej : j = 80 := by omega
        subst ej
        unfold gnomonref01_Apart.L35.t gnomonref01_Apart.D36.t
        refine c_dec (fun hb => absurd hb (by decide)) fun _ => ?_
        rw [List.take_of_length_le (by rw [mkl_len]; exact Nat.le_refl _), Nat.sub_self, List.replicate_zero, List.append_nil] at o3
        have A3 := A.keep k3
        have G3 := G.step (Stp.keep B k3)
        unfold gnomonref01_Apart.D33.t
        refine atSl A3.hd rfl rfl hsi ?_
        have hl80 : (mkl i s.2.1 80).length = 80 := mkl_len _ _ _
        refine apM A3.mks A3.kp.le (all i s hsi) (o3.toE.rd' (c := 80) (by rw [hl80]; decide) (by rw [hl80]; exact Nat.le_refl _)) rfl (by decide) rfl rfl rfl (by omega) fun s' h4 B4 ms' hs' M4 st4 => ?_
        have A4 := A3.step M4 st4
        have G4 := G3.step st4
        refine push_g A4 G4 (by omega) rfl ms' (by rw [hg, Nat.add_mod_left]; exact Nat.mod_eq_of_lt (by omega)) rfl rfl rfl fun a5 c5 h5 A5 G5 => ?_
        unfold gnomonref01_Apart.D31.t
        refine k_i64 ((i + 1 : Nat) : Int) (by omega) (by omega) (by omega) ?_
        have e5 : gs.length + 1 = (gs ++ [s']).length := by simp
        rw [e5]
        exact ih (i + 1) h5 B4 a5 c5 (gs ++ [s']) (by omega) (by simp; omega) A5 (fun j t ht => (all j t ht).step st4) G5
      | succ m ihm =>
        intro j h3 hj k3 o3
        have A3 := A.keep k3
        unfold gnomonref01_Apart.L35.t gnomonref01_Apart.D36.t
        refine c_dec (fun _ => ?_) fun hb => absurd (by omega) hb
        refine atSl A3.hd rfl rfl hsi ?_
        refine k_i64 ((s.2.1 + j : Nat) : Int) (by omega) (by omega) (by omega) ?_
        refine mark_intro _ _ ?_
        have hl80 : ((mkl i s.2.1 80).take j).length = j := by rw [List.length_take, mkl_len]; omega
        refine put_intro o3 (j := j) rfl (by rw [List.length_append, hl80, List.length_replicate]; show 80 = _; omega) (by rw [List.length_append, hl80, List.length_replicate]; omega) rfl (markN_lt _ _) fun o4 => ?_
        refine k_i64 ((j + 1 : Nat) : Int) (by omega) (by omega) (by omega) ?_
        refine ihm (j + 1) _ (by omega) (KeepB.keep k3 (KeepB.set _ _ _ _) (Nat.le_refl _)) ?_
        have e4 : ((mkl i s.2.1 80).take j ++ List.replicate (80 - j) 0).set j (markN (i : Int) ((s.2.1 + j : Nat) : Int)) = (mkl i s.2.1 80).take (j + 1) ++ List.replicate (80 - (j + 1)) 0 := by
          rw [List.set_append_right _ _ (by omega), hl80, Nat.sub_self, show 80 - j = 80 - (j + 1) + 1 by omega, List.replicate_succ, List.set_cons_zero, List.take_add_one, mkl_get i s.2.1 80 j (by omega)]
          simp
        rw [← e4]; exact o4
    exact go 80 0 h1 (by omega) k1 o1
/-- Growing place by place. -/
theorem grow_one (hn : hs.length ≤ 10000) (hlim : ∀ (j : Nat) s, hs[j]? = some s → s.2.1 ≤ 17592186044336) :
    ∀ (k i : Nat) (h : Hp) (B : Bm) (aG : Option Addr) (cG : Nat) (gs : List Sl), i + k = hs.length → gs.length = i → ASt hB hE h B a0 c0 hs → (∀ (j : Nat) s, hs[j]? = some s → MkJ B j s.2.1 s) → AGr hE h B aG cG gs hs.length →
      gnomonref01_Apart.L44.t (ApR hB) (k + 1) a0 hs.length c0 aG gs.length cG (i : Int) h := by
  intro k
  induction k with
  | zero =>
    intro i h B aG cG gs hik hg A all G
    unfold gnomonref01_Apart.L44.t gnomonref01_Apart.D45.t
    refine c_dec (fun hb => absurd hb (by omega)) fun _ => ?_
    unfold gnomonref01_Apart.D28.t
    exact ⟨hs.length + 1, grow_many hn hlim hs.length 0 h B aG cG gs (by omega) (by omega) A all G⟩
  | succ k ih =>
    intro i h B aG cG gs hik hg A all G
    unfold gnomonref01_Apart.L44.t gnomonref01_Apart.D45.t
    refine c_dec (fun _ => ?_) fun hb => absurd (by omega) hb
    unfold gnomonref01_Apart.D47.t
    obtain ⟨s, hsi⟩ : ∃ s, hs[i]? = some s := ⟨hs[i]'(by omega), by simp⟩
    have hls := hlim i s hsi
    refine atSl A.hd rfl rfl hsi ?_
    unfold gnomonref01_Apart.D49.t
    refine ⟨16 + 1, ?_⟩
    have go : ∀ (m j : Nat) (h3 : Hp) (B3 : Bm) (t : Sl), j + m = 16 → ASt hB hE h3 B3 a0 c0 hs → Stp B h B3 h3 → MkJ B3 i t.2.1 t → t.2.1 = s.2.1 + j →
        gnomonref01_Apart.L50.t (ApR hB) (gnomonref01_Apart.L44.t (ApR hB) (k + 1)) (m + 1) a0 hs.length c0 aG gs.length cG (i : Int) t.1 t.2.1 t.2.2 (j : Int) h3 := by
      intro m
      induction m with
      | zero =>
        intro j h3 B3 t hj A3 st3 mt ht
        unfold gnomonref01_Apart.L50.t gnomonref01_Apart.D51.t
        refine c_dec (fun hb => absurd hb (by omega)) fun _ => ?_
        unfold gnomonref01_Apart.D48.t
        have G3 := G.step st3
        refine push_g A3 G3 (by omega) rfl mt (by rw [hg]; exact Nat.mod_eq_of_lt (by omega)) rfl rfl rfl fun a5 c5 h5 A5 G5 => ?_
        unfold gnomonref01_Apart.D46.t
        refine k_i64 ((i + 1 : Nat) : Int) (by omega) (by omega) (by omega) ?_
        have e5 : gs.length + 1 = (gs ++ [t]).length := by simp
        rw [e5]
        exact ih (i + 1) h5 B3 a5 c5 (gs ++ [t]) (by omega) (by simp; omega) A5 (fun j u hu => (all j u hu).step st3) G5
      | succ m ihm =>
        intro j h3 B3 t hj A3 st3 mt ht
        unfold gnomonref01_Apart.L50.t gnomonref01_Apart.D51.t
        refine c_dec (fun _ => ?_) fun hb => absurd (by omega) hb
        refine atSl A3.hd rfl rfl hsi ?_
        refine k_i64 ((s.2.1 + j : Nat) : Int) (by omega) (by omega) (by omega) ?_
        refine mark_intro _ _ ?_
        refine boxE eU64 (mkl i t.2.1 1) (by rw [ht]; rfl) (mkl_ok _ _ _) fun h4 o4 k4 => ?_
        have A4 := A3.keep k4
        refine apM A4.mks A4.kp.le mt (o4.rd' (c := 1) (by rw [mkl_len]; decide) (by rw [mkl_len]; exact Nat.le_refl _)) rfl (Nat.le_refl _) rfl rfl rfl (by omega) fun s' h5 B5 ms' hs' M5 st5 => ?_
        refine k_i64 ((j + 1 : Nat) : Int) (by omega) (by omega) (by omega) ?_
        exact ihm (j + 1) h5 B5 s' (by omega) (A4.step M5 st5) (st3.trans ((Stp.keep B3 k4).trans st5)) ms' (by omega)
    exact go 16 0 h B s (by omega) A (Stp.refl _ _) (all i s hsi) (by omega)
/-- Each list is written full of its marks. -/
theorem mark_all (hn : hs.length ≤ 10000) (hlim : ∀ (j : Nat) s, hs[j]? = some s → s.2.1 ≤ 17592186044336) :
    ∀ (k i : Nat) (h : Hp) (B : Bm), i + k = hs.length → ASt hB hE h B a0 c0 hs → (∀ (j : Nat) s, hs[j]? = some s → MkJ B j (if j < i then s.2.1 else 0) s) →
      gnomonref01_Apart.L59.t (ApR hB) (k + 1) a0 hs.length c0 (i : Int) h := by
  intro k
  induction k with
  | zero =>
    intro i h B hik A all
    unfold gnomonref01_Apart.L59.t gnomonref01_Apart.D60.t
    refine c_dec (fun hb => absurd hb (by omega)) fun _ => ?_
    unfold gnomonref01_Apart.D2.t gnomonref01_Apart.D43.t
    refine ⟨hs.length + 1, grow_one hn hlim hs.length 0 h B none 0 [] (by omega) rfl A (fun j s hj => ?_) ⟨GotE.nil _ _, fun p e => (by cases e), fun j s e => (by simp at e)⟩⟩
    have := all j s hj
    rw [if_pos (by have := (List.getElem?_eq_some_iff.mp hj).1; omega)] at this
    exact this
  | succ k ih =>
    intro i h B hik A all
    unfold gnomonref01_Apart.L59.t gnomonref01_Apart.D60.t
    refine c_dec (fun _ => ?_) fun hb => absurd (by omega) hb
    unfold gnomonref01_Apart.D62.t
    obtain ⟨s, hsi⟩ : ∃ s, hs[i]? = some s := ⟨hs[i]'(by omega), by simp⟩
    have hls := hlim i s hsi
    refine ⟨s.2.1 + 1, ?_⟩
    have go : ∀ (m j : Nat) (h3 : Hp) (B3 : Bm), j + m = s.2.1 → ASt hB hE h3 B3 a0 c0 hs → Stp B h B3 h3 → MkJ B3 i j s →
        gnomonref01_Apart.L63.t (ApR hB) (gnomonref01_Apart.L59.t (ApR hB) (k + 1)) (m + 1) a0 hs.length c0 (i : Int) (j : Int) h3 := by
      intro m
      induction m with
      | zero =>
        intro j h3 B3 hj A3 st3 mj
        unfold gnomonref01_Apart.L63.t gnomonref01_Apart.D64.t
        refine atSl A3.hd rfl rfl hsi ?_
        refine c_dec (fun hb => absurd hb (by omega)) fun _ => ?_
        unfold gnomonref01_Apart.D61.t
        refine k_i64 ((i + 1 : Nat) : Int) (by omega) (by omega) (by omega) ?_
        refine ih (i + 1) h3 B3 (by omega) A3 fun p t hp => ?_
        by_cases e : p = i
        · subst e
          rw [hsi] at hp; cases hp
          rw [if_pos (by omega)]
          have ej : j = s.2.1 := by omega
          subst ej; exact mj
        · have := (all p t hp).step st3
          by_cases hpi : p < i
          · rw [if_pos hpi] at this; rw [if_pos (by omega)]; exact this
          · rw [if_neg hpi] at this; rw [if_neg (by omega)]; exact this
      | succ m ihm =>
        intro j h3 B3 hj A3 st3 mj
        unfold gnomonref01_Apart.L63.t gnomonref01_Apart.D64.t
        refine atSl A3.hd rfl rfl hsi ?_
        refine c_dec (fun _ => ?_) fun hb => absurd (by omega) hb
        refine atSl A3.hd rfl rfl hsi ?_
        refine mark_intro _ _ ?_
        refine put_mk A3.mks mj (by omega) fun h4 B4 M4 st4 mj4 => ?_
        refine k_i64 ((j + 1 : Nat) : Int) (by omega) (by omega) (by omega) ?_
        exact ihm (j + 1) h4 B4 (by omega) (A3.step M4 st4) (st3.trans st4) mj4
    refine go s.2.1 0 h B (by omega) A (Stp.refl _ _) ?_
    exact (all i s hsi).nought
/-! ### lists that lie apart -/
/-- Each list lies in a block of its own, made since hB. -/
structure Sep (hB h : Hp) (hs : List Sl) : Prop where
  one : ∀ s ∈ hs, s.2.1 ≤ s.2.2 ∧ s.2.1 ≤ 17592186044336 ∧ ((s.1 = none ∧ s.2.2 = 0) ∨ ∃ b zs, s.1 = some ⟨b, 0, none⟩ ∧ hB.size ≤ b ∧ BlkE eU64 h b zs ∧ s.2.2 ≤ zs.length)
  two : ∀ (i j : Nat) (s t : Sl) (p q : Addr), hs[i]? = some s → hs[j]? = some t → s.1 = some p → t.1 = some q → p.block = q.block → i = j
open Classical in
noncomputable def bmOf (h : Hp) (hs : List Sl) : Bm := fun b => if hx : ∃ i : Nat, ∃ s : Sl, hs[i]? = some s ∧ s.1 = some ⟨b, 0, none⟩ then some (Classical.choose hx, 0, (cellsN h b).getD 0) else none
theorem BlkE.cellsN {h : Hp} {b : Nat} {zs : List Nat} (o : BlkE eU64 h b zs) : Gv.cellsN h b = some zs.length := by
  obtain ⟨e, g⟩ := o.at_
  unfold Gv.cellsN
  rw [g]; simp
theorem bmOf_at {hB h : Hp} {hs : List Sl} (S : Sep hB h hs) {i : Nat} {s : Sl} {b : Nat} {zs : List Nat} (hi : hs[i]? = some s) (hb : s.1 = some ⟨b, 0, none⟩) (o : BlkE eU64 h b zs) : bmOf h hs b = some (i, 0, zs.length) := by
  have hx : ∃ i : Nat, ∃ s : Sl, hs[i]? = some s ∧ s.1 = some ⟨b, 0, none⟩ := ⟨i, s, hi, hb⟩
  unfold bmOf
  rw [dif_pos hx, BlkE.cellsN o]
  obtain ⟨t, ht, hb2⟩ := Classical.choose_spec hx
  have e := S.two _ i t s _ _ ht hi hb2 hb rfl
  rw [e]; rfl
theorem bmOf_mks {hB h : Hp} {hs : List Sl} (S : Sep hB h hs) : Mks hB h (bmOf h hs) := by
  refine ⟨fun b i N m e => ?_⟩
  by_cases hx : ∃ i : Nat, ∃ s : Sl, hs[i]? = some s ∧ s.1 = some ⟨b, 0, none⟩
  · obtain ⟨j, s, hj, hb⟩ := hx
    obtain ⟨_, _, h3⟩ := S.one s (List.mem_of_getElem? hj)
    rcases h3 with ⟨e1, _⟩ | ⟨b', zs, e1, e2, o, e3⟩
    · rw [e1] at hb; cases hb
    · rw [e1] at hb; cases hb
      rw [bmOf_at S hj e1 o] at e
      simp only [Option.some.injEq, Prod.mk.injEq] at e
      obtain ⟨rfl, rfl, rfl⟩ := e
      exact ⟨e2, zs, by simpa [mkl] using o, by omega⟩
  · unfold bmOf at e
    rw [dif_neg hx] at e; cases e
theorem Apart_spec {hB h : Hp} {a0 : Option Addr} {c0 l : Nat} {hs : List Sl} (kB : Keep hB h) (hd : RdE eSl h a0 c0 hs) (hl : l = hs.length) (hn : hs.length ≤ 10000) (S : Sep hB h hs) (ha : ∀ p, a0 = some p → p.block < h.size ∧ ∀ s ∈ hs, ∀ q, s.1 = some q → q.block ≠ p.block) :
    HC gnomonref01_Apart.id #[.slice a0 l c0] h fun v h' => v = .bool true ∧ Keep hB h' := by
  subst hl
  refine gnomonref01_Apart.ok ?_
  unfold gnomonref01_Apart.t gnomonref01_Apart.D1.t gnomonref01_Apart.D58.t
  have A : ASt hB h h (bmOf h hs) a0 c0 hs := ⟨bmOf_mks S, kB, kB.le, Nat.le_refl _, hd, fun p ep => by
    unfold bmOf
    rw [dif_neg]
    rintro ⟨i, s, hi, hb⟩
    exact (ha p ep).2 s (List.mem_of_getElem? hi) _ hb rfl, fun p ep => (ha p ep).1⟩
  refine ⟨hs.length + 1, mark_all hn (fun j s hj => (S.one s (List.mem_of_getElem? hj)).2.1) hs.length 0 h (bmOf h hs) (by omega) A fun j s hj => ?_⟩
  rw [if_neg (by omega)]
  obtain ⟨h1, h2, h3⟩ := S.one s (List.mem_of_getElem? hj)
  refine ⟨h1, by omega, h3.imp id ?_⟩
  rintro ⟨b, zs, e1, e2, o, e3⟩
  exact ⟨b, 0, zs.length, e1, bmOf_at S hj e1 o, Nat.le_refl _, e3⟩
end Go.Proofs.YtnbpbojcjihboaaDoor.G
