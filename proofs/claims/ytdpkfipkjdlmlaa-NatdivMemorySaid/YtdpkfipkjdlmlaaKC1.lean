/- Texts of this work, joined: StrApart, StrApart2, BldW, StrBld, StrText, StrDig, StrBack, StrMem, StrMem2. -/
import Derived.Test.YtdpkfipkjdlmlaaProg
import Derived.Shelf.Strings.Builder1
import Derived.Test.YtdpkfipkjdlmlaaKB
import Derived.Test.YtdpkfipkjdlmlaaKC0
/- apart answers true where each of the lists has memory of its own. -/
namespace Go.Proofs.Ytdpkfipkjdlmlaa.G
open Go.Gv
set_option maxRecDepth 100000
set_option linter.unusedVariables false
/-! ### marks -/
def m3 (x y : Int) : Nat := (IntKind.u64.wrap (IntKind.u64.wrap (IntKind.u64.wrap (IntKind.u64.wrap (IntKind.i64.wrap (x + 1)) * 1000003) + IntKind.u64.wrap (IntKind.u64.wrap y * 7919)) + 6485183463413514240)).toNat
theorem m3_lt (x y : Int) : m3 x y < 18446744073709551616 := by
  unfold m3; rw [wrap_u64]; omega
theorem mark_intro {h : Hp} {x y : Int} {K : Int → Prop} (g : K (m3 x y : Nat)) : HQC gnomonlaw03_mark.id #[.int .i64 x, .int .i64 y] h fun v => gInt .u64 v K := by
  refine ⟨.int .u64 (m3 x y : Nat), ?_, gInt_intro rfl g⟩
  refine gnomonlaw03_mark.ok ?_
  unfold gnomonlaw03_mark.t gnomonlaw03_mark.D1.t
  refine letK_out (letK_out (letK_out (letK_out (letK_out (letK_out (letK_out ?_))))))
  refine ⟨?_, rfl⟩
  have : ((m3 x y : Nat) : Int) = IntKind.u64.wrap (IntKind.u64.wrap (IntKind.u64.wrap (IntKind.u64.wrap (IntKind.i64.wrap (x + 1)) * 1000003) + IntKind.u64.wrap (IntKind.u64.wrap y * 7919)) + 6485183463413514240) := by
    unfold m3; rw [Int.toNat_of_nonneg]; rw [wrap_u64]; omega
  rw [this]
def mks (i : Nat) : Nat → Nat → List Nat
  | _, 0 => []
  | k, n + 1 => m3 (i : Int) (k : Int) :: mks i (k + 1) n
theorem mks_len (i : Nat) : ∀ k n, (mks i k n).length = n
  | _, 0 => rfl
  | k, n + 1 => by simp [mks, mks_len i (k + 1) n]
theorem mks_ok (i : Nat) : ∀ k n, ∀ x ∈ mks i k n, x < 18446744073709551616
  | _, 0 => by simp [mks]
  | k, n + 1 => by
    intro x hx
    rcases List.mem_cons.mp hx with e | e
    · subst e; exact m3_lt _ _
    · exact mks_ok i (k + 1) n x e
theorem mks_add (i : Nat) : ∀ k n m, mks i k (n + m) = mks i k n ++ mks i (k + n) m
  | k, 0, m => by simp [mks]
  | k, n + 1, m => by
    rw [show n + 1 + m = (n + m) + 1 by omega]
    simp only [mks, List.cons_append]
    rw [mks_add i (k + 1) n m, show k + 1 + n = k + (n + 1) by omega]
theorem mks_snoc (i k n : Nat) : mks i k (n + 1) = mks i k n ++ [m3 (i : Int) ((k + n : Nat) : Int)] := by rw [mks_add]; rfl
theorem mks_get (i : Nat) : ∀ k n j, j < n → (mks i k n)[j]? = some (m3 (i : Int) ((k + j : Nat) : Int))
  | k, 0, j, h => absurd h (by omega)
  | k, n + 1, 0, _ => by simp [mks]
  | k, n + 1, j + 1, h => by
    simp only [mks, List.getElem?_cons_succ]
    rw [mks_get i (k + 1) n j (by omega), show k + 1 + j = k + (j + 1) by omega]
theorem mks_getD {i k n j : Nat} (h : j < n) : (mks i k n).getD j 0 = m3 (i : Int) ((k + j : Nat) : Int) := by simp [List.getD, mks_get i k n j h]
/-- What a list grown by marks from p on holds at a place. -/
theorem grown_lo {i l p n j : Nat} (h : j < l) : (mks i 0 l ++ mks i p n).getD j 0 = m3 (i : Int) (j : Int) := by
  simp only [List.getD]
  rw [List.getElem?_append_left (by rw [mks_len]; exact h), mks_get i 0 l j h, Nat.zero_add]; rfl
theorem grown_hi {i l p n j : Nat} (h : l ≤ j) (h2 : j < l + n) : (mks i 0 l ++ mks i p n).getD j 0 = m3 (i : Int) ((p + (j - l) : Nat) : Int) := by
  simp only [List.getD]
  rw [List.getElem?_append_right (by rw [mks_len]; exact h), mks_len, mks_get i p n (j - l) (by omega)]; rfl
/-! ### whose a block is -/
abbrev Om := Nat → Option Nat
structure Ow (O : Om) (h : Hp) (i : Nat) (s : Sl) (xs : List Nat) : Prop where
  l : s.2.1 = xs.length
  cap : xs.length ≤ s.2.2
  lim : xs.length ≤ 17592186044400
  here : (xs = [] ∧ s.1 = none ∧ s.2.2 = 0) ∨ ∃ b rest, s.1 = some ⟨b, 0, none⟩ ∧ O b = some i ∧ BlkE eU64 h b (xs ++ rest) ∧ s.2.2 ≤ (xs ++ rest).length
/-- A step of owner i: it writes its own blocks and makes new ones. -/
structure Fm (O : Om) (i : Nat) (h : Hp) (O' : Om) (h' : Hp) : Prop where
  le : h.size ≤ h'.size
  own : ∀ b, b < h.size → O' b = O b
  pre : ∀ b, b < h.size → O b ≠ some i → h'[b]? = h[b]?
  top : (∀ b, h.size ≤ b → O b = none) → ∀ b, h'.size ≤ b → O' b = none
theorem Fm.refl (O : Om) (i : Nat) (h : Hp) : Fm O i h O h := ⟨Nat.le_refl _, fun _ _ => rfl, fun _ _ _ => rfl, fun t => t⟩
theorem Fm.trans {O O' O'' : Om} {i : Nat} {h h' h'' : Hp} (x : Fm O i h O' h') (y : Fm O' i h' O'' h'') : Fm O i h O'' h'' :=
  ⟨Nat.le_trans x.le y.le, fun b hb => (y.own b (Nat.lt_of_lt_of_le hb x.le)).trans (x.own b hb), fun b hb ho => (y.pre b (Nat.lt_of_lt_of_le hb x.le) (by rw [x.own b hb]; exact ho)).trans (x.pre b hb ho), fun t => y.top (x.top t)⟩
theorem Fm.of_keep {h h' : Hp} (k : Keep h h') (O : Om) (i : Nat) : Fm O i h O h' := ⟨k.le, fun _ _ => rfl, fun b hb _ => k.pre b hb, fun t b hb => t b (Nat.le_trans k.le hb)⟩
theorem Fm.of_keepB {h h' : Hp} {q : Nat} (k : KeepB q h h') {O : Om} {i : Nat} (hq : O q = some i) : Fm O i h O h' := ⟨k.le, fun _ _ => rfl, fun b hb ho => k.pre b hb (fun e => ho (by rw [e]; exact hq)), fun t b hb => t b (Nat.le_trans k.le hb)⟩
theorem Fm.keep {O O' : Om} {i : Nat} {h0 h h' : Hp} (f : Fm O i h O' h') (k : Keep h0 h) (ho : ∀ b, b < h0.size → O b = none) : Keep h0 h' :=
  ⟨Nat.le_trans k.le f.le, fun b hb => (f.pre b (Nat.lt_of_lt_of_le hb k.le) (by rw [ho b hb]; intro e; cases e)).trans (k.pre b hb)⟩
theorem Fm.old {O O' : Om} {i : Nat} {h0 h h' : Hp} (f : Fm O i h O' h') (k : Keep h0 h) (ho : ∀ b, b < h0.size → O b = none) : ∀ b, b < h0.size → O' b = none :=
  fun b hb => (f.own b (Nat.lt_of_lt_of_le hb k.le)).trans (ho b hb)
theorem Fm.blk {α : Type} {E : El α} {O O' : Om} {i b : Nat} {h h' : Hp} {zs : List α} (f : Fm O i h O' h') (o : BlkE E h b zs) (hb : O b = none) : BlkE E h' b zs ∧ O' b = none := by
  obtain ⟨e, g⟩ := o.at_
  exact ⟨⟨o.ok, e, by rw [f.pre b o.lt (by rw [hb]; intro e; cases e)]; exact g⟩, (f.own b o.lt).trans hb⟩
theorem Ow.rd {O : Om} {h : Hp} {i : Nat} {s : Sl} {xs : List Nat} (w : Ow O h i s xs) : Rd h s.1 s.2.2 xs := by
  rcases w.here with ⟨e1, e2, e3⟩ | ⟨b, rest, e1, _, o, _⟩
  · subst e1; exact Rd.nil _ _ _
  · rw [e1]; exact (o.rd (Nat.le_trans w.lim (by show _ ≤ 35184372088828; decide)) w.cap).to64
theorem Ow.other {O O' : Om} {h h' : Hp} {i j : Nat} {s : Sl} {xs : List Nat} (w : Ow O h j s xs) (f : Fm O i h O' h') (hij : j ≠ i) : Ow O' h' j s xs :=
  ⟨w.l, w.cap, w.lim, w.here.imp id fun ⟨b, rest, e1, e2, o, e3⟩ => by
    obtain ⟨e, g⟩ := o.at_
    exact ⟨b, rest, e1, (f.own b o.lt).trans e2, ⟨o.ok, e, by rw [f.pre b o.lt (by rw [e2]; intro hh; cases hh; exact hij rfl)]; exact g⟩, e3⟩⟩
theorem Ow.keep {O : Om} {h h' : Hp} {i : Nat} {s : Sl} {xs : List Nat} (w : Ow O h i s xs) (k : Keep h h') : Ow O h' i s xs :=
  ⟨w.l, w.cap, w.lim, w.here.imp id fun ⟨b, rest, e1, e2, o, e3⟩ => ⟨b, rest, e1, e2, o.keep k, e3⟩⟩
theorem Ow.keepB {O : Om} {h h' : Hp} {q i : Nat} {s : Sl} {xs : List Nat} (w : Ow O h i s xs) (k : KeepB q h h') (hq : O q = none) : Ow O h' i s xs :=
  ⟨w.l, w.cap, w.lim, w.here.imp id fun ⟨b, rest, e1, e2, o, e3⟩ => ⟨b, rest, e1, e2, o.keepB (fun hh => by rw [hh, hq] at e2; cases e2) k, e3⟩⟩
/-- A place of a list is written by its owner. -/
theorem ow_put {O : Om} {h : Hp} {i j : Nat} {s : Sl} {xs : List Nat} {v : Nat} (w : Ow O h i s xs) {x : Int} (hx : x = (j : Int)) (hj : j < xs.length) (hv : v < 18446744073709551616) {K : Hp → Prop}
    (g : ∀ h', Ow O h' i s (xs.set j v) → Fm O i h O h' → K h') : idxK s.1 s.2.1 x 1 fun q => stK h q (.int .u64 (v : Int)) K := by
  rcases w.here with ⟨e1, _, _⟩ | ⟨b, rest, e1, e2, o, e3⟩
  · subst e1; simp at hj
  · rw [e1, w.l]
    refine putE0 o hx hj (by rw [List.length_append]; omega) rfl hv fun o2 k2 => ?_
    refine g _ ⟨by rw [List.length_set]; exact w.l, by rw [List.length_set]; exact w.cap, by rw [List.length_set]; exact w.lim, Or.inr ⟨b, rest, e1, e2, ?_, ?_⟩⟩ (Fm.of_keepB k2 e2)
    · rw [List.set_append_left _ _ hj] at o2; exact o2
    · rw [List.length_append, List.length_set]; rw [List.length_append] at e3; exact e3
/-- append, in place or into a new block. -/
theorem apE4 {α : Type} {E : El α} {h0 h : Hp} {e : TypeId} {i : TyI} {a a2 : Option Addr} {l c c2 c3 n : Nat} {xs ys : List α} (g : GotE E h0 h a c xs) (k0 : h0.size ≤ h.size) (r : RdE E h a2 c2 ys) (hl : l = xs.length) (hn : n = ys.length) (hlv : i.leaves.length = 1) (z : α) (hz : i.zs = [E.enc z]) (hzo : E.ok z)
    (by_ : Nat) (hb : i.bytes = by_) (hb1 : 1 ≤ by_) (hlim : xs.length + ys.length ≤ E.lim) (hfit : c < xs.length + ys.length → (xs.length + ys.length) * by_ ≤ 140737488355328) {K : Option Addr → Nat → Nat → Hp → Prop}
    (stay : xs.length + ys.length ≤ c → ∀ h', GotE E h0 h' a c (xs ++ ys) → KeepX a h h' → K a (xs.length + ys.length) c h')
    (move : ¬ xs.length + ys.length ≤ c → ∀ b c' h', GotE E h0 h' (some ⟨b, 0, none⟩) c' (xs ++ ys) → Keep h h' → h.size ≤ b → K (some ⟨b, 0, none⟩) (xs.length + ys.length) c' h') : apK h e i a l c (.slice a2 n c3) K := by
  subst hl; subst hn; subst hb
  have hm := g.cap
  refine ⟨ys.length, ys.map E.enc, rfl, ?_, ?_, ?_⟩
  · rw [hlv]; have := r.srcL (l := ys.length) (c2 := c3) ys.length (Nat.le_refl _); rw [List.take_length] at this; exact this
  · intro hfc
    rcases g.here with ⟨e1, e2, e3⟩ | ⟨b, rest, e1, e2, o, e3⟩
    · subst e1; subst e2; subst e3
      have : ys = [] := List.length_eq_zero_iff.mp (by simpa using hfc)
      subst this
      exact stay (Nat.zero_le _) h (GotE.nil _ _) (KeepX.refl _ _)
    · subst e1
      rw [hlv, Nat.mul_one]
      show StL h ((⟨b, 0, none⟩ : Addr).add xs.length) 0 (List.map E.enc ys).length ∧ K (some ⟨b, 0, none⟩) (xs.length + ys.length) c (stH h ((⟨b, 0, none⟩ : Addr).add xs.length) 0 (List.map E.enc ys))
      rw [base_add]
      have hrest : ys.length ≤ rest.length := by rw [List.length_append] at e3; omega
      have st := stHE (vs := ys) (off := xs.length) (i := 0) o r.ok (by rw [List.length_append]; omega)
      refine ⟨stLE_of fun j hj => ?_, ?_⟩
      · rw [List.length_map] at hj
        have e : (⟨b, xs.length, none⟩ : Addr).add (0 + j) = ⟨b, xs.length + j, none⟩ := by
          rw [Nat.zero_add, ← base_add b xs.length, add_add, base_add]
        rw [e]
        obtain ⟨w, hw⟩ : ∃ w, (xs ++ rest)[xs.length + j]? = some w := ⟨_, List.getElem?_eq_getElem (by rw [List.length_append]; omega)⟩
        exact ⟨⟨_, o.cell hw⟩, o.frozen _⟩
      · have ez : (xs ++ rest).take (xs.length + 0) ++ (ys ++ (xs ++ rest).drop (xs.length + 0 + ys.length)) = (xs ++ ys) ++ rest.drop ys.length := by
          rw [Nat.add_zero, List.take_left, List.drop_append, List.drop_of_length_le (by omega), List.nil_append, List.append_assoc]
          congr 3; omega
        rw [ez] at st
        refine stay hfc _ ?_ ⟨st.2.le, fun b' hb' ho => st.2.pre b' hb' (fun e => ho _ rfl e.symm)⟩
        refine ⟨by rw [List.length_append]; exact hlim, by rw [List.length_append]; exact hfc, Or.inr ⟨b, rest.drop ys.length, rfl, e2, st.1, ?_⟩⟩
        rw [List.length_append] at e3
        rw [List.length_append, List.length_append, List.length_drop]; omega
  · intro hfc
    have hlt : c < xs.length + ys.length := by omega
    have hfit := hfit hlt
    refine ⟨growslice_fits hlt hfit, hb1, ?_, (xs.map E.enc), ?_, ?_⟩
    · have : (xs.length + ys.length) * 1 ≤ (xs.length + ys.length) * i.bytes := Nat.mul_le_mul_left _ hb1
      omega
    · rw [hlv]; have := g.rd.srcL (l := xs.length) (c2 := c) xs.length (Nat.le_refl _); rw [List.take_length] at this; exact this
    · intro nc hnc
      refine move hfc _ _ _ ?_ ⟨by simp, fun b' hb' => by rw [Array.getElem?_push]; rw [if_neg (by omega)]⟩ (Nat.le_refl _)
      have o : BlkE E (h.push (.cells (xs.map E.enc ++ (ys.map E.enc ++ zerosL i.zs (nc - (xs.length + ys.length)))).toArray e (0, 0))) h.size ((xs ++ ys) ++ List.replicate (nc - (xs.length + ys.length)) z) := by
        refine ⟨fun x hx => ?_, e, ?_⟩
        · rcases List.mem_append.mp hx with h1 | h1
          · rcases List.mem_append.mp h1 with h2 | h2
            · exact g.rd.ok x h2
            · exact r.ok x h2
          · rw [List.eq_of_mem_replicate h1]; exact hzo
        · rw [hz, zerosL_one]; simp
      exact o.got k0 (by rw [List.length_append]; exact hlim) (by rw [List.length_append]; exact hnc) (by simp; omega)
/-- append by the owner. -/
theorem ow_ap {O : Om} {h : Hp} {i n c2 c3 : Nat} {s : Sl} {xs ys : List Nat} {a2 : Option Addr} (w : Ow O h i s xs) (r : RdE eU64 h a2 c2 ys) (hn : n = ys.length) (hy : ys ≠ []) (hl : xs.length + ys.length ≤ 17592186044400) {K : Option Addr → Nat → Nat → Hp → Prop}
    (post : ∀ a' c' h' O', Ow O' h' i (a', (xs ++ ys).length, c') (xs ++ ys) → Fm O i h O' h' →
      (∀ (t : Sl) (zs : List Nat), Ow O h i t zs → zs.length ≤ xs.length → (t.1 = s.1 → t.2.2 ≤ s.2.2) → Ow O' h' i t zs ∧ (t.1 = a' → t.2.2 ≤ c')) → K a' (xs ++ ys).length c' h') : apK h 27 T27 s.1 s.2.1 s.2.2 (.slice a2 n c3) K := by
  have g0 : GotE eU64 #[] h s.1 s.2.2 xs := ⟨Nat.le_trans w.lim (by show _ ≤ 35184372088828; decide), w.cap, w.here.imp id fun ⟨b, rest, e1, _, o, e3⟩ => ⟨b, rest, e1, Nat.zero_le _, o, e3⟩⟩
  have hne : xs ++ ys ≠ [] := fun e => hy (List.append_eq_nil_iff.mp e).2
  refine apE4 g0 (Nat.zero_le _) r w.l hn rfl 0 rfl ok64 8 rfl (by decide) (by show _ ≤ 35184372088828; omega) (fun _ => by omega) (fun hf h' g' kx => ?_) (fun hf b' c' h' g' k' hb' => ?_)
  · rw [← List.length_append]
    rcases w.here with ⟨e6, e7, e8⟩ | ⟨b, rest3, e6, e7, o3, e8⟩
    · have := List.length_pos_iff.mpr hy; omega
    · rcases g'.here with ⟨e4, _, _⟩ | ⟨b2, rest2, e4, _, o2, e5⟩
      · exact absurd e4 hne
      have e9 : b2 = b := by rw [e6] at e4; cases e4; rfl
      subst e9
      have fm : Fm O i h O h' := ⟨kx.le, fun _ _ => rfl, fun c hc ho => kx.pre c hc fun p ep eb => ho (by rw [e6] at ep; cases ep; rw [← eb]; exact e7), fun t c hc => t c (Nat.le_trans kx.le hc)⟩
      refine post s.1 s.2.2 h' O ⟨rfl, g'.cap, by rw [List.length_append]; exact hl, Or.inr ⟨b2, rest2, e6, e7, o2, e5⟩⟩ fm fun t zs wt hz htc => ⟨⟨wt.l, wt.cap, wt.lim, ?_⟩, htc⟩
      rcases wt.here with h1 | ⟨b, rest, f1, f2, o, f3⟩
      · exact Or.inl h1
      · refine Or.inr ?_
        by_cases hs : t.1 = s.1
        · have eb : b2 = b := by rw [hs, e6] at f1; cases f1; rfl
          subst eb
          have ec : xs ++ rest3 = zs ++ rest := by
            obtain ⟨t1, g1⟩ := o3.at_
            obtain ⟨t2, g2⟩ := o.at_
            rw [g1] at g2
            simp only [Option.some.injEq, Obj.cells.injEq] at g2
            have h6 := congrArg Array.toList g2.1
            simp only at h6
            exact (List.map_inj_right (fun x y e => by simp [eU64] at e; omega)).mp h6
          have hlz : zs.length ≤ (xs ++ ys ++ rest2).length := by rw [List.length_append, List.length_append]; omega
          refine ⟨b2, (xs ++ ys ++ rest2).drop zs.length, f1, f2, ?_, ?_⟩
          · have ez : zs = (xs ++ ys ++ rest2).take zs.length := by
              rw [List.append_assoc, List.take_append_of_le_length hz]
              have := congrArg (List.take zs.length) ec
              rw [List.take_append_of_le_length hz, List.take_left] at this
              exact this.symm
            have : zs ++ (xs ++ ys ++ rest2).drop zs.length = xs ++ ys ++ rest2 := by
              conv => lhs; rw [ez]
              rw [List.length_take, Nat.min_eq_left hlz, List.take_append_drop]
            rw [this]; exact o2
          · rw [List.length_append, List.length_drop]
            have h7 := htc hs
            omega
        · refine ⟨b, rest, f1, f2, ?_, f3⟩
          refine o.keepX kx fun p ep eb => hs ?_
          rw [e6] at ep; cases ep
          rw [f1, e6, ← eb]
  · rw [← List.length_append]
    rcases g'.here with ⟨e4, _, _⟩ | ⟨b2, rest2, e4, _, o2, e5⟩
    · exact absurd e4 hne
    cases e4
    have fm : Fm O i h (fun c => if c = b' then some i else O c) h' := ⟨k'.le, fun c hc => if_neg (by omega), fun c hc _ => k'.pre c hc, fun t c hc => by
      have h9 := o2.lt
      show (if c = b' then some i else O c) = none
      rw [if_neg (by omega)]; exact t c (Nat.le_trans k'.le hc)⟩
    refine post _ c' h' _ ⟨rfl, g'.cap, by rw [List.length_append]; exact hl, Or.inr ⟨b', rest2, rfl, if_pos rfl, o2, e5⟩⟩ fm fun t zs wt hz htc => ⟨⟨wt.l, wt.cap, wt.lim, ?_⟩, fun et => ?_⟩
    · exact wt.here.imp id fun ⟨b, rest, f1, f2, o, f3⟩ => ⟨b, rest, f1, (fm.own b o.lt).trans f2, o.keep k', f3⟩
    · exfalso
      rcases wt.here with ⟨_, f1, _⟩ | ⟨b, rest, f1, _, o, _⟩
      · rw [f1] at et; cases et
      · rw [f1] at et; cases et
        have := o.lt
        omega
end Go.Proofs.Ytdpkfipkjdlmlaa.G

/- The walk through apart. -/
namespace Go.Proofs.Ytdpkfipkjdlmlaa.G
open Go.Gv
set_option maxRecDepth 100000
set_option linter.unusedVariables false
structure Hdr (O : Om) (h : Hp) (bl : Nat) (hs : List Sl) : Prop where
  blk : BlkE eSl h bl hs
  own : O bl = none
theorem Hdr.fm {O O' : Om} {i bl : Nat} {h h' : Hp} {hs : List Sl} (d : Hdr O h bl hs) (f : Fm O i h O' h') : Hdr O' h' bl hs := ⟨(f.blk d.blk d.own).1, (f.blk d.blk d.own).2⟩
theorem Hdr.keep {O : Om} {bl : Nat} {h h' : Hp} {hs : List Sl} (d : Hdr O h bl hs) (k : Keep h h') : Hdr O h' bl hs := ⟨d.blk.keep k, d.own⟩
theorem Hdr.keepB {O : Om} {bl q : Nat} {h h' : Hp} {hs : List Sl} (d : Hdr O h bl hs) (k : KeepB q h h') (hq : bl ≠ q) : Hdr O h' bl hs := ⟨d.blk.keepB hq k, d.own⟩
theorem at_hdr {O : Om} {bl n j : Nat} {h : Hp} {hs : List Sl} {s : Sl} (d : Hdr O h bl hs) (hn : n = hs.length) (hm : n ≤ 1000) (hj : hs[j]? = some s) {K : Option Addr → Nat → Nat → Prop} (g : K s.1 s.2.1 s.2.2) :
    idxK (some ⟨bl, 0, none⟩) n (j : Int) 1 fun q => ldK h q fun v => gSlice v K :=
  atSl (d.blk.rd' (c := n) (by show _ ≤ 11728124029610; omega) (by omega)) rfl hn hj g
theorem set_take {xs : List Nat} {j v : Nat} (hj : j < xs.length) : (xs.set j v).take (j + 1) = xs.take j ++ [v] := by
  rw [List.take_add_one, List.take_set_of_le (Nat.le_refl j)]
  congr 1
  rw [List.getElem?_set_self hj]; rfl
/-! ### all are written full -/
theorem fill_inner {R : Rt} {N59 : Option Addr → Nat → Nat → Int → Hp → Prop} {O : Om} {bl n i : Nat} {hs : List Sl} {s : Sl} {h0 : Hp} (hlen : n = hs.length) (hn : n ≤ 1000) (hi : hs[i]? = some s)
    (post : ∀ h', Ow O h' i s (mks i 0 s.2.1) → Fm O i h0 O h' → N59 (some ⟨bl, 0, none⟩) n n ((i + 1 : Nat) : Int) h') :
    ∀ (k j : Nat) (xs : List Nat) (h : Hp), j + k = s.2.1 → xs.take j = mks i 0 j → Ow O h i s xs → Hdr O h bl hs → Fm O i h0 O h → gnomonlaw03_apart.L63.t R N59 (k + 1) (some ⟨bl, 0, none⟩) n n (i : Int) (j : Int) h := by
  have hi' := (List.getElem?_eq_some_iff.mp hi).1
  intro k
  induction k with
  | zero =>
    intro j xs h hj hp w d f
    have hl := w.l
    have h9 := w.lim
    unfold gnomonlaw03_apart.L63.t gnomonlaw03_apart.D64.t
    refine at_hdr d hlen hn hi ?_
    refine c_dec (fun hb => absurd hb (by omega)) fun _ => ?_
    unfold gnomonlaw03_apart.D61.t
    refine k_i64 ((i + 1 : Nat) : Int) (by omega) (by omega) (by omega) ?_
    refine post h ?_ f
    rw [List.take_of_length_le (by omega)] at hp
    have : j = s.2.1 := by omega
    rw [← this, ← hp]; exact w
  | succ k ih =>
    intro j xs h hj hp w d f
    have hl := w.l
    have h9 := w.lim
    unfold gnomonlaw03_apart.L63.t gnomonlaw03_apart.D64.t
    refine at_hdr d hlen hn hi ?_
    refine c_dec (fun _ => ?_) fun hb => absurd (by omega) hb
    refine at_hdr d hlen hn hi ?_
    refine mark_intro ?_
    refine ow_put w (j := j) rfl (by omega) (m3_lt _ _) fun h' w' f' => ?_
    refine k_i64 ((j + 1 : Nat) : Int) (by omega) (by omega) (by omega) ?_
    refine ih (j + 1) _ h' (by omega) ?_ w' (d.fm f') (f.trans f')
    rw [set_take (by omega), hp, mks_snoc, Nat.zero_add]
theorem fill_outer {R : Rt} {O : Om} {bl n : Nat} {hs : List Sl} {h00 : Hp} (hlen : n = hs.length) (hn : n ≤ 1000) (old : ∀ b, b < h00.size → O b = none)
    (post : ∀ h', (∀ j s, hs[j]? = some s → Ow O h' j s (mks j 0 s.2.1)) → Hdr O h' bl hs → Keep h00 h' → (∀ b, h'.size ≤ b → O b = none) → gnomonlaw03_apart.D2.t R (some ⟨bl, 0, none⟩) n n h') :
    ∀ (k i : Nat) (h : Hp), i + k = n → (∀ j s, hs[j]? = some s → ∃ xs, Ow O h j s xs ∧ (j < i → xs = mks j 0 s.2.1)) → Hdr O h bl hs → Keep h00 h → (∀ b, h.size ≤ b → O b = none) → gnomonlaw03_apart.L59.t R (k + 1) (some ⟨bl, 0, none⟩) n n (i : Int) h := by
  intro k
  induction k with
  | zero =>
    intro i h hi ws d kp tp
    unfold gnomonlaw03_apart.L59.t gnomonlaw03_apart.D60.t
    refine c_dec (fun hb => absurd hb (by omega)) fun _ => ?_
    refine post h (fun j s hj => ?_) d kp tp
    obtain ⟨xs, w, e⟩ := ws j s hj
    have := (List.getElem?_eq_some_iff.mp hj).1
    rw [← e (by omega)]; exact w
  | succ k ih =>
    intro i h hi ws d kp tp
    unfold gnomonlaw03_apart.L59.t gnomonlaw03_apart.D60.t
    refine c_dec (fun _ => ?_) fun hb => absurd (by omega) hb
    unfold gnomonlaw03_apart.D62.t
    obtain ⟨s, hs'⟩ : ∃ s, hs[i]? = some s := ⟨hs[i]'(by omega), by simp⟩
    obtain ⟨xs, w, _⟩ := ws i s hs'
    refine ⟨s.2.1 + 1, fill_inner (h0 := h) hlen hn hs' (fun h' w' f => ?_) s.2.1 0 xs h (by omega) rfl w d (Fm.refl _ _ _)⟩
    refine ih (i + 1) h' (by omega) (fun j t hj => ?_) (d.fm f) (f.keep kp old) (f.top tp)
    by_cases e : j = i
    · subst e
      rw [hs'] at hj; cases hj
      exact ⟨_, w', fun _ => rfl⟩
    · obtain ⟨ys, w2, e2⟩ := ws j t hj
      exact ⟨ys, w2.other f e, fun hh => e2 (by omega)⟩
/-! ### all are grown one by one -/
theorem grow_inner {R : Rt} {N44 : Option Addr → Nat → Nat → Option Addr → Nat → Nat → Int → Hp → Prop} {O0 : Om} {A G : Option Addr} {n i : Nat} {s : Sl} {h0 : Hp} (hl : s.2.1 + 64 ≤ 17592186044400)
    (post : ∀ a7 c7 O' h', Ow O' h' i s (mks i 0 s.2.1) → Ow O' h' i (a7, (mks i 0 s.2.1 ++ mks i 100000 16).length, c7) (mks i 0 s.2.1 ++ mks i 100000 16) → Fm O0 i h0 O' h' →
      gnomonlaw03_apart.D48.t R N44 A n n G n n (i : Int) a7 (mks i 0 s.2.1 ++ mks i 100000 16).length c7 h') :
    ∀ (k t : Nat) (a7 : Option Addr) (c7 : Nat) (O : Om) (h : Hp), t + k = 16 → Ow O h i s (mks i 0 s.2.1) → Ow O h i (a7, (mks i 0 s.2.1 ++ mks i 100000 t).length, c7) (mks i 0 s.2.1 ++ mks i 100000 t) → (s.1 = a7 → s.2.2 ≤ c7) → Fm O0 i h0 O h →
      gnomonlaw03_apart.L50.t R N44 (k + 1) A n n G n n (i : Int) a7 (mks i 0 s.2.1 ++ mks i 100000 t).length c7 (t : Int) h := by
  intro k
  induction k with
  | zero =>
    intro t a7 c7 O h ht w g hc f
    unfold gnomonlaw03_apart.L50.t gnomonlaw03_apart.D51.t
    refine c_dec (fun hb => absurd hb (by omega)) fun _ => ?_
    have e : t = 16 := by omega
    subst e
    exact post a7 c7 O h w g f
  | succ k ih =>
    intro t a7 c7 O h ht w g hc f
    have ih := ih (t + 1)
    rw [mks_snoc, ← List.append_assoc] at ih
    unfold gnomonlaw03_apart.L50.t gnomonlaw03_apart.D51.t
    refine c_dec (fun _ => ?_) fun hb => absurd (by omega) hb
    refine k_i64 ((100000 + t : Nat) : Int) (by omega) (by omega) (by omega) ?_
    refine mark_intro ?_
    refine boxE eU64 [m3 (i : Int) ((100000 + t : Nat) : Int)] rfl (fun y hy => by rw [List.mem_singleton.mp hy]; exact m3_lt _ _) fun h2 o2 k2 => ?_
    have hlen : (mks i 0 s.2.1 ++ mks i 100000 t).length = s.2.1 + t := by rw [List.length_append, mks_len, mks_len]
    refine ow_ap (s := (a7, _, c7)) (g.keep k2) (o2.rd' (c := 1) (by show 1 ≤ 35184372088828; decide) (Nat.le_refl _)) rfl (by simp) (by rw [hlen, List.length_singleton]; omega) fun a' c' h' O' w' f' tr => ?_
    obtain ⟨ws, hc'⟩ := tr s _ (w.keep k2) (by rw [hlen, mks_len]; omega) hc
    refine k_i64 ((t + 1 : Nat) : Int) (by omega) (by omega) (by omega) ?_
    exact ih a' c' O' h' (by omega) ws w' hc' (f.trans ((Fm.of_keep k2 O i).trans f'))
/-- What the grown lists hold, for the first i of them. -/
def Gr (P q : Nat) (O : Om) (h : Hp) (hs gs : List Sl) (i : Nat) : Prop := ∀ j s, j < i → hs[j]? = some s → ∃ g, gs[j]? = some g ∧ Ow O h j g (mks j 0 s.2.1 ++ mks j P q)
theorem Gr.step {P q i bg : Nat} {O O' : Om} {h h' h'' : Hp} {hs gs : List Sl} {s g : Sl} (gr : Gr P q O h hs gs i) (f : Fm O i h O' h') (k : KeepB bg h' h'') (hbg : O' bg = none) (hi : hs[i]? = some s) (hg : i < gs.length) (w : Ow O' h' i g (mks i 0 s.2.1 ++ mks i P q)) :
    Gr P q O' h'' hs (gs.set i g) (i + 1) := by
  intro j t hj ht
  by_cases e : j = i
  · subst e
    rw [hi] at ht; cases ht
    exact ⟨g, List.getElem?_set_self hg, w.keepB k hbg⟩
  · obtain ⟨g2, e2, w2⟩ := gr j t (by omega) ht
    exact ⟨g2, by rw [List.getElem?_set_ne (fun hh => e hh.symm)]; exact e2, (w2.other f e).keepB k hbg⟩
theorem grow_outer {R : Rt} {bl bg n : Nat} {hs : List Sl} {h00 : Hp} (hlen : n = hs.length) (hn : n ≤ 1000) (hne : bl ≠ bg) (hbg : h00.size ≤ bg) (hl : ∀ (j : Nat) (s : Sl), hs[j]? = some s → s.2.1 + 64 ≤ 17592186044400)
    (post : ∀ O' h' gs, (∀ j s, hs[j]? = some s → Ow O' h' j s (mks j 0 s.2.1)) → Gr 100000 16 O' h' hs gs n → Hdr O' h' bl hs → Hdr O' h' bg gs → gs.length = n → Keep h00 h' → (∀ b, b < h00.size → O' b = none) → (∀ b, h'.size ≤ b → O' b = none) → gnomonlaw03_apart.D31.t R (some ⟨bl, 0, none⟩) n n (some ⟨bg, 0, none⟩) n n h') :
    ∀ (k i : Nat) (O : Om) (h : Hp) (gs : List Sl), i + k = n → (∀ j s, hs[j]? = some s → Ow O h j s (mks j 0 s.2.1)) → Gr 100000 16 O h hs gs i → Hdr O h bl hs → Hdr O h bg gs → gs.length = n → Keep h00 h → (∀ b, b < h00.size → O b = none) → (∀ b, h.size ≤ b → O b = none) →
      gnomonlaw03_apart.L44.t R (k + 1) (some ⟨bl, 0, none⟩) n n (some ⟨bg, 0, none⟩) n n (i : Int) h := by
  intro k
  induction k with
  | zero =>
    intro i O h gs hi ws gr d e hg kp old tp
    unfold gnomonlaw03_apart.L44.t gnomonlaw03_apart.D45.t
    refine c_dec (fun hb => absurd hb (by omega)) fun _ => ?_
    have ei : i = n := by omega
    subst ei
    exact post O h gs ws gr d e hg kp old tp
  | succ k ih =>
    intro i O h gs hi ws gr d e hg kp old tp
    unfold gnomonlaw03_apart.L44.t gnomonlaw03_apart.D45.t
    refine c_dec (fun _ => ?_) fun hb => absurd (by omega) hb
    obtain ⟨s, hs'⟩ : ∃ s, hs[i]? = some s := ⟨hs[i]'(by omega), by simp⟩
    have w := ws i s hs'
    unfold gnomonlaw03_apart.D47.t
    refine at_hdr d hlen hn hs' ?_
    unfold gnomonlaw03_apart.D49.t
    have hsl : s.2.1 = (mks i 0 s.2.1 ++ mks i 100000 0).length := by rw [List.length_append, mks_len, mks_len]; rfl
    have w0 : Ow O h i (s.1, (mks i 0 s.2.1 ++ mks i 100000 0).length, s.2.2) (mks i 0 s.2.1 ++ mks i 100000 0) := by
      rw [← hsl]
      have : mks i 0 s.2.1 ++ mks i 100000 0 = mks i 0 s.2.1 := by simp [mks]
      rw [this]; exact w
    refine ⟨17, ?_⟩
    rw [hsl]
    have := grow_inner (R := R) (N44 := gnomonlaw03_apart.L44.t R (k + 1)) (O0 := O) (A := some ⟨bl, 0, none⟩) (G := some ⟨bg, 0, none⟩) (n := n) (i := i) (s := s) (h0 := h) (hl i s hs') (fun a7 c7 O' h' w' g' f => ?_) 16 0 s.1 s.2.2 O h rfl w w0 (fun _ => Nat.le_refl _) (Fm.refl _ _ _)
    · rw [← hsl] at this ⊢
      exact this
    · unfold gnomonlaw03_apart.D48.t
      have d' := d.fm f
      have e' := e.fm f
      refine putE0 e'.blk (j := i) (v := (a7, _, c7)) rfl (by omega) (by omega) rfl trivial fun o2 k2 => ?_
      unfold gnomonlaw03_apart.D46.t
      refine k_i64 ((i + 1 : Nat) : Int) (by omega) (by omega) (by omega) ?_
      refine ih (i + 1) O' _ _ (by omega) (fun j t hj => ?_) (gr.step f k2 e'.own hs' (by omega) g') (d'.keepB k2 hne) ⟨o2, e'.own⟩ (by rw [List.length_set]; exact hg) (k2.keepN (f.keep kp old) hbg) (f.old kp old) (fun b hb => f.top tp b (Nat.le_trans k2.le hb))
      by_cases e : j = i
      · subst e
        rw [hs'] at hj; cases hj
        exact w'.keepB k2 e'.own
      · exact ((ws j t hj).other f e).keepB k2 e'.own
/-! ### all are looked at -/
theorem look1_inner {R : Rt} {N32 : Option Addr → Nat → Nat → Option Addr → Nat → Nat → Int → Hp → Prop} {O : Om} {bl bg n i : Nat} {hs gs : List Sl} {s g : Sl} {h : Hp} (hlen : n = hs.length) (hg : gs.length = n) (hn : n ≤ 1000) (d : Hdr O h bl hs) (e : Hdr O h bg gs) (hi : hs[i]? = some s) (hgi : gs[i]? = some g)
    (w : Ow O h i s (mks i 0 s.2.1)) (v : Ow O h i g (mks i 0 s.2.1 ++ mks i 100000 16)) (post : N32 (some ⟨bl, 0, none⟩) n n (some ⟨bg, 0, none⟩) n n ((i + 1 : Nat) : Int) h) :
    ∀ (k j : Nat), j + k = s.2.1 + 16 → gnomonlaw03_apart.L36.t R N32 (k + 1) (some ⟨bl, 0, none⟩) n n (some ⟨bg, 0, none⟩) n n (i : Int) (s.2.1 : Int) (j : Int) h := by
  have hi' := (List.getElem?_eq_some_iff.mp hi).1
  have h9 := w.lim
  rw [mks_len] at h9
  intro k
  induction k with
  | zero =>
    intro j hj
    unfold gnomonlaw03_apart.L36.t gnomonlaw03_apart.D37.t
    refine k_i64 ((s.2.1 + 16 : Nat) : Int) (by omega) (by omega) (by omega) ?_
    refine c_dec (fun hb => absurd hb (by omega)) fun _ => ?_
    unfold gnomonlaw03_apart.D34.t
    exact k_i64 ((i + 1 : Nat) : Int) (by omega) (by omega) (by omega) post
  | succ k ih =>
    intro j hj
    unfold gnomonlaw03_apart.L36.t gnomonlaw03_apart.D37.t
    refine k_i64 ((s.2.1 + 16 : Nat) : Int) (by omega) (by omega) (by omega) ?_
    refine c_dec (fun _ => ?_) fun hb => absurd (by omega) hb
    refine c_dec (fun hb => ?_) fun hb => ?_
    · refine at_hdr d hlen hn hi ?_
      refine at64 w.rd.toE (j := j) rfl w.l (by rw [mks_len]; omega) ?_
      refine mark_intro ?_
      rw [mks_getD (by omega), Nat.zero_add]
      refine c_ne (fun hh => absurd rfl hh) fun _ => ?_
      refine at_hdr e hg.symm hn hgi ?_
      refine at64 v.rd.toE (j := j) rfl v.l (by rw [List.length_append, mks_len, mks_len]; omega) ?_
      refine mark_intro ?_
      rw [grown_lo (by omega)]
      refine c_ne (fun hh => absurd rfl hh) fun _ => ?_
      refine c_dec (fun hb => absurd hb (by omega)) fun _ => ?_
      refine k_i64 ((j + 1 : Nat) : Int) (by omega) (by omega) (by omega) ?_
      exact ih (j + 1) (by omega)
    · refine c_dec (fun _ => ?_) fun hb => absurd (by omega) hb
      refine at_hdr e hg.symm hn hgi ?_
      refine at64 v.rd.toE (j := j) rfl v.l (by rw [List.length_append, mks_len, mks_len]; omega) ?_
      refine k_i64 ((100000 + j : Nat) : Int) (by omega) (by omega) (by omega) ?_
      refine k_i64 ((100000 + (j - s.2.1) : Nat) : Int) (by omega) (by omega) (by omega) ?_
      refine mark_intro ?_
      rw [grown_hi (by omega) (by omega)]
      refine c_ne (fun hh => absurd rfl hh) fun _ => ?_
      refine k_i64 ((j + 1 : Nat) : Int) (by omega) (by omega) (by omega) ?_
      exact ih (j + 1) (by omega)
theorem look1_outer {R : Rt} {O : Om} {bl bg n : Nat} {hs gs : List Sl} {h : Hp} (hlen : n = hs.length) (hg : gs.length = n) (hn : n ≤ 1000) (d : Hdr O h bl hs) (e : Hdr O h bg gs) (ws : ∀ j s, hs[j]? = some s → Ow O h j s (mks j 0 s.2.1)) (gr : Gr 100000 16 O h hs gs n)
    (post : gnomonlaw03_apart.D3.t R (some ⟨bl, 0, none⟩) n n (some ⟨bg, 0, none⟩) n n h) :
    ∀ (k i : Nat), i + k = n → gnomonlaw03_apart.L32.t R (k + 1) (some ⟨bl, 0, none⟩) n n (some ⟨bg, 0, none⟩) n n (i : Int) h := by
  intro k
  induction k with
  | zero =>
    intro i hi
    unfold gnomonlaw03_apart.L32.t gnomonlaw03_apart.D33.t
    exact c_dec (fun hb => absurd hb (by omega)) fun _ => post
  | succ k ih =>
    intro i hi
    unfold gnomonlaw03_apart.L32.t gnomonlaw03_apart.D33.t
    refine c_dec (fun _ => ?_) fun hb => absurd (by omega) hb
    obtain ⟨s, hs'⟩ : ∃ s, hs[i]? = some s := ⟨hs[i]'(by omega), by simp⟩
    obtain ⟨g, hg', v⟩ := gr i s (by omega) hs'
    unfold gnomonlaw03_apart.D35.t
    refine at_hdr d hlen hn hs' ?_
    exact ⟨s.2.1 + 16 + 1, look1_inner hlen hg hn d e hs' hg' (ws i s hs') v (ih (i + 1) (by omega)) (s.2.1 + 16) 0 (by omega)⟩
theorem look2_inner {R : Rt} {N6 : Option Addr → Nat → Nat → Option Addr → Nat → Nat → Int → Hp → Prop} {O : Om} {bl bg n i : Nat} {hs gs : List Sl} {s g : Sl} {h : Hp} (hlen : n = hs.length) (hg : gs.length = n) (hn : n ≤ 1000) (d : Hdr O h bl hs) (e : Hdr O h bg gs) (hi : hs[i]? = some s) (hgi : gs[i]? = some g)
    (w : Ow O h i s (mks i 0 s.2.1)) (v : Ow O h i g (mks i 0 s.2.1 ++ mks i 200000 64)) (post : N6 (some ⟨bl, 0, none⟩) n n (some ⟨bg, 0, none⟩) n n ((i + 1 : Nat) : Int) h) :
    ∀ (k j : Nat), j + k = s.2.1 + 64 → gnomonlaw03_apart.L10.t R N6 (k + 1) (some ⟨bl, 0, none⟩) n n (some ⟨bg, 0, none⟩) n n (i : Int) (s.2.1 : Int) (j : Int) h := by
  have hi' := (List.getElem?_eq_some_iff.mp hi).1
  have h9 := w.lim
  rw [mks_len] at h9
  intro k
  induction k with
  | zero =>
    intro j hj
    unfold gnomonlaw03_apart.L10.t gnomonlaw03_apart.D11.t
    refine k_i64 ((s.2.1 + 64 : Nat) : Int) (by omega) (by omega) (by omega) ?_
    refine c_dec (fun hb => absurd hb (by omega)) fun _ => ?_
    unfold gnomonlaw03_apart.D8.t
    exact k_i64 ((i + 1 : Nat) : Int) (by omega) (by omega) (by omega) post
  | succ k ih =>
    intro j hj
    unfold gnomonlaw03_apart.L10.t gnomonlaw03_apart.D11.t
    refine k_i64 ((s.2.1 + 64 : Nat) : Int) (by omega) (by omega) (by omega) ?_
    refine c_dec (fun _ => ?_) fun hb => absurd (by omega) hb
    refine c_dec (fun hb => ?_) fun hb => ?_
    · refine at_hdr d hlen hn hi ?_
      refine at64 w.rd.toE (j := j) rfl w.l (by rw [mks_len]; omega) ?_
      refine mark_intro ?_
      rw [mks_getD (by omega), Nat.zero_add]
      refine c_ne (fun hh => absurd rfl hh) fun _ => ?_
      refine c_dec (fun hb => absurd hb (by omega)) fun _ => ?_
      refine k_i64 ((j + 1 : Nat) : Int) (by omega) (by omega) (by omega) ?_
      exact ih (j + 1) (by omega)
    · refine c_dec (fun _ => ?_) fun hb => absurd (by omega) hb
      refine at_hdr e hg.symm hn hgi ?_
      refine at64 v.rd.toE (j := j) rfl v.l (by rw [List.length_append, mks_len, mks_len]; omega) ?_
      refine k_i64 ((200000 + j : Nat) : Int) (by omega) (by omega) (by omega) ?_
      refine k_i64 ((200000 + (j - s.2.1) : Nat) : Int) (by omega) (by omega) (by omega) ?_
      refine mark_intro ?_
      rw [grown_hi (by omega) (by omega)]
      refine c_ne (fun hh => absurd rfl hh) fun _ => ?_
      refine k_i64 ((j + 1 : Nat) : Int) (by omega) (by omega) (by omega) ?_
      exact ih (j + 1) (by omega)
theorem look2_outer {R : Rt} {O : Om} {bl bg n : Nat} {hs gs : List Sl} {h : Hp} (hlen : n = hs.length) (hg : gs.length = n) (hn : n ≤ 1000) (d : Hdr O h bl hs) (e : Hdr O h bg gs) (ws : ∀ j s, hs[j]? = some s → Ow O h j s (mks j 0 s.2.1)) (gr : Gr 200000 64 O h hs gs n)
    (post : R (.bool true) h) :
    ∀ (k i : Nat), i + k = n → gnomonlaw03_apart.L6.t R (k + 1) (some ⟨bl, 0, none⟩) n n (some ⟨bg, 0, none⟩) n n (i : Int) h := by
  intro k
  induction k with
  | zero =>
    intro i hi
    unfold gnomonlaw03_apart.L6.t gnomonlaw03_apart.D7.t
    exact c_dec (fun hb => absurd hb (by omega)) fun _ => post
  | succ k ih =>
    intro i hi
    unfold gnomonlaw03_apart.L6.t gnomonlaw03_apart.D7.t
    refine c_dec (fun _ => ?_) fun hb => absurd (by omega) hb
    obtain ⟨s, hs'⟩ : ∃ s, hs[i]? = some s := ⟨hs[i]'(by omega), by simp⟩
    obtain ⟨g, hg', v⟩ := gr i s (by omega) hs'
    unfold gnomonlaw03_apart.D9.t
    refine at_hdr d hlen hn hs' ?_
    exact ⟨s.2.1 + 64 + 1, look2_inner hlen hg hn d e hs' hg' (ws i s hs') v (ih (i + 1) (by omega)) (s.2.1 + 64) 0 (by omega)⟩
/-! ### all are grown by many -/
theorem many_fill {R : Rt} {N18 : Option Addr → Nat → Nat → Option Addr → Nat → Nat → Option Addr → Nat → Nat → Int → Hp → Prop} {A G : Option Addr} {n i bm : Nat} {h0 : Hp}
    (post : ∀ h', BlkE eU64 h' bm (mks i 200000 64) → KeepB bm h0 h' → gnomonlaw03_apart.D21.t R N18 A n n G n n (some ⟨bm, 0, none⟩) 64 64 (i : Int) h') :
    ∀ (k j : Nat) (zs : List Nat) (h : Hp), j + k = 64 → zs.length = 64 → zs.take j = mks i 200000 j → BlkE eU64 h bm zs → KeepB bm h0 h → gnomonlaw03_apart.L23.t R N18 (k + 1) A n n G n n (some ⟨bm, 0, none⟩) 64 64 (i : Int) (j : Int) h := by
  intro k
  induction k with
  | zero =>
    intro j zs h hj hz hp o kb
    unfold gnomonlaw03_apart.L23.t gnomonlaw03_apart.D24.t
    refine c_dec (fun hb => absurd hb (by omega)) fun _ => ?_
    rw [List.take_of_length_le (by omega), show j = 64 by omega] at hp
    subst hp
    exact post h o kb
  | succ k ih =>
    intro j zs h hj hz hp o kb
    unfold gnomonlaw03_apart.L23.t gnomonlaw03_apart.D24.t
    refine c_dec (fun _ => ?_) fun hb => absurd (by omega) hb
    refine k_i64 ((200000 + j : Nat) : Int) (by omega) (by omega) (by omega) ?_
    refine mark_intro ?_
    refine putE0 o (j := j) (v := m3 (i : Int) ((200000 + j : Nat) : Int)) rfl (by omega) (by omega) rfl (m3_lt _ _) fun o2 k2 => ?_
    refine k_i64 ((j + 1 : Nat) : Int) (by omega) (by omega) (by omega) ?_
    refine ih (j + 1) _ _ (by omega) (by rw [List.length_set]; exact hz) ?_ o2 (kb.trans k2)
    rw [set_take (by omega), hp, mks_snoc]
theorem many_outer {R : Rt} {bl bg bm n : Nat} {hs : List Sl} {h00 : Hp} (hlen : n = hs.length) (hn : n ≤ 1000) (hne : bl ≠ bg) (hm1 : bl ≠ bm) (hm2 : bg ≠ bm) (hbg : h00.size ≤ bg) (hbm : h00.size ≤ bm) (hl : ∀ (j : Nat) (s : Sl), hs[j]? = some s → s.2.1 + 64 ≤ 17592186044400)
    (post : ∀ O' h' gs, (∀ j s, hs[j]? = some s → Ow O' h' j s (mks j 0 s.2.1)) → Gr 200000 64 O' h' hs gs n → Hdr O' h' bl hs → Hdr O' h' bg gs → gs.length = n → Keep h00 h' → gnomonlaw03_apart.D5.t R (some ⟨bl, 0, none⟩) n n (some ⟨bg, 0, none⟩) n n h') :
    ∀ (k i : Nat) (O : Om) (h : Hp) (gs : List Sl) (zs : List Nat), i + k = n → (∀ j s, hs[j]? = some s → Ow O h j s (mks j 0 s.2.1)) → Gr 200000 64 O h hs gs i → Hdr O h bl hs → Hdr O h bg gs → gs.length = n → BlkE eU64 h bm zs → zs.length = 64 → O bm = none → Keep h00 h → (∀ b, b < h00.size → O b = none) →
      gnomonlaw03_apart.L18.t R (k + 1) (some ⟨bl, 0, none⟩) n n (some ⟨bg, 0, none⟩) n n (some ⟨bm, 0, none⟩) 64 64 (i : Int) h := by
  intro k
  induction k with
  | zero =>
    intro i O h gs zs hi ws gr d e hg o hz hb kp old
    unfold gnomonlaw03_apart.L18.t gnomonlaw03_apart.D19.t
    refine c_dec (fun hb => absurd hb (by omega)) fun _ => ?_
    have ei : i = n := by omega
    subst ei
    exact post O h gs ws gr d e hg kp
  | succ k ih =>
    intro i O h gs zs hi ws gr d e hg o hz hb kp old
    unfold gnomonlaw03_apart.L18.t gnomonlaw03_apart.D19.t
    refine c_dec (fun _ => ?_) fun hb => absurd (by omega) hb
    unfold gnomonlaw03_apart.D22.t
    obtain ⟨s, hs'⟩ : ∃ s, hs[i]? = some s := ⟨hs[i]'(by omega), by simp⟩
    refine ⟨65, many_fill (h0 := h) (fun h1 o1 k1 => ?_) 64 0 zs h rfl hz rfl o (KeepB.refl _ _)⟩
    have ws1 : ∀ j s, hs[j]? = some s → Ow O h1 j s (mks j 0 s.2.1) := fun j t hj => (ws j t hj).keepB k1 hb
    have gr1 : Gr 200000 64 O h1 hs gs i := fun j t hj ht => let ⟨g, e1, w⟩ := gr j t hj ht; ⟨g, e1, w.keepB k1 hb⟩
    have d1 := d.keepB k1 hm1
    have e1 := e.keepB k1 hm2
    have kp1 := k1.keepN kp hbm
    have w := ws1 i s hs'
    unfold gnomonlaw03_apart.D21.t
    refine at_hdr d1 hlen hn hs' ?_
    refine ow_ap w (o1.rd' (c := 64) (by rw [mks_len]; show 64 ≤ 35184372088828; decide) (by rw [mks_len]; exact Nat.le_refl _)) (mks_len _ _ _).symm (by simp [mks]) (by rw [mks_len, mks_len]; exact hl i s hs') fun a' c' h2 O' g' f tr => ?_
    obtain ⟨w', _⟩ := tr s _ w (Nat.le_refl _) (fun _ => Nat.le_refl _)
    have d2 := d1.fm f
    have e2 := e1.fm f
    obtain ⟨o2, hb2⟩ := f.blk o1 hb
    refine putE0 e2.blk (j := i) (v := (a', _, c')) rfl (by omega) (by omega) rfl trivial fun o3 k3 => ?_
    unfold gnomonlaw03_apart.D20.t
    refine k_i64 ((i + 1 : Nat) : Int) (by omega) (by omega) (by omega) ?_
    refine ih (i + 1) O' _ _ (mks i 200000 64) (by omega) (fun j t hj => ?_) (gr1.step f k3 e2.own hs' (by omega) g') (d2.keepB k3 hne) ⟨o3, e2.own⟩ (by rw [List.length_set]; exact hg) (o2.keepB (fun hh => hm2 hh.symm) k3) (mks_len _ _ _) hb2 (k3.keepN (f.keep kp1 old) hbg) (f.old kp1 old)
    by_cases ej : j = i
    · subst ej
      rw [hs'] at hj; cases hj
      exact w'.keepB k3 e2.own
    · exact ((ws1 j t hj).other f ej).keepB k3 e2.own
/-- apart answers true. -/
theorem apart3_spec {h00 h : Hp} {bl n : Nat} {hs : List Sl} {O : Om} (hlen : n = hs.length) (hn : n ≤ 1000) (d : Hdr O h bl hs) (kp : Keep h00 h) (old : ∀ b, b < h00.size → O b = none) (tp : ∀ b, h.size ≤ b → O b = none)
    (ws : ∀ j s, hs[j]? = some s → ∃ xs, Ow O h j s xs) (hl : ∀ (j : Nat) (s : Sl), hs[j]? = some s → s.2.1 + 64 ≤ 17592186044400) :
    HC gnomonlaw03_apart.id #[.slice (some ⟨bl, 0, none⟩) n n] h fun v h' => Keep h00 h' ∧ v = .bool true := by
  refine gnomonlaw03_apart.ok ?_
  unfold gnomonlaw03_apart.t gnomonlaw03_apart.D1.t gnomonlaw03_apart.D58.t
  refine ⟨n + 1, fill_outer hlen hn old (fun h1 ws1 d1 kp1 tp1 => ?_) n 0 h (by omega) (fun j s hj => let ⟨xs, w⟩ := ws j s hj; ⟨xs, w, fun hh => absurd hh (by omega)⟩) d kp tp⟩
  unfold gnomonlaw03_apart.D2.t
  refine mkE eSl (none, 0, 0) n n rfl trivial 24 rfl (by decide) rfl rfl (Nat.le_refl _) (by omega) fun h2 o2 k2 => ?_
  unfold gnomonlaw03_apart.D43.t
  rw [Int.toNat_natCast]
  have hbl := d1.blk.lt
  have hbg : h00.size ≤ h1.size := kp1.le
  refine ⟨n + 1, grow_outer (bl := bl) (bg := h1.size) (h00 := h00) hlen hn (by omega) hbg hl (fun O3 h3 gs ws3 gr3 d3 e3 hg3 kp3 old3 tp3 => ?_) n 0 O h2 (List.replicate n (none, 0, 0)) (by omega) (fun j s hj => (ws1 j s hj).keep k2) (fun j s hj => absurd hj (by omega)) (d1.keep k2) ⟨o2, tp1 _ (Nat.le_refl _)⟩ (by rw [List.length_replicate]) (kp1.trans k2) old (fun b hb => tp1 b (Nat.le_trans k2.le hb))⟩
  unfold gnomonlaw03_apart.D31.t
  refine ⟨n + 1, look1_outer hlen hg3 hn d3 e3 ws3 gr3 ?_ n 0 (by omega)⟩
  unfold gnomonlaw03_apart.D3.t
  refine mkE eU64 0 64 64 rfl ok64 8 rfl (by decide) rfl rfl (Nat.le_refl _) (by decide) fun h4 o4 k4 => ?_
  unfold gnomonlaw03_apart.D17.t
  have hb3 := d3.blk.lt
  have hb4 := e3.blk.lt
  refine ⟨n + 1, many_outer (bl := bl) (bg := h1.size) (bm := h3.size) (h00 := h00) hlen hn (by omega) (by omega) (by omega) hbg kp3.le hl (fun O5 h5 gs5 ws5 gr5 d5 e5 hg5 kp5 => ?_) n 0 O3 h4 gs (List.replicate 64 0) (by omega) (fun j s hj => (ws3 j s hj).keep k4) (fun j s hj => absurd hj (by omega)) (d3.keep k4) (e3.keep k4) hg3 o4 (by rw [List.length_replicate]) (tp3 _ (Nat.le_refl _)) (kp3.trans k4) old3⟩
  unfold gnomonlaw03_apart.D5.t
  exact ⟨n + 1, look2_outer hlen hg5 hn d5 e5 ws5 gr5 ⟨kp5, rfl⟩ n 0 (by omega)⟩
end Go.Proofs.Ytdpkfipkjdlmlaa.G

/- strings.Builder's copyCheck at this program: what it does to a builder, fresh or used. -/
set_option linter.unusedVariables false
namespace Go.Proofs
open Go.Shelf Go.RowKit
end Go.Proofs

/- strings.Builder over heaps; appends of one byte beside another list. -/
namespace Go.Proofs.Ytdpkfipkjdlmlaa.G
open Go.Gv
set_option maxRecDepth 100000
set_option linter.unusedVariables false
/-! ### appends of a byte -/
/-- A list beside a list that grows. -/
structure Beside {α : Type} (E : El α) (h : Hp) (am : Option Addr) (cm : Nat) (ms : List α) (a : Option Addr) : Prop where
  rd : RdE E h am cm ms
  off : ms = [] ∨ ∀ p, am = some p → Off p.block a
end Go.Proofs.Ytdpkfipkjdlmlaa.G

/- Text: the decimal digits of a natural, the program's and the document's. -/
namespace Go.Proofs.Ytdpkfipkjdlmlaa.G
open Go.Gv
set_option maxRecDepth 100000
set_option linter.unusedVariables false
/-! ### the program's -/
end Go.Proofs.Ytdpkfipkjdlmlaa.G

/- The document's digits, and its Text; the statement NatdivTexts. -/
namespace Go.Proofs.Ytdpkfipkjdlmlaa.G
open Go.Gv
set_option maxRecDepth 100000
set_option linter.unusedVariables false
end Go.Proofs.Ytdpkfipkjdlmlaa.G

/- The statement NatdivReadsBack: Read takes back what Text told, and Text tells what Read took. -/
namespace Go.Proofs.Ytdpkfipkjdlmlaa.G
open Go.Gv
set_option maxRecDepth 100000
set_option linter.unusedVariables false
end Go.Proofs.Ytdpkfipkjdlmlaa.G

/- roomy and kept; owners out of lists made one behind the other; the statement NatdivReadMemory. -/
namespace Go.Proofs.Ytdpkfipkjdlmlaa.G
open Go.Gv
set_option maxRecDepth 100000
set_option linter.unusedVariables false
/-! ### spare room -/
theorem roomy_loop {R : Rt} {h0 : Hp} {A : Option Addr} {C c i b : Nat} {xs : List Nat} (hb : xs.length ≤ 17592186044000) (hc : xs.length + 6 ≤ c)
    (post : ∀ h', Keep h0 h' → GotE eU64 h0 h' (some ⟨b, 0, none⟩) c (xs ++ mks i 300000 6) → gnomonlaw03_roomy.D2.t R A xs.length C (some ⟨b, 0, none⟩) (xs ++ mks i 300000 6).length c h') :
    ∀ (k t : Nat) (h : Hp), t + k = 6 → GotE eU64 h0 h (some ⟨b, 0, none⟩) c (xs ++ mks i 300000 t) → Keep h0 h → gnomonlaw03_roomy.L4.t R (k + 1) A xs.length C (i : Int) (some ⟨b, 0, none⟩) (xs ++ mks i 300000 t).length c (t : Int) h := by
  intro k
  induction k with
  | zero =>
    intro t h ht g kp
    unfold gnomonlaw03_roomy.L4.t gnomonlaw03_roomy.D5.t
    refine c_dec (fun hb => absurd hb (by omega)) fun _ => ?_
    have e : t = 6 := by omega
    subst e
    exact post h kp g
  | succ k ih =>
    intro t h ht g kp
    have ih := ih (t + 1)
    rw [mks_snoc, ← List.append_assoc] at ih
    unfold gnomonlaw03_roomy.L4.t gnomonlaw03_roomy.D5.t
    refine c_dec (fun _ => ?_) fun hb => absurd (by omega) hb
    refine k_i64 ((300000 + t : Nat) : Int) (by omega) (by omega) (by omega) ?_
    refine mark_intro ?_
    refine boxE eU64 [m3 (i : Int) ((300000 + t : Nat) : Int)] rfl (fun y hy => by rw [List.mem_singleton.mp hy]; exact m3_lt _ _) fun h2 o2 k2 => ?_
    have hlen : (xs ++ mks i 300000 t).length = xs.length + t := by rw [List.length_append, mks_len]
    refine apE4 (g.keep k2) (Nat.le_trans kp.le k2.le) (o2.rd' (c := 1) (by show 1 ≤ 35184372088828; decide) (Nat.le_refl _)) rfl rfl rfl 0 rfl ok64 8 rfl (by decide) (by rw [hlen]; show _ + 1 ≤ 35184372088828; omega) (fun hh => by rw [hlen, List.length_singleton] at hh; omega) (fun _ h' g' kx => ?_) (fun hh => absurd (by rw [hlen, List.length_singleton]; omega) hh)
    refine k_i64 ((t + 1 : Nat) : Int) (by omega) (by omega) (by omega) ?_
    rw [← List.length_append]
    exact ih h' (by omega) g' (kx.keep (kp.trans k2) g.offs)
theorem roomy_spec {a : Option Addr} {c l i : Nat} {xs : List Nat} {h : Hp} (r : Rd h a c xs) (hl : l = xs.length) (hb : xs.length ≤ 17592186044000) :
    HC gnomonlaw03_roomy.id #[.slice a l c, .int .i64 (i : Int)] h fun v h' => Keep h h' ∧ ∃ b rest, v = .tuple #[.slice (some ⟨b, 0, none⟩) xs.length (xs.length + 6), .slice (some ⟨b, 0, none⟩) (xs.length + 6) (xs.length + 6)] ∧ h.size ≤ b ∧ BlkE eU64 h' b (xs ++ mks i 300000 6 ++ rest) := by
  subst hl
  refine gnomonlaw03_roomy.ok ?_
  unfold gnomonlaw03_roomy.t gnomonlaw03_roomy.D1.t
  refine k_i64 ((xs.length + 6 : Nat) : Int) (by omega) (by omega) (by omega) ?_
  refine mkE eU64 0 0 (xs.length + 6) rfl ok64 8 rfl (by decide) rfl rfl (by omega) (by omega) fun h1 o1 k1 => ?_
  rw [Int.toNat_natCast, show ((0 : Int).toNat) = 0 from rfl]
  have g1 : GotE eU64 h h1 (some ⟨h.size, 0, none⟩) (xs.length + 6) [] := BlkE.got (xs := []) (rest := List.replicate (xs.length + 6) 0) (by simpa using o1) (Nat.le_refl _) (by simp) (by simp) (by simp)
  refine apE4 g1 k1.le (r.keep k1).toE rfl rfl rfl 0 rfl ok64 8 rfl (by decide) (by show _ + _ ≤ 35184372088828; simp; omega) (fun hh => by simp at hh; omega) (fun _ h2 g2 kx => ?_) (fun hh => absurd (by simp) hh)
  have k2 : Keep h h2 := kx.keep k1 g1.offs
  rw [List.nil_append] at g2
  rw [show ([] : List Nat).length + xs.length = (xs ++ mks i 300000 0).length by simp [mks]]
  unfold gnomonlaw03_roomy.D3.t
  refine ⟨7, roomy_loop hb (Nat.le_refl _) (fun h3 k3 g3 => ?_) 6 0 h2 rfl (by simpa [mks] using g2) k2⟩
  unfold gnomonlaw03_roomy.D2.t
  refine sl_to (n := xs.length) rfl (by omega) ?_
  refine ⟨k3, ?_⟩
  have hlen : (xs ++ mks i 300000 6).length = xs.length + 6 := by rw [List.length_append, mks_len]
  rcases g3.here with ⟨e1, _, _⟩ | ⟨b, rest, e1, e2, o, _⟩
  · rw [e1] at hlen; simp at hlen
  · cases e1
    exact ⟨_, rest, by rw [hlen], e2, o⟩
theorem kept_loop {R : Rt} {a b : Option Addr} {c d i n : Nat} {xs : List Nat} {h : Hp} (r : Rd h a c xs) (w : Rd h b d (xs ++ mks i 300000 6)) (hb : xs.length ≤ 17592186044000) (hn : n = xs.length + 6)
    (post : R (.bool true) h) : ∀ (k j : Nat), j + k = n → gnomonlaw03_kept.L4.t R (k + 1) a xs.length c b n d (i : Int) (j : Int) h := by
  have hlen : (xs ++ mks i 300000 6).length = xs.length + 6 := by rw [List.length_append, mks_len]
  intro k
  induction k with
  | zero =>
    intro j hj
    unfold gnomonlaw03_kept.L4.t gnomonlaw03_kept.D5.t
    refine c_dec (fun hb => absurd hb (by omega)) fun _ => ?_
    unfold gnomonlaw03_kept.D2.t
    refine k_i64 ((n : Nat) : Int) (by omega) (by omega) (by omega) ?_
    rw [beq_self_eq_true]; exact post
  | succ k ih =>
    intro j hj
    unfold gnomonlaw03_kept.L4.t gnomonlaw03_kept.D5.t
    refine c_dec (fun _ => ?_) fun hb => absurd (by omega) hb
    refine c_dec (fun hb => ?_) fun hb => ?_
    · refine at64 w.toE (j := j) rfl (by omega) (by omega) ?_
      refine at64 r.toE (j := j) rfl rfl (by omega) ?_
      have e : (xs ++ mks i 300000 6).getD j 0 = xs.getD j 0 := by
        simp only [List.getD]; rw [List.getElem?_append_left (by omega)]
      rw [e]
      refine c_ne (fun hh => absurd rfl hh) fun _ => ?_
      refine c_dec (fun hb => absurd hb (by omega)) fun _ => ?_
      refine k_i64 ((j + 1 : Nat) : Int) (by omega) (by omega) (by omega) ?_
      exact ih (j + 1) (by omega)
    · refine c_dec (fun _ => ?_) fun hb => absurd (by omega) hb
      refine at64 w.toE (j := j) rfl (by omega) (by omega) ?_
      refine k_i64 ((300000 + j : Nat) : Int) (by omega) (by omega) (by omega) ?_
      refine k_i64 ((300000 + (j - xs.length) : Nat) : Int) (by omega) (by omega) (by omega) ?_
      refine mark_intro ?_
      have e : (xs ++ mks i 300000 6).getD j 0 = m3 (i : Int) ((300000 + (j - xs.length) : Nat) : Int) := by
        simp only [List.getD]
        rw [List.getElem?_append_right (by omega), mks_get i 300000 6 (j - xs.length) (by omega)]; rfl
      rw [e]
      refine c_ne (fun hh => absurd rfl hh) fun _ => ?_
      refine k_i64 ((j + 1 : Nat) : Int) (by omega) (by omega) (by omega) ?_
      exact ih (j + 1) (by omega)
theorem kept_spec {a b : Option Addr} {c d i l n : Nat} {xs : List Nat} {h : Hp} (r : Rd h a c xs) (hl : l = xs.length) (w : Rd h b d (xs ++ mks i 300000 6)) (hn : n = xs.length + 6) (hb : xs.length ≤ 17592186044000) :
    HC gnomonlaw03_kept.id #[.slice a l c, .slice b n d, .int .i64 (i : Int)] h fun v h' => h' = h ∧ v = .bool true := by
  subst hl
  refine gnomonlaw03_kept.ok ?_
  unfold gnomonlaw03_kept.t gnomonlaw03_kept.D1.t gnomonlaw03_kept.D3.t
  exact ⟨n + 1, kept_loop r w hb hn ⟨rfl, rfl⟩ n 0 (by omega)⟩
/-! ### owners -/
theorem owners {lo hi : Nat} {h : Hp} {hs : List Sl} {lls : List (List Nat)} (f : FreshL lo hi h hs lls) : ∃ O : Om, (∀ b, b < lo → O b = none) ∧ (∀ b, hi ≤ b → O b = none) ∧
    ∀ (i : Nat) (s : Sl) (xs : List Nat), hs[i]? = some s → lls[i]? = some xs → xs.length ≤ 17592186044400 → Ow O h i s xs := by
  classical
  let P : Nat → Nat → Prop := fun b i => ∃ s p, hs[i]? = some s ∧ s.1 = some p ∧ p.block = b
  have hblk : ∀ b i, P b i → lo ≤ b ∧ b < hi := by
    rintro b i ⟨s, p, h1, h2, h3⟩
    rw [← h3]
    exact f.block s (List.mem_of_getElem? h1) p h2
  refine ⟨fun b => if hb : ∃ i, P b i then some (Classical.choose hb) else none, fun b hb => dif_neg (fun ⟨i, hi⟩ => by have := hblk b i hi; omega), fun b hb => dif_neg (fun ⟨i, hi⟩ => by have := hblk b i hi; omega), fun i s xs e1 e2 hx => ?_⟩
  obtain ⟨w1, w2, w3, w4⟩ := f.at_ i s xs e1 e2
  refine ⟨w1, w2, hx, w4.imp id ?_⟩
  rintro ⟨b, rest, f1, _, _, o, f4⟩
  have hb : ∃ i, P b i := ⟨i, s, _, e1, f1, rfl⟩
  refine ⟨b, rest, f1, ?_, o, f4⟩
  show (if hb : ∃ i, P b i then some (Classical.choose hb) else none) = some i
  rw [dif_pos hb]
  obtain ⟨t, q, g1, g2, g3⟩ := Classical.choose_spec hb
  exact congrArg some (f.two _ _ t s q _ g1 e1 g2 f1 g3)
/-! ### the list written over -/
theorem m3_92 {j : Nat} (h : j ≤ 100000) : m3 92 (j : Int) ≠ 0 := by
  have e : m3 92 (j : Int) = j * 7919 + 6485183463506514519 := by
    unfold m3
    rw [show IntKind.i64.wrap (92 + 1) = 93 from wrap_i64 (by decide) (by decide), wrap_u64' (x := 93) (by decide) (by decide), show (93 : Int) * 1000003 = 93000279 by decide, wrap_u64' (x := 93000279) (by decide) (by decide),
      wrap_u64' (x := (j : Int)) (by omega) (by omega), wrap_u64' (x := (j : Int) * 7919) (by omega) (by omega), wrap_u64' (x := 93000279 + (j : Int) * 7919) (by omega) (by omega), wrap_u64' (x := 93000279 + (j : Int) * 7919 + 6485183463413514240) (by omega) (by omega)]
    omega
  rw [e]; omega
theorem frm_mks {n : Nat} (hn : n ≤ 8192) : Frm (mks 92 0 n) := by
  refine ⟨by rw [mks_len]; exact hn, ?_⟩
  cases n with
  | zero => rfl
  | succ n =>
    rw [mks_snoc]
    exact trimL_last _ (by rw [Nat.zero_add]; exact m3_92 (by omega))
end Go.Proofs.Ytdpkfipkjdlmlaa.G

/- The statement NatdivMemory. -/
namespace Go.Proofs.Ytdpkfipkjdlmlaa.G
open Go.Gv
set_option maxRecDepth 100000
set_option linter.unusedVariables false
theorem owners2 {lo hi : Nat} {h : Hp} {hs : List Sl} {lls : List (List Nat)} (f : FreshL lo hi h hs lls) (hx : ∀ xs ∈ lls, xs.length ≤ 17592186044000) : ∃ O : Om, (∀ b, b < lo → O b = none) ∧ (∀ b, hi ≤ b → O b = none) ∧
    (∀ (j : Nat) (s : Sl), hs[j]? = some s → ∃ xs, Ow O h j s xs) ∧ (∀ (j : Nat) (s : Sl), hs[j]? = some s → s.2.1 + 64 ≤ 17592186044400) := by
  obtain ⟨O, h1, h2, h3⟩ := owners f
  have get : ∀ (j : Nat) (s : Sl), hs[j]? = some s → ∃ xs, Ow O h j s xs ∧ xs.length ≤ 17592186044000 := fun j s e => by
    have e1 := f.len
    have hj := (List.getElem?_eq_some_iff.mp e).1
    have ex : lls[j]? = some (lls[j]'(by omega)) := List.getElem?_eq_getElem _
    have hb := hx _ (List.mem_of_getElem? ex)
    exact ⟨_, h3 j s _ e ex (by omega), hb⟩
  refine ⟨O, h1, h2, fun j s e => let ⟨xs, w, _⟩ := get j s e; ⟨xs, w⟩, fun j s e => ?_⟩
  obtain ⟨xs, w, hb⟩ := get j s e
  have := w.l
  omega
theorem cmpI_refl (X : Nat) : cmpI X X = 0 := by unfold cmpI; rw [if_neg (Nat.lt_irrefl _), if_pos rfl]
theorem rootS_d {A : Nat} (h : (digs A).length ≤ 8192) : rootS (digs A) = (digs (rootN A), digs (A - rootN A * rootN A), 0) := by
  unfold rootS; rw [if_pos (frm_d h), val_digs]
theorem over_loop2 {R : Rt} {h0 : Hp} {a1 a7 a9 a10 a12 a13 a15 a16 a18 a19 a21 a22 a23 a24 : Option Addr} {l1 l7 l9 l10 l12 l13 l15 l16 l18 l19 l21 l22 l23 l24 c1 c7 c9 c10 c12 c13 c15 c16 c18 c19 c21 c22 c23 c24 n cx b : Nat} (hn : n ≤ 8192)
    (post : ∀ h' zs, BlkE eU64 h' b zs → zs.take n = mks 92 0 n → n + 6 ≤ zs.length → KeepB b h0 h' → gnomonlaw03_NatdivMemory.D4.t R a1 l1 c1 (some ⟨b, 0, none⟩) n cx a7 l7 c7 a9 l9 c9 a10 l10 c10 a12 l12 c12 a13 l13 c13 a15 l15 c15 a16 l16 c16 a18 l18 c18 a19 l19 c19 a21 l21 c21 a22 l22 c22 a23 l23 c23 a24 l24 c24 h') :
    ∀ (k j : Nat) (zs : List Nat) (h : Hp), j + k = n → n + 6 ≤ zs.length → zs.take j = mks 92 0 j → BlkE eU64 h b zs → KeepB b h0 h → gnomonlaw03_NatdivMemory.L9.t R (k + 1) a1 l1 c1 (some ⟨b, 0, none⟩) n cx a7 l7 c7 a9 l9 c9 a10 l10 c10 a12 l12 c12 a13 l13 c13 a15 l15 c15 a16 l16 c16 a18 l18 c18 a19 l19 c19 a21 l21 c21 a22 l22 c22 a23 l23 c23 a24 l24 c24 (j : Int) h := by
  intro k
  induction k with
  | zero =>
    intro j zs h hj hz hp o kb
    unfold gnomonlaw03_NatdivMemory.L9.t gnomonlaw03_NatdivMemory.D10.t
    refine c_dec (fun hb => absurd hb (by omega)) fun _ => ?_
    have e : j = n := by omega
    subst e
    exact post h zs o hp hz kb
  | succ k ih =>
    intro j zs h hj hz hp o kb
    unfold gnomonlaw03_NatdivMemory.L9.t gnomonlaw03_NatdivMemory.D10.t
    refine c_dec (fun _ => ?_) fun hb => absurd (by omega) hb
    refine mark_intro (x := 92) ?_
    refine putE0 o (j := j) (v := m3 92 (j : Int)) rfl (by omega) (by omega) rfl (m3_lt _ _) fun o2 k2 => ?_
    refine k_i64 ((j + 1 : Nat) : Int) (by omega) (by omega) (by omega) ?_
    refine ih (j + 1) _ _ (by omega) (by rw [List.length_set]; exact hz) ?_ o2 (kb.trans k2)
    rw [set_take (by omega), hp, mks_snoc, Nat.zero_add]; rfl
theorem same_cond {a b : Option Addr} {c d l m : Nat} {xs : List Nat} {h : Hp} {A B : Prop} (r : Rd h a c xs) (s : Rd h b d xs) (hl : l = xs.length) (hm : m = xs.length) (g : B) : HQC gnomonref01_Same.id #[.slice a l c, .slice b m d] h fun v => gBool v fun x => cond (!x) A B := by
  refine Same_intro r s hl hm ?_
  rw [decide_eq_true rfl]; exact g
theorem NatdivMemory_law {h : Hp} {a0 a1 : Option Addr} {c0 c1 l0 l1 : Nat} {xs ys : List Nat} (r0 : Rd h a0 c0 xs) (hl0 : l0 = xs.length) (r1 : Rd h a1 c1 ys) (hl1 : l1 = ys.length) :
    HC gnomonlaw03_NatdivMemory.id #[.slice a0 l0 c0, .slice a1 l1 c1] h fun v h' => Keep h h' ∧ v = .bool true := by
  subst hl0; subst hl1
  refine gnomonlaw03_NatdivMemory.ok ?_
  unfold gnomonlaw03_NatdivMemory.t gnomonlaw03_NatdivMemory.D1.t
  refine hc_intro (hawake_spec h) fun v h1 ⟨k1, e⟩ => ?_
  subst e
  refine gBool_intro rfl ?_
  refine c_not (fun hh => absurd hh (by simp)) fun _ => ?_
  refine hc_intro (DocForm_spec (r0.keep k1) rfl) fun v h2 ⟨e1, e2⟩ => ?_
  subst e1; subst e2
  refine gBool_intro rfl ?_
  refine c_not (fun _ => ⟨k1, rfl⟩) fun hf => ?_
  refine hc_intro (DocForm_spec (r1.keep k1) rfl) fun v h3 ⟨e1, e2⟩ => ?_
  subst e1; subst e2
  refine gBool_intro rfl ?_
  refine c_not (fun _ => ⟨k1, rfl⟩) fun hg => ?_
  refine c_eq (fun _ => ⟨k1, rfl⟩) fun h0 => ?_
  have fx := of_decide_eq_true hf
  have fy := of_decide_eq_true hg
  obtain ⟨A, hA⟩ : ∃ A, A = val xs := ⟨_, rfl⟩
  obtain ⟨B, hB⟩ : ∃ B, B = val ys := ⟨_, rfl⟩
  have dx : digs A = xs := by rw [hA]; exact fx.digs r0.words
  have dy : digs B = ys := by rw [hB]; exact fy.digs r1.words
  have lA : (digs A).length ≤ 8192 := by rw [dx]; exact fx.1
  have lB : (digs B).length ≤ 8192 := by rw [dy]; exact fy.1
  rw [← dx] at r0 ⊢
  rw [← dy] at r1 h0 ⊢
  have hB0 : B ≠ 0 := fun e => h0 (by rw [e, digs_zero]; rfl)
  replace r0 := r0.keep k1
  replace r1 := r1.keep k1
  clear hf hg fx fy
  unfold gnomonlaw03_NatdivMemory.D2.t
  refine hc_intro (roomy_spec (i := 90) r0 rfl (by omega)) fun v h4 ⟨k4, bx, rsx, e, hbx, ox⟩ => ?_
  subst e
  refine gTup_intro rfl (uncons_intro (gSlice_intro rfl (uncons_intro (gSlice_intro rfl (unnil_intro ?_)))))
  refine hc_intro (roomy_spec (i := 91) (r1.keep k4) rfl (by omega)) fun v h5 ⟨k5, by', rsy, e, hby, oy⟩ => ?_
  subst e
  refine gTup_intro rfl (uncons_intro (gSlice_intro rfl (uncons_intro (gSlice_intro rfl (unnil_intro ?_)))))
  have hlx : (digs A ++ mks 90 300000 6).length = (digs A).length + 6 := by rw [List.length_append, mks_len]
  have hly : (digs B ++ mks 91 300000 6).length = (digs B).length + 6 := by rw [List.length_append, mks_len]
  have rwx : Rd h5 (some ⟨bx, 0, none⟩) ((digs A).length + 6) (digs A ++ mks 90 300000 6) := ((ox.keep k5).rd (by rw [hlx]; show _ ≤ 35184372088828; omega) (by rw [hlx]; exact Nat.le_refl _)).to64
  have rwy : Rd h5 (some ⟨by', 0, none⟩) ((digs B).length + 6) (digs B ++ mks 91 300000 6) := (oy.rd (by rw [hly]; show _ ≤ 35184372088828; omega) (by rw [hly]; exact Nat.le_refl _)).to64
  have rx : Rd h5 (some ⟨bx, 0, none⟩) ((digs A).length + 6) (digs A) := by
    have := rwx.take (digs A).length
    rwa [List.take_left] at this
  have ry : Rd h5 (some ⟨by', 0, none⟩) ((digs B).length + 6) (digs B) := by
    have := rwy.take (digs B).length
    rwa [List.take_left] at this
  have hbxl := ox.lt
  have hne : by' ≠ bx := by omega
  have k35 := k4.trans k5
  have eq := quoS_d lA lB hB0
  have er := rootS_d lA
  refine hc_intro (QuoRem_spec2 rx ry rfl rfl) fun v h6 ⟨k6, an⟩ => ?_
  rw [eq] at an
  refine an.elim fun aq1 cq1 ar1 cr1 F1 _ _ => ?_
  refine hc_intro (QuoRem_spec2 (rx.keep k6) (ry.keep k6) rfl rfl) fun v h7 ⟨k7, an⟩ => ?_
  rw [eq] at an
  refine an.elim fun aq2 cq2 ar2 cr2 F2 _ _ => ?_
  have k57 := k6.trans k7
  refine hc_intro (Root_spec2 (rx.keep k57) rfl) fun v h8 ⟨k8, an⟩ => ?_
  rw [er] at an
  refine an.elim fun as1 cs1 at1 ct1 F3 _ _ => ?_
  have k58 := k57.trans k8
  refine hc_intro (Root_spec2 (rx.keep k58) rfl) fun v h9 ⟨k9, an⟩ => ?_
  rw [er] at an
  refine an.elim fun as2 cs2 at2 ct2 F4 _ _ => ?_
  have k59 := k58.trans k9
  refine c_ne (fun hh => absurd rfl hh) fun _ => ?_
  refine c_ne (fun hh => absurd rfl hh) fun _ => ?_
  refine c_ne (fun hh => absurd rfl hh) fun _ => ?_
  refine c_ne (fun hh => absurd rfl hh) fun _ => ?_
  have k39 := k35.trans k59
  refine hc_intro (kept_spec (i := 90) (r0.keep k39) rfl (rwx.keep k59) rfl (by omega)) fun v h10 ⟨e1, e2⟩ => ?_
  subst e1; subst e2
  refine gBool_intro rfl ?_
  simp only [Bool.not_true, cond_false]
  refine hc_intro (kept_spec (i := 91) (r1.keep k39) rfl (rwy.keep k59) rfl (by omega)) fun v h11 ⟨e1, e2⟩ => ?_
  subst e1; subst e2
  refine gBool_intro rfl ?_
  simp only [Bool.not_true, cond_false]
  -- copies
  have F1' := F1.keep (k7.trans (k8.trans k9))
  have F2' := F2.keep (k8.trans k9)
  have F3' := F3.keep k9
  dsimp only at F1' F2' F3' F4
  clear F1 F2 F3
  try dsimp only
  unfold gnomonlaw03_NatdivMemory.D3.t
  refine hc_intro (htwin_spec F1'.fst rfl) fun v h12 ⟨k12, an⟩ => ?_
  refine AnsS.elimG an fun a12 c12 g12 => ?_
  refine hc_intro (htwin_spec (F1'.keep k12).snd rfl) fun v h13 ⟨k13, an⟩ => ?_
  refine AnsS.elimG an fun a13 c13 g13 => ?_
  have k1113 := k12.trans k13
  refine hc_intro (htwin_spec (F3'.keep k1113).fst rfl) fun v h14 ⟨k14, an⟩ => ?_
  refine AnsS.elimG an fun a14 c14 g14 => ?_
  have k1114 := k1113.trans k14
  refine hc_intro (htwin_spec (F3'.keep k1114).snd rfl) fun v h15 ⟨k15, an⟩ => ?_
  refine AnsS.elimG an fun a15 c15 g15 => ?_
  have kc := k1114.trans k15
  have F1c := F1'.keep kc
  have F2c := F2'.keep kc
  have F3c := F3'.keep kc
  have F4c := F4.keep kc
  have gq := g12.keep (k13.trans (k14.trans k15))
  have gr := g13.keep (k14.trans k15)
  have gs := g14.keep k15
  have gt := g15
  refine same_cond F2c.fst gq.rd64 rfl rfl ?_
  refine same_cond F2c.snd gr.rd64 rfl rfl ?_
  refine same_cond F4c.fst gs.rd64 rfl rfl ?_
  refine same_cond F4c.snd gt.rd64 rfl rfl ?_
  unfold gnomonlaw03_NatdivMemory.D8.t
  have s45 := k5.le; have s56 := k6.le; have s67 := k7.le; have s78 := k8.le; have s89 := k9.le; have sc := kc.le
  have s12 := k12.le; have s13 := k13.le; have s14 := k14.le; have s15 := k15.le
  refine ⟨(digs A).length + 1, over_loop2 (h0 := h15) (b := bx) lA (fun h16 zs o16 hz16 hl16 kb => ?_) (digs A).length 0 _ h15 (by omega) (by rw [List.length_append, hlx]; omega) rfl (ox.keep (k5.trans (k59.trans kc))) (KeepB.refl _ _)⟩
  have sb := kb.le
  have F1d := F1c.keepB (q := bx) (Or.inl (by omega)) kb
  have F2d := F2c.keepB (q := bx) (Or.inl (by omega)) kb
  have F3d := F3c.keepB (q := bx) (Or.inl (by omega)) kb
  have F4d := F4c.keepB (q := bx) (Or.inl (by omega)) kb
  have gq' := gq.keepB (q := bx) (by omega) kb
  have gr' := gr.keepB (q := bx) (by omega) kb
  have gs' := gs.keepB (q := bx) (by omega) kb
  have gt' := gt.keepB (q := bx) (by omega) kb
  have oy' := (oy.keep (k59.trans kc)).keepB hne kb
  have k3c : Keep h3 h16 := kb.keepN (k39.trans kc) hbx
  have r1' := r1.keep k3c
  have ry' : ∀ h', Keep h16 h' → Rd h' (some ⟨by', 0, none⟩) ((digs B).length + 6) (digs B) := fun h' k' => by
    have := ((oy'.keep k').rd (c := (digs B).length + 6) (by rw [hly]; show _ ≤ 35184372088828; omega) (by rw [hly]; exact Nat.le_refl _)).to64.take (digs B).length
    rwa [List.take_left] at this
  have rx' : ∀ h', Keep h16 h' → Rd h' (some ⟨bx, 0, none⟩) ((digs A).length + 6) (mks 92 0 (digs A).length) := fun h' k' => by
    have := ((o16.keep k').rdAt (off := 0) (n := (digs A).length) (c := (digs A).length + 6) (by show _ ≤ 35184372088828; omega) (by omega) (by omega)).to64
    rwa [List.drop_zero, hz16] at this
  have hn : (digs A).length = (mks 92 0 (digs A).length).length := (mks_len _ _ _).symm
  have dz := (frm_mks lA).digs (mks_ok 92 0 (digs A).length)
  obtain ⟨Z, hZ⟩ : ∃ Z, Z = val (mks 92 0 (digs A).length) := ⟨_, rfl⟩
  rw [← hZ] at dz
  have lZ : (digs Z).length ≤ 8192 := by rw [dz, mks_len]; exact lA
  rw [← dz] at rx' hn hz16
  have eq3 := quoS_d lZ lB hB0
  have er3 := rootS_d lZ
  unfold gnomonlaw03_NatdivMemory.D4.t
  refine hc_intro (htwin_spec (rx' h16 (Keep.refl _)) hn) fun v h17 ⟨k17, an⟩ => ?_
  refine AnsS.elimG an fun a17 c17 g17 => ?_
  refine hc_intro (QuoRem_spec2 (rx' h17 k17) (ry' h17 k17) hn rfl) fun v h18 ⟨k18, an⟩ => ?_
  rw [eq3] at an
  refine an.elim fun aq3 cq3 ar3 cr3 F5 _ _ => ?_
  have k1618 := k17.trans k18
  refine hc_intro (Root_spec2 (rx' h18 k1618) hn) fun v h19 ⟨k19, an⟩ => ?_
  rw [er3] at an
  refine an.elim fun as3 cs3 at3 ct3 F6 _ _ => ?_
  dsimp only at F5 F6 ⊢
  have F5' := F5.keep k19
  have hQ := Nat.div_add_mod Z B
  have hS := rootN_le Z
  have lQ : (digs (Z / B)).length ≤ 8192 := Nat.le_trans (digs_len_mono (Nat.div_le_self _ _)) lZ
  have lR : (digs (Z % B)).length ≤ 8192 := Nat.le_trans (digs_len_mono (Nat.mod_le _ _)) lZ
  have lS : (digs (rootN Z)).length ≤ 8192 := Nat.le_trans (digs_len_mono (Nat.le_trans (Nat.le_mul_self _) hS)) lZ
  have lT : (digs (Z - rootN Z * rootN Z)).length ≤ 8192 := Nat.le_trans (digs_len_mono (Nat.sub_le _ _)) lZ
  have lQB : (digs (Z / B * B)).length ≤ 8192 := Nat.le_trans (digs_len_mono (Nat.div_mul_le_self _ _)) lZ
  have lSS : (digs (rootN Z * rootN Z)).length ≤ 8192 := Nat.le_trans (digs_len_mono hS) lZ
  have eQ : Z / B * B + Z % B = Z := by rw [Nat.mul_comm]; exact hQ
  have eS : rootN Z * rootN Z + (Z - rootN Z * rootN Z) = Z := Nat.add_sub_cancel' hS
  have DQ := dlD lQ; have DB := dlD lB; have DR := dlD lR; have DS := dlD lS; have DT := dlD lT; have DQB := dlD lQB; have DSS := dlD lSS
  refine from_d F6.fst rfl fun h20 a20 c20 k20 g20 => ?_
  refine c_ne (fun hh => absurd rfl hh) fun _ => ?_
  refine c_ne (fun hh => absurd rfl hh) fun _ => ?_
  have k1720 := k18.trans (k19.trans k20)
  have k1620 := k17.trans k1720
  refine same_cond (rx' h20 k1620) (g17.keep k1720).rd64 hn rfl ?_
  unfold gnomonlaw03_NatdivMemory.D5.t
  refine from_d (F5'.keep k20).fst rfl fun h21 a21 c21 k21 g21 => ?_
  refine from_d (r1'.keep (k1620.trans k21)) rfl fun h22 a22 c22 k22 g22 => ?_
  refine hc_intro (rMul_spec (g21.keep k22).rd g22.rd rfl rfl (by omega) (by omega)) fun v h23 ⟨k23, sd⟩ => ?_
  refine sd.elim fun a23 c23 g23 => ?_
  have k2023 := k21.trans (k22.trans k23)
  refine from_d (F5'.keep (k20.trans k2023)).snd rfl fun h24 a24 c24 k24 g24 => ?_
  refine hc_intro (rAdd_spec (g23.keep k24).rd g24.rd rfl rfl (by omega) (by omega)) fun v h25 ⟨k25, sd⟩ => ?_
  rw [eQ] at sd
  refine sd.elim fun a25 c25 g25 => ?_
  have k2025 := k2023.trans (k24.trans k25)
  refine from_d (g17.keep (k1720.trans k2025)).rd64 rfl fun h26 a26 c26 k26 g26 => ?_
  refine hc_intro (rCmp_spec (g25.keep k26).rd g26.rd rfl rfl) fun v h27 ⟨e1, e2⟩ => ?_
  subst e1; subst e2
  rw [cmpI_refl]
  refine gInt_intro rfl ?_
  refine c_ne (fun hh => absurd rfl hh) fun _ => ?_
  have k2027 := k2025.trans k26
  refine hc_intro (rMul_spec (g20.keep k2027).rd (g20.keep k2027).rd rfl rfl (by omega) (by omega)) fun v h28 ⟨k28, sd⟩ => ?_
  refine sd.elim fun a28 c28 g28 => ?_
  have k2028 := k2027.trans k28
  refine from_d (F6.keep (k20.trans k2028)).snd rfl fun h29 a29 c29 k29 g29 => ?_
  refine hc_intro (rAdd_spec (g28.keep k29).rd g29.rd rfl rfl (by omega) (by omega)) fun v h30 ⟨k30, sd⟩ => ?_
  rw [eS] at sd
  refine sd.elim fun a30 c30 g30 => ?_
  have k2030 := k2028.trans (k29.trans k30)
  refine from_d (g17.keep (k1720.trans k2030)).rd64 rfl fun h31 a31 c31 k31 g31 => ?_
  refine hc_intro (rCmp_spec (g30.keep k31).rd g31.rd rfl rfl) fun v h32 ⟨e1, e2⟩ => ?_
  subst e1; subst e2
  rw [cmpI_refl]
  refine gInt_intro rfl ?_
  refine c_ne (fun hh => absurd rfl hh) fun _ => ?_
  have k2032 := k2030.trans k31
  have k1932 := k20.trans k2032
  have k1632 := k1620.trans k2032
  unfold gnomonlaw03_NatdivMemory.D6.t
  refine same_cond (F1d.keep k1632).fst (gq'.keep k1632).rd64 rfl rfl ?_
  refine same_cond (F1d.keep k1632).snd (gr'.keep k1632).rd64 rfl rfl ?_
  refine same_cond (F3d.keep k1632).fst (gs'.keep k1632).rd64 rfl rfl ?_
  refine same_cond (F3d.keep k1632).snd (gt'.keep k1632).rd64 rfl rfl ?_
  refine same_cond (F2d.keep k1632).fst (gq'.keep k1632).rd64 rfl rfl ?_
  refine same_cond (F2d.keep k1632).snd (gr'.keep k1632).rd64 rfl rfl ?_
  refine same_cond (F4d.keep k1632).fst (gs'.keep k1632).rd64 rfl rfl ?_
  refine same_cond (F4d.keep k1632).snd (gt'.keep k1632).rd64 rfl rfl ?_
  unfold gnomonlaw03_NatdivMemory.D7.t
  refine boxE eSl [(aq1, _, cq1), (ar1, _, cr1), (aq2, _, cq2), (ar2, _, cr2), (as1, _, cs1), (at1, _, ct1), (as2, _, cs2), (at2, _, ct2), (aq3, _, cq3), (ar3, _, cr3), (as3, _, cs3), (at3, _, ct3), (some ⟨bx, 0, none⟩, (digs A).length, (digs A).length + 6), (some ⟨by', 0, none⟩, (digs B).length, (digs B).length + 6)] rfl (fun _ _ => trivial) fun h33 o33 k33 => ?_
  have k1633 := k1632.trans k33
  have k1933 := k1932.trans k33
  have FX : FreshL h3.size h4.size h33 [(some ⟨bx, 0, none⟩, (digs A).length, (digs A).length + 6)] [digs Z] := by
    refine FreshL.one ⟨hn, by rw [← hn]; show _ ≤ (digs A).length + 6; omega, by omega, Or.inr ⟨bx, zs.drop (digs A).length, rfl, hbx, hbxl, ?_, ?_⟩⟩
    · rw [← hz16, List.take_append_drop]; exact o16.keep k1633
    · rw [List.length_append, List.length_drop, ← hn]; show (digs A).length + 6 ≤ _; omega
  have FY : FreshL h4.size h5.size h33 [(some ⟨by', 0, none⟩, (digs B).length, (digs B).length + 6)] [digs B] := by
    refine FreshL.one ⟨rfl, by show _ ≤ (digs B).length + 6; omega, by omega, Or.inr ⟨by', mks 91 300000 6 ++ rsy, rfl, hby, oy.lt, ?_, ?_⟩⟩
    · have := oy'.keep k1633
      rw [List.append_assoc] at this; exact this
    · rw [List.length_append, List.length_append, mks_len]; show (digs B).length + 6 ≤ _; omega
  have s34 := k4.le
  have s1617 := k17.le; have s1718 := k18.le; have s1819 := k19.le; have s1933 := k1933.le; have s1932 := k1932.le
  have P2 := (F1d.keep k1633).join (F2d.keep k1633) (Or.inl (Nat.le_refl _)) (Nat.le_refl h5.size) s56 s67 (Nat.le_refl h7.size)
  have P3 := P2.join (F3d.keep k1633) (Or.inl (Nat.le_refl _)) (Nat.le_refl h5.size) (by omega) s78 (Nat.le_refl h8.size)
  have P4 := P3.join (F4d.keep k1633) (Or.inl (Nat.le_refl _)) (Nat.le_refl h5.size) (by omega) s89 (Nat.le_refl h11.size)
  have P5 := P4.join (F5'.keep k1933) (Or.inl (by omega)) (Nat.le_refl h5.size) (by omega) (show h11.size ≤ h18.size by omega) (Nat.le_refl h18.size)
  have P6 := P5.join (F6.keep k1933) (Or.inl (Nat.le_refl _)) (Nat.le_refl h5.size) (by omega) s1819 (Nat.le_refl h19.size)
  have PX := FX.join FY (Or.inl (Nat.le_refl _)) (Nat.le_refl h3.size) s34 s45 (Nat.le_refl h5.size)
  have P := P6.join PX (Or.inr (Nat.le_refl _)) (show h3.size ≤ h5.size by omega) (Nat.le_refl h3.size) (Nat.le_refl h19.size) (show h5.size ≤ h19.size by omega)
  have lQ1 : (digs (A / B)).length ≤ 8192 := Nat.le_trans (digs_len_mono (Nat.div_le_self _ _)) lA
  have lR1 : (digs (A % B)).length ≤ 8192 := Nat.le_trans (digs_len_mono (Nat.mod_le _ _)) lA
  have lS1 : (digs (rootN A)).length ≤ 8192 := Nat.le_trans (digs_len_mono (Nat.le_trans (Nat.le_mul_self _) (rootN_le A))) lA
  have lT1 : (digs (A - rootN A * rootN A)).length ≤ 8192 := Nat.le_trans (digs_len_mono (Nat.sub_le _ _)) lA
  obtain ⟨O, old, top, ows, olen⟩ := owners2 P (fun zs hz => by
    simp only [List.cons_append, List.nil_append, List.mem_cons, List.not_mem_nil, or_false] at hz
    rcases hz with e | e | e | e | e | e | e | e | e | e | e | e | e | e <;> subst e <;> omega)
  have k1033 : Keep h3 h33 := k3c.trans k1633
  refine hc_intro (apart3_spec (h00 := h) (O := O) rfl (by decide) ⟨o33, top _ (by omega)⟩ (k1.trans k1033) (fun b' hb' => old b' (Nat.lt_of_lt_of_le hb' k1.le)) (fun b' hb' => top b' (by omega)) ows olen) fun v h34 ⟨k34, e⟩ => ?_
  subst e
  exact gBool_intro rfl ⟨k34, rfl⟩
end Go.Proofs.Ytdpkfipkjdlmlaa.G
