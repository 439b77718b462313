/- Texts of this work, joined: DocZ. -/
import Derived.Test.YtjijdlkpmngolaaKC0
import Derived.Test.YtjijdlkpmngolaaKC1
/- The document's calls on whole numbers, each with what follows. -/
namespace Go.Proofs.Ytjijdlkpmngolaa.G
open Go.Gv
set_option linter.unusedVariables false
/-- The whole number i in a struct's fields. -/
structure RZ (h : Hp) (p : Bool) (a : Option Addr) (l c : Nat) (i : Int) : Prop where
  p : p = decide (i < 0)
  l : l = (D.digs i.natAbs).length
  r : RdE eU32 h a c (D.digs i.natAbs)
theorem RZ.keep {h h' : Hp} {p : Bool} {a : Option Addr} {l c : Nat} {i : Int} (z : RZ h p a l c i) (k : Keep h h') : RZ h' p a l c i := ⟨z.p, z.l, z.r.keep k⟩
theorem RZ.di {h : Hp} {p : Bool} {a : Option Addr} {l c : Nat} {i : Int} (z : RZ h p a l c i) : di (p, i.natAbs) = i := by
  rw [z.p]; exact di_dz i
/-- What is handed on. -/
def gZ (v : Value) (h : Hp) (K : Bool → Option Addr → Nat → Nat → Hp → Prop) : Prop :=
  gAgg v fun y => uncons y fun v1 y1 => gBool v1 fun b => uncons y1 fun v2 y2 => gSlice v2 fun a l c => unnil y2 (K b a l c h)
theorem sZD_elim {h0 h : Hp} {v : Value} {i : Int} {K : Bool → Option Addr → Nat → Nat → Hp → Prop} (s : sZD h0 h v (dz i)) (g : ∀ p a l c, RZ h p a l c i → GotE eU32 h0 h a c (D.digs i.natAbs) → K p a l c h) : gZ v h K := by
  obtain ⟨a, c, e, r⟩ := s
  subst e
  exact gAgg_intro rfl (uncons_intro (gBool_intro rfl (uncons_intro (gSlice_intro rfl (unnil_intro (g _ _ _ _ ⟨rfl, rfl, r.rd⟩ r))))))
theorem preLe {h h' : Hp} {n : Nat} (k : Keep h h') (hn : n ≤ h.size) : Pre n h h' := fun b hb => k.pre b (Nat.lt_of_lt_of_le hb hn)
section
variable {a b : Option Addr} {c d l m x : Nat} {h : Hp} {i j : Int} {p q : Bool} {K : Bool → Option Addr → Nat → Nat → Hp → Prop}
theorem z_mk (r : RdE eU32 h a c (D.digs x)) (hl : l = (D.digs x).length) (g : ∀ p a l c h', Keep h h' → RZ h' p a l c (x : Int) → K p a l c h') :
    HC gnomonref04_Mk.id #[.bool false, .slice a l c] h fun v h' => gZ v h' K := by
  refine hc_intro (gnomonref04_Mk.hs r hl) fun v h' ⟨k, s⟩ => ?_
  exact sZD_elim (i := (x : Int)) s fun p a l c z _ => g p a l c h' k z
theorem z_of (hi : In .i64 i) (g : ∀ p a l c h', Keep h h' → RZ h' p a l c i → K p a l c h') :
    HC gnomonref04_Of.id #[.int .i64 i] h fun v h' => gZ v h' K := by
  refine hc_intro (gnomonref04_Of.hs hi) fun v h' ⟨k, s⟩ => ?_
  exact sZD_elim s fun p a l c z _ => g p a l c h' k z
theorem z_ofG (hi : In .i64 i) (g : ∀ p a l c h', Keep h h' → RZ h' p a l c i → GotE eU32 h h' a c (D.digs i.natAbs) → K p a l c h') :
    HC gnomonref04_Of.id #[.int .i64 i] h fun v h' => gZ v h' K := by
  refine hc_intro (gnomonref04_Of.hs hi) fun v h' ⟨k, s⟩ => ?_
  exact sZD_elim s fun p a l c z e => g p a l c h' k z e
theorem z_sub (r : RZ h p a l c i) (s : RZ h q b m d j) (di_ : Dm i.natAbs) (dj : Dm j.natAbs) (g : ∀ p a l c h', Keep h h' → RZ h' p a l c (i - j) → K p a l c h') :
    HC gnomonref04_Sub.id #[.agg #[.bool p, .slice a l c], .agg #[.bool q, .slice b m d]] h fun v h' => gZ v h' K := by
  refine hc_intro (gnomonref04_Sub.hs (p := p) (q := q) r.r r.l s.r s.l di_ dj) fun v h' ⟨k, t⟩ => ?_
  rw [r.di, s.di] at t
  exact sZD_elim t fun p a l c z _ => g p a l c h' k z
theorem z_sign {K : Int → Hp → Prop} (r : RZ h p a l c i) (g : ∀ h', Keep h h' → K (cmpZ i 0) h') :
    HC gnomonref04_Sign.id #[.agg #[.bool p, .slice a l c]] h fun v h' => gInt .i64 v fun x => K x h' := by
  refine hc_intro (gnomonref04_Sign.hs (p := p) r.r r.l) fun v h' ⟨k, t⟩ => ?_
  rw [r.di] at t
  exact gInt_intro t.1 (g h' k)
theorem z_cmp {K : Int → Hp → Prop} (r : RZ h p a l c i) (s : RZ h q b m d j) (di_ : (D.digs i.natAbs).length ≤ 700000) (dj : (D.digs j.natAbs).length ≤ 700000) (g : ∀ h', Keep h h' → K (cmpZ i j) h') :
    HC gnomonref04_Cmp.id #[.agg #[.bool p, .slice a l c], .agg #[.bool q, .slice b m d]] h fun v h' => gInt .i64 v fun x => K x h' := by
  refine hc_intro (gnomonref04_Cmp.hs (p := p) (q := q) r.r r.l s.r s.l di_ dj) fun v h' ⟨k, t⟩ => ?_
  rw [r.di, s.di] at t
  exact gInt_intro t.1 (g h' k)
end
/-- A whole number in a box of its own. -/
theorem boxZ {h : Hp} {e : TypeId} {cs : List Value} (hl : cs.length = 2) {p : Bool} {a : Option Addr} {l c : Nat} {K : Addr → Hp → Prop} (g : ∀ q h', Keep h h' → h.size ≤ q → BlkV h' q [.bool p, .slice a l c] → K ⟨q, 0, none⟩ h') :
    boxK h e cs fun q h1 => stK h1 (q.add 0) (.bool p) fun h2 => stK h2 (q.add 1) (.slice a l c) fun h3 => K q h3 := by
  match cs, hl with
  | [v0, v1], _ =>
    refine boxV fun h1 o1 k1 => ?_
    refine stV o1 (by exact (by decide : 0 < 2)) fun h2 o2 k2 => ?_
    refine stV o2 (by exact (by decide : 1 < 2)) fun h3 o3 k3 => ?_
    exact g h.size h3 (KeepB.keep (KeepB.keep k1 k2 (Nat.le_refl _)) k3 (Nat.le_refl _)) (Nat.le_refl _) o3
/-- It is read. -/
theorem ldZ {h : Hp} {q : Nat} {p : Bool} {a : Option Addr} {l c : Nat} {K : Bool → Option Addr → Nat → Nat → Prop} (o : BlkV h q [.bool p, .slice a l c]) (g : K p a l c) :
    ldK h ((⟨q, 0, none⟩ : Addr).add 0) fun v1 => gBool v1 fun b => ldK h ((⟨q, 0, none⟩ : Addr).add 1) fun v2 => gSlice v2 fun a l c => K b a l c :=
  ldV o rfl (gBool_intro rfl (ldV o rfl (gSlice_intro rfl g)))
end Go.Proofs.Ytjijdlkpmngolaa.G
