/- Lists of lists whose memory was made here, each in a block of its own; structs of five fields. -/
import Derived.Test.YtaglonbkdcmmpaaGvBox
namespace Go.Gv
/-- A slice over its own block, made between lo and hi, that reads as xs. -/
def Own1 (lo hi : Nat) (h : Hp) (s : Sl) (xs : List Nat) : Prop :=
  s.2.1 = xs.length ∧ xs.length ≤ s.2.2 ∧ xs.length ≤ 35184372088828 ∧ ((xs = [] ∧ s.1 = none ∧ s.2.2 = 0) ∨ ∃ b rest, s.1 = some ⟨b, 0, none⟩ ∧ lo ≤ b ∧ b < hi ∧ BlkE eU64 h b (xs ++ rest) ∧ s.2.2 ≤ (xs ++ rest).length)
theorem Own1.nil (lo hi : Nat) (h : Hp) : Own1 lo hi h (none, 0, 0) [] := ⟨rfl, by simp, by simp, Or.inl ⟨rfl, rfl, rfl⟩⟩
theorem Own1.of_got {h0 h : Hp} {a : Option Addr} {c l : Nat} {xs : List Nat} (g : GotE eU64 h0 h a c xs) (hl : l = xs.length) {lo hi : Nat} (h1 : lo ≤ h0.size) (h2 : h.size ≤ hi) : Own1 lo hi h (a, l, c) xs := by
  subst hl
  refine ⟨rfl, g.cap, g.len, g.here.imp id ?_⟩
  rintro ⟨b, rest, e1, e2, o, e3⟩
  exact ⟨b, rest, e1, Nat.le_trans h1 e2, Nat.lt_of_lt_of_le o.lt h2, o, e3⟩
theorem Own1.rd {lo hi : Nat} {h : Hp} {s : Sl} {xs : List Nat} (o : Own1 lo hi h s xs) : Rd h s.1 s.2.2 xs := by
  obtain ⟨h1, h2, h3, h4⟩ := o
  rcases h4 with ⟨e1, e2, e3⟩ | ⟨b, rest, e1, _, _, o, _⟩
  · subst e1; exact Rd.nil _ _ _
  · rw [e1]; exact (o.rd h3 h2).to64
theorem Own1.keep {lo hi : Nat} {h h' : Hp} {s : Sl} {xs : List Nat} (o : Own1 lo hi h s xs) (k : Keep h h') : Own1 lo hi h' s xs :=
  ⟨o.1, o.2.1, o.2.2.1, o.2.2.2.imp id fun ⟨b, rest, e1, e2, e3, w, e4⟩ => ⟨b, rest, e1, e2, e3, w.keep k, e4⟩⟩
theorem Own1.keepB {lo hi q : Nat} {h h' : Hp} {s : Sl} {xs : List Nat} (o : Own1 lo hi h s xs) (hq : q < lo ∨ hi ≤ q) (k : KeepB q h h') : Own1 lo hi h' s xs :=
  ⟨o.1, o.2.1, o.2.2.1, o.2.2.2.imp id fun ⟨b, rest, e1, e2, e3, w, e4⟩ => ⟨b, rest, e1, e2, e3, w.keepB (by omega) k, e4⟩⟩
theorem Own1.wide {lo hi lo' hi' : Nat} {h : Hp} {s : Sl} {xs : List Nat} (o : Own1 lo hi h s xs) (h1 : lo' ≤ lo) (h2 : hi ≤ hi') : Own1 lo' hi' h s xs :=
  ⟨o.1, o.2.1, o.2.2.1, o.2.2.2.imp id fun ⟨b, rest, e1, e2, e3, w, e4⟩ => ⟨b, rest, e1, Nat.le_trans h1 e2, Nat.lt_of_lt_of_le e3 h2, w, e4⟩⟩
theorem Own1.block {lo hi : Nat} {h : Hp} {s : Sl} {xs : List Nat} (o : Own1 lo hi h s xs) : ∀ p, s.1 = some p → lo ≤ p.block ∧ p.block < hi := by
  intro p ep
  rcases o.2.2.2 with ⟨_, e, _⟩ | ⟨b, rest, e1, e2, e3, _, _⟩
  · rw [e] at ep; cases ep
  · rw [e1] at ep; cases ep; exact ⟨e2, e3⟩
/-- Lists, each in a block of its own, made between lo and hi. -/
structure FreshL (lo hi : Nat) (h : Hp) (hs : List Sl) (lls : List (List Nat)) : Prop where
  len : hs.length = lls.length
  at_ : ∀ (i : Nat) s xs, hs[i]? = some s → lls[i]? = some xs → Own1 lo hi h s xs
  two : ∀ (i j : Nat) (s t : Sl) (p q : Addr), hs[i]? = some s → hs[j]? = some t → s.1 = some p → t.1 = some q → p.block = q.block → i = j
theorem FreshL.keep {lo hi : Nat} {h h' : Hp} {hs : List Sl} {lls : List (List Nat)} (f : FreshL lo hi h hs lls) (k : Keep h h') : FreshL lo hi h' hs lls := ⟨f.len, fun i s xs e1 e2 => (f.at_ i s xs e1 e2).keep k, f.two⟩
theorem FreshL.keepB {lo hi q : Nat} {h h' : Hp} {hs : List Sl} {lls : List (List Nat)} (f : FreshL lo hi h hs lls) (hq : q < lo ∨ hi ≤ q) (k : KeepB q h h') : FreshL lo hi h' hs lls := ⟨f.len, fun i s xs e1 e2 => (f.at_ i s xs e1 e2).keepB hq k, f.two⟩
theorem FreshL.block {lo hi : Nat} {h : Hp} {hs : List Sl} {lls : List (List Nat)} (f : FreshL lo hi h hs lls) : ∀ s ∈ hs, ∀ p, s.1 = some p → lo ≤ p.block ∧ p.block < hi := by
  intro s hs' p ep
  obtain ⟨i, hi'⟩ := List.getElem?_of_mem hs'
  have hl := (List.getElem?_eq_some_iff.mp hi').1
  have hx : lls[i]? = some (lls[i]'(by rw [← f.len]; exact hl)) := List.getElem?_eq_getElem _
  exact (f.at_ i s _ hi' hx).block p ep
theorem FreshL.wide {lo hi lo' hi' : Nat} {h : Hp} {hs : List Sl} {lls : List (List Nat)} (f : FreshL lo hi h hs lls) (h1 : lo' ≤ lo) (h2 : hi ≤ hi') : FreshL lo' hi' h hs lls := ⟨f.len, fun i s xs e1 e2 => (f.at_ i s xs e1 e2).wide h1 h2, f.two⟩
theorem FreshL.one {lo hi : Nat} {h : Hp} {s : Sl} {xs : List Nat} (o : Own1 lo hi h s xs) : FreshL lo hi h [s] [xs] := by
  refine ⟨rfl, fun i t ys e1 e2 => ?_, fun i j s' t p q e1 e2 _ _ _ => ?_⟩
  · cases i with
    | zero => simp at e1 e2; subst e1; subst e2; exact o
    | succ i => simp at e1
  · have h1 := (List.getElem?_eq_some_iff.mp e1).1
    have h2 := (List.getElem?_eq_some_iff.mp e2).1
    simp at h1 h2; omega
theorem FreshL.three {lo hi : Nat} {h : Hp} {s t u : Sl} {xs ys zs : List Nat} (o1 : Own1 lo hi h s xs) (o2 : Own1 lo hi h t ys) (o3 : Own1 lo hi h u zs)
    (h12 : ∀ p q, s.1 = some p → t.1 = some q → p.block ≠ q.block) (h13 : ∀ p q, s.1 = some p → u.1 = some q → p.block ≠ q.block) (h23 : ∀ p q, t.1 = some p → u.1 = some q → p.block ≠ q.block) : FreshL lo hi h [s, t, u] [xs, ys, zs] := by
  refine ⟨rfl, fun i w ws e1 e2 => ?_, fun i j a b p q e1 e2 f1 f2 e => ?_⟩
  · match i with
    | 0 => simp at e1 e2; subst e1; subst e2; exact o1
    | 1 => simp at e1 e2; subst e1; subst e2; exact o2
    | 2 => simp at e1 e2; subst e1; subst e2; exact o3
    | i + 3 => simp at e1
  · match i, j with
    | 0, 0 | 1, 1 | 2, 2 => rfl
    | 0, 1 => simp at e1 e2; subst e1; subst e2; exact absurd e (h12 _ _ f1 f2)
    | 1, 0 => simp at e1 e2; subst e1; subst e2; exact absurd e.symm (h12 _ _ f2 f1)
    | 0, 2 => simp at e1 e2; subst e1; subst e2; exact absurd e (h13 _ _ f1 f2)
    | 2, 0 => simp at e1 e2; subst e1; subst e2; exact absurd e.symm (h13 _ _ f2 f1)
    | 1, 2 => simp at e1 e2; subst e1; subst e2; exact absurd e (h23 _ _ f1 f2)
    | 2, 1 => simp at e1 e2; subst e1; subst e2; exact absurd e.symm (h23 _ _ f2 f1)
    | i + 3, _ => simp at e1
    | _, j + 3 => simp at e2
/-! ### structs of fields -/
theorem KeepB.keepB2 {q : Nat} {h0 h h' : Hp} (k0 : Keep h0 h) (k : KeepB q h h') (hq : h0.size ≤ q) : Keep h0 h' := k.keep k0 hq
theorem ldI {h : Hp} {b : Nat} {vs : List Value} (o : BlkV h b vs) {k : Nat} {t : IntKind} {x : Int} (hk : vs[k]? = some (.int t x)) {K : Int → Prop} (g : K x) : ldK h ((⟨b, 0, none⟩ : Addr).add k) fun v => gInt t v K := ldV o hk (gInt_intro rfl g)
theorem ldS {h : Hp} {b : Nat} {vs : List Value} (o : BlkV h b vs) {k : Nat} {a : Option Addr} {l c : Nat} (hk : vs[k]? = some (.slice a l c)) {K : Option Addr → Nat → Nat → Prop} (g : K a l c) : ldK h ((⟨b, 0, none⟩ : Addr).add k) fun v => gSlice v K := ldV o hk (gSlice_intro rfl g)
theorem st4 {h : Hp} {b : Nat} {vs : List Value} (o : BlkV h b vs) (hl : vs.length = 4) {v0 v1 v2 v3 : Value} {K : Hp → Prop} (g : ∀ h', BlkV h' b [v0, v1, v2, v3] → KeepB b h h' → K h') :
    stK h ((⟨b, 0, none⟩ : Addr).add 0) v0 fun h1 => stK h1 ((⟨b, 0, none⟩ : Addr).add 1) v1 fun h2 => stK h2 ((⟨b, 0, none⟩ : Addr).add 2) v2 fun h3 => stK h3 ((⟨b, 0, none⟩ : Addr).add 3) v3 K := by
  match vs, hl with
  | [a0, a1, a2, a3], _ =>
    refine stV o (Nat.le_of_ble_eq_true rfl) fun h1 o1 k1 => ?_
    refine stV o1 (Nat.le_of_ble_eq_true rfl) fun h2 o2 k2 => ?_
    refine stV o2 (Nat.le_of_ble_eq_true rfl) fun h3 o3 k3 => ?_
    refine stV o3 (Nat.le_of_ble_eq_true rfl) fun h4 o4 k4 => ?_
    exact g h4 o4 (k1.trans (k2.trans (k3.trans k4)))
theorem st5 {h : Hp} {b : Nat} {vs : List Value} (o : BlkV h b vs) (hl : vs.length = 5) {v0 v1 v2 v3 v4 : Value} {K : Hp → Prop} (g : ∀ h', BlkV h' b [v0, v1, v2, v3, v4] → KeepB b h h' → K h') :
    stK h ((⟨b, 0, none⟩ : Addr).add 0) v0 fun h1 => stK h1 ((⟨b, 0, none⟩ : Addr).add 1) v1 fun h2 => stK h2 ((⟨b, 0, none⟩ : Addr).add 2) v2 fun h3 => stK h3 ((⟨b, 0, none⟩ : Addr).add 3) v3 fun h4 => stK h4 ((⟨b, 0, none⟩ : Addr).add 4) v4 K := by
  match vs, hl with
  | [a0, a1, a2, a3, a4], _ =>
    refine stV o (Nat.le_of_ble_eq_true rfl) fun h1 o1 k1 => ?_
    refine stV o1 (Nat.le_of_ble_eq_true rfl) fun h2 o2 k2 => ?_
    refine stV o2 (Nat.le_of_ble_eq_true rfl) fun h3 o3 k3 => ?_
    refine stV o3 (Nat.le_of_ble_eq_true rfl) fun h4 o4 k4 => ?_
    refine stV o4 (Nat.le_of_ble_eq_true rfl) fun h5 o5 k5 => ?_
    exact g h5 o5 (k1.trans (k2.trans (k3.trans (k4.trans k5))))
end Go.Gv
