/- Structs that lie in the heap: reading and writing a field. -/
import Derived.Test.YtaglonbkdcmmpaaGvDig
import Derived.Test.YtaglonbkdcmmpaaGvList
namespace Go.Gv
structure BlkV (h : Hp) (b : Nat) (vs : List Value) : Prop where
  at_ : ∃ e, h[b]? = some (.cells vs.toArray e (0, 0))
theorem BlkV.lt {h : Hp} {b : Nat} {vs : List Value} (o : BlkV h b vs) : b < h.size := by
  obtain ⟨e, g⟩ := o.at_; exact (Array.getElem?_eq_some_iff.mp g).1
theorem BlkV.keep {h h' : Hp} {b : Nat} {vs : List Value} (o : BlkV h b vs) (k : Keep h h') : BlkV h' b vs := by
  obtain ⟨e, g⟩ := o.at_; exact ⟨e, by rw [k.pre b o.lt]; exact g⟩
theorem BlkV.keepB {q : Nat} {h h' : Hp} {b : Nat} {vs : List Value} (o : BlkV h b vs) (hb : b ≠ q) (k : KeepB q h h') : BlkV h' b vs := by
  obtain ⟨e, g⟩ := o.at_; exact ⟨e, by rw [k.pre b o.lt hb]; exact g⟩
theorem boxV {h : Hp} {e : TypeId} {cs : List Value} {K : Addr → Hp → Prop} (g : ∀ h', BlkV h' h.size cs → Keep h h' → K ⟨h.size, 0, none⟩ h') : boxK h e cs K :=
  g _ ⟨e, by simp⟩ ⟨by simp, fun b hb => by rw [Array.getElem?_push]; rw [if_neg (by omega)]⟩
theorem ldV {h : Hp} {b : Nat} {vs : List Value} (o : BlkV h b vs) {k : Nat} {v : Value} (hk : vs[k]? = some v) {K : Value → Prop} (g : K v) : ldK h ((⟨b, 0, none⟩ : Addr).add k) K := by
  obtain ⟨e, at_⟩ := o.at_
  unfold ldK
  have : cellH h ((⟨b, 0, none⟩ : Addr).add k) = some v := by
    rw [base_add]; unfold cellH
    simp only [at_, Option.isSome_none, Bool.false_eq_true, if_false]
    simpa using hk
  rw [this]; exact g
theorem ldV0 {h : Hp} {b : Nat} {vs : List Value} (o : BlkV h b vs) {v : Value} (hk : vs[0]? = some v) {K : Value → Prop} (g : K v) : ldK h (⟨b, 0, none⟩ : Addr) K := by
  have := ldV (k := 0) o hk g
  rw [base_add] at this; exact this
theorem stV {h : Hp} {b : Nat} {vs : List Value} (o : BlkV h b vs) {k : Nat} {v : Value} (hk : k < vs.length) {K : Hp → Prop} (g : ∀ h', BlkV h' b (vs.set k v) → KeepB b h h' → K h') : stK h ((⟨b, 0, none⟩ : Addr).add k) v K := by
  obtain ⟨e, at_⟩ := o.at_
  rw [base_add]
  refine ⟨⟨⟨vs[k], ?_⟩, ?_⟩, g _ ⟨e, ?_⟩ (KeepB.set _ _ _ _)⟩
  · unfold cellH
    simp only [at_, Option.isSome_none, Bool.false_eq_true, if_false]
    simp [hk]
  · unfold frozenH; simp [at_]
  · unfold setH
    rw [Array.getElem?_modify]
    simp only [if_true, at_, Option.map_some]
    simp
theorem stV0 {h : Hp} {b : Nat} {vs : List Value} (o : BlkV h b vs) {v : Value} (hk : 0 < vs.length) {K : Hp → Prop} (g : ∀ h', BlkV h' b (vs.set 0 v) → KeepB b h h' → K h') : stK h (⟨b, 0, none⟩ : Addr) v K := by
  have := stV (k := 0) o hk g
  rw [base_add] at this; exact this
theorem BlkV.addLt {h : Hp} {b : Nat} {vs : List Value} (o : BlkV h b vs) (k : Nat) : ((⟨b, 0, none⟩ : Addr).add k).block < h.size := by
  rw [add_block]; exact o.lt
theorem Keep.preLe {a b : Hp} {n : Nat} (k : Keep a b) (hn : n ≤ a.size) : Pre n a b := fun i hi => k.pre i (Nat.lt_of_lt_of_le hi hn)
theorem GotE.keepB {α : Type} {E : El α} {q : Nat} {h1 h h' : Hp} {a : Option Addr} {c : Nat} {xs : List α} (g : GotE E h1 h a c xs) (hq : q < h1.size) (k : KeepB q h h') : GotE E h1 h' a c xs :=
  ⟨g.len, g.cap, g.here.imp id fun ⟨b, rest, e1, e2, o, e3⟩ => ⟨b, rest, e1, e2, o.keepB (by omega) k, e3⟩⟩
/-- A struct that is filled anew, field by field. -/
theorem stV_all {h : Hp} {b : Nat} {vs : List Value} (o : BlkV h b vs) : BlkV h b vs := o
theorem ldC {h : Hp} {q : Addr} {v : Value} (e : cellH h q = some v) {K : Value → Prop} (g : K v) : ldK h q K := by
  unfold ldK; rw [e]; exact g
/-- The place i of a list of things of sz cells. -/
theorem at_list {α : Type} {S : Says α} {sz m : Nat} {h : Hp} {a : Option Addr} {c n : Nat} {l : List α} (r : RdList S sz m h a c l) {i : Int} {j : Nat} (hi : i = (j : Int)) (hn : n = l.length) {x : α} (hx : l[j]? = some x) {K : Addr → Prop}
    (g : ∀ q vs, vs.length = sz → RdL h q 0 vs → S h vs x → K q) : idxK a n i sz K := by
  subst hi; subst hn
  have hj := (List.getElem?_eq_some_iff.mp hx).1
  obtain ⟨p, vs, e, h1, h2, h3⟩ := r.at_ j x hx
  subst e
  refine ⟨⟨by omega, by omega⟩, ?_⟩
  show K (p.add ((j : Int).toNat * sz))
  have e2 : (j : Int).toNat = j := by omega
  rw [e2]; exact g _ vs h1 h2 h3
theorem in_wf {k : IntKind} {n : Int} (h : (Lit.int k n).wf = true) : In k n := by
  simp only [Lit.wf, Bool.and_eq_true, decide_eq_true_eq] at h; exact h
end Go.Gv
