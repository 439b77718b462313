/- Lists of lists of words in the heap. -/
import Derived.Test.YtaglonbkdcmmpaaGvOpen
import Derived.Test.YtaglonbkdcmmpaaGvBlock
namespace Go.Gv
abbrev RdLL (h : Hp) (a : Option Addr) (c : Nat) (l : List (List Nat)) : Prop := RdList saysWords 1 5864062014634 h a c l
theorem RdLL.keep {h h' : Hp} {a : Option Addr} {c : Nat} {l : List (List Nat)} (r : RdLL h a c l) (k : Keep h h') : RdLL h' a c l := RdList.keep saysWords_lasts r k
theorem list_at {h : Hp} {a : Option Addr} {c n : Nat} {l : List (List Nat)} (r : RdLL h a c l) {i : Int} {j : Nat} (hi : i = (j : Int)) (hn : n = l.length) {xs : List Nat} (hx : l[j]? = some xs) {K : Option Addr → Nat → Nat → Prop}
    (g : ∀ a' c', Rd h a' c' xs → K a' xs.length c') : idxK a n i 1 fun q => ldK h q fun v => gSlice v K := by
  subst hi; subst hn
  have hj := (List.getElem?_eq_some_iff.mp hx).1
  obtain ⟨p, vs, e, _, rl, a', c', ev, rd, _⟩ := r.at_ j xs hx
  subst e; subst ev
  refine ⟨⟨by omega, by omega⟩, ?_⟩
  show ldK h (p.add ((j : Int).toNat * 1)) _
  have e2 : (j : Int).toNat * 1 = j * 1 := by omega
  rw [e2]
  have hc := rl.1
  rw [add_add, Nat.add_zero] at hc
  unfold ldK; rw [hc]; exact g a' c' rd
theorem RdLL.small {h : Hp} {a : Option Addr} {c : Nat} {l : List (List Nat)} (r : RdLL h a c l) : ∀ x ∈ l, x.length ≤ 17592186043904 := by
  intro x hx
  obtain ⟨i, hi⟩ := List.getElem?_of_mem hx
  obtain ⟨p, vs, _, _, _, a', c', _, _, b⟩ := r.at_ i x hi
  exact b
end Go.Gv
