/- A script of calls: each is played. -/
import Derived.Test.YtnbpbojcjihboaaDoorNatLift
namespace Go.Proofs.YtnbpbojcjihboaaDoor.G
open Go.Gv
set_option linter.unusedVariables false
set_option maxRecDepth 100000
abbrev Op1 := Int × (List Nat × (List Nat × (Int × (Int × Unit))))
abbrev saysOp1 : Says Op1 := saysCons (saysInt .i64) 1 (saysCons saysWords 1 (saysCons saysWords 1 (saysCons (saysInt .i64) 1 (saysCons (saysInt .u64) 1 saysEnd))))
abbrev RdOps1 (h : Hp) (a : Option Addr) (c : Nat) (os : List Op1) : Prop := RdList saysOp1 5 1954687338211 h a c os
theorem saysOp1_lasts : Lasts saysOp1 := saysCons_lasts (saysInt_lasts _) (saysCons_lasts saysWords_lasts (saysCons_lasts saysWords_lasts (saysCons_lasts (saysInt_lasts _) (saysCons_lasts (saysInt_lasts _) saysEnd_lasts 1) 1) 1) 1) 1
theorem RdOps1.keep {h h' : Hp} {a : Option Addr} {c : Nat} {os : List Op1} (r : RdOps1 h a c os) (k : Keep h h') : RdOps1 h' a c os := RdList.keep saysOp1_lasts r k
/-- What one call of a script reads as. -/
theorem op1_open {h : Hp} {q : Addr} {vs : List Value} {o : Op1} (rl : RdL h q 0 vs) (s : saysOp1 h vs o) :
    ∃ a c b d, cellH h (q.add 0) = some (.int .i64 o.1) ∧ cellH h (q.add 1) = some (.slice a o.2.1.length c) ∧ cellH h (q.add 2) = some (.slice b o.2.2.1.length d) ∧ cellH h (q.add 3) = some (.int .i64 o.2.2.2.1) ∧ cellH h (q.add 4) = some (.int .u64 o.2.2.2.2.1) ∧
      In .i64 o.1 ∧ Rd h a c o.2.1 ∧ Rd h b d o.2.2.1 ∧ In .i64 o.2.2.2.1 ∧ In .u64 o.2.2.2.2.1 := by
  obtain ⟨l1, ⟨e1, w1⟩, l2, ⟨a, c, e2, r2, _⟩, l3, ⟨b, d, e3, r3, _⟩, l4, ⟨e4, w4⟩, l5, ⟨e5, w5⟩, e6⟩ := s
  obtain ⟨v0, v1, v2, v3, v4, rfl⟩ : ∃ v0 v1 v2 v3 v4, vs = [v0, v1, v2, v3, v4] := by
    rw [List.drop_drop] at l2
    rw [List.drop_drop, List.drop_drop] at l3
    rw [List.drop_drop, List.drop_drop, List.drop_drop] at l4
    rw [List.drop_drop, List.drop_drop, List.drop_drop, List.drop_drop] at l5 e6
    have e7 : (vs.drop 5).length = 0 := by
      have : vs.drop (1 + 1 + 1 + 1 + 1) = [] := e6
      rw [show (5 : Nat) = 1 + 1 + 1 + 1 + 1 by rfl, this]; rfl
    simp only [List.length_drop] at l1 l2 l3 l4 l5 e7
    match vs, l1, l2, l3, l4, l5, e7 with
    | [v0, v1, v2, v3, v4], _, _, _, _, _, _ => exact ⟨v0, v1, v2, v3, v4, rfl⟩
    | [], h1, _, _, _, _, _ => simp at h1
    | [_], _, h2, _, _, _, _ => simp at h2
    | [_, _], _, _, h3, _, _, _ => simp at h3
    | [_, _, _], _, _, _, h4, _, _ => simp at h4
    | [_, _, _, _], _, _, _, _, h5, _ => simp at h5
    | _ :: _ :: _ :: _ :: _ :: _ :: _, _, _, _, _, _, h7 => simp at h7
  simp only [List.take, List.drop, List.cons.injEq, and_true] at e1 e2 e3 e4 e5
  subst e1; subst e2; subst e3; subst e4; subst e5
  exact ⟨a, c, b, d, rl.1, rl.2.1, rl.2.2.1, rl.2.2.2.1, rl.2.2.2.2.1, in_wf w1, r2, r3, in_wf w4, in_wf w5⟩
theorem list_doc (k : Int) (xs ys : List Nat) (n w : Int) : gnomonlaw01_list.v k xs ys n w = gnomonlaw01_doc.v k xs ys n w := rfl
theorem told_same (p : List Nat) (e : Int) : gnomonlaw01_told.v p e p e = true := by
  simp [gnomonlaw01_told.v, gnomonlaw01_told.D1.v]
/-- Every call's answer is the document's. -/
theorem plays_true (k : Int) (xs ys : List Nat) (n w : Int) : gnomonlaw01_plays.v k xs ys n w = true := by
  have asks : gnomonlaw01_asks.v k xs ys n w = true := by
    simp [gnomonlaw01_asks.v, gnomonlaw01_asks.D1.v]
  simp only [gnomonlaw01_plays.v, gnomonlaw01_plays.D1.v, asks, list_doc, told_same, letV, beq_self_eq_true, cond_true, Bool.cond_self]
theorem all_walk {R : Rt} {a : Option Addr} {c : Nat} {os : List Op1} {h0 : Hp} {lo hi : Int} (r : RdOps1 h0 a c os) (tb : Tab h0) (post : ∀ h', Keep h0 h' → R (.bool true) h') :
    ∀ (k i : Nat) (h : Hp), i + k = os.length → Keep h0 h → gnomonlaw01_all.L4.t R (k + 1) lo hi a os.length c (os.length : Int) (i : Int) h := by
  have h1 : os.length ≤ 1954687338211 := r.len
  intro k
  induction k with
  | zero =>
    intro i h hik kp
    unfold gnomonlaw01_all.L4.t gnomonlaw01_all.D5.t
    refine c_dec (fun hb => absurd hb (by omega)) fun _ => ?_
    unfold gnomonlaw01_all.D2.t
    exact post _ kp
  | succ k ih =>
    intro i h hik kp
    unfold gnomonlaw01_all.L4.t gnomonlaw01_all.D5.t
    refine c_dec (fun _ => ?_) fun hb => absurd (by omega) hb
    obtain ⟨o, ho⟩ : ∃ o, os[i]? = some o := ⟨os[i]'(by omega), by simp⟩
    refine at_list (r.keep kp) rfl rfl ho fun q vs hvs rl s => ?_
    obtain ⟨a1, c1, b1, d1, e0, e1, e2, e3, e4, i0, r1, r2, i3, i4⟩ := op1_open rl s
    refine ldC e0 ?_
    refine gInt_intro rfl ?_
    refine ldC e1 ?_
    refine gSlice_intro rfl ?_
    refine ldC e2 ?_
    refine gSlice_intro rfl ?_
    refine ldC e3 ?_
    refine gInt_intro rfl ?_
    refine ldC e4 ?_
    refine gInt_intro rfl ?_
    refine boxV fun h2 o2 k2 => ?_
    refine stV o2 (Nat.le_of_ble_eq_true rfl) fun h3 o3 k3 => ?_
    refine stV o3 (Nat.le_of_ble_eq_true rfl) fun h4 o4 k4 => ?_
    refine stV o4 (Nat.le_of_ble_eq_true rfl) fun h5 o5 k5 => ?_
    refine stV o5 (Nat.le_of_ble_eq_true rfl) fun h6 o6 k6 => ?_
    refine stV o6 (Nat.le_of_ble_eq_true rfl) fun h7 o7 k7 => ?_
    have kh : Keep h h7 := (k3.trans (k4.trans (k5.trans (k6.trans k7)))).keep k2 (Nat.le_refl _)
    have k07 := kp.trans kh
    have next : ∀ h', Keep h0 h' → letK (IntKind.i64.wrap ((i : Int) + 1)) fun n36 => gnomonlaw01_all.L4.t R (k + 1) lo hi a os.length c (os.length : Int) n36 h' := by
      intro h' k'
      refine k_i64 ((i + 1 : Nat) : Int) (by omega) (by omega) (by omega) ?_
      exact ih (i + 1) h' (by omega) k'
    refine ldV o7 rfl ?_
    refine gInt_intro rfl ?_
    refine c_dec (fun _ => ?_) fun _ => next _ k07
    refine ldV o7 rfl ?_
    refine gInt_intro rfl ?_
    refine c_dec (fun _ => ?_) fun _ => next _ k07
    refine ldV o7 rfl ?_
    refine gInt_intro rfl ?_
    refine ldV o7 rfl ?_
    refine gSlice_intro rfl ?_
    refine ldV o7 rfl ?_
    refine gSlice_intro rfl ?_
    refine ldV o7 rfl ?_
    refine gInt_intro rfl ?_
    refine ldV o7 rfl ?_
    refine gInt_intro rfl ?_
    refine hc_intro (gnomonlaw01_plays.hv i0 (r1.keep kh) rfl (r2.keep kh) rfl i3 i4 (tb.keep k07)) fun v h8 ⟨k8, e8⟩ => ?_
    rw [plays_true] at e8
    subst e8
    refine gBool_intro rfl ?_
    exact next _ (k07.trans k8)
theorem gnomonlaw01_all.hv {h : Hp} {a : Option Addr} {c l : Nat} {os : List Op1} (r : RdOps1 h a c os) (e : l = os.length) {lo hi : Int} (i : In .i64 lo) (j : In .i64 hi) (tb : Tab h) :
    HC gnomonlaw01_all.id #[.slice a l c, .int .i64 lo, .int .i64 hi] h fun v h' => Keep h h' ∧ sBool h h' v true := by
  subst e
  refine gnomonlaw01_all.ok ?_
  unfold gnomonlaw01_all.t gnomonlaw01_all.D1.t gnomonlaw01_all.D3.t
  refine ⟨os.length + 1, ?_⟩
  exact all_walk r tb (fun h' k => ⟨k, rfl⟩) os.length 0 h (by omega) (Keep.refl _)
end Go.Proofs.YtnbpbojcjihboaaDoor.G
