/- What mark, Spare, Kept and Over answer. -/
import Derived.Test.YtnbpbojcjihboaaDoorNatSpec
import Derived.Test.YtnbpbojcjihboaaDoorGvDig
namespace Go.Proofs.YtnbpbojcjihboaaDoor.G
open Go.Gv
set_option maxRecDepth 100000
/-- The word of the place j of the list i. -/
def markI (i j : Int) : Int := IntKind.u64.wrap (IntKind.u64.wrap (11944390636716687360 + shlI .u64 (IntKind.u64.wrap (IntKind.i64.wrap (i + 1))) 24) + IntKind.u64.wrap j)
def markN (i j : Int) : Nat := (markI i j).toNat
theorem markN_lt (i j : Int) : markN i j < 18446744073709551616 := by
  have := in_u64.mp (in_wrap .u64 (IntKind.u64.wrap (11944390636716687360 + shlI .u64 (IntKind.u64.wrap (IntKind.i64.wrap (i + 1))) 24) + IntKind.u64.wrap j))
  unfold markN markI; omega
theorem markN_eq (i j : Int) : markI i j = ((markN i j : Nat) : Int) := by
  have := in_u64.mp (in_wrap .u64 (IntKind.u64.wrap (11944390636716687360 + shlI .u64 (IntKind.u64.wrap (IntKind.i64.wrap (i + 1))) 24) + IntKind.u64.wrap j))
  unfold markN markI; omega
theorem mark_hq (i j : Int) (h : Hp) : HC gnomonref01_mark.id #[.int .i64 i, .int .i64 j] h fun v h' => v = .int .u64 ((markN i j : Nat) : Int) ∧ h' = h := by
  refine gnomonref01_mark.ok ?_
  unfold gnomonref01_mark.t gnomonref01_mark.D1.t
  refine ⟨⟨by decide, ⟨⟨⟨⟨?_, rfl⟩⟩⟩⟩⟩⟩
  rw [← markN_eq]; rfl
theorem mark_intro (i j : Int) {h : Hp} {K : Int → Prop} (g : K ((markN i j : Nat) : Int)) : HQC gnomonref01_mark.id #[.int .i64 i, .int .i64 j] h fun v => gInt .u64 v K :=
  ⟨_, mark_hq i j h, gInt_intro rfl g⟩
/-- The marks behind a list. -/
def marks (n : Nat) : List Nat := (List.range 80).map fun k => markN (-1) ((n + k : Nat) : Int)
theorem marks_len (n : Nat) : (marks n).length = 80 := by simp [marks]
theorem marks_words (n : Nat) : ∀ x ∈ marks n, x < 18446744073709551616 := by
  intro x hx
  obtain ⟨k, _, rfl⟩ := List.mem_map.mp hx
  exact markN_lt _ _
theorem marks_get {n k : Nat} (hk : k < 80) : (marks n)[k]? = some (markN (-1) ((n + k : Nat) : Int)) := by
  simp [marks, hk]
theorem Spare_spec {a : Option Addr} {c l : Nat} {xs : List Nat} {h : Hp} (r : Rd h a c xs) (hl : l = xs.length) (hb : xs.length ≤ 35184372088700) :
    HC gnomonref01_Spare.id #[.slice a l c] h fun v h' => Keep h h' ∧ ∃ q, h.size ≤ q ∧ v = .tuple #[.slice (some ⟨q, 0, none⟩) xs.length (xs.length + 80), .slice (some ⟨q, 0, none⟩) (xs.length + 80) (xs.length + 80)] ∧ Own h' q (xs ++ marks xs.length) := by
  subst hl
  refine gnomonref01_Spare.ok ?_
  unfold gnomonref01_Spare.t gnomonref01_Spare.D1.t
  refine k_i64 ((xs.length + 80 : Nat) : Int) (by omega) (by omega) (by omega) ?_
  refine mk_intro (xs.length + 80) rfl rfl rfl rfl (by omega) fun h1 o1 k1 => ?_
  refine cp_intro o1 (r.keep k1) (by simp; omega) rfl (Nat.le_refl _) k1 fun h2 o2 k2 => ?_
  have e2 : List.take (List.replicate (xs.length + 80) 0).length xs ++ List.drop xs.length (List.replicate (xs.length + 80) 0) = xs ++ ((marks xs.length).take 0 ++ List.replicate (80 - 0) 0) := by
    rw [List.length_replicate, List.take_of_length_le (by omega), List.drop_replicate, List.take_zero, List.nil_append]
    congr 2; omega
  rw [e2] at o2
  unfold gnomonref01_Spare.D3.t
  refine ⟨80 + 1, ?_⟩
  have go : ∀ (k j : Nat) (h3 : Hp), j + k = 80 → Keep h h3 → Own h3 h.size (xs ++ ((marks xs.length).take j ++ List.replicate (80 - j) 0)) →
      gnomonref01_Spare.L4.t (fun v h' => Keep h h' ∧ ∃ q, h.size ≤ q ∧ v = .tuple #[.slice (some ⟨q, 0, none⟩) xs.length (xs.length + 80), .slice (some ⟨q, 0, none⟩) (xs.length + 80) (xs.length + 80)] ∧ Own h' q (xs ++ marks xs.length)) (k + 1) a xs.length c (some ⟨h.size, 0, none⟩) (xs.length + 80) (xs.length + 80) ((xs.length + j : Nat) : Int) h3 := by
    intro k
    induction k with
    | zero =>
      intro j h3 hjk kp o
      unfold gnomonref01_Spare.L4.t gnomonref01_Spare.D5.t
      refine c_dec (fun hb => absurd hb (by omega)) fun _ => ?_
      have ej : j = 80 := by omega
      subst ej
      rw [List.take_of_length_le (by rw [marks_len]; omega), Nat.sub_self, List.replicate_zero, List.append_nil] at o
      unfold gnomonref01_Spare.D2.t
      refine sl_to rfl (by omega) ?_
      exact ⟨kp, h.size, Nat.le_refl _, rfl, o⟩
    | succ k ih =>
      intro j h3 hjk kp o
      unfold gnomonref01_Spare.L4.t gnomonref01_Spare.D5.t
      refine c_dec (fun _ => ?_) fun hb => absurd (by omega) hb
      refine mark_intro _ _ ?_
      refine put_intro o (j := xs.length + j) rfl (by simp [marks_len]; omega) (by simp [marks_len]; omega) rfl (markN_lt _ _) fun o4 => ?_
      refine k_i64 ((xs.length + (j + 1) : Nat) : Int) (by omega) (by omega) (by omega) ?_
      refine ih (j + 1) _ (by omega) (KeepB.keep kp (KeepB.set _ _ _ _) (Nat.le_refl _)) ?_
      have e4 : (xs ++ ((marks xs.length).take j ++ List.replicate (80 - j) 0)).set (xs.length + j) (markN (-1) ((xs.length + j : Nat) : Int)) = xs ++ ((marks xs.length).take (j + 1) ++ List.replicate (80 - (j + 1)) 0) := by
        have hlen : ((marks xs.length).take j).length = j := by rw [List.length_take, marks_len]; omega
        rw [List.set_append_right _ _ (by omega), Nat.add_sub_cancel_left, List.set_append_right _ _ (by omega), hlen, Nat.sub_self, show 80 - j = 80 - (j + 1) + 1 by omega, List.replicate_succ, List.set_cons_zero, List.take_add_one, marks_get (by omega)]
        simp
      rw [← e4]; exact o4
  exact go 80 0 h2 (by omega) k2 o2
theorem kept_get {xs : List Nat} {j : Nat} (hj : j < xs.length + 80) : (xs ++ marks xs.length).getD j 0 = if j < xs.length then xs.getD j 0 else markN (-1) ((j : Nat) : Int) := by
  split
  · rename_i h
    simp [List.getD, List.getElem?_append_left h]
  · rename_i h
    have : (marks xs.length)[j - xs.length]? = some (markN (-1) ((xs.length + (j - xs.length) : Nat) : Int)) := marks_get (by omega)
    rw [show xs.length + (j - xs.length) = j by omega] at this
    simp [List.getD, List.getElem?_append_right (show xs.length ≤ j by omega), this]
theorem Kept_hq {a b : Option Addr} {c d l m : Nat} {xs : List Nat} {h : Hp} (r : Rd h a c (xs ++ marks xs.length)) (s : Rd h b d xs) (hl : l = xs.length + 80) (hm : m = xs.length) :
    HC gnomonref01_Kept.id #[.slice a l c, .slice b m d] h fun v h' => v = .bool true ∧ h' = h := by
  subst hl; subst hm
  have h1 := r.len
  rw [List.length_append, marks_len] at h1
  refine gnomonref01_Kept.ok ?_
  unfold gnomonref01_Kept.t gnomonref01_Kept.D1.t
  refine k_i64 ((xs.length + 80 : Nat) : Int) (by omega) (by omega) (by omega) ?_
  refine c_ne (fun hh => absurd rfl hh) fun _ => ?_
  unfold gnomonref01_Kept.D3.t
  refine ⟨xs.length + 80 + 1, ?_⟩
  have hlf : xs.length + 80 = (xs ++ marks xs.length).length := by rw [List.length_append, marks_len]
  have go : ∀ (k j : Nat), j + k = xs.length + 80 → gnomonref01_Kept.L4.t (fun v h' => v = .bool true ∧ h' = h) (k + 1) a (xs.length + 80) c b xs.length d (j : Int) h := by
    intro k
    induction k with
    | zero =>
      intro j hjk
      unfold gnomonref01_Kept.L4.t gnomonref01_Kept.D5.t
      refine c_dec (fun hb => absurd hb (by omega)) fun _ => ?_
      exact ⟨rfl, rfl⟩
    | succ k ih =>
      intro j hjk
      unfold gnomonref01_Kept.L4.t gnomonref01_Kept.D5.t
      refine c_dec (fun _ => ?_) fun hb => absurd (by omega) hb
      have hg := kept_get (xs := xs) (j := j) (by omega)
      refine c_dec (fun hlt => ?_) fun hge => ?_
      · refine at_intro r (j := j) rfl hlf (by omega) ?_
        refine at_intro s (j := j) rfl rfl (by omega) ?_
        rw [hg, if_pos (by omega)]
        refine c_ne (fun hh => absurd rfl hh) fun _ => ?_
        refine c_dec (fun hb => absurd hb (by omega)) fun _ => ?_
        refine k_i64 ((j + 1 : Nat) : Int) (by omega) (by omega) (by omega) ?_
        exact ih (j + 1) (by omega)
      · refine c_dec (fun _ => ?_) fun hb => absurd (by omega) hb
        refine at_intro r (j := j) rfl hlf (by omega) ?_
        refine mark_intro _ _ ?_
        rw [hg, if_neg (by omega)]
        refine c_ne (fun hh => absurd rfl hh) fun _ => ?_
        refine k_i64 ((j + 1 : Nat) : Int) (by omega) (by omega) (by omega) ?_
        exact ih (j + 1) (by omega)
  exact go (xs.length + 80) 0 (by omega)
theorem Kept_intro {a b : Option Addr} {c d l m : Nat} {xs : List Nat} {h : Hp} (r : Rd h a c (xs ++ marks xs.length)) (s : Rd h b d xs) (hl : l = xs.length + 80) (hm : m = xs.length) {K : Bool → Prop} (g : K true) :
    HQC gnomonref01_Kept.id #[.slice a l c, .slice b m d] h fun v => gBool v K := ⟨_, Kept_hq r s hl hm, gBool_intro rfl g⟩
theorem not_u64 {x : Int} {K : Int → Prop} (g : ∀ n : Nat, n < 18446744073709551616 → K (n : Int)) : letK (notI .u64 x) K := by
  refine ⟨?_⟩
  have := in_u64.mp (show In .u64 (notI .u64 x) from in_wrap _ _)
  obtain ⟨n, hn⟩ := Int.eq_ofNat_of_zero_le this.1
  rw [hn]; exact g n (by omega)
theorem Over_spec {q l c : Nat} {zs : List Nat} {h : Hp} (o : Own h q zs) (hl : l = zs.length) :
    HC gnomonref01_Over.id #[.slice (some ⟨q, 0, none⟩) l c] h fun v h' => v = .tuple #[] ∧ KeepB q h h' ∧ ∃ ws, Own h' q ws ∧ ws.length = zs.length := by
  subst hl
  have h1 := o.len
  refine gnomonref01_Over.ok ?_
  unfold gnomonref01_Over.t gnomonref01_Over.D1.t
  refine ⟨zs.length + 1, ?_⟩
  have go : ∀ (k j : Nat) (ws : List Nat) (h2 : Hp), j + k = zs.length → ws.length = zs.length → KeepB q h h2 → Own h2 q ws → gnomonref01_Over.L2.t (fun v h' => v = .tuple #[] ∧ KeepB q h h' ∧ ∃ ws, Own h' q ws ∧ ws.length = zs.length) (k + 1) (some ⟨q, 0, none⟩) zs.length c (j : Int) h2 := by
    intro k
    induction k with
    | zero =>
      intro j ws h2 hjk hw kp o2
      unfold gnomonref01_Over.L2.t gnomonref01_Over.D3.t
      refine c_dec (fun hb => absurd hb (by omega)) fun _ => ?_
      exact ⟨rfl, kp, ws, o2, hw⟩
    | succ k ih =>
      intro j ws h2 hjk hw kp o2
      unfold gnomonref01_Over.L2.t gnomonref01_Over.D3.t
      refine c_dec (fun _ => ?_) fun hb => absurd (by omega) hb
      refine mark_intro _ _ ?_
      refine not_u64 fun n hn => ?_
      refine put_intro o2 (j := j) rfl hw.symm (by omega) rfl hn fun o3 => ?_
      refine k_i64 ((j + 1 : Nat) : Int) (by omega) (by omega) (by omega) ?_
      exact ih (j + 1) _ _ (by omega) (by simp [hw]) (kp.trans (KeepB.set _ _ _ _)) o3
  exact go zs.length 0 zs h (by omega) rfl (KeepB.refl _ _) o
end Go.Proofs.YtnbpbojcjihboaaDoor.G
