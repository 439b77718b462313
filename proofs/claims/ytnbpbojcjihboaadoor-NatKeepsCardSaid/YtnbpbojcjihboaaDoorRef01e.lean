/- What the digits' calls of the reference answer: DivMod. -/
import Derived.Test.YtnbpbojcjihboaaDoorRef01d
namespace Go.Proofs.YtnbpbojcjihboaaDoor.G
open Go.Gv
set_option maxRecDepth 100000
set_option linter.unusedVariables false
/-- quotient and rest, as the reference gives them. -/
def dmS (X Y : Nat) : Nat × Nat := if Y = 0 then (0, 0) else (X / Y, X % Y)
theorem drop_small {us : List Nat} {k V : Nat} (hV : V ≤ 2 ^ (32 * k)) (h : D.val us < V) (hw : D.Words us) : D.val (us.drop k) = 0 ∧ D.val (us.take k) = D.val us := by
  have e : D.val us = D.val (us.take k) + 2 ^ (32 * k) * D.val (us.drop k) := by
    by_cases hk : k ≤ us.length
    · conv => lhs; rw [← List.take_append_drop k us]
      rw [D.val_append, List.length_take, Nat.min_eq_left hk]
    · rw [List.take_of_length_le (by omega), List.drop_of_length_le (by omega)]; simp [D.val]
  have h0 : D.val (us.drop k) = 0 := by
    rw [D.val_drop hw]; exact Nat.div_eq_of_lt (by omega)
  rw [h0] at e
  exact ⟨h0, by omega⟩
theorem DivMod_loop {R : Rt} {b : Option Addr} {d n bu bq lu cu Xs : Nat} {sx : Int} {ys us0 rest : List Nat} {hv : Hp} (s : RdE eU32 hv b d ys) (hn : ys.length = n) (hu : hv.size ≤ bu) (hq : hv.size ≤ bq) (hne : bu ≠ bq) (hnn : n < 1099511627776) (hn0 : 0 < n) (htop : ys.getD (n - 1) 0 ≠ 0) (hlu : lu < 1099511627776) (hcu : lu ≤ cu) (hnlu : n < lu)
    (hX : D.val us0 = Xs) (hl0 : us0.length = lu) (hw0 : D.Words us0)
    (post : ∀ h us qs, us.length = lu → qs.length = lu - n → BlkE eU32 h bu (us ++ rest) → BlkE eU32 h bq qs → Keep hv h → D.val us = Xs % D.val ys → D.val qs = Xs / D.val ys → gnomonref01_DivMod.D3.t R sx (some ⟨bu, 0, none⟩) lu cu (n : Int) (some ⟨bq, 0, none⟩) (lu - n) (lu - n) h) :
    ∀ (j : Nat) (us qs : List Nat) (h : Hp), j ≤ lu - n → us.length = lu → qs.length = lu - n → BlkE eU32 h bu (us ++ rest) → BlkE eU32 h bq qs → Keep hv h → us.take j = us0.take j → D.val (us.drop j) < D.val ys → D.val (qs.drop j) * D.val ys + D.val (us.drop j) = Xs / 2 ^ (32 * j) →
      gnomonref01_DivMod.L5.t R (j + 1) sx b n d (some ⟨bu, 0, none⟩) lu cu (n : Int) (some ⟨bq, 0, none⟩) (lu - n) (lu - n) ((j : Int) - 1) h := by
  have hVlt := D.val_lt s.ok
  rw [hn] at hVlt
  have hV : 0 < D.val ys := by
    rcases Nat.eq_zero_or_pos (D.val ys) with e | e
    · exfalso
      have := getD_top s.ok (m := n - 1) (by omega)
      rw [e, Nat.zero_div] at this; exact htop this.symm
    · exact e
  intro j
  induction j with
  | zero =>
    intro us qs h hj hul hql ou oq kp _ hlt e
    unfold gnomonref01_DivMod.L5.t gnomonref01_DivMod.D6.t
    refine c_dec (fun hb => absurd hb (by omega)) fun _ => ?_
    rw [List.drop_zero] at hlt e
    rw [List.drop_zero, Nat.mul_zero, Nat.pow_zero, Nat.div_one] at e
    refine post h us qs hul hql ou oq kp ?_ ?_
    · rw [← e, Nat.mul_comm, Nat.mul_add_mod, Nat.mod_eq_of_lt hlt]
    · rw [← e, Nat.mul_comm, Nat.mul_add_div hV, Nat.div_eq_of_lt hlt, Nat.add_zero]
  | succ j ih =>
    intro us qs h hj hul hql ou oq kp hlow hlt e
    have huw : D.Words us := fun x hx => ou.ok x (List.mem_append_left _ hx)
    have hqw : D.Words qs := oq.ok
    unfold gnomonref01_DivMod.L5.t gnomonref01_DivMod.D6.t
    refine c_dec (fun _ => ?_) fun hb => absurd (by omega) hb
    refine k_i64 ((j + n : Nat) : Int) (by omega) (by omega) (by omega) ?_
    refine k_i64 ((j + n + 1 : Nat) : Int) (by omega) (by omega) (by omega) ?_
    have ej : (((j + 1 : Nat) : Int) - 1) = (j : Int) := by omega
    rw [ej]
    -- the window
    have sl : ∀ {K : Option Addr → Nat → Nat → Prop}, K (some ⟨bu, j, none⟩) (n + 1) (cu - j) → slK 1 (some ⟨bu, 0, none⟩) lu cu (some (.int .i64 (j : Int))) (some (.int .i64 ((j + n + 1 : Nat) : Int))) none K := by
      intro K g
      refine ⟨⟨by omega, by omega⟩, ⟨by omega, by omega⟩, ?_⟩
      show K (subA (some ⟨bu, 0, none⟩) cu ((j : Int)).toNat 1) ((((j + n + 1 : Nat) : Int)).toNat - ((j : Int)).toNat) (cu - ((j : Int)).toNat)
      have e1 : (((j + n + 1 : Nat) : Int)).toNat - ((j : Int)).toNat = n + 1 := by omega
      have e2 : cu - ((j : Int)).toNat = cu - j := by omega
      have e3 : subA (some ⟨bu, 0, none⟩) cu ((j : Int)).toNat 1 = some ⟨bu, j, none⟩ := by
        unfold subA
        rw [if_neg (by omega), Int.toNat_natCast, Nat.mul_one]
        show some ((⟨bu, 0, none⟩ : Addr).add j) = _
        rw [base_add]
      rw [e1, e2, e3]; exact g
    refine sl ?_
    obtain ⟨A, hA⟩ : ∃ A, A = us.take j := ⟨_, rfl⟩
    obtain ⟨W, hW⟩ : ∃ W, W = (us.drop j).take (n + 1) := ⟨_, rfl⟩
    obtain ⟨B, hB⟩ : ∃ B, B = us.drop (j + (n + 1)) := ⟨_, rfl⟩
    have hsplit : us = A ++ (W ++ B) := by
      rw [hA, hW, hB, ← List.drop_drop, List.take_append_drop, List.take_append_drop]
    have hAl : A.length = j := by rw [hA, List.length_take]; omega
    have hWl : W.length = n + 1 := by rw [hW, List.length_take, List.length_drop]; omega
    have hBl : B.length = lu - (j + (n + 1)) := by rw [hB, List.length_drop]; omega
    -- its value
    have hfull : D.val (us.drop j) = us.getD j 0 + 4294967296 * D.val (us.drop (j + 1)) := D.val_getD_drop us j
    have huj : us.getD j 0 < 4294967296 := getD_ltB (by decide) huw j
    have hUlt : D.val (us.drop j) < 4294967296 * D.val ys := by omega
    have hUlt2 : D.val (us.drop j) < 2 ^ (32 * (n + 1)) := by
      rw [D.pow_step]
      calc D.val (us.drop j) < 4294967296 * D.val ys := hUlt
        _ ≤ 4294967296 * 2 ^ (32 * n) := Nat.mul_le_mul_left _ (Nat.le_of_lt hVlt)
    have hdw : D.Words (us.drop j) := fun x hx => huw x (List.mem_of_mem_drop hx)
    have hds := drop_small (Nat.le_refl _) hUlt2 hdw
    have hWv : D.val W = D.val (us.drop j) := by rw [hW]; exact hds.2
    have hB0 : D.val B = 0 := by
      have := hds.1
      rw [List.drop_drop] at this
      rw [hB]; exact this
    have ou2 : BlkE eU32 h bu (A ++ (W ++ (B ++ rest))) := by
      rw [hsplit] at ou; simpa [List.append_assoc] using ou
    refine hc_intro (digit_spec (U := D.val (us.drop j)) s hn rfl hAl hu hnn hn0 htop hWv hUlt hWl rfl ou2 kp) fun v h2 ⟨e2, k2, W', hW'l, o2, hW'v⟩ => ?_
    subst e2
    refine gInt_intro rfl ?_
    have hq32 : D.val (us.drop j) / D.val ys < 4294967296 := by rw [Nat.div_lt_iff_lt_mul hV]; exact hUlt
    have oq2 : BlkE eU32 h2 bq qs := oq.keepB (fun e => hne e.symm) k2.2
    refine putE0 oq2 (j := j) rfl (by omega) (by omega) rfl hq32 fun oq3 kb3 => ?_
    have k3 := kb3.keep k2.1 hq
    have ou3 := o2.keepB hne kb3
    refine k_i64 ((j : Int) - 1) (by omega) (by omega) (by omega) ?_
    have hUm := Nat.mod_lt (D.val (us.drop j)) hV
    have hUd := Nat.div_add_mod (D.val (us.drop j)) (D.val ys)
    have hdrop : (A ++ (W' ++ B)).drop j = W' ++ B := by rw [← hAl, List.drop_left]
    have hv2 : D.val (W' ++ B) = D.val (us.drop j) % D.val ys := by
      rw [D.val_append, hB0, hW'v]; simp
    have hlow2 : us.take j = us0.take j := by
      have := congrArg (List.take j) hlow
      rwa [List.take_take, List.take_take, Nat.min_eq_left (by omega)] at this
    have hget : us.getD j 0 = us0.getD j 0 := by
      have e1 : (us.take (j + 1)).getD j 0 = us.getD j 0 := by simp [List.getD]
      have e2 : (us0.take (j + 1)).getD j 0 = us0.getD j 0 := by simp [List.getD]
      rw [← e1, ← e2, hlow]
    refine ih (A ++ (W' ++ B)) (qs.set j (D.val (us.drop j) / D.val ys)) _ (by omega) (by simp; omega) (by simp [hql]) (by simpa [List.append_assoc] using ou3) oq3 k3 ?_ ?_ ?_
    · have ht : (A ++ (W' ++ B)).take A.length = A := List.take_left
      rw [hAl] at ht; rw [ht, hA]; exact hlow2
    · rw [hdrop, hv2]; exact hUm
    · rw [hdrop, hv2]
      have ed : (qs.set j (D.val (us.drop j) / D.val ys)).drop j = D.val (us.drop j) / D.val ys :: qs.drop (j + 1) := by
        rw [drop_getD (by simp; omega), List.drop_set_of_lt (by omega)]
        simp [List.getD, show j < qs.length by omega]
      have eX : Xs / 2 ^ (32 * j) = us0.getD j 0 + 4294967296 * (Xs / 2 ^ (32 * (j + 1))) := by
        rw [← hX, ← D.val_drop hw0, ← D.val_drop hw0, D.val_getD_drop]
      rw [ed, eX, ← e, ← hget]
      simp only [D.val]
      rw [Nat.add_mul, Nat.mul_comm (D.val (us.drop j) / D.val ys), Nat.mul_assoc]
      generalize D.val (qs.drop (j + 1)) * D.val ys = P at *
      omega
theorem digs_len_eq {X n : Nat} (h : blen X = 32 * n) (hn : 0 < n) : (D.digs X).length = n := by
  refine Nat.le_antisymm ((D.lim_blen' n).mp (by omega)) ?_
  rcases Nat.lt_or_ge (D.digs X).length n with hh | hh
  · have := (D.lim_blen' (v := X) (n - 1)).mpr (by omega)
    omega
  · exact hh
theorem DivMod_spec {a b : Option Addr} {c d l m X Y : Nat} {h : Hp} (r : RdE eU32 h a c (D.digs X)) (s : RdE eU32 h b d (D.digs Y)) (hl : l = (D.digs X).length) (hm : m = (D.digs Y).length) (hxl : (D.digs X).length ≤ 1099511627770) :
    HC gnomonref01_DivMod.id #[.slice a l c, .slice b m d] h fun v h' => Keep h h' ∧ s2 sD sD h h' v (dmS X Y) := by
  subst hl; subst hm
  have hX : D.val (D.digs X) = X := D.val_digs X
  have hY : D.val (D.digs Y) = Y := D.val_digs Y
  refine gnomonref01_DivMod.ok ?_
  unfold gnomonref01_DivMod.t gnomonref01_DivMod.D1.t
  refine c_eq (fun h0 => ?_) fun h0 => ?_
  · have e : D.digs Y = [] := List.length_eq_zero_iff.mp (by omega)
    have hy0 : Y = 0 := by rw [← hY, e]; rfl
    refine hc_intro (rWord_spec (w := 0) rfl (by decide) h) fun v h1 ⟨k1, s1⟩ => ?_
    refine s1.elim fun a1 c1 g1 => ?_
    refine hc_intro (rWord_spec (w := 0) rfl (by decide) h1) fun v h2 ⟨k2, s2'⟩ => ?_
    refine s2'.elim fun a2 c2 g2 => ?_
    unfold dmS; rw [if_pos hy0]
    exact ⟨k1.trans k2, _, _, rfl, ⟨_, _, rfl, g1.keep k2⟩, ⟨_, _, rfl, g2.from k1.le⟩⟩
  have hy0 : Y ≠ 0 := by
    intro e; subst e; rw [D.digs_zero] at h0; exact h0 rfl
  unfold dmS; rw [if_neg hy0]
  refine hc_intro (rCmp_spec r s rfl rfl) fun v h' ⟨e1, e2⟩ => ?_
  subst e1; subst e2
  refine gInt_intro rfl ?_
  refine c_dec (fun hb => ?_) fun hb => ?_
  · have hlt : X < Y := by unfold cmpI at hb; split at hb <;> (try split at hb) <;> omega
    refine hc_intro (rWord_spec (w := 0) rfl (by decide) h') fun v h1 ⟨k1, s1⟩ => ?_
    refine s1.elim fun a1 c1 g1 => ?_
    refine hc_intro (rNorm_spec (r.keep k1) rfl) fun v h2 ⟨k2, s2'⟩ => ?_
    rw [hX] at s2'
    refine s2'.elim fun a2 c2 g2 => ?_
    rw [Nat.div_eq_of_lt hlt, Nat.mod_eq_of_lt hlt]
    exact ⟨k1.trans k2, _, _, rfl, ⟨_, _, rfl, g1.keep k2⟩, ⟨_, _, rfl, g2.from k1.le⟩⟩
  have hge : Y ≤ X := by unfold cmpI at hb; split at hb <;> (try split at hb) <;> omega
  have hlast : (D.digs Y).getD ((D.digs Y).length - 1) 0 ≠ 0 := by
    rcases trimL_iff.mp (D.trimL_digs Y) with e | e
    · rw [e] at h0; exact absurd rfl h0
    · exact e
  have hwl := s.word32 ((D.digs Y).length - 1)
  have hlenle : (D.digs Y).length ≤ (D.digs X).length := D.digs_len_mono hge
  refine c_eq (fun h1 => ?_) fun h1 => ?_
  · have hl1 : (D.digs Y).length = 1 := by omega
    rw [hl1] at hlast hwl
    have ey : (D.digs Y).getD 0 0 = Y := by
      have e := D.val_getD_drop (D.digs Y) 0
      rw [List.drop_zero, hY, List.drop_of_length_le (by omega)] at e
      simpa [D.val] using e.symm
    have hlast' : (D.digs Y).getD 0 0 ≠ 0 := hlast
    have hwl' : (D.digs Y).getD 0 0 < 4294967296 := hwl
    refine at32 s (j := 0) rfl rfl (by omega) ?_
    rw [ey] at hlast' hwl' ⊢
    refine hc_intro (rDivSmall_spec r rfl rfl hwl' (by omega)) fun v h1 ⟨k1, a1, c1, e, g1⟩ => ?_
    subst e
    rw [hX] at g1 ⊢
    have hml := Nat.mod_lt X (show 0 < Y by omega)
    refine gTup_intro rfl (uncons_intro (gSlice_intro rfl (uncons_intro (gInt_intro rfl (unnil_intro ?_)))))
    refine k_u64 (X % Y) rfl (by omega) ?_
    refine hc_intro (rWord_spec (w := X % Y) rfl (by omega) h1) fun v h2 ⟨k2, s2'⟩ => ?_
    refine s2'.elim fun a2 c2 g2 => ?_
    exact ⟨k1.trans k2, _, _, rfl, ⟨_, _, rfl, g1.keep k2⟩, ⟨_, _, rfl, g2.from k1.le⟩⟩
  -- long division
  refine k_i64 (((D.digs Y).length - 1 : Nat) : Int) (by omega) (by omega) (by omega) ?_
  refine sl_from rfl (by omega) ?_
  obtain ⟨lst, hlst⟩ : ∃ lst, lst = (D.digs Y).getD ((D.digs Y).length - 1) 0 := ⟨_, rfl⟩
  have hdr : (D.digs Y).drop ((D.digs Y).length - 1) = [lst] := by
    rw [drop_getD (by omega), List.drop_of_length_le (by omega), hlst]
  have r1 := s.drop (m := d) ((D.digs Y).length - 1) (by omega) s.cap
  rw [hdr] at r1
  rw [← hlst] at hlast hwl
  have htr : trimL [lst] = [lst] := by simp [trimL, hlast]
  refine hc_intro (rBits_raw r1 (by simp; omega) htr) fun v h'' ⟨e1, e2⟩ => ?_
  subst e1; subst e2
  refine gInt_intro rfl ?_
  have ebl : D.val [lst] = lst := by simp [D.val]
  rw [ebl]
  have hbl : blen lst ≤ 32 := blen_le.mpr hwl
  have hbl0 := blen_pos hlast
  obtain ⟨sh, hsh⟩ : ∃ sh, sh = 32 - blen lst := ⟨_, rfl⟩
  refine k_i64 ((sh : Nat) : Int) (by omega) (by omega) (by omega) ?_
  have hbY := D.blen_trim (D.digs_words Y) (n := (D.digs Y).length - 1) (by omega) (by rw [← hlst]; exact hlast)
  rw [hY, ← hlst] at hbY
  obtain ⟨n, hn⟩ : ∃ n, n = (D.digs Y).length := ⟨_, rfl⟩
  obtain ⟨V, hVe⟩ : ∃ V, V = Y * 2 ^ sh := ⟨_, rfl⟩
  have hblV : blen V = 32 * n := by rw [hVe, blen_mul sh hy0]; omega
  have hVn : (D.digs V).length = n := digs_len_eq hblV (by omega)
  refine hc_intro (rShl_spec s rfl rfl (by omega) (by omega)) fun v hvp ⟨kv, sv⟩ => ?_
  rw [← hVe] at sv
  refine sv.elim fun av cv gv => ?_
  refine hc_intro (rShl_spec (r.keep kv) rfl rfl (by omega) (by omega)) fun v hup ⟨ku, su⟩ => ?_
  refine su.elim fun au cu gu => ?_
  obtain ⟨Xs, hXs⟩ : ∃ Xs, Xs = X * 2 ^ sh := ⟨_, rfl⟩
  rw [← hXs] at gu ⊢
  obtain ⟨mx, hmx⟩ : ∃ mx, mx = (D.digs X).length := ⟨_, rfl⟩
  have hXs_lt : X < 2 ^ (32 * mx) := D.digs_len.mp (Nat.le_of_eq hmx.symm)
  have hsh32 : sh < 32 := by omega
  have hp2 : 2 ^ sh < 4294967296 := pow_lt32 hsh32
  have hul : (D.digs Xs).length ≤ mx + 1 := by rw [hXs]; exact dlen_mul (Nat.le_of_eq hmx.symm) hp2
  have rv := gv.rd
  -- the loop that lengthens u
  have pad : ∀ (k : Nat) (us : List Nat) (a3 : Option Addr) (c3 : Nat) (h3 : Hp), us.length + k = mx + 1 → D.val us = Xs → GotE eU32 hvp h3 a3 c3 us → Keep hvp h3 →
      gnomonref01_DivMod.L9.t (fun v h9 => Keep h'' h9 ∧ s2 sD sD h'' h9 v (X / Y, X % Y)) (k + 1) a (D.digs X).length c ((sh : Nat) : Int) av (D.digs V).length cv a3 us.length c3 h3 := by
    intro k
    induction k with
    | zero =>
      intro us a3 c3 h3 hk eu g3 k3
      unfold gnomonref01_DivMod.L9.t gnomonref01_DivMod.D10.t
      refine c_dec (fun hb => absurd hb (by omega)) fun _ => ?_
      unfold gnomonref01_DivMod.D2.t
      have hlu : us.length = mx + 1 := by omega
      refine k_i64 ((us.length - n : Nat) : Int) (by omega) (by omega) (by omega) ?_
      refine mkE eU32 0 (us.length - n) (us.length - n) rfl ok32 4 rfl (by decide) rfl rfl (Nat.le_refl _) (by omega) fun h4 oq k4 => ?_
      unfold gnomonref01_DivMod.D4.t
      refine k_i64 ((us.length - n : Nat) : Int) (by omega) (by omega) (by omega) ?_
      refine k_i64 (((us.length - n : Nat) : Int) - 1) (by omega) (by omega) (by omega) ?_
      refine ⟨us.length - n + 1, ?_⟩
      rw [Int.toNat_natCast]
      have g4 := g3.keep k4
      rcases g3.here with ⟨e1, _, _⟩ | ⟨bu, rest, e1, hbu, ou, hcu⟩
      · rw [e1] at hlu; simp at hlu
      subst e1
      have hbne : bu ≠ h3.size := Nat.ne_of_lt ou.lt
      have hvtop : (D.digs V).getD ((D.digs V).length - 1) 0 ≠ 0 := by
        rcases trimL_iff.mp (D.trimL_digs V) with e | e
        · rw [e] at hVn; simp at hVn; omega
        · exact e
      have hVlow : 2 ^ (32 * (n - 1)) * 2 ^ sh ≤ V := by
        rw [hVe]
        refine Nat.mul_le_mul_right _ ?_
        rcases Nat.lt_or_ge Y (2 ^ (32 * (n - 1))) with hh | hh
        · have := (D.digs_len (n := Y) (k := n - 1)).mpr hh
          omega
        · exact hh
      have hXsb : Xs < V * 2 ^ (32 * (us.length - n)) := by
        have e3 : 2 ^ (32 * mx) * 2 ^ sh = 2 ^ (32 * (n - 1)) * 2 ^ sh * 2 ^ (32 * (us.length - n)) := by
          rw [Nat.mul_assoc, Nat.mul_comm (2 ^ sh), ← Nat.mul_assoc]
          congr 1
          rw [← Nat.pow_add, show 32 * (n - 1) + 32 * (us.length - n) = 32 * mx by omega]
        calc Xs < 2 ^ (32 * mx) * 2 ^ sh := by rw [hXs]; exact Nat.mul_lt_mul_of_pos_right hXs_lt (Nat.pow_pos (by decide))
          _ = 2 ^ (32 * (n - 1)) * 2 ^ sh * 2 ^ (32 * (us.length - n)) := e3
          _ ≤ V * 2 ^ (32 * (us.length - n)) := Nat.mul_le_mul_right _ hVlow
      have huw : D.Words us := g3.rd.ok
      have hdv : D.val (us.drop (us.length - n)) = Xs / 2 ^ (32 * (us.length - n)) := by rw [D.val_drop huw, eu]
      have hV0 : D.val (D.digs V) = V := D.val_digs V
      have go := DivMod_loop (R := fun v h9 => Keep h'' h9 ∧ s2 sD sD h'' h9 v (X / Y, X % Y)) (Xs := Xs) (us0 := us) (sx := ((sh : Nat) : Int)) (cu := c3) (rest := rest) rv hVn hbu (Nat.le_trans k3.le (Nat.le_refl _)) hbne (by omega) (by omega) (by rw [hVn] at hvtop; exact hvtop) (by omega) g3.cap (by omega) eu rfl huw (fun h9 us9 qs9 hul9 hql9 ou9 oq9 k9 hr9 hq9 => ?_) (us.length - n) us (List.replicate (us.length - n) 0) h4 (Nat.le_refl _) rfl (by simp) (ou.keep k4) oq (k3.trans k4) rfl ?_ ?_
      · rw [hVn]; exact go
      · unfold gnomonref01_DivMod.D3.t
        have hcap := g3.cap
        refine hc_intro (rNorm_spec (oq9.rd' (c := us.length - n) (by show _ ≤ 70368744177656; omega) (by omega)) hql9.symm) fun v h10 ⟨k10, s10⟩ => ?_
        rw [hq9, hV0] at s10
        refine s10.elim fun a10 c10 g10 => ?_
        refine sl_to rfl (by omega) ?_
        rw [hV0] at hr9
        have hVpos : 0 < V := by rw [hVe]; exact Nat.mul_pos (by omega) (Nat.pow_pos (by decide))
        have hrlt : D.val us9 < V := by rw [hr9]; exact Nat.mod_lt _ hVpos
        have hVn2 : V ≤ 2 ^ (32 * n) := Nat.le_of_lt (D.digs_len.mp (Nat.le_of_eq hVn))
        have huw9 : D.Words us9 := fun x hx => ou9.ok x (List.mem_append_left _ hx)
        have hsm := drop_small hVn2 hrlt huw9
        have ru := ((ou9.rd (c := c3) (by show _ ≤ 70368744177656; omega) (by omega)).keep k10).take n
        refine hc_intro (rNorm_spec ru (by rw [List.length_take]; omega)) fun v h11 ⟨k11, s11⟩ => ?_
        rw [hsm.2, hr9] at s11
        refine s11.elim fun a11 c11 g11 => ?_
        refine hc_intro (rShr_spec g11.rd rfl rfl (by omega)) fun v h12 ⟨k12, s12⟩ => ?_
        refine s12.elim fun a12 c12 g12 => ?_
        have ps : 0 < 2 ^ sh := Nat.pow_pos (by decide)
        have eq1 : Xs / V = X / Y := by rw [hXs, hVe, Nat.mul_div_mul_right _ _ ps]
        have er1 : Xs % V / 2 ^ sh = X % Y := by rw [hXs, hVe, Nat.mul_mod_mul_right, Nat.mul_div_cancel _ ps]
        rw [eq1] at g10 ⊢
        rw [er1] at g12 ⊢
        have kbig : Keep h'' h9 := kv.trans k9
        exact ⟨kbig.trans (k10.trans (k11.trans k12)), _, _, rfl, ⟨_, _, rfl, (g10.keep (k11.trans k12)).from kbig.le⟩, ⟨_, _, rfl, g12.from ((kbig.trans k10).trans k11).le⟩⟩
      · rw [hV0, hdv]
        rw [Nat.div_lt_iff_lt_mul (Nat.pow_pos (by decide))]; exact hXsb
      · rw [List.drop_of_length_le (by simp), hdv]; simp [D.val]
    | succ k ih =>
      intro us a3 c3 h3 hk eu g3 k3
      unfold gnomonref01_DivMod.L9.t gnomonref01_DivMod.D10.t
      refine c_dec (fun _ => ?_) fun hb => absurd (by omega) hb
      refine push32 (n := 0) g3 k3 rfl rfl (by decide) (by omega) (by omega) fun a' c' h4 g4 k4 _ => ?_
      have := ih (us ++ [0]) a' c' h4 (by simp; omega) (by rw [D.val_append, eu]; simp [D.val]) g4 k4
      simpa using this
  refine ⟨mx + 1 - (D.digs Xs).length + 1, ?_⟩
  exact pad _ (D.digs Xs) au cu hup (by omega) (D.val_digs Xs) (gu.from (Nat.le_refl _)) ku
end Go.Proofs.YtnbpbojcjihboaaDoor.G
