/- The law NatmulLists of the translation answers true. -/
import Derived.Test.YtidpnpcnjfbjfaaMulProducts
import Derived.Test.YtidpnpcnjfbjfaaRef01k
namespace Go.Proofs.Ytidpnpcnjfbjfaa.G
open Go.Gv
set_option linter.unusedVariables false
set_option maxRecDepth 100000
/-- Copies with marked spare room, each in a block of its own. -/
structure Sp (h : Hp) (bs : List Nat) (xss : List (List Nat)) : Prop where
  len : bs.length = xss.length
  at_ : ∀ (i b : Nat) (x : List Nat), bs[i]? = some b → xss[i]? = some x → Own h b (x ++ marks x.length)
def headsOf (bs : List Nat) (xss : List (List Nat)) : List Sl := List.zipWith (fun b x => (some ⟨b, 0, none⟩, x.length, x.length + 80)) bs xss
def fullsOf (bs : List Nat) (xss : List (List Nat)) : List Sl := List.zipWith (fun b x => (some ⟨b, 0, none⟩, x.length + 80, x.length + 80)) bs xss
theorem _root_.Go.Gv.Own.keepX {h h' : Hp} {b : Nat} {m : Option Addr} {xs : List Nat} (o : Own h b xs) (k : KeepX m h h') (hb : Off b m) : Own h' b xs := by
  obtain ⟨e, g⟩ := o.at_
  exact ⟨o.len, o.words, e, by rw [k.pre b o.lt hb]; exact g⟩
theorem Sp.keep {h h' : Hp} {bs : List Nat} {xss : List (List Nat)} (o : Sp h bs xss) (k : Keep h h') : Sp h' bs xss := ⟨o.len, fun i b x e1 e2 => (o.at_ i b x e1 e2).keep k⟩
theorem Sp.keepX {h h' : Hp} {bs : List Nat} {xss : List (List Nat)} {m : Option Addr} (o : Sp h bs xss) (k : KeepX m h h') (hm : ∀ b ∈ bs, Off b m) : Sp h' bs xss :=
  ⟨o.len, fun i b x e1 e2 => (o.at_ i b x e1 e2).keepX k (hm b (List.mem_of_getElem? e1))⟩
theorem Sp.snoc {h : Hp} {bs : List Nat} {xss : List (List Nat)} {b : Nat} {x : List Nat} (o : Sp h bs xss) (w : Own h b (x ++ marks x.length)) : Sp h (bs ++ [b]) (xss ++ [x]) := by
  refine ⟨by simp [o.len], fun i c y e1 e2 => ?_⟩
  rcases Nat.lt_or_ge i bs.length with hi | hi
  · rw [List.getElem?_append_left hi] at e1
    rw [List.getElem?_append_left (by rw [← o.len]; exact hi)] at e2
    exact o.at_ i c y e1 e2
  · rw [List.getElem?_append_right hi] at e1
    rw [List.getElem?_append_right (by rw [← o.len]; exact hi), ← o.len] at e2
    cases hd : i - bs.length with
    | zero =>
      rw [hd] at e1 e2
      simp at e1 e2
      subst e1; subst e2; exact w
    | succ n => rw [hd] at e1; simp at e1
theorem Sp.heads {h : Hp} {bs : List Nat} {xss : List (List Nat)} (o : Sp h bs xss) : Heads h (headsOf bs xss) xss := by
  refine ⟨by simp [headsOf, o.len], fun i s xs e1 e2 => ?_⟩
  have hi := (List.getElem?_eq_some_iff.mp e2).1
  have hb : bs[i]? = some (bs[i]'(by rw [o.len]; exact hi)) := by simp
  unfold headsOf at e1
  rw [List.getElem?_zipWith, hb, e2] at e1
  simp at e1
  subst e1
  have w := o.at_ i _ xs hb e2
  refine ⟨rfl, ?_⟩
  have := Mine.rd (h := h) (b := bs[i]'(by rw [o.len]; exact hi)) (c := xs.length + 80) (xs := xs) ⟨_, w⟩ (by omega)
  exact this
theorem Sp.fulls {h : Hp} {bs : List Nat} {xss : List (List Nat)} (o : Sp h bs xss) : Heads h (fullsOf bs xss) (xss.map fun x => x ++ marks x.length) := by
  refine ⟨by simp [fullsOf, o.len], fun i s ys e1 e2 => ?_⟩
  rw [List.getElem?_map] at e2
  cases hx : xss[i]? with
  | none => rw [hx] at e2; cases e2
  | some xs =>
    rw [hx] at e2
    simp at e2
    subst e2
    have hi := (List.getElem?_eq_some_iff.mp hx).1
    have hb : bs[i]? = some (bs[i]'(by rw [o.len]; exact hi)) := by simp
    unfold fullsOf at e1
    rw [List.getElem?_zipWith, hb, hx] at e1
    simp at e1
    subst e1
    have w := o.at_ i _ xs hb hx
    refine ⟨by simp [marks_len], w.rd (by simp [marks_len])⟩
theorem _root_.Go.Gv.GotE.keepX {α : Type} {E : El α} {h0 h h' : Hp} {a m : Option Addr} {c : Nat} {xs : List α} (g : GotE E h0 h a c xs) (k : KeepX m h h') (ho : ∀ p, a = some p → Off p.block m) : GotE E h0 h' a c xs := by
  refine ⟨g.len, g.cap, ?_⟩
  rcases g.here with e | ⟨b, rest, e1, e2, o, e3⟩
  · exact Or.inl e
  · exact Or.inr ⟨b, rest, e1, e2, o.keepX k (ho _ e1), e3⟩
theorem _root_.Go.Gv.GotE.blockLt {α : Type} {E : El α} {h0 h : Hp} {a : Option Addr} {c : Nat} {xs : List α} (g : GotE E h0 h a c xs) : ∀ p, a = some p → p.block < h.size := by
  intro p ep
  rcases g.here with ⟨_, e, _⟩ | ⟨b, rest, e1, e2, o, e3⟩
  · rw [e] at ep; cases ep
  · rw [e1] at ep; cases ep; exact o.lt
theorem Sp.lt {h : Hp} {bs : List Nat} {xss : List (List Nat)} (o : Sp h bs xss) : ∀ b ∈ bs, b < h.size := by
  intro b hm
  obtain ⟨j, hj⟩ := List.getElem?_of_mem hm
  have hjl := (List.getElem?_eq_some_iff.mp hj).1
  have hw : xss[j]? = some (xss[j]'(by rw [← o.len]; exact hjl)) := List.getElem?_eq_getElem _
  exact (o.at_ j b _ hj hw).lt
theorem headsOf_snoc {bs : List Nat} {xss : List (List Nat)} (hl : bs.length = xss.length) (b : Nat) (x : List Nat) : headsOf (bs ++ [b]) (xss ++ [x]) = headsOf bs xss ++ [((some ⟨b, 0, none⟩, x.length, x.length + 80) : Sl)] := by
  unfold headsOf; rw [List.zipWith_append hl]; rfl
theorem fullsOf_snoc {bs : List Nat} {xss : List (List Nat)} (hl : bs.length = xss.length) (b : Nat) (x : List Nat) : fullsOf (bs ++ [b]) (xss ++ [x]) = fullsOf bs xss ++ [((some ⟨b, 0, none⟩, x.length + 80, x.length + 80) : Sl)] := by
  unfold fullsOf; rw [List.zipWith_append hl]; rfl
/-- What stands when the copies are made. -/
structure Made (h0 h : Hp) (n : Nat) (Q : Nat) (aF : Option Addr) (cF : Nat) (bs : List Nat) (xss : List (List Nat)) : Prop where
  kp : Keep h0 h
  outer : GotE eSl h0 h (some ⟨Q, 0, none⟩) n (headsOf bs xss)
  fulls : GotE eSl h0 h aF cF (fullsOf bs xss)
  sp : Sp h bs xss
  nd : bs.Nodup
  hQ : Q ∉ bs
  hF : ∀ p, aF = some p → p.block ∉ bs ∧ p.block ≠ Q
  old : ∀ b ∈ bs, h0.size ≤ b
  lt : Q < h.size
theorem slot_len (bs : List Nat) (xss : List (List Nat)) (hl : bs.length = xss.length) : (headsOf bs xss).length = xss.length ∧ (fullsOf bs xss).length = xss.length := by
  simp [headsOf, fullsOf, hl]
theorem build_loop {R : Rt} {a0 a3 a5 : Option Addr} {c0 l3 c3 l5 c5 : Nat} {x4 : Int} {xss : List (List Nat)} {h0 : Hp} {Q : Nat} (r : RdLL h0 a0 c0 xss)
    (g : ∀ h aF cF bs, Made h0 h (xss.length + 2) Q aF cF bs xss → gnomonlaw02_NatmulLists.D2.t R a0 xss.length c0 a3 l3 c3 x4 a5 l5 c5 (some ⟨Q, 0, none⟩) xss.length (xss.length + 2) aF xss.length cF h) :
    ∀ (k i : Nat) (h : Hp) (aF : Option Addr) (cF : Nat) (bs : List Nat), i + k = xss.length → Made h0 h (xss.length + 2) Q aF cF bs (xss.take i) →
      gnomonlaw02_NatmulLists.L21.t R (k + 1) a0 xss.length c0 a3 l3 c3 x4 a5 l5 c5 (some ⟨Q, 0, none⟩) i (xss.length + 2) aF i cF a0 xss.length c0 (xss.length : Int) (i : Int) h := by
  have hlen := r.len
  intro k
  induction k with
  | zero =>
    intro i h aF cF bs hik md
    unfold gnomonlaw02_NatmulLists.L21.t gnomonlaw02_NatmulLists.D22.t
    refine c_dec (fun hb => absurd hb (by omega)) fun _ => ?_
    have ei : i = xss.length := by omega
    subst ei
    rw [List.take_length] at md
    exact g h aF cF bs md
  | succ k ih =>
    intro i h aF cF bs hik md
    unfold gnomonlaw02_NatmulLists.L21.t gnomonlaw02_NatmulLists.D22.t
    refine c_dec (fun _ => ?_) fun hb => absurd (by omega) hb
    have hx : xss[i]? = some (xss[i]'(by omega)) := by simp
    have ht : xss.take (i + 1) = xss.take i ++ [xss[i]'(by omega)] := by rw [List.take_add_one, hx]; rfl
    generalize hxe : (xss[i]'(by omega)) = x at hx ht
    have hsm := r.small x (List.mem_of_getElem? hx)
    have hil : (xss.take i).length = i := by rw [List.length_take]; omega
    have hbl : bs.length = (xss.take i).length := md.sp.len
    obtain ⟨hl1, hl2⟩ := slot_len bs (xss.take i) hbl
    rw [hil] at hl1 hl2
    refine list_at (r.keep md.kp) rfl rfl hx fun a' c' rd => ?_
    refine hc_intro (Spare_spec rd rfl (by omega)) fun v h3 ⟨k3, q, hq, e3, o3⟩ => ?_
    subst e3
    refine gTup_intro rfl (uncons_intro (gSlice_intro rfl (uncons_intro (gSlice_intro rfl (unnil_intro ?_)))))
    have hq0 : h0.size ≤ q := Nat.le_trans md.kp.le hq
    have hqbs : q ∉ bs := fun hm => by
      obtain ⟨j, hj⟩ := List.getElem?_of_mem hm
      have hjl := (List.getElem?_eq_some_iff.mp hj).1
      have hw : (xss.take i)[j]? = some ((xss.take i)[j]'(by omega)) := List.getElem?_eq_getElem _
      have hlt : q < h.size := (md.sp.at_ j q _ hj hw).lt
      omega
    refine boxE eSl [((some ⟨q, 0, none⟩, x.length, x.length + 80) : Sl)] rfl (fun _ _ => trivial) fun h4 o4 k4 => ?_
    have k34 := k3.trans k4
    refine apE3 (h0 := h0) (md.outer.keep k34) (md.kp.trans k34).le (o4.rd' (c := 1) (show 1 ≤ 11728124029610 by decide) (Nat.le_refl 1)) hl1.symm rfl rfl ((none, 0, 0) : Sl) rfl trivial 24 rfl (by decide) (by simp [hl1]; show _ ≤ 11728124029610; omega) (fun hh => by exfalso; simp [hl1] at hh; omega) fun a5' c5' h5 g5 k5 hc5 _ => ?_
    obtain ⟨e5, e6⟩ := hc5 (by simp [hl1]; omega)
    subst e5; subst e6
    refine boxE eSl [((some ⟨q, 0, none⟩, x.length + 80, x.length + 80) : Sl)] rfl (fun _ _ => trivial) fun h6 o6 k6 => ?_
    have qF : ∀ p, aF = some p → p.block ≠ Q := fun p e => (md.hF p e).2
    have k56 : KeepX (some ⟨Q, 0, none⟩) h4 h6 := k5.trans (k6.toX _)
    have kp6 : Keep h0 h6 := k56.keep (md.kp.trans k34) (GotE.offs g5)
    have gF : GotE eSl h0 h6 aF cF (fullsOf bs (xss.take i)) := (md.fulls.keep k34).keepX k56 fun p ep p' ep' => by cases ep'; exact fun e => qF p ep e.symm
    refine apE3 (h0 := h0) gF kp6.le (o6.rd' (c := 1) (show 1 ≤ 11728124029610 by decide) (Nat.le_refl 1)) hl2.symm rfl rfl ((none, 0, 0) : Sl) rfl trivial 24 rfl (by decide) (by simp [hl2]; show _ ≤ 11728124029610; omega) (fun hh => by simp [hl2]; omega) fun a7 c7 h7 g7 k7 _ hw => ?_
    refine k_i64 ((i + 1 : Nat) : Int) (by omega) (by omega) (by omega) ?_
    have e8 : (headsOf bs (xss.take i)).length + [((some ⟨q, 0, none⟩, x.length, x.length + 80) : Sl)].length = i + 1 := by simp [hl1]
    have e9 : (fullsOf bs (xss.take i)).length + [((some ⟨q, 0, none⟩, x.length + 80, x.length + 80) : Sl)].length = i + 1 := by simp [hl2]
    rw [e8, e9]
    refine ih (i + 1) h7 a7 c7 (bs ++ [q]) (by omega) ?_
    rw [ht]
    have hFlt := md.fulls.blockLt
    have hspl := md.sp.lt
    have h34 := k34.le
    have h36 := Nat.le_trans k34.le k56.le
    have offQ : ∀ b, b ≠ Q → Off b (some ⟨Q, 0, none⟩) := fun b hb p ep => by cases ep; exact fun e => hb e.symm
    have offF : ∀ b, (∀ p, aF = some p → p.block ≠ b) → Off b aF := fun b hb p ep => hb p ep
    have qneF : ∀ p, aF = some p → p.block ≠ q := fun p ep => by have := hFlt p ep; omega
    have hQlt := md.lt
    refine ⟨k7.keep kp6 (GotE.offs gF), ?_, ?_, ?_, ?_, ?_, ?_, ?_, ?_⟩
    · rw [headsOf_snoc hbl]
      exact (g5.keep k6).keepX k7 fun p ep => by cases ep; exact offF Q qF
    · rw [fullsOf_snoc hbl]; exact g7
    · refine Sp.snoc (((md.sp.keep k34).keepX k56 fun b hb => offQ b fun e => md.hQ (e ▸ hb)).keepX k7 fun b hb => offF b fun p ep e => (md.hF p ep).1 (e ▸ hb)) ?_
      exact ((o3.keep k4).keepX k56 (offQ q (by omega))).keepX k7 (offF q qneF)
    · rw [List.nodup_append]
      refine ⟨md.nd, by simp, fun x hx y hy => ?_⟩
      simp at hy; subst hy
      exact fun e => hqbs (e ▸ hx)
    · intro hm
      rcases List.mem_append.mp hm with h1 | h1
      · exact md.hQ h1
      · simp at h1; omega
    · intro p ep
      rcases hw with e | ⟨b, e, hb⟩
      · rw [e] at ep
        refine ⟨fun hm => ?_, qF p ep⟩
        rcases List.mem_append.mp hm with h1 | h1
        · exact (md.hF p ep).1 h1
        · simp at h1; exact qneF p ep h1
      · rw [e] at ep
        cases ep
        refine ⟨fun hm => ?_, ?_⟩
        · rcases List.mem_append.mp hm with h1 | h1
          · have := hspl _ h1
            have hb' : h6.size ≤ b := hb
            have h1' : b < h.size := this
            omega
          · simp at h1
            have hq6 : q < h6.size := Nat.lt_of_lt_of_le o3.lt (Nat.le_trans k4.le k56.le)
            omega
        · show b ≠ Q
          omega
    · intro b hb
      rcases List.mem_append.mp hb with h1 | h1
      · exact md.old b h1
      · simp at h1; omega
    · exact Nat.lt_of_lt_of_le hQlt (Nat.le_trans h36 k7.le)
theorem heads_at {h : Hp} {a : Option Addr} {c n : Nat} {hs : List Sl} {xss : List (List Nat)} (r : RdE eSl h a c hs) (o : Heads h hs xss) (hn : n = hs.length) {i : Int} {j : Nat} (hi : i = (j : Int)) {xs : List Nat} (hx : xss[j]? = some xs) {K : Option Addr → Nat → Nat → Prop}
    (g : ∀ a' c', Rd h a' c' xs → K a' xs.length c') : idxK a n i 1 fun q => ldK h q fun v => gSlice v K := by
  have hj : j < hs.length := by rw [o.len]; exact (List.getElem?_eq_some_iff.mp hx).1
  have hs' : hs[j]? = some (hs[j]'hj) := List.getElem?_eq_getElem _
  obtain ⟨e, rd⟩ := o.at_ j _ xs hs' hx
  refine atSl r hi hn hs' ?_
  rw [e]; exact g _ _ rd
/-- The inner walk: each copy reads as its original, its spare room is as it was. -/
theorem look_loop {R : Rt} {N6 : Option Addr → Nat → Nat → Option Addr → Nat → Nat → Int → Option Addr → Nat → Nat → Option Addr → Nat → Nat → Option Addr → Nat → Nat → Int → Option Addr → Nat → Nat → Int → Hp → Prop}
    {a0 a3 a5 aO aF a13 : Option Addr} {c0 l3 c3 l5 c5 cO cF l13 c13 : Nat} {x4 x12 x60 : Int} {xss : List (List Nat)} {bs : List Nat} {h : Hp} (r : RdLL h a0 c0 xss) (ro : RdE eSl h aO cO (headsOf bs xss)) (rf : RdE eSl h aF cF (fullsOf bs xss)) (sp : Sp h bs xss)
    (g : gnomonlaw02_NatmulLists.D10.t R N6 a0 xss.length c0 a3 l3 c3 x4 a5 l5 c5 aO xss.length cO aF xss.length cF x12 a13 l13 c13 x60 h) :
    ∀ (k i : Nat), i + k = xss.length → gnomonlaw02_NatmulLists.L12.t R N6 (k + 1) a0 xss.length c0 a3 l3 c3 x4 a5 l5 c5 aO xss.length cO aF xss.length cF x12 a13 l13 c13 x60 a0 xss.length c0 (xss.length : Int) (i : Int) h := by
  have hlen := r.len
  obtain ⟨hl1, hl2⟩ := slot_len bs xss sp.len
  intro k
  induction k with
  | zero =>
    intro i hik
    unfold gnomonlaw02_NatmulLists.L12.t gnomonlaw02_NatmulLists.D13.t
    refine c_dec (fun hb => absurd hb (by omega)) fun _ => g
  | succ k ih =>
    intro i hik
    unfold gnomonlaw02_NatmulLists.L12.t gnomonlaw02_NatmulLists.D13.t
    refine c_dec (fun _ => ?_) fun hb => absurd (by omega) hb
    have hx : xss[i]? = some (xss[i]'(by omega)) := by simp
    generalize hxe : (xss[i]'(by omega)) = x at hx
    have hx2 : (xss.map fun x => x ++ marks x.length)[i]? = some (x ++ marks x.length) := by rw [List.getElem?_map, hx]; rfl
    refine list_at r rfl rfl hx fun a1 c1 r1 => ?_
    refine heads_at ro sp.heads hl1.symm rfl hx fun a2 c2 r2 => ?_
    refine Same_intro r2 r1 rfl rfl ?_
    refine c_not (fun hh => absurd hh (by simp)) fun _ => ?_
    refine heads_at rf sp.fulls hl2.symm rfl hx2 fun a4 c4 r4 => ?_
    refine Kept_intro r4 r1 (by rw [List.length_append, marks_len]) rfl ?_
    refine c_not (fun hh => absurd hh (by simp)) fun _ => ?_
    refine k_i64 ((i + 1 : Nat) : Int) (by omega) (by omega) (by omega) ?_
    exact ih (i + 1) (by omega)
/-- Two rounds of asking. -/
theorem rounds_loop {R : Rt} {a0 a3 a5 aO aF a13 : Option Addr} {c0 l3 c3 c5 cO cF l13 c13 : Nat} {xss : List (List Nat)} {bs : List Nat} {hB h1 : Hp} {bh : List Sl} (kB : Keep hB h1) (r : RdLL h1 a0 c0 xss) (ro : RdE eSl h1 aO cO (headsOf bs xss)) (rf : RdE eSl h1 aF cF (fullsOf bs xss)) (sp : Sp h1 bs xss)
    (rw_ : Rd h1 a3 c3 (prodS xss).1) (hl3 : l3 = (prodS xss).1.length) (rm : Rd h1 a5 c5 [41, 42]) (rb : RdE eSl h1 a13 c13 bh) (hl13 : l13 = bh.length) (hb1 : bh[xss.length]? = some (a5, 2, c5)) (hb2 : bh[xss.length + 1]? = some (a5, 2, c5))
    (g : ∀ h, Keep h1 h → gnomonlaw02_NatmulLists.D3.t R a0 xss.length c0 aO xss.length cO (xss.length : Int) h) :
    ∀ (k i : Nat) (h : Hp), i + k = 2 → Keep h1 h → gnomonlaw02_NatmulLists.L6.t R (k + 1) a0 xss.length c0 a3 l3 c3 (prodS xss).2 a5 2 c5 aO xss.length cO aF xss.length cF (xss.length : Int) a13 l13 c13 (i : Int) h := by
  subst hl3; subst hl13
  have hlen := r.len
  intro k
  induction k with
  | zero =>
    intro i h hik kp
    unfold gnomonlaw02_NatmulLists.L6.t gnomonlaw02_NatmulLists.D7.t
    refine c_dec (fun hb => absurd hb (by omega)) fun _ => g h kp
  | succ k ih =>
    intro i h hik kp
    unfold gnomonlaw02_NatmulLists.L6.t gnomonlaw02_NatmulLists.D7.t
    refine c_dec (fun _ => ?_) fun hb => absurd (by omega) hb
    unfold gnomonlaw02_NatmulLists.D9.t
    have rl : RdLL h aO cO xss := (sp.keep kp).heads.rdLL (ro.keep kp) hlen r.small
    refine hc_intro (Product_spec rl rfl) fun v h2 ⟨k2, an⟩ => ?_
    refine an.elim fun a6 c6 r6 => ?_
    have kp2 := kp.trans k2
    refine c_ne (fun hh => absurd rfl hh) fun _ => ?_
    refine Same_intro r6 (rw_.keep kp2) rfl rfl ?_
    refine c_not (fun hh => absurd hh (by simp)) fun _ => ?_
    refine c_ne (fun hh => absurd rfl hh) fun _ => ?_
    unfold gnomonlaw02_NatmulLists.D11.t
    refine ⟨xss.length + 1, ?_⟩
    refine look_loop (r.keep kp2) (ro.keep kp2) (rf.keep kp2) (sp.keep kp2) ?_ xss.length 0 (by omega)
    unfold gnomonlaw02_NatmulLists.D10.t
    refine atSl (rb.keep kp2) rfl rfl hb1 ?_
    refine Same_intro (rm.keep kp2) (rm.keep kp2) (by rfl) (by rfl) ?_
    refine c_not (fun hh => absurd hh (by simp)) fun _ => ?_
    refine k_i64 ((xss.length + 1 : Nat) : Int) (by omega) (by omega) (by omega) ?_
    refine atSl (rb.keep kp2) rfl rfl hb2 ?_
    refine Same_intro (rm.keep kp2) (rm.keep kp2) (by rfl) (by rfl) ?_
    refine c_not (fun hh => absurd hh (by simp)) fun _ => ?_
    unfold gnomonlaw02_NatmulLists.D8.t
    refine k_i64 ((i + 1 : Nat) : Int) (by omega) (by omega) (by omega) ?_
    exact ih (i + 1) h2 (by omega) kp2
/-- One word of the last copy written over: another question. -/
theorem lists_end {a0 : Option Addr} {c0 cO Q : Nat} {xss : List (List Nat)} {bs : List Nat} {hB h : Hp} (kB : Keep hB h) (r : RdLL h a0 c0 xss) (ro : RdE eSl h (some ⟨Q, 0, none⟩) cO (headsOf bs xss)) (sp : Sp h bs xss) (nd : bs.Nodup) (hQ : Q ∉ bs) (old : ∀ b ∈ bs, hB.size ≤ b) :
    gnomonlaw02_NatmulLists.D3.t (fun v h' => Keep hB h' ∧ v = .bool true) a0 xss.length c0 (some ⟨Q, 0, none⟩) xss.length cO (xss.length : Int) h := by
  have hlen := r.len
  obtain ⟨hl1, hl2⟩ := slot_len bs xss sp.len
  unfold gnomonlaw02_NatmulLists.D3.t
  refine c_eq (fun _ => ⟨kB, rfl⟩) fun h0 => ?_
  obtain ⟨n, hn⟩ : ∃ n, xss.length = n + 1 := ⟨xss.length - 1, by omega⟩
  have hx : xss[n]? = some (xss[n]'(by omega)) := by simp
  generalize hxe : (xss[n]'(by omega)) = x at hx
  have hbn : bs[n]? = some (bs[n]'(by rw [sp.len]; omega)) := by simp
  generalize hbe : (bs[n]'(by rw [sp.len]; omega)) = b at hbn
  have hbm : b ∈ bs := List.mem_of_getElem? hbn
  have hsm := r.small x (List.mem_of_getElem? hx)
  refine k_i64 ((n : Nat) : Int) (by omega) (by omega) (by omega) ?_
  refine list_at r rfl rfl hx fun a1 c1 r1 => ?_
  refine c_eq (fun _ => ⟨kB, rfl⟩) fun hx0 => ?_
  obtain ⟨m, hm⟩ : ∃ m, x.length = m + 1 := ⟨x.length - 1, by omega⟩
  unfold gnomonlaw02_NatmulLists.D4.t
  refine k_i64 ((n : Nat) : Int) (by omega) (by omega) (by omega) ?_
  have hh : (headsOf bs xss)[n]? = some ((some ⟨b, 0, none⟩, x.length, x.length + 80) : Sl) := by
    unfold headsOf; rw [List.getElem?_zipWith, hbn, hx]
  refine atSl ro rfl hl1.symm hh ?_
  refine k_i64 ((n : Nat) : Int) (by omega) (by omega) (by omega) ?_
  refine list_at r rfl rfl hx fun a2 c2 r2 => ?_
  refine k_i64 ((m : Nat) : Int) (by omega) (by omega) (by omega) ?_
  have w := sp.at_ n b x hbn hx
  have wm : Mine h b x := ⟨_, w⟩
  refine at_intro (wm.rd (c := x.length + 80) (by omega)) (j := m) rfl rfl (by omega) ?_
  refine ⟨?_⟩
  have hin := in_u64.mp (show In .u64 (xorI .u64 ((x.getD m 0 : Nat) : Int) 6) from in_wrap _ _)
  obtain ⟨z, hz⟩ := Int.eq_ofNat_of_zero_le hin.1
  rw [hz]
  refine mine_put wm (j := m) rfl rfl (by omega) rfl (by omega) fun o2 k2 => ?_
  generalize setH h ⟨b, m, none⟩ (wv z) = h2 at *
  have hd : Heads h2 (headsOf bs xss) (xss.set n (x.set m z)) := by
    refine ⟨by simp [hl1], fun i s ys e1 e2 => ?_⟩
    by_cases hi : i = n
    · subst hi
      rw [hh] at e1
      cases e1
      rw [List.getElem?_set_self (by omega)] at e2
      cases e2
      exact ⟨by simp, o2.rd (c := x.length + 80) (by simp)⟩
    · rw [List.getElem?_set_ne (fun e => hi e.symm)] at e2
      obtain ⟨f1, f2⟩ := sp.heads.at_ i s ys e1 e2
      refine ⟨f1, ?_⟩
      have hil := (List.getElem?_eq_some_iff.mp e2).1
      have hbi : bs[i]? = some (bs[i]'(by rw [sp.len]; exact hil)) := by simp
      have hs : s = ((some ⟨bs[i]'(by rw [sp.len]; exact hil), 0, none⟩, ys.length, ys.length + 80) : Sl) := by
        unfold headsOf at e1; rw [List.getElem?_zipWith, hbi, e2] at e1; simp at e1; exact e1.symm
      subst hs
      refine f2.keepB (off_of_ne fun e => ?_) k2
      have := (List.getElem?_inj (by rw [sp.len]; exact hil) nd).mp (show bs[i]? = bs[n]? by rw [hbi, hbn, e])
      exact hi this
  have ro2 : RdE eSl h2 (some ⟨Q, 0, none⟩) cO (headsOf bs xss) := ro.keepB (off_of_ne fun e => hQ (e ▸ hbm)) k2
  have kB2 : Keep hB h2 := k2.keep kB (old b hbm)
  have rl : RdLL h2 (some ⟨Q, 0, none⟩) cO (xss.set n (x.set m z)) := hd.rdLL ro2 (by simpa using hlen) fun y hy => by
    rcases List.mem_or_eq_of_mem_set hy with h1 | h1
    · exact r.small y h1
    · subst h1; simpa using hsm
  refine hc_intro (Product_spec rl (by simp)) fun v h3 ⟨k3, an⟩ => ?_
  refine an.elim fun a3 c3 r3 => ?_
  refine hc_intro (DocProduct_spec (rl.keep k3) (by simp)) fun v h4 ⟨k4, an⟩ => ?_
  refine an.elim fun a4 c4 r4 => ?_
  refine c_eq (fun _ => ?_) fun hh => absurd rfl hh
  refine Same_intro (r3.keep k4) r4 rfl rfl ⟨kB2.trans (k3.trans k4), by simp⟩
theorem NatmulLists_law {a0 : Option Addr} {c0 l0 : Nat} {xss : List (List Nat)} {h : Hp} (r0 : RdLL h a0 c0 xss) (hl0 : l0 = xss.length) :
    HC gnomonlaw02_NatmulLists.id #[.slice a0 l0 c0] h fun v h' => Keep h h' ∧ v = .bool true := by
  subst hl0
  have hlen := r0.len
  refine gnomonlaw02_NatmulLists.ok ?_
  unfold gnomonlaw02_NatmulLists.t gnomonlaw02_NatmulLists.D1.t
  refine hc_intro (lawake_spec _) fun v h1 ⟨k1, e⟩ => ?_
  subst e
  refine gBool_intro rfl ?_
  refine c_not (fun hh => absurd hh (by simp)) fun _ => ?_
  refine hc_intro (llists_spec (r0.keep k1) rfl) fun v h2 ⟨k2, a2, c2, e2, r2⟩ => ?_
  subst e2
  refine gSlice_intro rfl ?_
  refine hc_intro (DocProduct_spec r2 rfl) fun v h3 ⟨k3, an⟩ => ?_
  refine an.elim fun a3 c3 r3 => ?_
  refine box_intro [41, 42] (by rfl) (by decide) (by decide) fun h4 o4 k4 => ?_
  refine k_i64 ((xss.length + 2 : Nat) : Int) (by omega) (by omega) (by omega) ?_
  refine mkE eSl ((none, 0, 0) : Sl) 0 (xss.length + 2) rfl trivial 24 rfl (by decide) rfl rfl (by omega) (by omega) fun h5 o5 k5 => ?_
  have k04 := k1.trans (k2.trans (k3.trans k4))
  have r4 := r0.keep k04
  unfold gnomonlaw02_NatmulLists.D20.t
  refine ⟨xss.length + 1, ?_⟩
  refine build_loop (h0 := h4) r4 (fun h6 aF cF bs md => ?_) xss.length 0 h5 none 0 [] (by omega) ?_
  · unfold gnomonlaw02_NatmulLists.D2.t
    obtain ⟨hl1, hl2⟩ := slot_len bs xss md.sp.len
    refine boxE eSl [((some ⟨h3.size, 0, none⟩, 2, 2) : Sl), (some ⟨h3.size, 0, none⟩, 2, 2)] rfl (fun _ _ => trivial) fun h7 o7 k7 => ?_
    refine apE3 (h0 := h4) (md.outer.keep k7) (md.kp.trans k7).le (o7.rd' (c := 2) (show 2 ≤ 11728124029610 by decide) (Nat.le_refl 2)) hl1.symm rfl rfl ((none, 0, 0) : Sl) rfl trivial 24 rfl (by decide) (by simp [hl1]; show _ ≤ 11728124029610; omega) (fun hh => by exfalso; simp [hl1] at hh) fun a8 c8 h8 g8 k8 hc8 _ => ?_
    obtain ⟨e8, e9⟩ := hc8 (by simp [hl1])
    subst e8; subst e9
    have k48 : Keep h4 h8 := k8.keep (md.kp.trans k7) (GotE.offs md.outer)
    have offQ : ∀ b, b ≠ h4.size → Off b (some ⟨h4.size, 0, none⟩) := fun b hb p ep => by cases ep; exact fun e => hb e.symm
    have ro : RdE eSl h8 (some ⟨h4.size, 0, none⟩) (xss.length + 2) (headsOf bs xss) := by
      have := g8.rd.take (headsOf bs xss).length
      rwa [List.take_left] at this
    have rf : RdE eSl h8 aF cF (fullsOf bs xss) := ((md.fulls.keep k7).keepX k8 fun p ep => offQ _ (md.hF p ep).2).rd
    have sp : Sp h8 bs xss := (md.sp.keep k7).keepX k8 fun b hb => offQ b fun e => md.hQ (e ▸ hb)
    unfold gnomonlaw02_NatmulLists.D5.t
    refine ⟨2 + 1, ?_⟩
    refine rounds_loop (hB := h) (bs := bs) (bh := headsOf bs xss ++ [((some ⟨h3.size, 0, none⟩, 2, 2) : Sl), (some ⟨h3.size, 0, none⟩, 2, 2)]) (k04.trans k48) (r4.keep k48) ro rf sp (r3.keep (k4.trans k48)) rfl ((o4.rd (c := 2) (by decide)).keep k48) g8.rd (by simp) ?_ ?_ (fun h9 k9 => lists_end ((k04.trans k48).trans k9) ((r4.keep k48).keep k9) (ro.keep k9) (sp.keep k9) md.nd md.hQ fun b hb => Nat.le_trans k04.le (md.old b hb)) 2 0 h8 (by omega) (Keep.refl _)
    · rw [List.getElem?_append_right (by omega), hl1, Nat.sub_self]; rfl
    · rw [List.getElem?_append_right (by omega), hl1, Nat.add_sub_cancel_left]; rfl
  · refine ⟨k5, ⟨by simp [headsOf], by simp [headsOf], Or.inr ⟨h4.size, List.replicate (xss.length + 2) (none, 0, 0), rfl, Nat.le_refl _, by simpa [headsOf] using o5, by simp [headsOf]⟩⟩, GotE.nil _ _, ⟨by simp, fun i b x e1 _ => (by simp at e1)⟩, by simp, by simp, fun p e => (by cases e), fun b hb => (by cases hb), o5.lt⟩
end Go.Proofs.Ytidpnpcnjfbjfaa.G
