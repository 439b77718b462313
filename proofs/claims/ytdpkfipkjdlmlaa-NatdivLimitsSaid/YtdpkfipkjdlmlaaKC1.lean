/- Texts of this work, joined: StrRead, StrBld, StrText, StrDig, StrBack, StrLimits. -/
import Derived.Test.YtdpkfipkjdlmlaaKB
import Derived.Test.YtdpkfipkjdlmlaaKC0
/- Read of decimal digits, the program's and the document's. -/
namespace Go.Proofs.Ytdpkfipkjdlmlaa.G
open Go.Gv
set_option maxRecDepth 100000
set_option linter.unusedVariables false
def readS (s : ByteArray) : List Nat × Int := if 4900 < s.size then ([], 7) else if s.size = 0 then ([], 8) else if (byt s).all isD = true then (digs (num (byt s)), 0) else ([], 8)
theorem readS_no {s : ByteArray} {i : Nat} (h1 : s.size ≤ 4900) (hi : i < s.size) (h : ¬ (48 ≤ (byt s).getD i 0 ∧ (byt s).getD i 0 ≤ 57)) : readS s = ([], 8) := by
  unfold readS
  rw [if_neg (by omega), if_neg (by omega), if_neg]
  intro ha
  have hl : i < (byt s).length := by rw [byt_len]; exact hi
  have := List.all_eq_true.mp ha ((byt s).getD i 0) (by
    have e : (byt s).getD i 0 = (byt s)[i] := by simp [List.getD, hl]
    rw [e]; exact List.getElem_mem hl)
  simp only [isD, decide_eq_true_eq] at this
  exact h this
theorem readS_yes {s : ByteArray} (h1 : s.size ≤ 4900) (h0 : s.size ≠ 0) (h : ∀ b ∈ byt s, isD b = true) : readS s = (digs (num (byt s)), 0) := by
  unfold readS
  rw [if_neg (by omega), if_neg h0, if_pos (List.all_eq_true.mpr h)]
theorem take_all {s : ByteArray} : (byt s).take s.size = byt s := by rw [← byt_len]; exact List.take_length
theorem digit_snoc {s : ByteArray} {i : Nat} (hi : i < s.size) (hd : ∀ b ∈ (byt s).take i, isD b = true) (h : 48 ≤ (byt s).getD i 0 ∧ (byt s).getD i 0 ≤ 57) : ∀ b ∈ (byt s).take (i + 1), isD b = true := by
  intro b hb
  rw [take_byt (by rw [byt_len]; exact hi)] at hb
  rcases List.mem_append.mp hb with h1 | h1
  · exact hd b h1
  · rw [List.mem_singleton.mp h1]; exact decide_eq_true h
theorem num_bound {s : ByteArray} (h1 : s.size ≤ 4900) {i : Nat} (hi : i ≤ s.size) (hd : ∀ b ∈ (byt s).take i, isD b = true) : num ((byt s).take i) < 10 ^ i := by
  have := num_lt hd i (by rw [List.length_take, byt_len]; omega)
  rwa [List.take_take, Nat.min_self] at this
/-! ### the document's -/
theorem readS_long {s : ByteArray} (h : 4900 < s.size) : readS s = ([], 7) := if_pos h
theorem readS_nil {s : ByteArray} (h : s.size = 0) : readS s = ([], 8) := by unfold readS; rw [if_neg (by omega), if_pos h]
/-! ### the program's -/
theorem wrap_i32 {x : Int} (h1 : -2147483648 ≤ x) (h2 : x < 2147483648) : IntKind.i32.wrap x = x := by
  have e1 : (2 : Int) ^ 32 = 4294967296 := by decide
  have e2 : (2 : Int) ^ (32 - 1) = 2147483648 := by decide
  simp only [IntKind.wrap, IntKind.bits, IntKind.signed, Bool.true_and, e1, e2]
  by_cases hx : x % 4294967296 ≥ 2147483648
  · rw [if_pos (by simpa using hx)]; omega
  · rw [if_neg (by simpa using hx)]; omega
theorem pow19 {j : Nat} (h : j ≤ 19) : 10 ^ j ≤ 10000000000000000000 := Nat.le_trans (Nat.pow_le_pow_right (by decide) h) (show 10 ^ 19 ≤ 10000000000000000000 by decide)
theorem Read_flush {K : Option Addr → Nat → Nat → Hp → Prop} {h0 h : Hp} {a : Option Addr} {c A w p T : Nat} (g : GotE eU64 h0 h a c (digs A)) (kp : Keep h0 h) (hp0 : 0 < p) (hp : p < 18446744073709551616) (hw : w < 18446744073709551616) (eT : A * p + w = T) (hT : (digs T).length ≤ 8192)
    (post : ∀ a' c' h', GotE eU64 h0 h' a' c' (digs T) → Keep h h' → K a' (digs T).length c' h') :
    HC nat_MulWord.id #[.slice a (digs A).length c, .int .u64 (p : Int)] h fun v10 h11 =>
      gTup v10 fun y12 => uncons y12 fun v13 y13 => gSlice v13 fun a_14 l_14 c_14 => uncons y13 fun v15 y15 => gInt .i64 v15 fun x_16 => unnil y15 <|
        HC nat_Word.id #[.int .u64 (w : Int)] h11 fun v17 h18 => gSlice v17 fun a_19 l_19 c_19 =>
          HC nat_Add.id #[.slice a_14 l_14 c_14, .slice a_19 l_19 c_19] h18 fun v20 h21 =>
            gTup v20 fun y22 => uncons y22 fun v23 y23 => gSlice v23 fun a_24 l_24 c_24 => uncons y23 fun v25 y25 => gInt .i64 v25 fun x_26 => unnil y25 <| K a_24 l_24 c_24 h21 := by
  subst eT
  have hA : (digs A).length ≤ 8192 := Nat.le_trans (digs_len_mono (by
    calc A = A * 1 := (Nat.mul_one _).symm
      _ ≤ A * p := Nat.mul_le_mul_left _ hp0
      _ ≤ A * p + w := Nat.le_add_right _ _)) hT
  have hAp : (digs (A * p)).length ≤ 8192 := Nat.le_trans (digs_len_mono (Nat.le_add_right _ _)) hT
  have hww : (digs w).length ≤ 8192 := Nat.le_trans (digs_len_mono (Nat.le_add_left _ _)) hT
  refine hc_intro (MulWord_spec g.rd64 rfl hp) fun v h1 ⟨k1, an⟩ => ?_
  rw [mulWS_d hA hAp] at an
  refine an.elimG fun a1 c1 g1 _ => ?_
  refine hc_intro (Word_spec hw h1) fun v h2 ⟨k2, an⟩ => ?_
  refine an.elimG fun a2 c2 g2 => ?_
  refine hc_intro (Add_spec (g1.keep k2).rd64 g2.rd64 rfl rfl) fun v h3 ⟨k3, an⟩ => ?_
  rw [addS_d hAp hww hT] at an
  refine an.elimG fun a3 c3 g3 _ => ?_
  exact post a3 c3 h3 (g3.from (Nat.le_trans kp.le (Nat.le_trans k1.le k2.le))) (k1.trans (k2.trans k3))
theorem Read_walk {R : Rt} {s : ByteArray} {h0 : Hp} {b : Nat} (hb : h0.size ≤ b) (hs : s.size ≤ 4900) (hs0 : s.size ≠ 0) (post : ∀ v h', Keep h0 h' → Ans h0 h' v (readS s) → R v h') :
    ∀ (k i j p A w : Nat) (a : Option Addr) (c : Nat) (h : Hp), i + k = s.size → j < 19 → (k = 0 → j = 0) → p = 10 ^ j → (∀ b ∈ (byt s).take i, isD b = true) → A * p + w = num ((byt s).take i) → w < p → h[b]? = some (.stringIter s i) →
      GotE eU64 h0 h a c (digs A) → Keep h0 h → natdiv_Read.L4.t R (k + 1) s a (digs A).length c (w : Int) (p : Int) ⟨b, 0, none⟩ h := by
  intro k
  induction k with
  | zero =>
    intro i j p A w a c h hi hj hj0 hp hd e hw it g kp
    unfold natdiv_Read.L4.t natdiv_Read.D5.t
    refine nx_intro it (fun _ => ?_) (fun h' h1 => absurd h1 (by omega)) (fun h' c h1 => absurd h1 (by omega))
    have e0 : i = s.size := by omega
    subst e0
    have ej := hj0 rfl
    subst ej
    subst hp
    rw [take_all] at hd e
    have ew : w = 0 := by rw [Nat.pow_zero] at hw; omega
    subst ew
    rw [Nat.pow_zero, Nat.mul_one, Nat.add_zero] at e
    subst e
    unfold natdiv_Read.D2.t
    have e := readS_yes hs hs0 hd
    exact post _ _ kp (Ans.mk (by rw [e]) (by rw [e]) (by rw [e]; exact g) (by rw [e]; exact (by decide : In .i64 0)))
  | succ k ih =>
    intro i j p A w a c h hi hj hj0 hp hd e hw it g kp
    have no : ∀ h', ¬ (48 ≤ (byt s).getD i 0 ∧ (byt s).getD i 0 ≤ 57) → KeepI b h h' → R (.tuple #[.slice none 0 0, .int .i64 8]) h' := fun h' hx k' => by
      refine post _ _ (k'.keep kp hb) ?_
      rw [readS_no hs (by omega) hx]; exact Ans.none
    have hp19 := pow19 (j := j) (by omega)
    have hp18 : 10 ^ (j + 1) ≤ 10000000000000000000 := pow19 (by omega)
    rw [Nat.pow_succ] at hp18
    rw [← hp] at hp19 hp18
    unfold natdiv_Read.L4.t natdiv_Read.D5.t
    refine nx_intro it (fun h1 => absurd h1 (by omega)) (fun h' h1 hx it' k' => ?_) (fun h' r h1 hx hr k' => ?_)
    · refine c_dec (fun hb => no h' (by omega) k') fun h2 => ?_
      refine c_dec (fun hb => no h' (by omega) k') fun h3 => ?_
      have hd' := digit_snoc (i := i) (by omega) hd (by omega)
      have hT := num_bound hs (i := i + 1) (by omega) hd'
      have hn := num_take (bs := byt s) (i := i) (by rw [byt_len]; omega)
      generalize hx' : (byt s).getD i 0 = x at *
      refine k_u64 (w * 10) (by omega) (by omega) ?_
      refine letK_out ?_
      have e1 : IntKind.i32.wrap ((x : Int) - 48) = ((x - 48 : Nat) : Int) := by rw [wrap_i32 (by omega) (by omega)]; omega
      rw [e1]
      refine k_u64 (x - 48) rfl (by omega) ?_
      refine k_u64 (w * 10 + (x - 48)) (by omega) (by omega) ?_
      refine k_u64 (p * 10) (by omega) (by omega) ?_
      have eT : A * (p * 10) + (w * 10 + (x - 48)) = num ((byt s).take (i + 1)) := by
        rw [hn, ← e, Nat.add_mul, Nat.mul_assoc]; omega
      have hTl : (digs (num ((byt s).take (i + 1)))).length ≤ 8192 := digs_10 hT (by omega)
      have flush : HC nat_MulWord.id #[.slice a (digs A).length c, .int .u64 ((p * 10 : Nat) : Int)] h' fun v10 h11 =>
          gTup v10 fun y12 => uncons y12 fun v13 y13 => gSlice v13 fun a_14 l_14 c_14 => uncons y13 fun v15 y15 => gInt .i64 v15 fun x_16 => unnil y15 <|
            HC nat_Word.id #[.int .u64 ((w * 10 + (x - 48) : Nat) : Int)] h11 fun v17 h18 => gSlice v17 fun a_19 l_19 c_19 =>
              HC nat_Add.id #[.slice a_14 l_14 c_14, .slice a_19 l_19 c_19] h18 fun v20 h21 =>
                gTup v20 fun y22 => uncons y22 fun v23 y23 => gSlice v23 fun a_24 l_24 c_24 => uncons y23 fun v25 y25 => gInt .i64 v25 fun x_26 => unnil y25 <| natdiv_Read.L4.t R (k + 1) s a_24 l_24 c_24 0 1 ⟨b, 0, none⟩ h21 := by
        refine Read_flush (g.keepI k') (k'.keep kp hb) (by omega) (by omega) (by omega) eT hTl fun a2 c2 h2 g2 k2 => ?_
        refine ih (i + 1) 0 1 (num ((byt s).take (i + 1))) 0 a2 c2 h2 (by omega) (by decide) (fun _ => rfl) rfl hd' (by rw [Nat.mul_one, Nat.add_zero]) (by decide) ?_ g2 ((k'.keep kp hb).trans k2)
        rw [k2.pre b (by
          rcases Nat.lt_or_ge b h'.size with h4 | h4
          · exact h4
          · rw [Array.getElem?_eq_none h4] at it'; cases it')]
        exact it'
      refine c_eq (fun h4 => flush) fun h4 => ?_
      refine k_i64 ((s.size : Int) - 1) rfl (by omega) (by omega) ?_
      refine c_eq (fun h5 => flush) fun h5 => ?_
      have hj1 : j + 1 < 19 := by
        refine Nat.lt_of_le_of_ne (by omega) fun hh => h4 ?_
        rw [hp, ← Nat.pow_succ, show j.succ = 19 by omega]; decide
      exact ih (i + 1) (j + 1) (p * 10) A (w * 10 + (x - 48)) a c h' (by omega) hj1 (fun hk => absurd hk (by omega)) (by rw [hp, Nat.pow_succ]) hd' eT (by omega) it' (g.keepI k') (k'.keep kp hb)
    · refine c_dec (fun hb => absurd hb (by omega)) fun _ => ?_
      exact c_dec (fun _ => no h' (by omega) k') fun hb => absurd (by omega) hb
theorem Read_spec (s : ByteArray) (h : Hp) : HC natdiv_Read.id #[.string s] h fun v h' => Keep h h' ∧ Ans h h' v (readS s) := by
  refine natdiv_Read.ok ?_
  unfold natdiv_Read.t natdiv_Read.D1.t
  refine c_dec (fun hb => ?_) fun hb => ?_
  · exact ⟨Keep.refl _, by rw [readS_long (by omega)]; exact Ans.none⟩
  refine c_str (fun e => ?_) fun e => ?_
  · exact ⟨Keep.refl _, by rw [readS_nil (by rw [e]; rfl)]; exact Ans.none⟩
  have h0 : s.size ≠ 0 := fun hh => e (ByteArray.ext (Array.eq_empty_of_size_eq_zero hh))
  unfold natdiv_Read.D3.t
  refine rg_intro fun h1 it k1 => ?_
  refine ⟨s.size + 1, ?_⟩
  have := Read_walk (R := fun v h' => Keep h h' ∧ Ans h h' v (readS s)) (Nat.le_refl h.size) (by omega) h0 (fun v h' k a => ⟨k, a⟩) s.size 0 0 1 0 0 none 0 h1 (by omega) (by decide) (fun _ => rfl) rfl (by simp) (by simp [num]) (by decide) it (by rw [digs_zero]; exact GotE.nil _ _) k1
  rw [digs_zero] at this
  exact this
end Go.Proofs.Ytdpkfipkjdlmlaa.G

/- strings.Builder over heaps; appends of one byte beside another list. -/
namespace Go.Proofs.Ytdpkfipkjdlmlaa.G
open Go.Gv
set_option maxRecDepth 100000
set_option linter.unusedVariables false
/-- The builder at block b holds the bytes l. -/
def IsB (B b : Nat) (l : List Nat) (h : Hp) : Prop := ∀ w : World, w.heap = h → Lib.IsBuilder 70 5 B b (l.map eU8.enc) w
theorem isb_heap {B b : Nat} {bs : List Value} {w w2 : World} (e : w2.heap = w.heap) (h : Lib.IsBuilder 70 5 B b bs w) : Lib.IsBuilder 70 5 B b bs w2 := by
  unfold Lib.IsBuilder Lib.BuilderAt World.ownsRow at *; rw [e]; exact h
theorem bld_new {h : Hp} {K : Addr → Hp → Prop} (g : ∀ h', IsB h.size h.size [] h' → Keep h h' → K ⟨h.size, 0, none⟩ h') : boxK h 70 T70.zs K := by
  refine g _ (fun w e => Or.inl ⟨Nat.le_refl _, .slice none 0 0, ?_, ?_, ?_⟩) ⟨by simp, fun b hb => ?_⟩
  · rw [e]; simp; rfl
  · exact ⟨rfl, Or.inl ⟨rfl, rfl⟩⟩
  · intro hh; cases hh
  · rw [Array.getElem?_push]; rw [if_neg (by omega)]
theorem BLen_hc {B b : Nat} {l : List Nat} {h : Hp} {R : Value → Hp → Prop} (ib : IsB B b l h) (g : R (.int .i64 (l.length : Int)) h) : HC strings_Builder_Len.id #[.pointer (some ⟨b, 0, none⟩)] h R :=
  fun w hw => (Try.Builder_Len B b _ w (ib w hw)).mono fun e w' ⟨e1, e2⟩ => by
    subst e2
    rw [List.length_map] at e1
    exact ⟨_, e1, Same.refl _, by rw [hw]; exact g⟩
theorem BWrite_hc {h1 h : Hp} {b : Nat} {l : List Nat} {x : Int} {n : Nat} {R : Value → Hp → Prop} (ib : IsB h1.size b l h) (k : Keep h1 h) (hx : x = (n : Int)) (hl : l.length + 1 ≤ 140737488355328)
    (g : ∀ h', IsB h1.size b (l ++ [n]) h' → Keep h1 h' → R .nilIface h') : HC strings_Builder_WriteByte.id #[.pointer (some ⟨b, 0, none⟩), .int .u8 x] h R := by
  subst hx
  intro w hw
  refine (Try.writeByte h1.size b _ (n : Int) w (ib w hw) (by rw [List.length_map]; exact hl) (by rw [hw]; exact k.le)).mono fun e w' ⟨e1, e2, e3⟩ => ?_
  refine ⟨_, e1, ⟨e3.os, e3.tape, e3.output⟩, g w'.heap (fun w2 e => isb_heap e (Or.inr ?_)) ?_⟩
  · have : (l ++ [n]).map eU8.enc = l.map eU8.enc ++ [.int .u8 (n : Int)] := by simp; rfl
    rw [this]; exact e2
  · have h5 := e3.size
    rw [hw] at h5
    exact ⟨Nat.le_trans k.le h5, fun i hi => (e3.block i hi).trans (by rw [hw]; exact k.pre i hi)⟩
theorem BString_hc {h1 h : Hp} {b : Nat} {l : List Nat} {R : Value → Hp → Prop} (ib : IsB h1.size b l h) (k : Keep h1 h) (hl : ∀ x ∈ l, x < 256)
    (g : ∀ h', Keep h1 h' → R (.string (bstr l)) h') : HC strings_Builder_String.id #[.pointer (some ⟨b, 0, none⟩)] h R := by
  intro w hw
  have e : Lib.byteCells (l.map UInt8.ofNat) = l.map eU8.enc := by
    unfold Lib.byteCells
    rw [List.map_map]
    refine List.map_congr_left fun x hx => ?_
    have := hl x hx
    simp [Function.comp, eU8]
    omega
  refine (Try.Builder_String_any h1.size b (l.map UInt8.ofNat) w (by rw [e]; exact ib w hw) (by rw [hw]; exact k.le)).mono fun e w' ⟨e1, e3⟩ => ?_
  have h5 := e3.size
  rw [hw] at h5
  exact ⟨_, e1, ⟨e3.os, e3.tape, e3.output⟩, g w'.heap ⟨Nat.le_trans k.le h5, fun i hi => (e3.block i hi).trans (by rw [hw]; exact k.pre i hi)⟩⟩
/-! ### appends of a byte -/
/-- A list beside a list that grows. -/
structure Beside {α : Type} (E : El α) (h : Hp) (am : Option Addr) (cm : Nat) (ms : List α) (a : Option Addr) : Prop where
  rd : RdE E h am cm ms
  off : ms = [] ∨ ∀ p, am = some p → Off p.block a
theorem Beside.new {α β : Type} {E : El α} {F : El β} {h0 hb h : Hp} {am a : Option Addr} {cm c : Nat} {ms : List α} {xs : List β} (g : GotE E hb h am cm ms) (x : GotE F h0 hb a c xs) : Beside E h am cm ms a := by
  refine ⟨g.rd, ?_⟩
  rcases g.here with ⟨e1, _, _⟩ | ⟨b, rest, e1, e2, _, _⟩
  · exact Or.inl e1
  · refine Or.inr fun p e => ?_
    rw [e1] at e; cases e
    intro q eq
    rcases x.here with ⟨_, e3, _⟩ | ⟨b2, rest2, e3, _, o2, _⟩
    · rw [e3] at eq; cases eq
    · rw [e3] at eq; cases eq
      have := o2.lt
      show b2 ≠ b
      omega
theorem push8 {α : Type} {E : El α} {h0 h : Hp} {a am : Option Addr} {l c cm n : Nat} {x : Int} {xs : List Nat} {ms : List α} (g : GotE eU8 h0 h a c xs) (k0 : Keep h0 h) (hl : l = xs.length) (hx : x = (n : Int)) (hn : n < 256) (hlim : xs.length + 1 ≤ 140737488355328)
    (be : Beside E h am cm ms a) {K : Option Addr → Nat → Nat → Hp → Prop}
    (post : ∀ a' c' h', GotE eU8 h0 h' a' c' (xs ++ [n]) → Keep h0 h' → Beside E h' am cm ms a' → (xs.length + 1 ≤ c → c' = c) → K a' (xs ++ [n]).length c' h') : boxK h 5 [.int .u8 x] fun q h2 => apK h2 5 T5 a l c (.slice (some q) 1 1) K := by
  subst hx
  refine boxE eU8 [n] rfl (fun y hy => by rw [List.mem_singleton.mp hy]; exact hn) fun h2 o2 k2 => ?_
  have r := o2.rd' (c := 1) (by show 1 ≤ 281474976710656; decide) (Nat.le_refl _)
  refine apE3 (g.keep k2) (Nat.le_trans k0.le k2.le) r hl rfl rfl 0 rfl ok8 1 rfl (by decide) (by show _ ≤ 281474976710656; simp; omega) (fun _ => by simp; omega) fun a' c' h' g' kx e1 e2 => ?_
  rw [show xs.length + [n].length = (xs ++ [n]).length by simp]
  refine post a' c' h' g' (kx.keep (k0.trans k2) g.offs) ?_ (fun hc => (e1 (by simpa using hc)).1)
  refine ⟨?_, ?_⟩
  · rcases be.off with e | o
    · subst e; exact RdE.nil _ _ _
    · have r2 := be.rd.keep k2
      refine ⟨r2.len, r2.cap, r2.ok, fun i y hi => ?_⟩
      obtain ⟨p, e, gc⟩ := r2.at_ i y hi
      refine ⟨p, e, ?_⟩
      have hb := cellH_lt gc
      rw [cellH_congr (kx.pre _ hb (by rw [add_block]; exact o p e))]; exact gc
  · rcases be.off with e | o
    · exact Or.inl e
    · cases ms with
      | nil => exact Or.inl rfl
      | cons y ys =>
        refine Or.inr fun p e => ?_
        rcases e2 with e2 | ⟨b, e2, hb⟩
        · rw [e2]; exact o p e
        · intro q eq
          rw [e2] at eq; cases eq
          obtain ⟨p', e', gc⟩ := be.rd.at_ 0 y (by simp)
          rw [e] at e'; cases e'
          have h3 := cellH_lt gc
          rw [add_block] at h3
          have h4 := k2.le
          show b ≠ p.block
          omega
theorem k_u8 {x : Int} (y : Nat) (e : x = (y : Int)) (h : y < 256) {K : Int → Prop} (g : K (y : Int)) : letK (IntKind.u8.wrap x) K := by
  subst e
  refine ⟨?_⟩
  have e : IntKind.u8.wrap (y : Int) = (y : Int) := by
    simp only [IntKind.wrap, IntKind.bits, IntKind.signed, Bool.false_and, Bool.false_eq_true, if_false]
    omega
  rw [e]; exact g
theorem mod10 {n : Nat} {K : Int → Prop} (g : K ((n % 10 : Nat) : Int)) : (10 : Int) ≠ 0 ∧ letK (Int.tmod (n : Int) 10) K := by
  refine ⟨by decide, ?_⟩
  have e : Int.tmod (n : Int) 10 = ((n % 10 : Nat) : Int) := tmod_nat n 10
  rw [e]; exact ⟨g⟩
theorem div10 (n : Nat) : Int.tdiv (n : Int) 10 = ((n / 10 : Nat) : Int) := by
  rw [Int.tdiv_eq_ediv_of_nonneg (by omega)]; rfl
end Go.Proofs.Ytdpkfipkjdlmlaa.G

/- Text: the decimal digits of a natural, the program's and the document's. -/
namespace Go.Proofs.Ytdpkfipkjdlmlaa.G
open Go.Gv
set_option maxRecDepth 100000
set_option linter.unusedVariables false
def textS (xs : List Nat) : ByteArray × Int := if Frm xs then (if 4900 < (txt (val xs)).length then (⟨#[]⟩, 5) else (bstr (txt (val xs)), 0)) else (⟨#[]⟩, 2)
/-! ### the program's -/
theorem Text_inner {R : Rt} {N9 : Option Addr → Nat → Nat → Option Addr → Nat → Nat → Hp → Prop} {h0 : Hp} {aq : Option Addr} {cq lq r0 : Nat} {qs bs0 : List Nat} (hb : bs0.length ≤ 1000000) (hr : r0 < 18446744073709551616)
    (post : ∀ a c h', GotE eU8 h0 h' a c (bs0 ++ lowD 19 r0) → Keep h0 h' → Beside eU64 h' aq cq qs a → N9 aq lq cq a (bs0 ++ lowD 19 r0).length c h') :
    ∀ (k i : Nat) (a : Option Addr) (c : Nat) (h : Hp), i + k = 19 → GotE eU8 h0 h a c (bs0 ++ lowD i r0) → Keep h0 h → Beside eU64 h aq cq qs a →
      natdiv_Text.L14.t R N9 (k + 1) a (bs0 ++ lowD i r0).length c aq lq cq ((r0 / 10 ^ i : Nat) : Int) (i : Int) h := by
  intro k
  induction k with
  | zero =>
    intro i a c h hi g kp be
    unfold natdiv_Text.L14.t natdiv_Text.D15.t
    refine c_dec (fun hb => absurd hb (by omega)) fun _ => ?_
    unfold natdiv_Text.D12.t
    have e : i = 19 := by omega
    subst e
    exact post a c h g kp be
  | succ k ih =>
    intro i a c h hi g kp be
    have hq : r0 / 10 ^ i ≤ r0 := Nat.div_le_self _ _
    have e1 : r0 / 10 ^ (i + 1) = r0 / 10 ^ i / 10 := by rw [Nat.pow_succ, Nat.div_div_eq_div_mul]
    have e2 := lowD_snoc i r0
    have ih := ih (i + 1)
    rw [e1, e2, ← List.append_assoc] at ih
    generalize r0 / 10 ^ i = r at *
    unfold natdiv_Text.L14.t natdiv_Text.D15.t
    refine c_dec (fun _ => ?_) fun hb => absurd (by omega) hb
    refine mod10 ?_
    refine k_u64 (48 + r % 10) (by omega) (by omega) ?_
    refine k_u8 (48 + r % 10) rfl (by omega) ?_
    refine push8 g kp rfl rfl (by omega) (by rw [List.length_append, lowD_len]; omega) be fun a' c' h' g' k' be' _ => ?_
    refine ⟨by decide, ?_⟩
    rw [div10]
    refine k_u64 (r / 10) rfl (by omega) ?_
    refine k_i64 ((i + 1 : Nat) : Int) (by omega) (by omega) (by omega) ?_
    exact ih a' c' h' (by omega) g' k' be'
theorem Text_inner0 {R : Rt} {N9 : Option Addr → Nat → Nat → Option Addr → Nat → Nat → Hp → Prop} {h0 : Hp} {aq : Option Addr} {cq lq r0 : Nat} {qs bs0 : List Nat} (hb : bs0.length ≤ 1000000) (hr : r0 < 18446744073709551616)
    (post : ∀ a c h', GotE eU8 h0 h' a c (bs0 ++ lowD 19 r0) → Keep h0 h' → Beside eU64 h' aq cq qs a → N9 aq lq cq a (bs0 ++ lowD 19 r0).length c h')
    {a : Option Addr} {c : Nat} {h : Hp} (g : GotE eU8 h0 h a c bs0) (kp : Keep h0 h) (be : Beside eU64 h aq cq qs a) : natdiv_Text.L14.t R N9 20 a bs0.length c aq lq cq (r0 : Int) 0 h := by
  have := Text_inner (R := R) (N9 := N9) hb hr post 19 0 a c h rfl (by simpa [lowD] using g) kp be
  simpa [lowD] using this
/-- The builder's loop. -/
theorem Text_build {R : Rt} {h0 h1 : Hp} {ab : Option Addr} {cb b : Nat} {bs : List Nat} (k0 : Keep h0 h1) (r : RdE eU8 h1 ab cb bs) (hl : bs.length ≤ 2000000)
    (post : ∀ h', Keep h1 h' → IsB h1.size b (bs.reverse.dropWhile zz8) h' → natdiv_Text.D3.t R ⟨b, 0, none⟩ h') :
    ∀ (k i : Nat) (h : Hp), i + k = bs.length → Keep h1 h → IsB h1.size b ((bs.reverse.take i).dropWhile zz8) h → natdiv_Text.L5.t R (k + 1) ab bs.length cb ⟨b, 0, none⟩ (bs.length : Int) (i : Int) h := by
  intro k
  induction k with
  | zero =>
    intro i h hi kp ib
    unfold natdiv_Text.L5.t natdiv_Text.D6.t
    refine c_dec (fun hb => absurd hb (by omega)) fun _ => ?_
    rw [List.take_of_length_le (by rw [List.length_reverse]; omega)] at ib
    exact post h kp ib
  | succ k ih =>
    intro i h hi kp ib
    have hj : bs.length - 1 - i < bs.length := by omega
    have er : bs.reverse[i]? = some (bs.getD (bs.length - 1 - i) 0) := by
      rw [List.getElem?_reverse (by omega), getD_some hj]
    have et : bs.reverse.take (i + 1) = bs.reverse.take i ++ [bs.getD (bs.length - 1 - i) 0] := by rw [List.take_add_one, er]; rfl
    have hlen : ((bs.reverse.take i).dropWhile zz8).length + 1 ≤ 140737488355328 := by
      have := (List.dropWhile_sublist zz8 (l := bs.reverse.take i)).length_le
      rw [List.length_take, List.length_reverse] at this
      omega
    unfold natdiv_Text.L5.t natdiv_Text.D6.t
    refine c_dec (fun _ => ?_) fun hb => absurd (by omega) hb
    refine k_i64 ((bs.length : Int) - 1) rfl (by omega) (by omega) ?_
    refine k_i64 (((bs.length - 1 - i : Nat)) : Int) (by omega) (by omega) (by omega) ?_
    refine at8 (r.keep kp) (j := bs.length - 1 - i) rfl rfl hj ?_
    have ih := ih (i + 1)
    rw [et, List.dropWhile_append] at ih
    generalize bs.getD (bs.length - 1 - i) 0 = d at *
    have dz : ∀ {x : Nat}, x ≠ 48 → List.dropWhile zz8 [x] = [x] := fun {x} hx => by
      have : zz8 x = false := by rw [beq_eq_false_iff_ne]; exact hx
      simp [List.dropWhile, this]
    have write : ∀ h2, Keep h1 h2 → IsB h1.size b ((bs.reverse.take i).dropWhile zz8) h2 → ((bs.reverse.take i).dropWhile zz8 = [] → d ≠ 48) →
        HC strings_Builder_WriteByte.id #[.pointer (some ⟨b, 0, none⟩), .int .u8 (d : Int)] h2 fun v23 h24 => letK (IntKind.i64.wrap ((i : Int) + 1)) fun n25 => natdiv_Text.L5.t R (k + 1) ab bs.length cb ⟨b, 0, none⟩ (bs.length : Int) n25 h24 := by
      intro h2 k2 ib2 hd
      refine BWrite_hc ib2 k2 rfl hlen fun h3 ib3 k3 => ?_
      refine k_i64 ((i + 1 : Nat) : Int) (by omega) (by omega) (by omega) ?_
      refine ih h3 (by omega) k3 ?_
      split
      · next he =>
        have he := List.isEmpty_iff.mp he
        rw [he] at ib3
        rw [dz (hd he)]
        exact ib3
      · exact ib3
    refine c_ne (fun hd => write h kp ib fun _ hh => hd (by rw [hh]; rfl)) fun hd => ?_
    refine BLen_hc ib ?_
    refine gInt_intro rfl ?_
    refine c_dec (fun hp => write h kp ib fun he => absurd hp (by rw [he]; decide)) fun hp => ?_
    refine k_i64 ((i + 1 : Nat) : Int) (by omega) (by omega) (by omega) ?_
    refine ih h (by omega) kp ?_
    have he : (bs.reverse.take i).dropWhile zz8 = [] := List.length_eq_zero_iff.mp (by omega)
    rw [he] at ib ⊢
    have hd' : d = 48 := by omega
    subst hd'
    exact ib
theorem Text_end {R : Rt} {h0 h1 : Hp} {ab : Option Addr} {cb m X : Nat} (k0 : Keep h0 h1) (r : RdE eU8 h1 ab cb (lowD m X)) (hm : m ≤ 1000000) (hX : X < 10 ^ m)
    (post : ∀ h', Keep h0 h' → R (.tuple #[.string (if 4900 < (txt X).length then (⟨#[]⟩, 5) else (bstr (txt X), 0) : ByteArray × Int).1, .int .i64 (if 4900 < (txt X).length then (⟨#[]⟩, 5) else (bstr (txt X), 0) : ByteArray × Int).2]) h') :
    natdiv_Text.D2.t R ab (lowD m X).length cb h1 := by
  unfold natdiv_Text.D2.t
  refine bld_new fun h2 ib k2 => ?_
  unfold natdiv_Text.D4.t
  refine ⟨(lowD m X).length + 1, ?_⟩
  have hl := lowD_len m X
  have ib0 : ∀ w : World, w.heap = h2 → Lib.IsBuilder 70 5 h1.size h1.size (([] : List Nat).map eU8.enc) w := ib
  -- the frame begins at h1
  refine Text_build (h0 := h0) (h1 := h1) (b := h1.size) k0 r (by omega) (fun h3 k3 ib3 => ?_) (lowD m X).length 0 h2 (by omega) k2 (by rw [List.take_zero]; exact ib)
  rw [low_strip hX] at ib3
  have htx : ∀ x ∈ (dec X).reverse, x < 256 := fun x hx => by have := dec_digit (List.mem_reverse.mp hx); omega
  unfold natdiv_Text.D3.t
  refine BLen_hc ib3 ?_
  refine gInt_intro rfl ?_
  refine c_eq (fun hz => ?_) fun hz => ?_
  · have e : X = 0 := by
      refine dec_nil.mp (List.length_eq_zero_iff.mp ?_)
      rw [List.length_reverse] at hz; omega
    subst e
    have := post h3 (k0.trans k3)
    have e2 : (txt 0).length = 1 := by rfl
    rw [if_neg (by rw [e2]; decide)] at this
    exact this
  · have e : X ≠ 0 := fun hh => hz (by rw [hh, dec_zero]; rfl)
    have et : (dec X).reverse = txt X := by unfold txt; rw [if_neg e]
    rw [et] at ib3 hz htx
    refine BLen_hc ib3 ?_
    refine gInt_intro rfl ?_
    refine c_dec (fun hp => ?_) fun hp => ?_
    · have := post h3 (k0.trans k3)
      rw [if_pos (by omega)] at this
      exact this
    · refine BString_hc ib3 k3 htx fun h4 k4 => ?_
      refine gStr_intro rfl ?_
      have := post h4 (k0.trans k4)
      rw [if_neg (by omega)] at this
      exact this
theorem Text_outer {R : Rt} {h0 : Hp} {X M : Nat} (hX : (digs X).length ≤ 8192) (hM : M ≤ 40000) (hX2 : X < 10 ^ M)
    (post : ∀ h', Keep h0 h' → R (.tuple #[.string (if 4900 < (txt X).length then (⟨#[]⟩, 5) else (bstr (txt X), 0) : ByteArray × Int).1, .int .i64 (if 4900 < (txt X).length then (⟨#[]⟩, 5) else (bstr (txt X), 0) : ByteArray × Int).2]) h') :
    ∀ (n t : Nat) (a0 : Option Addr) (c0 : Nat) (a : Option Addr) (c : Nat) (h : Hp), X / 10 ^ (19 * t) < 10 ^ (19 * n) → t ≤ 40000 → Beside eU64 h a0 c0 (digs (X / 10 ^ (19 * t))) a → GotE eU8 h0 h a c (lowD (19 * t) X) → Keep h0 h →
      natdiv_Text.L9.t R (n + 1) a0 (digs (X / 10 ^ (19 * t))).length c0 a (lowD (19 * t) X).length c h := by
  intro n
  induction n with
  | zero =>
    intro t a0 c0 a c h hA ht be g kp
    have e : X / 10 ^ (19 * t) = 0 := by
      rw [Nat.mul_zero, Nat.pow_zero] at hA
      exact Nat.lt_one_iff.mp hA
    rw [e] at be ⊢
    unfold natdiv_Text.L9.t natdiv_Text.D10.t
    rw [digs_zero]
    refine c_dec (fun hb => absurd hb (by decide)) fun _ => ?_
    refine Text_end kp g.rd (by omega) ?_ post
    exact (Nat.div_eq_zero_iff_lt (Nat.pow_pos (by decide))).mp e
  | succ n ih =>
    intro t a0 c0 a c h hA ht be g kp
    have ih := ih (t + 1)
    have e1 : 10 ^ (19 * (t + 1)) = 10 ^ (19 * t) * 10 ^ 19 := by rw [← Nat.pow_add]; rfl
    have e2 : X / 10 ^ (19 * (t + 1)) = X / 10 ^ (19 * t) / 10 ^ 19 := by rw [e1, Nat.div_div_eq_div_mul]
    have e3 : lowD (19 * (t + 1)) X = lowD (19 * t) X ++ lowD 19 (X / 10 ^ (19 * t) % 10 ^ 19) := by rw [lowD_mod, ← lowD_add]; rfl
    have hle : X / 10 ^ (19 * t) ≤ X := Nat.div_le_self _ _
    have hA0 : (digs (X / 10 ^ (19 * t))).length ≤ 8192 := Nat.le_trans (digs_len_mono hle) hX
    by_cases e : X / 10 ^ (19 * t) = 0
    · rw [e] at be ⊢
      unfold natdiv_Text.L9.t natdiv_Text.D10.t
      rw [digs_zero]
      refine c_dec (fun hb => absurd hb (by decide)) fun _ => ?_
      refine Text_end kp g.rd (by omega) ?_ post
      exact (Nat.div_eq_zero_iff_lt (Nat.pow_pos (by decide))).mp e
    · have ht1 : t < 40000 := by
        refine Nat.lt_of_not_le fun hh => e ?_
        refine Nat.div_eq_of_lt (Nat.lt_of_lt_of_le hX2 (Nat.pow_le_pow_right (by decide) (by omega)))
      rw [e2, e3] at ih
      have hl := lowD_len (19 * t) X
      have hA' : X / 10 ^ (19 * t) / 10 ^ 19 < 10 ^ (19 * n) := by
        rw [Nat.div_lt_iff_lt_mul (Nat.pow_pos (by decide)), ← Nat.pow_add]; exact hA
      have hp := dl_pos e
      generalize hq : X / 10 ^ (19 * t) = A at *
      unfold natdiv_Text.L9.t natdiv_Text.D10.t
      refine c_dec (fun _ => ?_) fun hb => absurd (by omega) hb
      unfold natdiv_Text.D11.t
      have w0 : (10000000000000000000 : Int) = ((10 ^ 19 : Nat) : Int) := by decide
      rw [w0]
      refine hc_intro (DivWord_spec (w := 10 ^ 19) be.rd.to64 rfl (by decide)) fun v h1 ⟨k1, an⟩ => ?_
      rw [divWS_d hA0 (by decide)] at an
      refine an.elim fun a1 c1 g1 => ?_
      unfold natdiv_Text.D13.t
      refine ⟨20, ?_⟩
      refine Text_inner0 (qs := digs (A / 10 ^ 19)) (r0 := A % 10 ^ 19) (bs0 := lowD (19 * t) X) (by rw [hl]; omega) (Nat.lt_trans (Nat.mod_lt _ (Nat.pow_pos (by decide))) (by decide)) (fun a2 c2 h2 g2 k2 be2 => ?_) (g.keep k1) (kp.trans k1) (Beside.new g1 g)
      exact ih a1 c1 a2 c2 h2 hA' (by omega) be2 g2 k2
theorem Text_spec {a : Option Addr} {c l : Nat} {xs : List Nat} {h : Hp} (r : Rd h a c xs) (hl : l = xs.length) : HC natdiv_Text.id #[.slice a l c] h fun v h' => Keep h h' ∧ v = .tuple #[.string (textS xs).1, .int .i64 (textS xs).2] := by
  subst hl
  refine natdiv_Text.ok ?_
  unfold natdiv_Text.t natdiv_Text.D1.t
  refine hc_intro (Form_spec r rfl) fun v h1 ⟨e1, e2⟩ => ?_
  subst e1; subst e2
  refine gBool_intro rfl ?_
  refine c_not (fun hf => ?_) fun hf => ?_
  · have hf := of_decide_eq_false hf
    unfold textS; rw [if_neg hf]; exact ⟨Keep.refl _, rfl⟩
  have hf := of_decide_eq_true hf
  refine hc_intro (Bits_spec r rfl) fun v h2 ⟨e1, e2⟩ => ?_
  subst e1; subst e2
  refine gInt_intro rfl ?_
  have ex := hf.digs r.words
  have h8 := hf.1
  unfold textS
  rw [if_pos hf]
  generalize val xs = X at *
  subst ex
  refine c_dec (fun hb => ?_) fun hb => ?_
  · have : 4900 < (txt X).length := by
      obtain ⟨m, hm⟩ : ∃ m, m = 4900 := ⟨_, rfl⟩
      obtain ⟨b, hb2⟩ : ∃ b, b = 16278 := ⟨_, rfl⟩
      rw [← hm]
      refine Nat.lt_of_not_le fun hh => ?_
      have h1 := Nat.lt_of_lt_of_le ((txt_len (by omega)).mp hh) (ten_4900 hm hb2)
      have := blen_le.mpr h1
      omega
    rw [if_pos this]; exact ⟨Keep.refl _, rfl⟩
  · obtain ⟨m, hm⟩ : ∃ m, m = 16278 := ⟨_, rfl⟩
    have hX := blen_le.mp (show blen X ≤ m by omega)
    have e0 : X / 10 ^ (19 * 0) = X := by rw [Nat.mul_zero, Nat.pow_zero, Nat.div_one]
    refine ⟨X + 1, ?_⟩
    have := Text_outer (R := fun v h' => Keep h2 h' ∧ v = .tuple #[.string (if 4900 < (txt X).length then (⟨#[]⟩, 5) else (bstr (txt X), 0) : ByteArray × Int).1, .int .i64 (if 4900 < (txt X).length then (⟨#[]⟩, 5) else (bstr (txt X), 0) : ByteArray × Int).2]) (M := m) h8 (by omega) (Nat.lt_of_lt_of_le hX (Nat.pow_le_pow_left (by decide) _)) (fun h' k => ⟨k, rfl⟩) X 0 a c none 0 h2
      (by rw [e0]; exact Nat.lt_of_lt_of_le (Nat.lt_pow_self (by decide)) (Nat.pow_le_pow_right (by decide) (by omega))) (by decide) (by rw [e0]; exact ⟨r.toE, Or.inr fun p e q eq => by cases eq⟩) (GotE.nil _ _) (Keep.refl _)
    rw [e0] at this
    exact this
end Go.Proofs.Ytdpkfipkjdlmlaa.G

/- The document's digits, and its Text; the statement NatdivTexts. -/
namespace Go.Proofs.Ytdpkfipkjdlmlaa.G
open Go.Gv
set_option maxRecDepth 100000
set_option linter.unusedVariables false
end Go.Proofs.Ytdpkfipkjdlmlaa.G

/- The statement NatdivReadsBack: Read takes back what Text told, and Text tells what Read took. -/
namespace Go.Proofs.Ytdpkfipkjdlmlaa.G
open Go.Gv
set_option maxRecDepth 100000
set_option linter.unusedVariables false
def stripL : List Nat → List Nat
  | [] => []
  | [x] => [x]
  | x :: y :: r => if x = 48 then stripL (y :: r) else x :: y :: r
theorem num_zero (r : List Nat) : num (48 :: r) = num r := by simp [num]
theorem num_cons_pos {x : Nat} (hx : 49 ≤ x) : ∀ r : List Nat, num (x :: r) ≠ 0 := by
  have key : ∀ (r : List Nat) (n : Nat), n ≠ 0 → r.foldl (fun n b => n * 10 + (b - 48)) n ≠ 0 := by
    intro r
    induction r with
    | nil => intro n h; exact h
    | cons y r ih => intro n h; show r.foldl _ (n * 10 + (y - 48)) ≠ 0; exact ih (n * 10 + (y - 48)) (by omega)
  intro r
  show r.foldl _ (0 * 10 + (x - 48)) ≠ 0
  exact key r (0 * 10 + (x - 48)) (by omega)
theorem dec_num' : ∀ (rs : List Nat), (∀ b ∈ rs, isD b = true) → (∀ x r, rs.reverse = x :: r → x ≠ 48) → dec (num rs.reverse) = rs
  | [], _, _ => dec_zero
  | b :: l, hd, hh => by
    have hb := hd b (by simp)
    simp only [isD, decide_eq_true_eq] at hb
    have ih := dec_num' l (fun c hc => hd c (by simp [hc])) (fun x r e => hh x (r ++ [b]) (by rw [List.reverse_cons, e]; rfl))
    rw [List.reverse_cons, num_snoc]
    have hne : num l.reverse * 10 + (b - 48) ≠ 0 := by
      cases hl : l.reverse with
      | nil =>
        have := hh b [] (by rw [List.reverse_cons, hl]; rfl)
        show 0 * 10 + (b - 48) ≠ 0
        omega
      | cons x r =>
        have h1 := hh x (r ++ [b]) (by rw [List.reverse_cons, hl]; rfl)
        have h2 := hd x (by
          have : x ∈ l.reverse := by rw [hl]; simp
          simp [List.mem_reverse.mp this])
        simp only [isD, decide_eq_true_eq] at h2
        have := num_cons_pos (x := x) (by omega) r
        omega
    rw [dec_pos hne, show 48 + (num l.reverse * 10 + (b - 48)) % 10 = b by omega, show (num l.reverse * 10 + (b - 48)) / 10 = num l.reverse by omega, ih]
theorem dec_num (bs : List Nat) (hd : ∀ b ∈ bs, isD b = true) (hh : ∀ x r, bs = x :: r → x ≠ 48) : dec (num bs) = bs.reverse := by
  have := dec_num' bs.reverse (fun b hb => hd b (List.mem_reverse.mp hb)) (fun x r e => hh x r (by rw [← e, List.reverse_reverse]))
  rwa [List.reverse_reverse] at this
theorem strip_txt : ∀ (bs : List Nat), bs ≠ [] → (∀ b ∈ bs, isD b = true) → txt (num bs) = stripL bs
  | [], h, _ => absurd rfl h
  | [x], _, hd => by
    have hb := hd x (by simp)
    simp only [isD, decide_eq_true_eq] at hb
    by_cases hx : x = 48
    · subst hx; rfl
    · have h1 := dec_num [x] hd (fun y r e => by cases e; exact hx)
      have h0 : num [x] ≠ 0 := num_cons_pos (by omega) []
      unfold txt; rw [if_neg h0, h1]; rfl
  | x :: y :: r, _, hd => by
    have hb := hd x (by simp)
    simp only [isD, decide_eq_true_eq] at hb
    by_cases hx : x = 48
    · subst hx
      rw [num_zero, strip_txt (y :: r) (by simp) (fun b hb => hd b (by simp [hb]))]
      rw [stripL, if_pos rfl]
    · have h1 := dec_num (x :: y :: r) hd (fun z q e => by cases e; exact hx)
      have h0 : num (x :: y :: r) ≠ 0 := num_cons_pos (by omega) _
      unfold txt; rw [if_neg h0, h1, List.reverse_reverse, stripL, if_neg hx]
theorem txt_num_len {bs : List Nat} (h : bs ≠ []) (hd : ∀ b ∈ bs, isD b = true) : (txt (num bs)).length ≤ bs.length := by
  have hl : 1 ≤ bs.length := by cases bs with | nil => exact absurd rfl h | cons x r => simp
  rw [txt_len hl]
  have := num_lt hd bs.length (Nat.le_refl _)
  rwa [List.take_length] at this
theorem textS_num {s : ByteArray} (h1 : s.size ≤ 4900) (h2 : s.size ≠ 0) (hd : ∀ b ∈ byt s, isD b = true) : textS (digs (num (byt s))) = (bstr (stripL (byt s)), 0) := by
  have hne : byt s ≠ [] := fun hh => h2 (by rw [← byt_len, hh]; rfl)
  have hl := txt_num_len hne hd
  rw [byt_len] at hl
  have hlt := num_lt hd (byt s).length (Nat.le_refl _)
  rw [List.take_length] at hlt
  unfold textS
  rw [if_pos (frm_d (digs_10 hlt (by rw [byt_len]; omega))), val_digs, if_neg (by omega), strip_txt _ hne hd]
end Go.Proofs.Ytdpkfipkjdlmlaa.G

/- The statement NatdivLimits: the greatest text and one more, what is too long, what is no text; the greatest list and one more. -/
namespace Go.Proofs.Ytdpkfipkjdlmlaa.G
open Go.Gv
set_option maxRecDepth 100000
set_option linter.unusedVariables false
theorem num_nines : ∀ n, num (List.replicate n 57) + 1 = 10 ^ n
  | 0 => rfl
  | n + 1 => by
    rw [List.replicate_succ', num_snoc, Nat.pow_succ, ← num_nines n]; omega
theorem strip_nines : ∀ n, stripL (List.replicate n 57) = List.replicate n 57
  | 0 => rfl
  | 1 => rfl
  | n + 2 => by
    rw [List.replicate_succ, List.replicate_succ, stripL, if_neg (by decide)]
theorem nines_lt {n : Nat} : ∀ b ∈ List.replicate n 57, b < 256 := fun b hb => by rw [List.eq_of_mem_replicate hb]; decide
theorem readS_nines {n : Nat} (hn : n = 4900) : readS (bstr (List.replicate n 57)) = (digs (num (List.replicate n 57)), 0) := by
  have hs := bstr_size (List.replicate n 57)
  rw [List.length_replicate] at hs
  rw [readS_yes (by omega) (by omega) (by
    rw [byt_bstr nines_lt]
    intro b hb; rw [List.eq_of_mem_replicate hb]; rfl)]
  rw [byt_bstr nines_lt]
theorem textS_nines {n : Nat} (hn : n = 4900) : textS (digs (num (List.replicate n 57))) = (bstr (List.replicate n 57), 0) := by
  have hs := bstr_size (List.replicate n 57)
  rw [List.length_replicate] at hs
  have := textS_num (s := bstr (List.replicate n 57)) (by omega) (by omega) (by
    rw [byt_bstr nines_lt]
    intro b hb; rw [List.eq_of_mem_replicate hb]; rfl)
  rw [byt_bstr nines_lt, strip_nines] at this
  exact this
theorem digs_nines {n : Nat} (hn : n = 4900) : (digs (10 ^ n)).length ≤ 307 := by
  have h1 : 10 ^ n < 10 ^ (n + 1) := Nat.pow_lt_pow_right (by decide) (by omega)
  exact digs_10 h1 (by omega)
theorem textS_above {n : Nat} (hn : n = 4900) : textS (digs (10 ^ n)) = (⟨#[]⟩, 5) := by
  unfold textS
  rw [if_pos (frm_d (Nat.le_trans (digs_nines hn) (by decide))), val_digs, if_pos]
  refine Nat.lt_of_not_le fun hh => ?_
  rw [← hn] at hh
  exact absurd ((txt_len (by omega)).mp hh) (Nat.lt_irrefl _)
theorem val_pw : ∀ n, val (List.replicate n 0 ++ [1]) = 2 ^ (64 * n)
  | 0 => rfl
  | n + 1 => by
    rw [List.replicate_succ, List.cons_append, val, val_pw n, pow_step]; omega
theorem trim_pw : ∀ n, trimL (List.replicate n 0 ++ [1]) = List.replicate n 0 ++ [1]
  | 0 => rfl
  | n + 1 => by
    rw [List.replicate_succ, List.cons_append, trimL, trim_pw n, if_neg]
    rintro ⟨_, h⟩
    simp at h
theorem words_pw (n : Nat) : Words (List.replicate n 0 ++ [1]) := fun x hx => by
  rcases List.mem_append.mp hx with h | h
  · rw [List.eq_of_mem_replicate h]; decide
  · rw [List.mem_singleton.mp h]; decide
theorem digs_pw (n : Nat) : digs (2 ^ (64 * n)) = List.replicate n 0 ++ [1] := by
  rw [← val_pw, digs_val (words_pw n), trim_pw]
theorem take_pw (m : Nat) : (((List.replicate (m + 2) 0).set m 1).set (m + 1) 1).take (m + 1) = List.replicate m 0 ++ [1] := by
  rw [List.take_set, List.set_eq_of_length_le (by rw [List.length_take]; omega), List.take_set, List.take_replicate, Nat.min_eq_left (by omega), List.replicate_succ', List.set_append_right _ _ (by simp)]
  simp
theorem quoS_pw {m : Nat} (hm : m = 8190) : quoS (List.replicate (m + 1) 0 ++ [1]) [0, 1] = (List.replicate m 0 ++ [1], [], 0) := by
  have h1 := digs_pw (m + 1)
  have h2 : digs 18446744073709551616 = [0, 1] := digs_val (xs := [0, 1]) (by intro x hx; simp at hx; omega)
  rw [← h1, ← h2, quoS_d (by rw [h1]; simp; omega) (by rw [h2]; decide) (by decide)]
  rw [pow_step, Nat.mul_div_cancel_left _ (by decide), Nat.mul_mod_right, digs_pw, digs_zero]
theorem nine_loop {R : Rt} {h0 : Hp} {b n : Nat} (hb : h0.size ≤ b) (hn : n = 4900) (post : ∀ h', Keep h0 h' → BlkE eU8 h' b (List.replicate n 57) → gnomonlaw03_NatdivLimits.D2.t R (some ⟨b, 0, none⟩) n n h') :
    ∀ (k i : Nat) (zs : List Nat) (h : Hp), i + k = n → zs.length = n → zs.take i = List.replicate i 57 → BlkE eU8 h b zs → Keep h0 h → gnomonlaw03_NatdivLimits.L10.t R (k + 1) (some ⟨b, 0, none⟩) n n (i : Int) h := by
  intro k
  induction k with
  | zero =>
    intro i zs h hi hz hp o kp
    unfold gnomonlaw03_NatdivLimits.L10.t gnomonlaw03_NatdivLimits.D11.t
    refine c_dec (fun hb => absurd hb (by omega)) fun _ => ?_
    have e : i = n := by omega
    subst e
    rw [List.take_of_length_le (by omega)] at hp
    subst hp
    exact post h kp o
  | succ k ih =>
    intro i zs h hi hz hp o kp
    unfold gnomonlaw03_NatdivLimits.L10.t gnomonlaw03_NatdivLimits.D11.t
    refine c_dec (fun _ => ?_) fun hb => absurd (by omega) hb
    refine putE0 o (j := i) (v := 57) rfl (by omega) (by omega) rfl (show 57 < 256 by decide) fun o2 k2 => ?_
    refine k_i64 ((i + 1 : Nat) : Int) (by omega) (by omega) (by omega) ?_
    refine ih (i + 1) _ _ (by omega) (by rw [List.length_set]; exact hz) ?_ o2 (k2.keepN kp hb)
    rw [List.replicate_succ', ← hp, List.take_add_one, List.take_set_of_le (Nat.le_refl i)]
    congr 1
    rw [List.getElem?_set_self (by omega)]
    rfl
theorem nine8 {R : Rt} {h0 h : Hp} {b n : Nat} (hb : h0.size ≤ b) (hn : n = 4900) (o : BlkE eU8 h b (List.replicate n 57)) (kp : Keep h0 h) (post : ∀ h', Keep h0 h' → R (.bool true) h') : gnomonlaw03_NatdivLimits.D8.t R (some ⟨b, 0, none⟩) n n h := by
  unfold gnomonlaw03_NatdivLimits.D8.t
  refine putE0 o (j := 7) (v := 120) rfl (by omega) (by rw [List.length_replicate]; omega) rfl (show 120 < 256 by decide) fun o2 k2 => ?_
  have hl : ((List.replicate n 57).set 7 120).length = n := by rw [List.length_set, List.length_replicate]
  have hlt : ∀ x ∈ (List.replicate n 57).set 7 120, x < 256 := fun x hx => by
    rcases List.mem_or_eq_of_mem_set hx with h1 | h1
    · exact nines_lt x h1
    · subst h1; decide
  have hx : ((List.replicate n 57).set 7 120).getD 7 0 = 120 := by
    simp [List.getD, show 7 < n by omega]
  generalize (List.replicate n 57).set 7 120 = zs at *
  have hs := bstr_size zs
  have kk := k2.keepN kp hb
  refine b2s_intro (o2.rd' (c := n) (by show _ ≤ 281474976710656; omega) (by omega)) hl.symm ?_
  refine hc_intro (Read_spec _ _) fun v h3 ⟨k3, an⟩ => ?_
  rw [readS_no (i := 7) (by omega) (by omega) (by rw [byt_bstr hlt, hx]; decide)] at an
  refine an.elimG fun a3 c3 g3 _ => ?_
  refine b2s_intro ((o2.keep k3).rd' (c := n) (by show _ ≤ 281474976710656; omega) (by omega)) hl.symm ?_
  have hs2 : (bstr zs ++ (⟨#[120]⟩ : ByteArray)).size = (bstr zs).size + 1 := by rw [ByteArray.size_append]; rfl
  refine ⟨by rw [hs, hl]; show ((n + 1 : Nat) : Int) ≤ _; omega, ?_⟩
  refine hc_intro (Read_spec _ _) fun v h4 ⟨k4, an⟩ => ?_
  rw [readS_long (by omega)] at an
  refine an.elimG fun a4 c4 g4 _ => ?_
  refine c_eq (fun _ => ?_) fun hh => absurd rfl hh
  refine c_eq (fun _ => ?_) fun hh => absurd rfl hh
  refine c_eq (fun _ => ?_) fun hh => absurd rfl hh
  exact post _ (kk.trans (k3.trans k4))
theorem quoS_bad : quoS [5, 0] [] = ([], [], 2) := by
  unfold quoS
  rw [if_neg]
  rintro ⟨⟨_, h⟩, _⟩
  exact absurd h (by simp [trimL])
theorem quoS_none : quoS [5] [] = ([], [], 4) := by
  unfold quoS
  rw [if_pos ⟨⟨by decide, by simp [trimL]⟩, ⟨by decide, rfl⟩⟩, if_pos (show val [] = 0 from rfl)]
theorem nine6 {R : Rt} {h0 h : Hp} {b n : Nat} (hb : h0.size ≤ b) (hn : n = 4900) (o : BlkE eU8 h b (List.replicate n 57)) (kp : Keep h0 h) (post : ∀ h', Keep h0 h' → R (.bool true) h') : gnomonlaw03_NatdivLimits.D6.t R (some ⟨b, 0, none⟩) n n h := by
  obtain ⟨m, hm⟩ : ∃ m, m = 8191 := ⟨_, rfl⟩
  unfold gnomonlaw03_NatdivLimits.D6.t
  rw [show ((8193 : Int).toNat) = m + 2 by omega]
  refine mkE eU64 0 (m + 2) (m + 2) rfl ok64 8 rfl (by decide) (by omega) (by omega) (Nat.le_refl _) (by omega) fun h1 o1 k1 => ?_
  have kq : h0.size ≤ h.size := kp.le
  refine putE0 o1 (j := m) (v := 1) (by omega) (by omega) (by rw [List.length_replicate]; omega) rfl ((by decide : 1 < 18446744073709551616)) fun o2 k2 => ?_
  refine putE0 o2 (j := m + 1) (v := 1) (by omega) (by omega) (by rw [List.length_set, List.length_replicate]; omega) rfl ((by decide : 1 < 18446744073709551616)) fun o3 k3 => ?_
  have hlen : (((List.replicate (m + 2) 0).set m 1).set (m + 1) 1).length = m + 2 := by rw [List.length_set, List.length_set, List.length_replicate]
  have htk := take_pw m
  generalize hzs : ((List.replicate (m + 2) 0).set m 1).set (m + 1) 1 = zs at *
  have kk := k3.keepN (k2.keepN (kp.trans k1) (Nat.le_trans kq (Nat.le_refl _))) (Nat.le_trans kq (Nat.le_refl _))
  have k03 : Keep h (setH (setH h1 ⟨h.size, m, none⟩ (eU64.enc 1)) ⟨h.size, m + 1, none⟩ (eU64.enc 1)) := k3.keepN (k2.keepN k1 (Nat.le_refl _)) (Nat.le_refl _)
  generalize (setH (setH h1 ⟨h.size, m, none⟩ (eU64.enc 1)) ⟨h.size, m + 1, none⟩ (eU64.enc 1)) = h3 at *
  have hnf : ¬ Frm zs := fun hf => by have := hf.1; omega
  have rz : ∀ h', Keep h3 h' → Rd h' (some ⟨h.size, 0, none⟩) (m + 2) zs := fun h' k' => ((o3.keep k').rd' (c := m + 2) (by rw [hlen]; show _ ≤ 35184372088828; omega) (by omega)).to64
  refine box_intro [2] (by rfl) (by decide) (by decide) fun h4 o4 k4 => ?_
  refine hc_intro (QuoRem_spec (rz h4 k4) (o4.rd (by decide)) hlen.symm rfl) fun v h5 ⟨k5, an⟩ => ?_
  rw [show quoS zs [2] = ([], [], 2) by unfold quoS; rw [if_neg (fun hh => hnf hh.1)]] at an
  refine an.elim fun a5 c5 b5 d5 g5 g5' => ?_
  refine hc_intro (Text_spec (rz h5 (k4.trans k5)) hlen.symm) fun v h6 ⟨k6, e⟩ => ?_
  subst e
  rw [show textS zs = (⟨#[]⟩, 2) by unfold textS; rw [if_neg hnf]]
  refine gTup_intro rfl (uncons_intro (gStr_intro rfl (uncons_intro (gInt_intro rfl (unnil_intro ?_)))))
  have k36 := k4.trans (k5.trans k6)
  refine hc_intro (Root_spec (rz h6 k36) hlen.symm) fun v h7 ⟨k7, an⟩ => ?_
  rw [show rootS zs = ([], [], 2) by unfold rootS; rw [if_neg hnf]] at an
  refine an.elim fun a7 c7 b7 d7 g7 g7' => ?_
  refine c_ne (fun hh => absurd rfl hh) fun _ => ?_
  refine c_ne (fun hh => absurd rfl hh) fun _ => ?_
  refine c_ne (fun hh => absurd rfl hh) fun _ => ?_
  refine c_ne (fun hh => absurd rfl hh) fun _ => ?_
  simp only [beq_self_eq_true, Bool.not_true, cond_false]
  have k37 := k36.trans k7
  unfold gnomonlaw03_NatdivLimits.D7.t
  refine sl_to (n := m + 1) (by omega) (by omega) ?_
  refine box_intro [0, 1] (by rfl) (by decide) (by decide) fun h8 o8 k8 => ?_
  have rt := (rz h8 (k37.trans k8)).take (m + 1)
  rw [htk] at rt
  obtain ⟨p, hp⟩ : ∃ p, p = 8190 := ⟨_, rfl⟩
  have em : m = p + 1 := by omega
  have hlt : m + 1 = (List.replicate m 0 ++ [1]).length := by simp
  refine hc_intro (QuoRem_spec rt (o8.rd (by decide)) hlt rfl) fun v h9 ⟨k9, an⟩ => ?_
  rw [em, quoS_pw hp] at an
  refine an.elim fun a9 c9 b9 d9 g9 g9' => ?_
  refine c_ne (fun hh => absurd rfl hh) fun _ => ?_
  have hl9 : (List.replicate p 0 ++ [1]).length = p + 1 := by simp
  refine c_ne (fun hh => absurd (by dsimp only; rw [hl9]; omega) hh) fun _ => ?_
  refine c_ne (fun hh => absurd rfl hh) fun _ => ?_
  refine at_intro g9.rd64 (j := p) (by omega) rfl (by dsimp only; omega) ?_
  have hp1 : (List.replicate p 0 ++ [1]).getD p 0 = 1 := by simp [List.getD]
  dsimp only
  rw [hp1]
  refine c_ne (fun hh => absurd rfl hh) fun _ => ?_
  have k39 := k37.trans (k8.trans k9)
  exact nine8 hb hn (o.keep (k03.trans k39)) (kk.trans k39) post
theorem NatdivLimits_law {h : Hp} : HC gnomonlaw03_NatdivLimits.id #[] h fun v h' => Keep h h' ∧ v = .bool true := by
  obtain ⟨n, hn⟩ : ∃ n, n = 4900 := ⟨_, rfl⟩
  refine gnomonlaw03_NatdivLimits.ok ?_
  unfold gnomonlaw03_NatdivLimits.t gnomonlaw03_NatdivLimits.D1.t
  rw [show ((4900 : Int).toNat) = n by omega]
  refine mkE eU8 0 n n rfl ok8 1 rfl (by decide) (by omega) (by omega) (Nat.le_refl _) (by omega) fun h1 o1 k1 => ?_
  unfold gnomonlaw03_NatdivLimits.D9.t
  refine ⟨n + 1, nine_loop (h0 := h) (Nat.le_refl _) hn (fun h2 k2 o => ?_) n 0 _ h1 (by omega) (by rw [List.length_replicate]) rfl o1 k1⟩
  unfold gnomonlaw03_NatdivLimits.D2.t
  have rd : ∀ h', Keep h2 h' → RdE eU8 h' (some ⟨h.size, 0, none⟩) n (List.replicate n 57) := fun h' k' => (o.keep k').rd' (by rw [List.length_replicate]; show _ ≤ 281474976710656; omega) (by rw [List.length_replicate]; exact Nat.le_refl _)
  have hlr : n = (List.replicate n 57).length := by rw [List.length_replicate]
  have hs := bstr_size (List.replicate n 57)
  rw [List.length_replicate] at hs
  refine b2s_intro (rd h2 (Keep.refl _)) hlr ?_
  refine hc_intro (Read_spec _ h2) fun v h3 ⟨k3, an⟩ => ?_
  rw [readS_nines hn] at an
  refine an.elimG fun a3 c3 g3 _ => ?_
  refine hc_intro (Text_spec g3.rd64 rfl) fun v h4 ⟨k4, e⟩ => ?_
  subst e
  dsimp only
  rw [textS_nines hn]
  refine gTup_intro rfl (uncons_intro (gStr_intro rfl (uncons_intro (gInt_intro rfl (unnil_intro ?_)))))
  refine c_ne (fun hh => absurd rfl hh) fun _ => ?_
  refine c_ne (fun hh => absurd rfl hh) fun _ => ?_
  have k24 := k3.trans k4
  refine b2s_intro (rd h4 k24) hlr ?_
  simp only [beq_self_eq_true, Bool.not_true, cond_false]
  unfold gnomonlaw03_NatdivLimits.D3.t
  have hN := num_nines n
  have l0 := digs_nines hn
  rw [← hN] at l0
  have lN : (digs (num (List.replicate n 57))).length ≤ 307 := Nat.le_trans (digs_len_mono (by omega)) l0
  refine hc_intro (From_spec (g3.keep k4).rd64 rfl) fun v h5 ⟨k5, sd⟩ => ?_
  dsimp only at sd
  rw [val_digs] at sd
  refine sd.elim fun a5 c5 g5 => ?_
  refine hc_intro (rWord_spec (x := 1) (w := 1) rfl (by decide) h5) fun v h6 ⟨k6, sd⟩ => ?_
  refine sd.elim fun a6 c6 g6 => ?_
  have lD : (D.digs (num (List.replicate n 57))).length ≤ 2 * 307 := (dlen_two _ _).mpr lN
  have l1 : (D.digs 1).length ≤ 1 := D.dl_blen (blen_le.mpr (by decide))
  refine hc_intro (rAdd_spec (g5.rd.keep k6) g6.rd rfl rfl (by omega) (by omega)) fun v h7 ⟨k7, sd⟩ => ?_
  rw [hN] at sd
  refine sd.elim fun a7 c7 g7 => ?_
  refine hc_intro (To_spec g7.rd rfl) fun v h8 ⟨k8, sw⟩ => ?_
  refine AnsS.elimG sw fun a8 c8 g8 => ?_
  refine hc_intro (Text_spec g8.rd64 rfl) fun v h9 ⟨k9, e⟩ => ?_
  subst e
  rw [textS_above hn]
  refine gTup_intro rfl (uncons_intro (gStr_intro rfl (uncons_intro (gInt_intro rfl (unnil_intro ?_)))))
  refine c_ne (fun hh => absurd rfl hh) fun _ => ?_
  simp only [beq_self_eq_true, Bool.not_true, cond_false]
  have k29 := k24.trans (k5.trans (k6.trans (k7.trans (k8.trans k9))))
  unfold gnomonlaw03_NatdivLimits.D4.t
  refine b2s_intro (rd h9 k29) hlr ?_
  have hs2 : (bstr (List.replicate n 57) ++ (⟨#[57]⟩ : ByteArray)).size = (bstr (List.replicate n 57)).size + 1 := by rw [ByteArray.size_append]; rfl
  refine ⟨by rw [hs]; show ((n + 1 : Nat) : Int) ≤ _; omega, ?_⟩
  refine hc_intro (Read_spec _ h9) fun v h10 ⟨k10, an⟩ => ?_
  rw [readS_long (by omega)] at an
  refine an.elimG fun a10 c10 g10 _ => ?_
  refine c_ne (fun hh => absurd rfl hh) fun _ => ?_
  refine c_ne (fun hh => absurd rfl hh) fun _ => ?_
  unfold gnomonlaw03_NatdivLimits.D5.t
  refine box_intro [5, 0] (by rfl) (by decide) (by decide) fun h11 o11 k11 => ?_
  refine hc_intro (QuoRem_spec (o11.rd (by decide)) (Rd.nil h11 none 0) rfl rfl) fun v h12 ⟨k12, an⟩ => ?_
  rw [quoS_bad] at an
  refine an.elim fun a12 c12 b12 d12 g12 g12' => ?_
  refine box_intro [5] (by rfl) (by decide) (by decide) fun h13 o13 k13 => ?_
  refine hc_intro (QuoRem_spec (o13.rd (by decide)) (Rd.nil h13 none 0) rfl rfl) fun v h14 ⟨k14, an⟩ => ?_
  rw [quoS_none] at an
  refine an.elim fun a14 c14 b14 d14 g14 g14' => ?_
  refine c_ne (fun hh => absurd rfl hh) fun _ => ?_
  refine c_ne (fun hh => absurd rfl hh) fun _ => ?_
  have kf := k29.trans (k10.trans (k11.trans (k12.trans (k13.trans k14))))
  exact nine6 (Nat.le_refl _) hn (o.keep kf) (k2.trans kf) fun h' k' => ⟨k', rfl⟩
end Go.Proofs.Ytdpkfipkjdlmlaa.G
