/- Texts of this work, joined: BldW, NatSpec, NatBits, NatOps, NatMul64, NatDiv64, NatDivWord, NatShift, NatCmp, Ref01a, Ref01b, Ref01c, Ref01d, Ref01e, Ref01t, NatAdd, NatSub, NatMulWord, Ref01f, Ref01g, NatHv, DivQ, DivQ2, RootN, MulSpec, MulSpec2, MulSpec3, MulRing, MulPow, NatD, DivRoot, DivLaws, StrRead, StrBld, StrText, StrDig. -/
import Derived.Test.YtdpkfipkjdlmlaaProg
import Derived.Shelf.Strings.Builder1
import Derived.Test.YtdpkfipkjdlmlaaKF
import Derived.Test.YtdpkfipkjdlmlaaKB
/- strings.Builder's copyCheck at this program: what it does to a builder, fresh or used. -/
set_option linter.unusedVariables false
namespace Go.Proofs
open Go.Shelf Go.RowKit
set_option maxHeartbeats 1000000 in
set_option maxRecDepth 100000 in
theorem Try.copyCheck_used (b : Nat) (w : World) (h0 : w.cell? ⟨b, 0, none⟩ = some (.pointer (some ⟨b, 0, none⟩))) :
    Calls Try.prog 70 #[.pointer (some ⟨b, 0, none⟩)] w fun e w' => e = .returned (.tuple #[]) ∧ w' = w := by
  obtain ⟨j, hj, _⟩ := Option.map_eq_some_iff.1 (show (Try.prog.info? 70).map (·.size) = some 2 from by kernel_rfl)
  go_enter Try.func70, Try.ntmps70
  go_wp2
  rw [Lib.run_neq_ptr_same w _ Try.underlying68 hj]
  go_wp2
  go_end0
  exact ⟨rfl, rfl⟩
set_option maxHeartbeats 1000000 in
set_option maxRecDepth 100000 in
theorem Try.copyCheck_fresh (b : Nat) (w : World) (h0 : w.cell? ⟨b, 0, none⟩ = some (.pointer none)) (hsh : w.shape? b = some (70, 2)) (hfz : w.frozen? ⟨b, 0, none⟩ = false) :
    Calls Try.prog 70 #[.pointer (some ⟨b, 0, none⟩)] w fun e w' => e = .returned (.tuple #[]) ∧ w' = w.setCell ⟨b, 0, none⟩ (.pointer (some ⟨b, 0, none⟩)) := by
  obtain ⟨j, hj, hjs⟩ := Option.map_eq_some_iff.1 (show (Try.prog.info? 70).map (·.size) = some 2 from by kernel_rfl)
  go_enter Try.func70, Try.ntmps70
  go_wp2
  rw [Lib.run_to_unsafe w ⟨b, 0, none⟩ Try.underlying68 (Try.underlying101) hj (by rw [hjs]; decide) hsh (Nat.zero_lt_succ 1)]
  simp only [Result.andThen]
  rw [Oper.upon_value]
  go_wp2
  rw [run_callFunc_extern Try.func81 (by kernel_rfl) (by kernel_rfl) (by kernel_rfl) (e := Extern.AbiNoEscape.same) (by kernel_rfl)]
  rw [Lib.run_noEscape]
  simp only [Result.andThen]
  rw [Oper.upon_value]
  go_wp2
  rw [Lib.run_from_unsafe w ⟨b, 0, none⟩ Try.underlying101 Try.underlying68 hj hsh (by kernel_rfl)]
  simp only [Result.andThen]
  rw [Oper.upon_value]
  go_wp2
  go_end0
  exact ⟨rfl, rfl⟩
theorem Try.copyCheck (B b : Nat) (bs : List Value) (w : World) (h : Lib.IsBuilder 70 5 B b bs w) :
    Calls Try.prog 70 #[.pointer (some ⟨b, 0, none⟩)] w fun e w' => e = .returned (.tuple #[]) ∧ Lib.BuilderAt 70 5 B b (.pointer (some ⟨b, 0, none⟩)) bs w' ∧ Below B w w' := by
  rcases h with h | h
  · refine (Try.copyCheck_fresh b w h.cell0 h.shape h.frozen0).mono ?_
    rintro e w' ⟨rfl, rfl⟩
    exact ⟨rfl, h.used _, (Below.refl B w).setCell (p := ⟨b, 0, none⟩) h.1 _⟩
  · refine (Try.copyCheck_used b w h.cell0).mono ?_
    rintro e w' ⟨rfl, rfl⟩
    exact ⟨rfl, h, Below.refl B _⟩
set_option maxHeartbeats 2000000 in
set_option maxRecDepth 100000 in
theorem Try.writeByte (B b : Nat) (bs : List Value) (c : Int) (w : World) (h : Lib.IsBuilder 70 5 B b bs w) (hlen : bs.length + 1 ≤ 140737488355328) (hBw : B ≤ w.heap.size) :
    Calls Try.prog 45 #[.pointer (some ⟨b, 0, none⟩), .int .u8 c] w fun e w' => e = .returned .nilIface ∧ Lib.BuilderAt 70 5 B b (.pointer (some ⟨b, 0, none⟩)) (bs ++ [.int .u8 c]) w' ∧ Below B w w' := by
  obtain ⟨i0, hi, hz0, hz1, hz2⟩ := info_parts (show (Try.prog.info? 5).map (fun i => (i.zero, i.size, i.bytes)) = some (some (.int .u8 0), 1, 1) from by kernel_rfl)
  go_enter Try.func45, Try.ntmps45
  go_wp2_with (go_at_call 70; refine (Try.copyCheck B b bs _ h).mono ?_)
  rintro e w1 ⟨rfl, h1, hb1⟩
  obtain ⟨hB, v, hbk, hown, hne⟩ := h1
  have c0 : w1.cell? ⟨b, 0, none⟩ = some (.pointer (some ⟨b, 0, none⟩)) := by rw [Lib.cell_of_heap hbk]; rfl
  have c1 : w1.cell? ⟨b, 1, none⟩ = some v := by rw [Lib.cell_of_heap hbk]; rfl
  go_wp2_with (at_builtin; refine wpList_append_own _ rfl _ _ 58 rfl B 5 i0 (.int .u8 0) 1 1 Try.underlying58 hi hz0 hz1 hz2 rfl (by decide) _ _ _ rfl (hown.alloc _) ⟨w1.heap.size, 0, none⟩ 1 1 [.int .u8 c] rfl rfl ?c1 ?c2 ?c3 ?c4 ?c5 ?_)
  case c1 =>
    intro j u hj
    match j, hj with
    | 0, hj => simp at hj; subst hj; simp [Addr.add]
  case c2 => intro u hu; simp at hu; subst hu; rfl
  case c3 => unfold maxLen; omega
  case c4 => omega
  case c5 => have := hb1.size; simp; omega
  intro v' w2 hown' hgrow _
  have hlt : b < w1.heap.size := by
    rcases Nat.lt_or_ge b w1.heap.size with h' | h'
    · exact h'
    · simp [Array.getElem?_eq_none h'] at hbk
  have hb2 : w2.heap[b]? = some (.cells #[.pointer (some ⟨b, 0, none⟩), v] 70 (0, 0)) := by
    rw [hgrow.block b (by simp; omega) (fun e => hne e.symm), Lib.alloc_old w1 _ b hlt]
    exact hbk
  have d0 : w2.cell? ⟨b, 0, none⟩ = some (.pointer (some ⟨b, 0, none⟩)) := by rw [Lib.cell_of_heap hb2]; rfl
  have d1 : w2.cell? ⟨b, 1, none⟩ = some v := by rw [Lib.cell_of_heap hb2]; rfl
  have f1 : w2.frozen? ⟨b, 1, none⟩ = false := Lib.frozen_of_heap hb2 1
  obtain ⟨g, cap, rfl⟩ : ∃ g cap, v' = .slice (some ⟨g, 0, none⟩) (bs.length + 1) cap := by
    rcases hown'.2 with ⟨_, h0⟩ | ⟨g, cap, cur, hv, _⟩
    · omega
    · exact ⟨g, cap, hv⟩
  go_wp2
  go_ret
  refine ⟨rfl, ?_, ?_⟩
  · exact Lib.BuilderAt.put (T := 70) (e := 5) hB hb2 (bs' := bs ++ [.int .u8 c]) (by simpa using hown') (by decide)
  · exact ((hb1.alloc (by have := hb1.size; omega) _).grown hgrow (by have := hb1.size; simp; omega) (fun k hk => (hown.lt k hk).1)).setCell (p := ⟨b, 1, none⟩) hB _
def Try.lays170_ren : Go.Shelf.Ren := ⟨fun | 170 => 44 | n => n, fun | 70 => 68 | 3 => 3 | 0 => 0 | 72 => 70 | 37 => 58 | 5 => 5 | n => n, fun | n => n⟩
theorem Try.lays170 : Go.Proofs.Lays.n170 Try.prog Try.lays170_ren := {
  mixed := by kernel_rfl
  f170 := Try.func44.trans (congrArg some (by kernel_rfl))
  t0 := Try.underlying0
  a0 := Try.isAgg0
  z0 := Try.sizeOf0
  v0 := Try.zeroValue0
  t3 := Try.underlying3
  a3 := Try.isAgg3
  z3 := Try.sizeOf3
  v3 := Try.zeroValue3
  t37 := Try.underlying58
  a37 := Try.isAgg58
  z37 := Try.sizeOf58
  v37 := Try.zeroValue58
  t70 := Try.underlying68
  a70 := Try.isAgg68
  z70 := Try.sizeOf68
  v70 := Try.zeroValue68
  t72 := Try.underlying70
  a72 := Try.isAgg70
  z72 := Try.sizeOf70
  v72 := Try.zeroValue70 }
theorem Try.Builder_Len (B b : Nat) (bs : List Value) (w : World) (h : Lib.IsBuilder 70 5 B b bs w) :
    Calls Try.prog 44 #[.pointer (some ⟨b, 0, none⟩)] w fun e w' => e = .returned (.int .i64 bs.length) ∧ w' = w := Any.Builder_Len Try.lays170 B b bs w h
def Try.lays169_ren : Go.Shelf.Ren := ⟨fun | 169 => 46 | n => n, fun | 70 => 68 | 9 => 9 | 0 => 0 | 72 => 70 | 37 => 58 | 127 => 92 | 3 => 3 | 5 => 5 | n => n, fun | n => n⟩
theorem Try.lays169 : Go.Proofs.Lays.n169 Try.prog Try.lays169_ren := {
  mixed := by kernel_rfl
  f169 := Try.func46.trans (congrArg some (by kernel_rfl))
  t0 := Try.underlying0
  a0 := Try.isAgg0
  z0 := Try.sizeOf0
  v0 := Try.zeroValue0
  t3 := Try.underlying3
  a3 := Try.isAgg3
  z3 := Try.sizeOf3
  v3 := Try.zeroValue3
  t9 := Try.underlying9
  a9 := Try.isAgg9
  z9 := Try.sizeOf9
  v9 := Try.zeroValue9
  t37 := Try.underlying58
  a37 := Try.isAgg58
  z37 := Try.sizeOf58
  v37 := Try.zeroValue58
  t70 := Try.underlying68
  a70 := Try.isAgg68
  z70 := Try.sizeOf68
  v70 := Try.zeroValue68
  t72 := Try.underlying70
  a72 := Try.isAgg70
  z72 := Try.sizeOf70
  v72 := Try.zeroValue70
  t127 := Try.underlying92
  a127 := Try.isAgg92
  z127 := Try.sizeOf92
  v127 := Try.zeroValue92 }
theorem Try.Builder_Extra_169 : Builder.Extra Try.prog Try.lays169_ren := {
  sizeBuilder := by kernel_rfl
  liesBuilder := by kernel_rfl
  t5 := Try.underlying5
  a5 := Try.isAgg5
  z5 := Try.sizeOf5
  v5 := Try.zeroValue5
  infoByte := by kernel_rfl
  cellsByte := by kernel_rfl
  sizeByte := by kernel_rfl
  neB5 := by decide }
theorem Try.Builder_String_any (B b : Nat) (l : List UInt8) (w : World) (h : Lib.IsBuilder 70 5 B b (Lib.byteCells l) w) (hBw : B ≤ w.heap.size) :
    Calls Try.prog 46 #[.pointer (some ⟨b, 0, none⟩)] w fun e w' => e = .returned (.string ⟨l.toArray⟩) ∧ Below B w w' := Any.Builder_String_any Try.lays169 Try.Builder_Extra_169 B b l w h hBw
end Go.Proofs

/- What the functions of nat answer, by values of lists. -/
namespace Go.Proofs.Ytdpkfipkjdlmlaa.G
open Go.Gv
theorem trim_loop {R : Rt} {a : Option Addr} {c l : Nat} {xs : List Nat} {h : Hp} (r : Rd h a c xs) (hl : l = xs.length) (g : R (.slice a (trimL xs).length c) h) :
    ∀ n : Nat, n ≤ xs.length → trimL (xs.take n) = trimL xs → nat_trim.L3.t R (n + 1) a l c (n : Int) h := by
  have h1 := r.len
  intro n
  have fin : ∀ n : Nat, n ≤ xs.length → trimL xs = xs.take n → nat_trim.D2.t R a l c (n : Int) h := by
    intro n hn e
    refine sl_to rfl (Nat.le_trans hn r.cap) ?_
    have e2 : (trimL xs).length = n := by rw [e, List.length_take]; omega
    rw [← e2]; exact g
  induction n with
  | zero =>
    intro hn hz
    unfold nat_trim.L3.t nat_trim.D4.t
    refine c_dec (fun h => absurd h (by omega)) fun _ => fin 0 hn ?_
    rw [← hz]; rfl
  | succ n ih =>
    intro hn hz
    refine c_dec (fun _ => ?_) fun h => absurd (by omega) h
    refine k_i64 (n : Int) (by omega) (by omega) (by omega) ?_
    refine at_intro r (j := n) rfl hl (by omega) ?_
    have es := take_snoc (xs := xs) (n := n) (by omega)
    refine c_eq (fun he => ?_) fun he => ?_
    · refine k_i64 (n : Int) (by omega) (by omega) (by omega) ?_
      refine ih (by omega) ?_
      rw [← hz, es, show xs.getD n 0 = 0 by omega, trimL_zero]
    · refine fin (n + 1) hn ?_
      rw [← hz, es, trimL_last _ (by omega)]
theorem trim_spec {a : Option Addr} {c l : Nat} {xs : List Nat} {h : Hp} (r : Rd h a c xs) (hl : l = xs.length) :
    HC nat_trim.id #[.slice a l c] h fun v h' => h' = h ∧ v = .slice a (trimL xs).length c ∧ Rd h a c (trimL xs) := by
  have hr : Rd h a c (trimL xs) := by
    have : ∀ n : Nat, n ≤ xs.length → trimL (xs.take n) = trimL xs → ∃ m, trimL xs = xs.take m := by
      intro n
      induction n with
      | zero => intro _ e; exact ⟨0, by rw [← e]; rfl⟩
      | succ n ih =>
        intro hn e
        have es := take_snoc (xs := xs) (n := n) (by omega)
        by_cases h0 : xs.getD n 0 = 0
        · refine ih (by omega) ?_; rw [← e, es, h0, trimL_zero]
        · refine ⟨n + 1, ?_⟩; rw [← e, es, trimL_last _ h0]
    obtain ⟨m, e⟩ := this xs.length (Nat.le_refl _) (by rw [List.take_length])
    rw [e]; exact r.take m
  refine nat_trim.ok ?_
  unfold nat_trim.t nat_trim.D1.t
  refine ⟨xs.length + 1, ?_⟩
  subst hl
  exact trim_loop r rfl ⟨rfl, rfl, hr⟩ xs.length (Nat.le_refl _) (by rw [List.take_length])
theorem told_spec {a : Option Addr} {c l : Nat} {xs : List Nat} {h0 h : Hp} (g : GotE eU64 h0 h a c xs) (hl : l = xs.length) :
    HC nat_told.id #[.slice a l c] h fun v h' => h' = h ∧ Ans h0 h v (lim (val xs)) := by
  have r := g.rd64
  refine nat_told.ok ?_
  unfold nat_told.t nat_told.D1.t
  refine hc_intro (trim_spec r hl) fun v h' ⟨e1, e2, r'⟩ => ?_
  subst e1; subst e2
  have e := digs_val r.words
  refine c_dec (fun hb => ?_) fun hb => ?_
  · refine ⟨rfl, ?_⟩
    unfold lim; rw [e, if_neg (by omega)]; exact Ans.none
  · refine ⟨rfl, ?_⟩
    unfold lim; rw [e, if_pos (by omega)]; exact Ans.mk rfl rfl g.trim (show In .i64 0 by decide)
theorem Form_spec {a : Option Addr} {c l : Nat} {xs : List Nat} {h : Hp} (r : Rd h a c xs) (hl : l = xs.length) :
    HC nat_Form.id #[.slice a l c] h fun v h' => h' = h ∧ v = .bool (decide (Frm xs)) := by
  subst hl
  have h1 := r.len
  refine nat_Form.ok ?_
  unfold nat_Form.t nat_Form.D1.t
  refine c_dec (fun hb => ?_) fun hb => ?_
  · refine c_eq (fun h0 => ?_) fun h0 => ?_
    · refine ⟨rfl, ?_⟩
      have e : xs = [] := List.length_eq_zero_iff.mp (by omega)
      subst e; rfl
    · refine k_i64 ((xs.length - 1 : Nat) : Int) (by omega) (by omega) (by omega) ?_
      refine at_intro r (j := xs.length - 1) rfl rfl (by omega) ⟨rfl, ?_⟩
      have hiff := @trimL_iff xs
      by_cases hz : xs.getD (xs.length - 1) 0 = 0
      · rw [hz]
        have : ¬ Frm xs := fun f => by
          rcases hiff.mp f.2 with e | e
          · subst e; simp at h0
          · exact e hz
        simp [this]
      · have : Frm xs := ⟨by omega, hiff.mpr (Or.inr hz)⟩
        simp only [this, decide_true]
        congr 1
        exact bne_iff_ne.mpr (by omega)
  · refine ⟨rfl, ?_⟩
    have : ¬ Frm xs := fun f => by have := f.1; omega
    simp [this]
end Go.Proofs.Ytdpkfipkjdlmlaa.G

/- What Len64 and Bits answer. -/
namespace Go.Proofs.Ytdpkfipkjdlmlaa.G
open Go.Gv
set_option maxRecDepth 100000
/-! ### bits -/
theorem shr_k {x : Int} {y : Int} {n : Nat} (hx : x = (n : Int)) (s p : Nat) (hs : s ≤ 64) (hp : p = 2 ^ s) (hy : y = (s : Int)) {K : Int → Prop} (g : K ((n / p : Nat) : Int)) : letK (shrI .u64 x y) K := by
  subst hx; subst hy; subst hp
  refine ⟨?_⟩
  show K (Int.fdiv (n : Int) (2 ^ (min (s : Int).toNat 64)))
  have e : min (s : Int).toNat 64 = s := by omega
  rw [e]
  have e2 : Int.fdiv (n : Int) (2 ^ s) = ((n / 2 ^ s : Nat) : Int) := by
    rw [Int.fdiv_eq_ediv_of_nonneg _ (Int.le_of_lt (Int.pow_pos (by decide)))]
    norm_cast
  rw [e2]; exact g
theorem letK_intro {x y : Int} (e : x = y) {K : Int → Prop} (g : K y) : letK x K := by subst e; exact ⟨g⟩
theorem idxS_intro {s : ByteArray} {x : Int} {n : Nat} {b : UInt8} (hx : x = (n : Int)) (e : s[n]? = some b) {K : Int → Prop} (g : K (b.toNat : Int)) : idxS s x K := by
  subst hx
  refine ⟨by omega, ?_⟩
  rw [Int.toNat_natCast, e]; exact g
theorem tab_ok : (List.range 256).all (fun x => decide ((⟨#[0, 1, 2, 2, 3, 3, 3, 3, 4, 4, 4, 4, 4, 4, 4, 4, 5, 5, 5, 5, 5, 5, 5, 5, 5, 5, 5, 5, 5, 5, 5, 5, 6, 6, 6, 6, 6, 6, 6, 6, 6, 6, 6, 6, 6, 6, 6, 6, 6, 6, 6, 6, 6, 6, 6, 6, 6, 6, 6, 6, 6, 6, 6, 6, 7, 7, 7, 7, 7, 7, 7, 7, 7, 7, 7, 7, 7, 7, 7, 7, 7, 7, 7, 7, 7, 7, 7, 7, 7, 7, 7, 7, 7, 7, 7, 7, 7, 7, 7, 7, 7, 7, 7, 7, 7, 7, 7, 7, 7, 7, 7, 7, 7, 7, 7, 7, 7, 7, 7, 7, 7, 7, 7, 7, 7, 7, 7, 7, 8, 8, 8, 8, 8, 8, 8, 8, 8, 8, 8, 8, 8, 8, 8, 8, 8, 8, 8, 8, 8, 8, 8, 8, 8, 8, 8, 8, 8, 8, 8, 8, 8, 8, 8, 8, 8, 8, 8, 8, 8, 8, 8, 8, 8, 8, 8, 8, 8, 8, 8, 8, 8, 8, 8, 8, 8, 8, 8, 8, 8, 8, 8, 8, 8, 8, 8, 8, 8, 8, 8, 8, 8, 8, 8, 8, 8, 8, 8, 8, 8, 8, 8, 8, 8, 8, 8, 8, 8, 8, 8, 8, 8, 8, 8, 8, 8, 8, 8, 8, 8, 8, 8, 8, 8, 8, 8, 8, 8, 8, 8, 8, 8, 8, 8, 8, 8, 8, 8, 8, 8, 8, 8, 8, 8, 8, 8, 8]⟩ : ByteArray)[x]? = some (UInt8.ofNat (blen x)))) = true := by decide +kernel
theorem Len64_end {R : Rt} {n s : Nat} {x y : Int} (hx : x = (n : Int)) (hy : y = (s : Int)) (hn : n < 256) (hs : s ≤ 64) {h : Hp} (g : R (.int .i64 ((s + blen n : Nat) : Int)) h) : bits_Len64.D4.t R x y h := by
  subst hx; subst hy
  unfold bits_Len64.D4.t
  have hb : blen n ≤ 8 := blen_le.mpr (by omega)
  have ht := List.all_eq_true.mp tab_ok n (by simpa using hn)
  have ht := of_decide_eq_true ht
  have ew : IntKind.u8.wrap (n : Int) = (n : Int) := by
    simp only [IntKind.wrap, IntKind.bits, IntKind.signed, Bool.false_and, Bool.false_eq_true, if_false]; omega
  refine letK_intro ew ?_
  refine idxS_intro rfl ht ?_
  have e2 : ((UInt8.ofNat (blen n)).toNat : Int) = (blen n : Int) := by
    rw [UInt8.toNat_ofNat']; omega
  refine k_i64 (blen n : Int) e2 (by omega) (by omega) ?_
  refine k_i64 ((s + blen n : Nat) : Int) (by omega) (by omega) (by omega) ?_
  exact g
theorem Len64_spec {x : Int} {n : Nat} (hx : x = (n : Int)) (hn : n < 18446744073709551616) (h : Hp) :
    HC bits_Len64.id #[.int .u64 x] h fun v h' => h' = h ∧ v = .int .i64 (blen n : Int) := by
  subst hx
  refine bits_Len64.ok ?_
  unfold bits_Len64.t bits_Len64.D1.t
  have low : ∀ (m s : Nat) (x y : Int), x = (m : Int) → y = (s : Int) → m < 65536 → s ≤ 48 → s + blen m = blen n → bits_Len64.D3.t (fun v h' => h' = h ∧ v = .int .i64 (blen n : Int)) x y h := by
    intro m s x y hx hy hm hs e
    subst hx; subst hy
    unfold bits_Len64.D3.t
    refine c_dec (fun hb => ⟨by omega, ?_⟩) fun hb => ?_
    · refine shr_k rfl 8 256 (by omega) (by omega) rfl ?_
      refine k_i64 ((s + 8 : Nat) : Int) (by omega) (by omega) (by omega) ?_
      have := blen_div m 8
      have hp : 8 < blen m := Nat.lt_of_not_le fun hh => by have := blen_le.mp hh; omega
      refine Len64_end rfl rfl (by omega) (by omega) ⟨rfl, ?_⟩
      rw [← e, show (256 : Nat) = 2 ^ 8 by decide, this]
      congr 2; omega
    · refine Len64_end rfl rfl (by omega) (by omega) ⟨rfl, by rw [e]⟩
  have mid : ∀ (m s : Nat) (x y : Int), x = (m : Int) → y = (s : Int) → m < 4294967296 → s ≤ 32 → s + blen m = blen n → bits_Len64.D2.t (fun v h' => h' = h ∧ v = .int .i64 (blen n : Int)) x y h := by
    intro m s x y hx hy hm hs e
    subst hx; subst hy
    unfold bits_Len64.D2.t
    refine c_dec (fun hb => ⟨by omega, ?_⟩) fun hb => ?_
    · refine shr_k rfl 16 65536 (by omega) (by omega) rfl ?_
      refine k_i64 ((s + 16 : Nat) : Int) (by omega) (by omega) (by omega) ?_
      have := blen_div m 16
      have hp : 16 < blen m := Nat.lt_of_not_le fun hh => by have := blen_le.mp hh; omega
      refine low _ _ _ _ rfl rfl (by omega) (by omega) ?_
      rw [← e, show (65536 : Nat) = 2 ^ 16 by decide, this]; omega
    · exact low _ _ _ _ rfl rfl (by omega) (by omega) e
  refine c_dec (fun hb => ⟨by omega, ?_⟩) fun hb => ?_
  · refine shr_k rfl 32 4294967296 (by omega) (by omega) rfl ?_
    have := blen_div n 32
    have hp : 32 < blen n := Nat.lt_of_not_le fun hh => by have := blen_le.mp hh; omega
    refine mid _ 32 _ _ rfl rfl (by omega) (by omega) ?_
    rw [show (4294967296 : Nat) = 2 ^ 32 by decide, this]; omega
  · exact mid _ 0 _ _ rfl rfl (by omega) (by omega) (by omega)
theorem Bits_spec {a : Option Addr} {c l : Nat} {xs : List Nat} {h : Hp} (r : Rd h a c xs) (hl : l = xs.length) :
    HC nat_Bits.id #[.slice a l c] h fun v h' => h' = h ∧ v = .int .i64 (blen (val xs) : Int) := by
  refine nat_Bits.ok ?_
  unfold nat_Bits.t nat_Bits.D1.t
  refine hc_intro (trim_spec r hl) fun v h' ⟨e1, e2, r'⟩ => ?_
  subst e1; subst e2
  refine gSlice_intro rfl ?_
  rw [← val_trimL xs]
  have h1 := r'.len
  refine c_eq (fun h0 => ⟨rfl, ?_⟩) fun h0 => ?_
  · have e : trimL xs = [] := List.length_eq_zero_iff.mp (by omega)
    rw [e]; rfl
  · obtain ⟨n, hn⟩ : ∃ n, (trimL xs).length = n + 1 := ⟨(trimL xs).length - 1, by omega⟩
    rw [hn]
    refine k_i64 (n : Int) (by omega) (by omega) (by omega) ?_
    refine k_i64 ((64 * n : Nat) : Int) (by omega) (by omega) (by omega) ?_
    refine k_i64 (n : Int) (by omega) (by omega) (by omega) ?_
    refine at_intro r' (j := n) rfl hn.symm (by omega) ?_
    have hlast : (trimL xs).getD n 0 ≠ 0 := by
      rcases trimL_iff.mp (trimL_trimL xs) with e | e
      · rw [e] at hn; simp at hn
      · rwa [hn] at e
    have hb := blen_trim r'.words hn hlast
    have hle : blen ((trimL xs).getD n 0) ≤ 64 := blen_le.mpr (r'.word n)
    refine hc_intro (Len64_spec rfl (r'.word n) _) fun v h' ⟨e1, e2⟩ => ?_
    subst e1; subst e2
    refine gInt_intro rfl ?_
    refine k_i64 (blen (val (trimL xs)) : Int) (by omega) (by omega) (by omega) ⟨rfl, rfl⟩
end Go.Proofs.Ytdpkfipkjdlmlaa.G

/- Steps with bits of words. -/
namespace Go.Proofs.Ytdpkfipkjdlmlaa.G
open Go.Gv
set_option maxRecDepth 100000
/-! ### words and their bits -/
theorem shl_k {x y : Int} {n : Nat} (hx : x = (n : Int)) (s p : Nat) (hs : s ≤ 64) (hp : p = 2 ^ s) (hy : y = (s : Int)) {K : Int → Prop} (g : K ((n * p % 18446744073709551616 : Nat) : Int)) : 0 ≤ y ∧ letK (shlI .u64 x y) K := by
  subst hx; subst hy; subst hp
  refine ⟨by omega, ⟨?_⟩⟩
  show K (IntKind.u64.wrap ((n : Int) * 2 ^ (min (s : Int).toNat 64)))
  have e : min (s : Int).toNat 64 = s := by omega
  rw [e, wrap_u64]
  have e2 : ((n : Int) * 2 ^ s) % 18446744073709551616 = ((n * 2 ^ s % 18446744073709551616 : Nat) : Int) := by
    have e3 : (2 : Int) ^ s = ((2 ^ s : Nat) : Int) := by rw [Int.natCast_pow]; rfl
    rw [e3, ← Int.natCast_mul]; omega
  rw [e2]; exact g
theorem shr_k' {x y : Int} {n : Nat} (hx : x = (n : Int)) (s p : Nat) (hs : s ≤ 64) (hp : p = 2 ^ s) (hy : y = (s : Int)) {K : Int → Prop} (g : K ((n / p : Nat) : Int)) : 0 ≤ y ∧ letK (shrI .u64 x y) K :=
  ⟨by omega, shr_k hx s p hs hp hy g⟩
theorem bv_nat (a : Nat) : BitVec.ofInt 64 (a : Int) = BitVec.ofNat 64 a := BitVec.ofInt_natCast 64 a
theorem or_k {x y : Int} {a b : Nat} (hx : x = (a : Int)) (hy : y = (b : Int)) (ha : a < 18446744073709551616) (hb : b < 18446744073709551616) {K : Int → Prop} (g : K ((a ||| b : Nat) : Int)) : letK (orI .u64 x y) K := by
  subst hx; subst hy
  refine ⟨?_⟩
  show K (IntKind.u64.wrap (BitVec.ofInt 64 (a : Int) ||| BitVec.ofInt 64 (b : Int)).toNat)
  have e : (BitVec.ofInt 64 (a : Int) ||| BitVec.ofInt 64 (b : Int)).toNat = a ||| b := by
    rw [bv_nat, bv_nat, BitVec.toNat_or, BitVec.toNat_ofNat, BitVec.toNat_ofNat, Nat.mod_eq_of_lt (by omega), Nat.mod_eq_of_lt (by omega)]
  have hlt : a ||| b < 18446744073709551616 := Nat.or_lt_two_pow (n := 64) ha hb
  rw [e, wrap_u64' (by omega) (by omega)]; exact g
theorem and_k {x y : Int} {a b : Nat} (hx : x = (a : Int)) (hy : y = (b : Int)) (ha : a < 18446744073709551616) (hb : b < 18446744073709551616) {K : Int → Prop} (g : K ((a &&& b : Nat) : Int)) : letK (andI .u64 x y) K := by
  subst hx; subst hy
  refine ⟨?_⟩
  show K (IntKind.u64.wrap (BitVec.ofInt 64 (a : Int) &&& BitVec.ofInt 64 (b : Int)).toNat)
  have e : (BitVec.ofInt 64 (a : Int) &&& BitVec.ofInt 64 (b : Int)).toNat = a &&& b := by
    rw [bv_nat, bv_nat, BitVec.toNat_and, BitVec.toNat_ofNat, BitVec.toNat_ofNat, Nat.mod_eq_of_lt (by omega), Nat.mod_eq_of_lt (by omega)]
  have hlt : a &&& b ≤ a := Nat.and_le_left
  rw [e, wrap_u64' (by omega) (by omega)]; exact g
theorem k_u64 {x : Int} (y : Nat) (e : x = (y : Int)) (h : y < 18446744073709551616) {K : Int → Prop} (g : K (y : Int)) : letK (IntKind.u64.wrap x) K := by
  subst e; refine ⟨?_⟩; show K _; rw [wrap_u64' (by omega) (by omega)]; exact g
theorem tdiv_nat (n m : Nat) : Int.tdiv (n : Int) (m : Int) = ((n / m : Nat) : Int) := by
  rw [Int.tdiv_eq_ediv_of_nonneg (by omega)]; norm_cast
theorem tmod_nat (n m : Nat) : Int.tmod (n : Int) (m : Int) = ((n % m : Nat) : Int) := by
  rw [Int.tmod_eq_emod_of_nonneg (by omega)]; norm_cast
theorem and32 {x : Int} {n : Nat} (hx : x = (n : Int)) (hn : n < 18446744073709551616) {K : Int → Prop} (g : K ((n % 4294967296 : Nat) : Int)) : letK (andI .u64 x 4294967295) K := by
  refine and_k (b := 4294967295) hx rfl hn (by decide) ?_
  have : n &&& 4294967295 = n % 4294967296 := Nat.and_two_pow_sub_one_eq_mod n 32
  rw [this]; exact g
end Go.Proofs.Ytdpkfipkjdlmlaa.G

/- What Mul64 answers. -/
namespace Go.Proofs.Ytdpkfipkjdlmlaa.G
open Go.Gv
set_option maxRecDepth 100000
/-- A call that answers two words. -/
def Ans2 (v : Value) (a b : Nat) : Prop := v = .tuple #[.int .u64 (a : Int), .int .u64 (b : Int)]
theorem Ans2.elim {v : Value} {a b : Nat} {K : Int → Int → Prop} (e : Ans2 v a b) (g : K (a : Int) (b : Int)) :
    gTup v fun y => uncons y fun v1 y1 => gInt .u64 v1 fun x => uncons y1 fun v2 y2 => gInt .u64 v2 fun z => unnil y2 (K x z) := by
  subst e; exact g
end Go.Proofs.Ytdpkfipkjdlmlaa.G

/- What Div64 answers. -/
namespace Go.Proofs.Ytdpkfipkjdlmlaa.G
open Go.Gv
set_option maxRecDepth 100000
/-! ### division of two words by one -/
theorem Lead_spec {x : Nat} (hx : x < 18446744073709551616) (h : Hp) : HC bits_LeadingZeros64.id #[.int .u64 (x : Int)] h fun v h' => h' = h ∧ v = .int .i64 ((64 - blen x : Nat) : Int) := by
  refine bits_LeadingZeros64.ok ?_
  unfold bits_LeadingZeros64.t bits_LeadingZeros64.D1.t
  refine hc_intro (Len64_spec rfl hx _) fun v h' ⟨e1, e2⟩ => ?_
  subst e1; subst e2
  refine gInt_intro rfl ?_
  have : blen x ≤ 64 := blen_le.mpr hx
  exact k_i64 ((64 - blen x : Nat) : Int) (by omega) (by omega) (by omega) ⟨rfl, rfl⟩
/-- The guess q of a half digit, with its rest r, for u (two halves and one more) by y = (yn1, yn0). -/
structure Guess (u32 u1 yn1 yn0 q r : Nat) : Prop where
  rest : q * yn1 + r = u32
  up : u32 * 4294967296 + u1 < (q + 1) * (yn1 * 4294967296 + yn0)
theorem Guess.big {u32 u1 yn1 yn0 q r : Nat} (g : Guess u32 u1 yn1 yn0 q r) (hy : u32 < yn1 * 4294967296 + yn0) (hu : u1 < 4294967296) (hb : 4294967296 ≤ q ∨ q * yn0 > 4294967296 * r + u1) : 1 ≤ q ∧ Guess u32 u1 yn1 yn0 (q - 1) (r + yn1) := by
  have hq : 1 ≤ q := by
    rcases hb with h | h
    · omega
    · exact Nat.pos_of_ne_zero fun e => by subst e; simp at h
  obtain ⟨p, rfl⟩ : ∃ p, q = p + 1 := ⟨q - 1, by omega⟩
  refine ⟨hq, ?_, ?_⟩
  · have := g.rest
    rw [Nat.add_mul, Nat.one_mul] at this
    rw [Nat.add_sub_cancel]; omega
  · rw [Nat.add_sub_cancel]
    rcases hb with h | h
    · have h1 : 4294967296 * (yn1 * 4294967296 + yn0) ≤ (p + 1) * (yn1 * 4294967296 + yn0) := Nat.mul_le_mul_right _ h
      generalize (p + 1) * (yn1 * 4294967296 + yn0) = z at *; omega
    · have h1 := g.rest
      rw [Nat.mul_add, ← Nat.mul_assoc]
      generalize (p + 1) * yn1 = a at *
      generalize (p + 1) * yn0 = b at *
      omega
theorem Guess.fits {u32 u1 yn1 yn0 q r : Nat} (g : Guess u32 u1 yn1 yn0 q r) (hb : q * yn0 ≤ 4294967296 * r + u1) : q = (u32 * 4294967296 + u1) / (yn1 * 4294967296 + yn0) := by
  have h1 := g.rest
  have h2 : q * (yn1 * 4294967296 + yn0) ≤ u32 * 4294967296 + u1 := by
    rw [Nat.mul_add, ← Nat.mul_assoc]
    generalize q * yn1 = a at *; generalize q * yn0 = b at *; omega
  have h3 := g.up
  have hpos : 0 < yn1 * 4294967296 + yn0 := Nat.pos_of_ne_zero fun e => by rw [e] at h3; simp at h3
  refine (Nat.div_eq_of_lt_le ?_ ?_).symm
  · exact h2
  · exact h3
/-- One half digit's loop, the second of the two. -/
theorem Div_loop2 {R : Rt} {Y s yn1 yn0 u1 Q u32 : Nat} {h : Hp} (hy : u32 < yn1 * 4294967296 + yn0) (hu : u1 < 4294967296) (hy1 : yn1 < 4294967296) (hy0 : yn0 < 4294967296)
    (hD : bits_Div64.D5.t R (Y : Int) (s : Int) (u1 : Int) (Q : Int) (u32 : Int) (((u32 * 4294967296 + u1) / (yn1 * 4294967296 + yn0) : Nat) : Int) h) :
    ∀ (k q r : Nat), Guess u32 u1 yn1 yn0 q r → q ≤ 4294967297 → r < 4294967296 → 4294967296 ≤ r + (k + 1) * yn1 →
      bits_Div64.L6.t R (k + 1) (Y : Int) (s : Int) (yn1 : Int) (yn0 : Int) (u1 : Int) (Q : Int) (r : Int) (u32 : Int) (q : Int) h := by
  intro k
  induction k with
  | zero =>
    intro q r g hq hr hk
    have step : (4294967296 ≤ q ∨ q * yn0 > 4294967296 * r + u1) → bits_Div64.D8.t R (bits_Div64.L6.t R 0) (Y : Int) (s : Int) (yn1 : Int) (yn0 : Int) (u1 : Int) (Q : Int) (r : Int) (u32 : Int) (q : Int) h := by
      intro hb
      obtain ⟨h1, g'⟩ := g.big hy hu hb
      unfold bits_Div64.D8.t
      refine k_u64 (q - 1) (by omega) (by omega) ?_
      refine k_u64 (r + yn1) (by omega) (by omega) ?_
      refine c_dec (fun _ => ?_) fun hh => absurd (by omega) hh
      have hp : (q - 1) * yn0 ≤ 4294967296 * 4294967295 := Nat.mul_le_mul (by omega) (by omega)
      rw [← g'.fits (by omega)] at hD; exact hD
    unfold bits_Div64.L6.t bits_Div64.D7.t
    refine c_dec (fun hb => step (Or.inl (by omega))) fun hb => ?_
    have hp : q * yn0 ≤ 4294967295 * 4294967295 := Nat.mul_le_mul (by omega) (by omega)
    refine k_u64 (q * yn0) (by norm_cast) (by omega) ?_
    refine k_u64 (4294967296 * r) (by omega) (by omega) ?_
    refine k_u64 (4294967296 * r + u1) (by omega) (by omega) ?_
    refine c_dec (fun hb => step (Or.inr (by omega))) fun hb => ?_
    rw [← g.fits (by omega)] at hD; exact hD
  | succ k ih =>
    intro q r g hq hr hk
    have step : (4294967296 ≤ q ∨ q * yn0 > 4294967296 * r + u1) → bits_Div64.D8.t R (bits_Div64.L6.t R (k + 1)) (Y : Int) (s : Int) (yn1 : Int) (yn0 : Int) (u1 : Int) (Q : Int) (r : Int) (u32 : Int) (q : Int) h := by
      intro hb
      obtain ⟨h1, g'⟩ := g.big hy hu hb
      unfold bits_Div64.D8.t
      refine k_u64 (q - 1) (by omega) (by omega) ?_
      refine k_u64 (r + yn1) (by omega) (by omega) ?_
      refine c_dec (fun _ => ?_) fun hh => ?_
      · have hp : (q - 1) * yn0 ≤ 4294967296 * 4294967295 := Nat.mul_le_mul (by omega) (by omega)
        rw [← g'.fits (by omega)] at hD; exact hD
      · refine ih _ _ g' (by omega) (by omega) ?_
        rw [Nat.add_mul, Nat.one_mul] at hk
        omega
    unfold bits_Div64.L6.t bits_Div64.D7.t
    refine c_dec (fun hb => step (Or.inl (by omega))) fun hb => ?_
    have hp : q * yn0 ≤ 4294967295 * 4294967295 := Nat.mul_le_mul (by omega) (by omega)
    refine k_u64 (q * yn0) (by norm_cast) (by omega) ?_
    refine k_u64 (4294967296 * r) (by omega) (by omega) ?_
    refine k_u64 (4294967296 * r + u1) (by omega) (by omega) ?_
    refine c_dec (fun hb => step (Or.inr (by omega))) fun hb => ?_
    rw [← g.fits (by omega)] at hD; exact hD
theorem Div_loop1 {R : Rt} {Y s yn1 yn0 u1 u0 u32 : Nat} {h : Hp} (hy : u32 < yn1 * 4294967296 + yn0) (hu : u1 < 4294967296) (hy1 : yn1 < 4294967296) (hy0 : yn0 < 4294967296)
    (hD : bits_Div64.D4.t R (Y : Int) (s : Int) (yn1 : Int) (yn0 : Int) (u32 : Int) (u1 : Int) (u0 : Int) (((u32 * 4294967296 + u1) / (yn1 * 4294967296 + yn0) : Nat) : Int) h) :
    ∀ (k q r : Nat), Guess u32 u1 yn1 yn0 q r → q ≤ 4294967297 → r < 4294967296 → 4294967296 ≤ r + (k + 1) * yn1 →
      bits_Div64.L11.t R (k + 1) (Y : Int) (s : Int) (yn1 : Int) (yn0 : Int) (u32 : Int) (u1 : Int) (u0 : Int) (q : Int) (r : Int) h := by
  intro k
  induction k with
  | zero =>
    intro q r g hq hr hk
    have step : (4294967296 ≤ q ∨ q * yn0 > 4294967296 * r + u1) → bits_Div64.D13.t R (bits_Div64.L11.t R 0) (Y : Int) (s : Int) (yn1 : Int) (yn0 : Int) (u32 : Int) (u1 : Int) (u0 : Int) (q : Int) (r : Int) h := by
      intro hb
      obtain ⟨h1, g'⟩ := g.big hy hu hb
      unfold bits_Div64.D13.t
      refine k_u64 (q - 1) (by omega) (by omega) ?_
      refine k_u64 (r + yn1) (by omega) (by omega) ?_
      refine c_dec (fun _ => ?_) fun hh => absurd (by omega) hh
      have hp : (q - 1) * yn0 ≤ 4294967296 * 4294967295 := Nat.mul_le_mul (by omega) (by omega)
      rw [← g'.fits (by omega)] at hD; exact hD
    unfold bits_Div64.L11.t bits_Div64.D12.t
    refine c_dec (fun hb => step (Or.inl (by omega))) fun hb => ?_
    have hp : q * yn0 ≤ 4294967295 * 4294967295 := Nat.mul_le_mul (by omega) (by omega)
    refine k_u64 (q * yn0) (by norm_cast) (by omega) ?_
    refine k_u64 (4294967296 * r) (by omega) (by omega) ?_
    refine k_u64 (4294967296 * r + u1) (by omega) (by omega) ?_
    refine c_dec (fun hb => step (Or.inr (by omega))) fun hb => ?_
    rw [← g.fits (by omega)] at hD; exact hD
  | succ k ih =>
    intro q r g hq hr hk
    have step : (4294967296 ≤ q ∨ q * yn0 > 4294967296 * r + u1) → bits_Div64.D13.t R (bits_Div64.L11.t R (k + 1)) (Y : Int) (s : Int) (yn1 : Int) (yn0 : Int) (u32 : Int) (u1 : Int) (u0 : Int) (q : Int) (r : Int) h := by
      intro hb
      obtain ⟨h1, g'⟩ := g.big hy hu hb
      unfold bits_Div64.D13.t
      refine k_u64 (q - 1) (by omega) (by omega) ?_
      refine k_u64 (r + yn1) (by omega) (by omega) ?_
      refine c_dec (fun _ => ?_) fun hh => ?_
      · have hp : (q - 1) * yn0 ≤ 4294967296 * 4294967295 := Nat.mul_le_mul (by omega) (by omega)
        rw [← g'.fits (by omega)] at hD; exact hD
      · refine ih _ _ g' (by omega) (by omega) ?_
        rw [Nat.add_mul, Nat.one_mul] at hk
        omega
    unfold bits_Div64.L11.t bits_Div64.D12.t
    refine c_dec (fun hb => step (Or.inl (by omega))) fun hb => ?_
    have hp : q * yn0 ≤ 4294967295 * 4294967295 := Nat.mul_le_mul (by omega) (by omega)
    refine k_u64 (q * yn0) (by norm_cast) (by omega) ?_
    refine k_u64 (4294967296 * r) (by omega) (by omega) ?_
    refine k_u64 (4294967296 * r + u1) (by omega) (by omega) ?_
    refine c_dec (fun hb => step (Or.inr (by omega))) fun hb => ?_
    rw [← g.fits (by omega)] at hD; exact hD
theorem Guess.first {u32 u1 yn1 yn0 : Nat} (h1 : 0 < yn1) (hu : u1 < 4294967296) : Guess u32 u1 yn1 yn0 (u32 / yn1) (u32 % yn1) := by
  refine ⟨by rw [Nat.mul_comm]; exact Nat.div_add_mod _ _, ?_⟩
  have h2 : u32 < (u32 / yn1 + 1) * yn1 := by
    rw [Nat.add_mul, Nat.one_mul, Nat.mul_comm]
    have := Nat.div_add_mod u32 yn1
    have := Nat.mod_lt u32 h1
    omega
  rw [Nat.mul_add, ← Nat.mul_assoc]
  generalize (u32 / yn1 + 1) * yn1 = a at *
  omega
theorem first_le {u32 yn1 yn0 : Nat} (h1 : 2147483648 ≤ yn1) (hy : u32 < yn1 * 4294967296 + yn0) (hy0 : yn0 < 4294967296) : u32 / yn1 ≤ 4294967297 := by
  have : u32 / yn1 < 4294967298 := by
    rw [Nat.div_lt_iff_lt_mul (by omega)]; omega
  omega
theorem div_is {n y q r : Nat} (e : q * y + r = n) (l : r < y) : n / y = q ∧ n % y = r := by
  have hy : 0 < y := Nat.lt_of_le_of_lt (Nat.zero_le _) l
  subst e
  rw [Nat.add_comm, Nat.mul_comm]
  exact ⟨by rw [Nat.add_mul_div_left _ _ hy, Nat.div_eq_of_lt l, Nat.zero_add], by rw [Nat.add_mul_mod_self_left, Nat.mod_eq_of_lt l]⟩
theorem long_div {u32 u1 u0 Y q1 r1 q0 r0 : Nat} (eU : q1 * Y + r1 = u32 * 4294967296 + u1) (eV : q0 * Y + r0 = r1 * 4294967296 + u0) : (q1 * 4294967296 + q0) * Y + r0 = u32 * 18446744073709551616 + u1 * 4294967296 + u0 := by
  rw [Nat.add_mul, Nat.mul_right_comm]
  generalize q1 * Y = a at *; generalize q0 * Y = b at *; omega
/-- The middle: the first digit is right; the second one is sought. -/
theorem Div_mid {R : Rt} {Y s yn1 yn0 u1 u0 u32 q1 r1 q0 r0 : Nat} {h : Hp} (hY : Y = yn1 * 4294967296 + yn0) (hu0 : u0 < 4294967296) (hy1 : yn1 < 4294967296) (hy2 : 2147483648 ≤ yn1) (hy0 : yn0 < 4294967296) (hs : s < 64)
    (eU : q1 * Y + r1 = u32 * 4294967296 + u1) (lU : r1 < Y) (hq1 : q1 < 4294967296) (eV : q0 * Y + r0 = r1 * 4294967296 + u0) (lV : r0 < Y) (hq0 : q0 < 4294967296)
    (g : R (.tuple #[.int .u64 ((q1 * 4294967296 + q0 : Nat) : Int), .int .u64 ((r0 / 2 ^ s : Nat) : Int)]) h) :
    bits_Div64.D4.t R (Y : Int) (s : Int) (yn1 : Int) (yn0 : Int) (u32 : Int) (u1 : Int) (u0 : Int) (q1 : Int) h := by
  have hYlt : Y < 18446744073709551616 := by omega
  have hq := (div_is eV lV).1
  unfold bits_Div64.D4.t
  refine letK_intro (y := ((u32 * 4294967296 % 18446744073709551616 : Nat) : Int)) (by rw [wrap_u64]; omega) ?_
  refine letK_intro (y := (((u32 * 4294967296 + u1) % 18446744073709551616 : Nat) : Int)) (by rw [wrap_u64]; omega) ?_
  refine letK_intro (y := ((q1 * Y % 18446744073709551616 : Nat) : Int)) (by rw [wrap_u64, ← Int.natCast_mul]; omega) ?_
  refine letK_intro (y := (r1 : Int)) (by rw [wrap_u64]; generalize q1 * Y = z at *; omega) ?_
  have hd1 : r1 / yn1 ≤ 4294967297 := first_le hy2 (by omega) hy0
  refine ⟨by omega, k_u64 (r1 / yn1) (tdiv_nat _ _) (by omega) ?_⟩
  have hm1 : r1 / yn1 * yn1 ≤ r1 := Nat.div_mul_le_self _ _
  have hmm : r1 % yn1 = r1 - r1 / yn1 * yn1 := by
    have := Nat.div_add_mod r1 yn1
    rw [Nat.mul_comm] at this; omega
  have hlt := Nat.mod_lt r1 (show 0 < yn1 by omega)
  refine k_u64 (r1 / yn1 * yn1) (by rw [Int.natCast_mul]) (by omega) ?_
  refine k_u64 (r1 % yn1) (by omega) (by omega) ?_
  refine ⟨1 + 1, ?_⟩
  refine Div_loop2 (by omega) hu0 hy1 hy0 ?_ 1 _ _ (Guess.first (by omega) hu0) hd1 (by omega) (by omega)
  rw [← hY, hq]
  unfold bits_Div64.D5.t
  refine k_u64 (q1 * 4294967296) (by omega) (by omega) ?_
  refine k_u64 (q1 * 4294967296 + q0) (by omega) (by omega) ?_
  refine letK_intro (y := ((r1 * 4294967296 % 18446744073709551616 : Nat) : Int)) (by rw [wrap_u64]; omega) ?_
  refine letK_intro (y := (((r1 * 4294967296 + u0) % 18446744073709551616 : Nat) : Int)) (by rw [wrap_u64]; omega) ?_
  refine letK_intro (y := ((q0 * Y % 18446744073709551616 : Nat) : Int)) (by rw [wrap_u64, ← Int.natCast_mul]; omega) ?_
  refine letK_intro (y := (r0 : Int)) (by rw [wrap_u64]; generalize q0 * Y = z at *; omega) ?_
  exact shr_k' rfl s _ (by omega) rfl rfl g
theorem split_lo (U L : Nat) : U * 18446744073709551616 + L / 4294967296 * 4294967296 + L % 4294967296 = U * 18446744073709551616 + L := by omega
theorem Div64_spec {hi lo y : Nat} (hh : hi < y) (hl : lo < 18446744073709551616) (hy : y < 18446744073709551616) (h : Hp) :
    HC bits_Div64.id #[.int .u64 (hi : Int), .int .u64 (lo : Int), .int .u64 (y : Int)] h fun v h' => h' = h ∧ Ans2 v ((hi * 18446744073709551616 + lo) / y) ((hi * 18446744073709551616 + lo) % y) := by
  refine bits_Div64.ok ?_
  unfold bits_Div64.t bits_Div64.D1.t
  refine c_eq (fun hz => absurd hz (by omega)) fun hz => ?_
  unfold bits_Div64.D2.t
  refine c_dec (fun hz => absurd hz (by omega)) fun hz => ?_
  unfold bits_Div64.D3.t
  refine c_eq (fun h0 => ?_) fun h0 => ?_
  · have e : hi = 0 := by omega
    subst e
    have hdl := Nat.div_le_self lo y
    refine ⟨by omega, k_u64 (lo / y) (tdiv_nat _ _) (by omega) ?_⟩
    refine ⟨by omega, letK_intro (tmod_nat _ _) ?_⟩
    rw [Nat.zero_mul, Nat.zero_add]; exact ⟨rfl, rfl⟩
  · refine hc_intro (Lead_spec hy _) fun v h' ⟨e1, e2⟩ => ?_
    subst e1; subst e2
    refine gInt_intro rfl ?_
    have hb1 : blen y ≤ 64 := blen_le.mpr hy
    have hb0 := blen_pos (show y ≠ 0 by omega)
    obtain ⟨s, hs⟩ : ∃ s, s = 64 - blen y := ⟨_, rfl⟩
    rw [← hs]
    have hs63 : s ≤ 63 := by omega
    refine k_u64 s rfl (by omega) ?_
    -- the divisor, moved up
    have hp0 : 0 < 2 ^ s := Nat.pow_pos (by decide)
    have hYlt : y * 2 ^ s < 18446744073709551616 := by
      have := blen_le (n := y * 2 ^ s) (k := 64)
      rw [blen_mul s (by omega)] at this
      exact this.mp (by omega)
    have hYge : 9223372036854775808 ≤ y * 2 ^ s := Nat.le_of_not_lt fun hlt => by
      have := (blen_le (n := y * 2 ^ s) (k := 63)).mpr hlt
      rw [blen_mul s (by omega)] at this; omega
    have hqs : 2 ^ s * 2 ^ (64 - s) = 18446744073709551616 := pq (by omega)
    have hi1 : hi * 2 ^ s + 2 ^ s ≤ y * 2 ^ s := by
      have := Nat.mul_le_mul_right (2 ^ s) hh
      rw [Nat.succ_mul] at this; exact this
    have hlo : lo / 2 ^ (64 - s) < 2 ^ s := by
      rw [Nat.div_lt_iff_lt_mul (Nat.pow_pos (by decide)), hqs]; exact hl
    have elo : lo * 2 ^ s = lo / 2 ^ (64 - s) * 18446744073709551616 + lo * 2 ^ s % 18446744073709551616 := by
      have e : lo * 2 ^ s / 18446744073709551616 = lo / 2 ^ (64 - s) := by
        rw [← hqs, Nat.mul_comm lo, Nat.mul_div_mul_left _ _ hp0]
      have := Nat.div_add_mod (lo * 2 ^ s) 18446744073709551616
      rw [e] at this; omega
    have eN : (hi * 18446744073709551616 + lo) * 2 ^ s = (hi * 2 ^ s + lo / 2 ^ (64 - s)) * 18446744073709551616 + lo * 2 ^ s % 18446744073709551616 := by
      rw [Nat.add_mul, Nat.mul_right_comm]
      generalize hi * 2 ^ s = a at *
      generalize lo * 2 ^ s = b at *
      omega
    have eor : hi * 2 ^ s ||| lo / 2 ^ (64 - s) = hi * 2 ^ s + lo / 2 ^ (64 - s) := by
      rw [Nat.mul_comm, ← Nat.two_pow_add_eq_or_of_lt hlo]
    refine shl_k rfl s _ (by omega) rfl rfl ?_
    rw [Nat.mod_eq_of_lt hYlt]
    refine shr_k' rfl 32 4294967296 (by omega) (by decide) (by omega) ?_
    refine and32 rfl hYlt ?_
    refine shl_k rfl s _ (by omega) rfl rfl ?_
    rw [Nat.mod_eq_of_lt (show hi * 2 ^ s < 18446744073709551616 by omega)]
    refine k_u64 (64 - s) (by omega) (by omega) ?_
    refine shr_k' rfl (64 - s) _ (by omega) rfl rfl ?_
    have hlo64 : lo / 2 ^ (64 - s) < 18446744073709551616 := Nat.lt_of_le_of_lt (Nat.div_le_self _ _) hl
    refine or_k rfl rfl (by omega) hlo64 ?_
    rw [eor]
    refine shl_k rfl s _ (by omega) rfl rfl ?_
    have hl2 : lo * 2 ^ s % 18446744073709551616 < 18446744073709551616 := Nat.mod_lt _ (by decide)
    refine shr_k' rfl 32 4294967296 (by omega) (by decide) (by omega) ?_
    refine and32 rfl hl2 ?_
    -- names
    have g1 : (hi * 18446744073709551616 + lo) / y = ((hi * 2 ^ s + lo / 2 ^ (64 - s)) * 18446744073709551616 + lo * 2 ^ s % 18446744073709551616) / (y * 2 ^ s) := by
      rw [← eN, Nat.mul_div_mul_right _ _ hp0]
    have g2 : (hi * 18446744073709551616 + lo) % y = ((hi * 2 ^ s + lo / 2 ^ (64 - s)) * 18446744073709551616 + lo * 2 ^ s % 18446744073709551616) % (y * 2 ^ s) / 2 ^ s := by
      rw [← eN, Nat.mul_mod_mul_right, Nat.mul_div_cancel _ hp0]
    have hU : hi * 2 ^ s + lo / 2 ^ (64 - s) < y * 2 ^ s := by omega
    rw [g1, g2]
    generalize hi * 2 ^ s + lo / 2 ^ (64 - s) = U at *
    generalize lo * 2 ^ s % 18446744073709551616 = L at *
    generalize y * 2 ^ s = Y at *
    have hy2 : 2147483648 ≤ Y / 4294967296 := by omega
    have hd1 : U / (Y / 4294967296) ≤ 4294967297 := first_le (yn0 := Y % 4294967296) hy2 (by omega) (by omega)
    refine ⟨by omega, k_u64 (U / (Y / 4294967296)) (tdiv_nat _ _) (by omega) ?_⟩
    have hm1 : U / (Y / 4294967296) * (Y / 4294967296) ≤ U := Nat.div_mul_le_self _ _
    have hmm : U % (Y / 4294967296) = U - U / (Y / 4294967296) * (Y / 4294967296) := by
      have := Nat.div_add_mod U (Y / 4294967296)
      rw [Nat.mul_comm] at this; omega
    have hlt := Nat.mod_lt U (show 0 < Y / 4294967296 by omega)
    refine k_u64 (U / (Y / 4294967296) * (Y / 4294967296)) (by rw [Int.natCast_mul]) (by omega) ?_
    refine k_u64 (U % (Y / 4294967296)) (by omega) (by omega) ?_
    refine ⟨1 + 1, ?_⟩
    refine Div_loop1 (by omega) (by omega) (by omega) (by omega) ?_ 1 _ _ (Guess.first (by omega) (by omega)) hd1 (by omega) (by omega)
    have eY : Y / 4294967296 * 4294967296 + Y % 4294967296 = Y := by omega
    rw [eY]
    have hYp : 0 < Y := Nat.lt_of_le_of_lt (Nat.zero_le _) hU
    have eU : (U * 4294967296 + L / 4294967296) / Y * Y + (U * 4294967296 + L / 4294967296) % Y = U * 4294967296 + L / 4294967296 := by rw [Nat.mul_comm]; exact Nat.div_add_mod _ _
    have lU := Nat.mod_lt (U * 4294967296 + L / 4294967296) hYp
    have hq1 : (U * 4294967296 + L / 4294967296) / Y < 4294967296 := by
      rw [Nat.div_lt_iff_lt_mul hYp]; omega
    obtain ⟨q1, hq1e⟩ : ∃ q1, q1 = (U * 4294967296 + L / 4294967296) / Y := ⟨_, rfl⟩
    obtain ⟨r1, hr1e⟩ : ∃ r1, r1 = (U * 4294967296 + L / 4294967296) % Y := ⟨_, rfl⟩
    rw [← hq1e, ← hr1e] at eU
    rw [← hr1e] at lU
    rw [← hq1e] at hq1 ⊢
    have eV : (r1 * 4294967296 + L % 4294967296) / Y * Y + (r1 * 4294967296 + L % 4294967296) % Y = r1 * 4294967296 + L % 4294967296 := by rw [Nat.mul_comm]; exact Nat.div_add_mod _ _
    have lV := Nat.mod_lt (r1 * 4294967296 + L % 4294967296) hYp
    have hq0 : (r1 * 4294967296 + L % 4294967296) / Y < 4294967296 := by
      rw [Nat.div_lt_iff_lt_mul hYp]; omega
    refine Div_mid eY.symm (by omega) (by omega) hy2 (by omega) (by omega) eU lU hq1 eV lV hq0 ?_
    have el := div_is (long_div eU eV) lV
    rw [split_lo] at el
    rw [el.1, el.2]; exact ⟨rfl, rfl⟩
end Go.Proofs.Ytdpkfipkjdlmlaa.G

/- What DivWord answers. -/
namespace Go.Proofs.Ytdpkfipkjdlmlaa.G
open Go.Gv
set_option maxRecDepth 100000
/-- quotient, rest and error; errors as the code gives them. -/
def divWS (xs : List Nat) (w : Nat) : List Nat × Int × Int := if Frm xs then (if w = 0 then ([], 0, 4) else (digs (val xs / w), ((val xs % w : Nat) : Int), 0)) else ([], 0, 2)
abbrev Ans3 : An (List Nat × Int × Int) := s3 sW (sI .u64) (sI .i64)
theorem Ans3.elim {h0 h : Hp} {v : Value} {p : List Nat × Int × Int} {K : Option Addr → Nat → Nat → Int → Int → Prop} (a : Ans3 h0 h v p) (g : ∀ a c, GotE eU64 h0 h a c p.1 → K a p.1.length c p.2.1 p.2.2) :
    gTup v fun y => uncons y fun v1 y1 => gSlice v1 fun a l c => uncons y1 fun v2 y2 => gInt .u64 v2 fun x => uncons y2 fun v3 y3 => gInt .i64 v3 fun z => unnil y3 (K a l c x z) := by
  obtain ⟨x, y, z, e, ⟨a, c, e1, r⟩, ⟨e2, _⟩, e3, _⟩ := a
  subst e; subst e1; subst e2; subst e3; exact g a c r
theorem DivWord_walk {R : Rt} {a : Option Addr} {c l w z y : Nat} {xs : List Nat} {h0 : Hp} {q : Nat} (r : Rd h0 a c xs) (hl : l = xs.length) (hq : h0.size ≤ q) (hx : xs.length ≤ 8192) (hw : w < 18446744073709551616) (hz : z = xs.length) (hy : y = xs.length)
    (g : ∀ v h', Keep h0 h' → Ans3 h0 h' v (digs (val xs / w), ((val xs % w : Nat) : Int), 0) → R v h') :
    ∀ (n le : Nat) (zs : List Nat) (h : Hp), n ≤ xs.length → zs.length = xs.length → le < w → Own h q zs → Keep h0 h → val (zs.drop n) * w + le = val (xs.drop n) →
      nat_DivWord.L4.t R (n + 1) a l c (w : Int) (some ⟨q, 0, none⟩) z y (le : Int) ((n : Int) - 1) h := by
  subst hl
  intro n
  induction n with
  | zero =>
    intro le zs h hn hzs hc ho kp e
    unfold nat_DivWord.L4.t nat_DivWord.D5.t
    refine c_dec (fun hb => absurd hb (by omega)) fun _ => ?_
    rw [List.drop_zero, List.drop_zero] at e
    have hd := div_is e hc
    unfold nat_DivWord.D2.t
    refine hc_intro (told_spec (ho.got' (c := y) hq (by omega)) (by omega)) fun v h' ⟨e1, an⟩ => ?_
    subst e1
    have hlen : (digs (val zs)).length ≤ 8192 := by
      rw [digs_val ho.words]
      have := trimL_le zs; omega
    have el : lim (val zs) = (digs (val zs), 0) := by unfold lim; rw [if_pos hlen]
    rw [el] at an
    refine an.elimG fun a c r _ => ?_
    refine g _ _ kp ?_
    rw [hd.1, hd.2]; exact ⟨_, _, _, rfl, ⟨_, _, rfl, r⟩, ⟨rfl, by rw [in_u64]; show 0 ≤ (le : Int) ∧ (le : Int) < 18446744073709551616; omega⟩, rfl, (by decide : In .i64 0)⟩
  | succ n ih =>
    intro le zs h hn hzs hc ho kp e
    have hxn : xs.getD n 0 < 18446744073709551616 := r.word n
    unfold nat_DivWord.L4.t nat_DivWord.D5.t
    refine c_dec (fun hb => ?_) fun hb => absurd (by omega) hb
    refine at_intro (r.keep kp) (j := n) (by omega) rfl (by omega) ?_
    refine hc_intro (Div64_spec hc hxn hw _) fun v h' ⟨e1, an⟩ => ?_
    subst e1
    refine an.elim ?_
    have hwp : 0 < w := Nat.lt_of_le_of_lt (Nat.zero_le _) hc
    have hq1 : (le * 18446744073709551616 + xs.getD n 0) / w < 18446744073709551616 := by
      rw [Nat.div_lt_iff_lt_mul hwp]; omega
    have eD := Nat.div_add_mod (le * 18446744073709551616 + xs.getD n 0) w
    have lD := Nat.mod_lt (le * 18446744073709551616 + xs.getD n 0) hwp
    refine put_intro ho (j := n) (by omega) (by omega) (by omega) rfl hq1 fun o => ?_
    refine k_i64 ((n : Int) - 1) (by omega) (by omega) (by omega) ?_
    refine ih _ _ _ (by omega) (by simp; omega) lD o (kp.set hq) ?_
    have ed : (zs.set n ((le * 18446744073709551616 + xs.getD n 0) / w)).drop n = (le * 18446744073709551616 + xs.getD n 0) / w :: zs.drop (n + 1) := by
      rw [drop_getD (by simp; omega), List.drop_set_of_lt (by omega)]
      simp [List.getD, show n < zs.length by omega]
    rw [ed, drop_getD (xs := xs) (by omega)]
    simp only [val]
    rw [Nat.add_mul, Nat.mul_assoc, Nat.mul_comm _ w]
    generalize w * ((le * 18446744073709551616 + xs.getD n 0) / w) = A at *
    generalize (le * 18446744073709551616 + xs.getD n 0) % w = B at *
    generalize val (zs.drop (n + 1)) * w = C at *
    omega
theorem DivWord_spec {a : Option Addr} {c l w : Nat} {xs : List Nat} {h : Hp} (r : Rd h a c xs) (hl : l = xs.length) (hw : w < 18446744073709551616) :
    HC nat_DivWord.id #[.slice a l c, .int .u64 (w : Int)] h fun v h' => Keep h h' ∧ Ans3 h h' v (divWS xs w) := by
  refine nat_DivWord.ok ?_
  unfold nat_DivWord.t nat_DivWord.D1.t
  refine hc_intro (Form_spec r hl) fun v h' ⟨e1, e2⟩ => ?_
  subst e1; subst e2; subst hl
  refine gBool_intro rfl ?_
  have nil : ∀ x : Int, In .i64 x → Ans3 h' h' (.tuple #[.slice none 0 0, .int .u64 0, .int .i64 x]) ([], 0, x) := fun x i => ⟨_, _, _, rfl, ⟨none, 0, rfl, GotE.nil _ _⟩, ⟨rfl, (by decide : In .u64 0)⟩, rfl, i⟩
  refine c_not (fun hf => ⟨Keep.refl _, ?_⟩) fun hf => ?_
  · unfold divWS; rw [if_neg (of_decide_eq_false hf)]; exact nil 2 (by decide)
  have hf0 := of_decide_eq_true hf
  have hf1 := hf0.1
  unfold divWS; rw [if_pos hf0]
  refine c_eq (fun h0 => ⟨Keep.refl _, ?_⟩) fun h0 => ?_
  · rw [if_pos (by omega)]; exact nil 4 (by decide)
  have hw0 : ¬ w = 0 := by omega
  simp only [if_neg hw0]
  refine mk_intro xs.length rfl rfl rfl rfl (by omega) fun h1 o k => ?_
  unfold nat_DivWord.D3.t
  refine k_i64 ((xs.length : Int) - 1) rfl (by omega) (by omega) ?_
  refine ⟨xs.length + 1, ?_⟩
  refine DivWord_walk r rfl (Nat.le_refl _) hf1 hw rfl rfl (fun v h' k an => ⟨k, an⟩) xs.length 0 _ h1 (Nat.le_refl _) (by simp) (by omega) o k ?_
  rw [List.drop_length, List.drop_of_length_le (by simp)]; simp [val]
end Go.Proofs.Ytdpkfipkjdlmlaa.G

/- What Shl, Shr and Low answer. -/
namespace Go.Proofs.Ytdpkfipkjdlmlaa.G
open Go.Gv
set_option maxRecDepth 100000
/-! ### to the left -/
/-! ### to the right -/
/-! ### the lowest bits -/
end Go.Proofs.Ytdpkfipkjdlmlaa.G

/- What Cmp answers. -/
namespace Go.Proofs.Ytdpkfipkjdlmlaa.G
open Go.Gv
set_option maxRecDepth 100000
end Go.Proofs.Ytdpkfipkjdlmlaa.G

/- What the digits' calls of the reference answer: Norm, From, To, Word, Cmp, Add. -/
namespace Go.Proofs.Ytdpkfipkjdlmlaa.G
open Go.Gv
set_option maxRecDepth 100000
set_option linter.unusedVariables false
theorem k_u32 {x : Int} (y : Nat) (e : x = (y : Int)) (h : y < 4294967296) {K : Int → Prop} (g : K (y : Int)) : letK (IntKind.u32.wrap x) K := by
  subst e; refine ⟨?_⟩; show K _
  have : IntKind.u32.wrap (y : Int) = (y : Int) := by
    simp only [IntKind.wrap, IntKind.bits, IntKind.signed, Bool.false_and, Bool.false_eq_true, if_false]; omega
  rw [this]; exact g
theorem shr32 {x : Int} {n : Nat} (hx : x = (n : Int)) {K : Int → Prop} (g : K ((n / 4294967296 : Nat) : Int)) : 0 ≤ (32 : Int) ∧ letK (shrI .u64 x 32) K :=
  shr_k' hx 32 4294967296 (by decide) (by decide) rfl g
theorem shl32 {x : Int} {n : Nat} (hx : x = (n : Int)) (hn : n < 4294967296) {K : Int → Prop} (g : K ((n * 4294967296 : Nat) : Int)) : 0 ≤ (32 : Int) ∧ letK (shlI .u64 x 32) K := by
  refine shl_k hx 32 4294967296 (by decide) (by decide) rfl ?_
  rw [Nat.mod_eq_of_lt (by omega)]; exact g
/-! ### Norm -/
theorem rNorm_end {R : Rt} {a : Option Addr} {c l : Nat} {xs : List Nat} {h : Hp} (r : RdE eU32 h a c xs) (hl : l = xs.length) (n : Nat) (hn : n ≤ xs.length) (e : trimL xs = xs.take n) (g : ∀ v h', Keep h h' → sD h h' v (D.val xs) → R v h') : gnomonref01_Norm.D2.t R a l c (n : Int) h := by
  have h1 := r.len32
  unfold gnomonref01_Norm.D2.t
  refine mkE eU32 0 n n rfl ok32 4 rfl (by decide) rfl rfl (Nat.le_refl _) (by omega) fun h2 o k => ?_
  refine sl_to rfl (Nat.le_trans hn r.cap) ?_
  have r2 := (r.take n).keep k
  have hlt : (xs.take n).length = n := by rw [List.length_take]; omega
  refine cpE o r2 (by simp) hlt.symm fun h3 o3 k3 => ?_
  have e3 : (xs.take n).take (min (xs.take n).length n) ++ (List.replicate n 0).drop (min (xs.take n).length n) = D.digs (D.val xs) := by
    rw [D.digs_val r.ok, e, hlt, Nat.min_self, List.take_take]; simp
  rw [Int.toNat_natCast] at o3 ⊢
  rw [e3] at o3
  refine g _ _ (k3.keep k (Nat.le_refl _)) ⟨some ⟨h.size, 0, none⟩, n, ?_, o3.got' (Nat.le_refl _) (by rw [D.digs_val r.ok, e, hlt]; show n ≤ 70368744177656; omega) ?_⟩
  · rw [D.digs_val r.ok, e, hlt]
  · rw [D.digs_val r.ok, e, hlt]
theorem rNorm_loop {R : Rt} {a : Option Addr} {c l : Nat} {xs : List Nat} {h : Hp} (r : RdE eU32 h a c xs) (hl : l = xs.length) (g : ∀ v h', Keep h h' → sD h h' v (D.val xs) → R v h') :
    ∀ n : Nat, n ≤ xs.length → trimL (xs.take n) = trimL xs → gnomonref01_Norm.L3.t R (n + 1) a l c (n : Int) h := by
  have h1 := r.len32
  intro n
  induction n with
  | zero =>
    intro hn hz
    unfold gnomonref01_Norm.L3.t gnomonref01_Norm.D4.t
    refine c_dec (fun h => absurd h (by omega)) fun _ => rNorm_end r hl 0 hn ?_ g
    rw [← hz]; rfl
  | succ n ih =>
    intro hn hz
    refine c_dec (fun _ => ?_) fun h => absurd (by omega) h
    refine k_i64 (n : Int) (by omega) (by omega) (by omega) ?_
    refine at32 r (j := n) rfl hl (by omega) ?_
    have es := take_snoc (xs := xs) (n := n) (by omega)
    refine c_eq (fun he => ?_) fun he => ?_
    · refine k_i64 (n : Int) (by omega) (by omega) (by omega) ?_
      refine ih (by omega) ?_
      rw [← hz, es, show xs.getD n 0 = 0 by omega, trimL_zero]
    · refine rNorm_end r hl (n + 1) hn ?_ g
      rw [← hz, es, trimL_last _ (by omega)]
theorem rNorm_spec {a : Option Addr} {c l : Nat} {xs : List Nat} {h : Hp} (r : RdE eU32 h a c xs) (hl : l = xs.length) :
    HC gnomonref01_Norm.id #[.slice a l c] h fun v h' => Keep h h' ∧ sD h h' v (D.val xs) := by
  refine gnomonref01_Norm.ok ?_
  unfold gnomonref01_Norm.t gnomonref01_Norm.D1.t
  refine ⟨xs.length + 1, ?_⟩
  subst hl
  exact rNorm_loop r rfl (fun v h' k s => ⟨k, s⟩) xs.length (Nat.le_refl _) (by rw [List.take_length])
/-- The end of most calls: Norm of the list that was made. -/
theorem rNorm_tail {h0 h : Hp} {a : Option Addr} {c l X : Nat} {xs : List Nat} (g : GotE eU32 h0 h a c xs) (hl : l = xs.length) (hX : D.val xs = X) (k : Keep h0 h) {R : Rt} (post : ∀ v h', Keep h0 h' → sD h0 h' v X → R v h') :
    HC gnomonref01_Norm.id #[.slice a l c] h fun v h' => gSlice v fun a l c => R (.slice a l c) h' := by
  subst hX
  refine hc_intro (rNorm_spec g.rd hl) fun v h' ⟨k2, s⟩ => ?_
  refine s.elim fun a2 c2 g2 => ?_
  exact post _ _ (k.trans k2) ⟨_, _, rfl, g2.from k.le⟩
/-! ### From -/
theorem From_walk {R : Rt} {a : Option Addr} {c l : Nat} {xs : List Nat} {h0 : Hp} (r : Rd h0 a c xs) (hl : l = xs.length) (post : ∀ v h', Keep h0 h' → sD h0 h' v (val xs) → R v h') :
    ∀ (k i : Nat) (a2 : Option Addr) (h : Hp), i + k = xs.length → GotE eU32 h0 h a2 (2 * xs.length) (split (xs.take i)) → Keep h0 h →
      gnomonref01_From.L4.t R (k + 1) a l c a2 (2 * i) (2 * xs.length) (i : Int) h := by
  subst hl
  have h1 := r.len
  intro k
  induction k with
  | zero =>
    intro i a2 h hi g kp
    unfold gnomonref01_From.L4.t gnomonref01_From.D5.t
    refine c_dec (fun hb => absurd hb (by omega)) fun _ => ?_
    unfold gnomonref01_From.D2.t
    refine rNorm_tail g ?_ ?_ kp post
    · rw [split_len, List.length_take]; omega
    · rw [split_val, List.take_of_length_le (by omega)]
  | succ k ih =>
    intro i a2 h hi g kp
    have hw := r.word i
    unfold gnomonref01_From.L4.t gnomonref01_From.D5.t
    refine c_dec (fun _ => ?_) fun hb => absurd (by omega) hb
    refine at_intro (r.keep kp) (j := i) rfl rfl (by omega) ?_
    refine and32 rfl hw ?_
    refine k_u32 (xs.getD i 0 % 4294967296) rfl (by omega) ?_
    refine at_intro (r.keep kp) (j := i) rfl rfl (by omega) ?_
    refine shr32 rfl ?_
    refine k_u32 (xs.getD i 0 / 4294967296) rfl (by omega) ?_
    have hlen : (split (xs.take i)).length = 2 * i := by rw [split_len, List.length_take]; omega
    refine pushE eU32 g kp [xs.getD i 0 % 4294967296, xs.getD i 0 / 4294967296] rfl (fun y hy => ?_) hlen.symm rfl rfl 0 rfl ok32 4 rfl (by decide) ?_ ?_ fun a' c' h' g' k' hc => ?_
    · simp only [List.mem_cons, List.not_mem_nil, or_false] at hy
      show y < 4294967296
      rcases hy with e | e <;> omega
    · rw [hlen]; show 2 * i + 2 ≤ 70368744177656; omega
    · rw [hlen]; intro hh; simp at hh; omega
    · have hc2 := hc (by rw [hlen]; simp; omega)
      subst hc2
      refine k_i64 ((i + 1 : Nat) : Int) (by omega) (by omega) (by omega) ?_
      rw [hlen]
      have e : split (xs.take (i + 1)) = split (xs.take i) ++ [xs.getD i 0 % 4294967296, xs.getD i 0 / 4294967296] := by
        rw [take_snoc (by omega), split_append]; rfl
      rw [← e] at g'
      exact ih (i + 1) a' h' (by omega) g' k'
theorem From_spec {a : Option Addr} {c l : Nat} {xs : List Nat} {h : Hp} (r : Rd h a c xs) (hl : l = xs.length) :
    HC gnomonref01_From.id #[.slice a l c] h fun v h' => Keep h h' ∧ sD h h' v (val xs) := by
  refine gnomonref01_From.ok ?_
  unfold gnomonref01_From.t gnomonref01_From.D1.t
  subst hl
  have h1 := r.len
  refine k_i64 ((2 * xs.length : Nat) : Int) (by omega) (by omega) (by omega) ?_
  refine mkE eU32 0 0 (2 * xs.length) rfl ok32 4 rfl (by decide) rfl rfl (by omega) (by omega) fun h2 o k => ?_
  unfold gnomonref01_From.D3.t
  refine ⟨xs.length + 1, ?_⟩
  rw [Int.toNat_natCast]
  refine From_walk r rfl (fun v h' k s => ⟨k, s⟩) xs.length 0 _ h2 (by omega) ?_ k
  exact BlkE.got (xs := split (xs.take 0)) (rest := List.replicate (2 * xs.length) 0) (by simpa [split] using o) (Nat.le_refl _) (by simp [split]) (by simp [split]) (by simp [split])
/-! ### To -/
/-! ### Word -/
/-! ### Cmp -/
/-! ### Add -/
end Go.Proofs.Ytdpkfipkjdlmlaa.G

/- What the digits' calls of the reference answer: Bits, Bit, Mul, DivSmall, Shr, Low. -/
namespace Go.Proofs.Ytdpkfipkjdlmlaa.G
open Go.Gv
set_option maxRecDepth 100000
set_option linter.unusedVariables false
theorem put32 {h0 h : Hp} {b l : Nat} {zs : List Nat} (o : BlkE eU32 h b zs) (kp : Keep h0 h) (hb : h0.size ≤ b) {i : Int} {j : Nat} (hi : i = (j : Int)) (hl : l = zs.length) (hj : j < zs.length) {x : Int} {v : Nat} (hx : x = (v : Int)) (hv : v < 4294967296) {K : Hp → Prop}
    (g : ∀ h', BlkE eU32 h' b (zs.set j v) → Keep h0 h' → K h') : idxK (some ⟨b, 0, none⟩) l i 1 fun q => stK h q (.int .u32 x) K :=
  putE0 o hi (by omega) hj (by rw [hx]; rfl) hv fun o2 k2 => g _ o2 (k2.keep kp hb)
/-! ### Bits -/
/-! ### Mul -/
/-! ### DivSmall -/
theorem rDivSmall_walk {R : Rt} {a : Option Addr} {c w q : Nat} {xs : List Nat} {h0 : Hp} (r : RdE eU32 h0 a c xs) (hq : h0.size ≤ q) (hw : w < 4294967296) (hw0 : 0 < w)
    (post : ∀ v h', Keep h0 h' → (∃ a' c', v = .tuple #[.slice a' (D.digs (D.val xs / w)).length c', .int .u32 ((D.val xs % w : Nat) : Int)] ∧ GotE eU32 h0 h' a' c' (D.digs (D.val xs / w))) → R v h') :
    ∀ (n le : Nat) (zs : List Nat) (h : Hp), n ≤ xs.length → zs.length = xs.length → le < w → BlkE eU32 h q zs → Keep h0 h → D.val (zs.drop n) * w + le = D.val (xs.drop n) →
      gnomonref01_DivSmall.L4.t R (n + 1) a xs.length c (w : Int) (some ⟨q, 0, none⟩) xs.length xs.length (le : Int) ((n : Int) - 1) h := by
  have h1 := r.len32
  intro n
  induction n with
  | zero =>
    intro le zs h hn hz hc o kp e
    unfold gnomonref01_DivSmall.L4.t gnomonref01_DivSmall.D5.t
    refine c_dec (fun hb => absurd hb (by omega)) fun _ => ?_
    unfold gnomonref01_DivSmall.D2.t
    rw [List.drop_zero, List.drop_zero] at e
    have hd : D.val zs = D.val xs / w ∧ le = D.val xs % w := by
      rw [← e, Nat.mul_comm, Nat.mul_add_div hw0, Nat.div_eq_of_lt hc, Nat.mul_add_mod, Nat.mod_eq_of_lt hc]; simp
    refine hc_intro (rNorm_spec (o.rd' (c := xs.length) (by rw [hz]; exact h1) (by omega)) hz.symm) fun v h' ⟨k2, s⟩ => ?_
    refine s.elim fun a2 c2 g2 => ?_
    refine k_u32 le rfl (by omega) ?_
    rw [hd.1] at g2 ⊢
    rw [hd.2]
    exact post _ _ (kp.trans k2) ⟨_, _, rfl, g2.from kp.le⟩
  | succ n ih =>
    intro le zs h hn hz hc o kp e
    have hxn := r.word32 n
    unfold gnomonref01_DivSmall.L4.t gnomonref01_DivSmall.D5.t
    refine c_dec (fun hb => ?_) fun hb => absurd (by omega) hb
    refine shl32 rfl (by omega) ?_
    refine at32 (r.keep kp) (j := n) (by omega) rfl (by omega) ?_
    refine k_u64 (xs.getD n 0) rfl (by omega) ?_
    refine k_u64 (le * 4294967296 + xs.getD n 0) (by omega) (by omega) ?_
    refine k_u64 w rfl (by omega) ?_
    have hwne : (w : Int) ≠ 0 := by omega
    refine ⟨hwne, ?_⟩
    have hq1 : (le * 4294967296 + xs.getD n 0) / w < 4294967296 := by
      rw [Nat.div_lt_iff_lt_mul hw0]
      have : le * 4294967296 + 4294967296 ≤ w * 4294967296 := by omega
      rw [Nat.mul_comm 4294967296]; omega
    have eD := Nat.div_add_mod (le * 4294967296 + xs.getD n 0) w
    have lD := Nat.mod_lt (le * 4294967296 + xs.getD n 0) hw0
    rw [tdiv_nat]
    refine k_u64 ((le * 4294967296 + xs.getD n 0) / w) rfl (by omega) ?_
    refine k_u32 ((le * 4294967296 + xs.getD n 0) / w) rfl hq1 ?_
    refine put32 o kp hq (j := n) (by omega) hz.symm (by omega) rfl hq1 fun h2 o2 k2 => ?_
    refine k_u64 w rfl (by omega) ?_
    refine ⟨hwne, ?_⟩
    rw [tmod_nat]
    refine letK_intro rfl ?_
    refine k_i64 ((n : Int) - 1) (by omega) (by omega) (by omega) ?_
    refine ih _ _ _ (by omega) (by simp [hz]) lD o2 k2 ?_
    have ed : (zs.set n ((le * 4294967296 + xs.getD n 0) / w)).drop n = (le * 4294967296 + xs.getD n 0) / w :: zs.drop (n + 1) := by
      rw [drop_getD (by simp; omega), List.drop_set_of_lt (by omega)]
      simp [List.getD, show n < zs.length by omega]
    rw [ed, drop_getD (xs := xs) (by omega)]
    simp only [D.val]
    rw [Nat.add_mul, Nat.mul_assoc, Nat.mul_comm _ w]
    generalize w * ((le * 4294967296 + xs.getD n 0) / w) = A at *
    generalize (le * 4294967296 + xs.getD n 0) % w = B at *
    generalize D.val (zs.drop (n + 1)) * w = C at *
    omega
theorem rDivSmall_spec {a : Option Addr} {c l w : Nat} {xs : List Nat} {h : Hp} (r : RdE eU32 h a c xs) (hl : l = xs.length) {x : Int} (hx : x = (w : Int)) (hw : w < 4294967296) (hw0 : 0 < w) :
    HC gnomonref01_DivSmall.id #[.slice a l c, .int .u32 x] h fun v h' => Keep h h' ∧ ∃ a' c', v = .tuple #[.slice a' (D.digs (D.val xs / w)).length c', .int .u32 ((D.val xs % w : Nat) : Int)] ∧ GotE eU32 h h' a' c' (D.digs (D.val xs / w)) := by
  subst hl; subst hx
  have h1 := r.len32
  refine gnomonref01_DivSmall.ok ?_
  unfold gnomonref01_DivSmall.t gnomonref01_DivSmall.D1.t
  refine c_eq (fun h0 => absurd h0 (by omega)) fun _ => ?_
  refine mkE eU32 0 xs.length xs.length rfl ok32 4 rfl (by decide) rfl rfl (by omega) (by omega) fun h2 o k => ?_
  unfold gnomonref01_DivSmall.D3.t
  refine k_i64 ((xs.length : Int) - 1) rfl (by omega) (by omega) ?_
  refine ⟨xs.length + 1, ?_⟩
  rw [Int.toNat_natCast]
  refine rDivSmall_walk r (Nat.le_refl _) hw hw0 (fun v h' k s => ⟨k, s⟩) xs.length 0 _ h2 (Nat.le_refl _) (by simp) hw0 o k ?_
  rw [List.drop_length, List.drop_of_length_le (by simp)]; simp [D.val]
/-! ### Shr, Low -/
end Go.Proofs.Ytdpkfipkjdlmlaa.G

/- What the digits' calls of the reference answer: Sub, MulSmall, Shl, Bit, Fits. -/
namespace Go.Proofs.Ytdpkfipkjdlmlaa.G
open Go.Gv
set_option maxRecDepth 100000
set_option linter.unusedVariables false
/-! ### Sub -/
/-! ### MulSmall -/
/-! ### Shl -/
/-! ### Bit -/
/-! ### Fits -/
end Go.Proofs.Ytdpkfipkjdlmlaa.G

/- What the digits' calls of the reference answer: digit, DivMod. -/
namespace Go.Proofs.Ytdpkfipkjdlmlaa.G
open Go.Gv
set_option maxRecDepth 100000
set_option linter.unusedVariables false
/-! ### windows of blocks -/
/-! ### digit -/
end Go.Proofs.Ytdpkfipkjdlmlaa.G

/- What the digits' calls of the reference answer: DivMod. -/
namespace Go.Proofs.Ytdpkfipkjdlmlaa.G
open Go.Gv
set_option maxRecDepth 100000
set_option linter.unusedVariables false
end Go.Proofs.Ytdpkfipkjdlmlaa.G

/- What Told and DocForm answer. -/
namespace Go.Proofs.Ytdpkfipkjdlmlaa.G
open Go.Gv
set_option maxRecDepth 100000
set_option linter.unusedVariables false
theorem DocForm_spec {a : Option Addr} {c l : Nat} {xs : List Nat} {h : Hp} (r : Rd h a c xs) (hl : l = xs.length) :
    HC gnomonref01_DocForm.id #[.slice a l c] h fun v h' => h' = h ∧ v = .bool (decide (Frm xs)) := by
  subst hl
  have h1 := r.len
  refine gnomonref01_DocForm.ok ?_
  unfold gnomonref01_DocForm.t gnomonref01_DocForm.D1.t
  refine c_dec (fun hb => ?_) fun hb => ?_
  · refine c_eq (fun h0 => ?_) fun h0 => ?_
    · refine ⟨rfl, ?_⟩
      have e : xs = [] := List.length_eq_zero_iff.mp (by omega)
      subst e; rfl
    · refine k_i64 ((xs.length - 1 : Nat) : Int) (by omega) (by omega) (by omega) ?_
      refine at_intro r (j := xs.length - 1) rfl rfl (by omega) ⟨rfl, ?_⟩
      have hiff := @trimL_iff xs
      by_cases hz : xs.getD (xs.length - 1) 0 = 0
      · rw [hz]
        have : ¬ Frm xs := fun f => by
          rcases hiff.mp f.2 with e | e
          · subst e; simp at h0
          · exact e hz
        simp [this]
      · have : Frm xs := ⟨by omega, hiff.mpr (Or.inr hz)⟩
        simp only [this, decide_true]
        congr 1
        exact bne_iff_ne.mpr (by omega)
  · refine ⟨rfl, ?_⟩
    have : ¬ Frm xs := fun f => by have := f.1; omega
    simp [this]
end Go.Proofs.Ytdpkfipkjdlmlaa.G

/- What Add answers. -/
namespace Go.Proofs.Ytdpkfipkjdlmlaa.G
open Go.Gv
set_option maxRecDepth 100000
end Go.Proofs.Ytdpkfipkjdlmlaa.G

/- What Sub answers. -/
namespace Go.Proofs.Ytdpkfipkjdlmlaa.G
open Go.Gv
set_option maxRecDepth 100000
end Go.Proofs.Ytdpkfipkjdlmlaa.G

/- What MulWord and Word answer. -/
namespace Go.Proofs.Ytdpkfipkjdlmlaa.G
open Go.Gv
set_option maxRecDepth 100000
/-! ### a product with a word -/
end Go.Proofs.Ytdpkfipkjdlmlaa.G

/- What the document's calls of layer 1 answer: they are the program's answers. -/
namespace Go.Proofs.Ytdpkfipkjdlmlaa.G
open Go.Gv
set_option maxRecDepth 100000
set_option linter.unusedVariables false
section
variable {a b : Option Addr} {c d l m : Nat} {xs ys : List Nat} {h : Hp}
end
end Go.Proofs.Ytdpkfipkjdlmlaa.G

/- The lowest one bit, by the program and by the reference; single bits. -/
namespace Go.Proofs.Ytdpkfipkjdlmlaa.G
open Go.Gv
set_option maxRecDepth 100000
set_option linter.unusedVariables false
/-! ### how often 2 divides -/
/-! ### the table -/
def dbTab : List Nat := [0, 1, 56, 2, 57, 49, 28, 3, 61, 58, 42, 50, 38, 29, 17, 4, 62, 47, 59, 36, 45, 43, 51, 22, 53, 39, 33, 30, 24, 18, 12, 5, 63, 55, 48, 27, 60, 41, 37, 16, 46, 35, 44, 21, 52, 32, 23, 11, 54, 26, 40, 15, 34, 20, 31, 10, 25, 14, 19, 9, 13, 8, 7, 6]
def Tab (h : Hp) : Prop := ∀ i, i < 64 → cellH h ⟨0, i, none⟩ = some (.int .u8 ((dbTab.getD i 0 : Nat) : Int))
theorem Tab.keep {h h' : Hp} (t : Tab h) (k : Keep h h') : Tab h' := fun i hi => k.cell (t i hi)
/-! ### Bit -/
/-! ### Zeros -/
end Go.Proofs.Ytdpkfipkjdlmlaa.G

/- Contracts of layer 1 in the form that the lifted functions use. -/
namespace Go.Proofs.Ytdpkfipkjdlmlaa.G
open Go.Gv
set_option linter.unusedVariables false
section
variable {a b : Option Addr} {c d l m : Nat} {xs ys : List Nat} {h : Hp} {x : Int}
end
end Go.Proofs.Ytdpkfipkjdlmlaa.G

/- What the parts of a quotient answer: shifted, trial, takeMul, giveBack, long; QuoRem. -/
namespace Go.Proofs.Ytdpkfipkjdlmlaa.G
open Go.Gv
set_option maxRecDepth 100000
set_option linter.unusedVariables false
/-! ### windows of blocks of words -/
/-! ### takeMul -/
/-! ### giveBack -/
/-! ### trial -/
/-! ### one digit -/
/-! ### long -/
end Go.Proofs.Ytdpkfipkjdlmlaa.G

/- What shifted and QuoRem answer. -/
namespace Go.Proofs.Ytdpkfipkjdlmlaa.G
open Go.Gv
set_option maxRecDepth 100000
set_option linter.unusedVariables false
/-! ### QuoRem -/
abbrev AnsQ : An (List Nat × List Nat × Int) := s3 sW sW (sI .i64)
theorem AnsQ.none {h0 h : Hp} {x : Int} (i : In .i64 x := by decide) : AnsQ h0 h (.tuple #[.slice Option.none 0 0, .slice Option.none 0 0, .int .i64 x]) ([], [], x) := ⟨_, _, _, rfl, ⟨_, _, rfl, GotE.nil _ _⟩, ⟨_, _, rfl, GotE.nil _ _⟩, rfl, i⟩
theorem AnsQ.mk {h0 h : Hp} {a b : Option Addr} {c d l m : Nat} {xs ys : List Nat} {x : Int} (r : GotE eU64 h0 h a c xs) (s : GotE eU64 h0 h b d ys) (hl : l = xs.length) (hm : m = ys.length) (i : In .i64 x) : AnsQ h0 h (.tuple #[.slice a l c, .slice b m d, .int .i64 x]) (xs, ys, x) := by
  subst hl; subst hm
  exact ⟨_, _, _, rfl, ⟨_, _, rfl, r⟩, ⟨_, _, rfl, s⟩, rfl, i⟩
end Go.Proofs.Ytdpkfipkjdlmlaa.G

/- Square roots of naturals, and Newton's steps towards them: plain law. -/
namespace Go.Proofs.Ytdpkfipkjdlmlaa.G
open Go.Gv
end Go.Proofs.Ytdpkfipkjdlmlaa.G

/- What the parts of products answer: trim, cut, sum, addAt, takeAway, rows. -/
namespace Go.Proofs.Ytdpkfipkjdlmlaa.G
open Go.Gv
/-! ### adding in place -/
/-! ### taking away in place -/
end Go.Proofs.Ytdpkfipkjdlmlaa.G

/- What rows, cut and sum answer. -/
namespace Go.Proofs.Ytdpkfipkjdlmlaa.G
open Go.Gv
set_option maxRecDepth 100000
/-! ### parts and sums -/
/-- A list in new memory, whose block is the call's own. -/
def Fresh (h h' : Hp) (v : Value) (xs : List Nat) : Prop := ∃ q, h.size ≤ q ∧ v = .slice (some ⟨q, 0, none⟩) xs.length xs.length ∧ Mine h' q xs
theorem Fresh.elim {h h' : Hp} {v : Value} {xs : List Nat} {K : Option Addr → Nat → Nat → Prop} (f : Fresh h h' v xs) (g : ∀ q, h.size ≤ q → Mine h' q xs → K (some ⟨q, 0, none⟩) xs.length xs.length) : gSlice v K := by
  obtain ⟨q, hq, e, o⟩ := f
  subst e; exact g q hq o
end Go.Proofs.Ytdpkfipkjdlmlaa.G

/- What fill, slabs, thirds, product and Mul answer. -/
namespace Go.Proofs.Ytdpkfipkjdlmlaa.G
open Go.Gv
set_option maxRecDepth 100000
/-! ### the great recursion -/
end Go.Proofs.Ytdpkfipkjdlmlaa.G

/- The law NatmulRing of the translation answers true. -/
namespace Go.Proofs.Ytdpkfipkjdlmlaa.G
open Go.Gv
set_option maxRecDepth 100000
end Go.Proofs.Ytdpkfipkjdlmlaa.G

/- What next, power and Pow answer. -/
namespace Go.Proofs.Ytdpkfipkjdlmlaa.G
open Go.Gv
set_option maxRecDepth 100000
/-- A list that fills the beginning of a block of so many cells. -/
def Room (h : Hp) (q room : Nat) (xs : List Nat) : Prop := ∃ rest, Own h q (xs ++ rest) ∧ (xs ++ rest).length = room
theorem Room.nil {h : Hp} {p room : Nat} {xs : List Nat} (o : Room h p room xs) : Room h p room [] := by
  obtain ⟨r, o, e⟩ := o; exact ⟨xs ++ r, o, e⟩
theorem Room.le {h : Hp} {p room : Nat} {xs : List Nat} (o : Room h p room xs) : xs.length ≤ room := by
  obtain ⟨r, o, e⟩ := o; rw [List.length_append] at e; omega
theorem Room.take {h : Hp} {p room : Nat} {xs : List Nat} (o : Room h p room xs) (n : Nat) : Room h p room (xs.take n) := by
  obtain ⟨r, o, e⟩ := o; exact ⟨xs.drop n ++ r, by rw [← List.append_assoc, List.take_append_drop]; exact o, by rw [← List.append_assoc, List.take_append_drop]; exact e⟩
/-! ### the rounds: V is what is reached, from n's top bit down -/
structure PowSt (h0 h : Hp) (p q room : Nat) (V : Nat) : Prop where
  kp : Keep h0 h
  hp : h0.size ≤ p
  hq : h0.size ≤ q
  ne : p ≠ q
  z : Room h p room (digs V)
  s : Room h q room []
end Go.Proofs.Ytdpkfipkjdlmlaa.G

/- Answers of layers 1 and 2 on numbers whose limbs are few. -/
namespace Go.Proofs.Ytdpkfipkjdlmlaa.G
open Go.Gv
set_option linter.unusedVariables false
set_option maxRecDepth 100000
/-! ### answers on numbers -/
section
variable {X Y j k n w : Nat}
theorem frm_d (h : (digs X).length ≤ 8192) : Frm (digs X) := ⟨h, trimL_digs X⟩
theorem divWS_d (hx : (digs X).length ≤ 8192) (hw : w ≠ 0) : divWS (digs X) w = (digs (X / w), ((X % w : Nat) : Int), 0) := by
  unfold divWS; rw [if_pos (frm_d hx), if_neg hw, val_digs]
theorem dl_pos (h : X ≠ 0) : 1 ≤ (digs X).length := by rw [digs_pos h]; simp
end
end Go.Proofs.Ytdpkfipkjdlmlaa.G

/- What root and Root answer, and the reference's Root, DocQuoRem, DocRoot. -/
namespace Go.Proofs.Ytdpkfipkjdlmlaa.G
open Go.Gv
set_option maxRecDepth 100000
set_option linter.unusedVariables false
theorem AnsQ.elim {h0 h : Hp} {v : Value} {p : List Nat × List Nat × Int} {K : Option Addr → Nat → Nat → Option Addr → Nat → Nat → Int → Prop} (a : AnsQ h0 h v p) (g : ∀ a c b d, GotE eU64 h0 h a c p.1 → GotE eU64 h0 h b d p.2.1 → K a p.1.length c b p.2.1.length d p.2.2) :
    gTup v fun y => uncons y fun v1 y1 => gSlice v1 fun a l c => uncons y1 fun v2 y2 => gSlice v2 fun b m d => uncons y2 fun v3 y3 => gInt .i64 v3 fun x => unnil y3 (K a l c b m d x) := by
  obtain ⟨x, y, z, e, ⟨a, c, e1, r⟩, ⟨b, d, e2, s⟩, e3, _⟩ := a
  subst e; subst e1; subst e2; subst e3; exact g a c b d r s
/-! ### the reference -/
abbrev sDD : An (Nat × Nat) := s2 sD sD
theorem sDD.elim {h0 h : Hp} {v : Value} {p : Nat × Nat} {K : Option Addr → Nat → Nat → Option Addr → Nat → Nat → Prop} (a : s2 sD sD h0 h v p) (g : ∀ a c b d, GotE eU32 h0 h a c (D.digs p.1) → GotE eU32 h0 h b d (D.digs p.2) → K a (D.digs p.1).length c b (D.digs p.2).length d) :
    gTup v fun y => uncons y fun v1 y1 => gSlice v1 fun a l c => uncons y1 fun v2 y2 => gSlice v2 fun b m d => unnil y2 (K a l c b m d) := by
  obtain ⟨x, y, e, ⟨a, c, e1, r⟩, ⟨b, d, e2, s⟩⟩ := a
  subst e; subst e1; subst e2; exact g a c b d r s
end Go.Proofs.Ytdpkfipkjdlmlaa.G

/- The laws NatdivDivides, NatdivSquares, NatdivUndoes of the translation answer true. -/
namespace Go.Proofs.Ytdpkfipkjdlmlaa.G
open Go.Gv
set_option maxRecDepth 100000
set_option linter.unusedVariables false
theorem htwin_spec {a : Option Addr} {c l : Nat} {xs : List Nat} {h : Hp} (r : Rd h a c xs) (hl : l = xs.length) :
    HC gnomonlaw03_twin.id #[.slice a l c] h fun v h' => Keep h h' ∧ AnsS h h' v xs := by
  subst hl
  have h1 := r.len
  refine gnomonlaw03_twin.ok ?_
  unfold gnomonlaw03_twin.t gnomonlaw03_twin.D1.t
  refine mk_intro xs.length rfl rfl rfl rfl (by omega) fun h1 o1 k1 => ?_
  rw [Int.toNat_natCast]
  refine cp_intro o1 (r.keep k1) (by simp) rfl (Nat.le_refl _) k1 fun h2 o2 k2 => ?_
  rw [List.length_replicate, List.take_length, List.drop_of_length_le (by simp), List.append_nil] at o2
  exact ⟨k2, _, _, rfl, o2.got' (Nat.le_refl _) rfl⟩
end Go.Proofs.Ytdpkfipkjdlmlaa.G

/- Read of decimal digits, the program's and the document's. -/
namespace Go.Proofs.Ytdpkfipkjdlmlaa.G
open Go.Gv
set_option maxRecDepth 100000
set_option linter.unusedVariables false
/-! ### the document's -/
/-! ### the program's -/
end Go.Proofs.Ytdpkfipkjdlmlaa.G

/- strings.Builder over heaps; appends of one byte beside another list. -/
namespace Go.Proofs.Ytdpkfipkjdlmlaa.G
open Go.Gv
set_option maxRecDepth 100000
set_option linter.unusedVariables false
/-- The builder at block b holds the bytes l. -/
def IsB (B b : Nat) (l : List Nat) (h : Hp) : Prop := ∀ w : World, w.heap = h → Lib.IsBuilder 70 5 B b (l.map eU8.enc) w
theorem isb_heap {B b : Nat} {bs : List Value} {w w2 : World} (e : w2.heap = w.heap) (h : Lib.IsBuilder 70 5 B b bs w) : Lib.IsBuilder 70 5 B b bs w2 := by
  unfold Lib.IsBuilder Lib.BuilderAt World.ownsRow at *; rw [e]; exact h
theorem bld_new {h : Hp} {K : Addr → Hp → Prop} (g : ∀ h', IsB h.size h.size [] h' → Keep h h' → K ⟨h.size, 0, none⟩ h') : boxK h 70 T70.zs K := by
  refine g _ (fun w e => Or.inl ⟨Nat.le_refl _, .slice none 0 0, ?_, ?_, ?_⟩) ⟨by simp, fun b hb => ?_⟩
  · rw [e]; simp; rfl
  · exact ⟨rfl, Or.inl ⟨rfl, rfl⟩⟩
  · intro hh; cases hh
  · rw [Array.getElem?_push]; rw [if_neg (by omega)]
theorem BLen_hc {B b : Nat} {l : List Nat} {h : Hp} {R : Value → Hp → Prop} (ib : IsB B b l h) (g : R (.int .i64 (l.length : Int)) h) : HC strings_Builder_Len.id #[.pointer (some ⟨b, 0, none⟩)] h R :=
  fun w hw => (Try.Builder_Len B b _ w (ib w hw)).mono fun e w' ⟨e1, e2⟩ => by
    subst e2
    rw [List.length_map] at e1
    exact ⟨_, e1, Same.refl _, by rw [hw]; exact g⟩
theorem BWrite_hc {h1 h : Hp} {b : Nat} {l : List Nat} {x : Int} {n : Nat} {R : Value → Hp → Prop} (ib : IsB h1.size b l h) (k : Keep h1 h) (hx : x = (n : Int)) (hl : l.length + 1 ≤ 140737488355328)
    (g : ∀ h', IsB h1.size b (l ++ [n]) h' → Keep h1 h' → R .nilIface h') : HC strings_Builder_WriteByte.id #[.pointer (some ⟨b, 0, none⟩), .int .u8 x] h R := by
  subst hx
  intro w hw
  refine (Try.writeByte h1.size b _ (n : Int) w (ib w hw) (by rw [List.length_map]; exact hl) (by rw [hw]; exact k.le)).mono fun e w' ⟨e1, e2, e3⟩ => ?_
  refine ⟨_, e1, ⟨e3.os, e3.tape, e3.output⟩, g w'.heap (fun w2 e => isb_heap e (Or.inr ?_)) ?_⟩
  · have : (l ++ [n]).map eU8.enc = l.map eU8.enc ++ [.int .u8 (n : Int)] := by simp; rfl
    rw [this]; exact e2
  · have h5 := e3.size
    rw [hw] at h5
    exact ⟨Nat.le_trans k.le h5, fun i hi => (e3.block i hi).trans (by rw [hw]; exact k.pre i hi)⟩
theorem BString_hc {h1 h : Hp} {b : Nat} {l : List Nat} {R : Value → Hp → Prop} (ib : IsB h1.size b l h) (k : Keep h1 h) (hl : ∀ x ∈ l, x < 256)
    (g : ∀ h', Keep h1 h' → R (.string (bstr l)) h') : HC strings_Builder_String.id #[.pointer (some ⟨b, 0, none⟩)] h R := by
  intro w hw
  have e : Lib.byteCells (l.map UInt8.ofNat) = l.map eU8.enc := by
    unfold Lib.byteCells
    rw [List.map_map]
    refine List.map_congr_left fun x hx => ?_
    have := hl x hx
    simp [Function.comp, eU8]
    omega
  refine (Try.Builder_String_any h1.size b (l.map UInt8.ofNat) w (by rw [e]; exact ib w hw) (by rw [hw]; exact k.le)).mono fun e w' ⟨e1, e3⟩ => ?_
  have h5 := e3.size
  rw [hw] at h5
  exact ⟨_, e1, ⟨e3.os, e3.tape, e3.output⟩, g w'.heap ⟨Nat.le_trans k.le h5, fun i hi => (e3.block i hi).trans (by rw [hw]; exact k.pre i hi)⟩⟩
/-! ### appends of a byte -/
/-- A list beside a list that grows. -/
structure Beside {α : Type} (E : El α) (h : Hp) (am : Option Addr) (cm : Nat) (ms : List α) (a : Option Addr) : Prop where
  rd : RdE E h am cm ms
  off : ms = [] ∨ ∀ p, am = some p → Off p.block a
theorem Beside.new {α β : Type} {E : El α} {F : El β} {h0 hb h : Hp} {am a : Option Addr} {cm c : Nat} {ms : List α} {xs : List β} (g : GotE E hb h am cm ms) (x : GotE F h0 hb a c xs) : Beside E h am cm ms a := by
  refine ⟨g.rd, ?_⟩
  rcases g.here with ⟨e1, _, _⟩ | ⟨b, rest, e1, e2, _, _⟩
  · exact Or.inl e1
  · refine Or.inr fun p e => ?_
    rw [e1] at e; cases e
    intro q eq
    rcases x.here with ⟨_, e3, _⟩ | ⟨b2, rest2, e3, _, o2, _⟩
    · rw [e3] at eq; cases eq
    · rw [e3] at eq; cases eq
      have := o2.lt
      show b2 ≠ b
      omega
theorem push8 {α : Type} {E : El α} {h0 h : Hp} {a am : Option Addr} {l c cm n : Nat} {x : Int} {xs : List Nat} {ms : List α} (g : GotE eU8 h0 h a c xs) (k0 : Keep h0 h) (hl : l = xs.length) (hx : x = (n : Int)) (hn : n < 256) (hlim : xs.length + 1 ≤ 140737488355328)
    (be : Beside E h am cm ms a) {K : Option Addr → Nat → Nat → Hp → Prop}
    (post : ∀ a' c' h', GotE eU8 h0 h' a' c' (xs ++ [n]) → Keep h0 h' → Beside E h' am cm ms a' → (xs.length + 1 ≤ c → c' = c) → K a' (xs ++ [n]).length c' h') : boxK h 5 [.int .u8 x] fun q h2 => apK h2 5 T5 a l c (.slice (some q) 1 1) K := by
  subst hx
  refine boxE eU8 [n] rfl (fun y hy => by rw [List.mem_singleton.mp hy]; exact hn) fun h2 o2 k2 => ?_
  have r := o2.rd' (c := 1) (by show 1 ≤ 281474976710656; decide) (Nat.le_refl _)
  refine apE3 (g.keep k2) (Nat.le_trans k0.le k2.le) r hl rfl rfl 0 rfl ok8 1 rfl (by decide) (by show _ ≤ 281474976710656; simp; omega) (fun _ => by simp; omega) fun a' c' h' g' kx e1 e2 => ?_
  rw [show xs.length + [n].length = (xs ++ [n]).length by simp]
  refine post a' c' h' g' (kx.keep (k0.trans k2) g.offs) ?_ (fun hc => (e1 (by simpa using hc)).1)
  refine ⟨?_, ?_⟩
  · rcases be.off with e | o
    · subst e; exact RdE.nil _ _ _
    · have r2 := be.rd.keep k2
      refine ⟨r2.len, r2.cap, r2.ok, fun i y hi => ?_⟩
      obtain ⟨p, e, gc⟩ := r2.at_ i y hi
      refine ⟨p, e, ?_⟩
      have hb := cellH_lt gc
      rw [cellH_congr (kx.pre _ hb (by rw [add_block]; exact o p e))]; exact gc
  · rcases be.off with e | o
    · exact Or.inl e
    · cases ms with
      | nil => exact Or.inl rfl
      | cons y ys =>
        refine Or.inr fun p e => ?_
        rcases e2 with e2 | ⟨b, e2, hb⟩
        · rw [e2]; exact o p e
        · intro q eq
          rw [e2] at eq; cases eq
          obtain ⟨p', e', gc⟩ := be.rd.at_ 0 y (by simp)
          rw [e] at e'; cases e'
          have h3 := cellH_lt gc
          rw [add_block] at h3
          have h4 := k2.le
          show b ≠ p.block
          omega
theorem k_u8 {x : Int} (y : Nat) (e : x = (y : Int)) (h : y < 256) {K : Int → Prop} (g : K (y : Int)) : letK (IntKind.u8.wrap x) K := by
  subst e
  refine ⟨?_⟩
  have e : IntKind.u8.wrap (y : Int) = (y : Int) := by
    simp only [IntKind.wrap, IntKind.bits, IntKind.signed, Bool.false_and, Bool.false_eq_true, if_false]
    omega
  rw [e]; exact g
theorem mod10 {n : Nat} {K : Int → Prop} (g : K ((n % 10 : Nat) : Int)) : (10 : Int) ≠ 0 ∧ letK (Int.tmod (n : Int) 10) K := by
  refine ⟨by decide, ?_⟩
  have e : Int.tmod (n : Int) 10 = ((n % 10 : Nat) : Int) := tmod_nat n 10
  rw [e]; exact ⟨g⟩
theorem div10 (n : Nat) : Int.tdiv (n : Int) 10 = ((n / 10 : Nat) : Int) := by
  rw [Int.tdiv_eq_ediv_of_nonneg (by omega)]; rfl
end Go.Proofs.Ytdpkfipkjdlmlaa.G

/- Text: the decimal digits of a natural, the program's and the document's. -/
namespace Go.Proofs.Ytdpkfipkjdlmlaa.G
open Go.Gv
set_option maxRecDepth 100000
set_option linter.unusedVariables false
def textS (xs : List Nat) : ByteArray × Int := if Frm xs then (if 4900 < (txt (val xs)).length then (⟨#[]⟩, 5) else (bstr (txt (val xs)), 0)) else (⟨#[]⟩, 2)
/-! ### the program's -/
theorem Text_inner {R : Rt} {N9 : Option Addr → Nat → Nat → Option Addr → Nat → Nat → Hp → Prop} {h0 : Hp} {aq : Option Addr} {cq lq r0 : Nat} {qs bs0 : List Nat} (hb : bs0.length ≤ 1000000) (hr : r0 < 18446744073709551616)
    (post : ∀ a c h', GotE eU8 h0 h' a c (bs0 ++ lowD 19 r0) → Keep h0 h' → Beside eU64 h' aq cq qs a → N9 aq lq cq a (bs0 ++ lowD 19 r0).length c h') :
    ∀ (k i : Nat) (a : Option Addr) (c : Nat) (h : Hp), i + k = 19 → GotE eU8 h0 h a c (bs0 ++ lowD i r0) → Keep h0 h → Beside eU64 h aq cq qs a →
      natdiv_Text.L14.t R N9 (k + 1) a (bs0 ++ lowD i r0).length c aq lq cq ((r0 / 10 ^ i : Nat) : Int) (i : Int) h := by
  intro k
  induction k with
  | zero =>
    intro i a c h hi g kp be
    unfold natdiv_Text.L14.t natdiv_Text.D15.t
    refine c_dec (fun hb => absurd hb (by omega)) fun _ => ?_
    unfold natdiv_Text.D12.t
    have e : i = 19 := by omega
    subst e
    exact post a c h g kp be
  | succ k ih =>
    intro i a c h hi g kp be
    have hq : r0 / 10 ^ i ≤ r0 := Nat.div_le_self _ _
    have e1 : r0 / 10 ^ (i + 1) = r0 / 10 ^ i / 10 := by rw [Nat.pow_succ, Nat.div_div_eq_div_mul]
    have e2 := lowD_snoc i r0
    have ih := ih (i + 1)
    rw [e1, e2, ← List.append_assoc] at ih
    generalize r0 / 10 ^ i = r at *
    unfold natdiv_Text.L14.t natdiv_Text.D15.t
    refine c_dec (fun _ => ?_) fun hb => absurd (by omega) hb
    refine mod10 ?_
    refine k_u64 (48 + r % 10) (by omega) (by omega) ?_
    refine k_u8 (48 + r % 10) rfl (by omega) ?_
    refine push8 g kp rfl rfl (by omega) (by rw [List.length_append, lowD_len]; omega) be fun a' c' h' g' k' be' _ => ?_
    refine ⟨by decide, ?_⟩
    rw [div10]
    refine k_u64 (r / 10) rfl (by omega) ?_
    refine k_i64 ((i + 1 : Nat) : Int) (by omega) (by omega) (by omega) ?_
    exact ih a' c' h' (by omega) g' k' be'
theorem Text_inner0 {R : Rt} {N9 : Option Addr → Nat → Nat → Option Addr → Nat → Nat → Hp → Prop} {h0 : Hp} {aq : Option Addr} {cq lq r0 : Nat} {qs bs0 : List Nat} (hb : bs0.length ≤ 1000000) (hr : r0 < 18446744073709551616)
    (post : ∀ a c h', GotE eU8 h0 h' a c (bs0 ++ lowD 19 r0) → Keep h0 h' → Beside eU64 h' aq cq qs a → N9 aq lq cq a (bs0 ++ lowD 19 r0).length c h')
    {a : Option Addr} {c : Nat} {h : Hp} (g : GotE eU8 h0 h a c bs0) (kp : Keep h0 h) (be : Beside eU64 h aq cq qs a) : natdiv_Text.L14.t R N9 20 a bs0.length c aq lq cq (r0 : Int) 0 h := by
  have := Text_inner (R := R) (N9 := N9) hb hr post 19 0 a c h rfl (by simpa [lowD] using g) kp be
  simpa [lowD] using this
/-- The builder's loop. -/
theorem Text_build {R : Rt} {h0 h1 : Hp} {ab : Option Addr} {cb b : Nat} {bs : List Nat} (k0 : Keep h0 h1) (r : RdE eU8 h1 ab cb bs) (hl : bs.length ≤ 2000000)
    (post : ∀ h', Keep h1 h' → IsB h1.size b (bs.reverse.dropWhile zz8) h' → natdiv_Text.D3.t R ⟨b, 0, none⟩ h') :
    ∀ (k i : Nat) (h : Hp), i + k = bs.length → Keep h1 h → IsB h1.size b ((bs.reverse.take i).dropWhile zz8) h → natdiv_Text.L5.t R (k + 1) ab bs.length cb ⟨b, 0, none⟩ (bs.length : Int) (i : Int) h := by
  intro k
  induction k with
  | zero =>
    intro i h hi kp ib
    unfold natdiv_Text.L5.t natdiv_Text.D6.t
    refine c_dec (fun hb => absurd hb (by omega)) fun _ => ?_
    rw [List.take_of_length_le (by rw [List.length_reverse]; omega)] at ib
    exact post h kp ib
  | succ k ih =>
    intro i h hi kp ib
    have hj : bs.length - 1 - i < bs.length := by omega
    have er : bs.reverse[i]? = some (bs.getD (bs.length - 1 - i) 0) := by
      rw [List.getElem?_reverse (by omega), getD_some hj]
    have et : bs.reverse.take (i + 1) = bs.reverse.take i ++ [bs.getD (bs.length - 1 - i) 0] := by rw [List.take_add_one, er]; rfl
    have hlen : ((bs.reverse.take i).dropWhile zz8).length + 1 ≤ 140737488355328 := by
      have := (List.dropWhile_sublist zz8 (l := bs.reverse.take i)).length_le
      rw [List.length_take, List.length_reverse] at this
      omega
    unfold natdiv_Text.L5.t natdiv_Text.D6.t
    refine c_dec (fun _ => ?_) fun hb => absurd (by omega) hb
    refine k_i64 ((bs.length : Int) - 1) rfl (by omega) (by omega) ?_
    refine k_i64 (((bs.length - 1 - i : Nat)) : Int) (by omega) (by omega) (by omega) ?_
    refine at8 (r.keep kp) (j := bs.length - 1 - i) rfl rfl hj ?_
    have ih := ih (i + 1)
    rw [et, List.dropWhile_append] at ih
    generalize bs.getD (bs.length - 1 - i) 0 = d at *
    have dz : ∀ {x : Nat}, x ≠ 48 → List.dropWhile zz8 [x] = [x] := fun {x} hx => by
      have : zz8 x = false := by rw [beq_eq_false_iff_ne]; exact hx
      simp [List.dropWhile, this]
    have write : ∀ h2, Keep h1 h2 → IsB h1.size b ((bs.reverse.take i).dropWhile zz8) h2 → ((bs.reverse.take i).dropWhile zz8 = [] → d ≠ 48) →
        HC strings_Builder_WriteByte.id #[.pointer (some ⟨b, 0, none⟩), .int .u8 (d : Int)] h2 fun v23 h24 => letK (IntKind.i64.wrap ((i : Int) + 1)) fun n25 => natdiv_Text.L5.t R (k + 1) ab bs.length cb ⟨b, 0, none⟩ (bs.length : Int) n25 h24 := by
      intro h2 k2 ib2 hd
      refine BWrite_hc ib2 k2 rfl hlen fun h3 ib3 k3 => ?_
      refine k_i64 ((i + 1 : Nat) : Int) (by omega) (by omega) (by omega) ?_
      refine ih h3 (by omega) k3 ?_
      split
      · next he =>
        have he := List.isEmpty_iff.mp he
        rw [he] at ib3
        rw [dz (hd he)]
        exact ib3
      · exact ib3
    refine c_ne (fun hd => write h kp ib fun _ hh => hd (by rw [hh]; rfl)) fun hd => ?_
    refine BLen_hc ib ?_
    refine gInt_intro rfl ?_
    refine c_dec (fun hp => write h kp ib fun he => absurd hp (by rw [he]; decide)) fun hp => ?_
    refine k_i64 ((i + 1 : Nat) : Int) (by omega) (by omega) (by omega) ?_
    refine ih h (by omega) kp ?_
    have he : (bs.reverse.take i).dropWhile zz8 = [] := List.length_eq_zero_iff.mp (by omega)
    rw [he] at ib ⊢
    have hd' : d = 48 := by omega
    subst hd'
    exact ib
theorem Text_end {R : Rt} {h0 h1 : Hp} {ab : Option Addr} {cb m X : Nat} (k0 : Keep h0 h1) (r : RdE eU8 h1 ab cb (lowD m X)) (hm : m ≤ 1000000) (hX : X < 10 ^ m)
    (post : ∀ h', Keep h0 h' → R (.tuple #[.string (if 4900 < (txt X).length then (⟨#[]⟩, 5) else (bstr (txt X), 0) : ByteArray × Int).1, .int .i64 (if 4900 < (txt X).length then (⟨#[]⟩, 5) else (bstr (txt X), 0) : ByteArray × Int).2]) h') :
    natdiv_Text.D2.t R ab (lowD m X).length cb h1 := by
  unfold natdiv_Text.D2.t
  refine bld_new fun h2 ib k2 => ?_
  unfold natdiv_Text.D4.t
  refine ⟨(lowD m X).length + 1, ?_⟩
  have hl := lowD_len m X
  have ib0 : ∀ w : World, w.heap = h2 → Lib.IsBuilder 70 5 h1.size h1.size (([] : List Nat).map eU8.enc) w := ib
  -- the frame begins at h1
  refine Text_build (h0 := h0) (h1 := h1) (b := h1.size) k0 r (by omega) (fun h3 k3 ib3 => ?_) (lowD m X).length 0 h2 (by omega) k2 (by rw [List.take_zero]; exact ib)
  rw [low_strip hX] at ib3
  have htx : ∀ x ∈ (dec X).reverse, x < 256 := fun x hx => by have := dec_digit (List.mem_reverse.mp hx); omega
  unfold natdiv_Text.D3.t
  refine BLen_hc ib3 ?_
  refine gInt_intro rfl ?_
  refine c_eq (fun hz => ?_) fun hz => ?_
  · have e : X = 0 := by
      refine dec_nil.mp (List.length_eq_zero_iff.mp ?_)
      rw [List.length_reverse] at hz; omega
    subst e
    have := post h3 (k0.trans k3)
    have e2 : (txt 0).length = 1 := by rfl
    rw [if_neg (by rw [e2]; decide)] at this
    exact this
  · have e : X ≠ 0 := fun hh => hz (by rw [hh, dec_zero]; rfl)
    have et : (dec X).reverse = txt X := by unfold txt; rw [if_neg e]
    rw [et] at ib3 hz htx
    refine BLen_hc ib3 ?_
    refine gInt_intro rfl ?_
    refine c_dec (fun hp => ?_) fun hp => ?_
    · have := post h3 (k0.trans k3)
      rw [if_pos (by omega)] at this
      exact this
    · refine BString_hc ib3 k3 htx fun h4 k4 => ?_
      refine gStr_intro rfl ?_
      have := post h4 (k0.trans k4)
      rw [if_neg (by omega)] at this
      exact this
theorem Text_outer {R : Rt} {h0 : Hp} {X M : Nat} (hX : (digs X).length ≤ 8192) (hM : M ≤ 40000) (hX2 : X < 10 ^ M)
    (post : ∀ h', Keep h0 h' → R (.tuple #[.string (if 4900 < (txt X).length then (⟨#[]⟩, 5) else (bstr (txt X), 0) : ByteArray × Int).1, .int .i64 (if 4900 < (txt X).length then (⟨#[]⟩, 5) else (bstr (txt X), 0) : ByteArray × Int).2]) h') :
    ∀ (n t : Nat) (a0 : Option Addr) (c0 : Nat) (a : Option Addr) (c : Nat) (h : Hp), X / 10 ^ (19 * t) < 10 ^ (19 * n) → t ≤ 40000 → Beside eU64 h a0 c0 (digs (X / 10 ^ (19 * t))) a → GotE eU8 h0 h a c (lowD (19 * t) X) → Keep h0 h →
      natdiv_Text.L9.t R (n + 1) a0 (digs (X / 10 ^ (19 * t))).length c0 a (lowD (19 * t) X).length c h := by
  intro n
  induction n with
  | zero =>
    intro t a0 c0 a c h hA ht be g kp
    have e : X / 10 ^ (19 * t) = 0 := by
      rw [Nat.mul_zero, Nat.pow_zero] at hA
      exact Nat.lt_one_iff.mp hA
    rw [e] at be ⊢
    unfold natdiv_Text.L9.t natdiv_Text.D10.t
    rw [digs_zero]
    refine c_dec (fun hb => absurd hb (by decide)) fun _ => ?_
    refine Text_end kp g.rd (by omega) ?_ post
    exact (Nat.div_eq_zero_iff_lt (Nat.pow_pos (by decide))).mp e
  | succ n ih =>
    intro t a0 c0 a c h hA ht be g kp
    have ih := ih (t + 1)
    have e1 : 10 ^ (19 * (t + 1)) = 10 ^ (19 * t) * 10 ^ 19 := by rw [← Nat.pow_add]; rfl
    have e2 : X / 10 ^ (19 * (t + 1)) = X / 10 ^ (19 * t) / 10 ^ 19 := by rw [e1, Nat.div_div_eq_div_mul]
    have e3 : lowD (19 * (t + 1)) X = lowD (19 * t) X ++ lowD 19 (X / 10 ^ (19 * t) % 10 ^ 19) := by rw [lowD_mod, ← lowD_add]; rfl
    have hle : X / 10 ^ (19 * t) ≤ X := Nat.div_le_self _ _
    have hA0 : (digs (X / 10 ^ (19 * t))).length ≤ 8192 := Nat.le_trans (digs_len_mono hle) hX
    by_cases e : X / 10 ^ (19 * t) = 0
    · rw [e] at be ⊢
      unfold natdiv_Text.L9.t natdiv_Text.D10.t
      rw [digs_zero]
      refine c_dec (fun hb => absurd hb (by decide)) fun _ => ?_
      refine Text_end kp g.rd (by omega) ?_ post
      exact (Nat.div_eq_zero_iff_lt (Nat.pow_pos (by decide))).mp e
    · have ht1 : t < 40000 := by
        refine Nat.lt_of_not_le fun hh => e ?_
        refine Nat.div_eq_of_lt (Nat.lt_of_lt_of_le hX2 (Nat.pow_le_pow_right (by decide) (by omega)))
      rw [e2, e3] at ih
      have hl := lowD_len (19 * t) X
      have hA' : X / 10 ^ (19 * t) / 10 ^ 19 < 10 ^ (19 * n) := by
        rw [Nat.div_lt_iff_lt_mul (Nat.pow_pos (by decide)), ← Nat.pow_add]; exact hA
      have hp := dl_pos e
      generalize hq : X / 10 ^ (19 * t) = A at *
      unfold natdiv_Text.L9.t natdiv_Text.D10.t
      refine c_dec (fun _ => ?_) fun hb => absurd (by omega) hb
      unfold natdiv_Text.D11.t
      have w0 : (10000000000000000000 : Int) = ((10 ^ 19 : Nat) : Int) := by decide
      rw [w0]
      refine hc_intro (DivWord_spec (w := 10 ^ 19) be.rd.to64 rfl (by decide)) fun v h1 ⟨k1, an⟩ => ?_
      rw [divWS_d hA0 (by decide)] at an
      refine an.elim fun a1 c1 g1 => ?_
      unfold natdiv_Text.D13.t
      refine ⟨20, ?_⟩
      refine Text_inner0 (qs := digs (A / 10 ^ 19)) (r0 := A % 10 ^ 19) (bs0 := lowD (19 * t) X) (by rw [hl]; omega) (Nat.lt_trans (Nat.mod_lt _ (Nat.pow_pos (by decide))) (by decide)) (fun a2 c2 h2 g2 k2 be2 => ?_) (g.keep k1) (kp.trans k1) (Beside.new g1 g)
      exact ih a1 c1 a2 c2 h2 hA' (by omega) be2 g2 k2
theorem Text_spec {a : Option Addr} {c l : Nat} {xs : List Nat} {h : Hp} (r : Rd h a c xs) (hl : l = xs.length) : HC natdiv_Text.id #[.slice a l c] h fun v h' => Keep h h' ∧ v = .tuple #[.string (textS xs).1, .int .i64 (textS xs).2] := by
  subst hl
  refine natdiv_Text.ok ?_
  unfold natdiv_Text.t natdiv_Text.D1.t
  refine hc_intro (Form_spec r rfl) fun v h1 ⟨e1, e2⟩ => ?_
  subst e1; subst e2
  refine gBool_intro rfl ?_
  refine c_not (fun hf => ?_) fun hf => ?_
  · have hf := of_decide_eq_false hf
    unfold textS; rw [if_neg hf]; exact ⟨Keep.refl _, rfl⟩
  have hf := of_decide_eq_true hf
  refine hc_intro (Bits_spec r rfl) fun v h2 ⟨e1, e2⟩ => ?_
  subst e1; subst e2
  refine gInt_intro rfl ?_
  have ex := hf.digs r.words
  have h8 := hf.1
  unfold textS
  rw [if_pos hf]
  generalize val xs = X at *
  subst ex
  refine c_dec (fun hb => ?_) fun hb => ?_
  · have : 4900 < (txt X).length := by
      obtain ⟨m, hm⟩ : ∃ m, m = 4900 := ⟨_, rfl⟩
      obtain ⟨b, hb2⟩ : ∃ b, b = 16278 := ⟨_, rfl⟩
      rw [← hm]
      refine Nat.lt_of_not_le fun hh => ?_
      have h1 := Nat.lt_of_lt_of_le ((txt_len (by omega)).mp hh) (ten_4900 hm hb2)
      have := blen_le.mpr h1
      omega
    rw [if_pos this]; exact ⟨Keep.refl _, rfl⟩
  · obtain ⟨m, hm⟩ : ∃ m, m = 16278 := ⟨_, rfl⟩
    have hX := blen_le.mp (show blen X ≤ m by omega)
    have e0 : X / 10 ^ (19 * 0) = X := by rw [Nat.mul_zero, Nat.pow_zero, Nat.div_one]
    refine ⟨X + 1, ?_⟩
    have := Text_outer (R := fun v h' => Keep h2 h' ∧ v = .tuple #[.string (if 4900 < (txt X).length then (⟨#[]⟩, 5) else (bstr (txt X), 0) : ByteArray × Int).1, .int .i64 (if 4900 < (txt X).length then (⟨#[]⟩, 5) else (bstr (txt X), 0) : ByteArray × Int).2]) (M := m) h8 (by omega) (Nat.lt_of_lt_of_le hX (Nat.pow_le_pow_left (by decide) _)) (fun h' k => ⟨k, rfl⟩) X 0 a c none 0 h2
      (by rw [e0]; exact Nat.lt_of_lt_of_le (Nat.lt_pow_self (by decide)) (Nat.pow_le_pow_right (by decide) (by omega))) (by decide) (by rw [e0]; exact ⟨r.toE, Or.inr fun p e q eq => by cases eq⟩) (GotE.nil _ _) (Keep.refl _)
    rw [e0] at this
    exact this
end Go.Proofs.Ytdpkfipkjdlmlaa.G

/- The document's digits, and its Text; the statement NatdivTexts. -/
namespace Go.Proofs.Ytdpkfipkjdlmlaa.G
open Go.Gv
set_option maxRecDepth 100000
set_option linter.unusedVariables false
theorem Dig_inner {R : Rt} {N14 : Option Addr → Nat → Nat → Option Addr → Nat → Nat → Hp → Prop} {h0 : Hp} {aq : Option Addr} {cq lq r0 : Nat} {qs bs0 : List Nat} (hb : bs0.length ≤ 1000000) (hr : r0 < 4294967296)
    (post : ∀ a c h', GotE eU8 h0 h' a c (bs0 ++ lowD 9 r0) → Keep h0 h' → Beside eU32 h' aq cq qs a → N14 a (bs0 ++ lowD 9 r0).length c aq lq cq h') :
    ∀ (k i : Nat) (a : Option Addr) (c : Nat) (h : Hp), i + k = 9 → GotE eU8 h0 h a c (bs0 ++ lowD i r0) → Keep h0 h → Beside eU32 h aq cq qs a →
      gnomonref03_Digits.L19.t R N14 (k + 1) a (bs0 ++ lowD i r0).length c aq lq cq ((r0 / 10 ^ i : Nat) : Int) (i : Int) h := by
  intro k
  induction k with
  | zero =>
    intro i a c h hi g kp be
    unfold gnomonref03_Digits.L19.t gnomonref03_Digits.D20.t
    refine c_dec (fun hb => absurd hb (by omega)) fun _ => ?_
    unfold gnomonref03_Digits.D17.t
    have e : i = 9 := by omega
    subst e
    exact post a c h g kp be
  | succ k ih =>
    intro i a c h hi g kp be
    have hq : r0 / 10 ^ i ≤ r0 := Nat.div_le_self _ _
    have e1 : r0 / 10 ^ (i + 1) = r0 / 10 ^ i / 10 := by rw [Nat.pow_succ, Nat.div_div_eq_div_mul]
    have e2 := lowD_snoc i r0
    have ih := ih (i + 1)
    rw [e1, e2, ← List.append_assoc] at ih
    generalize r0 / 10 ^ i = r at *
    unfold gnomonref03_Digits.L19.t gnomonref03_Digits.D20.t
    refine c_dec (fun _ => ?_) fun hb => absurd (by omega) hb
    refine mod10 ?_
    refine k_u32 (48 + r % 10) (by omega) (by omega) ?_
    refine k_u8 (48 + r % 10) rfl (by omega) ?_
    refine push8 g kp rfl rfl (by omega) (by rw [List.length_append, lowD_len]; omega) be fun a' c' h' g' k' be' _ => ?_
    refine ⟨by decide, ?_⟩
    rw [div10]
    refine k_u32 (r / 10) rfl (by omega) ?_
    refine k_i64 ((i + 1 : Nat) : Int) (by omega) (by omega) (by omega) ?_
    exact ih a' c' h' (by omega) g' k' be'
theorem Dig_inner0 {R : Rt} {N14 : Option Addr → Nat → Nat → Option Addr → Nat → Nat → Hp → Prop} {h0 : Hp} {aq : Option Addr} {cq lq r0 : Nat} {qs bs0 : List Nat} (hb : bs0.length ≤ 1000000) (hr : r0 < 4294967296)
    (post : ∀ a c h', GotE eU8 h0 h' a c (bs0 ++ lowD 9 r0) → Keep h0 h' → Beside eU32 h' aq cq qs a → N14 a (bs0 ++ lowD 9 r0).length c aq lq cq h')
    {a : Option Addr} {c : Nat} {h : Hp} (g : GotE eU8 h0 h a c bs0) (kp : Keep h0 h) (be : Beside eU32 h aq cq qs a) : gnomonref03_Digits.L19.t R N14 10 a bs0.length c aq lq cq (r0 : Int) 0 h := by
  have := Dig_inner (R := R) (N14 := N14) hb hr post 9 0 a c h rfl (by simpa [lowD] using g) kp be
  simpa [lowD] using this
/-- The digits turned round. -/
theorem Dig_turn {R : Rt} {h0 h1 : Hp} {al : Option Addr} {cl m : Nat} {ds : List Nat} (k0 : Keep h0 h1) (hl : ds.length ≤ 2000000) (post : ∀ h', Keep h1 h' → R (.string (bstr ds.reverse)) h') :
    ∀ (k i : Nat) (a : Option Addr) (c : Nat) (h : Hp), i + k = ds.length → GotE eU8 h1 h a c (ds.reverse.take i) → Keep h1 h → Beside eU8 h al cl ds a →
      gnomonref03_Digits.L5.t R (k + 1) al ds.length cl a (ds.reverse.take i).length c ((ds.length : Int) - 1 - (i : Int)) h := by
  intro k
  induction k with
  | zero =>
    intro i a c h hi g kp be
    unfold gnomonref03_Digits.L5.t gnomonref03_Digits.D6.t
    refine c_dec (fun hb => absurd hb (by omega)) fun _ => ?_
    unfold gnomonref03_Digits.D3.t
    refine b2s_intro g.rd rfl ?_
    rw [List.take_of_length_le (by rw [List.length_reverse]; omega)]
    exact post h kp
  | succ k ih =>
    intro i a c h hi g kp be
    have hj : ds.length - 1 - i < ds.length := by omega
    have er : ds.reverse[i]? = some (ds.getD (ds.length - 1 - i) 0) := by
      rw [List.getElem?_reverse (by omega), getD_some hj]
    have et : ds.reverse.take (i + 1) = ds.reverse.take i ++ [ds.getD (ds.length - 1 - i) 0] := by rw [List.take_add_one, er]; rfl
    have hw := be.rd.word8 (ds.length - 1 - i)
    unfold gnomonref03_Digits.L5.t gnomonref03_Digits.D6.t
    refine c_dec (fun _ => ?_) fun hb => absurd (by omega) hb
    refine at8 be.rd (j := ds.length - 1 - i) (by omega) rfl hj ?_
    have ih := ih (i + 1)
    rw [et] at ih
    generalize ds.getD (ds.length - 1 - i) 0 = d at *
    refine push8 g kp rfl rfl hw (by rw [List.length_take]; omega) be fun a' c' h' g' k' be' _ => ?_
    refine k_i64 ((ds.length : Int) - 1 - ((i + 1 : Nat) : Int)) (by omega) (by omega) (by omega) ?_
    exact ih a' c' h' (by omega) g' k' be'
theorem Dig_trim {R : Rt} {h0 h1 : Hp} {al : Option Addr} {X : Nat} (k0 : Keep h0 h1) (hX : X ≠ 0) (post : ∀ h', Keep h1 h' → R (.string (bstr (txt X))) h') :
    ∀ (k : Nat) (l : List Nat) (cl : Nat), l.length ≤ k → k ≤ 2000000 → RdE eU8 h1 al cl l → l.reverse.dropWhile zz8 = (dec X).reverse → gnomonref03_Digits.L9.t R (k + 1) al l.length cl h1 := by
  intro k
  induction k with
  | zero =>
    intro l cl hk _ r e
    have : l = [] := List.length_eq_zero_iff.mp (by omega)
    subst this
    have : dec X = [] := by simpa using e.symm
    exact absurd (dec_nil.mp this) hX
  | succ k ih =>
    intro l cl hk hk2 r e
    have hne : l ≠ [] := fun hh => by
      subst hh
      have : dec X = [] := by simpa using e.symm
      exact hX (dec_nil.mp this)
    have hlen : l.length ≠ 0 := fun hh => hne (List.length_eq_zero_iff.mp hh)
    have hj : l.length - 1 < l.length := by omega
    have el : l = l.take (l.length - 1) ++ [l.getD (l.length - 1) 0] := by
      have h1 := take_byt hj
      rw [show l.length - 1 + 1 = l.length by omega, List.take_length] at h1
      exact h1
    unfold gnomonref03_Digits.L9.t gnomonref03_Digits.D10.t
    refine k_i64 ((l.length : Int) - 1) rfl (by omega) (by omega) ?_
    refine at8 r (j := l.length - 1) (by omega) rfl hj ?_
    refine c_eq (fun hz => ?_) fun hz => ?_
    · refine k_i64 ((l.length : Int) - 1) rfl (by omega) (by omega) ?_
      have hc := r.cap
      refine sl_to (n := l.length - 1) (by omega) (by omega) ?_
      have := ih (l.take (l.length - 1)) cl (by rw [List.length_take]; omega) (by omega) (r.take _) (by
        rw [← e]
        conv => rhs; rw [el]
        have h48 : l.getD (l.length - 1) 0 = 48 := by omega
        rw [List.reverse_append, h48]; rfl)
      rw [List.length_take, Nat.min_eq_left (by omega)] at this
      exact this
    · have ez : zz8 (l.getD (l.length - 1) 0) = false := by rw [beq_eq_false_iff_ne]; omega
      have e2 : l.reverse.dropWhile zz8 = l.reverse := by
        conv => lhs; rw [el]
        conv => rhs; rw [el]
        rw [List.reverse_append]
        show List.dropWhile zz8 (l.getD (l.length - 1) 0 :: (l.take (l.length - 1)).reverse) = _
        rw [List.dropWhile_cons, ez]; rfl
      rw [e2] at e
      have e3 : l = dec X := List.reverse_inj.mp e
      have et : l.reverse = txt X := by unfold txt; rw [if_neg hX, e3]
      have hl8 := r.len8
      unfold gnomonref03_Digits.D2.t
      refine mkE eU8 0 0 l.length rfl ok8 1 rfl (by decide) rfl rfl (by omega) (by omega) fun h2 o2 k2 => ?_
      rw [Int.toNat_natCast]
      unfold gnomonref03_Digits.D4.t
      refine k_i64 ((l.length : Int) - 1) rfl (by omega) (by omega) ?_
      refine ⟨l.length + 1, ?_⟩
      have g0 : GotE eU8 h1 h2 (some ⟨h1.size, 0, none⟩) l.length [] := BlkE.got (xs := []) (rest := List.replicate l.length 0) (by simpa using o2) (Nat.le_refl _) (by simp) (by simp) (by simp)
      have be : Beside eU8 h2 al cl l (some ⟨h1.size, 0, none⟩) := by
        refine ⟨r.keep k2, Or.inr fun p ep q eq => ?_⟩
        cases eq
        obtain ⟨p', e', gc⟩ := r.at_ 0 _ (getD_some (by omega : 0 < l.length))
        rw [ep] at e'; cases e'
        have h3 := cellH_lt gc
        rw [add_block] at h3
        show h1.size ≠ p.block
        omega
      have := Dig_turn (R := R) (m := 0) (Keep.refl h1) (by omega) (fun h' k => by rw [et]; exact post h' k) l.length 0 (some ⟨h1.size, 0, none⟩) l.length h2 (by omega) (by simpa using g0) k2 be
      simpa using this
theorem Dig_outer {R : Rt} {h0 : Hp} {X M : Nat} (hX0 : X ≠ 0) (hM : M ≤ 80000) (hX2 : X < 10 ^ M) (post : ∀ h', Keep h0 h' → R (.string (bstr (txt X))) h') :
    ∀ (n t : Nat) (a0 : Option Addr) (c0 : Nat) (a : Option Addr) (c : Nat) (h : Hp), X / 10 ^ (9 * t) < 10 ^ (9 * n) → t ≤ 80000 → Beside eU32 h a0 c0 (D.digs (X / 10 ^ (9 * t))) a → GotE eU8 h0 h a c (lowD (9 * t) X) → Keep h0 h →
      gnomonref03_Digits.L14.t R (n + 1) a (lowD (9 * t) X).length c a0 (D.digs (X / 10 ^ (9 * t))).length c0 h := by
  have fin : ∀ (n t : Nat) (a0 : Option Addr) (c0 : Nat) (a : Option Addr) (c : Nat) (h : Hp), X / 10 ^ (9 * t) = 0 → t ≤ 80000 → GotE eU8 h0 h a c (lowD (9 * t) X) → Keep h0 h →
      gnomonref03_Digits.L14.t R (n + 1) a (lowD (9 * t) X).length c a0 (D.digs (X / 10 ^ (9 * t))).length c0 h := by
    intro n t a0 c0 a c h e ht g kp
    have hl := lowD_len (9 * t) X
    have hlt := (Nat.div_eq_zero_iff_lt (Nat.pow_pos (by decide))).mp e
    rw [e]
    unfold gnomonref03_Digits.L14.t gnomonref03_Digits.D15.t
    refine c_dec (fun hb => absurd hb (by rw [D.digs_zero]; decide)) fun _ => ?_
    refine ⟨9 * t + 1, ?_⟩
    exact Dig_trim (h0 := h0) kp hX0 (fun h' k => post h' (kp.trans k)) (9 * t) _ c (by omega) (by omega) g.rd (low_strip hlt)
  intro n
  induction n with
  | zero =>
    intro t a0 c0 a c h hA ht be g kp
    refine fin 0 t a0 c0 a c h ?_ ht g kp
    rw [Nat.mul_zero, Nat.pow_zero] at hA
    exact Nat.lt_one_iff.mp hA
  | succ n ih =>
    intro t a0 c0 a c h hA ht be g kp
    by_cases e : X / 10 ^ (9 * t) = 0
    · exact fin (n + 1) t a0 c0 a c h e ht g kp
    have ih := ih (t + 1)
    have e1 : 10 ^ (9 * (t + 1)) = 10 ^ (9 * t) * 10 ^ 9 := by rw [← Nat.pow_add]; rfl
    have e2 : X / 10 ^ (9 * (t + 1)) = X / 10 ^ (9 * t) / 10 ^ 9 := by rw [e1, Nat.div_div_eq_div_mul]
    have e3 : lowD (9 * (t + 1)) X = lowD (9 * t) X ++ lowD 9 (X / 10 ^ (9 * t) % 10 ^ 9) := by rw [lowD_mod, ← lowD_add]; rfl
    have ht1 : t < 80000 := by
      refine Nat.lt_of_not_le fun hh => e ?_
      refine Nat.div_eq_of_lt (Nat.lt_of_lt_of_le hX2 (Nat.pow_le_pow_right (by decide) (by omega)))
    rw [e2, e3] at ih
    have hl := lowD_len (9 * t) X
    have hA' : X / 10 ^ (9 * t) / 10 ^ 9 < 10 ^ (9 * n) := by
      rw [Nat.div_lt_iff_lt_mul (Nat.pow_pos (by decide)), ← Nat.pow_add]; exact hA
    have hp : 1 ≤ (D.digs (X / 10 ^ (9 * t))).length := by rw [D.digs_pos e]; simp
    generalize hq : X / 10 ^ (9 * t) = A at *
    unfold gnomonref03_Digits.L14.t gnomonref03_Digits.D15.t
    refine c_dec (fun _ => ?_) fun hb => absurd (by omega) hb
    unfold gnomonref03_Digits.D16.t
    refine hc_intro (rDivSmall_spec (w := 10 ^ 9) be.rd rfl rfl (by decide) (by decide)) fun v h1 ⟨k1, a1, c1, e5, g1⟩ => ?_
    subst e5
    rw [D.val_digs] at g1 ⊢
    refine gTup_intro rfl (uncons_intro (gSlice_intro rfl (uncons_intro (gInt_intro rfl (unnil_intro ?_)))))
    unfold gnomonref03_Digits.D18.t
    refine ⟨10, ?_⟩
    refine Dig_inner0 (qs := D.digs (A / 10 ^ 9)) (r0 := A % 10 ^ 9) (bs0 := lowD (9 * t) X) (by rw [hl]; omega) (Nat.lt_trans (Nat.mod_lt _ (Nat.pow_pos (by decide))) (by decide)) (fun a2 c2 h2 g2 k2 be2 => ?_) (g.keep k1) (kp.trans k1) (Beside.new g1 g)
    exact ih a1 c1 a2 c2 h2 hA' (by omega) be2 g2 k2
theorem Digits_spec {a : Option Addr} {c l X : Nat} {h : Hp} (r : RdE eU32 h a c (D.digs X)) (hl : l = (D.digs X).length) (hX : (D.digs X).length ≤ 1000) :
    HC gnomonref03_Digits.id #[.slice a l c] h fun v h' => Keep h h' ∧ v = .string (bstr (txt X)) := by
  subst hl
  refine gnomonref03_Digits.ok ?_
  unfold gnomonref03_Digits.t gnomonref03_Digits.D1.t
  refine c_eq (fun h0 => ?_) fun h0 => ?_
  · have e : X = 0 := by
      have : (D.digs X).length = 0 := by omega
      have h1 := D.val_digs X
      rw [List.length_eq_zero_iff.mp this] at h1
      exact h1.symm
    subst e; exact ⟨Keep.refl _, rfl⟩
  have hX0 : X ≠ 0 := fun hh => h0 (by rw [hh, D.digs_zero]; rfl)
  unfold gnomonref03_Digits.D13.t
  refine hc_intro (rNorm_spec r rfl) fun v h1 ⟨k1, s1⟩ => ?_
  rw [D.val_digs] at s1
  refine s1.elim fun a1 c1 g1 => ?_
  have e0 : X / 10 ^ (9 * 0) = X := by rw [Nat.mul_zero, Nat.pow_zero, Nat.div_one]
  obtain ⟨m, hm⟩ : ∃ m, m = 32000 := ⟨_, rfl⟩
  obtain ⟨q, hq⟩ : ∃ q, q = 1000 := ⟨_, rfl⟩
  have hlt : X < 10 ^ m := Nat.lt_of_lt_of_le (D.digs_len.mp (show (D.digs X).length ≤ q by omega)) (Nat.le_trans (Nat.pow_le_pow_left (by decide : 2 ≤ 10) _) (Nat.pow_le_pow_right (by decide) (by omega)))
  refine ⟨X + 1, ?_⟩
  have := Dig_outer (R := fun v h' => Keep h h' ∧ v = .string (bstr (txt X))) (h0 := h1) (M := m) hX0 (by omega) hlt (fun h' k => ⟨k1.trans k, rfl⟩) X 0 a1 c1 none 0 h1
    (by rw [e0]; exact Nat.lt_of_lt_of_le (Nat.lt_pow_self (by decide)) (Nat.pow_le_pow_right (by decide) (by omega))) (by decide) (by rw [e0]; exact ⟨g1.rd, Or.inr fun p e q eq => by cases eq⟩) (GotE.nil _ _) (Keep.refl _)
  rw [e0] at this
  exact this
theorem DocText_spec {a : Option Addr} {c l : Nat} {xs : List Nat} {h : Hp} (r : Rd h a c xs) (hl : l = xs.length) : HC gnomonref03_DocText.id #[.slice a l c] h fun v h' => Keep h h' ∧ v = .tuple #[.string (textS xs).1, .int .i64 (textS xs).2] := by
  subst hl
  refine gnomonref03_DocText.ok ?_
  unfold gnomonref03_DocText.t gnomonref03_DocText.D1.t
  refine hc_intro (DocForm_spec r rfl) fun v h1 ⟨e1, e2⟩ => ?_
  subst e1; subst e2
  refine gBool_intro rfl ?_
  refine c_not (fun hf => ?_) fun hf => ?_
  · have hf := of_decide_eq_false hf
    unfold textS; rw [if_neg hf]; exact ⟨Keep.refl _, rfl⟩
  have hf := of_decide_eq_true hf
  have ex := hf.digs r.words
  unfold textS
  rw [if_pos hf]
  refine c_dec (fun hb => ?_) fun hb => ?_
  · have : 4900 < (txt (val xs)).length := by
      obtain ⟨m, hm⟩ : ∃ m, m = 4900 := ⟨_, rfl⟩
      obtain ⟨b, hb2⟩ : ∃ b, b = 16278 := ⟨_, rfl⟩
      rw [← hm]
      refine Nat.lt_of_not_le fun hh => ?_
      have h1 := Nat.lt_of_lt_of_le ((txt_len (by omega)).mp hh) (ten_4900 hm hb2)
      obtain ⟨q, hq⟩ : ∃ q, q = 260 := ⟨_, rfl⟩
      have h2 : (digs (val xs)).length ≤ q := digs_len.mpr (Nat.lt_of_lt_of_le h1 (Nat.pow_le_pow_right (by decide) (by omega)))
      rw [ex] at h2
      omega
    rw [if_pos this]; exact ⟨Keep.refl _, rfl⟩
  · refine hc_intro (From_spec r rfl) fun v h2 ⟨k2, s2⟩ => ?_
    refine s2.elim fun a2 c2 g2 => ?_
    have hD : (D.digs (val xs)).length ≤ 2 * 260 := (dlen_two _ _).mpr (by rw [ex]; omega)
    refine hc_intro (Digits_spec g2.rd rfl (by omega)) fun v h3 ⟨k3, e⟩ => ?_
    subst e
    refine gStr_intro rfl ?_
    refine c_dec (fun hb => ?_) fun hb => ?_
    · rw [bstr_size] at hb
      rw [if_pos (by omega)]; exact ⟨k2.trans k3, rfl⟩
    · rw [bstr_size] at hb
      rw [if_neg (by omega)]; exact ⟨k2.trans k3, rfl⟩
theorem htext_spec {a : Option Addr} {c l : Nat} {xs : List Nat} {h : Hp} (r : Rd h a c xs) (hl : l = xs.length) : HC gnomonlaw03_text.id #[.slice a l c] h fun v h' => Keep h h' ∧ v = .bool true := by
  subst hl
  refine gnomonlaw03_text.ok ?_
  unfold gnomonlaw03_text.t gnomonlaw03_text.D1.t
  refine hc_intro (htwin_spec r rfl) fun v h1 ⟨k1, an⟩ => ?_
  refine AnsS.elim an fun a1 c1 r1 => ?_
  refine hc_intro (Text_spec r1 rfl) fun v h2 ⟨k2, e⟩ => ?_
  subst e
  refine gTup_intro rfl (uncons_intro (gStr_intro rfl (uncons_intro (gInt_intro rfl (unnil_intro ?_)))))
  refine hc_intro (DocText_spec (r.keep (k1.trans k2)) rfl) fun v h3 ⟨k3, e⟩ => ?_
  subst e
  refine gTup_intro rfl (uncons_intro (gStr_intro rfl (uncons_intro (gInt_intro rfl (unnil_intro ?_)))))
  refine c_eq (fun _ => ?_) fun hh => absurd rfl hh
  exact ⟨k1.trans (k2.trans k3), by rw [beq_self_eq_true]⟩
theorem textS_ten : textS [0, 1] = (⟨#[49, 56, 52, 52, 54, 55, 52, 52, 48, 55, 51, 55, 48, 57, 53, 53, 49, 54, 49, 54]⟩, 0) := by
  have hf : Frm [0, 1] := ⟨by decide, by simp [trimL]⟩
  have hv : val [0, 1] = 18446744073709551616 := rfl
  have e : txt 18446744073709551616 = [49, 56, 52, 52, 54, 55, 52, 52, 48, 55, 51, 55, 48, 57, 53, 53, 49, 54, 49, 54] := by
    unfold txt
    rw [if_neg (by decide)]
    have := low_strip (m := 20) (X := 18446744073709551616) (by decide)
    rw [← this]
    decide
  unfold textS
  rw [if_pos hf, hv, e, if_neg (by decide)]
  rfl
theorem NatdivTexts_law {h : Hp} {a : Option Addr} {c l : Nat} {xs : List Nat} (r : Rd h a c xs) (hl : l = xs.length) : HC gnomonlaw03_NatdivTexts.id #[.slice a l c] h fun v h' => Keep h h' ∧ v = .bool true := by
  refine gnomonlaw03_NatdivTexts.ok ?_
  unfold gnomonlaw03_NatdivTexts.t gnomonlaw03_NatdivTexts.D1.t
  refine box_intro [0, 1] (by rfl) (by decide) (by decide) fun h1 o1 k1 => ?_
  refine hc_intro (Text_spec (o1.rd (by decide)) rfl) fun v h2 ⟨k2, e⟩ => ?_
  subst e
  rw [textS_ten]
  refine gTup_intro rfl (uncons_intro (gStr_intro rfl (uncons_intro (gInt_intro rfl (unnil_intro ?_)))))
  refine c_eq (fun _ => ?_) fun hh => absurd rfl hh
  refine c_str (fun _ => ?_) fun hh => absurd rfl hh
  refine hc_intro (htext_spec (r.keep (k1.trans k2)) hl) fun v h3 ⟨k3, e⟩ => ?_
  subst e
  exact gBool_intro rfl ⟨k1.trans (k2.trans k3), rfl⟩
end Go.Proofs.Ytdpkfipkjdlmlaa.G
