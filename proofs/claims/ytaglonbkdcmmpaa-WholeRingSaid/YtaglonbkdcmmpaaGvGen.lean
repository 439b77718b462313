/- Steps by which a printed predicate is led to a code's meaning. -/
import Derived.Test.YtaglonbkdcmmpaaGvMono
namespace Go.Gv
variable {P : Program} {E : Env}
def retQ (E : Env) (rs : List ResultVar) (R : Value → Hp → Prop) : Ex → Fr → Hp → Prop :=
  fun e fr h' => match e with | .exit _ => False | _ => resK E fr h' rs fun vs => R (mkRes vs) h'
def updL (fr : Fr) : List (Nat × Value) → Fr
  | [] => fr
  | p :: l => updL (upd fr p.1 p.2) l
def AllEq (fr : Fr) : List (Nat × Value) → Prop
  | [] => True
  | p :: l => fr p.1 = p.2 ∧ AllEq fr l
theorem updL_self : ∀ {l : List (Nat × Value)} {fr : Fr}, AllEq fr l → updL fr l = fr
  | [], _, _ => rfl
  | p :: l, fr, h => by
    have e : upd fr p.1 p.2 = fr := upd_self h.1
    show updL (upd fr p.1 p.2) l = fr
    rw [e]; exact updL_self h.2
theorem den_enter {c : Code} {Q : Ex → Fr → Hp → Prop} {fr : Fr} {h : Hp} (l : List (Nat × Value)) (hl : AllEq fr l) {t : Prop} (ht : den P E c Q (updL fr l) h = t) (g : t) : den P E c Q fr h := by
  rw [← ht, updL_self hl] at g; exact g
def first : Nat → Code → Code
  | 1, .seq a _ => a
  | n + 2, .seq a b => .seq a (first (n + 1) b)
  | _, c => c
def rest : Nat → Code → Code
  | 1, .seq _ b => b
  | n + 2, .seq _ b => rest (n + 1) b
  | _, _ => .skip
theorem den_first {N : Fr → Hp → Prop} {Q : Ex → Fr → Hp → Prop} : ∀ {n : Nat} {c : Code} (_ : ∀ fr h, N fr h → den P E (rest n c) Q fr h) {fr : Fr} {h : Hp}, den P E (first n c) (Ex.then N Q) fr h → den P E c Q fr h := by
  have key : ∀ (c : Code), (∀ fr h, N fr h → den P E .skip Q fr h) → ∀ {fr : Fr} {h : Hp}, den P E c (Ex.then N Q) fr h → den P E c Q fr h := by
    intro c hn fr h g
    refine den_mono (fun e fr h g => ?_) g
    cases e with
    | normal => exact hn _ _ g
    | exit i => exact g
    | ret => exact g
  have one : ∀ (a b : Code), (∀ fr h, N fr h → den P E b Q fr h) → ∀ {fr : Fr} {h : Hp}, den P E a (Ex.then N Q) fr h → den P E (.seq a b) Q fr h := by
    intro a b hn fr h g
    show den P E a (Ex.then (den P E b Q) Q) fr h
    refine den_mono (fun e fr h g => ?_) g
    cases e with
    | normal => exact hn _ _ g
    | exit i => exact g
    | ret => exact g
  intro n
  induction n with
  | zero =>
    intro c hn fr h g
    have e1 : first 0 c = c := by cases c <;> rfl
    have e2 : rest 0 c = .skip := by cases c <;> rfl
    rw [e1] at g; rw [e2] at hn; exact key c hn g
  | succ n ih =>
    intro c hn fr h g
    cases c with
    | seq a b =>
      cases n with
      | zero => exact one a b hn g
      | succ m =>
        have g' : den P E a (Ex.then (den P E (first (m + 1) b) (Ex.then N Q)) (Ex.then N Q)) fr h := g
        rw [then_then] at g' <;> skip
        all_goals show den P E a (Ex.then (den P E b Q) Q) fr h
        all_goals refine den_mono (fun e fr h g => ?_) g'
        all_goals cases e with
          | normal => exact ih hn g
          | exit i => exact g
          | ret => exact g
    | _ => exact key _ (by cases n <;> exact hn) (by cases n <;> exact g)
theorem den_cut (n : Nat) {c r : Code} {N : Fr → Hp → Prop} {Q : Ex → Fr → Hp → Prop} (hr : rest n c = r) (hn : ∀ fr h, N fr h → den P E r Q fr h) {fr : Fr} {h : Hp} (g : den P E (first n c) (Ex.then N Q) fr h) : den P E c Q fr h := by
  subst hr; exact den_first hn g
theorem den_then {c a r : Code} {N : Fr → Hp → Prop} {Q : Ex → Fr → Hp → Prop} (hc : c = .seq a r) (hn : ∀ fr h, N fr h → den P E r Q fr h) {fr : Fr} {h : Hp} (g : den P E a (Ex.then N Q) fr h) : den P E c Q fr h := by
  subst hc; exact den_first (n := 1) hn g
theorem den_block {c a : Code} {i : Nat} {Q : Ex → Fr → Hp → Prop} (hc : c = .block i a) {fr : Fr} {h : Hp} (g : den P E a (Ex.inBlock i Q) fr h) : den P E c Q fr h := by
  subst hc; exact g
theorem den_scope {c a : Code} {Q : Ex → Fr → Hp → Prop} (hc : c = .scope a) {fr : Fr} {h : Hp} (g : den P E a Q fr h) : den P E c Q fr h := by
  subst hc; exact g
theorem den_condT {c a b : Code} {t : Nat} {Q : Ex → Fr → Hp → Prop} (hc : c = .cond (.tmp t) a b) {fr : Fr} {h : Hp} (e : fr t = .bool true) (g : den P E a Q fr h) : den P E c Q fr h := by
  subst hc
  show (match fr t with | .bool t' => cond t' (den P E a Q (upd fr t (.bool true)) h) (den P E b Q (upd fr t (.bool false)) h) | _ => False)
  rw [e, upd_self e]; exact g
theorem den_condF {c a b : Code} {t : Nat} {Q : Ex → Fr → Hp → Prop} (hc : c = .cond (.tmp t) a b) {fr : Fr} {h : Hp} (e : fr t = .bool false) (g : den P E b Q fr h) : den P E c Q fr h := by
  subst hc
  show (match fr t with | .bool t' => cond t' (den P E a Q (upd fr t (.bool true)) h) (den P E b Q (upd fr t (.bool false)) h) | _ => False)
  rw [e, upd_self e]; exact g
theorem loop_ok {c b : Code} {Q : Ex → Fr → Hp → Prop} (T : Nat → Fr → Hp → Prop) (hc : c = .loop b) (h0 : ∀ fr h, T 0 fr h → False) (hs : ∀ n fr h, T (n + 1) fr h → den P E b (Ex.then (T n) Q) fr h) (n : Nat) (fr : Fr) (h : Hp) (g : T n fr h) : den P E c Q fr h := by
  subst hc
  refine ⟨n, ?_⟩
  induction n generalizing fr h with
  | zero => exact (h0 fr h g).elim
  | succ n ih =>
    show den P E b (Ex.then (iter (fun N => den P E b (Ex.then N Q)) n) Q) fr h
    refine den_mono (fun e fr h g => ?_) (hs n fr h g)
    cases e with
    | normal => exact ih _ _ g
    | exit i => exact g
    | ret => exact g
theorem gInt_intro {k : IntKind} {v : Value} {n : Int} {K : Int → Prop} (e : v = .int k n) (g : K n) : gInt k v K := by
  subst e; cases k <;> exact g
theorem gBool_intro {v : Value} {n : Bool} {K : Bool → Prop} (e : v = .bool n) (g : K n) : gBool v K := by subst e; exact g
theorem gStr_intro {v : Value} {n : ByteArray} {K : ByteArray → Prop} (e : v = .string n) (g : K n) : gStr v K := by subst e; exact g
theorem gPtr_intro {v : Value} {n : Option Addr} {K : Option Addr → Prop} (e : v = .pointer n) (g : K n) : gPtr v K := by subst e; exact g
theorem gPtrS_intro {v : Value} {n : Addr} {K : Addr → Prop} (e : v = .pointer (some n)) (g : K n) : gPtrS v K := by subst e; exact g
theorem gSlice_intro {v : Value} {a : Option Addr} {l c : Nat} {K : Option Addr → Nat → Nat → Prop} (e : v = .slice a l c) (g : K a l c) : gSlice v K := by subst e; exact g
theorem gAgg_intro {v : Value} {l : List Value} {K : List Value → Prop} (e : v = .agg l.toArray) (g : K l) : gAgg v K := by subst e; exact g
theorem gAgg_elim' {v : Value} {K : List Value → Prop} (h : gAgg v K) : ∃ l, v = .agg l.toArray ∧ K l := by
  obtain ⟨cs, e, g⟩ := gAgg_elim h; exact ⟨cs.toList, by rw [e], g⟩
theorem gTup_intro {v : Value} {l : List Value} {K : List Value → Prop} (e : v = .tuple l.toArray) (g : K l) : gTup v K := by subst e; exact g
theorem gTup_elim' {v : Value} {K : List Value → Prop} (h : gTup v K) : ∃ l, v = .tuple l.toArray ∧ K l := by
  obtain ⟨cs, e, g⟩ := gTup_elim h; exact ⟨cs.toList, by rw [e], g⟩
theorem uncons_intro {v : Value} {vs : List Value} {K : Value → List Value → Prop} (g : K v vs) : uncons (v :: vs) K := g
theorem unnil_intro {K : Prop} (g : K) : unnil [] K := g
theorem calls_of_den' (hE : EnvOk P E) {f : FuncId} {fn : Func} {c : Code} {rs : List ResultVar} (hf : P.funcs[f]? = some fn) (hb : fn.body = some c) (hc : codeB E fn.ntmps c = true) (hrs : fn.results.toList = rs)
    {args : List Value} (hn : Nat.ble args.length fn.ntmps = true) {h : Hp} {R : Value → Hp → Prop}
    (hd : den P E c (retQ E rs R) (initFr args) h) : HCalls P f args.toArray h R :=
  calls_of_den hE hf hb hc hrs (Nat.le_of_ble_eq_true hn) hd
end Go.Gv
