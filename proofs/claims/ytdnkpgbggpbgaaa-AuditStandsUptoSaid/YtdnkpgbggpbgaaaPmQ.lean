/- The pure machine, part Q: the same, a step at a time: what follows stays behind a name till it is come to. -/
import Derived.Test.YtdnkpgbggpbgaaaPmP
set_option linter.unusedVariables false
set_option linter.unusedSimpArgs false
namespace Go.Proofs.Ytdnkpgbggpbgaaa.Pm
open Go.RowKit

def kSeq (P : Program) (b : PC) (Q : Exit → Slots → VH → Prop) : Exit → Slots → VH → Prop := fun e s' h' => match e with
  | .normal => pw P b s' h' Q
  | e => Q e s' h'
def kBlock (id : Nat) (Q : Exit → Slots → VH → Prop) : Exit → Slots → VH → Prop := fun e s' h' => match e with
  | .exit i => if i = id then Q .normal s' h' else Q (.exit i) s' h'
  | e => Q e s' h'
def kScope (Q : Exit → Slots → VH → Prop) : Exit → Slots → VH → Prop := fun e s' h' => match e with
  | .goto _ => False
  | e => Q e s' h'
def kLoop (J : Nat → Slots → VH → Prop) (n : Nat) (Q : Exit → Slots → VH → Prop) : Exit → Slots → VH → Prop := fun e s' h' => match e with
  | .normal => ∃ k, k < n ∧ J k s' h'
  | e => Q e s' h'
def kCond (P : Program) (a b : PC) (s : Slots) (h : VH) (Q : Exit → Slots → VH → Prop) (v : Value) : Prop := match v with
  | .bool t => (t = true → pw P a s h Q) ∧ (t = false → pw P b s h Q)
  | _ => False
def kCall (P : Program) (r : List GI) (s : Slots) (d : Option Nat) (K : Slots → VH → Prop) : Value → VH → Prop := fun v h' => pwOps P r (putS s d v) h' K
def kCallv (P : Program) (args : List Value) (h : VH) (R : Value → VH → Prop) (v : Value) : Prop := match v with
  | .func (.func f) first cap => isFn P f = true ∧ PCalls P f (first.toList ++ args ++ cap.toList) h R
  | .func (.yield i) _ _ => PYield P i args h R
  | _ => False
def kStep (P : Program) (r : List GI) (s : Slots) (d : Option Nat) (K : Slots → VH → Prop) (x : Option (Value × VH)) : Prop := match x with
  | some (v, h') => pwOps P r (putS s d v) h' K
  | none => False
def kQ (P : Program) (r : List GI) (s : Slots) (h : VH) (d : Option Nat) (K : Slots → Prop) (x : Option (Value × VH)) : Prop := match x with
  | some (v, _) => pwQ P r (putS s d v) h K
  | none => False
def isCallI : I → Bool
  | .call _ _ | .callv _ _ | .nextM _ => true
  | _ => false
def kNext (P : Program) (r : List GI) (s : Slots) (d : Option Nat) (K : Slots → VH → Prop) : Option (List (Value × VH)) → Prop
  | some l => ∀ q ∈ l, pwOps P r (putS s d q.1) q.2 K
  | none => False
def kScopeL (P : Program) (l : Nat) (t : PC) (Q : Exit → Slots → VH → Prop) : Exit → Slots → VH → Prop := fun e s' h' => match e with
  | .goto l' => l' = l ∧ pw P t s' h' (kScope Q)
  | e => Q e s' h'

section
variable {P : Program} {s : Slots} {h : VH} {Q : Exit → Slots → VH → Prop}
theorem pw_skip : pw P .skip s h Q = Q .normal s h := Eq.trans rfl rfl
theorem pw_ops {l : List GI} : pw P (.ops l) s h Q = pwOps P l s h (Q .normal) := Eq.trans rfl rfl
theorem pw_quiet {l : List GI} : pw P (.quiet l) s h Q = pwQ P l s h (fun s' => Q .normal s' h) := Eq.trans rfl rfl
theorem pw_draw {l : List DI} : pw P (.draw l) s h Q = pwD P l s h (Q .normal) := Eq.trans rfl rfl
theorem pw_drawT {t : DT} : pw P (.drawT t) s h Q = pwT P t s h (Q .normal) := Eq.trans rfl rfl
theorem pw_seq {a b : PC} : pw P (.seq a b) s h Q = pw P a s h (kSeq P b Q) := Eq.trans rfl rfl
theorem pw_cond {c : Ref} {a b : PC} : pw P (.cond c a b) s h Q = kCond P a b s h Q (ev s c) := Eq.trans rfl rfl
theorem pw_block {id : Nat} {b : PC} : pw P (.block id b) s h Q = pw P b s h (kBlock id Q) := Eq.trans rfl rfl
theorem pw_exit {id : Nat} : pw P (.exit id) s h Q = Q (.exit id) s h := Eq.trans rfl rfl
theorem pw_ret : pw P .ret s h Q = Q .ret s h := Eq.trans rfl rfl
theorem pw_scope {b : PC} : pw P (.scope b) s h Q = pw P b s h (kScope Q) := Eq.trans rfl rfl
theorem pw_label {l : Nat} : pw P (.label l) s h Q = Q .normal s h := Eq.trans rfl rfl
theorem pw_goto {l : Nat} : pw P (.goto l) s h Q = Q (.goto l) s h := Eq.trans rfl rfl
theorem pw_scopeL {b : PC} {l : Nat} {t : PC} : pw P (.scopeL b l t) s h Q = pw P b s h (kScopeL P l t Q) := Eq.trans rfl rfl
theorem pw_loop {b : PC} (J : Nat → Slots → VH → Prop) (n : Nat) (h0 : J n s h) (hr : ∀ n s h, J n s h → pw P b s h (kLoop J n Q)) : pw P (.loop b) s h Q := ⟨J, n, h0, hr⟩

theorem kSeq_normal {b : PC} : kSeq P b Q .normal s h = pw P b s h Q := Eq.trans rfl rfl
theorem kSeq_ret {b : PC} : kSeq P b Q .ret s h = Q .ret s h := Eq.trans rfl rfl
theorem kSeq_exit {b : PC} {i : Nat} : kSeq P b Q (.exit i) s h = Q (.exit i) s h := Eq.trans rfl rfl
theorem kBlock_normal {id : Nat} : kBlock id Q .normal s h = Q .normal s h := Eq.trans rfl rfl
theorem kBlock_ret {id : Nat} : kBlock id Q .ret s h = Q .ret s h := Eq.trans rfl rfl
theorem kBlock_exit {id i : Nat} : kBlock id Q (.exit i) s h = if i = id then Q .normal s h else Q (.exit i) s h := Eq.trans rfl rfl
theorem kSeq_goto {b : PC} {i : Nat} : kSeq P b Q (.goto i) s h = Q (.goto i) s h := Eq.trans rfl rfl
theorem kBlock_goto {id i : Nat} : kBlock id Q (.goto i) s h = Q (.goto i) s h := Eq.trans rfl rfl
theorem kLoop_goto {J : Nat → Slots → VH → Prop} {n i : Nat} : kLoop J n Q (.goto i) s h = Q (.goto i) s h := Eq.trans rfl rfl
theorem kScopeL_normal {l : Nat} {t : PC} : kScopeL P l t Q .normal s h = Q .normal s h := Eq.trans rfl rfl
theorem kScopeL_ret {l : Nat} {t : PC} : kScopeL P l t Q .ret s h = Q .ret s h := Eq.trans rfl rfl
theorem kScopeL_exit {l i : Nat} {t : PC} : kScopeL P l t Q (.exit i) s h = Q (.exit i) s h := Eq.trans rfl rfl
theorem kScopeL_goto {l i : Nat} {t : PC} : kScopeL P l t Q (.goto i) s h = (i = l ∧ pw P t s h (kScope Q)) := Eq.trans rfl rfl
theorem kScope_normal : kScope Q .normal s h = Q .normal s h := Eq.trans rfl rfl
theorem kScope_ret : kScope Q .ret s h = Q .ret s h := Eq.trans rfl rfl
theorem kScope_exit {i : Nat} : kScope Q (.exit i) s h = Q (.exit i) s h := Eq.trans rfl rfl
theorem kLoop_normal {J : Nat → Slots → VH → Prop} {n : Nat} : kLoop J n Q .normal s h = ∃ k, k < n ∧ J k s h := Eq.trans rfl rfl
theorem kLoop_ret {J : Nat → Slots → VH → Prop} {n : Nat} : kLoop J n Q .ret s h = Q .ret s h := Eq.trans rfl rfl
theorem kLoop_exit {J : Nat → Slots → VH → Prop} {n i : Nat} : kLoop J n Q (.exit i) s h = Q (.exit i) s h := Eq.trans rfl rfl
theorem kCond_bool {a b : PC} {t : Bool} : kCond P a b s h Q (.bool t) = ((t = true → pw P a s h Q) ∧ (t = false → pw P b s h Q)) := Eq.trans rfl rfl

variable {r : List GI} {K : Slots → VH → Prop} {d : Option Nat}
theorem pwOps_nil : pwOps P [] s h K = K s h := Eq.trans rfl rfl
theorem pwOps_call {f : FuncId} {args : List Ref} : pwOps P (⟨d, none, .call f args⟩ :: r) s h K = PCalls P f (args.map (ev s)) h (kCall P r s d K) := by simp only [pwOps, wantedS, if_true]; rfl
theorem pwOps_callv {f : Ref} {args : List Ref} : pwOps P (⟨d, none, .callv f args⟩ :: r) s h K = kCallv P (args.map (ev s)) h (kCall P r s d K) (ev s f) := by simp only [pwOps, wantedS, if_true]; rfl
theorem kCallv_fn {args : List Value} {h : VH} {R : Value → VH → Prop} {f : FuncId} {first cap : Array Value} : kCallv P args h R (.func (.func f) first cap) = (isFn P f = true ∧ PCalls P f (first.toList ++ args ++ cap.toList) h R) := Eq.trans rfl rfl
theorem kCallv_yld {args : List Value} {h : VH} {R : Value → VH → Prop} {i : Nat} {first cap : Array Value} : kCallv P args h R (.func (.yield i) first cap) = PYield P i args h R := Eq.trans rfl rfl
theorem pwOps_nextM {x : Ref} : pwOps P (⟨d, none, .nextM x⟩ :: r) s h K = kNext P r s d K (pnextM (ev s x) h) := by simp only [pwOps, wantedS, if_true]; rfl
theorem pwOps_step {i : I} (hi : isCallI i = false) : pwOps P (⟨d, none, i⟩ :: r) s h K = kStep P r s d K (pstep i s h) := by
  simp only [pwOps, wantedS, if_true]
  cases i <;> first | rfl | (cases hi; done)
theorem pwOps_guard {t : Nat} {b : Bool} {i : I} : pwOps P (⟨d, some (t, b), i⟩ :: r) s h K = if isB (s t) b = true then pwOps P (⟨d, none, i⟩ :: r) s h K else pwOps P r (putS s d undef) h K := by
  simp only [pwOps, wantedS, if_true]
  rfl
theorem kStep_some {v : Value} {h' : VH} : kStep P r s d K (some (v, h')) = pwOps P r (putS s d v) h' K := Eq.trans rfl rfl
theorem kCall_at {v : Value} {h' : VH} : kCall P r s d K v h' = pwOps P r (putS s d v) h' K := Eq.trans rfl rfl
theorem kStep_ite {c : Prop} [Decidable c] {x : Option (Value × VH)} : kStep P r s d K (if c then x else none) = (c ∧ kStep P r s d K x) := by
  by_cases hc : c <;> simp [hc, kStep]
theorem kStep_dite {c : Prop} [Decidable c] {x : c → Option (Value × VH)} : kStep P r s d K (if hc : c then x hc else none) = (∃ hc : c, kStep P r s d K (x hc)) := by
  by_cases hc : c <;> simp [hc, kStep]

variable {KQ : Slots → Prop}
theorem pwQ_nil : pwQ P [] s h KQ = KQ s := Eq.trans rfl rfl
theorem pwQ_call {f : FuncId} {args : List Ref} : pwQ P (⟨d, none, .call f args⟩ :: r) s h KQ = ∃ v, closedV v = true ∧ PCalls P f (args.map (ev s)) h.ro (fun u _ => u = v) ∧ pwQ P r (putS s d v) h KQ := by simp only [pwQ, wantedS, if_true]
theorem pwQ_step {i : I} (hi : readI i = true) : pwQ P (⟨d, none, i⟩ :: r) s h KQ = kQ P r s h d KQ (pstep i s h) := by
  simp only [pwQ, wantedS, if_true]
  cases i <;> first | rfl | (cases hi; done)
theorem pwQ_guard {t : Nat} {b : Bool} {i : I} : pwQ P (⟨d, some (t, b), i⟩ :: r) s h KQ = if isB (s t) b = true then pwQ P (⟨d, none, i⟩ :: r) s h KQ else pwQ P r (putS s d undef) h KQ := by
  simp only [pwQ, wantedS, if_true]
theorem kQ_some {v : Value} {h' : VH} : kQ P r s h d KQ (some (v, h')) = pwQ P r (putS s d v) h KQ := Eq.trans rfl rfl
theorem kQ_ite {c : Prop} [Decidable c] {x : Option (Value × VH)} : kQ P r s h d KQ (if c then x else none) = (c ∧ kQ P r s h d KQ x) := by
  by_cases hc : c <;> simp [hc, kQ]
end

theorem pwO_mov {P : Program} {r : List GI} {s : Slots} {h : VH} {d : Option Nat} {K : Slots → VH → Prop} (x : Ref) : pwOps P (⟨d, none, .mov x⟩ :: r) s h K = kStep P r s d K (pstep (.mov x) s h) := pwOps_step rfl
theorem pwO_pick {P : Program} {r : List GI} {s : Slots} {h : VH} {d : Option Nat} {K : Slots → VH → Prop} (c a b : Ref) : pwOps P (⟨d, none, .pick c a b⟩ :: r) s h K = kStep P r s d K (pstep (.pick c a b) s h) := pwOps_step rfl
theorem pwO_nilck {P : Program} {r : List GI} {s : Slots} {h : VH} {d : Option Nat} {K : Slots → VH → Prop} (x : Ref) : pwOps P (⟨d, none, .nilck x⟩ :: r) s h K = kStep P r s d K (pstep (.nilck x) s h) := pwOps_step rfl
theorem pwO_bin {P : Program} {r : List GI} {s : Slots} {h : VH} {d : Option Nat} {K : Slots → VH → Prop} (op : BinOp) (x y : Ref) : pwOps P (⟨d, none, .bin op x y⟩ :: r) s h K = kStep P r s d K (pstep (.bin op x y) s h) := pwOps_step rfl
theorem pwO_binB {P : Program} {r : List GI} {s : Slots} {h : VH} {d : Option Nat} {K : Slots → VH → Prop} (neg : Bool) (x y : Ref) : pwOps P (⟨d, none, .binB neg x y⟩ :: r) s h K = kStep P r s d K (pstep (.binB neg x y) s h) := pwOps_step rfl
theorem pwO_eqNil {P : Program} {r : List GI} {s : Slots} {h : VH} {d : Option Nat} {K : Slots → VH → Prop} (k : NK) (neg : Bool) (x y : Ref) : pwOps P (⟨d, none, .eqNil k neg x y⟩ :: r) s h K = kStep P r s d K (pstep (.eqNil k neg x y) s h) := pwOps_step rfl
theorem pwO_un {P : Program} {r : List GI} {s : Slots} {h : VH} {d : Option Nat} {K : Slots → VH → Prop} (op : UnOp) (x : Ref) : pwOps P (⟨d, none, .un op x⟩ :: r) s h K = kStep P r s d K (pstep (.un op x) s h) := pwOps_step rfl
theorem pwO_convI {P : Program} {r : List GI} {s : Slots} {h : VH} {d : Option Nat} {K : Slots → VH → Prop} (k : IntKind) (x : Ref) : pwOps P (⟨d, none, .convI k x⟩ :: r) s h K = kStep P r s d K (pstep (.convI k x) s h) := pwOps_step rfl
theorem pwO_convS {P : Program} {r : List GI} {s : Slots} {h : VH} {d : Option Nat} {K : Slots → VH → Prop} (x : Ref) : pwOps P (⟨d, none, .convS x⟩ :: r) s h K = kStep P r s d K (pstep (.convS x) s h) := pwOps_step rfl
theorem pwO_alloc {P : Program} {r : List GI} {s : Slots} {h : VH} {d : Option Nat} {K : Slots → VH → Prop} (z : List Value) : pwOps P (⟨d, none, .alloc z⟩ :: r) s h K = kStep P r s d K (pstep (.alloc z) s h) := pwOps_step rfl
theorem pwO_build {P : Program} {r : List GI} {s : Slots} {h : VH} {d : Option Nat} {K : Slots → VH → Prop} (z : List Value) (ps : List (Nat × Nat × Ref)) : pwOps P (⟨d, none, .build z ps⟩ :: r) s h K = kStep P r s d K (pstep (.build z ps) s h) := pwOps_step rfl
theorem pwO_load {P : Program} {r : List GI} {s : Slots} {h : VH} {d : Option Nat} {K : Slots → VH → Prop} (n : Option Nat) (a : Ref) : pwOps P (⟨d, none, .load n a⟩ :: r) s h K = kStep P r s d K (pstep (.load n a) s h) := pwOps_step rfl
theorem pwO_store {P : Program} {r : List GI} {s : Slots} {h : VH} {d : Option Nat} {K : Slots → VH → Prop} (n : Nat) (a x : Ref) : pwOps P (⟨d, none, .store n a x⟩ :: r) s h K = kStep P r s d K (pstep (.store n a x) s h) := pwOps_step rfl
theorem pwO_fieldAddr {P : Program} {r : List GI} {s : Slots} {h : VH} {d : Option Nat} {K : Slots → VH → Prop} (off : Nat) (x : Ref) : pwOps P (⟨d, none, .fieldAddr off x⟩ :: r) s h K = kStep P r s d K (pstep (.fieldAddr off x) s h) := pwOps_step rfl
theorem pwO_field {P : Program} {r : List GI} {s : Slots} {h : VH} {d : Option Nat} {K : Slots → VH → Prop} (off : Nat) (n : Option Nat) (x : Ref) : pwOps P (⟨d, none, .field off n x⟩ :: r) s h K = kStep P r s d K (pstep (.field off n x) s h) := pwOps_step rfl
theorem pwO_idxS {P : Program} {r : List GI} {s : Slots} {h : VH} {d : Option Nat} {K : Slots → VH → Prop} (esz : Nat) (x i : Ref) : pwOps P (⟨d, none, .idxS esz x i⟩ :: r) s h K = kStep P r s d K (pstep (.idxS esz x i) s h) := pwOps_step rfl
theorem pwO_idxA {P : Program} {r : List GI} {s : Slots} {h : VH} {d : Option Nat} {K : Slots → VH → Prop} (len esz : Nat) (x i : Ref) : pwOps P (⟨d, none, .idxA len esz x i⟩ :: r) s h K = kStep P r s d K (pstep (.idxA len esz x i) s h) := pwOps_step rfl
theorem pwO_idxV {P : Program} {r : List GI} {s : Slots} {h : VH} {d : Option Nat} {K : Slots → VH → Prop} (len esz : Nat) (n : Option Nat) (x i : Ref) : pwOps P (⟨d, none, .idxV len esz n x i⟩ :: r) s h K = kStep P r s d K (pstep (.idxV len esz n x i) s h) := pwOps_step rfl
theorem pwO_idxStr {P : Program} {r : List GI} {s : Slots} {h : VH} {d : Option Nat} {K : Slots → VH → Prop} (x i : Ref) : pwOps P (⟨d, none, .idxStr x i⟩ :: r) s h K = kStep P r s d K (pstep (.idxStr x i) s h) := pwOps_step rfl
theorem pwO_lenStr {P : Program} {r : List GI} {s : Slots} {h : VH} {d : Option Nat} {K : Slots → VH → Prop} (x : Ref) : pwOps P (⟨d, none, .lenStr x⟩ :: r) s h K = kStep P r s d K (pstep (.lenStr x) s h) := pwOps_step rfl
theorem pwO_lenS {P : Program} {r : List GI} {s : Slots} {h : VH} {d : Option Nat} {K : Slots → VH → Prop} (x : Ref) : pwOps P (⟨d, none, .lenS x⟩ :: r) s h K = kStep P r s d K (pstep (.lenS x) s h) := pwOps_step rfl
theorem pwO_lenC {P : Program} {r : List GI} {s : Slots} {h : VH} {d : Option Nat} {K : Slots → VH → Prop} (n : Nat) : pwOps P (⟨d, none, .lenC n⟩ :: r) s h K = kStep P r s d K (pstep (.lenC n) s h) := pwOps_step rfl
theorem pwO_slS {P : Program} {r : List GI} {s : Slots} {h : VH} {d : Option Nat} {K : Slots → VH → Prop} (esz : Nat) (x : Ref) (lo hi mx : Option Ref) : pwOps P (⟨d, none, .slS esz x lo hi mx⟩ :: r) s h K = kStep P r s d K (pstep (.slS esz x lo hi mx) s h) := pwOps_step rfl
theorem pwO_slA {P : Program} {r : List GI} {s : Slots} {h : VH} {d : Option Nat} {K : Slots → VH → Prop} (len esz : Nat) (x : Ref) (lo hi : Option Ref) : pwOps P (⟨d, none, .slA len esz x lo hi⟩ :: r) s h K = kStep P r s d K (pstep (.slA len esz x lo hi) s h) := pwOps_step rfl
theorem pwO_slStr {P : Program} {r : List GI} {s : Slots} {h : VH} {d : Option Nat} {K : Slots → VH → Prop} (x : Ref) (lo hi : Option Ref) : pwOps P (⟨d, none, .slStr x lo hi⟩ :: r) s h K = kStep P r s d K (pstep (.slStr x lo hi) s h) := pwOps_step rfl
theorem pwO_extract {P : Program} {r : List GI} {s : Slots} {h : VH} {d : Option Nat} {K : Slots → VH → Prop} (x : Ref) (i : Nat) : pwOps P (⟨d, none, .extract x i⟩ :: r) s h K = kStep P r s d K (pstep (.extract x i) s h) := pwOps_step rfl
theorem pwO_mkFunc {P : Program} {r : List GI} {s : Slots} {h : VH} {d : Option Nat} {K : Slots → VH → Prop} (fn : Fn) (a b : List Ref) : pwOps P (⟨d, none, .mkFunc fn a b⟩ :: r) s h K = kStep P r s d K (pstep (.mkFunc fn a b) s h) := pwOps_step rfl
theorem pwO_mkIface {P : Program} {r : List GI} {s : Slots} {h : VH} {d : Option Nat} {K : Slots → VH → Prop} (t : TypeId) (x : Ref) : pwOps P (⟨d, none, .mkIface t x⟩ :: r) s h K = kStep P r s d K (pstep (.mkIface t x) s h) := pwOps_step rfl
theorem pwO_append {P : Program} {r : List GI} {s : Slots} {h : VH} {d : Option Nat} {K : Slots → VH → Prop} (esz bytes : Nat) (z : List Value) (x y : Ref) : pwOps P (⟨d, none, .append esz bytes z x y⟩ :: r) s h K = kStep P r s d K (pstep (.append esz bytes z x y) s h) := pwOps_step rfl
theorem pwO_appendZ {P : Program} {r : List GI} {s : Slots} {h : VH} {d : Option Nat} {K : Slots → VH → Prop} (e b : Nat) (z : List Value) (x y : Ref) : pwOps P (⟨d, none, .appendZ e b z x y⟩ :: r) s h K = kStep P r s d K (pstep (.appendZ e b z x y) s h) := pwOps_step rfl
theorem pwO_appendStr {P : Program} {r : List GI} {s : Slots} {h : VH} {d : Option Nat} {K : Slots → VH → Prop} (x y : Ref) : pwOps P (⟨d, none, .appendStr x y⟩ :: r) s h K = kStep P r s d K (pstep (.appendStr x y) s h) := pwOps_step rfl
theorem pwO_toBytes {P : Program} {r : List GI} {s : Slots} {h : VH} {d : Option Nat} {K : Slots → VH → Prop} (x : Ref) : pwOps P (⟨d, none, .toBytes x⟩ :: r) s h K = kStep P r s d K (pstep (.toBytes x) s h) := pwOps_step rfl
theorem pwO_ofBytes {P : Program} {r : List GI} {s : Slots} {h : VH} {d : Option Nat} {K : Slots → VH → Prop} (x : Ref) : pwOps P (⟨d, none, .ofBytes x⟩ :: r) s h K = kStep P r s d K (pstep (.ofBytes x) s h) := pwOps_step rfl
theorem pwO_box {P : Program} {r : List GI} {s : Slots} {h : VH} {d : Option Nat} {K : Slots → VH → Prop} (x : Ref) : pwOps P (⟨d, none, .box x⟩ :: r) s h K = kStep P r s d K (pstep (.box x) s h) := pwOps_step rfl
theorem pwO_row {P : Program} {r : List GI} {s : Slots} {h : VH} {d : Option Nat} {K : Slots → VH → Prop} (esz len : Nat) (z : List Value) (ps : List (Nat × Nat × Ref)) : pwOps P (⟨d, none, .row esz len z ps⟩ :: r) s h K = kStep P r s d K (pstep (.row esz len z ps) s h) := pwOps_step rfl
theorem pwO_minmax {P : Program} {r : List GI} {s : Slots} {h : VH} {d : Option Nat} {K : Slots → VH → Prop} (mx : Bool) (x y : Ref) : pwOps P (⟨d, none, .minmax mx x y⟩ :: r) s h K = kStep P r s d K (pstep (.minmax mx x y) s h) := pwOps_step rfl
theorem pwO_eqV {P : Program} {r : List GI} {s : Slots} {h : VH} {d : Option Nat} {K : Slots → VH → Prop} (neg : Bool) (ks : List LK) (x y : Ref) : pwOps P (⟨d, none, .eqV neg ks x y⟩ :: r) s h K = kStep P r s d K (pstep (.eqV neg ks x y) s h) := pwOps_step rfl
theorem pwO_sameB {P : Program} {r : List GI} {s : Slots} {h : VH} {d : Option Nat} {K : Slots → VH → Prop} (x : Ref) : pwOps P (⟨d, none, .sameB x⟩ :: r) s h K = kStep P r s d K (pstep (.sameB x) s h) := pwOps_step rfl
theorem pwR_mov {P : Program} {r : List GI} {s : Slots} {h : VH} {d : Option Nat} {K : Slots → Prop} (x : Ref) : pwQ P (⟨d, none, .mov x⟩ :: r) s h K = kQ P r s h d K (pstep (.mov x) s h) := pwQ_step rfl
theorem pwR_pick {P : Program} {r : List GI} {s : Slots} {h : VH} {d : Option Nat} {K : Slots → Prop} (c a b : Ref) : pwQ P (⟨d, none, .pick c a b⟩ :: r) s h K = kQ P r s h d K (pstep (.pick c a b) s h) := pwQ_step rfl
theorem pwR_nilck {P : Program} {r : List GI} {s : Slots} {h : VH} {d : Option Nat} {K : Slots → Prop} (x : Ref) : pwQ P (⟨d, none, .nilck x⟩ :: r) s h K = kQ P r s h d K (pstep (.nilck x) s h) := pwQ_step rfl
theorem pwR_bin {P : Program} {r : List GI} {s : Slots} {h : VH} {d : Option Nat} {K : Slots → Prop} (op : BinOp) (x y : Ref) : pwQ P (⟨d, none, .bin op x y⟩ :: r) s h K = kQ P r s h d K (pstep (.bin op x y) s h) := pwQ_step rfl
theorem pwR_binB {P : Program} {r : List GI} {s : Slots} {h : VH} {d : Option Nat} {K : Slots → Prop} (neg : Bool) (x y : Ref) : pwQ P (⟨d, none, .binB neg x y⟩ :: r) s h K = kQ P r s h d K (pstep (.binB neg x y) s h) := pwQ_step rfl
theorem pwR_eqNil {P : Program} {r : List GI} {s : Slots} {h : VH} {d : Option Nat} {K : Slots → Prop} (k : NK) (neg : Bool) (x y : Ref) : pwQ P (⟨d, none, .eqNil k neg x y⟩ :: r) s h K = kQ P r s h d K (pstep (.eqNil k neg x y) s h) := pwQ_step rfl
theorem pwR_un {P : Program} {r : List GI} {s : Slots} {h : VH} {d : Option Nat} {K : Slots → Prop} (op : UnOp) (x : Ref) : pwQ P (⟨d, none, .un op x⟩ :: r) s h K = kQ P r s h d K (pstep (.un op x) s h) := pwQ_step rfl
theorem pwR_convI {P : Program} {r : List GI} {s : Slots} {h : VH} {d : Option Nat} {K : Slots → Prop} (k : IntKind) (x : Ref) : pwQ P (⟨d, none, .convI k x⟩ :: r) s h K = kQ P r s h d K (pstep (.convI k x) s h) := pwQ_step rfl
theorem pwR_convS {P : Program} {r : List GI} {s : Slots} {h : VH} {d : Option Nat} {K : Slots → Prop} (x : Ref) : pwQ P (⟨d, none, .convS x⟩ :: r) s h K = kQ P r s h d K (pstep (.convS x) s h) := pwQ_step rfl
theorem pwR_build {P : Program} {r : List GI} {s : Slots} {h : VH} {d : Option Nat} {K : Slots → Prop} (z : List Value) (ps : List (Nat × Nat × Ref)) : pwQ P (⟨d, none, .build z ps⟩ :: r) s h K = kQ P r s h d K (pstep (.build z ps) s h) := pwQ_step rfl
theorem pwR_load {P : Program} {r : List GI} {s : Slots} {h : VH} {d : Option Nat} {K : Slots → Prop} (n : Option Nat) (a : Ref) : pwQ P (⟨d, none, .load n a⟩ :: r) s h K = kQ P r s h d K (pstep (.load n a) s h) := pwQ_step rfl
theorem pwR_fieldAddr {P : Program} {r : List GI} {s : Slots} {h : VH} {d : Option Nat} {K : Slots → Prop} (off : Nat) (x : Ref) : pwQ P (⟨d, none, .fieldAddr off x⟩ :: r) s h K = kQ P r s h d K (pstep (.fieldAddr off x) s h) := pwQ_step rfl
theorem pwR_field {P : Program} {r : List GI} {s : Slots} {h : VH} {d : Option Nat} {K : Slots → Prop} (off : Nat) (n : Option Nat) (x : Ref) : pwQ P (⟨d, none, .field off n x⟩ :: r) s h K = kQ P r s h d K (pstep (.field off n x) s h) := pwQ_step rfl
theorem pwR_idxS {P : Program} {r : List GI} {s : Slots} {h : VH} {d : Option Nat} {K : Slots → Prop} (esz : Nat) (x i : Ref) : pwQ P (⟨d, none, .idxS esz x i⟩ :: r) s h K = kQ P r s h d K (pstep (.idxS esz x i) s h) := pwQ_step rfl
theorem pwR_idxA {P : Program} {r : List GI} {s : Slots} {h : VH} {d : Option Nat} {K : Slots → Prop} (len esz : Nat) (x i : Ref) : pwQ P (⟨d, none, .idxA len esz x i⟩ :: r) s h K = kQ P r s h d K (pstep (.idxA len esz x i) s h) := pwQ_step rfl
theorem pwR_idxV {P : Program} {r : List GI} {s : Slots} {h : VH} {d : Option Nat} {K : Slots → Prop} (len esz : Nat) (n : Option Nat) (x i : Ref) : pwQ P (⟨d, none, .idxV len esz n x i⟩ :: r) s h K = kQ P r s h d K (pstep (.idxV len esz n x i) s h) := pwQ_step rfl
theorem pwR_idxStr {P : Program} {r : List GI} {s : Slots} {h : VH} {d : Option Nat} {K : Slots → Prop} (x i : Ref) : pwQ P (⟨d, none, .idxStr x i⟩ :: r) s h K = kQ P r s h d K (pstep (.idxStr x i) s h) := pwQ_step rfl
theorem pwR_lenStr {P : Program} {r : List GI} {s : Slots} {h : VH} {d : Option Nat} {K : Slots → Prop} (x : Ref) : pwQ P (⟨d, none, .lenStr x⟩ :: r) s h K = kQ P r s h d K (pstep (.lenStr x) s h) := pwQ_step rfl
theorem pwR_lenS {P : Program} {r : List GI} {s : Slots} {h : VH} {d : Option Nat} {K : Slots → Prop} (x : Ref) : pwQ P (⟨d, none, .lenS x⟩ :: r) s h K = kQ P r s h d K (pstep (.lenS x) s h) := pwQ_step rfl
theorem pwR_lenC {P : Program} {r : List GI} {s : Slots} {h : VH} {d : Option Nat} {K : Slots → Prop} (n : Nat) : pwQ P (⟨d, none, .lenC n⟩ :: r) s h K = kQ P r s h d K (pstep (.lenC n) s h) := pwQ_step rfl
theorem pwR_slS {P : Program} {r : List GI} {s : Slots} {h : VH} {d : Option Nat} {K : Slots → Prop} (esz : Nat) (x : Ref) (lo hi mx : Option Ref) : pwQ P (⟨d, none, .slS esz x lo hi mx⟩ :: r) s h K = kQ P r s h d K (pstep (.slS esz x lo hi mx) s h) := pwQ_step rfl
theorem pwR_slA {P : Program} {r : List GI} {s : Slots} {h : VH} {d : Option Nat} {K : Slots → Prop} (len esz : Nat) (x : Ref) (lo hi : Option Ref) : pwQ P (⟨d, none, .slA len esz x lo hi⟩ :: r) s h K = kQ P r s h d K (pstep (.slA len esz x lo hi) s h) := pwQ_step rfl
theorem pwR_slStr {P : Program} {r : List GI} {s : Slots} {h : VH} {d : Option Nat} {K : Slots → Prop} (x : Ref) (lo hi : Option Ref) : pwQ P (⟨d, none, .slStr x lo hi⟩ :: r) s h K = kQ P r s h d K (pstep (.slStr x lo hi) s h) := pwQ_step rfl
theorem pwR_extract {P : Program} {r : List GI} {s : Slots} {h : VH} {d : Option Nat} {K : Slots → Prop} (x : Ref) (i : Nat) : pwQ P (⟨d, none, .extract x i⟩ :: r) s h K = kQ P r s h d K (pstep (.extract x i) s h) := pwQ_step rfl
theorem pwR_mkFunc {P : Program} {r : List GI} {s : Slots} {h : VH} {d : Option Nat} {K : Slots → Prop} (fn : Fn) (a b : List Ref) : pwQ P (⟨d, none, .mkFunc fn a b⟩ :: r) s h K = kQ P r s h d K (pstep (.mkFunc fn a b) s h) := pwQ_step rfl
theorem pwR_mkIface {P : Program} {r : List GI} {s : Slots} {h : VH} {d : Option Nat} {K : Slots → Prop} (t : TypeId) (x : Ref) : pwQ P (⟨d, none, .mkIface t x⟩ :: r) s h K = kQ P r s h d K (pstep (.mkIface t x) s h) := pwQ_step rfl
theorem pwR_ofBytes {P : Program} {r : List GI} {s : Slots} {h : VH} {d : Option Nat} {K : Slots → Prop} (x : Ref) : pwQ P (⟨d, none, .ofBytes x⟩ :: r) s h K = kQ P r s h d K (pstep (.ofBytes x) s h) := pwQ_step rfl
theorem pwR_minmax {P : Program} {r : List GI} {s : Slots} {h : VH} {d : Option Nat} {K : Slots → Prop} (mx : Bool) (x y : Ref) : pwQ P (⟨d, none, .minmax mx x y⟩ :: r) s h K = kQ P r s h d K (pstep (.minmax mx x y) s h) := pwQ_step rfl
theorem pwR_eqV {P : Program} {r : List GI} {s : Slots} {h : VH} {d : Option Nat} {K : Slots → Prop} (neg : Bool) (ks : List LK) (x y : Ref) : pwQ P (⟨d, none, .eqV neg ks x y⟩ :: r) s h K = kQ P r s h d K (pstep (.eqV neg ks x y) s h) := pwQ_step rfl
theorem pwO_makeMap {P : Program} {r : List GI} {s : Slots} {h : VH} {d : Option Nat} {K : Slots → VH → Prop}  : pwOps P (⟨d, none, .makeMap ⟩ :: r) s h K = kStep P r s d K (pstep .makeMap s h) := pwOps_step rfl
theorem pwO_lookup {P : Program} {r : List GI} {s : Slots} {h : VH} {d : Option Nat} {K : Slots → VH → Prop} (kd : LK) (ok : Bool) (z : Value) (x k : Ref) : pwOps P (⟨d, none, .lookup kd ok z x k⟩ :: r) s h K = kStep P r s d K (pstep (.lookup kd ok z x k) s h) := pwOps_step rfl
theorem pwR_lookup {P : Program} {r : List GI} {s : Slots} {h : VH} {d : Option Nat} {K : Slots → Prop} (kd : LK) (ok : Bool) (z : Value) (x k : Ref) : pwQ P (⟨d, none, .lookup kd ok z x k⟩ :: r) s h K = kQ P r s h d K (pstep (.lookup kd ok z x k) s h) := pwQ_step rfl
theorem pwO_mapSet {P : Program} {r : List GI} {s : Slots} {h : VH} {d : Option Nat} {K : Slots → VH → Prop} (kd : LK) (x k v : Ref) : pwOps P (⟨d, none, .mapSet kd x k v⟩ :: r) s h K = kStep P r s d K (pstep (.mapSet kd x k v) s h) := pwOps_step rfl
theorem pwO_mapDel {P : Program} {r : List GI} {s : Slots} {h : VH} {d : Option Nat} {K : Slots → VH → Prop} (kd : LK) (x k : Ref) : pwOps P (⟨d, none, .mapDel kd x k⟩ :: r) s h K = kStep P r s d K (pstep (.mapDel kd x k) s h) := pwOps_step rfl
theorem pwO_lenM {P : Program} {r : List GI} {s : Slots} {h : VH} {d : Option Nat} {K : Slots → VH → Prop} (x : Ref) : pwOps P (⟨d, none, .lenM x⟩ :: r) s h K = kStep P r s d K (pstep (.lenM x) s h) := pwOps_step rfl
theorem pwR_lenM {P : Program} {r : List GI} {s : Slots} {h : VH} {d : Option Nat} {K : Slots → Prop} (x : Ref) : pwQ P (⟨d, none, .lenM x⟩ :: r) s h K = kQ P r s h d K (pstep (.lenM x) s h) := pwQ_step rfl
theorem pwO_mapEntry {P : Program} {r : List GI} {s : Slots} {h : VH} {d : Option Nat} {K : Slots → VH → Prop} (kd : LK) (z : Value) (x k : Ref) : pwOps P (⟨d, none, .mapEntry kd z x k⟩ :: r) s h K = kStep P r s d K (pstep (.mapEntry kd z x k) s h) := pwOps_step rfl
theorem pwO_entrySet {P : Program} {r : List GI} {s : Slots} {h : VH} {d : Option Nat} {K : Slots → VH → Prop} (x st v : Ref) : pwOps P (⟨d, none, .entrySet x st v⟩ :: r) s h K = kStep P r s d K (pstep (.entrySet x st v) s h) := pwOps_step rfl
theorem pwO_rangeS {P : Program} {r : List GI} {s : Slots} {h : VH} {d : Option Nat} {K : Slots → VH → Prop} (x : Ref) : pwOps P (⟨d, none, .rangeS x⟩ :: r) s h K = kStep P r s d K (pstep (.rangeS x) s h) := pwOps_step rfl
theorem pwO_nextS {P : Program} {r : List GI} {s : Slots} {h : VH} {d : Option Nat} {K : Slots → VH → Prop} (x : Ref) : pwOps P (⟨d, none, .nextS x⟩ :: r) s h K = kStep P r s d K (pstep (.nextS x) s h) := pwOps_step rfl
theorem pwO_rangeM {P : Program} {r : List GI} {s : Slots} {h : VH} {d : Option Nat} {K : Slots → VH → Prop} (x : Ref) : pwOps P (⟨d, none, .rangeM x⟩ :: r) s h K = kStep P r s d K (pstep (.rangeM x) s h) := pwOps_step rfl
theorem pwO_entryM {P : Program} {r : List GI} {s : Slots} {h : VH} {d : Option Nat} {K : Slots → VH → Prop} (x : Ref) : pwOps P (⟨d, none, .entryM x⟩ :: r) s h K = kStep P r s d K (pstep (.entryM x) s h) := pwOps_step rfl
theorem pwR_entryM {P : Program} {r : List GI} {s : Slots} {h : VH} {d : Option Nat} {K : Slots → Prop} (x : Ref) : pwQ P (⟨d, none, .entryM x⟩ :: r) s h K = kQ P r s h d K (pstep (.entryM x) s h) := pwQ_step rfl
theorem pwO_copyV {P : Program} {r : List GI} {s : Slots} {h : VH} {d : Option Nat} {K : Slots → VH → Prop} (esz : Nat) (x y : Ref) : pwOps P (⟨d, none, .copyV esz x y⟩ :: r) s h K = kStep P r s d K (pstep (.copyV esz x y) s h) := pwOps_step rfl
theorem pwO_makeSl {P : Program} {r : List GI} {s : Slots} {h : VH} {d : Option Nat} {K : Slots → VH → Prop} (esz bytes : Nat) (z : List Value) (len cap : Ref) : pwOps P (⟨d, none, .makeSl esz bytes z len cap⟩ :: r) s h K = kStep P r s d K (pstep (.makeSl esz bytes z len cap) s h) := pwOps_step rfl
theorem pwO_asrt {P : Program} {r : List GI} {s : Slots} {h : VH} {d : Option Nat} {K : Slots → VH → Prop} (t : TypeId) (ok : Bool) (z : Value) (x : Ref) : pwOps P (⟨d, none, .asrt t ok z x⟩ :: r) s h K = kStep P r s d K (pstep (.asrt t ok z x) s h) := pwOps_step rfl
theorem pwR_asrt {P : Program} {r : List GI} {s : Slots} {h : VH} {d : Option Nat} {K : Slots → Prop} (t : TypeId) (ok : Bool) (z : Value) (x : Ref) : pwQ P (⟨d, none, .asrt t ok z x⟩ :: r) s h K = kQ P r s h d K (pstep (.asrt t ok z x) s h) := pwQ_step rfl

/-- what is handed back. -/
def kRet (R : Value → VH → Prop) (h : VH) : Option Value → Prop
  | some v => R v h
  | none => False
theorem kRet_some {R : Value → VH → Prop} {h : VH} {v : Value} : kRet R h (some v) = R v h := Eq.trans rfl rfl
theorem ret_r {F : PF} {R : Value → VH → Prop} {s : Slots} {h : VH} : F.ret R .ret s h = kRet R h (resV s h F.res) := Eq.trans rfl rfl
theorem ret_n {F : PF} {R : Value → VH → Prop} {s : Slots} {h : VH} : F.ret R .normal s h = kRet R h (resV s h F.res) := Eq.trans rfl rfl
theorem resV1 {s : Slots} {h : VH} {n : Nat} : resV s h [.t n] = some (s n) := Eq.trans rfl rfl
theorem resV2 {s : Slots} {h : VH} {a b : Nat} : resV s h [.t a, .t b] = some (.tuple #[s a, s b]) := Eq.trans rfl rfl
theorem resV3 {s : Slots} {h : VH} {a b c : Nat} : resV s h [.t a, .t b, .t c] = some (.tuple #[s a, s b, s c]) := Eq.trans rfl rfl
theorem resV4 {s : Slots} {h : VH} {a b c d : Nat} : resV s h [.t a, .t b, .t c, .t d] = some (.tuple #[s a, s b, s c, s d]) := Eq.trans rfl rfl
theorem resV0 {s : Slots} {h : VH} : resV s h [] = some (.tuple #[]) := Eq.trans rfl rfl
theorem cellsL_int (k : IntKind) (n : Int) : cellsL (.int k n) = [.int k n] := Eq.trans rfl rfl
theorem cellsL_bool (b : Bool) : cellsL (.bool b) = [.bool b] := Eq.trans rfl rfl
theorem cellsL_string (b : ByteArray) : cellsL (.string b) = [.string b] := Eq.trans rfl rfl
theorem cellsL_slice (a : Option Addr) (n c : Nat) : cellsL (.slice a n c) = [.slice a n c] := Eq.trans rfl rfl
theorem cellsL_pointer (a : Option Addr) : cellsL (.pointer a) = [.pointer a] := Eq.trans rfl rfl
theorem cellsL_map (a : Option Nat) : cellsL (.map a) = [.map a] := Eq.trans rfl rfl

theorem putS_some {s : Slots} {d : Nat} {v : Value} : putS s (some d) v = upd s d v := Eq.trans rfl rfl
theorem putS_none {s : Slots} {v : Value} : putS s none v = s := Eq.trans rfl rfl
theorem upd_apply {s : Slots} {d j : Nat} {v : Value} : upd s d v j = if j = d then v else s j := Eq.trans rfl rfl
theorem ev_t {s : Slots} {n : Nat} : ev s (.t n) = s n := Eq.trans rfl rfl
theorem ev_k {s : Slots} {v : Value} : ev s (.k v) = v := Eq.trans rfl rfl
theorem isB_bool {x b : Bool} : isB (.bool x) b = (x == b) := Eq.trans rfl rfl
theorem s0_apply {args : List Value} {j : Nat} : s0 args j = args.getD j undef := Eq.trans rfl rfl


/-! ### drawn regions -/
def kD (P : Program) (late : List GI) (r : List DI) (K : Slots → VH → Prop) : Slots → VH → Prop := fun s h => lateOK s h late ∧ pwD P r s h K
def kEv (s : Slots) (d : Option Nat) : Option (Value × VH) → Prop
  | some (v, _) => dstIs s d v
  | none => False
theorem pwD_nil {P : Program} {s : Slots} {h : VH} {K : Slots → VH → Prop} : pwD P [] s h K = K s h := Eq.trans rfl rfl
theorem pwD_cons {P : Program} {s : Slots} {h : VH} {K : Slots → VH → Prop} {g : GI} {late : List GI} {r : List DI} : pwD P (⟨g, late⟩ :: r) s h K = pwOps P [g] s h (kD P late r K) := Eq.trans rfl rfl
theorem kD_nil {P : Program} {s : Slots} {h : VH} {K : Slots → VH → Prop} {r : List DI} : kD P [] r K s h = pwD P r s h K := by simp [kD, lateOK]
theorem kD_cons {P : Program} {s : Slots} {h : VH} {K : Slots → VH → Prop} {u : GI} {l : List GI} {r : List DI} : kD P (u :: l) r K s h = (evalOK u s h ∧ kD P l r K s h) := by simp [kD, lateOK, and_assoc]
def kT (P : Program) (late : List GI) (r : DT) (K : Slots → VH → Prop) : Slots → VH → Prop := fun s h => lateOK s h late ∧ pwT P r s h K
theorem pwT_nil {P : Program} {s : Slots} {h : VH} {K : Slots → VH → Prop} : pwT P .nil s h K = K s h := Eq.trans rfl rfl
theorem pwT_step {P : Program} {s : Slots} {h : VH} {K : Slots → VH → Prop} {g : GI} {late : List GI} {r : DT} : pwT P (.step ⟨g, late⟩ r) s h K = pwOps P [g] s h (kT P late r K) := Eq.trans rfl rfl
theorem pwT_alt {P : Program} {s : Slots} {h : VH} {K : Slots → VH → Prop} {a b : DT} : pwT P (.alt a b) s h K = (pwT P a s h K ∧ pwT P b s h K) := Eq.trans rfl rfl
theorem kT_nil {P : Program} {s : Slots} {h : VH} {K : Slots → VH → Prop} {r : DT} : kT P [] r K s h = pwT P r s h K := by simp [kT, lateOK]
theorem kT_cons {P : Program} {s : Slots} {h : VH} {K : Slots → VH → Prop} {u : GI} {l : List GI} {r : DT} : kT P (u :: l) r K s h = (evalOK u s h ∧ kT P l r K s h) := by simp [kT, lateOK, and_assoc]
theorem evalOK_plain {s : Slots} {h : VH} {d : Option Nat} {i : I} : evalOK ⟨d, none, i⟩ s h = kEv s d (pstep i s h) := by simp only [evalOK, wantedS, if_true]; rfl
theorem evalOK_guard {s : Slots} {h : VH} {d : Option Nat} {t : Nat} {b : Bool} {i : I} : evalOK ⟨d, some (t, b), i⟩ s h = if isB (s t) b = true then evalOK ⟨d, none, i⟩ s h else dstIs s d undef := by simp only [evalOK, wantedS, if_true]; rfl
theorem kEv_some {s : Slots} {h : VH} {d : Option Nat} {v : Value} : kEv s d (some (v, h)) = dstIs s d v := Eq.trans rfl rfl
theorem kEv_ite {s : Slots} {d : Option Nat} {c : Prop} [Decidable c] {x : Option (Value × VH)} : kEv s d (if c then x else none) = (c ∧ kEv s d x) := by
  by_cases h : c <;> simp [h, kEv]
theorem dstIs_some {s : Slots} {d : Nat} {v : Value} : dstIs s (some d) v = (s d = v) := Eq.trans rfl rfl
theorem dstIs_none {s : Slots} {v : Value} : dstIs s none v = True := Eq.trans rfl rfl
end Go.Proofs.Ytdnkpgbggpbgaaa.Pm
