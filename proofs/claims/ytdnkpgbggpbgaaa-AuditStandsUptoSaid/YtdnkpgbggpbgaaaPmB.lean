/- The pure machine, part B: operations, what they do to slots and to the pure heap; and the model's operations that they stand for. -/
import Derived.Test.YtdnkpgbggpbgaaaPmA
import Derived.Laws.Entries
set_option linter.unusedVariables false
set_option linter.unusedSimpArgs false
namespace Go.Proofs.Ytdnkpgbggpbgaaa.Pm
open Go.RowKit

abbrev Slots := Nat → Value
def upd (s : Slots) (d : Nat) (v : Value) : Slots := fun j => if j = d then v else s j
inductive Ref where
  | t (n : Nat)
  | k (v : Value)
def ev (s : Slots) : Ref → Value
  | .t n => s n
  | .k v => v

structure SR (N : Nat) (m : Mp) (s : Slots) (tmps : Array Value) : Prop where
  size : tmps.size = N
  rel : ∀ (j : Nat) (hj : j < tmps.size), VR m (s j) tmps[j]

theorem SR.mono {N : Nat} {m m' : Mp} (hm : m.le m') {s : Slots} {tmps : Array Value} (h : SR N m s tmps) : SR N m' s tmps := ⟨h.size, fun j hj => (h.rel j hj).mono hm⟩
theorem SR.put {N : Nat} {m : Mp} {s : Slots} {a : Act} (h : SR N m s a.tmps) {d : Nat} {v v' : Value} (hv : VR m v v') : SR N m (upd s d v) (a.put (some d) v').tmps := by
  refine ⟨by simp [Act.put, h.size], fun j hj => ?_⟩
  simp only [Act.put] at hj ⊢
  have hj0 : j < a.tmps.size := by simpa using hj
  rw [Array.getElem_setIfInBounds]
  unfold upd
  by_cases hjd : j = d
  · subst hjd; simp; exact hv
  · rw [if_neg hjd, if_neg (fun e => hjd e.symm)]
    exact h.rel j hj0

def compRef (N : Nat) : Operand → Option Ref
  | .tmp t => if t < N then some (.t t) else none
  | .const v => if closedV v then some (.k v) else none
  | .func f => some (.k (.func (.func f) #[] #[]))
  | .global g => (glb.findIdx? (· == g)).map fun k => .k (.pointer (some ⟨k, 0, none⟩))

theorem compRef_ok {N : Nat} {x : Operand} {r : Ref} (h : compRef N x = some r) {m : Mp} {s : Slots} {a : Act} (hs : SR N m s a.tmps) : VR m (ev s r) (a.eval x) := by
  cases x with
  | tmp t =>
    simp only [compRef] at h
    split at h
    · rename_i ht
      injection h with h; subst h
      have ht' : t < a.tmps.size := by rw [hs.size]; exact ht
      have e : a.eval (.tmp t) = a.tmps[t] := by simp [Act.eval, Array.getD, ht']
      rw [e]
      exact hs.rel t ht'
    · cases h
  | const v =>
    simp only [compRef] at h
    split at h
    · rename_i hc
      injection h with h; subst h
      exact VR.closed m hc
    · cases h
  | func f =>
    injection h with h; subst h
    exact VR.closed m rfl
  | global g =>
    simp only [compRef, Option.map_eq_some_iff] at h
    obtain ⟨k, hk, rfl⟩ := h
    obtain ⟨hlt, hq, _⟩ := List.findIdx?_eq_some_iff_getElem.1 hk
    obtain ⟨h1, h2, h3⟩ := m.gl k g (by rw [List.getElem?_eq_getElem hlt]; simpa using hq)
    have := VR.ptr (m := m) (i := k) (o := 0) h1
    rw [h2, h3] at this
    exact this

/-! ### numbers, bools, strings -/
def pbinI (op : BinOp) (k : IntKind) (a b : Int) : Option Value :=
  match op with
  | .add => some (.int k (k.wrap (a + b)))
  | .sub => some (.int k (k.wrap (a - b)))
  | .mul => some (.int k (k.wrap (a * b)))
  | .quo => if b = 0 then none else some (.int k (k.wrap (a.tdiv b)))
  | .rem => if b = 0 then none else some (.int k (a.tmod b))
  | .and => some (.int k (Go.bits .and k a b))
  | .or => some (.int k (Go.bits .or k a b))
  | .xor => some (.int k (Go.bits .xor k a b))
  | .andNot => some (.int k (Go.bits .andNot k a b))
  | .eql => some (.bool (a == b))
  | .neq => some (.bool (a != b))
  | .lss => some (.bool (a < b))
  | .leq => some (.bool (a ≤ b))
  | .gtr => some (.bool (a > b))
  | .geq => some (.bool (a ≥ b))
  | _ => none
def pbinS (op : BinOp) (a b : ByteArray) : Option Value :=
  match op with
  | .add => if a.size + b.size ≤ 9223372036854775807 then some (.string (a ++ b)) else none
  | .eql => some (.bool (a.toList == b.toList))
  | .neq => some (.bool !(a.toList == b.toList))
  | .lss => some (.bool (Op.bytesLess a.toList b.toList))
  | .leq => some (.bool (Op.bytesLess a.toList b.toList || a.toList == b.toList))
  | .gtr => some (.bool !(Op.bytesLess a.toList b.toList || a.toList == b.toList))
  | .geq => some (.bool !(Op.bytesLess a.toList b.toList))
  | _ => none
def pbin (op : BinOp) (x y : Value) : Option Value :=
  match x, y with
  | .int k a, .int k' b =>
    match op with
    | .shl => if b < 0 then none else some (.int k (k.wrap (a * 2 ^ (min b.toNat k.bits))))
    | .shr => if b < 0 then none else some (.int k (a.fdiv (2 ^ (min b.toNat k.bits))))
    | op => if k = k' then pbinI op k a b else none
  | .string a, .string b => pbinS op a b
  | _, _ => none

theorem pbin_ok {op : BinOp} {x y v : Value} (h : pbin op x y = some v) (P : Program) (t : TypeId) (ex ey : Operand) (w : World) :
    (do eqGuard op t ex ey x y; binOp op t x y : Sem Value).run P w = .ok v w ∧ closedV v = true ∧ closedV x = true ∧ closedV y = true := by
  cases x <;> try (cases h; done)
  · rename_i k a
    cases y <;> try (cases h; done)
    rename_i k' b
    refine ⟨?_, ?_, rfl, rfl⟩
    · simp only [pbin] at h
      cases op <;> simp only [eqGuard_at_int, pure_bind] at * <;> try (simp only [pbinI] at h)
      all_goals (try (split at h <;> try (cases h; done)))
      all_goals first
        | (rename_i hk; subst hk; injection h with h; subst h; simp [binOp, Op.intArith, Op.intBits, Op.intCmp, Go.bits]; done)
        | (rename_i hk; subst hk; split at h <;> first | (cases h; done) | (rename_i hb; injection h with h; subst h; simp [binOp, Op.intDiv, hb]; done))
        | (rename_i hb; injection h with h; subst h; simp [binOp, Op.shift, hb]; done)
        | (rename_i hk; cases h; done)
    · simp only [pbin] at h
      cases op <;> simp only [pbinI] at h <;> (repeat' (split at h <;> try (cases h; done))) <;> (injection h with h; subst h; rfl)
  · rename_i a
    cases y <;> try (cases h; done)
    rename_i b
    refine ⟨?_, ?_, rfl, rfl⟩
    · simp only [pbin] at h
      cases op <;> simp only [eqGuard_at_string, pure_bind] at * <;> simp only [pbinS] at h <;> try (cases h; done)
      all_goals (try (split at h <;> try (cases h; done)))
      all_goals first
        | (rename_i hl
           injection h with h; subst h
           have : ¬ ((a.size + b.size : Nat) : Int) > IntKind.i64.max := by rw [IntKind.max_i64]; omega
           simp [binOp, Op.stringOp, this]; omega)
        | (injection h with h; subst h; simp [binOp, Op.stringOp]; done)
    · simp only [pbin] at h
      cases op <;> simp only [pbinS] at h <;> (repeat' (split at h <;> try (cases h; done))) <;> (try (cases h; done)) <;> (injection h with h; subst h; rfl)

def pun (op : UnOp) (x : Value) : Option Value :=
  match op, x with
  | .neg, .int k n => some (.int k (k.wrap (0 - n)))
  | .xor, .int k n => some (.int k (Go.bits .xor k (if k.signed then -1 else k.max) n))
  | .not, .bool b => some (.bool !b)
  | _, _ => none
theorem pun_ok {op : UnOp} {x v : Value} (h : pun op x = some v) (P : Program) (w : World) : (Op.unary op x).run P w = .ok v w ∧ closedV v = true ∧ closedV x = true := by
  cases op <;> cases x <;> simp only [pun] at h <;> first
    | (cases h; done)
    | (injection h with h; subst h; exact ⟨by simp [Op.unary, Op.intArith, Op.intBits, Go.bits], rfl, rfl⟩)

/-- '==' at pointers, slices, maps, functions, interfaces of which one is nil. -/
inductive NK where
  | ptr | sl | mp | fn | ifc
def isNilV : NK → Value → Option Bool
  | .ptr, .pointer a => some a.isNone
  | .sl, .slice a _ _ => some a.isNone
  | .mp, .map a => some a.isNone
  | .fn, .nilFunc => some true
  | .fn, .func _ _ _ => some false
  | .ifc, .nilIface => some true
  | .ifc, .iface _ _ => some false
  | _, _ => none
theorem isNilV_VR {m : Mp} {k : NK} {v v' : Value} (h : VR m v v') : isNilV k v' = isNilV k v := by cases h <;> cases k <;> rfl

def nkOf : TypeDesc → Option NK
  | .pointer _ => some .ptr
  | .slice _ => some .sl
  | .map _ _ => some .mp
  | .func _ _ _ => some .fn
  | .interface _ => some .ifc
  | _ => none

theorem equal_succ (t : TypeId) (x y : Value) : Op.equal t x y = Op.equalIn (9999 + 1) t x y := rfl

theorem eqNil_ok {P : Program} {t : TypeId} {d : TypeDesc} (hd : P.underlying t = some d) {k : NK} (hk : nkOf d = some k) {x y : Value} {a b : Bool} (hx : isNilV k x = some a) (hy : isNilV k y = some b) (hab : a = true ∨ b = true) (w : World) :
    (Op.equal t x y).run P w = .ok (a == b) w := by
  rw [equal_succ]
  unfold Op.equalIn
  simp only [Sem.run_bind, run_underlying hd, Result.andThen_ok]
  cases d <;> simp only [nkOf] at hk <;> first
    | (cases hk; done)
    | (injection hk with hk; subst hk
       cases x <;> simp only [isNilV] at hx <;> first
         | (cases hx; done)
         | (injection hx with hx; subst hx
            cases y <;> simp only [isNilV] at hy <;> first
              | (cases hy; done)
              | (injection hy with hy; subst hy
                 first
                   | (simp at hab; done)
                   | rfl
                   | (rename_i p q; cases p <;> cases q <;> first | (simp at hab; done) | rfl)
                   | (rename_i p _ _ q _ _; cases p <;> cases q <;> first | (simp at hab; done) | rfl))))

theorem eqlB_ok {P : Program} {t : TypeId} (hd : P.underlying t = some .bool) (a b : Bool) (w : World) : (Op.equal t (.bool a) (.bool b)).run P w = .ok (a == b) w := by
  rw [equal_succ]
  unfold Op.equalIn
  simp [run_underlying hd]

end Go.Proofs.Ytdnkpgbggpbgaaa.Pm
