/- The pure machine, part I: code; what must be shown of a piece of code ('pw'); and that this is enough. -/
import Derived.Test.YtdnkpgbggpbgaaaPmH
import Derived.Deep.LoopGhost
import Derived.Deep.Quiet
import Derived.Lib.QuietBelow
import Derived.Scope
import Derived.OrdersIn
import Derived.TacticsIn
import Derived.Sort.LoopGhostIn
import Derived.RangeFuncIn
import Derived.RangeFuncRecord
import Derived.RangeFuncLeaves
import Derived.Test.YtdnkpgbggpbgaaaPmW
set_option linter.unusedVariables false
set_option linter.unusedSimpArgs false
namespace Go.Proofs.Ytdnkpgbggpbgaaa.Pm
open Go.RowKit

structure GI where
  dst : Option Nat
  guard : Option (Nat × Bool)
  i : I
/-- of a region that draws its order: an operation, and the reads before it that may as well come behind it. -/
structure DI where
  g : GI
  late : List GI
/-- the same, where several operations that turn the heap may come first. -/
inductive DT where
  | nil
  | step (d : DI) (r : DT)
  | alt (a b : DT)
inductive PC where
  | skip
  | ops (l : List GI)
  | quiet (l : List GI)
  | draw (l : List DI)
  | drawT (t : DT)
  | seq (a b : PC)
  | cond (c : Ref) (a b : PC)
  | block (id : Nat) (b : PC)
  | loop (b : PC)
  | exit (id : Nat)
  | ret
  | scope (b : PC)
  | scopeL (b : PC) (l : Nat) (t : PC)
  | label (l : Nat)
  | goto (l : Nat)
  | rangeF (fr : Ref) (ps : List Nat) (a b : PC)

def isB : Value → Bool → Bool
  | .bool x, b => x == b
  | _, _ => false
def wantedS (s : Slots) : Option (Nat × Bool) → Bool
  | none => true
  | some (t, b) => isB (s t) b
def putS (s : Slots) (d : Option Nat) (v : Value) : Slots :=
  match d with
  | some d => upd s d v
  | none => s

def isFn (P : Program) (f : FuncId) : Bool :=
  match P.funcs[f]? with
  | some fn => fn.body.isSome && !(fn.name == "runtime.NumGoroutine")
  | none => false

/-- a call of f at these values in this heap ends, and R holds of what it hands back and of the heap. -/
def PCalls (P : Program) (f : FuncId) (args : List Value) (h : VH) (R : Value → VH → Prop) : Prop :=
  ∀ (B : Nat) (w0 : World) (m : Mp) (w : World) (args' : Array Value), Sim B w0 m h w → VRL m args args'.toList →
    Calls P f args' w fun e w' => ∃ m' v v' h', e = .returned v' ∧ R v h' ∧ m.le m' ∧ Sim B w0 m' h' w' ∧ VR m' v v'

theorem PCalls.mono {P : Program} {f : FuncId} {args : List Value} {h : VH} {R R' : Value → VH → Prop} (hc : PCalls P f args h R) (hr : ∀ v h', R v h' → R' v h') : PCalls P f args h R' :=
  fun B w0 m w args' S ha => (hc B w0 m w args' S ha).mono fun e w' ⟨m', v, v', h', e1, e2, r⟩ => ⟨m', v, v', h', e1, hr _ _ e2, r⟩

/-- every row read only. -/
def VObj.ro : VObj → VObj
  | .cells cs _ e => .cells cs false e
  | .map es c _ => .map es c false
  | _ => .dead
def VH.ro (h : VH) : VH := ⟨h.n, fun i => (h.get i).ro⟩

/-! ### rounds of a range over a function -/
/-- whatever functions may be called; in a round of r. -/
abbrev FW (r : Option Nat) : Fence := { fn := fun _ => True, depth := none, alive := false, round := r }
theorem callsIn_FW {r : Option Nat} {n : Nat} {P : Program} {f : FuncId} {args : Array Value} {w : World} {R : Ending → World → Prop} (h : Calls P f args w R) : CallsIn (FW r) n P f args w R := callsIn_wide.2 h
theorem calls_FW {n : Nat} {P : Program} {f : FuncId} {args : Array Value} {w : World} {R : Ending → World → Prop} (h : CallsIn (FW none) n P f args w R) : Calls P f args w R := callsIn_wide.1 h
theorem roundIn_FW {r q : Option Nat} {n : Nat} {P : Program} {l : Nat} {f : FuncId} {tmps : Array Value} {asg bdy : Code} {w : World} {R : Ending → World → Prop} (h : RoundIn (FW r) n P l f tmps asg bdy w R) : RoundIn (FW q) 0 P l f tmps asg bdy w R :=
  ⟨trivial, fun c cs _ => h.2 c cs (fun d hd => by cases hd)⟩

/-- yield of the range i, called with these values, ends, and R holds of what it hands back and of the heap. -/
def PYield (P : Program) (i : Nat) (args : List Value) (h : VH) (R : Value → VH → Prop) : Prop :=
  ∀ (B : Nat) (w0 : World) (m : Mp) (w : World) (args' : Array Value), Sim B w0 m h w → i < m.n → VRL m args args'.toList →
    ∃ f tmps asg bdy, (Instr.yield (m.at_ i).blk args').run P w = .ok (.round (m.at_ i).blk f tmps asg bdy) w ∧
      RoundIn (FW none) 0 P (m.at_ i).blk f tmps asg bdy w fun e w' => ∃ m' v v' h', e = .returned v' ∧ R v h' ∧ m.le m' ∧ Sim B w0 m' h' w' ∧ VR m' v v'
theorem PYield.mono {P : Program} {i : Nat} {args : List Value} {h : VH} {R R' : Value → VH → Prop} (hc : PYield P i args h R) (hr : ∀ v h', R v h' → R' v h') : PYield P i args h R' :=
  fun B w0 m w args' S hi ha => let ⟨f, tmps, asg, bdy, h1, h2⟩ := hc B w0 m w args' S hi ha
    ⟨f, tmps, asg, bdy, h1, h2.mono fun e w' ⟨m', v, v', h', e1, e2, r⟩ => ⟨m', v, v', h', e1, hr _ _ e2, r⟩⟩

def pwOps (P : Program) : List GI → Slots → VH → (Slots → VH → Prop) → Prop
  | [], s, h, K => K s h
  | g :: r, s, h, K =>
    if wantedS s g.guard = true then
      match g.i with
      | .call f args => PCalls P f (args.map (ev s)) h fun v h' => pwOps P r (putS s g.dst v) h' K
      | .callv fr args =>
        match ev s fr with
        | .func (.func f) first cap => isFn P f = true ∧ PCalls P f (first.toList ++ args.map (ev s) ++ cap.toList) h fun v h' => pwOps P r (putS s g.dst v) h' K
        | .func (.yield i) _ _ => PYield P i (args.map (ev s)) h fun v h' => pwOps P r (putS s g.dst v) h' K
        | _ => False
      | .nextM x =>
        match pnextM (ev s x) h with
        | some l => ∀ q ∈ l, pwOps P r (putS s g.dst q.1) q.2 K
        | none => False
      | i =>
        match pstep i s h with
        | some (v, h') => pwOps P r (putS s g.dst v) h' K
        | none => False
    else pwOps P r (putS s g.dst undef) h K

/-- of a region that draws its order: nothing of the heap turns. -/
def readI : I → Bool
  | .alloc _ | .store _ _ _ | .append _ _ _ _ _ | .appendStr _ _ | .appendZ _ _ _ _ _ | .toBytes _ | .box _ | .row _ _ _ _ | .sameB _ | .call _ _ | .callv _ _ | .makeMap | .mapSet _ _ _ _ | .mapDel _ _ _ | .mapEntry _ _ _ _ | .entrySet _ _ _ | .rangeS _ | .nextS _ | .rangeM _ | .nextM _ | .copyV _ _ _ | .makeSl _ _ _ _ _ => false
  | _ => true
def pwQ (P : Program) : List GI → Slots → VH → (Slots → Prop) → Prop
  | [], s, h, K => K s
  | g :: r, s, h, K =>
    if wantedS s g.guard = true then
      match g.i with
      | .call f args => ∃ v, closedV v = true ∧ PCalls P f (args.map (ev s)) h.ro (fun u _ => u = v) ∧ pwQ P r (putS s g.dst v) h K
      | i => if readI i = true then
          match pstep i s h with
          | some (v, _) => pwQ P r (putS s g.dst v) h K
          | none => False
        else False
    else pwQ P r (putS s g.dst undef) h K

def dstIs (s : Slots) : Option Nat → Value → Prop
  | some d, v => s d = v
  | none, _ => True
/-- that a read, asked anew, answers as it did. -/
def evalOK (u : GI) (s : Slots) (h : VH) : Prop :=
  if wantedS s u.guard = true then match pstep u.i s h with
    | some (v, _) => dstIs s u.dst v
    | none => False
  else dstIs s u.dst undef
def lateOK (s : Slots) (h : VH) : List GI → Prop
  | [] => True
  | u :: r => evalOK u s h ∧ lateOK s h r
def pwD (P : Program) : List DI → Slots → VH → (Slots → VH → Prop) → Prop
  | [], s, h, K => K s h
  | d :: r, s, h, K => pwOps P [d.g] s h fun s' h' => lateOK s' h' d.late ∧ pwD P r s' h' K

def pwT (P : Program) : DT → Slots → VH → (Slots → VH → Prop) → Prop
  | .nil, s, h, K => K s h
  | .step d r, s, h, K => pwOps P [d.g] s h fun s' h' => lateOK s' h' d.late ∧ pwT P r s' h' K
  | .alt a b, s, h, K => pwT P a s h K ∧ pwT P b s h K

def putAll (s : Slots) : List Nat → List Value → Slots
  | p :: ps, v :: vs => putAll (upd s p v) ps vs
  | _, _ => s
/-- a round's end. -/
def rndEnd (i : Nat) (L : LoopKey) (R : Value → VH → Prop) : Exit → Slots → VH → Prop := fun e _ h => (∃ pe, h.get i = .loop L .busy pe) ∧ match e with
  | .normal => R (.bool true) (h.set i (.loop L .ready none))
  | .ret => R (.bool false) (h.set i (.loop L .done (some .ret)))
  | .exit id => R (.bool false) (h.set i (.loop L .done (some (.exit id))))
  | _ => False
/-- what follows a range over a function. -/
def rngEnd (i : Nat) (L : LoopKey) (s : Slots) (Q : Exit → Slots → VH → Prop) : Value → VH → Prop := fun _ h => ∃ st pe, h.get i = .loop L st pe ∧ st ≠ .busy ∧ match pe with
  | none => Q .normal s (h.set i .dead)
  | some .ret => Q .ret s (h.set i .dead)
  | some (.exit id) => Q (.exit id) s (h.set i .dead)
  | _ => False

def pw (P : Program) : PC → Slots → VH → (Exit → Slots → VH → Prop) → Prop
  | .skip, s, h, Q => Q .normal s h
  | .ops l, s, h, Q => pwOps P l s h (Q .normal)
  | .quiet l, s, h, Q => pwQ P l s h (fun s' => Q .normal s' h)
  | .draw l, s, h, Q => pwD P l s h (Q .normal)
  | .drawT t, s, h, Q => pwT P t s h (Q .normal)
  | .seq a b, s, h, Q => pw P a s h fun e s' h' => match e with
    | .normal => pw P b s' h' Q
    | e => Q e s' h'
  | .cond c a b, s, h, Q => match ev s c with
    | .bool t => (t = true → pw P a s h Q) ∧ (t = false → pw P b s h Q)
    | _ => False
  | .block id b, s, h, Q => pw P b s h fun e s' h' => match e with
    | .exit i => if i = id then Q .normal s' h' else Q (.exit i) s' h'
    | e => Q e s' h'
  | .loop b, s, h, Q => ∃ (J : Nat → Slots → VH → Prop) (n : Nat), J n s h ∧ ∀ n s h, J n s h → pw P b s h fun e s' h' => match e with
    | .normal => ∃ k, k < n ∧ J k s' h'
    | e => Q e s' h'
  | .exit id, s, h, Q => Q (.exit id) s h
  | .ret, s, h, Q => Q .ret s h
  | .scope b, s, h, Q => pw P b s h fun e s' h' => match e with
    | .goto _ => False
    | e => Q e s' h'
  | .scopeL b l t, s, h, Q => pw P b s h fun e s' h' => match e with
    | .goto l' => l' = l ∧ pw P t s' h' fun e s' h' => match e with
      | .goto _ => False
      | e => Q e s' h'
    | e => Q e s' h'
  | .label _, s, h, Q => Q .normal s h
  | .goto l, s, h, Q => Q (.goto l) s h
  | .rangeF fr ps a b, s, h, Q => ∃ g first cap, ev s fr = .func (.func g) first cap ∧ isFn P g = true ∧
    ∀ L : LoopKey, L.s = s → L.ps = ps →
      (∀ (i : Nat) (args : List Value) (h1 : VH) (pe : Option Code) (R : Value → VH → Prop), h1.get i = .loop L .ready pe → args.length = ps.length →
        (pw P a (putAll s ps args) h1 fun e s2 h2 => match e with
          | .normal => ∃ pe2, h2.get i = .loop L .ready pe2 ∧ pw P b s2 (h2.set i (.loop L .busy pe2)) (rndEnd i L R)
          | _ => False) → PYield P i args h1 R) →
      PCalls P g (first.toList ++ [.func (.yield h.n) #[] #[]] ++ cap.toList) (h.push (.loop L .ready none)) (rngEnd h.n L s Q)

/-! ### which code it stands for -/
structure GC (P : Program) (N : Nat) (ops : Array Oper) (o : Oper) (g : GI) : Prop where
  dst : g.dst = o.dst
  lt : ∀ d, o.dst = some d → d < N
  guard : (o.guard = none ∧ g.guard = none) ∨ ∃ j b t oj, o.guard = some (j, b) ∧ ops[j]? = some oj ∧ oj.dst = some t ∧ t < N ∧ g.guard = some (t, b)
  meaning : (match g.i with
    | .call f args => ∃ (xs : Array Operand) (ts : Array TypeId), o.op = .call { callee := .value (.func f), args := xs, argTypes := ts } ∧ compRefs N xs.toList = some args ∧ isFn P f = true
    | .callv fr args => ∃ (x : Operand) (xs : Array Operand) (ts : Array TypeId), o.op = .call { callee := .value x, args := xs, argTypes := ts } ∧ compRef N x = some fr ∧ compRefs N xs.toList = some args
    | .nextM x => ∃ xo, o.op = .next xo false ∧ compRef N xo = some x
    | i => if readI i = true then ReadOK P N o i else StepOK P N o i)
  nod : ∀ c, o.op ≠ .defer c

def GCs (P : Program) (N : Nat) (ops : Array Oper) : List Oper → List GI → Prop
  | [], [] => True
  | o :: os, g :: gs => GC P N ops o g ∧ GCs P N ops os gs
  | _, _ => False

/-! ### the plan of a region that draws its order -/
def optRefs : Option Ref → List Ref
  | some r => [r]
  | none => []
def I.refs : I → List Ref
  | .makeMap => []
  | .lookup _ _ _ x y | .mapDel _ x y | .mapEntry _ _ x y | .copyV _ x y | .makeSl _ _ _ x y => [x, y]
  | .mapSet _ x y z | .entrySet x y z => [x, y, z]
  | .lenM x | .rangeS x | .nextS x | .rangeM x | .nextM x | .entryM x | .asrt _ _ _ x => [x]
  | .mov x | .nilck x | .un _ x | .convI _ x | .convS x | .load _ x | .fieldAddr _ x | .field _ _ x | .lenStr x | .lenS x | .extract x _ | .mkIface _ x | .toBytes x | .ofBytes x | .box x | .sameB x => [x]
  | .pick c a b => [c, a, b]
  | .bin _ x y | .binB _ x y | .eqNil _ _ x y | .eqV _ _ x y | .store _ x y | .idxS _ x y | .idxA _ _ x y | .idxV _ _ _ x y | .idxStr x y | .append _ _ _ x y | .appendStr x y | .appendZ _ _ _ x y | .minmax _ x y => [x, y]
  | .alloc _ | .lenC _ => []
  | .build _ ps | .row _ _ _ ps => ps.map (·.2.2)
  | .slS _ x lo hi mx => x :: (optRefs lo ++ optRefs hi ++ optRefs mx)
  | .slA _ _ x lo hi | .slStr x lo hi => x :: (optRefs lo ++ optRefs hi)
  | .mkFunc _ xs ys => xs ++ ys
  | .call _ xs => xs
  | .callv x xs => x :: xs
def refT : Ref → Option Nat
  | .t n => some n
  | .k _ => none
def GI.looks (g : GI) : List Nat := g.i.refs.filterMap refT ++ (match g.guard with
  | some (t, _) => [t]
  | none => [])
/-- what it answers does not hang on the heap. -/
def pureI : I → Bool
  | .mov _ | .pick _ _ _ | .nilck _ | .bin _ _ _ | .binB _ _ _ | .eqNil _ _ _ _ | .eqV _ _ _ _ | .un _ _ | .convI _ _ | .convS _ | .build _ _ | .fieldAddr _ _ | .field _ _ _ | .idxS _ _ _ | .idxA _ _ _ _ | .idxV _ _ _ _ _ | .idxStr _ _
  | .lenStr _ | .lenS _ | .lenC _ | .slStr _ _ _ | .extract _ _ | .mkFunc _ _ _ | .mkIface _ _ | .minmax _ _ _ | .asrt _ _ _ _ => true
  | _ => false

structure PI where
  j : Nat
  eff : Bool
  late : List Nat
def edges (ops : Array Oper) (j : Nat) : List Nat :=
  match ops[j]? with
  | some o => (o.after.toList.filter (Region.binds .any)).map (·.on)
  | none => []
def rdyB (ops : Array Oper) (X : List Nat) (j : Nat) : Bool := decide (j < ops.size) && (edges ops j).all (X.contains ·)
def clos (ops : Array Oper) : Nat → List Nat → List Nat → List Nat
  | 0, _, acc => acc
  | _ + 1, [], acc => acc
  | f + 1, x :: todo, acc => if acc.contains x then clos ops f todo acc else clos ops f (edges ops x ++ todo) (x :: acc)
def ancs (ops : Array Oper) (j : Nat) : List Nat := clos ops (ops.size * ops.size + ops.size) (edges ops j) []
/-- i comes ahead of j in the plan. -/
def sepB (ops : Array Oper) (gs : List GI) (i j : Nat) : Bool :=
  match ops[i]?, ops[j]?, gs[i]?, gs[j]? with
  | some oi, some oj, some gi, some gj =>
    (match oj.dst with
      | some d => oi.dst != some d && !(oi.looksAt ops).contains d && !gi.looks.contains d
      | none => true) &&
    ((edges ops j).contains i || (match oi.dst with
      | some d => !(oj.looksAt ops).contains d && !gj.looks.contains d
      | none => true))
  | _, _, _, _ => false
def sepE (ops : Array Oper) (gs : List GI) (i j : Nat) : Bool := (edges ops j).contains i || sepB ops gs i j
/-- no operation looks at what it puts. -/
def selfB (ops : Array Oper) (gs : List GI) (j : Nat) : Bool :=
  match ops[j]?, gs[j]? with
  | some o, some g => (match o.dst with
      | some d => !(o.looksAt ops).contains d && !g.looks.contains d
      | none => true)
  | _, _ => false
def atB (gs : List GI) (p : I → Bool) (j : Nat) : Bool :=
  match gs[j]? with
  | some g => p g.i
  | none => false
def planOK (ops : Array Oper) (gs : List GI) : List PI → List Nat → List Nat → Bool
  | [], X, _ => (List.range ops.size).all (X.contains ·)
  | d :: r, X, R => decide (d.j < ops.size) && !X.contains d.j &&
    (if d.eff then R.all (sepE ops gs · d.j) && (List.range ops.size).all (fun k => X.contains k || k == d.j || !rdyB ops X k) && R.all (fun x => atB gs pureI x || d.late.contains x || (ancs ops d.j).contains x)
      else R.all (sepB ops gs · d.j) && selfB ops gs d.j && atB gs readI d.j) &&
    planOK ops gs r (d.j :: X) (if d.eff then R else d.j :: R)
inductive PT where
  | nil
  | step (p : PI) (r : PT)
  | alt (a b : PT)
def PT.len : PT → Nat
  | .nil => 0
  | .step _ r => r.len + 1
  | .alt a _ => a.len
def PT.heads : PT → List Nat
  | .nil => []
  | .step p _ => [p.j]
  | .alt a b => a.heads ++ b.heads
def PT.isEff : PT → Bool
  | .nil => false
  | .step p _ => p.eff
  | .alt a b => a.isEff && b.isEff
/-- C: what the other branches begin with. -/
def planT (ops : Array Oper) (gs : List GI) : PT → List Nat → List Nat → List Nat → Bool
  | .nil, X, _, _ => (List.range ops.size).all (X.contains ·)
  | .step d r, X, R, C => decide (d.j < ops.size) && !X.contains d.j &&
    (if d.eff then R.all (sepE ops gs · d.j) && (List.range ops.size).all (fun k => X.contains k || k == d.j || C.contains k || !rdyB ops X k) && R.all (fun x => atB gs pureI x || d.late.contains x || (ancs ops d.j).contains x)
      else R.all (sepB ops gs · d.j) && selfB ops gs d.j && atB gs readI d.j) &&
    planT ops gs r (d.j :: X) (if d.eff then R else d.j :: R) []
  | .alt a b, X, R, C => a.isEff && b.isEff && a.len == b.len && planT ops gs a X R (b.heads ++ C) && planT ops gs b X R (a.heads ++ C)
def diOf (gs : List GI) (p : PI) : Option DI := (gs[p.j]?).map fun g => ⟨g, p.late.filterMap (gs[·]?)⟩
def dtOf (gs : List GI) : PT → Option DT
  | .nil => some .nil
  | .step p r => (diOf gs p).bind fun d => (dtOf gs r).map (.step d)
  | .alt a b => (dtOf gs a).bind fun x => (dtOf gs b).map (.alt x)
def listPT : List PI → PT
  | [] => .nil
  | p :: r => .step p (listPT r)
def listDT : List DI → DT
  | [] => .nil
  | d :: r => .step d (listDT r)
theorem listPT_len : ∀ (l : List PI), (listPT l).len = l.length
  | [] => rfl
  | _ :: r => by simp [listPT, PT.len, listPT_len r]
theorem listPT_ok {ops : Array Oper} {gs : List GI} : ∀ (l : List PI) (X R : List Nat), planOK ops gs l X R = planT ops gs (listPT l) X R []
  | [], _, _ => rfl
  | p :: r, X, R => by
    simp only [planOK, listPT, planT, listPT_ok r]
    simp
theorem listPT_dt {gs : List GI} : ∀ (l : List PI) (r : List DI), l.mapM (diOf gs) = some r → dtOf gs (listPT l) = some (listDT r)
  | [], r, h => by simp at h; subst h; rfl
  | p :: l, r, h => by
    rw [List.mapM_cons] at h
    simp only [Option.bind_eq_bind, Option.bind_eq_some_iff, Option.pure_def, Option.some.injEq] at h
    obtain ⟨d, hd, r', hr, rfl⟩ := h
    simp only [listPT, dtOf, hd, Option.bind_some, listPT_dt l r' hr, Option.map_some, listDT]
theorem pwD_listDT {P : Program} {K : Slots → VH → Prop} : ∀ (l : List DI) (s : Slots) (h : VH), pwD P l s h K = pwT P (listDT l) s h K
  | [], _, _ => rfl
  | d :: r, s, h => by simp only [pwD, listDT, pwT, pwD_listDT r]
def downB (ops : Array Oper) : Bool := (List.range ops.size).all fun j => (edges ops j).all (fun x => decide (x < j))

/-- what follows a label. -/
def findPC : PC → Nat → Option PC
  | .seq a b, l =>
    match findPC a l with
    | some t => some (.seq t b)
    | none => findPC b l
  | .label l', l => if (l' == l) = true then some .skip else none
  | _, _ => none

/-- the code that a piece stands for (top: outside all rounds). -/
inductive Stands (P : Program) (N : Nat) : Bool → PC → Code → Prop
  | skip {top : Bool} : Stands P N top .skip .skip
  | ops {top : Bool} (id : Nat) (os : Array Oper) (gs : List GI) (h : GCs P N os os.toList gs) : Stands P N top (.ops gs) (.region id os false)
  | quiet {top : Bool} (id : Nat) (os : Array Oper) (gs : List GI) (h : GCs P N os os.toList gs) (hm : P.follows .mixedOrders = true) (hB : Region.lexB .any os = true) : Stands P N top (.quiet gs) (.region id os true)
  | draw {top : Bool} (id : Nat) (os : Array Oper) (gs : List GI) (ps : List PI) (l : List DI) (h : GCs P N os os.toList gs) (hm : P.follows .mixedOrders = true) (hs : Region.noSelect os = true) (hd : downB os = true)
      (hp : planOK os gs ps [] [] = true) (hn : ps.length = os.size) (hl : ps.mapM (diOf gs) = some l) : Stands P N top (.draw l) (.region id os true)
  | drawT {top : Bool} (id : Nat) (os : Array Oper) (gs : List GI) (ps : PT) (l : DT) (h : GCs P N os os.toList gs) (hm : P.follows .mixedOrders = true) (hs : Region.noSelect os = true) (hd : downB os = true)
      (hp : planT os gs ps [] [] [] = true) (hn : ps.len = os.size) (hl : dtOf gs ps = some l) : Stands P N top (.drawT l) (.region id os true)
  | seq {top : Bool} {a b : PC} {c d : Code} (h1 : Stands P N top a c) (h2 : Stands P N top b d) : Stands P N top (.seq a b) (.seq c d)
  | cond {top : Bool} {x : Operand} {r : Ref} {a b : PC} {c d : Code} (hx : compRef N x = some r) (h1 : Stands P N top a c) (h2 : Stands P N top b d) : Stands P N top (.cond r a b) (.cond x c d)
  | block {top : Bool} (id : Nat) {a : PC} {c : Code} (h : Stands P N top a c) : Stands P N top (.block id a) (.block id c)
  | loop {top : Bool} {a : PC} {c : Code} (h : Stands P N top a c) : Stands P N top (.loop a) (.loop c)
  | exit {top : Bool} (id : Nat) : Stands P N top (.exit id) (.exit id)
  | ret {top : Bool} : Stands P N top .ret .ret
  | scope {top : Bool} {a : PC} {c : Code} (h : Stands P N top a c) : Stands P N top (.scope a) (.scope c)
  | scopeL {top : Bool} {a t : PC} {c rest : Code} {l : Nat} (h : Stands P N top a c) (hl : findLabel c l = some rest) (ht : Stands P N top t rest) : Stands P N top (.scopeL a l t) (.scope c)
  | label {top : Bool} (l : Nat) : Stands P N top (.label l) (.label l)
  | goto {top : Bool} (l : Nat) : Stands P N top (.goto l) (.goto l)
  | rangeF {x : Operand} {r : Ref} {ps : Array Tmp} {a b : PC} {c d : Code} (hx : compRef N x = some r) (hp : ∀ p ∈ ps.toList, p < N) (h1 : Stands P N false a c) (h2 : Stands P N false b d) : Stands P N true (.rangeF r ps.toList a b) (.rangeFunc x ps c d)

theorem findPC_ok {P : Program} {N : Nat} {top : Bool} {a : PC} {c : Code} (h : Stands P N top a c) {l : Nat} : ∀ {t : PC}, findPC a l = some t → ∃ rest, findLabel c l = some rest ∧ Stands P N top t rest := by
  have none_ : ∀ {top : Bool} {a : PC} {c : Code}, Stands P N top a c → findPC a l = none → findLabel c l = none := by
    intro top a c h
    induction h with
    | seq h1 h2 ih1 ih2 =>
      intro hn
      simp only [findPC] at hn
      split at hn
      · cases hn
      · rename_i h3
        simp only [findLabel, ih1 h3, ih2 hn]
    | label l' =>
      intro hn
      simp only [findPC] at hn
      split at hn
      · cases hn
      · rename_i h3; simp only [findLabel, if_neg h3]
    | _ => intro _; rfl
  induction h with
  | seq h1 h2 ih1 ih2 =>
    intro t ht
    simp only [findPC] at ht
    split at ht
    · rename_i t1 h3
      injection ht with ht
      subst ht
      obtain ⟨rest, h4, h5⟩ := ih1 h3
      exact ⟨_, by simp only [findLabel, h4], .seq h5 h2⟩
    · rename_i h3
      obtain ⟨rest, h4, h5⟩ := ih2 ht
      exact ⟨rest, by simp only [findLabel, none_ h1 h3, h4], h5⟩
  | label l' =>
    intro t ht
    simp only [findPC] at ht
    split at ht
    · rename_i h3
      injection ht with ht
      subst ht
      exact ⟨.skip, by simp only [findLabel, if_pos h3], .skip⟩
    · cases ht
  | _ => intro t ht; cases ht

theorem SR.putS {N : Nat} {m : Mp} {s : Slots} {a : Act} (h : SR N m s a.tmps) {d : Option Nat} {v v' : Value} (hv : VR m v v') : SR N m (putS s d v) (a.put d v').tmps := by
  cases d with
  | none => exact h
  | some d => exact h.put hv

theorem put_defers (a : Act) (d : Option Nat) (v : Value) : (a.put d v).defers = a.defers := by cases d <;> rfl

theorem isB_VR {m : Mp} {v v' : Value} (h : VR m v v') (b : Bool) : isB v' b = isB v b := by cases h <;> rfl

theorem wanted_eq {P : Program} {N : Nat} {ops : Array Oper} {o : Oper} {g : GI} (hg : GC P N ops o g) {m : Mp} {s : Slots} {a : Act} (hs : SR N m s a.tmps) : Region.wanted o (yielded ops a.tmps) = wantedS s g.guard := by
  rcases hg.guard with ⟨h1, h2⟩ | ⟨j, b, t, oj, h1, h2, h3, h4, h5⟩
  · simp [Region.wanted, h1, h2, wantedS]
  · have ht : t < a.tmps.size := by rw [hs.size]; exact h4
    have hr := hs.rel t ht
    simp only [Region.wanted, h1, h5, wantedS, yielded, h2, Option.bind_some, h3, Array.getElem?_eq_getElem ht]
    generalize a.tmps[t] = u at hr
    generalize s t = u' at hr
    cases hr <;> first
      | rfl
      | (rename_i b1; cases b1 <;> cases b <;> rfl)

theorem callOK {P : Program} {f : FuncId} (hf : isFn P f = true) (args : Array Value) (w : World) : (callFunc f args).run P w = .ok (.enter f args) w := by
  unfold isFn at hf
  split at hf
  · rename_i fn hfn
    simp only [Bool.and_eq_true, Bool.not_eq_true'] at hf
    obtain ⟨h1, h2⟩ := hf
    have h3 : ¬ fn.body = none := by cases hb : fn.body <;> simp_all
    have h2' : ¬ fn.name = "runtime.NumGoroutine" := by simpa using h2
    simp [callFunc, hfn, h2', h3]
  · cases hf


/-- the marks that ranges over functions have left. -/
structure FX where
  l : List Nat
  base : List Deferred
  no : Bool
def DF (m : Mp) (fx0 : FX) (ds : List Deferred) : Prop := (∀ D ∈ fx0.l, D ∈ m.fx) ∧ ∃ Ds : List Nat, ds = Ds.map (fun D => { target := .collected D, args := #[] }) ++ fx0.base ∧ Ds.Nodup ∧ (∀ D ∈ Ds, D ∈ m.fx ∧ D ∉ fx0.l) ∧ (fx0.no = true → Ds = [])
theorem DF.nil (m : Mp) {l : List Nat} {b : List Deferred} {no : Bool} (h : ∀ D ∈ l, D ∈ m.fx) : DF m ⟨l, b, no⟩ b := ⟨h, [], rfl, List.nodup_nil, fun _ h => absurd h (by simp), fun _ => rfl⟩
theorem DF.mono {m m' : Mp} (hm : m.le m') {fx0 : FX} {ds : List Deferred} (h : DF m fx0 ds) : DF m' fx0 ds :=
  let ⟨h0, Ds, h1, h2, h3, h4⟩ := h; ⟨fun D hD => hm.fx D (h0 D hD), Ds, h1, h2, fun D hD => ⟨hm.fx D (h3 D hD).1, (h3 D hD).2⟩, h4⟩

/-- what holds behind a piece of code. -/
def Post (B : Nat) (w0 : World) (N : Nat) (m : Mp) (fx0 : FX) (Q : Exit → Slots → VH → Prop) : Exit → Act → World → Prop :=
  fun e a w => ∃ m' s h, Q e s h ∧ m.le m' ∧ Sim B w0 m' h w ∧ SR N m' s a.tmps ∧ DF m' fx0 a.defers

theorem wpIn_of {r : Option Nat} {P : Program} {o : Oper} {a : Act} {w : World} {next : Act → World → Prop} {Q : Exit → Act → World → Prop} (hn : ∀ c, o.op ≠ .defer c) (h : o.uponIn (FW r) 0 P a next Q ((execOp a.eval o).run P w)) : o.wpIn (FW r) 0 P a w next Q :=
  ⟨fun _ _ => trivial, by rw [Oper.semAt_eq _ _ _ hn]; exact h⟩

theorem VRL.append {m : Mp} {xs ys us vs : List Value} (h : VRL m xs ys) (k : VRL m us vs) : VRL m (xs ++ us) (ys ++ vs) := by
  refine ⟨by simp [h.1, k.1], fun j x y hx hy => ?_⟩
  rw [List.getElem?_append] at hx hy
  rw [← h.1] at hy
  split at hx
  · rename_i hj
    rw [if_pos hj] at hy
    exact h.2 _ _ _ hx hy
  · rename_i hj
    rw [if_neg hj] at hy
    exact k.2 _ _ _ hx hy

theorem yld_inv {m : Mp} {i : Nat} {a b : Array Value} {v : Value} (h : VR m (.func (.yield i) a b) v) : i < m.n ∧ v = .func (.yield (m.at_ i).blk) #[] #[] := by
  cases h with
  | yld hi => exact ⟨hi, rfl⟩
  | func _ _ _ _ _ hf => cases hf
theorem func_inv {m : Mp} {f : FuncId} {a b : Array Value} {v : Value} (h : VR m (.func (.func f) a b) v) : ∃ a' b', v = .func (.func f) a' b' ∧ VRL m a.toList a'.toList ∧ VRL m b.toList b'.toList := by
  cases h with
  | func _ _ _ a' b' hf ha hb h1 h2 =>
    refine ⟨a', b', rfl, ⟨by simpa using ha, fun j x y hx hy => ?_⟩, ⟨by simpa using hb, fun j x y hx hy => ?_⟩⟩
    · simp only [Array.getElem?_toList] at hx hy
      obtain ⟨hx1, rfl⟩ := Array.getElem?_eq_some_iff.1 hx
      obtain ⟨hy1, rfl⟩ := Array.getElem?_eq_some_iff.1 hy
      exact h1 j hx1 hy1
    · simp only [Array.getElem?_toList] at hx hy
      obtain ⟨hx1, rfl⟩ := Array.getElem?_eq_some_iff.1 hx
      obtain ⟨hy1, rfl⟩ := Array.getElem?_eq_some_iff.1 hy
      exact h2 j hx1 hy1

theorem run_callv_yield {P : Program} {o : Oper} {a : Act} {w : World} {x : Operand} {xs : Array Operand} {ts : Array TypeId} (hop : o.op = .call { callee := .value x, args := xs, argTypes := ts }) {l : Nat} (hx : a.eval x = .func (.yield l) #[] #[]) :
    (execOp a.eval o).run P w = (Instr.yield l (xs.map a.eval)).run P w := by
  simp [execOp, hop, resolve, hx, Deferred.ofValue, invoke]

/-- the operation runs, and Z holds of what it hands back. -/
def StepRun (P : Program) (o : Oper) (ρ : Operand → Value) (w : World) (Z : Value → World → Prop) : Prop :=
  (∃ nx v' w', (execOp ρ o).run P w = .ok nx w' ∧ nxv nx = some v' ∧ Z v' w') ∨
  (∃ f vs', (execOp ρ o).run P w = .ok (.enter f vs') w ∧ Calls P f vs' w fun e w' => ∃ v', e = .returned v' ∧ Z v' w') ∨
  (∃ l f tmps asg bdy, (execOp ρ o).run P w = .ok (.round l f tmps asg bdy) w ∧ RoundIn (FW none) 0 P l f tmps asg bdy w fun e w' => ∃ v', e = .returned v' ∧ Z v' w')

theorem StepRun.wp {r : Option Nat} {P : Program} {o : Oper} (hn : ∀ c, o.op ≠ .defer c) {a : Act} {w : World} {Z : Value → World → Prop} {K : Act → World → Prop} {Q : Exit → Act → World → Prop} (h : StepRun P o a.eval w Z) (hk : ∀ v' w', Z v' w' → K (a.put o.dst v') w') : o.wpIn (FW r) 0 P a w K Q := by
  refine wpIn_of hn ?_
  rcases h with ⟨nx, v', w', hr, hn, hz⟩ | ⟨f, vs', hr, hc⟩ | ⟨l, f, tmps, asg, bdy, hr, hc⟩
  · rw [hr]
    have fin := hk v' w' hz
    cases nx <;> simp only [nxv] at hn <;> first
      | (cases hn; done)
      | (injection hn with hn; subst hn; exact fin)
  · rw [hr, Oper.uponIn_enter]
    refine ⟨fun h => (by cases h), callsIn_FW (hc.mono ?_)⟩
    rintro e w' ⟨v', rfl, hz⟩
    exact hk v' w' hz
  · rw [hr, Oper.uponIn_round]
    refine ⟨fun h => (by cases h), (roundIn_FW hc).mono ?_⟩
    rintro e w' ⟨v', rfl, hz⟩
    exact hk v' w' hz

theorem step_ok {P : Program} {N : Nat} {ops : Array Oper} {o : Oper} {g : GI} (hg : GC P N ops o g) {B : Nat} {w0 : World} {m : Mp} {h : VH} {w : World} (S : Sim B w0 m h w) {s : Slots} {a : Act} (hs : SR N m s a.tmps) {r : List GI} {K : Slots → VH → Prop}
    (hp : pwOps P (g :: r) s h K) (hw : wantedS s g.guard = true) :
    StepRun P o a.eval w (fun v' w' => ∃ m' v h', m.le m' ∧ Sim B w0 m' h' w' ∧ VR m' v v' ∧ pwOps P r (Pm.putS s g.dst v) h' K) := by
  simp only [pwOps, if_pos hw] at hp
  have hm := hg.meaning
  have call : ∀ (f : FuncId) (vs : List Value) (vs' : Array Value), VRL m vs vs'.toList → (execOp a.eval o).run P w = .ok (.enter f vs') w → PCalls P f vs h (fun v h' => pwOps P r (Pm.putS s g.dst v) h' K) →
      StepRun P o a.eval w (fun v' w' => ∃ m' v h', m.le m' ∧ Sim B w0 m' h' w' ∧ VR m' v v' ∧ pwOps P r (Pm.putS s g.dst v) h' K) := by
    intro f vs vs' hv hr hcall
    refine .inr (.inl ⟨f, vs', hr, (hcall B w0 m w vs' S hv).mono ?_⟩)
    rintro e w' ⟨m', v, v', h', rfl, hK, hle, S', hvr⟩
    exact ⟨v', rfl, m', v, h', hle, S', hvr, hK⟩
  split at hp
  · rename_i f args hi
    rw [hi] at hm
    obtain ⟨xs, ts, hop, hxs, hf⟩ := hm
    have hrun : (execOp a.eval o).run P w = .ok (.enter f (xs.map a.eval)) w := by
      simp [execOp, hop, resolve, Act.eval, Deferred.ofValue, invoke, callOK hf]
    exact call f _ _ (by simpa using compRefs_ok hxs hs) hrun hp
  · rename_i fr args hi
    rw [hi] at hm
    obtain ⟨x, xs, ts, hop, hx, hxs⟩ := hm
    split at hp
    · rename_i f first cap he
      obtain ⟨hf, hp⟩ := hp
      have hvr := compRef_ok hx hs
      rw [he] at hvr
      obtain ⟨a', b', hav, h1, h2⟩ := func_inv hvr
      have hrun : (execOp a.eval o).run P w = .ok (.enter f (a' ++ xs.map a.eval ++ b')) w := by
        simp [execOp, hop, resolve, hav, Deferred.ofValue, invoke, callOK hf]
      refine call f _ _ ?_ hrun hp
      simp only [Array.toList_append, Array.toList_map]
      exact (h1.append (compRefs_ok hxs hs)).append h2
    · rename_i i first cap he
      have hvr := compRef_ok hx hs
      rw [he] at hvr
      obtain ⟨hi, hav⟩ := yld_inv hvr
      obtain ⟨f, tmps, asg, bdy, h1, h2⟩ := hp B w0 m w (xs.map a.eval) S hi (by simpa using compRefs_ok hxs hs)
      refine .inr (.inr ⟨_, f, tmps, asg, bdy, by rw [run_callv_yield hop hav]; exact h1, h2.mono ?_⟩)
      rintro e w' ⟨m', v, v', h', rfl, hK, hle, S', hvr⟩
      exact ⟨v', rfl, m', v, h', hle, S', hvr, hK⟩
    · exact hp.elim
  · rename_i x hi
    rw [hi] at hm
    obtain ⟨xo, hop, hx⟩ := hm
    split at hp
    · rename_i l hl
      obtain ⟨v, h', v', w', hmem, hr, S', hv⟩ := nextM_ok hop hx S hs hl
      exact .inl ⟨.value v', v', w', hr, rfl, m, v, h', m.le_refl, S', hv, hp _ hmem⟩
    · exact hp.elim
  · rename_i i hn1 hn2 hn3
    have hm' : if readI g.i = true then ReadOK P N o g.i else StepOK P N o g.i := by
      split at hm
      · rename_i f args hi; exact absurd hi (hn1 f args)
      · rename_i fr args hi; exact absurd hi (hn2 fr args)
      · rename_i x hi; exact absurd hi (hn3 x)
      · exact hm
    have hok : StepOK P N o g.i := by
      split at hm'
      · exact hm'.step
      · exact hm'
    split at hp
    · rename_i v h' he
      obtain ⟨m', nx, v', w', hr, hn, hle, S', hvr⟩ := hok B w0 m h w s a v h' S hs he
      exact .inl ⟨nx, v', w', hr, hn, m', v, h', hle, S', hvr, hp⟩
    · exact hp.elim

theorem ops_ok {r : Option Nat} {P : Program} {N : Nat} {ops : Array Oper} {Q : Exit → Act → World → Prop} {B : Nat} {w0 : World} {D : List Deferred} : ∀ (os : List Oper) (gs : List GI), GCs P N ops os gs → ∀ (s : Slots) (h : VH) (K : Slots → VH → Prop) (m : Mp) (a : Act) (w : World),
    pwOps P gs s h K → Sim B w0 m h w → SR N m s a.tmps → a.defers = D →
    (∀ m' s' h' (a' : Act) w', K s' h' → m.le m' → Sim B w0 m' h' w' → SR N m' s' a'.tmps → a'.defers = D → Q .normal a' w') → wpListIn (FW r) 0 P ops Q os a w
  | [], [], _, s, h, K, m, a, w, hp, S, hs, hd, hQ => hQ m s h a w hp m.le_refl S hs hd
  | [], g :: gs, hc, _, _, _, _, _, _, _, _, _, _, _ => hc.elim
  | o :: os, [], hc, _, _, _, _, _, _, _, _, _, _, _ => hc.elim
  | o :: os, g :: gs, hc, s, h, K, m, a, w, hp, S, hs, hd, hQ => by
    obtain ⟨hg, hgs⟩ := hc
    unfold wpListIn
    rw [wanted_eq hg hs]
    have hdst := hg.dst
    have next : ∀ (m1 : Mp) (s1 : Slots) (h1 : VH) (a1 : Act) (w1 : World), m.le m1 → pwOps P gs s1 h1 K → Sim B w0 m1 h1 w1 → SR N m1 s1 a1.tmps → a1.defers = D → wpListIn (FW r) 0 P ops Q os a1 w1 :=
      fun m1 s1 h1 a1 w1 hle hp1 S1 hs1 hd1 => ops_ok os gs hgs s1 h1 K m1 a1 w1 hp1 S1 hs1 hd1 (fun m' s' h' a' w' k1 k2 k3 k4 k5 => hQ m' s' h' a' w' k1 (Mp.le_trans hle k2) k3 k4 k5)
    split
    · rename_i hw
      refine (step_ok hg S hs hp hw).wp hg.nod ?_
      rintro v' w' ⟨m', v, h', hle, S', hvr, hK⟩
      refine next m' _ h' _ w' hle hK S' ?_ (by rw [put_defers]; exact hd)
      rw [← hdst]
      exact (hs.mono hle).putS hvr
    · rename_i hw
      simp only [pwOps, if_neg hw] at hp
      refine ⟨fun _ _ => trivial, next m _ h _ w m.le_refl hp S ?_ (by rw [put_defers]; exact hd)⟩
      rw [← hdst]
      exact hs.putS (VR.undef m)


theorem VObj.ro_own (o : VObj) : o.ro.own = false := by cases o <;> rfl
theorem VObj.ro_live {o : VObj} (h : o.ro.live = true) : o.live = true := by
  cases o with
  | cells cs ow e =>
    have h : (false || !cs.isEmpty) = true := h
    show (ow || !cs.isEmpty) = true
    cases ow <;> simp_all
  | map es c ow => rfl
  | dead => cases h
  | siter _ _ => cases h
  | miter _ _ _ _ => cases h
  | loop _ _ _ => cases h
theorem Sim.ro {B : Nat} {w0 : World} {m : Mp} {h : VH} {w w1 : World} (S : Sim B w0 m h w) (hb : Below w.heap.size w w1) : Sim w1.heap.size w1 (m.setFx []) h.ro w1 := by
  have S := S.setFx (l := []) (fun D hD => by cases hD)
  have hget : ∀ i, (h.ro.get i).own = false := fun i => VObj.ro_own _
  have hlive : ∀ i, (h.ro.get i).live = true → (h.get i).live = true := fun i hl => VObj.ro_live hl
  refine ⟨S.n, Below.refl _ _, Nat.le_refl _, fun i hi => ?_, fun i j hi hj hne ho hl => ?_, fun i hi ho => ?_, fun D hD => by cases hD⟩
  · have hob := S.obj i hi
    have hsz := hb.size
    show ORel _ _ _ (h.get i).ro
    generalize h.get i = o at hob
    cases o with
    | cells cs own e =>
      have hob2 := hob.congr (w' := w1) (fun hl => hb.block _ (hob.2.2.1 hl)) hsz
      exact ⟨hob2.1, hob2.2.1, fun hl => hob2.2.2.1 (by cases own <;> simp_all), hob2.2.2.2.1, fun h => by cases h⟩
    | map es c own =>
      exact hob.congr (w' := w1) (fun hl => hb.block _ (hob.blk_lt hl)) hsz
    | dead => trivial
    | siter _ _ => trivial
    | miter _ _ _ _ => trivial
    | loop _ _ _ => trivial
  · rw [hget] at ho; cases ho
  · rw [hget] at ho; cases ho

theorem same_of_below {w w1 : World} (h : Below w.heap.size w w1) : Same w w1 := fun b hb => h.block b hb

/-- the pure machine's account of a region that draws its order. -/
theorem quiet_ok {P : Program} {N : Nat} {ops : Array Oper} {B : Nat} {w0 : World} {m : Mp} {h : VH} {w : World} {D : List Deferred} (S : Sim B w0 m h w) : ∀ (os : List Oper) (gs : List GI), GCs P N ops os gs → ∀ (s : Slots) (K : Slots → Prop) (a : Act) (Q : Act → Prop),
    pwQ P gs s h K → SR N m s a.tmps → a.defers = D → (∀ s' (a' : Act), K s' → SR N m s' a'.tmps → a'.defers = D → Q a') → wpQuiet P ops (fun w1 => Below w.heap.size w w1) Q os a
  | [], [], _, s, K, a, Q, hp, hs, hd, hQ => hQ s a hp hs hd
  | [], g :: gs, hc, _, _, _, _, _, _, _, _ => hc.elim
  | o :: os, [], hc, _, _, _, _, _, _, _, _ => hc.elim
  | o :: os, g :: gs, hc, s, K, a, Q, hp, hs, hd, hQ => by
    obtain ⟨hg, hgs⟩ := hc
    unfold wpQuiet
    rw [wanted_eq hg hs]
    simp only [pwQ] at hp
    have hdst := hg.dst
    have next : ∀ (v v' : Value), VR m v v' → pwQ P gs (Pm.putS s g.dst v) h K → wpQuiet P ops (fun w1 => Below w.heap.size w w1) Q os (a.put o.dst v') := by
      intro v v' hv hK
      refine quiet_ok S os gs hgs _ K _ Q hK ?_ (by rw [put_defers]; exact hd) hQ
      rw [← hdst]
      exact hs.putS hv
    split at hp
    · rename_i hw
      rw [if_pos hw]
      have hm := hg.meaning
      split at hp
      · rename_i f args hi
        rw [hi] at hm
        obtain ⟨xs, ts, hop, hxs, hf⟩ := hm
        obtain ⟨v, hcl, hcall, hK⟩ := hp
        refine ⟨v, fun w1 hw1 => ?_, next v v (VR.closed m hcl) hK⟩
        have hrun : (execOp a.eval o).run P w1 = .ok (.enter f (xs.map a.eval)) w1 := by
          simp [execOp, hop, resolve, Act.eval, Deferred.ofValue, invoke, callOK hf]
        unfold Oper.quietAt
        rw [hrun]
        refine ⟨rfl, (hcall _ _ _ w1 _ (S.ro hw1) (by have := compRefs_ok hxs hs; exact ⟨by simpa using this.1, fun j x y hx hy => (this.2 j x y hx (by simpa using hy)).setFx []⟩)).mono ?_⟩
        rintro e w2 ⟨m', u, v', h', rfl, rfl, hle, S', hvr⟩
        rw [hvr.closed_inv hcl]
        exact ⟨rfl, hw1.trans (S'.below.mono hw1.size)⟩
      · rename_i i hn1
        split at hp
        · rename_i hri
          have hm' : ReadOK P N o g.i := by
            split at hm
            · rename_i f args hi; exact absurd hi (hn1 f args)
            · rename_i fr args hi; rw [hi] at hri; cases hri
            · rename_i x hi; rw [hi] at hri; cases hri
            · rw [if_pos hri] at hm; exact hm
          split at hp
          · rename_i v h' he
            obtain ⟨rfl, v', hv, hr⟩ := hm' B w0 m h w s a v h' S hs he
            refine ⟨v', fun w1 hw1 => ?_, next v v' hv hp⟩
            unfold Oper.quietAt
            rw [hr w1 (same_of_below hw1)]
            exact ⟨rfl, rfl⟩
          · exact hp.elim
        · exact hp.elim
    · rename_i hw
      rw [if_neg hw]
      exact next undef undef (VR.undef m) hp

end Go.Proofs.Ytdnkpgbggpbgaaa.Pm
