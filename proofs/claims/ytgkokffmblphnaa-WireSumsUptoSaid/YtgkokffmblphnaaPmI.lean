/- The pure machine, part I: code; what must be shown of a piece of code ('pw'); and that this is enough. -/
import Derived.Test.YtgkokffmblphnaaPmH
import Derived.Deep.LoopGhost
import Derived.Deep.Quiet
import Derived.Lib.QuietBelow
import Derived.Scope
set_option linter.unusedVariables false
set_option linter.unusedSimpArgs false
namespace Go.Proofs.Ytgkokffmblphnaa.Pm
open Go.RowKit

structure GI where
  dst : Option Nat
  guard : Option (Nat × Bool)
  i : I
inductive PC where
  | skip
  | ops (l : List GI)
  | quiet (l : List GI)
  | seq (a b : PC)
  | cond (c : Ref) (a b : PC)
  | block (id : Nat) (b : PC)
  | loop (b : PC)
  | exit (id : Nat)
  | ret
  | scope (b : PC)
  | label

def isB : Value → Bool → Bool
  | .bool x, b => x == b
  | _, _ => false
def wantedS (s : Slots) : Option (Nat × Bool) → Bool
  | none => true
  | some (t, b) => isB (s t) b
def putS (s : Slots) (d : Option Nat) (v : Value) : Slots :=
  match d with
  | some d => upd s d v
  | none => s

def isFn (P : Program) (f : FuncId) : Bool :=
  match P.funcs[f]? with
  | some fn => fn.body.isSome && !(fn.name == "runtime.NumGoroutine")
  | none => false

/-- a call of f at these values in this heap ends, and R holds of what it hands back and of the heap. -/
def PCalls (P : Program) (f : FuncId) (args : List Value) (h : VH) (R : Value → VH → Prop) : Prop :=
  ∀ (B : Nat) (w0 : World) (m : Mp) (w : World) (args' : Array Value), Sim B w0 m h w → VRL m args args'.toList →
    Calls P f args' w fun e w' => ∃ m' v v' h', e = .returned v' ∧ R v h' ∧ m.le m' ∧ Sim B w0 m' h' w' ∧ VR m' v v'

theorem PCalls.mono {P : Program} {f : FuncId} {args : List Value} {h : VH} {R R' : Value → VH → Prop} (hc : PCalls P f args h R) (hr : ∀ v h', R v h' → R' v h') : PCalls P f args h R' :=
  fun B w0 m w args' S ha => (hc B w0 m w args' S ha).mono fun e w' ⟨m', v, v', h', e1, e2, r⟩ => ⟨m', v, v', h', e1, hr _ _ e2, r⟩

/-- every row read only. -/
def VH.ro (h : VH) : VH := ⟨h.n, fun i => match h.get i with
  | .cells cs _ e => .cells cs false e
  | .map _ => .dead
  | .dead => .dead⟩

def pwOps (P : Program) : List GI → Slots → VH → (Slots → VH → Prop) → Prop
  | [], s, h, K => K s h
  | g :: r, s, h, K =>
    if wantedS s g.guard = true then
      match g.i with
      | .call f args => PCalls P f (args.map (ev s)) h fun v h' => pwOps P r (putS s g.dst v) h' K
      | .callv fr args =>
        match ev s fr with
        | .func (.func f) first cap => isFn P f = true ∧ PCalls P f (first.toList ++ args.map (ev s) ++ cap.toList) h fun v h' => pwOps P r (putS s g.dst v) h' K
        | _ => False
      | i =>
        match pstep i s h with
        | some (v, h') => pwOps P r (putS s g.dst v) h' K
        | none => False
    else pwOps P r (putS s g.dst undef) h K

/-- of a region that draws its order: nothing of the heap turns. -/
def readI : I → Bool
  | .alloc _ | .store _ _ _ | .append _ _ _ _ _ | .appendStr _ _ | .toBytes _ | .box _ | .row _ _ _ _ | .sameB _ | .call _ _ | .callv _ _ => false
  | _ => true
def pwQ (P : Program) : List GI → Slots → VH → (Slots → Prop) → Prop
  | [], s, h, K => K s
  | g :: r, s, h, K =>
    if wantedS s g.guard = true then
      match g.i with
      | .call f args => ∃ v, closedV v = true ∧ PCalls P f (args.map (ev s)) h.ro (fun u _ => u = v) ∧ pwQ P r (putS s g.dst v) h K
      | i => if readI i = true then
          match pstep i s h with
          | some (v, _) => pwQ P r (putS s g.dst v) h K
          | none => False
        else False
    else pwQ P r (putS s g.dst undef) h K

def pw (P : Program) : PC → Slots → VH → (Exit → Slots → VH → Prop) → Prop
  | .skip, s, h, Q => Q .normal s h
  | .ops l, s, h, Q => pwOps P l s h (Q .normal)
  | .quiet l, s, h, Q => pwQ P l s h (fun s' => Q .normal s' h)
  | .seq a b, s, h, Q => pw P a s h fun e s' h' => match e with
    | .normal => pw P b s' h' Q
    | e => Q e s' h'
  | .cond c a b, s, h, Q => match ev s c with
    | .bool t => (t = true → pw P a s h Q) ∧ (t = false → pw P b s h Q)
    | _ => False
  | .block id b, s, h, Q => pw P b s h fun e s' h' => match e with
    | .exit i => if i = id then Q .normal s' h' else Q (.exit i) s' h'
    | e => Q e s' h'
  | .loop b, s, h, Q => ∃ (J : Nat → Slots → VH → Prop) (n : Nat), J n s h ∧ ∀ n s h, J n s h → pw P b s h fun e s' h' => match e with
    | .normal => ∃ k, k < n ∧ J k s' h'
    | e => Q e s' h'
  | .exit id, s, h, Q => Q (.exit id) s h
  | .ret, s, h, Q => Q .ret s h
  | .scope b, s, h, Q => pw P b s h fun e s' h' => match e with
    | .goto _ => False
    | e => Q e s' h'
  | .label, s, h, Q => Q .normal s h

/-! ### which code it stands for -/
structure GC (P : Program) (N : Nat) (ops : Array Oper) (o : Oper) (g : GI) : Prop where
  dst : g.dst = o.dst
  lt : ∀ d, o.dst = some d → d < N
  guard : (o.guard = none ∧ g.guard = none) ∨ ∃ j b t oj, o.guard = some (j, b) ∧ ops[j]? = some oj ∧ oj.dst = some t ∧ t < N ∧ g.guard = some (t, b)
  meaning : (match g.i with
    | .call f args => ∃ (xs : Array Operand) (ts : Array TypeId), o.op = .call { callee := .value (.func f), args := xs, argTypes := ts } ∧ compRefs N xs.toList = some args ∧ isFn P f = true
    | .callv fr args => ∃ (x : Operand) (xs : Array Operand) (ts : Array TypeId), o.op = .call { callee := .value x, args := xs, argTypes := ts } ∧ compRef N x = some fr ∧ compRefs N xs.toList = some args
    | i => if readI i = true then ReadOK P N o i else StepOK P N o i)

def GCs (P : Program) (N : Nat) (ops : Array Oper) : List Oper → List GI → Prop
  | [], [] => True
  | o :: os, g :: gs => GC P N ops o g ∧ GCs P N ops os gs
  | _, _ => False

/-- the code that a piece stands for. -/
inductive Stands (P : Program) (N : Nat) : PC → Code → Prop
  | skip : Stands P N .skip .skip
  | ops (id : Nat) (os : Array Oper) (gs : List GI) (h : GCs P N os os.toList gs) : Stands P N (.ops gs) (.region id os false)
  | quiet (id : Nat) (os : Array Oper) (gs : List GI) (h : GCs P N os os.toList gs) (hm : P.follows .mixedOrders = true) (hB : Region.lexB .any os = true) : Stands P N (.quiet gs) (.region id os true)
  | seq {a b : PC} {c d : Code} (h1 : Stands P N a c) (h2 : Stands P N b d) : Stands P N (.seq a b) (.seq c d)
  | cond {x : Operand} {r : Ref} {a b : PC} {c d : Code} (hx : compRef N x = some r) (h1 : Stands P N a c) (h2 : Stands P N b d) : Stands P N (.cond r a b) (.cond x c d)
  | block (id : Nat) {a : PC} {c : Code} (h : Stands P N a c) : Stands P N (.block id a) (.block id c)
  | loop {a : PC} {c : Code} (h : Stands P N a c) : Stands P N (.loop a) (.loop c)
  | exit (id : Nat) : Stands P N (.exit id) (.exit id)
  | ret : Stands P N .ret .ret
  | scope {a : PC} {c : Code} (h : Stands P N a c) : Stands P N (.scope a) (.scope c)
  | label (l : Nat) : Stands P N .label (.label l)

theorem SR.putS {N : Nat} {m : Mp} {s : Slots} {a : Act} (h : SR N m s a.tmps) {d : Option Nat} {v v' : Value} (hv : VR m v v') : SR N m (putS s d v) (a.put d v').tmps := by
  cases d with
  | none => exact h
  | some d => exact h.put hv

theorem put_defers (a : Act) (d : Option Nat) (v : Value) : (a.put d v).defers = a.defers := by cases d <;> rfl

theorem isB_VR {m : Mp} {v v' : Value} (h : VR m v v') (b : Bool) : isB v' b = isB v b := by cases h <;> rfl

theorem wanted_eq {P : Program} {N : Nat} {ops : Array Oper} {o : Oper} {g : GI} (hg : GC P N ops o g) {m : Mp} {s : Slots} {a : Act} (hs : SR N m s a.tmps) : Region.wanted o (yielded ops a.tmps) = wantedS s g.guard := by
  rcases hg.guard with ⟨h1, h2⟩ | ⟨j, b, t, oj, h1, h2, h3, h4, h5⟩
  · simp [Region.wanted, h1, h2, wantedS]
  · have ht : t < a.tmps.size := by rw [hs.size]; exact h4
    have hr := hs.rel t ht
    simp only [Region.wanted, h1, h5, wantedS, yielded, h2, Option.bind_some, h3, Array.getElem?_eq_getElem ht]
    generalize a.tmps[t] = u at hr
    generalize s t = u' at hr
    cases hr <;> first
      | rfl
      | (rename_i b1; cases b1 <;> cases b <;> rfl)

theorem callOK {P : Program} {f : FuncId} (hf : isFn P f = true) (args : Array Value) (w : World) : (callFunc f args).run P w = .ok (.enter f args) w := by
  unfold isFn at hf
  split at hf
  · rename_i fn hfn
    simp only [Bool.and_eq_true, Bool.not_eq_true'] at hf
    obtain ⟨h1, h2⟩ := hf
    have h3 : ¬ fn.body = none := by cases hb : fn.body <;> simp_all
    have h2' : ¬ fn.name = "runtime.NumGoroutine" := by simpa using h2
    simp [callFunc, hfn, h2', h3]
  · cases hf


/-- what holds behind a piece of code. -/
def Post (B : Nat) (w0 : World) (N : Nat) (m : Mp) (Q : Exit → Slots → VH → Prop) : Exit → Act → World → Prop :=
  fun e a w => ∃ m' s h, Q e s h ∧ m.le m' ∧ Sim B w0 m' h w ∧ SR N m' s a.tmps ∧ a.defers = []

theorem VRL.append {m : Mp} {xs ys us vs : List Value} (h : VRL m xs ys) (k : VRL m us vs) : VRL m (xs ++ us) (ys ++ vs) := by
  refine ⟨by simp [h.1, k.1], fun j x y hx hy => ?_⟩
  rw [List.getElem?_append] at hx hy
  rw [← h.1] at hy
  split at hx
  · rename_i hj
    rw [if_pos hj] at hy
    exact h.2 _ _ _ hx hy
  · rename_i hj
    rw [if_neg hj] at hy
    exact k.2 _ _ _ hx hy

theorem func_inv {m : Mp} {f : Fn} {a b : Array Value} {v : Value} (h : VR m (.func f a b) v) : ∃ a' b', v = .func f a' b' ∧ VRL m a.toList a'.toList ∧ VRL m b.toList b'.toList := by
  cases h with
  | func _ _ _ a' b' ha hb h1 h2 =>
    refine ⟨a', b', rfl, ⟨by simpa using ha, fun j x y hx hy => ?_⟩, ⟨by simpa using hb, fun j x y hx hy => ?_⟩⟩
    · simp only [Array.getElem?_toList] at hx hy
      obtain ⟨hx1, rfl⟩ := Array.getElem?_eq_some_iff.1 hx
      obtain ⟨hy1, rfl⟩ := Array.getElem?_eq_some_iff.1 hy
      exact h1 j hx1 hy1
    · simp only [Array.getElem?_toList] at hx hy
      obtain ⟨hx1, rfl⟩ := Array.getElem?_eq_some_iff.1 hx
      obtain ⟨hy1, rfl⟩ := Array.getElem?_eq_some_iff.1 hy
      exact h2 j hx1 hy1

theorem ops_ok {P : Program} {N : Nat} {ops : Array Oper} {Q : Exit → Act → World → Prop} {B : Nat} {w0 : World} : ∀ (os : List Oper) (gs : List GI), GCs P N ops os gs → ∀ (s : Slots) (h : VH) (K : Slots → VH → Prop) (m : Mp) (a : Act) (w : World),
    pwOps P gs s h K → Sim B w0 m h w → SR N m s a.tmps → a.defers = [] →
    (∀ m' s' h' (a' : Act) w', K s' h' → m.le m' → Sim B w0 m' h' w' → SR N m' s' a'.tmps → a'.defers = [] → Q .normal a' w') → wpList P ops Q os a w
  | [], [], _, s, h, K, m, a, w, hp, S, hs, hd, hQ => hQ m s h a w hp m.le_refl S hs hd
  | [], g :: gs, hc, _, _, _, _, _, _, _, _, _, _, _ => hc.elim
  | o :: os, [], hc, _, _, _, _, _, _, _, _, _, _, _ => hc.elim
  | o :: os, g :: gs, hc, s, h, K, m, a, w, hp, S, hs, hd, hQ => by
    obtain ⟨hg, hgs⟩ := hc
    unfold wpList
    rw [wanted_eq hg hs]
    simp only [pwOps] at hp
    have hdst := hg.dst
    have next : ∀ (m1 : Mp) (s1 : Slots) (h1 : VH) (a1 : Act) (w1 : World), m.le m1 → pwOps P gs s1 h1 K → Sim B w0 m1 h1 w1 → SR N m1 s1 a1.tmps → a1.defers = [] → wpList P ops Q os a1 w1 :=
      fun m1 s1 h1 a1 w1 hle hp1 S1 hs1 hd1 => ops_ok os gs hgs s1 h1 K m1 a1 w1 hp1 S1 hs1 hd1 (fun m' s' h' a' w' k1 k2 k3 k4 k5 => hQ m' s' h' a' w' k1 (Mp.le_trans hle k2) k3 k4 k5)
    split at hp
    · rename_i hw
      rw [if_pos hw]
      left
      have hm := hg.meaning
      have call : ∀ (f : FuncId) (vs : List Value) (vs' : Array Value), VRL m vs vs'.toList → (execOp a.eval o).run P w = .ok (.enter f vs') w → PCalls P f vs h (fun v h' => pwOps P gs (Pm.putS s g.dst v) h' K) → o.wp P a w (wpList P ops Q os) Q := by
        intro f vs vs' hv hr hcall
        unfold Oper.wp
        rw [hr, Oper.upon_enter]
        refine (hcall B w0 m w vs' S hv).mono ?_
        rintro e w' ⟨m', v, v', h', rfl, hK, hle, S', hvr⟩
        refine next m' _ h' _ w' hle hK S' ?_ (by rw [put_defers]; exact hd)
        rw [← hdst]
        exact (hs.mono hle).putS hvr
      have plain : ∀ i : I, g.i = i → (∃ v h', pstep i s h = some (v, h') ∧ pwOps P gs (Pm.putS s g.dst v) h' K) → StepOK P N o i → o.wp P a w (wpList P ops Q os) Q := by
        intro i hi hx hok
        obtain ⟨v, h', hst, hK⟩ := hx
        obtain ⟨m', nx, v', w', hr, hn, hle, S', hvr⟩ := hok B w0 m h w s a v h' S hs hst
        have fin : wpList P ops Q os (a.put o.dst v') w' := by
          refine next m' _ h' _ w' hle hK S' ?_ (by rw [put_defers]; exact hd)
          rw [← hdst]
          exact (hs.mono hle).putS hvr
        unfold Oper.wp
        rw [hr]
        cases nx <;> simp only [nxv] at hn <;> first
          | (cases hn; done)
          | (injection hn with hn; subst hn; exact fin)
      split at hp
      · rename_i f args hi
        rw [hi] at hm
        obtain ⟨xs, ts, hop, hxs, hf⟩ := hm
        have hrun : (execOp a.eval o).run P w = .ok (.enter f (xs.map a.eval)) w := by
          simp [execOp, hop, resolve, Act.eval, Deferred.ofValue, invoke, callOK hf]
        exact call f _ _ (by simpa using compRefs_ok hxs hs) hrun hp
      · rename_i fr args hi
        rw [hi] at hm
        obtain ⟨x, xs, ts, hop, hx, hxs⟩ := hm
        split at hp
        · rename_i f first cap he
          obtain ⟨hf, hp⟩ := hp
          have hvr := compRef_ok hx hs
          rw [he] at hvr
          obtain ⟨a', b', hav, h1, h2⟩ := func_inv hvr
          have hrun : (execOp a.eval o).run P w = .ok (.enter f (a' ++ xs.map a.eval ++ b')) w := by
            simp [execOp, hop, resolve, hav, Deferred.ofValue, invoke, callOK hf]
          refine call f _ _ ?_ hrun hp
          simp only [Array.toList_append, Array.toList_map]
          exact (h1.append (compRefs_ok hxs hs)).append h2
        · exact hp.elim
      · rename_i i hn1 hn2
        have hst : ∃ v h', pstep g.i s h = some (v, h') ∧ pwOps P gs (Pm.putS s g.dst v) h' K := by
          split at hp
          · rename_i v h' he
            exact ⟨v, h', he, hp⟩
          · exact hp.elim
        refine plain g.i rfl hst ?_
        have hm' : if readI g.i = true then ReadOK P N o g.i else StepOK P N o g.i := by
          split at hm
          · rename_i f args hi; exact absurd hi (hn1 f args)
          · rename_i fr args hi; exact absurd hi (hn2 fr args)
          · exact hm
        split at hm'
        · exact hm'.step
        · exact hm'
    · rename_i hw
      rw [if_neg hw]
      refine next m _ h _ w m.le_refl hp S ?_ (by rw [put_defers]; exact hd)
      rw [← hdst]
      exact hs.putS (VR.undef m)


theorem Sim.ro {B : Nat} {w0 : World} {m : Mp} {h : VH} {w w1 : World} (S : Sim B w0 m h w) (hb : Below w.heap.size w w1) : Sim w1.heap.size w1 m h.ro w1 := by
  have hget : ∀ i, (h.ro.get i).own = false := fun i => by
    simp only [VH.ro]
    split <;> rfl
  have hlive : ∀ i, (h.ro.get i).live = true → (h.get i).live = true := fun i hl => by
    simp only [VH.ro] at hl
    split at hl
    · rename_i cs ow e he
      rw [he]
      have hl : (false || !cs.isEmpty) = true := hl
      show (ow || !cs.isEmpty) = true
      cases ow <;> simp_all
    · cases hl
    · cases hl
  refine ⟨S.n, Below.refl _ _, Nat.le_refl _, fun i hi => ?_, fun i j hi hj hne ho hl => ?_, fun i hi ho => ?_⟩
  · have hob := S.obj i hi
    have hsz := hb.size
    simp only [VH.ro]
    split
    · rename_i cs own e he
      rw [he] at hob
      have hob2 := hob.congr (w' := w1) (fun hl => hb.block _ (hob.2.2.1 hl)) hsz
      exact ⟨hob2.1, hob2.2.1, fun hl => hob2.2.2.1 (by cases own <;> simp_all), hob2.2.2.2.1, fun h => by cases h⟩
    · trivial
    · trivial
  · rw [hget] at ho; cases ho
  · rw [hget] at ho; cases ho

theorem same_of_below {w w1 : World} (h : Below w.heap.size w w1) : Same w w1 := fun b hb => h.block b hb

/-- the pure machine's account of a region that draws its order. -/
theorem quiet_ok {P : Program} {N : Nat} {ops : Array Oper} {B : Nat} {w0 : World} {m : Mp} {h : VH} {w : World} (S : Sim B w0 m h w) : ∀ (os : List Oper) (gs : List GI), GCs P N ops os gs → ∀ (s : Slots) (K : Slots → Prop) (a : Act) (Q : Act → Prop),
    pwQ P gs s h K → SR N m s a.tmps → a.defers = [] → (∀ s' (a' : Act), K s' → SR N m s' a'.tmps → a'.defers = [] → Q a') → wpQuiet P ops (fun w1 => Below w.heap.size w w1) Q os a
  | [], [], _, s, K, a, Q, hp, hs, hd, hQ => hQ s a hp hs hd
  | [], g :: gs, hc, _, _, _, _, _, _, _, _ => hc.elim
  | o :: os, [], hc, _, _, _, _, _, _, _, _ => hc.elim
  | o :: os, g :: gs, hc, s, K, a, Q, hp, hs, hd, hQ => by
    obtain ⟨hg, hgs⟩ := hc
    unfold wpQuiet
    rw [wanted_eq hg hs]
    simp only [pwQ] at hp
    have hdst := hg.dst
    have next : ∀ (v v' : Value), VR m v v' → pwQ P gs (Pm.putS s g.dst v) h K → wpQuiet P ops (fun w1 => Below w.heap.size w w1) Q os (a.put o.dst v') := by
      intro v v' hv hK
      refine quiet_ok S os gs hgs _ K _ Q hK ?_ (by rw [put_defers]; exact hd) hQ
      rw [← hdst]
      exact hs.putS hv
    split at hp
    · rename_i hw
      rw [if_pos hw]
      have hm := hg.meaning
      split at hp
      · rename_i f args hi
        rw [hi] at hm
        obtain ⟨xs, ts, hop, hxs, hf⟩ := hm
        obtain ⟨v, hcl, hcall, hK⟩ := hp
        refine ⟨v, fun w1 hw1 => ?_, next v v (VR.closed m hcl) hK⟩
        have hrun : (execOp a.eval o).run P w1 = .ok (.enter f (xs.map a.eval)) w1 := by
          simp [execOp, hop, resolve, Act.eval, Deferred.ofValue, invoke, callOK hf]
        unfold Oper.quietAt
        rw [hrun]
        refine ⟨rfl, (hcall _ _ m w1 _ (S.ro hw1) (by simpa using compRefs_ok hxs hs)).mono ?_⟩
        rintro e w2 ⟨m', u, v', h', rfl, rfl, hle, S', hvr⟩
        rw [hvr.closed_inv hcl]
        exact ⟨rfl, hw1.trans (S'.below.mono hw1.size)⟩
      · rename_i i hn1
        split at hp
        · rename_i hri
          have hm' : ReadOK P N o g.i := by
            split at hm
            · rename_i f args hi; exact absurd hi (hn1 f args)
            · rename_i fr args hi; rw [hi] at hri; cases hri
            · rw [if_pos hri] at hm; exact hm
          split at hp
          · rename_i v h' he
            obtain ⟨rfl, v', hv, hr⟩ := hm' B w0 m h w s a v h' S hs he
            refine ⟨v', fun w1 hw1 => ?_, next v v' hv hp⟩
            unfold Oper.quietAt
            rw [hr w1 (same_of_below hw1)]
            exact ⟨rfl, rfl⟩
          · exact hp.elim
        · exact hp.elim
    · rename_i hw
      rw [if_neg hw]
      exact next undef undef (VR.undef m) hp

end Go.Proofs.Ytgkokffmblphnaa.Pm
