/- The pure machine, part L: the reckoning that puts the model's code into the pure machine's. -/
import Derived.Test.YtdnkpgbggpbgaaaPmK
import Derived.Test.YtdnkpgbggpbgaaaPmN
import Derived.Test.YtdnkpgbggpbgaaaPmU
set_option linter.unusedVariables false
set_option linter.unusedSimpArgs false
namespace Go.Proofs.Ytdnkpgbggpbgaaa.Pm
open Go.RowKit

def isConstO : Operand → Bool
  | .const _ => true
  | _ => false
def isU8 (P : Program) (e : TypeId) : Bool :=
  match P.underlying e with
  | some (.int .u8) => true
  | _ => false
def partN (P : Program) (t : TypeId) : Option (Option Nat) :=
  (P.underlying t).bind fun d => (P.info? t).map fun i => if isAggD d = true then some i.size else none
def compParts (P : Program) (N : Nat) (place : Nat → Option (Nat × Nat)) (ps : List (Nat × Operand)) : Option (List (Nat × Nat × Ref)) :=
  ps.mapM fun p => (place p.1).bind fun q => (compRef N p.2).map fun r => (q.1, q.2, r)

def compBin (P : Program) (N : Nat) (op : BinOp) (t : TypeId) (x y : Operand) : Option I :=
  (compRef N x).bind fun rx => (compRef N y).bind fun ry =>
    match P.underlying t with
    | some (.int _) | some .string => some (.bin op rx ry)
    | some .bool => match op with
      | .eql => some (.binB false rx ry)
      | .neq => some (.binB true rx ry)
      | _ => none
    | some d => match nkOf d with
      | some .ifc => if isConstO x || isConstO y then match op with
          | .eql => some (.eqNil .ifc false rx ry)
          | .neq => some (.eqNil .ifc true rx ry)
          | _ => none else none
      | some k => match op with
          | .eql => some (.eqNil k false rx ry)
          | .neq => some (.eqNil k true rx ry)
          | _ => none
      | none => if isAggD d = true ∧ P.eqGuardType P.depth t = false then (flatK P 40 t).bind fun ks => match op with
          | .eql => some (.eqV false ks rx ry)
          | .neq => some (.eqV true ks rx ry)
          | _ => none
        else none
    | none => none
def compConv (P : Program) (N : Nat) (src dst : TypeId) (x : Operand) : Option I :=
  (compRef N x).bind fun rx =>
    match P.underlying src, P.underlying dst with
    | some (.int _), some (.int k) => some (.convI k rx)
    | some .string, some .string => some (.convS rx)
    | some .string, some (.slice e) => if isU8 P e then some (.toBytes rx) else none
    | some (.slice e), some .string => if isU8 P e then some (.ofBytes rx) else none
    | some (.slice e), some (.slice _) => if src = dst ∧ isU8 P e = true then some (.sameB rx) else none
    | _, _ => none
def compBuild (P : Program) (N : Nat) (t : TypeId) (parts : Array (Nat × Operand)) : Option I :=
  (P.info? t).bind fun it => it.zero.bind fun z =>
    if (cellsL z).all closedV then
      match P.underlying t with
      | some (.struct fs) => if fs.toList.all (fun f => (P.info? f.type).isSome) then (compParts P N (placesS P fs) parts.toList).map (.build (cellsL z)) else none
      | some (.array _ e) => (P.info? e).bind fun ie => (compParts P N (fun i => some (i * ie.size, ie.size)) parts.toList).map (.build (cellsL z))
      | _ => none
    else none
/-- a row of one text is kept apart (nobody marks it): it tells 0 cells an element. -/
def rowE (P : Program) (e : TypeId) (len sz : Nat) : Nat :=
  match P.underlying e, len with
  | some .string, 1 => 0
  | _, _ => sz
theorem rowE_le (P : Program) (e : TypeId) (len sz : Nat) : rowE P e len sz ≤ sz := by
  unfold rowE
  split
  · exact Nat.zero_le _
  · exact Nat.le_refl _
def compRow (P : Program) (N : Nat) (t : TypeId) (len : Nat) (parts : Array (Nat × Operand)) : Option I :=
  match P.underlying t with
  | some (.slice e) => (P.info? e).bind fun ie => ie.zero.bind fun z =>
      if (zeroRow z.cells (len * ie.size)).all closedV = true ∧ 0 < ie.size ∧ len * ie.size ≤ 16777216 then
        (compParts P N (fun i => some (i * ie.size, ie.size)) parts.toList).map (.row (rowE P e len ie.size) len (zeroRow z.cells (len * ie.size)))
      else none
  | _ => none
def compAppend (P : Program) (N : Nat) (ts : Array TypeId) (x y : Operand) : Option I :=
  match ts.toList with
  | [t, t'] =>
    match P.underlying t with
    | some (.slice e) => (P.info? e).bind fun ie => ie.zero.bind fun z => (compRef N x).bind fun rx => (compRef N y).bind fun ry =>
      if z.cells.size = ie.size ∧ 0 < ie.bytes then
        match P.underlying t' with
        | some (.slice _) => some (.append ie.size ie.bytes (cellsL z) rx ry)
        | some .string => if ie.size = 1 ∧ ie.bytes = 1 then some (.appendStr rx ry) else none
        | some (.int _) => if (cellsL z).all closedV = true ∧ (cellsL z).all Value.oneCell' = true ∧ 0 < ie.size then some (.appendZ ie.size ie.bytes (cellsL z) rx ry) else none
        | _ => none
      else none
    | _ => none
  | _ => none
def compLen (P : Program) (N : Nat) (ts : Array TypeId) (x : Operand) : Option I :=
  ts[0]?.bind fun t =>
    match P.underlying t with
    | some .string => (compRef N x).map .lenStr
    | some (.slice _) => (compRef N x).map .lenS
    | some (.array n _) => some (.lenC n)
    | some (.map _ _) => (compRef N x).map .lenM
    | _ => none
/-- a map's keys, and the zero value of its elements. -/
def compMapT (P : Program) (t : TypeId) : Option (LK × Value) :=
  match P.underlying t with
  | some (.map kt et) => (P.underlying kt).bind fun d => (kdOf d).bind fun kd => (P.info? et).bind fun ie => ie.zero.bind fun z => if closedD z = true then some (kd, z) else none
  | _ => none
def compMake (P : Program) (N : Nat) (t : TypeId) (x y : Operand) : Option I :=
  match P.underlying t with
  | some (.slice e) => (P.info? e).bind fun ie => ie.zero.bind fun z => (compRef N x).bind fun rx => (compRef N y).bind fun ry =>
      if (cellsL z).all closedV = true ∧ (cellsL z).all Value.oneCell' = true ∧ z.cells.size = ie.size ∧ 0 < ie.size ∧ 0 < ie.bytes then some (.makeSl ie.size ie.bytes (cellsL z) rx ry) else none
  | _ => none
def compCopy (P : Program) (N : Nat) (ts : Array TypeId) (x y : Operand) : Option I :=
  match ts.toList with
  | [t, t'] =>
    match P.underlying t with
    | some (.slice e) => (P.info? e).bind fun ie => (compRef N x).bind fun rx => (compRef N y).map fun ry => .copyV ie.size rx ry
    | _ => none
  | _ => none
def compDel (P : Program) (N : Nat) (ts : Array TypeId) (x k : Operand) : Option I :=
  ts[0]?.bind fun t => (compMapT P t).bind fun q => (compRef N x).bind fun rx => (compRef N k).map fun rk => .mapDel q.1 rx rk
def compAsrt (P : Program) (N : Nat) (x : Operand) (t : TypeId) (ok : Bool) : Option I :=
  match P.underlying t with
  | some (.interface _) => none
  | some _ => (P.info? t).bind fun ie => ie.zero.bind fun z => if closedD z = true then (compRef N x).map (.asrt t ok z) else none
  | none => none

def compI (P : Program) (N : Nat) (op : Op) : Option I :=
  match op with
  | .move x | .assign x => (compRef N x).map .mov
  | .pick c a b => (compRef N c).bind fun rc => (compRef N a).bind fun ra => (compRef N b).map fun rb => .pick rc ra rb
  | .nilCheck x => (compRef N x).map .nilck
  | .binOp op t x y _ => compBin P N op t x y
  | .unOp op _ x => (compRef N x).map (.un op)
  | .convert src dst x => compConv P N src dst x
  | .alloc t => (P.info? t).bind fun it => it.zero.bind fun z => if (cellsL z).all closedV && (cellsL z).all Value.oneCell' then some (.alloc (cellsL z)) else none
  | .build t parts => compBuild P N t parts
  | .buildSlice t len parts => compRow P N t len parts
  | .box _ x => (compRef N x).map .box
  | .load t a => (partN P t).bind fun n => (compRef N a).map (.load n)
  | .store t a x => (P.info? t).bind fun it => (compRef N a).bind fun ra => (compRef N x).map fun rx => .store it.size ra rx
  | .fieldAddr t x k =>
    match P.underlying t with
    | some (.struct fs) => (fs[k]?).bind fun f => (P.info? f.type).bind fun i => if i.size = 0 then none else (compRef N x).map (.fieldAddr f.offset)
    | _ => none
  | .field t x k =>
    match P.underlying t with
    | some (.struct fs) => (fs[k]?).bind fun f => (partN P f.type).bind fun n => (compRef N x).map (.field f.offset n)
    | _ => none
  | .indexAddr t x i =>
    match P.underlying t with
    | some (.slice e) => (P.info? e).bind fun ie => (compRef N x).bind fun rx => (compRef N i).map fun ri => .idxS ie.size rx ri
    | some (.array len e) => (P.info? e).bind fun ie => (compRef N x).bind fun rx => (compRef N i).map fun ri => .idxA len ie.size rx ri
    | _ => none
  | .index t x i =>
    match P.underlying t with
    | some .string => (compRef N x).bind fun rx => (compRef N i).map fun ri => .idxStr rx ri
    | some (.array len e) => (P.info? e).bind fun ie => (partN P e).bind fun n => (compRef N x).bind fun rx => (compRef N i).map fun ri => .idxV len ie.size n rx ri
    | _ => none
  | .slice t x lo hi mx =>
    match P.underlying t with
    | some (.slice e) => (P.info? e).bind fun ie => (compRef N x).bind fun rx => (compRefO N lo).bind fun rl => (compRefO N hi).bind fun rh => (compRefO N mx).bind fun rm =>
        if mx.isSome && !hi.isSome then none else some (.slS ie.size rx rl rh rm)
    | some .string => if mx.isSome then none else (compRef N x).bind fun rx => (compRefO N lo).bind fun rl => (compRefO N hi).map fun rh => .slStr rx rl rh
    | some (.array len e) => if mx.isSome then none else (P.info? e).bind fun ie => (compRef N x).bind fun rx => (compRefO N lo).bind fun rl => (compRefO N hi).map fun rh => .slA len ie.size rx rl rh
    | _ => none
  | .extract x k => (compRef N x).map (.extract · k)
  | .makeMap _ none => some .makeMap
  | .lookup t x k ok => (compMapT P t).bind fun q => (compRef N x).bind fun rx => (compRef N k).map fun rk => .lookup q.1 ok q.2 rx rk
  | .mapUpdate t x k v => (compMapT P t).bind fun q => (compRef N x).bind fun rx => (compRef N k).bind fun rk => (compRef N v).map fun rv => .mapSet q.1 rx rk rv
  | .mapEntry t x k => (compMapT P t).bind fun q => (compRef N x).bind fun rx => (compRef N k).map fun rk => .mapEntry q.1 q.2 rx rk
  | .entryStore _ x st v => (compRef N x).bind fun rx => (compRef N st).bind fun rs => (compRef N v).map fun rv => .entrySet rx rs rv
  | .range t x =>
    match P.underlying t with
    | some .string => (compRef N x).map .rangeS
    | some (.map _ _) => (compRef N x).map .rangeM
    | _ => none
  | .next x true => (compRef N x).map .nextS
  | .next x false => (compRef N x).map .nextM
  | .entry x => (compRef N x).map .entryM
  | .makeSlice t x y => compMake P N t x y
  | .typeAssert x _ t ok => compAsrt P N x t ok
  | .makeFunc fn xs ys => if isYld fn = true then none else (compRefs N xs.toList).bind fun rs => (compRefs N ys.toList).map fun us => .mkFunc fn rs us
  | .makeInterface t x =>
    match P.underlying t with
    | some (.interface _) => none
    | some _ => (compRef N x).map (.mkIface t)
    | none => none
  | .call c =>
    match c.callee, c.args.toList with
    | .builtin .len, [x] => compLen P N c.argTypes x
    | .builtin .min, [x, y] => (compRef N x).bind fun rx => (compRef N y).map fun ry => .minmax false rx ry
    | .builtin .max, [x, y] => (compRef N x).bind fun rx => (compRef N y).map fun ry => .minmax true rx ry
    | .builtin .append, [x, y] => compAppend P N c.argTypes x y
    | .builtin .delete, [x, y] => compDel P N c.argTypes x y
    | .builtin .copy, [x, y] => compCopy P N c.argTypes x y
    | .value (.func f), xs => if isFn P f then (compRefs N xs).map (.call f) else none
    | .value x, xs => (compRef N x).bind fun rx => (compRefs N xs).map (.callv rx)
    | _, _ => none
  | _ => none

def dstLt (N : Nat) : Option Nat → Bool
  | some d => decide (d < N)
  | none => true
def compGI (P : Program) (N : Nat) (ops : Array Oper) (o : Oper) : Option GI :=
  if dstLt N o.dst = true then
    (compI P N o.op).bind fun i =>
      match o.guard with
      | none => some ⟨o.dst, none, i⟩
      | some (j, b) => (ops[j]?).bind fun oj => oj.dst.bind fun t => if t < N then some ⟨o.dst, some (t, b), i⟩ else none
  else none
def compOps (P : Program) (N : Nat) (ops : Array Oper) (os : List Oper) : Option (List GI) := os.mapM (compGI P N ops)

/-- a plan of a region that draws its order: reads as soon as they are ready; what turns the heap one by one. -/
def mkPlan (ops : Array Oper) (gs : List GI) : Nat → List Nat → List Nat → Option (List PI)
  | 0, _, _ => some []
  | f + 1, X, R =>
    let rd := (List.range ops.size).filter fun j => !X.contains j && rdyB ops X j
    match rd.find? (fun j => atB gs readI j && selfB ops gs j && R.all (sepB ops gs · j)) with
    | some j => (mkPlan ops gs f (j :: X) (j :: R)).map (⟨j, false, []⟩ :: ·)
    | none =>
      match rd with
      | [e] =>
        let an := ancs ops e
        (mkPlan ops gs f (e :: X) R).map (⟨e, true, R.filter fun x => !atB gs pureI x && !an.contains x⟩ :: ·)
      | _ => none
def compDraw (ops : Array Oper) (gs : List GI) : Option (List DI) :=
  if Region.noSelect ops && downB ops then
    (mkPlan ops gs ops.size [] []).bind fun ps => if planOK ops gs ps [] [] && ps.length == ops.size then ps.mapM (diOf gs) else none
  else none

/-- where several are ready at once, each of them may come first. -/
def mkPlanT (ops : Array Oper) (gs : List GI) : Nat → List Nat → List Nat → Option PT
  | 0, _, _ => some .nil
  | f + 1, X, R =>
    let rd := (List.range ops.size).filter fun j => !X.contains j && rdyB ops X j
    match rd.find? (fun j => atB gs readI j && selfB ops gs j && R.all (sepB ops gs · j)) with
    | some j => (mkPlanT ops gs f (j :: X) (j :: R)).map (.step ⟨j, false, []⟩)
    | none =>
      (rd.mapM fun e =>
        let an := ancs ops e
        (mkPlanT ops gs f (e :: X) R).map (PT.step ⟨e, true, R.filter fun x => !atB gs pureI x && !an.contains x⟩)).bind fun l =>
      match l with
      | [] => none
      | a :: r => some (r.foldl .alt a)
def compDrawT (ops : Array Oper) (gs : List GI) : Option DT :=
  if Region.noSelect ops && downB ops then
    (mkPlanT ops gs ops.size [] []).bind fun ps => if planT ops gs ps [] [] [] && ps.len == ops.size then dtOf gs ps else none
  else none

/-- a label that is gone to. -/
def gotoP : PC → Option Nat
  | .goto l => some l
  | .seq a b | .cond _ a b => match gotoP a with
    | some l => some l
    | none => gotoP b
  | .block _ b | .loop b => gotoP b
  | .scope b => gotoP b
  | _ => none
def compC (P : Program) (N : Nat) (top : Bool) : Code → Option PC
  | .skip => some .skip
  | .region _ os false => (compOps P N os os.toList).map .ops
  | .region _ os true => if P.follows .mixedOrders = true then (compOps P N os os.toList).bind fun gs =>
      if gs.all (fun g => readI g.i) = true ∧ Region.lexB .any os = true then some (.quiet gs) else match compDraw os gs with
        | some l => some (.draw l)
        | none => (compDrawT os gs).map .drawT else none
  | .seq a b => (compC P N top a).bind fun x => (compC P N top b).map (.seq x)
  | .cond c a b => (compRef N c).bind fun r => (compC P N top a).bind fun x => (compC P N top b).map (.cond r x)
  | .block id b => (compC P N top b).map (.block id)
  | .loop b => (compC P N top b).map .loop
  | .exit id => some (.exit id)
  | .ret => some .ret
  | .scope b => (compC P N top b).bind fun x => match gotoP x with
    | none => some (.scope x)
    | some l => (findPC x l).map (.scopeL x l)
  | .label l => some (.label l)
  | .goto l => some (.goto l)
  | .rangeFunc x ps a b => if top = true ∧ ps.toList.all (fun p => decide (p < N)) = true then
      (compRef N x).bind fun r => (compC P N false a).bind fun pa => (compC P N false b).map (.rangeF r ps.toList pa) else none
  | _ => none

def compRV (P : Program) (N : Nat) : ResultVar → Option RV
  | .tmp t => if t < N then some (.t t) else none
  | .cell a t => if a < N then (partN P t).map (.cell a) else none
def compF (P : Program) (f : FuncId) : Option PF :=
  if isFn P f = false then none else
  (P.funcs[f]?).bind fun fn => fn.body.bind fun c => (compC P fn.ntmps true c).bind fun b => (fn.results.toList.mapM (compRV P fn.ntmps)).map fun rs => ⟨fn.ntmps, b, rs⟩

end Go.Proofs.Ytdnkpgbggpbgaaa.Pm
