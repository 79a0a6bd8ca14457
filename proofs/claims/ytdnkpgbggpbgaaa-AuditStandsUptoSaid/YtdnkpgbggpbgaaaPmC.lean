/- The pure machine, part C: instructions. -/
import Derived.Test.YtdnkpgbggpbgaaaPmB
import Derived.Laws.BytesArg
set_option linter.unusedVariables false
set_option linter.unusedSimpArgs false
namespace Go.Proofs.Ytdnkpgbggpbgaaa.Pm
open Go.RowKit

/-- of what kind a cell is. -/
inductive LK where
  | b
  | i (k : IntKind)
  | s
def fitK : LK → Value → Bool
  | .b, .bool _ => true
  | .i k, .int l _ => decide (k = l)
  | .s, .string _ => true
  | _, _ => false
def fitsK : List LK → List Value → Bool
  | [], [] => true
  | k :: ks, v :: vs => fitK k v && fitsK ks vs
  | _, _ => false
def cellB : Value → Value → Bool
  | .bool a, .bool b => a == b
  | .int _ a, .int _ b => a == b
  | .string a, .string b => a.toList == b.toList
  | _, _ => false
def cellsB : List Value → List Value → Bool
  | [], [] => true
  | x :: xs, y :: ys => cellB x y && cellsB xs ys
  | _, _ => false
inductive I where
  | mov (x : Ref)
  | pick (c a b : Ref)
  | nilck (x : Ref)
  | bin (op : BinOp) (x y : Ref)
  | binB (neg : Bool) (x y : Ref)
  | eqNil (k : NK) (neg : Bool) (x y : Ref)
  | un (op : UnOp) (x : Ref)
  | convI (k : IntKind) (x : Ref)
  | convS (x : Ref)
  | alloc (z : List Value)
  | build (z : List Value) (parts : List (Nat × Nat × Ref))
  | load (n : Option Nat) (a : Ref)
  | store (n : Nat) (a x : Ref)
  | fieldAddr (off : Nat) (x : Ref)
  | field (off : Nat) (n : Option Nat) (x : Ref)
  | idxS (esz : Nat) (x i : Ref)
  | idxA (len esz : Nat) (x i : Ref)
  | idxV (len esz : Nat) (n : Option Nat) (x i : Ref)
  | idxStr (x i : Ref)
  | lenStr (x : Ref)
  | lenS (x : Ref)
  | lenC (n : Nat)
  | slS (esz : Nat) (x : Ref) (lo hi mx : Option Ref)
  | slA (len esz : Nat) (x : Ref) (lo hi : Option Ref)
  | slStr (x : Ref) (lo hi : Option Ref)
  | extract (x : Ref) (i : Nat)
  | mkFunc (fn : Fn) (first captured : List Ref)
  | mkIface (t : TypeId) (x : Ref)
  | append (esz bytes : Nat) (z : List Value) (x y : Ref)
  | appendStr (x y : Ref)
  | appendZ (esz bytes : Nat) (z : List Value) (x n : Ref)
  | toBytes (x : Ref)
  | ofBytes (x : Ref)
  | box (x : Ref)
  | row (esz len : Nat) (z : List Value) (parts : List (Nat × Nat × Ref))
  | minmax (mx : Bool) (x y : Ref)
  | sameB (x : Ref)
  | makeMap
  | lookup (kd : LK) (ok : Bool) (z : Value) (x k : Ref)
  | mapSet (kd : LK) (x k v : Ref)
  | mapDel (kd : LK) (x k : Ref)
  | lenM (x : Ref)
  | mapEntry (kd : LK) (z : Value) (x k : Ref)
  | entrySet (x st v : Ref)
  | rangeS (x : Ref)
  | nextS (x : Ref)
  | rangeM (x : Ref)
  | nextM (x : Ref)
  | entryM (x : Ref)
  | copyV (esz : Nat) (x y : Ref)
  | makeSl (esz bytes : Nat) (z : List Value) (len cap : Ref)
  | asrt (t : TypeId) (ok : Bool) (z : Value) (x : Ref)
  | eqV (neg : Bool) (ks : List LK) (x y : Ref)
  | call (f : FuncId) (args : List Ref)
  | callv (f : Ref) (args : List Ref)

def cellsL (v : Value) : List Value := v.cells.toList

/-- the cells from o on, written over. -/
def wr (cs : List Value) (o : Nat) (xs : List Value) : List Value := cs.take o ++ xs ++ cs.drop (o + xs.length)

def loadAt (h : VH) (i o : Nat) (n : Option Nat) : Option Value :=
  match h.get i with
  | .cells cs _ _ =>
    match n with
    | none => cs[o]?
    | some n => if o + n ≤ cs.length then some (.agg ((cs.drop o).take n).toArray) else none
  | _ => none

def storeAt (h : VH) (i o n : Nat) (x : Value) : Option VH :=
  match h.get i with
  | .cells cs true esz => if (cellsL x).length = n ∧ o + n ≤ cs.length ∧ (cellsL x).all Value.oneCell' then some (h.set i (.cells (wr cs o (cellsL x)) true esz)) else none
  | _ => none

def partOf (cs : Array Value) (off : Nat) : Option Nat → Option Value
  | none => cs[off]?
  | some n => some (.agg (cs.extract off (off + n)))

def fillC (cells : List Value) : List (Nat × Nat × Value) → Option (List Value)
  | [] => some cells
  | (off, n, v) :: r => if (cellsL v).length = n ∧ off + n ≤ cells.length then fillC (wr cells off (cellsL v)) r else none

def bound (x : Option Value) (lim d : Nat) : Option Nat :=
  match x with
  | none => some d
  | some (.int _ j) => if 0 ≤ j ∧ j ≤ lim then some j.toNat else none
  | some _ => none

def byteOf : Value → Option Int
  | .int .u8 n => some n
  | _ => none

def rowOf (h : VH) (i o n : Nat) : Option (List Value) :=
  match h.get i with
  | .cells cs _ _ => if o + n ≤ cs.length then some ((cs.drop o).take n) else none
  | _ => none

def eszIs (h : VH) (i esz : Nat) : Bool :=
  match h.get i with
  | .cells _ _ e => e == esz
  | _ => false

/-- what is appended: the cells of a slice. -/
def srcCells (h : VH) (esz : Nat) : Value → Option (List Value)
  | .slice none _ _ => some []
  | .slice (some a) n _ => rowOf h a.block a.off (n * esz)
  | _ => none

def bytesV (s : ByteArray) : List Value := s.data.toList.map fun b => .int .u8 b.toNat

/-- append of cells ys (a whole number of elements of esz cells). -/
def appendV (h : VH) (esz bytes : Nat) (x : Value) (ys : List Value) (k : Nat) : Option (Value × VH) :=
  if k = 0 then
    match x with
    | .slice a n c => some (.slice a n c, h)
    | _ => none
  else
  match x with
  | .slice none _ _ => if k * bytes ≤ 140737488355328 then some (.slice (some ⟨h.n, 0, none⟩) k k, h.push (.cells ys true esz)) else none
  | .slice (some ⟨i, o, none⟩) n c =>
    match h.get i with
    | .cells cs true e => if e = esz ∧ o + n * esz = cs.length ∧ (n + k) * bytes ≤ 140737488355328 then
        some (.slice (some ⟨h.n, 0, none⟩) (n + k) (n + k), (h.set i .dead).push (.cells (cs.drop o ++ ys) true esz))
      else if e = esz ∧ n + k ≤ c ∧ o + n * esz + ys.length ≤ cs.length then
        some (.slice (some ⟨i, o, none⟩) (n + k) c, h.set i (.cells (wr cs (o + n * esz) ys) true esz))
      else if e = esz ∧ o + n * esz ≤ cs.length ∧ (n + k) * bytes ≤ 140737488355328 then
        some (.slice (some ⟨h.n, 0, none⟩) (n + k) (n + k), (h.set i .dead).push (.cells ((cs.drop o).take (n * esz) ++ ys) true esz)) else none
    | _ => none
  | _ => none

/-! ### maps -/
def keq : Value → Value → Bool
  | .bool a, .bool b => a == b
  | .int _ a, .int _ b => a == b
  | .string a, .string b => decide (a.data.toList = b.data.toList)
  | _, _ => false
def mget (k : Value) : List (Value × Value × Nat) → Option Value
  | [] => none
  | e :: r => if keq k e.1 = true then some e.2.1 else mget k r
def mhas (k : Value) : List (Value × Value × Nat) → Bool
  | [] => false
  | e :: r => if keq k e.1 = true then true else mhas k r
def mput (k v : Value) (c : Nat) : List (Value × Value × Nat) → List (Value × Value × Nat)
  | [] => [(k, v, c)]
  | e :: r => if keq k e.1 = true then (k, v, e.2.2) :: r else e :: mput k v c r
def mdel (k : Value) : List (Value × Value × Nat) → List (Value × Value × Nat)
  | [] => []
  | e :: r => if keq k e.1 = true then r else e :: mdel k r
/-- of an entry that is asked for to be written: its value, its stamp, the entries (a new one with z). -/
def ment (k z : Value) (c : Nat) : List (Value × Value × Nat) → Value × Nat × List (Value × Value × Nat)
  | [] => (z, c, [(k, z, c)])
  | e :: r => if keq k e.1 = true then (e.2.1, e.2.2, (k, e.2.1, e.2.2) :: r) else (fun q => (q.1, q.2.1, e :: q.2.2)) (ment k z c r)
def mstamp (n : Int) (v : Value) : List (Value × Value × Nat) → Option (List (Value × Value × Nat))
  | [] => none
  | e :: r => if ((e.2.2 : Int) == n) = true then some ((e.1, v, e.2.2) :: r) else (mstamp n v r).map (e :: ·)
def mborn (st : Nat) : List (Value × Value × Nat) → Option (Value × Value)
  | [] => none
  | e :: r => if (e.2.2 == st) = true then some (e.1, e.2.1) else mborn st r
def keysFit (kd : LK) (es : List (Value × Value × Nat)) : Bool := es.all fun e => fitK kd e.1
def mtick (k : Value) (c : Nat) (es : List (Value × Value × Nat)) : Nat := if mhas k es = true then c else c + 1
def mval (ok : Bool) (z : Value) : Option Value → Value
  | some v => if ok then .tuple #[v, .bool true] else v
  | none => if ok then .tuple #[z, .bool false] else z

/-- the entries that a range over a map may come to next. -/
def miterL (es : List (Value × Value × Nat)) (since : Nat) (seen : List Nat) : Bool × List (Value × Value × Nat) :=
  let left := es.filter fun e => !seen.contains e.2.2
  ((left.filter fun e => decide (e.2.2 < since)).isEmpty, (left.filter fun e => decide (e.2.2 < since)) ++ left.filter fun e => decide (since ≤ e.2.2))
/-- what 'next' may answer at a range over a map. -/
def pnextM (x : Value) (h : VH) : Option (List (Value × VH)) :=
  match x with
  | .pointer (some ⟨i, 0, none⟩) =>
    match h.get i with
    | .miter none _ _ _ => some [(.tuple #[.bool false], h)]
    | .miter (some j) since seen last =>
      match h.get j with
      | .map es clock _ =>
        if (!seen.isEmpty && !es.isEmpty && es.all (fun e => decide (last ≤ e.2.2))) = true then none else
        some ((if (miterL es since seen).1 = true then [(.tuple #[.bool false], h)] else []) ++
          (miterL es since seen).2.map fun e => (.tuple #[.bool true, e.1, e.2.1], h.set i (.miter (some j) since (seen ++ [e.2.2]) clock)))
      | _ => none
    | _ => none
  | _ => none

def madeRow : List Value → Nat → List Value
  | [x], n => List.replicate n x
  | z, n => (List.range n).map fun i => z.getD (i % z.length) undef

def pstep (i : I) (s : Slots) (h : VH) : Option (Value × VH) :=
  match i with
  | .mov x => some (ev s x, h)
  | .pick c a b =>
    match ev s c with
    | .bool t => some (if t then ev s a else ev s b, h)
    | _ => none
  | .nilck x =>
    match ev s x with
    | .pointer (some a) => some (.pointer (some a), h)
    | .func (.func f) a b => some (.func (.func f) a b, h)
    | _ => none
  | .bin op x y => (pbin op (ev s x) (ev s y)).map (·, h)
  | .binB neg x y =>
    match ev s x, ev s y with
    | .bool a, .bool b => some (.bool ((a == b) != neg), h)
    | _, _ => none
  | .eqNil k neg x y =>
    match isNilV k (ev s x), isNilV k (ev s y) with
    | some a, some b => if a = true ∨ b = true then some (.bool ((a == b) != neg), h) else none
    | _, _ => none
  | .un op x => (pun op (ev s x)).map (·, h)
  | .convI k x =>
    match ev s x with
    | .int _ n => some (.int k (k.wrap n), h)
    | _ => none
  | .convS x =>
    match ev s x with
    | .string b => some (.string b, h)
    | _ => none
  | .alloc z => some (.pointer (some ⟨h.n, 0, none⟩), h.push (.cells z true 1))
  | .build z parts => (fillC z (parts.map fun (o, n, r) => (o, n, ev s r))).map fun cs => (.agg cs.toArray, h)
  | .load n a =>
    match ev s a with
    | .pointer (some ⟨i, o, none⟩) => (loadAt h i o n).map (·, h)
    | _ => none
  | .store n a x =>
    match ev s a with
    | .pointer (some ⟨i, o, none⟩) => (storeAt h i o n (ev s x)).map fun h' => (undef, h')
    | _ => none
  | .fieldAddr off x =>
    match ev s x with
    | .pointer (some ⟨i, o, none⟩) => some (.pointer (some ⟨i, o + off, none⟩), h)
    | _ => none
  | .field off n x =>
    match ev s x with
    | .agg cs => (partOf cs off n).map (·, h)
    | _ => none
  | .idxS esz x j =>
    match ev s x, ev s j with
    | .slice (some ⟨i, o, none⟩) n _, .int _ j => if 0 ≤ j ∧ j < n then some (.pointer (some ⟨i, o + j.toNat * esz, none⟩), h) else none
    | _, _ => none
  | .idxA len esz x j =>
    match ev s x, ev s j with
    | .pointer (some ⟨i, o, none⟩), .int _ j => if 0 ≤ j ∧ j < len then some (.pointer (some ⟨i, o + j.toNat * esz, none⟩), h) else none
    | _, _ => none
  | .idxV len esz n x j =>
    match ev s x, ev s j with
    | .agg cs, .int _ j => if 0 ≤ j ∧ j < len then (partOf cs (j.toNat * esz) n).map (·, h) else none
    | _, _ => none
  | .idxStr x j =>
    match ev s x, ev s j with
    | .string b, .int _ j => if hj : 0 ≤ j ∧ j.toNat < b.size then some (.int .u8 (b[j.toNat]'hj.2).toNat, h) else none
    | _, _ => none
  | .lenStr x =>
    match ev s x with
    | .string b => some (.int .i64 b.size, h)
    | _ => none
  | .lenS x =>
    match ev s x with
    | .slice _ n _ => some (.int .i64 n, h)
    | _ => none
  | .lenC n => some (.int .i64 n, h)
  | .slS esz x lo hi mx =>
    match ev s x with
    | .slice none _ _ =>
      match bound (mx.map (ev s)) 0 0, bound (hi.map (ev s)) 0 0, bound (lo.map (ev s)) 0 0 with
      | some _, some _, some _ => some (.slice none 0 0, h)
      | _, _, _ => none
    | .slice (some ⟨i, o, none⟩) n c =>
      if eszIs h i esz = false then none else
      match bound (mx.map (ev s)) c c with
      | some m =>
        match bound (hi.map (ev s)) m n with
        | some hh =>
          match bound (lo.map (ev s)) hh 0 with
          | some l => some (.slice (some ⟨i, o + l * esz, none⟩) (hh - l) (m - l), h)
          | none => none
        | none => none
      | none => none
    | _ => none
  | .slA len esz x lo hi =>
    match ev s x with
    | .pointer (some ⟨i, o, none⟩) =>
      match h.get i with
      | .cells cs _ e =>
        if e = esz ∧ o + len * esz ≤ cs.length ∧ len ≤ 9223372036854775807 then
          match bound (hi.map (ev s)) len len with
          | some hh =>
            match bound (lo.map (ev s)) hh 0 with
            | some l => some (.slice (some ⟨i, o + l * esz, none⟩) (hh - l) (len - l), h)
            | none => none
          | none => none
        else if o + len * esz ≤ cs.length ∧ lo.isNone = true ∧ hi.isNone = true then some (.slice (some ⟨i, o, some 0⟩) len len, h)
        else none
      | _ => none
    | _ => none
  | .slStr x lo hi =>
    match ev s x with
    | .string b =>
      match bound (hi.map (ev s)) b.size b.size with
      | some hh =>
        match bound (lo.map (ev s)) hh 0 with
        | some l => some (.string (b.extract l hh), h)
        | none => none
      | none => none
    | _ => none
  | .extract x j =>
    match ev s x with
    | .tuple vs => (vs[j]?).map (·, h)
    | _ => none
  | .mkFunc fn first captured => some (.func fn (first.map (ev s)).toArray (captured.map (ev s)).toArray, h)
  | .mkIface t x => some (.iface t (ev s x), h)
  | .append esz bytes z x y =>
    match ev s y with
    | .slice a n c => (srcCells h esz (.slice a n c)).bind fun ys => appendV h esz bytes (ev s x) ys n
    | _ => none
  | .appendStr x y =>
    match ev s y with
    | .string b => appendV h 1 1 (ev s x) (bytesV b) b.size
    | _ => none
  | .appendZ esz bytes z x n =>
    match ev s n with
    | .int _ n => if 0 ≤ n ∧ n * bytes ≤ 140737488355328 then appendV h esz bytes (ev s x) (madeRow z (n.toNat * esz)) n.toNat else none
    | _ => none
  | .toBytes x =>
    match ev s x with
    | .string b => if b.size ≤ 140737488355328 then some (.slice (some ⟨h.n, 0, none⟩) b.size b.size, h.push (.cells (bytesV b) true 1)) else none
    | _ => none
  | .ofBytes x =>
    match ev s x with
    | .slice none _ _ => some (.string .empty, h)
    | .slice (some ⟨i, o, none⟩) n _ => (rowOf h i o n).bind fun cs => (cs.mapM byteOf).map fun bs => (.string (strOfNums bs), h)
    | _ => none
  | .box x => if (cellsL (ev s x)).all Value.oneCell' then some (.pointer (some ⟨h.n, 0, none⟩), h.push (.cells (cellsL (ev s x)) true 1)) else none
  | .row esz len z parts =>
    match fillC z (parts.map fun (o, n, r) => (o, n, ev s r)) with
    | some cs => if cs.all Value.oneCell' then some (.slice (some ⟨h.n, 0, none⟩) len len, h.push (.cells cs true esz)) else none
    | none => none
  | .minmax mx x y =>
    match ev s x, ev s y with
    | .int k a, .int _ b => some (.int k (if mx then (if b > a then b else a) else (if b < a then b else a)), h)
    | _, _ => none
  | .eqV neg ks x y =>
    match ev s x, ev s y with
    | .agg xs, .agg ys => if fitsK ks xs.toList = true ∧ fitsK ks ys.toList = true then some (.bool (cellsB xs.toList ys.toList != neg), h) else none
    | _, _ => none
  | .sameB x =>
    match ev s x with
    | .slice (some ⟨i, o, none⟩) n c =>
      match h.get i with
      | .cells _ true e => if 0 < c ∧ e ≠ 0 then some (.slice (some ⟨i, o, none⟩) n c, h) else none
      | _ => none
    | _ => none
  | .makeMap => some (.map (some h.n), h.push (.map [] 0 true))
  | .lookup kd ok z x k =>
    match ev s x with
    | .map none => if fitK kd (ev s k) = true then some (mval ok z none, h) else none
    | .map (some i) =>
      match h.get i with
      | .map es _ _ => if fitK kd (ev s k) = true ∧ keysFit kd es = true then some (mval ok z (mget (ev s k) es), h) else none
      | _ => none
    | _ => none
  | .mapSet kd x k v =>
    match ev s x with
    | .map (some i) =>
      match h.get i with
      | .map es c true => if fitK kd (ev s k) = true ∧ keysFit kd es = true then some (undef, h.set i (.map (mput (ev s k) (ev s v) c es) (mtick (ev s k) c es) true)) else none
      | _ => none
    | _ => none
  | .mapDel kd x k =>
    match ev s x with
    | .map none => if fitK kd (ev s k) = true then some (.tuple #[], h) else none
    | .map (some i) =>
      match h.get i with
      | .map es c true => if fitK kd (ev s k) = true ∧ keysFit kd es = true then some (.tuple #[], h.set i (.map (mdel (ev s k) es) c true)) else none
      | _ => none
    | _ => none
  | .lenM x =>
    match ev s x with
    | .map none => some (.int .i64 0, h)
    | .map (some i) =>
      match h.get i with
      | .map es _ _ => some (.int .i64 es.length, h)
      | _ => none
    | _ => none
  | .mapEntry kd z x k =>
    match ev s x with
    | .map (some i) =>
      match h.get i with
      | .map es c true => if fitK kd (ev s k) = true ∧ keysFit kd es = true then
          some (.tuple #[(ment (ev s k) z c es).1, .int .i64 (ment (ev s k) z c es).2.1], h.set i (.map (ment (ev s k) z c es).2.2 (mtick (ev s k) c es) true)) else none
      | _ => none
    | _ => none
  | .entrySet x st v =>
    match ev s x, ev s st with
    | .map (some i), .int _ n =>
      match h.get i with
      | .map es c true => (mstamp n (ev s v) es).map fun es' => (undef, h.set i (.map es' c true))
      | _ => none
    | _, _ => none
  | .rangeS x =>
    match ev s x with
    | .string b => some (.pointer (some ⟨h.n, 0, none⟩), h.push (.siter b 0))
    | _ => none
  | .nextS x =>
    match ev s x with
    | .pointer (some ⟨i, 0, none⟩) =>
      match h.get i with
      | .siter b pos => if pos < b.size then some (.tuple #[.bool true, .int .i64 pos, .int .i32 (Utf8.decode b pos).1], h.set i (.siter b (pos + (Utf8.decode b pos).2))) else some (.tuple #[.bool false], h)
      | _ => none
    | _ => none
  | .rangeM x =>
    match ev s x with
    | .map none => some (.pointer (some ⟨h.n, 0, none⟩), h.push (.miter none 0 [] 0))
    | .map (some i) =>
      match h.get i with
      | .map _ c _ => some (.pointer (some ⟨h.n, 0, none⟩), h.push (.miter (some i) c [] c))
      | _ => none
    | _ => none
  | .nextM _ => none
  | .entryM x =>
    match ev s x with
    | .pointer (some ⟨i, 0, none⟩) =>
      match h.get i with
      | .miter (some j) _ seen last =>
        match h.get j with
        | .map es clock _ => if clock = last then (seen.getLast?.bind fun st => mborn st es).map fun q => (.tuple #[q.1, q.2], h) else none
        | _ => none
      | _ => none
    | _ => none
  | .copyV esz x y =>
    match ev s x, ev s y with
    | .slice none _ _, .slice _ _ _ => some (.int .i64 0, h)
    | .slice (some ⟨i, o, none⟩) n _, .slice a n' c' =>
      if min n' n = 0 then some (.int .i64 0, h) else
      match srcCells h esz (.slice a (min n' n) c') with
      | some ys =>
        match h.get i with
        | .cells cs true e => if e = esz ∧ o + ys.length ≤ cs.length then some (.int .i64 (min n' n : Nat), h.set i (.cells (wr cs o ys) true e)) else none
        | _ => none
      | none => none
    | _, _ => none
  | .makeSl esz bytes z len cap =>
    match ev s len, ev s cap with
    | .int _ l, .int _ c => if 0 ≤ l ∧ l ≤ c ∧ c * bytes ≤ 140737488355328 then
        some (.slice (some ⟨h.n, 0, none⟩) l.toNat c.toNat, h.push (.cells (madeRow z (c.toNat * esz)) true esz)) else none
    | _, _ => none
  | .asrt t ok z x =>
    match ev s x with
    | .nilIface => if ok then some (.tuple #[z, .bool false], h) else none
    | .iface u v => if u = t then some (if ok then .tuple #[v, .bool true] else v, h) else if ok then some (.tuple #[z, .bool false], h) else none
    | _ => none
  | .call _ _ => none
  | .callv _ _ => none

end Go.Proofs.Ytdnkpgbggpbgaaa.Pm
