/- The pure machine, part C: instructions. -/
import Derived.Test.YtgkokffmblphnaaPmB
import Derived.Laws.BytesArg
set_option linter.unusedVariables false
set_option linter.unusedSimpArgs false
namespace Go.Proofs.Ytgkokffmblphnaa.Pm
open Go.RowKit

inductive I where
  | mov (x : Ref)
  | pick (c a b : Ref)
  | nilck (x : Ref)
  | bin (op : BinOp) (x y : Ref)
  | binB (neg : Bool) (x y : Ref)
  | eqNil (k : NK) (neg : Bool) (x y : Ref)
  | un (op : UnOp) (x : Ref)
  | convI (k : IntKind) (x : Ref)
  | convS (x : Ref)
  | alloc (z : List Value)
  | build (z : List Value) (parts : List (Nat × Nat × Ref))
  | load (n : Option Nat) (a : Ref)
  | store (n : Nat) (a x : Ref)
  | fieldAddr (off : Nat) (x : Ref)
  | field (off : Nat) (n : Option Nat) (x : Ref)
  | idxS (esz : Nat) (x i : Ref)
  | idxA (len esz : Nat) (x i : Ref)
  | idxV (len esz : Nat) (n : Option Nat) (x i : Ref)
  | idxStr (x i : Ref)
  | lenStr (x : Ref)
  | lenS (x : Ref)
  | lenC (n : Nat)
  | slS (esz : Nat) (x : Ref) (lo hi mx : Option Ref)
  | slA (len esz : Nat) (x : Ref) (lo hi : Option Ref)
  | slStr (x : Ref) (lo hi : Option Ref)
  | extract (x : Ref) (i : Nat)
  | mkFunc (fn : Fn) (first captured : List Ref)
  | mkIface (t : TypeId) (x : Ref)
  | append (esz bytes : Nat) (z : List Value) (x y : Ref)
  | appendStr (x y : Ref)
  | toBytes (x : Ref)
  | ofBytes (x : Ref)
  | box (x : Ref)
  | row (esz len : Nat) (z : List Value) (parts : List (Nat × Nat × Ref))
  | minmax (mx : Bool) (x y : Ref)
  | sameB (x : Ref)
  | call (f : FuncId) (args : List Ref)
  | callv (f : Ref) (args : List Ref)

def cellsL (v : Value) : List Value := v.cells.toList

/-- the cells from o on, written over. -/
def wr (cs : List Value) (o : Nat) (xs : List Value) : List Value := cs.take o ++ xs ++ cs.drop (o + xs.length)

def loadAt (h : VH) (i o : Nat) (n : Option Nat) : Option Value :=
  match h.get i with
  | .cells cs _ _ =>
    match n with
    | none => cs[o]?
    | some n => if o + n ≤ cs.length then some (.agg ((cs.drop o).take n).toArray) else none
  | _ => none

def storeAt (h : VH) (i o n : Nat) (x : Value) : Option VH :=
  match h.get i with
  | .cells cs true esz => if (cellsL x).length = n ∧ o + n ≤ cs.length ∧ (cellsL x).all Value.oneCell' then some (h.set i (.cells (wr cs o (cellsL x)) true esz)) else none
  | _ => none

def partOf (cs : Array Value) (off : Nat) : Option Nat → Option Value
  | none => cs[off]?
  | some n => some (.agg (cs.extract off (off + n)))

def fillC (cells : List Value) : List (Nat × Nat × Value) → Option (List Value)
  | [] => some cells
  | (off, n, v) :: r => if (cellsL v).length = n ∧ off + n ≤ cells.length then fillC (wr cells off (cellsL v)) r else none

def bound (x : Option Value) (lim d : Nat) : Option Nat :=
  match x with
  | none => some d
  | some (.int _ j) => if 0 ≤ j ∧ j ≤ lim then some j.toNat else none
  | some _ => none

def byteOf : Value → Option Int
  | .int .u8 n => some n
  | _ => none

def rowOf (h : VH) (i o n : Nat) : Option (List Value) :=
  match h.get i with
  | .cells cs _ _ => if o + n ≤ cs.length then some ((cs.drop o).take n) else none
  | _ => none

def eszIs (h : VH) (i esz : Nat) : Bool :=
  match h.get i with
  | .cells _ _ e => e == esz
  | _ => false

/-- what is appended: the cells of a slice. -/
def srcCells (h : VH) (esz : Nat) : Value → Option (List Value)
  | .slice none _ _ => some []
  | .slice (some a) n _ => if a.spot = none then rowOf h a.block a.off (n * esz) else none
  | _ => none

def bytesV (s : ByteArray) : List Value := s.data.toList.map fun b => .int .u8 b.toNat

/-- append of cells ys (a whole number of elements of esz cells). -/
def appendV (h : VH) (esz bytes : Nat) (x : Value) (ys : List Value) (k : Nat) : Option (Value × VH) :=
  if k = 0 then
    match x with
    | .slice a n c => some (.slice a n c, h)
    | _ => none
  else
  match x with
  | .slice none _ _ => if k * bytes ≤ 140737488355328 then some (.slice (some ⟨h.n, 0, none⟩) k k, h.push (.cells ys true esz)) else none
  | .slice (some ⟨i, o, none⟩) n _ =>
    match h.get i with
    | .cells cs true e => if e = esz ∧ o + n * esz = cs.length ∧ (n + k) * bytes ≤ 140737488355328 then
        some (.slice (some ⟨h.n, 0, none⟩) (n + k) (n + k), (h.set i .dead).push (.cells (cs.drop o ++ ys) true esz)) else none
    | _ => none
  | _ => none

def pstep (i : I) (s : Slots) (h : VH) : Option (Value × VH) :=
  match i with
  | .mov x => some (ev s x, h)
  | .pick c a b =>
    match ev s c with
    | .bool t => some (if t then ev s a else ev s b, h)
    | _ => none
  | .nilck x =>
    match ev s x with
    | .pointer (some a) => some (.pointer (some a), h)
    | .func (.func f) a b => some (.func (.func f) a b, h)
    | _ => none
  | .bin op x y => (pbin op (ev s x) (ev s y)).map (·, h)
  | .binB neg x y =>
    match ev s x, ev s y with
    | .bool a, .bool b => some (.bool ((a == b) != neg), h)
    | _, _ => none
  | .eqNil k neg x y =>
    match isNilV k (ev s x), isNilV k (ev s y) with
    | some a, some b => if a = true ∨ b = true then some (.bool ((a == b) != neg), h) else none
    | _, _ => none
  | .un op x => (pun op (ev s x)).map (·, h)
  | .convI k x =>
    match ev s x with
    | .int _ n => some (.int k (k.wrap n), h)
    | _ => none
  | .convS x =>
    match ev s x with
    | .string b => some (.string b, h)
    | _ => none
  | .alloc z => some (.pointer (some ⟨h.n, 0, none⟩), h.push (.cells z true 1))
  | .build z parts => (fillC z (parts.map fun (o, n, r) => (o, n, ev s r))).map fun cs => (.agg cs.toArray, h)
  | .load n a =>
    match ev s a with
    | .pointer (some ⟨i, o, none⟩) => (loadAt h i o n).map (·, h)
    | _ => none
  | .store n a x =>
    match ev s a with
    | .pointer (some ⟨i, o, none⟩) => (storeAt h i o n (ev s x)).map fun h' => (undef, h')
    | _ => none
  | .fieldAddr off x =>
    match ev s x with
    | .pointer (some ⟨i, o, none⟩) => some (.pointer (some ⟨i, o + off, none⟩), h)
    | _ => none
  | .field off n x =>
    match ev s x with
    | .agg cs => (partOf cs off n).map (·, h)
    | _ => none
  | .idxS esz x j =>
    match ev s x, ev s j with
    | .slice (some ⟨i, o, none⟩) n _, .int _ j => if 0 ≤ j ∧ j < n then some (.pointer (some ⟨i, o + j.toNat * esz, none⟩), h) else none
    | _, _ => none
  | .idxA len esz x j =>
    match ev s x, ev s j with
    | .pointer (some ⟨i, o, none⟩), .int _ j => if 0 ≤ j ∧ j < len then some (.pointer (some ⟨i, o + j.toNat * esz, none⟩), h) else none
    | _, _ => none
  | .idxV len esz n x j =>
    match ev s x, ev s j with
    | .agg cs, .int _ j => if 0 ≤ j ∧ j < len then (partOf cs (j.toNat * esz) n).map (·, h) else none
    | _, _ => none
  | .idxStr x j =>
    match ev s x, ev s j with
    | .string b, .int _ j => if hj : 0 ≤ j ∧ j.toNat < b.size then some (.int .u8 (b[j.toNat]'hj.2).toNat, h) else none
    | _, _ => none
  | .lenStr x =>
    match ev s x with
    | .string b => some (.int .i64 b.size, h)
    | _ => none
  | .lenS x =>
    match ev s x with
    | .slice _ n _ => some (.int .i64 n, h)
    | _ => none
  | .lenC n => some (.int .i64 n, h)
  | .slS esz x lo hi mx =>
    match ev s x with
    | .slice none _ _ =>
      match bound (mx.map (ev s)) 0 0, bound (hi.map (ev s)) 0 0, bound (lo.map (ev s)) 0 0 with
      | some _, some _, some _ => some (.slice none 0 0, h)
      | _, _, _ => none
    | .slice (some ⟨i, o, none⟩) n c =>
      if eszIs h i esz = false then none else
      match bound (mx.map (ev s)) c c with
      | some m =>
        match bound (hi.map (ev s)) m n with
        | some hh =>
          match bound (lo.map (ev s)) hh 0 with
          | some l => some (.slice (some ⟨i, o + l * esz, none⟩) (hh - l) (m - l), h)
          | none => none
        | none => none
      | none => none
    | _ => none
  | .slA len esz x lo hi =>
    match ev s x with
    | .pointer (some ⟨i, o, none⟩) =>
      match h.get i with
      | .cells cs _ e =>
        if e = esz ∧ o + len * esz ≤ cs.length then
          match bound (hi.map (ev s)) len len with
          | some hh =>
            match bound (lo.map (ev s)) hh 0 with
            | some l => some (.slice (some ⟨i, o + l * esz, none⟩) (hh - l) (len - l), h)
            | none => none
          | none => none
        else none
      | _ => none
    | _ => none
  | .slStr x lo hi =>
    match ev s x with
    | .string b =>
      match bound (hi.map (ev s)) b.size b.size with
      | some hh =>
        match bound (lo.map (ev s)) hh 0 with
        | some l => some (.string (b.extract l hh), h)
        | none => none
      | none => none
    | _ => none
  | .extract x j =>
    match ev s x with
    | .tuple vs => (vs[j]?).map (·, h)
    | _ => none
  | .mkFunc fn first captured => some (.func fn (first.map (ev s)).toArray (captured.map (ev s)).toArray, h)
  | .mkIface t x => some (.iface t (ev s x), h)
  | .append esz bytes z x y =>
    match ev s y with
    | .slice a n c => (srcCells h esz (.slice a n c)).bind fun ys => appendV h esz bytes (ev s x) ys n
    | _ => none
  | .appendStr x y =>
    match ev s y with
    | .string b => appendV h 1 1 (ev s x) (bytesV b) b.size
    | _ => none
  | .toBytes x =>
    match ev s x with
    | .string b => if b.size ≤ 140737488355328 then some (.slice (some ⟨h.n, 0, none⟩) b.size b.size, h.push (.cells (bytesV b) true 1)) else none
    | _ => none
  | .ofBytes x =>
    match ev s x with
    | .slice none _ _ => some (.string .empty, h)
    | .slice (some ⟨i, o, none⟩) n _ => (rowOf h i o n).bind fun cs => (cs.mapM byteOf).map fun bs => (.string (strOfNums bs), h)
    | _ => none
  | .box x => if (cellsL (ev s x)).all Value.oneCell' then some (.pointer (some ⟨h.n, 0, none⟩), h.push (.cells (cellsL (ev s x)) true 1)) else none
  | .row esz len z parts =>
    match fillC z (parts.map fun (o, n, r) => (o, n, ev s r)) with
    | some cs => if cs.all Value.oneCell' then some (.slice (some ⟨h.n, 0, none⟩) len len, h.push (.cells cs true esz)) else none
    | none => none
  | .minmax mx x y =>
    match ev s x, ev s y with
    | .int k a, .int _ b => some (.int k (if mx then (if b > a then b else a) else (if b < a then b else a)), h)
    | _, _ => none
  | .sameB x =>
    match ev s x with
    | .slice (some ⟨i, o, none⟩) n c =>
      match h.get i with
      | .cells _ true _ => if 0 < c then some (.slice (some ⟨i, o, none⟩) n c, h) else none
      | _ => none
    | _ => none
  | .call _ _ => none
  | .callv _ _ => none

end Go.Proofs.Ytgkokffmblphnaa.Pm
