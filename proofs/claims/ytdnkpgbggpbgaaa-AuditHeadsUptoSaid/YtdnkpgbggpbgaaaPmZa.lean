/- The pure machine, part Za: strings of bytes. -/
import Derived.Test.YtdnkpgbggpbgaaaPmZ
import Derived.Laws.Strings
set_option linter.unusedVariables false
set_option linter.unusedSimpArgs false
namespace Go.Proofs.Ytdnkpgbggpbgaaa.Pm
open Go.RowKit

/-- a string of bytes. -/
def strB (bs : List UInt8) : ByteArray := ⟨bs.toArray⟩
theorem strB_size (bs : List UInt8) : (strB bs).size = bs.length := by simp [strB, ByteArray.size]
theorem strB_list (bs : List UInt8) : (strB bs).data.toList = bs := rfl
theorem strB_of (b : ByteArray) : strB b.data.toList = b := by cases b; rfl
theorem bytesV_strB (bs : List UInt8) : bytesV (strB bs) = u8s bs := rfl
/-- the string of a slice of bytes. -/
def ofB (h : VH) (v : Value) : Option (Value × VH) :=
  match v with
  | .slice none _ _ => some (.string .empty, h)
  | .slice (some ⟨i, o, none⟩) n _ => (rowOf h i o n).bind fun cs => (cs.mapM byteOf).map fun bs => (.string (strOfNums bs), h)
  | _ => none
theorem byteOf_u8s (bs : List UInt8) : (u8s bs).mapM byteOf = some (bs.map fun b => (b.toNat : Int)) := by
  induction bs with
  | nil => rfl
  | cons b r ih =>
    show (Value.int .u8 b.toNat :: u8s r).mapM byteOf = _
    rw [List.mapM_cons, ih]
    rfl
theorem ofB_eq {h : VH} {v : Value} {bs : List UInt8} (hb : IsBytes h v bs) : ofB h v = some (.string (strB bs), h) := by
  rcases hb.cases with ⟨rfl, rfl⟩ | ⟨i, o, c, hi, hc, rfl, hat⟩
  · rfl
  · simp only [ofB, rowOf_obj, hat.row, Option.bind_some, byteOf_u8s, Option.map_some]
    congr 2
    simp [strOfNums, strB, List.map_map, Function.comp_def]
theorem pwO_ofB {P : Program} {r : List GI} {s : Slots} {h : VH} {d : Option Nat} {K : Slots → VH → Prop} (x : Ref) : pwOps P (⟨d, none, .ofBytes x⟩ :: r) s h K = kStep P r s d K (ofB h (ev s x)) := (pwO_ofBytes x).trans (by cases hx : ev s x <;> (simp only [pstep, ofB, hx]; try rfl))
theorem pwR_ofB {P : Program} {r : List GI} {s : Slots} {h : VH} {d : Option Nat} {K : Slots → Prop} (x : Ref) : pwQ P (⟨d, none, .ofBytes x⟩ :: r) s h K = kQ P r s h d K (ofB h (ev s x)) := (pwR_ofBytes x).trans (by cases hx : ev s x <;> (simp only [pstep, ofB, hx]; try rfl))
theorem strB_toList (bs : List UInt8) : (strB bs).toList = bs := by rw [ByteArray.toList_eq]; rfl
theorem strB_ext (bs : List UInt8) (a b : Nat) : (strB bs).extract a b = strB ((bs.take b).drop a) := by
  apply ByteArray.ext
  simp [strB, ByteArray.data_extract, List.extract_eq_take_drop, List.drop_take]
theorem strB_append (a b : List UInt8) : strB a ++ strB b = strB (a ++ b) := by
  apply ByteArray.ext
  simp [strB, ByteArray.data_append]
theorem strB_inj {a b : List UInt8} (h : strB a = strB b) : a = b := by
  have := congrArg (fun x : ByteArray => x.data.toList) h
  exact this
theorem isB_undef {b : Bool} : isB undef b = false := by cases b <;> rfl
theorem kCond_true {P : Program} {a b : PC} {s : Slots} {h : VH} {Q : Exit → Slots → VH → Prop} : kCond P a b s h Q (.bool true) = pw P a s h Q := by
  simp only [kCond_bool, true_implies, reduceCtorEq, false_implies, and_true]
theorem kCond_false {P : Program} {a b : PC} {s : Slots} {h : VH} {Q : Exit → Slots → VH → Prop} : kCond P a b s h Q (.bool false) = pw P b s h Q := by
  simp only [kCond_bool, true_implies, reduceCtorEq, false_implies, true_and]
theorem kCond_dec {P : Program} {a b : PC} {s : Slots} {h : VH} {Q : Exit → Slots → VH → Prop} {p : Prop} [Decidable p] : kCond P a b s h Q (.bool (decide p)) = ((p → pw P a s h Q) ∧ (¬ p → pw P b s h Q)) := by
  simp only [kCond_bool, decide_eq_true_eq, decide_eq_false_iff_not]
/-- a byte of a string. -/
def strAt (x j : Value) : Option Value :=
  match x, j with
  | .string b, .int _ j => if hj : 0 ≤ j ∧ j.toNat < b.size then some (.int .u8 (b[j.toNat]'hj.2).toNat) else none
  | _, _ => none
theorem strAt_B {bs : List UInt8} {k : IntKind} {n : Nat} (hn : n < bs.length) : strAt (.string (strB bs)) (.int k (n : Int)) = some (.int .u8 (bs[n]).toNat) := by
  have hj : 0 ≤ (n : Int) ∧ (n : Int).toNat < (strB bs).size := ⟨by omega, by rw [strB_size]; simpa using hn⟩
  simp only [strAt, dif_pos hj]
  rfl
theorem strAt_D {bs : List UInt8} {k : IntKind} {n : Nat} (hn : n < bs.length) : strAt (.string (strB bs)) (.int k (n : Int)) = some (.int .u8 (bs.getD n 0).toNat) := by
  rw [strAt_B hn]
  simp [List.getD, List.getElem?_eq_getElem hn]
theorem pstep_strAt {s : Slots} {h : VH} (x j : Ref) : pstep (.idxStr x j) s h = (strAt (ev s x) (ev s j)).map (·, h) := by
  show (match ev s x, ev s j with
    | .string b, .int _ j => if hj : 0 ≤ j ∧ j.toNat < b.size then some (Value.int .u8 (b[j.toNat]'hj.2).toNat, h) else none
    | _, _ => none) = _
  generalize ev s x = a
  generalize ev s j = c
  cases a <;> cases c <;> try rfl
  simp only [strAt]
  split <;> rfl
theorem pwO_strAt {P : Program} {r : List GI} {s : Slots} {h : VH} {d : Option Nat} {K : Slots → VH → Prop} (x j : Ref) : pwOps P (⟨d, none, .idxStr x j⟩ :: r) s h K = kStep P r s d K ((strAt (ev s x) (ev s j)).map (·, h)) := (pwO_idxStr x j).trans (by rw [pstep_strAt])
theorem pwR_strAt {P : Program} {r : List GI} {s : Slots} {h : VH} {d : Option Nat} {K : Slots → Prop} (x j : Ref) : pwQ P (⟨d, none, .idxStr x j⟩ :: r) s h K = kQ P r s h d K ((strAt (ev s x) (ev s j)).map (·, h)) := (pwR_idxStr x j).trans (by rw [pstep_strAt])
end Go.Proofs.Ytdnkpgbggpbgaaa.Pm
