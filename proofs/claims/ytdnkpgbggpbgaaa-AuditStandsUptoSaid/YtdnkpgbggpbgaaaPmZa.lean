/- The pure machine, part Za: strings of bytes. -/
import Derived.Test.YtdnkpgbggpbgaaaPmZ
import Derived.Laws.Strings
set_option linter.unusedVariables false
set_option linter.unusedSimpArgs false
namespace Go.Proofs.Ytdnkpgbggpbgaaa.Pm
open Go.RowKit

/-- a string of bytes. -/
def strB (bs : List UInt8) : ByteArray := ⟨bs.toArray⟩
theorem strB_size (bs : List UInt8) : (strB bs).size = bs.length := by simp [strB, ByteArray.size]
theorem strB_list (bs : List UInt8) : (strB bs).data.toList = bs := rfl
theorem strB_of (b : ByteArray) : strB b.data.toList = b := by cases b; rfl
theorem bytesV_strB (bs : List UInt8) : bytesV (strB bs) = u8s bs := rfl
/-- the string of a slice of bytes. -/
def ofB (h : VH) (v : Value) : Option (Value × VH) :=
  match v with
  | .slice none _ _ => some (.string .empty, h)
  | .slice (some ⟨i, o, none⟩) n _ => (rowOf h i o n).bind fun cs => (cs.mapM byteOf).map fun bs => (.string (strOfNums bs), h)
  | _ => none
theorem byteOf_u8s (bs : List UInt8) : (u8s bs).mapM byteOf = some (bs.map fun b => (b.toNat : Int)) := by
  induction bs with
  | nil => rfl
  | cons b r ih =>
    show (Value.int .u8 b.toNat :: u8s r).mapM byteOf = _
    rw [List.mapM_cons, ih]
    rfl
theorem ofB_eq {h : VH} {v : Value} {bs : List UInt8} (hb : IsBytes h v bs) : ofB h v = some (.string (strB bs), h) := by
  rcases hb.cases with ⟨rfl, rfl⟩ | ⟨i, o, c, hi, hc, rfl, hat⟩
  · rfl
  · simp only [ofB, rowOf_obj, hat.row, Option.bind_some, byteOf_u8s, Option.map_some]
    congr 2
    simp [strOfNums, strB, List.map_map, Function.comp_def]
theorem pwO_ofB {P : Program} {r : List GI} {s : Slots} {h : VH} {d : Option Nat} {K : Slots → VH → Prop} (x : Ref) : pwOps P (⟨d, none, .ofBytes x⟩ :: r) s h K = kStep P r s d K (ofB h (ev s x)) := (pwO_ofBytes x).trans (by cases hx : ev s x <;> (simp only [pstep, ofB, hx]; try rfl))
theorem pwR_ofB {P : Program} {r : List GI} {s : Slots} {h : VH} {d : Option Nat} {K : Slots → Prop} (x : Ref) : pwQ P (⟨d, none, .ofBytes x⟩ :: r) s h K = kQ P r s h d K (ofB h (ev s x)) := (pwR_ofBytes x).trans (by cases hx : ev s x <;> (simp only [pstep, ofB, hx]; try rfl))
theorem strB_toList (bs : List UInt8) : (strB bs).toList = bs := by rw [ByteArray.toList_eq]; rfl
theorem strB_ext (bs : List UInt8) (a b : Nat) : (strB bs).extract a b = strB ((bs.take b).drop a) := by
  apply ByteArray.ext
  simp [strB, ByteArray.data_extract, List.extract_eq_take_drop, List.drop_take]
theorem strB_append (a b : List UInt8) : strB a ++ strB b = strB (a ++ b) := by
  apply ByteArray.ext
  simp [strB, ByteArray.data_append]
theorem strB_inj {a b : List UInt8} (h : strB a = strB b) : a = b := by
  have := congrArg (fun x : ByteArray => x.data.toList) h
  exact this
theorem isB_undef {b : Bool} : isB undef b = false := by cases b <;> rfl
theorem kCond_true {P : Program} {a b : PC} {s : Slots} {h : VH} {Q : Exit → Slots → VH → Prop} : kCond P a b s h Q (.bool true) = pw P a s h Q := by
  simp only [kCond_bool, true_implies, reduceCtorEq, false_implies, and_true]
theorem kCond_false {P : Program} {a b : PC} {s : Slots} {h : VH} {Q : Exit → Slots → VH → Prop} : kCond P a b s h Q (.bool false) = pw P b s h Q := by
  simp only [kCond_bool, true_implies, reduceCtorEq, false_implies, true_and]
theorem kCond_dec {P : Program} {a b : PC} {s : Slots} {h : VH} {Q : Exit → Slots → VH → Prop} {p : Prop} [Decidable p] : kCond P a b s h Q (.bool (decide p)) = ((p → pw P a s h Q) ∧ (¬ p → pw P b s h Q)) := by
  simp only [kCond_bool, decide_eq_true_eq, decide_eq_false_iff_not]
/-- a byte of a string. -/
def strAt (x j : Value) : Option Value :=
  match x, j with
  | .string b, .int _ j => if hj : 0 ≤ j ∧ j.toNat < b.size then some (.int .u8 (b[j.toNat]'hj.2).toNat) else none
  | _, _ => none
theorem strAt_B {bs : List UInt8} {k : IntKind} {n : Nat} (hn : n < bs.length) : strAt (.string (strB bs)) (.int k (n : Int)) = some (.int .u8 (bs[n]).toNat) := by
  have hj : 0 ≤ (n : Int) ∧ (n : Int).toNat < (strB bs).size := ⟨by omega, by rw [strB_size]; simpa using hn⟩
  simp only [strAt, dif_pos hj]
  rfl
theorem strAt_D {bs : List UInt8} {k : IntKind} {n : Nat} (hn : n < bs.length) : strAt (.string (strB bs)) (.int k (n : Int)) = some (.int .u8 (bs.getD n 0).toNat) := by
  rw [strAt_B hn]
  simp [List.getD, List.getElem?_eq_getElem hn]
theorem pstep_strAt {s : Slots} {h : VH} (x j : Ref) : pstep (.idxStr x j) s h = (strAt (ev s x) (ev s j)).map (·, h) := by
  show (match ev s x, ev s j with
    | .string b, .int _ j => if hj : 0 ≤ j ∧ j.toNat < b.size then some (Value.int .u8 (b[j.toNat]'hj.2).toNat, h) else none
    | _, _ => none) = _
  generalize ev s x = a
  generalize ev s j = c
  cases a <;> cases c <;> try rfl
  simp only [strAt]
  split <;> rfl
theorem pwO_strAt {P : Program} {r : List GI} {s : Slots} {h : VH} {d : Option Nat} {K : Slots → VH → Prop} (x j : Ref) : pwOps P (⟨d, none, .idxStr x j⟩ :: r) s h K = kStep P r s d K ((strAt (ev s x) (ev s j)).map (·, h)) := (pwO_idxStr x j).trans (by rw [pstep_strAt])
theorem pwR_strAt {P : Program} {r : List GI} {s : Slots} {h : VH} {d : Option Nat} {K : Slots → Prop} (x j : Ref) : pwQ P (⟨d, none, .idxStr x j⟩ :: r) s h K = kQ P r s h d K ((strAt (ev s x) (ev s j)).map (·, h)) := (pwR_idxStr x j).trans (by rw [pstep_strAt])
/-! ### the words of a walk -/
theorem np (h : VH) (o : VObj) : (h.push o).n = h.n + 1 := rfl
theorem ns (h : VH) (i : Nat) (o : VObj) : (h.set i o).n = h.n := rfl
attribute [simp] pw_skip pw_ops pw_quiet pw_seq pw_cond pw_block pw_exit pw_ret pw_scope pw_label kSeq_normal kSeq_ret kSeq_exit kBlock_normal kBlock_ret kBlock_exit kScope_normal kScope_ret kScope_exit kLoop_normal kLoop_ret kLoop_exit kCond_true kCond_false kCond_dec pwOps_nil pwOps_call pwOps_guard kStep_some kCall_at pwQ_nil pwQ_call pwQ_guard kQ_some putS_some putS_none upd_apply ev_t ev_k isB_bool isB_undef s0_apply pstep pwO_mov pwO_pick pwO_nilck pwO_bin pwO_binB pwO_eqNil pwO_un pwO_convI pwO_convS pwO_alloc pwO_build pwO_load pwO_store pwO_fieldAddr pwO_field pwO_idxS pwO_idxA pwO_idxV pwO_strAt pwO_lenStr pwO_lenS pwO_lenC pwO_slS pwO_slA pwO_slStr pwO_extract pwO_mkFunc pwO_mkIface pwO_append pwO_appendStr pwO_appendZ pwO_toBytes pwO_ofB pwO_box pwO_row pwO_minmax pwO_eqV pwO_sameB pwR_mov pwR_pick pwR_nilck pwR_bin pwR_binB pwR_eqNil pwR_un pwR_convI pwR_convS pwR_build pwR_load pwR_fieldAddr pwR_field pwR_idxS pwR_idxA pwR_idxV pwR_strAt pwR_lenStr pwR_lenS pwR_lenC pwR_slS pwR_slA pwR_slStr pwR_extract pwR_mkFunc pwR_mkIface pwR_ofB pwR_minmax pwR_eqV ret_r ret_n kRet_some resV0 resV1 resV2 resV3 resV4 VH.get_push_new VH.get_set_same VH.n_push VH.n_set cellsL_agg cellsL_int cellsL_bool cellsL_string cellsL_slice cellsL_pointer cellsL_map pw_draw pwD_nil pwD_cons kD_nil kD_cons evalOK_plain evalOK_guard kEv_some dstIs_some dstIs_none pw_goto pw_scopeL kSeq_goto kBlock_goto kLoop_goto kScopeL_normal kScopeL_ret kScopeL_exit kScopeL_goto pwOps_callv kCallv_fn kCallv_yld pwOps_nextM pwO_makeMap pwO_lookup pwR_lookup pwO_mapSet pwO_mapDel pwO_lenM pwR_lenM pwO_mapEntry pwO_entrySet pwO_rangeS pwO_nextS pwO_rangeM pwO_entryM pwR_entryM pwO_copyV pwO_makeSl pwO_asrt pwR_asrt kStep_if kStep_dif kQ_if kQ_dif kEv_if bound_none bound_some toNat_add' toNat_sub' toNat_mul' kLoopN_normal kLoopN_ret kLoopN_exit kLoopN_goto Option.map_some Option.map_none loadAt_obj storeAt_obj rowOf_obj eszIs_obj eszObj_cells loadObj_tab storeObj_tab_int VH.get_set_ne VH.get_push_lt VH.set_set tab_length List.getElem?_cons_zero List.getElem?_cons_succ List.length_cons List.length_nil oneC_int oneC_bool oneC_string oneC_slice oneC_pointer oneC_map srcCells_at srcCells_nil VH.get_push_at isNilV pw_drawT pwT_nil pwT_step pwT_alt kT_nil kT_cons pun pbinS pbin pbinI i64_small IntKind.bits resV resL resOne gI gM gT gF gN gNT gNF dI dM dT dF
end Go.Proofs.Ytdnkpgbggpbgaaa.Pm
