/- ident, part I: the table: new, open, close, len. -/
import Derived.Test.YtaeegilpfoiagaaIdE
set_option linter.unusedVariables false
set_option linter.unusedSimpArgs false
set_option maxRecDepth 100000
namespace Go.Proofs.Ytaeegilpfoiagaa.Id
open Go Go.RowKit Go.Proofs.Ytaeegilpfoiagaa.Pm Go.Proofs.Ytaeegilpfoiagaa.Fs

abbrev Ents := List (Value × Value × Nat)
def sesV (x y : List UInt8) (z : Bool) (o : Int) : Value := .agg #[.string (strB x), .string (strB y), .bool z, .int .i64 o]
/-- entries of a table: numbers below last, each with a session. -/
structure EsOK (es : Ents) (last : Int) : Prop where
  ses : ∀ e ∈ es, ∃ x y z o, e.2.1 = sesV x y z o
  key : ∀ e ∈ es, ∃ k : Int, e.1 = .int .i64 k ∧ k ≤ last
structure Tab (h : VH) (i j : Nat) (es : Ents) (clk : Nat) (last : Int) : Prop where
  rec_ : h.get i = .cells [.map (some j), .int .i64 last] true 1
  map_ : h.get j = .map es clk true
  ne : i ≠ j
  lti : i < h.n
  ltj : j < h.n
  ok : EsOK es last
theorem Tab.fr {h h' : VH} {i j : Nat} {es : Ents} {clk : Nat} {last : Int} (ht : Tab h i j es clk last) (hf : Fr h h' []) : Tab h' i j es clk last :=
  ⟨by rw [hf.get i ht.lti (by simp)]; exact ht.rec_, by rw [hf.get j ht.ltj (by simp)]; exact ht.map_, ht.ne, Nat.lt_of_lt_of_le ht.lti hf.n, Nat.lt_of_lt_of_le ht.ltj hf.n, ht.ok⟩
theorem EsOK.fits {es : Ents} {last : Int} (h : EsOK es last) : keysFit (.i .i64) es = true := by
  unfold keysFit
  rw [List.all_eq_true]
  intro e he
  obtain ⟨k, hk, _⟩ := h.key e he
  rw [hk]; rfl
theorem mput_mem {k v : Value} {c : Nat} : ∀ {es : Ents} {e : Value × Value × Nat}, e ∈ mput k v c es → e ∈ es ∨ (e.1 = k ∧ e.2.1 = v)
  | [], e, h => by simp [mput] at h; subst h; exact .inr ⟨rfl, rfl⟩
  | x :: r, e, h => by
    unfold mput at h
    split at h
    · rcases List.mem_cons.1 h with rfl | h
      · exact .inr ⟨rfl, rfl⟩
      · exact .inl (List.mem_cons_of_mem _ h)
    · rcases List.mem_cons.1 h with rfl | h
      · exact .inl (List.mem_cons_self ..)
      · rcases mput_mem h with h | h
        · exact .inl (List.mem_cons_of_mem _ h)
        · exact .inr h
theorem mput_len {k v : Value} {c : Nat} : ∀ {es : Ents}, (mput k v c es).length ≤ es.length + 1
  | [] => by simp [mput]
  | x :: r => by
    unfold mput
    split
    · simp
    · have := mput_len (k := k) (v := v) (c := c) (es := r)
      simp
      omega
theorem mdel_mem {k : Value} : ∀ {es : Ents} {e : Value × Value × Nat}, e ∈ mdel k es → e ∈ es
  | [], e, h => by simp [mdel] at h
  | x :: r, e, h => by
    unfold mdel at h
    split at h
    · exact List.mem_cons_of_mem _ h
    · rcases List.mem_cons.1 h with rfl | h
      · exact List.mem_cons_self ..
      · exact List.mem_cons_of_mem _ (mdel_mem h)
theorem mdel_len {k : Value} : ∀ {es : Ents}, (mdel k es).length ≤ es.length
  | [] => by simp [mdel]
  | x :: r => by
    unfold mdel
    split
    · simp
    · have := mdel_len (k := k) (es := r)
      simp
      omega
theorem mget_mem {k v : Value} : ∀ {es : Ents}, mget k es = some v → ∃ e ∈ es, e.2.1 = v
  | [], h => by simp [mget] at h
  | x :: r, h => by
    unfold mget at h
    split at h
    · injection h with h
      exact ⟨x, List.mem_cons_self .., h⟩
    · obtain ⟨e, he, h2⟩ := mget_mem h
      exact ⟨e, List.mem_cons_of_mem _ he, h2⟩
theorem EsOK.put {es : Ents} {last : Int} (h : EsOK es last) {x y : List UInt8} {z : Bool} {o : Int} {c : Nat} : EsOK (mput (.int .i64 (last + 1)) (sesV x y z o) c es) (last + 1) := by
  refine ⟨fun e he => ?_, fun e he => ?_⟩
  · rcases mput_mem he with h1 | ⟨_, h1⟩
    · exact h.ses e h1
    · exact ⟨_, _, _, _, h1⟩
  · rcases mput_mem he with h1 | ⟨h1, _⟩
    · obtain ⟨k, hk, hl⟩ := h.key e h1
      exact ⟨k, hk, by omega⟩
    · exact ⟨last + 1, h1, by omega⟩
theorem EsOK.del {es : Ents} {last : Int} (h : EsOK es last) {k : Value} : EsOK (mdel k es) last :=
  ⟨fun e he => h.ses e (mdel_mem he), fun e he => h.key e (mdel_mem he)⟩

def canP (now span : Int) : Prop := (0 ≤ now ∧ now ≤ 1125899906842624) ∧ 1 ≤ span ∧ span ≤ 1125899906842624
instance (now span : Int) : Decidable (canP now span) := by unfold canP; infer_instance
def endP (now span : Int) : Int := if 1125899906842624 < now + span then 1125899906842624 else now + span

theorem tnew_ok (h : VH) : PCalls Try.prog f_ident_New [] h (fun u h' => u = .pointer (some ⟨h.n + 1, 0, none⟩) ∧ Tab h' (h.n + 1) h.n [] 0 0 ∧ Fr h h' []) := by
  refine PCalls_of_pw st_ident_New (by simp [n_ident_New]) ?_
  rw [b_ident_New]
  have hf : fillC [.map none, .int .i64 0] [(0, 1, .map (some h.n))] = some [.map (some h.n), .int .i64 0] := rfl
  have ha : ([Value.map (some h.n), .int .i64 0]).all Value.oneCell' = true := rfl
  have hc : cellsL (.agg #[Value.map (some h.n), .int .i64 0]) = [.map (some h.n), .int .i64 0] := rfl
  simp (disch := first|omega|(simp only [np,ns];try omega)) [B_ident_New, pun, pbinS, -BitVec.toNat_or, -BitVec.toNat_xor, -BitVec.toNat_add, -BitVec.toNat_and, -BitVec.toNat_not, -BitVec.toNat_shiftLeft, -BitVec.toNat_ushiftRight, pbin, pbinI, i64_small, IntKind.bits, hf, ha, hc, r_ident_New, ret_r, resV, resL, resOne, pw_skip, pw_ops, pw_quiet, pw_seq, pw_cond, pw_block, pw_exit, pw_ret, pw_scope, pw_label, kSeq_normal, kSeq_ret, kSeq_exit, kBlock_normal, kBlock_ret, kBlock_exit, kScope_normal, kScope_ret, kScope_exit, kLoop_normal, kLoop_ret, kLoop_exit, kCond_true, kCond_false, kCond_dec, pwOps_nil, pwOps_call, pwOps_guard, kStep_some, kCall_at, pwQ_nil, pwQ_call, pwQ_guard, kQ_some, putS_some, putS_none, upd_apply, ev_t, ev_k, isB_bool, isB_undef, s0_apply, pstep, pwO_mov, pwO_pick, pwO_nilck, pwO_bin, pwO_binB, pwO_eqNil, pwO_un, pwO_convI, pwO_convS, pwO_alloc, pwO_build, pwO_load, pwO_store, pwO_fieldAddr, pwO_field, pwO_idxS, pwO_idxA, pwO_idxV, pwO_strAt, pwO_lenStr, pwO_lenS, pwO_lenC, pwO_slS, pwO_slA, pwO_slStr, pwO_extract, pwO_mkFunc, pwO_mkIface, pwO_append, pwO_appendStr, pwO_appendZ, pwO_toBytes, pwO_ofB, pwO_box, pwO_row, pwO_minmax, pwO_eqV, pwO_sameB, pwR_mov, pwR_pick, pwR_nilck, pwR_bin, pwR_binB, pwR_eqNil, pwR_un, pwR_convI, pwR_convS, pwR_build, pwR_load, pwR_fieldAddr, pwR_field, pwR_idxS, pwR_idxA, pwR_idxV, pwR_strAt, pwR_lenStr, pwR_lenS, pwR_lenC, pwR_slS, pwR_slA, pwR_slStr, pwR_extract, pwR_mkFunc, pwR_mkIface, pwR_ofB, pwR_minmax, pwR_eqV, ret_r, ret_n, kRet_some, resV0, resV1, resV2, resV3, resV4, VH.get_push_new, VH.get_set_same, VH.n_push, VH.n_set, cellsL_agg, cellsL_int, cellsL_bool, cellsL_string, cellsL_slice, cellsL_pointer, cellsL_map, pw_draw, pwD_nil, pwD_cons, kD_nil, kD_cons, evalOK_plain, evalOK_guard, kEv_some, dstIs_some, dstIs_none, pw_goto, pw_scopeL, kSeq_goto, kBlock_goto, kLoop_goto, kScopeL_normal, kScopeL_ret, kScopeL_exit, kScopeL_goto, pwOps_callv, kCallv_fn, kCallv_yld, pwOps_nextM, pwO_makeMap, pwO_lookup, pwR_lookup, pwO_mapSet, pwO_mapDel, pwO_lenM, pwR_lenM, pwO_mapEntry, pwO_entrySet, pwO_rangeS, pwO_nextS, pwO_rangeM, pwO_entryM, pwR_entryM, pwO_copyV, pwO_makeSl, pwO_asrt, pwR_asrt, kStep_if, kStep_dif, kQ_if, kQ_dif, kEv_if, bound_none, bound_some, toNat_add', toNat_sub', toNat_mul', kLoopN_normal, kLoopN_ret, kLoopN_exit, kLoopN_goto, Option.map_some, Option.map_none, loadAt_obj, storeAt_obj, rowOf_obj, eszIs_obj, eszObj_cells, loadObj_tab, storeObj_tab_int, VH.get_set_ne, VH.get_push_lt, VH.set_set, tab_length, List.getElem?_cons_zero, List.getElem?_cons_succ, List.length_cons, List.length_nil, oneC_int, oneC_bool, oneC_string, oneC_slice, oneC_pointer, oneC_map, srcCells_at, srcCells_nil, VH.get_push_at, isNilV, pw_drawT, pwT_nil, pwT_step, pwT_alt, kT_nil, kT_cons, gI, gM, gT, gF, gN, gNT, gNF, dI, dM, dT, dF]
  refine ⟨⟨?_, ?_, by omega, by simp, by simp; omega, ⟨fun e he => by simp at he, fun e he => by simp at he⟩⟩, ?_⟩
  · exact VH.get_push_at (by simp)
  · rw [VH.get_push_lt _ _ (by simp), VH.get_push_new]
  · exact (Fr.push h _ []).trans (Fr.push _ _ [])

set_option maxHeartbeats 2000000 in
theorem can_ok (now span : Int) (h : VH) : PCalls Try.prog f_ident_can [.int .i64 now, .int .i64 span] h (fun u h' => u = .bool (decide (canP now span)) ∧ h' = h) := by
  refine PCalls_of_pw st_ident_can (by simp [n_ident_can]) ?_
  rw [b_ident_can]
  by_cases h1 : 0 ≤ now
  · by_cases h2 : now ≤ 1125899906842624
    · by_cases h3 : 1 ≤ span
      · simp (disch := first|omega|(simp only [np,ns];try omega)) [B_ident_can, pun, pbinS, -BitVec.toNat_or, -BitVec.toNat_xor, -BitVec.toNat_add, -BitVec.toNat_and, -BitVec.toNat_not, -BitVec.toNat_shiftLeft, -BitVec.toNat_ushiftRight, pbin, pbinI, i64_small, IntKind.bits, h1, h2, h3, canP, r_ident_can, ret_r, resV, resL, resOne, pw_skip, pw_ops, pw_quiet, pw_seq, pw_cond, pw_block, pw_exit, pw_ret, pw_scope, pw_label, kSeq_normal, kSeq_ret, kSeq_exit, kBlock_normal, kBlock_ret, kBlock_exit, kScope_normal, kScope_ret, kScope_exit, kLoop_normal, kLoop_ret, kLoop_exit, kCond_true, kCond_false, kCond_dec, pwOps_nil, pwOps_call, pwOps_guard, kStep_some, kCall_at, pwQ_nil, pwQ_call, pwQ_guard, kQ_some, putS_some, putS_none, upd_apply, ev_t, ev_k, isB_bool, isB_undef, s0_apply, pstep, pwO_mov, pwO_pick, pwO_nilck, pwO_bin, pwO_binB, pwO_eqNil, pwO_un, pwO_convI, pwO_convS, pwO_alloc, pwO_build, pwO_load, pwO_store, pwO_fieldAddr, pwO_field, pwO_idxS, pwO_idxA, pwO_idxV, pwO_strAt, pwO_lenStr, pwO_lenS, pwO_lenC, pwO_slS, pwO_slA, pwO_slStr, pwO_extract, pwO_mkFunc, pwO_mkIface, pwO_append, pwO_appendStr, pwO_appendZ, pwO_toBytes, pwO_ofB, pwO_box, pwO_row, pwO_minmax, pwO_eqV, pwO_sameB, pwR_mov, pwR_pick, pwR_nilck, pwR_bin, pwR_binB, pwR_eqNil, pwR_un, pwR_convI, pwR_convS, pwR_build, pwR_load, pwR_fieldAddr, pwR_field, pwR_idxS, pwR_idxA, pwR_idxV, pwR_strAt, pwR_lenStr, pwR_lenS, pwR_lenC, pwR_slS, pwR_slA, pwR_slStr, pwR_extract, pwR_mkFunc, pwR_mkIface, pwR_ofB, pwR_minmax, pwR_eqV, ret_r, ret_n, kRet_some, resV0, resV1, resV2, resV3, resV4, VH.get_push_new, VH.get_set_same, VH.n_push, VH.n_set, cellsL_agg, cellsL_int, cellsL_bool, cellsL_string, cellsL_slice, cellsL_pointer, cellsL_map, pw_draw, pwD_nil, pwD_cons, kD_nil, kD_cons, evalOK_plain, evalOK_guard, kEv_some, dstIs_some, dstIs_none, pw_goto, pw_scopeL, kSeq_goto, kBlock_goto, kLoop_goto, kScopeL_normal, kScopeL_ret, kScopeL_exit, kScopeL_goto, pwOps_callv, kCallv_fn, kCallv_yld, pwOps_nextM, pwO_makeMap, pwO_lookup, pwR_lookup, pwO_mapSet, pwO_mapDel, pwO_lenM, pwR_lenM, pwO_mapEntry, pwO_entrySet, pwO_rangeS, pwO_nextS, pwO_rangeM, pwO_entryM, pwR_entryM, pwO_copyV, pwO_makeSl, pwO_asrt, pwR_asrt, kStep_if, kStep_dif, kQ_if, kQ_dif, kEv_if, bound_none, bound_some, toNat_add', toNat_sub', toNat_mul', kLoopN_normal, kLoopN_ret, kLoopN_exit, kLoopN_goto, Option.map_some, Option.map_none, loadAt_obj, storeAt_obj, rowOf_obj, eszIs_obj, eszObj_cells, loadObj_tab, storeObj_tab_int, VH.get_set_ne, VH.get_push_lt, VH.set_set, tab_length, List.getElem?_cons_zero, List.getElem?_cons_succ, List.length_cons, List.length_nil, oneC_int, oneC_bool, oneC_string, oneC_slice, oneC_pointer, oneC_map, srcCells_at, srcCells_nil, VH.get_push_at, isNilV, pw_drawT, pwT_nil, pwT_step, pwT_alt, kT_nil, kT_cons, gI, gM, gT, gF, gN, gNT, gNF, dI, dM, dT, dF]
      · simp (disch := first|omega|(simp only [np,ns];try omega)) [B_ident_can, pun, pbinS, -BitVec.toNat_or, -BitVec.toNat_xor, -BitVec.toNat_add, -BitVec.toNat_and, -BitVec.toNat_not, -BitVec.toNat_shiftLeft, -BitVec.toNat_ushiftRight, pbin, pbinI, i64_small, IntKind.bits, h1, h2, h3, canP, r_ident_can, ret_r, resV, resL, resOne, pw_skip, pw_ops, pw_quiet, pw_seq, pw_cond, pw_block, pw_exit, pw_ret, pw_scope, pw_label, kSeq_normal, kSeq_ret, kSeq_exit, kBlock_normal, kBlock_ret, kBlock_exit, kScope_normal, kScope_ret, kScope_exit, kLoop_normal, kLoop_ret, kLoop_exit, kCond_true, kCond_false, kCond_dec, pwOps_nil, pwOps_call, pwOps_guard, kStep_some, kCall_at, pwQ_nil, pwQ_call, pwQ_guard, kQ_some, putS_some, putS_none, upd_apply, ev_t, ev_k, isB_bool, isB_undef, s0_apply, pstep, pwO_mov, pwO_pick, pwO_nilck, pwO_bin, pwO_binB, pwO_eqNil, pwO_un, pwO_convI, pwO_convS, pwO_alloc, pwO_build, pwO_load, pwO_store, pwO_fieldAddr, pwO_field, pwO_idxS, pwO_idxA, pwO_idxV, pwO_strAt, pwO_lenStr, pwO_lenS, pwO_lenC, pwO_slS, pwO_slA, pwO_slStr, pwO_extract, pwO_mkFunc, pwO_mkIface, pwO_append, pwO_appendStr, pwO_appendZ, pwO_toBytes, pwO_ofB, pwO_box, pwO_row, pwO_minmax, pwO_eqV, pwO_sameB, pwR_mov, pwR_pick, pwR_nilck, pwR_bin, pwR_binB, pwR_eqNil, pwR_un, pwR_convI, pwR_convS, pwR_build, pwR_load, pwR_fieldAddr, pwR_field, pwR_idxS, pwR_idxA, pwR_idxV, pwR_strAt, pwR_lenStr, pwR_lenS, pwR_lenC, pwR_slS, pwR_slA, pwR_slStr, pwR_extract, pwR_mkFunc, pwR_mkIface, pwR_ofB, pwR_minmax, pwR_eqV, ret_r, ret_n, kRet_some, resV0, resV1, resV2, resV3, resV4, VH.get_push_new, VH.get_set_same, VH.n_push, VH.n_set, cellsL_agg, cellsL_int, cellsL_bool, cellsL_string, cellsL_slice, cellsL_pointer, cellsL_map, pw_draw, pwD_nil, pwD_cons, kD_nil, kD_cons, evalOK_plain, evalOK_guard, kEv_some, dstIs_some, dstIs_none, pw_goto, pw_scopeL, kSeq_goto, kBlock_goto, kLoop_goto, kScopeL_normal, kScopeL_ret, kScopeL_exit, kScopeL_goto, pwOps_callv, kCallv_fn, kCallv_yld, pwOps_nextM, pwO_makeMap, pwO_lookup, pwR_lookup, pwO_mapSet, pwO_mapDel, pwO_lenM, pwR_lenM, pwO_mapEntry, pwO_entrySet, pwO_rangeS, pwO_nextS, pwO_rangeM, pwO_entryM, pwR_entryM, pwO_copyV, pwO_makeSl, pwO_asrt, pwR_asrt, kStep_if, kStep_dif, kQ_if, kQ_dif, kEv_if, bound_none, bound_some, toNat_add', toNat_sub', toNat_mul', kLoopN_normal, kLoopN_ret, kLoopN_exit, kLoopN_goto, Option.map_some, Option.map_none, loadAt_obj, storeAt_obj, rowOf_obj, eszIs_obj, eszObj_cells, loadObj_tab, storeObj_tab_int, VH.get_set_ne, VH.get_push_lt, VH.set_set, tab_length, List.getElem?_cons_zero, List.getElem?_cons_succ, List.length_cons, List.length_nil, oneC_int, oneC_bool, oneC_string, oneC_slice, oneC_pointer, oneC_map, srcCells_at, srcCells_nil, VH.get_push_at, isNilV, pw_drawT, pwT_nil, pwT_step, pwT_alt, kT_nil, kT_cons, gI, gM, gT, gF, gN, gNT, gNF, dI, dM, dT, dF]
    · simp (disch := first|omega|(simp only [np,ns];try omega)) [B_ident_can, pun, pbinS, -BitVec.toNat_or, -BitVec.toNat_xor, -BitVec.toNat_add, -BitVec.toNat_and, -BitVec.toNat_not, -BitVec.toNat_shiftLeft, -BitVec.toNat_ushiftRight, pbin, pbinI, i64_small, IntKind.bits, h1, h2, canP, r_ident_can, ret_r, resV, resL, resOne, pw_skip, pw_ops, pw_quiet, pw_seq, pw_cond, pw_block, pw_exit, pw_ret, pw_scope, pw_label, kSeq_normal, kSeq_ret, kSeq_exit, kBlock_normal, kBlock_ret, kBlock_exit, kScope_normal, kScope_ret, kScope_exit, kLoop_normal, kLoop_ret, kLoop_exit, kCond_true, kCond_false, kCond_dec, pwOps_nil, pwOps_call, pwOps_guard, kStep_some, kCall_at, pwQ_nil, pwQ_call, pwQ_guard, kQ_some, putS_some, putS_none, upd_apply, ev_t, ev_k, isB_bool, isB_undef, s0_apply, pstep, pwO_mov, pwO_pick, pwO_nilck, pwO_bin, pwO_binB, pwO_eqNil, pwO_un, pwO_convI, pwO_convS, pwO_alloc, pwO_build, pwO_load, pwO_store, pwO_fieldAddr, pwO_field, pwO_idxS, pwO_idxA, pwO_idxV, pwO_strAt, pwO_lenStr, pwO_lenS, pwO_lenC, pwO_slS, pwO_slA, pwO_slStr, pwO_extract, pwO_mkFunc, pwO_mkIface, pwO_append, pwO_appendStr, pwO_appendZ, pwO_toBytes, pwO_ofB, pwO_box, pwO_row, pwO_minmax, pwO_eqV, pwO_sameB, pwR_mov, pwR_pick, pwR_nilck, pwR_bin, pwR_binB, pwR_eqNil, pwR_un, pwR_convI, pwR_convS, pwR_build, pwR_load, pwR_fieldAddr, pwR_field, pwR_idxS, pwR_idxA, pwR_idxV, pwR_strAt, pwR_lenStr, pwR_lenS, pwR_lenC, pwR_slS, pwR_slA, pwR_slStr, pwR_extract, pwR_mkFunc, pwR_mkIface, pwR_ofB, pwR_minmax, pwR_eqV, ret_r, ret_n, kRet_some, resV0, resV1, resV2, resV3, resV4, VH.get_push_new, VH.get_set_same, VH.n_push, VH.n_set, cellsL_agg, cellsL_int, cellsL_bool, cellsL_string, cellsL_slice, cellsL_pointer, cellsL_map, pw_draw, pwD_nil, pwD_cons, kD_nil, kD_cons, evalOK_plain, evalOK_guard, kEv_some, dstIs_some, dstIs_none, pw_goto, pw_scopeL, kSeq_goto, kBlock_goto, kLoop_goto, kScopeL_normal, kScopeL_ret, kScopeL_exit, kScopeL_goto, pwOps_callv, kCallv_fn, kCallv_yld, pwOps_nextM, pwO_makeMap, pwO_lookup, pwR_lookup, pwO_mapSet, pwO_mapDel, pwO_lenM, pwR_lenM, pwO_mapEntry, pwO_entrySet, pwO_rangeS, pwO_nextS, pwO_rangeM, pwO_entryM, pwR_entryM, pwO_copyV, pwO_makeSl, pwO_asrt, pwR_asrt, kStep_if, kStep_dif, kQ_if, kQ_dif, kEv_if, bound_none, bound_some, toNat_add', toNat_sub', toNat_mul', kLoopN_normal, kLoopN_ret, kLoopN_exit, kLoopN_goto, Option.map_some, Option.map_none, loadAt_obj, storeAt_obj, rowOf_obj, eszIs_obj, eszObj_cells, loadObj_tab, storeObj_tab_int, VH.get_set_ne, VH.get_push_lt, VH.set_set, tab_length, List.getElem?_cons_zero, List.getElem?_cons_succ, List.length_cons, List.length_nil, oneC_int, oneC_bool, oneC_string, oneC_slice, oneC_pointer, oneC_map, srcCells_at, srcCells_nil, VH.get_push_at, isNilV, pw_drawT, pwT_nil, pwT_step, pwT_alt, kT_nil, kT_cons, gI, gM, gT, gF, gN, gNT, gNF, dI, dM, dT, dF]
  · simp (disch := first|omega|(simp only [np,ns];try omega)) [B_ident_can, pun, pbinS, -BitVec.toNat_or, -BitVec.toNat_xor, -BitVec.toNat_add, -BitVec.toNat_and, -BitVec.toNat_not, -BitVec.toNat_shiftLeft, -BitVec.toNat_ushiftRight, pbin, pbinI, i64_small, IntKind.bits, h1, canP, r_ident_can, ret_r, resV, resL, resOne, pw_skip, pw_ops, pw_quiet, pw_seq, pw_cond, pw_block, pw_exit, pw_ret, pw_scope, pw_label, kSeq_normal, kSeq_ret, kSeq_exit, kBlock_normal, kBlock_ret, kBlock_exit, kScope_normal, kScope_ret, kScope_exit, kLoop_normal, kLoop_ret, kLoop_exit, kCond_true, kCond_false, kCond_dec, pwOps_nil, pwOps_call, pwOps_guard, kStep_some, kCall_at, pwQ_nil, pwQ_call, pwQ_guard, kQ_some, putS_some, putS_none, upd_apply, ev_t, ev_k, isB_bool, isB_undef, s0_apply, pstep, pwO_mov, pwO_pick, pwO_nilck, pwO_bin, pwO_binB, pwO_eqNil, pwO_un, pwO_convI, pwO_convS, pwO_alloc, pwO_build, pwO_load, pwO_store, pwO_fieldAddr, pwO_field, pwO_idxS, pwO_idxA, pwO_idxV, pwO_strAt, pwO_lenStr, pwO_lenS, pwO_lenC, pwO_slS, pwO_slA, pwO_slStr, pwO_extract, pwO_mkFunc, pwO_mkIface, pwO_append, pwO_appendStr, pwO_appendZ, pwO_toBytes, pwO_ofB, pwO_box, pwO_row, pwO_minmax, pwO_eqV, pwO_sameB, pwR_mov, pwR_pick, pwR_nilck, pwR_bin, pwR_binB, pwR_eqNil, pwR_un, pwR_convI, pwR_convS, pwR_build, pwR_load, pwR_fieldAddr, pwR_field, pwR_idxS, pwR_idxA, pwR_idxV, pwR_strAt, pwR_lenStr, pwR_lenS, pwR_lenC, pwR_slS, pwR_slA, pwR_slStr, pwR_extract, pwR_mkFunc, pwR_mkIface, pwR_ofB, pwR_minmax, pwR_eqV, ret_r, ret_n, kRet_some, resV0, resV1, resV2, resV3, resV4, VH.get_push_new, VH.get_set_same, VH.n_push, VH.n_set, cellsL_agg, cellsL_int, cellsL_bool, cellsL_string, cellsL_slice, cellsL_pointer, cellsL_map, pw_draw, pwD_nil, pwD_cons, kD_nil, kD_cons, evalOK_plain, evalOK_guard, kEv_some, dstIs_some, dstIs_none, pw_goto, pw_scopeL, kSeq_goto, kBlock_goto, kLoop_goto, kScopeL_normal, kScopeL_ret, kScopeL_exit, kScopeL_goto, pwOps_callv, kCallv_fn, kCallv_yld, pwOps_nextM, pwO_makeMap, pwO_lookup, pwR_lookup, pwO_mapSet, pwO_mapDel, pwO_lenM, pwR_lenM, pwO_mapEntry, pwO_entrySet, pwO_rangeS, pwO_nextS, pwO_rangeM, pwO_entryM, pwR_entryM, pwO_copyV, pwO_makeSl, pwO_asrt, pwR_asrt, kStep_if, kStep_dif, kQ_if, kQ_dif, kEv_if, bound_none, bound_some, toNat_add', toNat_sub', toNat_mul', kLoopN_normal, kLoopN_ret, kLoopN_exit, kLoopN_goto, Option.map_some, Option.map_none, loadAt_obj, storeAt_obj, rowOf_obj, eszIs_obj, eszObj_cells, loadObj_tab, storeObj_tab_int, VH.get_set_ne, VH.get_push_lt, VH.set_set, tab_length, List.getElem?_cons_zero, List.getElem?_cons_succ, List.length_cons, List.length_nil, oneC_int, oneC_bool, oneC_string, oneC_slice, oneC_pointer, oneC_map, srcCells_at, srcCells_nil, VH.get_push_at, isNilV, pw_drawT, pwT_nil, pwT_step, pwT_alt, kT_nil, kT_cons, gI, gM, gT, gF, gN, gNT, gNF, dI, dM, dT, dF]
theorem end_ok {now span : Int} (hc : canP now span) (h : VH) : PCalls Try.prog f_ident_end [.int .i64 now, .int .i64 span] h (fun u h' => u = .int .i64 (endP now span) ∧ h' = h) := by
  obtain ⟨⟨h1, h2⟩, h3, h4⟩ := hc
  refine PCalls_of_pw st_ident_end (by simp [n_ident_end]) ?_
  rw [b_ident_end]
  simp (disch := first|omega|(simp only [np,ns];try omega)) [B_ident_end, pun, pbinS, -BitVec.toNat_or, -BitVec.toNat_xor, -BitVec.toNat_add, -BitVec.toNat_and, -BitVec.toNat_not, -BitVec.toNat_shiftLeft, -BitVec.toNat_ushiftRight, pbin, pbinI, i64_small, IntKind.bits, r_ident_end, ret_r, resV, resL, resOne, pw_skip, pw_ops, pw_quiet, pw_seq, pw_cond, pw_block, pw_exit, pw_ret, pw_scope, pw_label, kSeq_normal, kSeq_ret, kSeq_exit, kBlock_normal, kBlock_ret, kBlock_exit, kScope_normal, kScope_ret, kScope_exit, kLoop_normal, kLoop_ret, kLoop_exit, kCond_true, kCond_false, kCond_dec, pwOps_nil, pwOps_call, pwOps_guard, kStep_some, kCall_at, pwQ_nil, pwQ_call, pwQ_guard, kQ_some, putS_some, putS_none, upd_apply, ev_t, ev_k, isB_bool, isB_undef, s0_apply, pstep, pwO_mov, pwO_pick, pwO_nilck, pwO_bin, pwO_binB, pwO_eqNil, pwO_un, pwO_convI, pwO_convS, pwO_alloc, pwO_build, pwO_load, pwO_store, pwO_fieldAddr, pwO_field, pwO_idxS, pwO_idxA, pwO_idxV, pwO_strAt, pwO_lenStr, pwO_lenS, pwO_lenC, pwO_slS, pwO_slA, pwO_slStr, pwO_extract, pwO_mkFunc, pwO_mkIface, pwO_append, pwO_appendStr, pwO_appendZ, pwO_toBytes, pwO_ofB, pwO_box, pwO_row, pwO_minmax, pwO_eqV, pwO_sameB, pwR_mov, pwR_pick, pwR_nilck, pwR_bin, pwR_binB, pwR_eqNil, pwR_un, pwR_convI, pwR_convS, pwR_build, pwR_load, pwR_fieldAddr, pwR_field, pwR_idxS, pwR_idxA, pwR_idxV, pwR_strAt, pwR_lenStr, pwR_lenS, pwR_lenC, pwR_slS, pwR_slA, pwR_slStr, pwR_extract, pwR_mkFunc, pwR_mkIface, pwR_ofB, pwR_minmax, pwR_eqV, ret_r, ret_n, kRet_some, resV0, resV1, resV2, resV3, resV4, VH.get_push_new, VH.get_set_same, VH.n_push, VH.n_set, cellsL_agg, cellsL_int, cellsL_bool, cellsL_string, cellsL_slice, cellsL_pointer, cellsL_map, pw_draw, pwD_nil, pwD_cons, kD_nil, kD_cons, evalOK_plain, evalOK_guard, kEv_some, dstIs_some, dstIs_none, pw_goto, pw_scopeL, kSeq_goto, kBlock_goto, kLoop_goto, kScopeL_normal, kScopeL_ret, kScopeL_exit, kScopeL_goto, pwOps_callv, kCallv_fn, kCallv_yld, pwOps_nextM, pwO_makeMap, pwO_lookup, pwR_lookup, pwO_mapSet, pwO_mapDel, pwO_lenM, pwR_lenM, pwO_mapEntry, pwO_entrySet, pwO_rangeS, pwO_nextS, pwO_rangeM, pwO_entryM, pwR_entryM, pwO_copyV, pwO_makeSl, pwO_asrt, pwR_asrt, kStep_if, kStep_dif, kQ_if, kQ_dif, kEv_if, bound_none, bound_some, toNat_add', toNat_sub', toNat_mul', kLoopN_normal, kLoopN_ret, kLoopN_exit, kLoopN_goto, Option.map_some, Option.map_none, loadAt_obj, storeAt_obj, rowOf_obj, eszIs_obj, eszObj_cells, loadObj_tab, storeObj_tab_int, VH.get_set_ne, VH.get_push_lt, VH.set_set, tab_length, List.getElem?_cons_zero, List.getElem?_cons_succ, List.length_cons, List.length_nil, oneC_int, oneC_bool, oneC_string, oneC_slice, oneC_pointer, oneC_map, srcCells_at, srcCells_nil, VH.get_push_at, isNilV, pw_drawT, pwT_nil, pwT_step, pwT_alt, kT_nil, kT_cons, gI, gM, gT, gF, gN, gNT, gNF, dI, dM, dT, dF]
  rfl
end Go.Proofs.Ytaeegilpfoiagaa.Id
