/- ident, part L: a session is looked up; the law of lasting. -/
import Derived.Test.YtaeegilpfoiagaaIdK
set_option linter.unusedVariables false
set_option linter.unusedSimpArgs false
set_option maxRecDepth 100000
namespace Go.Proofs.Ytaeegilpfoiagaa.Id
open Go Go.RowKit Go.Proofs.Ytaeegilpfoiagaa.Pm Go.Proofs.Ytaeegilpfoiagaa.Fs

theorem keq_int {k : IntKind} {a b : Int} : keq (.int k a) (.int k b) = (a == b) := rfl
theorem mget_mput_ne {a b : Int} (h : a ≠ b) {v : Value} {c : Nat} : ∀ {es : Ents} {last : Int}, EsOK es last → mget (.int .i64 a) (mput (.int .i64 b) v c es) = mget (.int .i64 a) es
  | [], _, _ => by
    have : (a == b) = false := by rw [beq_eq_false_iff_ne]; exact h
    simp [mput, mget, keq_int, this]
  | e :: r, last, ho => by
    obtain ⟨k, hk, _⟩ := ho.key e (List.mem_cons_self ..)
    have ih := mget_mput_ne h (v := v) (c := c) (es := r) (last := last) ⟨fun x hx => ho.ses x (List.mem_cons_of_mem _ hx), fun x hx => ho.key x (List.mem_cons_of_mem _ hx)⟩
    unfold mput
    rw [hk, keq_int]
    by_cases hb : b = k
    · subst hb
      rw [beq_self_eq_true, if_pos rfl]
      have : (a == b) = false := by rw [beq_eq_false_iff_ne]; exact h
      simp [mget, keq_int, this, hk]
    · have hb' : (b == k) = false := by rw [beq_eq_false_iff_ne]; exact hb
      rw [hb', if_neg (by simp)]
      simp only [mget, hk, keq_int, ih]

theorem mput_new {b last : Int} (h : last < b) {v : Value} {c : Nat} : ∀ {es : Ents}, EsOK es last → (mput (.int .i64 b) v c es).length = es.length + 1
  | [], _ => rfl
  | e :: r, ho => by
    obtain ⟨k, hk, hl⟩ := ho.key e (List.mem_cons_self ..)
    have ih := mput_new h (v := v) (c := c) (es := r) ⟨fun x hx => ho.ses x (List.mem_cons_of_mem _ hx), fun x hx => ho.key x (List.mem_cons_of_mem _ hx)⟩
    unfold mput
    have hb : (b == k) = false := by rw [beq_eq_false_iff_ne]; omega
    rw [hk, keq_int, hb, if_neg (by simp)]
    simp [ih]

set_option maxHeartbeats 4000000 in
theorem who_ok {h : VH} {i j : Nat} {es : Ents} {clk : Nat} {last id now : Int} {x y : List UInt8} {z : Bool} {o : Int} (ht : Tab h i j es clk last) (hg : mget (.int .i64 id) es = some (sesV x y z o)) :
    PCalls Try.prog f_ident_Table_Who [.pointer (some ⟨i, 0, none⟩), .int .i64 id, .int .i64 now] h (fun u h' => u = (if now < o then .tuple #[idV x y z, .int .i64 0] else .tuple #[idV [] [] false, .int .i64 5]) ∧ Fr h h' []) := by
  refine PCalls_of_pw st_ident_Table_Who (by simp [n_ident_Table_Who]) ?_
  rw [b_ident_Table_Who]
  have hri := ht.rec_
  have hmj := ht.map_
  have hk := ht.ok.fits
  have hli := ht.lti
  have hlj := ht.ltj
  have hfit : fitK (.i .i64) (.int .i64 id) = true := rfl
  have hmv : mval true (.agg #[.string ⟨#[]⟩, .string ⟨#[]⟩, .bool false, .int .i64 0]) (some (sesV x y z o)) = .tuple #[.agg #[.string (strB x), .string (strB y), .bool z, .int .i64 o], .bool true] := rfl
  have hl3 : ∀ {a b c d : Value} {ow : Bool} {e : Nat}, loadObj (.cells [a, b, c, d] ow e) 3 none = some d := rfl
  have hlA : ∀ {a b c d : Value} {ow : Bool} {e : Nat}, loadObj (.cells [a, b, c, d] ow e) 0 (some 3) = some (.agg #[a, b, c]) := rfl
  by_cases hlt : now < o
  · have hge : ¬ o ≤ now := by omega
    rw [if_pos hlt]
    simp (disch := first|omega|(simp only [np,ns];try omega)) [B_ident_Table_Who, pun, pbinS, -BitVec.toNat_or, -BitVec.toNat_xor, -BitVec.toNat_add, -BitVec.toNat_and, -BitVec.toNat_not, -BitVec.toNat_shiftLeft, -BitVec.toNat_ushiftRight, pbin, pbinI, i64_small, IntKind.bits, hri, hmj, tb_ld0, hfit, hk, hg, hmv, s4_stA, hl3, hlA, hge, id_stA, id_ldA, r_ident_Table_Who, ret_r, resV, resL, resOne, pw_skip, pw_ops, pw_quiet, pw_seq, pw_cond, pw_block, pw_exit, pw_ret, pw_scope, pw_label, kSeq_normal, kSeq_ret, kSeq_exit, kBlock_normal, kBlock_ret, kBlock_exit, kScope_normal, kScope_ret, kScope_exit, kLoop_normal, kLoop_ret, kLoop_exit, kCond_true, kCond_false, kCond_dec, pwOps_nil, pwOps_call, pwOps_guard, kStep_some, kCall_at, pwQ_nil, pwQ_call, pwQ_guard, kQ_some, putS_some, putS_none, upd_apply, ev_t, ev_k, isB_bool, isB_undef, s0_apply, pstep, pwO_mov, pwO_pick, pwO_nilck, pwO_bin, pwO_binB, pwO_eqNil, pwO_un, pwO_convI, pwO_convS, pwO_alloc, pwO_build, pwO_load, pwO_store, pwO_fieldAddr, pwO_field, pwO_idxS, pwO_idxA, pwO_idxV, pwO_strAt, pwO_lenStr, pwO_lenS, pwO_lenC, pwO_slS, pwO_slA, pwO_slStr, pwO_extract, pwO_mkFunc, pwO_mkIface, pwO_append, pwO_appendStr, pwO_appendZ, pwO_toBytes, pwO_ofB, pwO_box, pwO_row, pwO_minmax, pwO_eqV, pwO_sameB, pwR_mov, pwR_pick, pwR_nilck, pwR_bin, pwR_binB, pwR_eqNil, pwR_un, pwR_convI, pwR_convS, pwR_build, pwR_load, pwR_fieldAddr, pwR_field, pwR_idxS, pwR_idxA, pwR_idxV, pwR_strAt, pwR_lenStr, pwR_lenS, pwR_lenC, pwR_slS, pwR_slA, pwR_slStr, pwR_extract, pwR_mkFunc, pwR_mkIface, pwR_ofB, pwR_minmax, pwR_eqV, ret_r, ret_n, kRet_some, resV0, resV1, resV2, resV3, resV4, VH.get_push_new, VH.get_set_same, VH.n_push, VH.n_set, cellsL_agg, cellsL_int, cellsL_bool, cellsL_string, cellsL_slice, cellsL_pointer, cellsL_map, pw_draw, pwD_nil, pwD_cons, kD_nil, kD_cons, evalOK_plain, evalOK_guard, kEv_some, dstIs_some, dstIs_none, pw_goto, pw_scopeL, kSeq_goto, kBlock_goto, kLoop_goto, kScopeL_normal, kScopeL_ret, kScopeL_exit, kScopeL_goto, pwOps_callv, kCallv_fn, kCallv_yld, pwOps_nextM, pwO_makeMap, pwO_lookup, pwR_lookup, pwO_mapSet, pwO_mapDel, pwO_lenM, pwR_lenM, pwO_mapEntry, pwO_entrySet, pwO_rangeS, pwO_nextS, pwO_rangeM, pwO_entryM, pwR_entryM, pwO_copyV, pwO_makeSl, pwO_asrt, pwR_asrt, kStep_if, kStep_dif, kQ_if, kQ_dif, kEv_if, bound_none, bound_some, toNat_add', toNat_sub', toNat_mul', kLoopN_normal, kLoopN_ret, kLoopN_exit, kLoopN_goto, Option.map_some, Option.map_none, loadAt_obj, storeAt_obj, rowOf_obj, eszIs_obj, eszObj_cells, loadObj_tab, storeObj_tab_int, VH.get_set_ne, VH.get_push_lt, VH.set_set, tab_length, List.getElem?_cons_zero, List.getElem?_cons_succ, List.length_cons, List.length_nil, oneC_int, oneC_bool, oneC_string, oneC_slice, oneC_pointer, oneC_map, srcCells_at, srcCells_nil, VH.get_push_at, isNilV, pw_drawT, pwT_nil, pwT_step, pwT_alt, kT_nil, kT_cons, gI, gM, gT, gF, gN, gNT, gNF, dI, dM, dT, dF]
    refine ⟨rfl, ?_⟩
    repeat first | exact Fr.refl _ _ | refine Fr_push ?_ | refine Fr_set ?_ (by simp; try omega)
  · have hge : o ≤ now := by omega
    rw [if_neg hlt]
    simp (disch := first|omega|(simp only [np,ns];try omega)) [B_ident_Table_Who, pun, pbinS, -BitVec.toNat_or, -BitVec.toNat_xor, -BitVec.toNat_add, -BitVec.toNat_and, -BitVec.toNat_not, -BitVec.toNat_shiftLeft, -BitVec.toNat_ushiftRight, pbin, pbinI, i64_small, IntKind.bits, hri, hmj, tb_ld0, hfit, hk, hg, hmv, s4_stA, hl3, hlA, hge, id_stA, id_ldA, fillC_nil, r_ident_Table_Who, ret_r, resV, resL, resOne, pw_skip, pw_ops, pw_quiet, pw_seq, pw_cond, pw_block, pw_exit, pw_ret, pw_scope, pw_label, kSeq_normal, kSeq_ret, kSeq_exit, kBlock_normal, kBlock_ret, kBlock_exit, kScope_normal, kScope_ret, kScope_exit, kLoop_normal, kLoop_ret, kLoop_exit, kCond_true, kCond_false, kCond_dec, pwOps_nil, pwOps_call, pwOps_guard, kStep_some, kCall_at, pwQ_nil, pwQ_call, pwQ_guard, kQ_some, putS_some, putS_none, upd_apply, ev_t, ev_k, isB_bool, isB_undef, s0_apply, pstep, pwO_mov, pwO_pick, pwO_nilck, pwO_bin, pwO_binB, pwO_eqNil, pwO_un, pwO_convI, pwO_convS, pwO_alloc, pwO_build, pwO_load, pwO_store, pwO_fieldAddr, pwO_field, pwO_idxS, pwO_idxA, pwO_idxV, pwO_strAt, pwO_lenStr, pwO_lenS, pwO_lenC, pwO_slS, pwO_slA, pwO_slStr, pwO_extract, pwO_mkFunc, pwO_mkIface, pwO_append, pwO_appendStr, pwO_appendZ, pwO_toBytes, pwO_ofB, pwO_box, pwO_row, pwO_minmax, pwO_eqV, pwO_sameB, pwR_mov, pwR_pick, pwR_nilck, pwR_bin, pwR_binB, pwR_eqNil, pwR_un, pwR_convI, pwR_convS, pwR_build, pwR_load, pwR_fieldAddr, pwR_field, pwR_idxS, pwR_idxA, pwR_idxV, pwR_strAt, pwR_lenStr, pwR_lenS, pwR_lenC, pwR_slS, pwR_slA, pwR_slStr, pwR_extract, pwR_mkFunc, pwR_mkIface, pwR_ofB, pwR_minmax, pwR_eqV, ret_r, ret_n, kRet_some, resV0, resV1, resV2, resV3, resV4, VH.get_push_new, VH.get_set_same, VH.n_push, VH.n_set, cellsL_agg, cellsL_int, cellsL_bool, cellsL_string, cellsL_slice, cellsL_pointer, cellsL_map, pw_draw, pwD_nil, pwD_cons, kD_nil, kD_cons, evalOK_plain, evalOK_guard, kEv_some, dstIs_some, dstIs_none, pw_goto, pw_scopeL, kSeq_goto, kBlock_goto, kLoop_goto, kScopeL_normal, kScopeL_ret, kScopeL_exit, kScopeL_goto, pwOps_callv, kCallv_fn, kCallv_yld, pwOps_nextM, pwO_makeMap, pwO_lookup, pwR_lookup, pwO_mapSet, pwO_mapDel, pwO_lenM, pwR_lenM, pwO_mapEntry, pwO_entrySet, pwO_rangeS, pwO_nextS, pwO_rangeM, pwO_entryM, pwR_entryM, pwO_copyV, pwO_makeSl, pwO_asrt, pwR_asrt, kStep_if, kStep_dif, kQ_if, kQ_dif, kEv_if, bound_none, bound_some, toNat_add', toNat_sub', toNat_mul', kLoopN_normal, kLoopN_ret, kLoopN_exit, kLoopN_goto, Option.map_some, Option.map_none, loadAt_obj, storeAt_obj, rowOf_obj, eszIs_obj, eszObj_cells, loadObj_tab, storeObj_tab_int, VH.get_set_ne, VH.get_push_lt, VH.set_set, tab_length, List.getElem?_cons_zero, List.getElem?_cons_succ, List.length_cons, List.length_nil, oneC_int, oneC_bool, oneC_string, oneC_slice, oneC_pointer, oneC_map, srcCells_at, srcCells_nil, VH.get_push_at, isNilV, pw_drawT, pwT_nil, pwT_step, pwT_alt, kT_nil, kT_cons, gI, gM, gT, gF, gN, gNT, gNF, dI, dM, dT, dF]
    refine ⟨rfl, ?_⟩
    repeat first | exact Fr.refl _ _ | refine Fr_push ?_ | refine Fr_set ?_ (by simp; try omega)
end Go.Proofs.Ytaeegilpfoiagaa.Id
