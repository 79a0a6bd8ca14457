/- SHA-256, part J: lent bytes; the law of sums. -/
import Derived.Test.YtadkbkkfpajghaaShaI
set_option linter.unusedVariables false
set_option linter.unusedSimpArgs false
set_option maxRecDepth 100000
namespace Go.Proofs.Ytadkbkkfpajghaa.Sha
open Go Go.RowKit Go.Proofs.Ytadkbkkfpajghaa.Pm Go.Proofs.Ytadkbkkfpajghaa.Fs

/-- bytes lent, with one byte behind them. -/
def Lent (h : VH) (u : Value) (bs : List UInt8) : Prop := ∃ i o c, u = .slice (some ⟨i, o, none⟩) bs.length c ∧ bs.length < c ∧ i < h.n ∧ BytesAt h i o (bs ++ [77])
theorem Lent.bytes {h : VH} {u : Value} {bs : List UInt8} (hl : Lent h u bs) : IsBytes h u bs := by
  obtain ⟨i, o, c, rfl, hc, hi, hb⟩ := hl
  have := hb.sub 0 bs.length (by simp)
  simp at this
  exact this.is hi (by omega)

theorem lent_ok {h : VH} {v : Value} {bs : List UInt8} (hb : IsBytes h v bs) (hlen : bs.length ≤ 1099511627000) :
    PCalls Try.prog f_ref02_Lent [v] h (fun u h' => Lent h' u bs ∧ Fr h h' [] ∧ ∀ j ∈ idOf u, h.n ≤ j) := by
  refine PCalls_of_pw st_ref02_Lent (by simp [n_ref02_Lent]) ?_
  rw [b_ref02_Lent]
  obtain ⟨va, vc, rfl⟩ := hb.shape
  obtain ⟨w1, g1, hap1, hB1⟩ := (Buf.nil h).append bs (by simp; omega)
  obtain ⟨w2, g2, hap2, hB2⟩ := hB1.byte 77 (by simp; omega)
  have hap2 : appendV (g1.push (.cells [.int .u8 77] true 1)) 1 1 w1 [.int .u8 77] 1 = some (w2, g2) := hap2
  have hsrc := hb.src
  rw [List.nil_append] at hB2
  rcases hB2.is.cases with ⟨_, h1⟩ | ⟨i, o, c, hi, hc, rfl, hat⟩
  · simp at h1
  have hc2 : bs.length + 1 ≤ c := by simpa using hc
  have hez : eszObj (g2.get i) 1 = true := hat.esz
  simp (disch := first | omega | (simp only [VH.n_push, VH.n_set]; done) | (simp only [VH.n_push, VH.n_set]; omega)) [B_ref02_Lent, pun, pbinS, -BitVec.toNat_or, -BitVec.toNat_xor, -BitVec.toNat_add, -BitVec.toNat_and, -BitVec.toNat_not, -BitVec.toNat_shiftLeft, -BitVec.toNat_ushiftRight, pbin, pbinI, i64_small, IntKind.bits, hsrc, hap1, fill_u8, rowObj_u8, hap2, hez, r_ref02_Lent, ret_r, resV, resL, resOne, pw_skip, pw_ops, pw_quiet, pw_seq, pw_cond, pw_block, pw_exit, pw_ret, pw_scope, pw_label, kSeq_normal, kSeq_ret, kSeq_exit, kBlock_normal, kBlock_ret, kBlock_exit, kScope_normal, kScope_ret, kScope_exit, kLoop_normal, kLoop_ret, kLoop_exit, kCond_true, kCond_false, kCond_dec, pwOps_nil, pwOps_call, pwOps_guard, kStep_some, kCall_at, pwQ_nil, pwQ_call, pwQ_guard, kQ_some, putS_some, putS_none, upd_apply, ev_t, ev_k, isB_bool, isB_undef, s0_apply, pstep, pwO_mov, pwO_pick, pwO_nilck, pwO_bin, pwO_binB, pwO_eqNil, pwO_un, pwO_convI, pwO_convS, pwO_alloc, pwO_build, pwO_load, pwO_store, pwO_fieldAddr, pwO_field, pwO_idxS, pwO_idxA, pwO_idxV, pwO_strAt, pwO_lenStr, pwO_lenS, pwO_lenC, pwO_slS, pwO_slA, pwO_slStr, pwO_extract, pwO_mkFunc, pwO_mkIface, pwO_append, pwO_appendStr, pwO_toBytes, pwO_ofB, pwO_box, pwO_row, pwO_minmax, pwO_eqV, pwO_sameB, pwR_mov, pwR_pick, pwR_nilck, pwR_bin, pwR_binB, pwR_eqNil, pwR_un, pwR_convI, pwR_convS, pwR_build, pwR_load, pwR_fieldAddr, pwR_field, pwR_idxS, pwR_idxA, pwR_idxV, pwR_strAt, pwR_lenStr, pwR_lenS, pwR_lenC, pwR_slS, pwR_slA, pwR_slStr, pwR_extract, pwR_mkFunc, pwR_mkIface, pwR_ofB, pwR_minmax, pwR_eqV, ret_r, ret_n, kRet_some, resV0, resV1, resV2, resV3, resV4, VH.get_push_new, VH.get_set_same, VH.n_push, VH.n_set, cellsL_agg, cellsL_int, cellsL_bool, cellsL_string, cellsL_slice, cellsL_pointer, cellsL_map, pw_draw, pwD_nil, pwD_cons, kD_nil, kD_cons, evalOK_plain, evalOK_guard, kEv_some, dstIs_some, dstIs_none, pw_goto, pw_scopeL, kSeq_goto, kBlock_goto, kLoop_goto, kScopeL_normal, kScopeL_ret, kScopeL_exit, kScopeL_goto, pwOps_callv, kCallv_fn, kCallv_yld, pwOps_nextM, pwO_makeMap, pwO_lookup, pwR_lookup, pwO_mapSet, pwO_mapDel, pwO_lenM, pwR_lenM, pwO_mapEntry, pwO_entrySet, pwO_rangeS, pwO_nextS, pwO_rangeM, pwO_entryM, pwR_entryM, pwO_copyV, pwO_makeSl, pwO_asrt, pwR_asrt, kStep_if, kStep_dif, kQ_if, kQ_dif, kEv_if, bound_none, bound_some, toNat_add', toNat_sub', toNat_mul', kLoopN_normal, kLoopN_ret, kLoopN_exit, kLoopN_goto, Option.map_some, Option.map_none, loadAt_obj, storeAt_obj, rowOf_obj, eszIs_obj, eszObj_cells, loadObj_tab, storeObj_tab_int, VH.get_set_ne, VH.get_push_lt, VH.set_set, tab_length, List.getElem?_cons_zero, List.getElem?_cons_succ, List.length_cons, List.length_nil, oneC_int, oneC_bool, oneC_string, oneC_slice, oneC_pointer, oneC_map, srcCells_at, srcCells_nil, VH.get_push_at, isNilV, pw_drawT, pwT_nil, pwT_step, pwT_alt, kT_nil, kT_cons]
  exact ⟨⟨i, o, c, rfl, by omega, hi, hat⟩, hB2.fr, fun j hj => hB2.ids j (by simpa [idOf] using hj)⟩

theorem kept_ok {h : VH} {u v : Value} {bs : List UInt8} (hu : Lent h u bs) (hb : IsBytes h v bs) (hlen : bs.length ≤ 1099511627000) :
    PCalls Try.prog f_ref02_Kept [u, v] h (fun x h' => x = .bool true ∧ h' = h) := by
  refine PCalls_of_pw st_ref02_Kept (by simp [n_ref02_Kept]) ?_
  rw [b_ref02_Kept]
  have hub := hu.bytes
  obtain ⟨i, o, c, rfl, hc, hi, hat⟩ := hu
  obtain ⟨va, vc, rfl⟩ := hb.shape
  have hez : eszObj (h.get i) 1 = true := hat.esz
  have h77 := hat.at_ (k := bs.length) (by simp)
  simp at h77
  have hs1 := ofB_eq hub
  have hs2 := ofB_eq hb
  simp (disch := first | omega | (simp only [VH.n_push, VH.n_set]; done) | (simp only [VH.n_push, VH.n_set]; omega)) [B_ref02_Kept, pun, pbinS, -BitVec.toNat_or, -BitVec.toNat_xor, -BitVec.toNat_add, -BitVec.toNat_and, -BitVec.toNat_not, -BitVec.toNat_shiftLeft, -BitVec.toNat_ushiftRight, pbin, pbinI, i64_small, IntKind.bits, hez, h77, hs1, hs2, r_ref02_Kept, ret_r, resV, resL, resOne, pw_skip, pw_ops, pw_quiet, pw_seq, pw_cond, pw_block, pw_exit, pw_ret, pw_scope, pw_label, kSeq_normal, kSeq_ret, kSeq_exit, kBlock_normal, kBlock_ret, kBlock_exit, kScope_normal, kScope_ret, kScope_exit, kLoop_normal, kLoop_ret, kLoop_exit, kCond_true, kCond_false, kCond_dec, pwOps_nil, pwOps_call, pwOps_guard, kStep_some, kCall_at, pwQ_nil, pwQ_call, pwQ_guard, kQ_some, putS_some, putS_none, upd_apply, ev_t, ev_k, isB_bool, isB_undef, s0_apply, pstep, pwO_mov, pwO_pick, pwO_nilck, pwO_bin, pwO_binB, pwO_eqNil, pwO_un, pwO_convI, pwO_convS, pwO_alloc, pwO_build, pwO_load, pwO_store, pwO_fieldAddr, pwO_field, pwO_idxS, pwO_idxA, pwO_idxV, pwO_strAt, pwO_lenStr, pwO_lenS, pwO_lenC, pwO_slS, pwO_slA, pwO_slStr, pwO_extract, pwO_mkFunc, pwO_mkIface, pwO_append, pwO_appendStr, pwO_toBytes, pwO_ofB, pwO_box, pwO_row, pwO_minmax, pwO_eqV, pwO_sameB, pwR_mov, pwR_pick, pwR_nilck, pwR_bin, pwR_binB, pwR_eqNil, pwR_un, pwR_convI, pwR_convS, pwR_build, pwR_load, pwR_fieldAddr, pwR_field, pwR_idxS, pwR_idxA, pwR_idxV, pwR_strAt, pwR_lenStr, pwR_lenS, pwR_lenC, pwR_slS, pwR_slA, pwR_slStr, pwR_extract, pwR_mkFunc, pwR_mkIface, pwR_ofB, pwR_minmax, pwR_eqV, ret_r, ret_n, kRet_some, resV0, resV1, resV2, resV3, resV4, VH.get_push_new, VH.get_set_same, VH.n_push, VH.n_set, cellsL_agg, cellsL_int, cellsL_bool, cellsL_string, cellsL_slice, cellsL_pointer, cellsL_map, pw_draw, pwD_nil, pwD_cons, kD_nil, kD_cons, evalOK_plain, evalOK_guard, kEv_some, dstIs_some, dstIs_none, pw_goto, pw_scopeL, kSeq_goto, kBlock_goto, kLoop_goto, kScopeL_normal, kScopeL_ret, kScopeL_exit, kScopeL_goto, pwOps_callv, kCallv_fn, kCallv_yld, pwOps_nextM, pwO_makeMap, pwO_lookup, pwR_lookup, pwO_mapSet, pwO_mapDel, pwO_lenM, pwR_lenM, pwO_mapEntry, pwO_entrySet, pwO_rangeS, pwO_nextS, pwO_rangeM, pwO_entryM, pwR_entryM, pwO_copyV, pwO_makeSl, pwO_asrt, pwR_asrt, kStep_if, kStep_dif, kQ_if, kQ_dif, kEv_if, bound_none, bound_some, toNat_add', toNat_sub', toNat_mul', kLoopN_normal, kLoopN_ret, kLoopN_exit, kLoopN_goto, Option.map_some, Option.map_none, loadAt_obj, storeAt_obj, rowOf_obj, eszIs_obj, eszObj_cells, loadObj_tab, storeObj_tab_int, VH.get_set_ne, VH.get_push_lt, VH.set_set, tab_length, List.getElem?_cons_zero, List.getElem?_cons_succ, List.length_cons, List.length_nil, oneC_int, oneC_bool, oneC_string, oneC_slice, oneC_pointer, oneC_map, srcCells_at, srcCells_nil, VH.get_push_at, isNilV, pw_drawT, pwT_nil, pwT_step, pwT_alt, kT_nil, kT_cons]
  done
end Go.Proofs.Ytadkbkkfpajghaa.Sha
