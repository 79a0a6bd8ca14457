/- SHA-256, part K: digests as text. -/
import Derived.Test.YtadkbkkfpajghaaShaJ
set_option linter.unusedVariables false
set_option linter.unusedSimpArgs false
set_option maxRecDepth 100000
namespace Go.Proofs.Ytadkbkkfpajghaa.Sha
open Go Go.RowKit Go.Proofs.Ytadkbkkfpajghaa.Pm Go.Proofs.Ytadkbkkfpajghaa.Fs

def hexT : List UInt8 := [48, 49, 50, 51, 52, 53, 54, 55, 56, 57, 97, 98, 99, 100, 101, 102]
def hexD (n : Nat) : UInt8 := hexT.getD n 0
def hex2 (b : UInt8) : List UInt8 := [hexD (b.toNat / 16), hexD (b.toNat % 16)]
def hexS (l : List UInt8) : List UInt8 := l.flatMap hex2
theorem hexS_len (l : List UInt8) : (hexS l).length = 2 * l.length := by
  induction l with
  | nil => rfl
  | cons b r ih => simp [hexS, hex2] at ih ⊢; omega
theorem hexS_succ {l : List UInt8} {n : Nat} (h : n < l.length) : hexS (l.take (n + 1)) = hexS (l.take n) ++ hex2 l[n] := by
  rw [List.take_succ_eq_append_getElem h]; simp only [hexS, List.flatMap_append, List.flatMap_cons, List.flatMap_nil, List.append_nil]
theorem digV_at {l : List UInt8} {i : Nat} (h : i < l.length) : (u8s l)[i]? = some (.int .u8 (l[i]).toNat) := by simp [u8s, h]

theorem fill2_u8 (a b : Int) : fillC [.int .u8 0, .int .u8 0] [(0, 1, .int .u8 a), (1, 1, .int .u8 b)] = some [.int .u8 a, .int .u8 b] := rfl
theorem row2_u8 (a b : Int) {ow : Bool} {e : Nat} : rowObj (.cells [.int .u8 a, .int .u8 b] ow e) 0 2 = some [.int .u8 a, .int .u8 b] := rfl
theorem low4 (b : UInt8) : Go.bits .and .u8 (b.toNat : Int) 15 = ((b.toNat % 16 : Nat) : Int) := by
  have : ∀ n : Fin 256, Go.bits .and .u8 (n.val : Int) 15 = ((n.val % 16 : Nat) : Int) := by decide +kernel
  exact this ⟨b.toNat, b.toNat_lt⟩

set_option maxHeartbeats 2000000 in
theorem hex_ok' {h : VH} {l : List UInt8} (hl : l.length = 32) : PCalls Try.prog f_sha_Hex [digV l] h (fun u _ => u = .string (strB (hexS l))) := by
  refine PCalls_of_pw st_sha_Hex (by simp [n_sha_Hex]) ?_
  rw [b_sha_Hex]
  obtain ⟨g0, hg0⟩ : ∃ g0, g0 = h.push (.cells (u8s l) true 1) := ⟨_, rfl⟩
  have h0l : g0.get h.n = .cells (u8s l) true 1 := by rw [hg0]; exact VH.get_push_new _ _
  have hdl : loadObj (.cells (u8s l) true 1) 0 (some 32) = some (digV l) := dig_load hl
  simp (disch := first | omega | (simp only [VH.n_push, VH.n_set]; done) | (simp only [VH.n_push, VH.n_set]; omega)) [B_sha_Hex, pun, pbinS, -BitVec.toNat_or, -BitVec.toNat_xor, -BitVec.toNat_add, -BitVec.toNat_and, -BitVec.toNat_not, -BitVec.toNat_shiftLeft, -BitVec.toNat_ushiftRight, pbin, pbinI, i64_small, IntKind.bits, digV_cells, u8s_all, ← hg0, h0l, hdl, pw_skip, pw_ops, pw_quiet, pw_seq, pw_cond, pw_block, pw_exit, pw_ret, pw_scope, pw_label, kSeq_normal, kSeq_ret, kSeq_exit, kBlock_normal, kBlock_ret, kBlock_exit, kScope_normal, kScope_ret, kScope_exit, kLoop_normal, kLoop_ret, kLoop_exit, kCond_true, kCond_false, kCond_dec, pwOps_nil, pwOps_call, pwOps_guard, kStep_some, kCall_at, pwQ_nil, pwQ_call, pwQ_guard, kQ_some, putS_some, putS_none, upd_apply, ev_t, ev_k, isB_bool, isB_undef, s0_apply, pstep, pwO_mov, pwO_pick, pwO_nilck, pwO_bin, pwO_binB, pwO_eqNil, pwO_un, pwO_convI, pwO_convS, pwO_alloc, pwO_build, pwO_load, pwO_store, pwO_fieldAddr, pwO_field, pwO_idxS, pwO_idxA, pwO_idxV, pwO_strAt, pwO_lenStr, pwO_lenS, pwO_lenC, pwO_slS, pwO_slA, pwO_slStr, pwO_extract, pwO_mkFunc, pwO_mkIface, pwO_append, pwO_appendStr, pwO_toBytes, pwO_ofB, pwO_box, pwO_row, pwO_minmax, pwO_eqV, pwO_sameB, pwR_mov, pwR_pick, pwR_nilck, pwR_bin, pwR_binB, pwR_eqNil, pwR_un, pwR_convI, pwR_convS, pwR_build, pwR_load, pwR_fieldAddr, pwR_field, pwR_idxS, pwR_idxA, pwR_idxV, pwR_strAt, pwR_lenStr, pwR_lenS, pwR_lenC, pwR_slS, pwR_slA, pwR_slStr, pwR_extract, pwR_mkFunc, pwR_mkIface, pwR_ofB, pwR_minmax, pwR_eqV, ret_r, ret_n, kRet_some, resV0, resV1, resV2, resV3, resV4, VH.get_push_new, VH.get_set_same, VH.n_push, VH.n_set, cellsL_agg, cellsL_int, cellsL_bool, cellsL_string, cellsL_slice, cellsL_pointer, cellsL_map, pw_draw, pwD_nil, pwD_cons, kD_nil, kD_cons, evalOK_plain, evalOK_guard, kEv_some, dstIs_some, dstIs_none, pw_goto, pw_scopeL, kSeq_goto, kBlock_goto, kLoop_goto, kScopeL_normal, kScopeL_ret, kScopeL_exit, kScopeL_goto, pwOps_callv, kCallv_fn, kCallv_yld, pwOps_nextM, pwO_makeMap, pwO_lookup, pwR_lookup, pwO_mapSet, pwO_mapDel, pwO_lenM, pwR_lenM, pwO_mapEntry, pwO_entrySet, pwO_rangeS, pwO_nextS, pwO_rangeM, pwO_entryM, pwR_entryM, pwO_copyV, pwO_makeSl, pwO_asrt, pwR_asrt, kStep_if, kStep_dif, kQ_if, kQ_dif, kEv_if, bound_none, bound_some, toNat_add', toNat_sub', toNat_mul', kLoopN_normal, kLoopN_ret, kLoopN_exit, kLoopN_goto, Option.map_some, Option.map_none, loadAt_obj, storeAt_obj, rowOf_obj, eszIs_obj, eszObj_cells, loadObj_tab, storeObj_tab_int, VH.get_set_ne, VH.get_push_lt, VH.set_set, tab_length, List.getElem?_cons_zero, List.getElem?_cons_succ, List.length_cons, List.length_nil, oneC_int, oneC_bool, oneC_string, oneC_slice, oneC_pointer, oneC_map, srcCells_at, srcCells_nil, VH.get_push_at, isNilV, pw_drawT, pwT_nil, pwT_step, pwT_alt, kT_nil, kT_cons]
  refine pw_loopN (fun n s g => ∃ w, s 3 = w ∧ Buf g0 g w (hexS (l.take n)) ∧ s 6 = digV l ∧ s 7 = .int .i64 (n : Int)) 32 ?_ ?_
  · exact ⟨_, by simp [upd_apply], Buf.nil g0, by simp [upd_apply], by simp [upd_apply]⟩
  · rintro n s g hn ⟨w, h3, hB, h6, h7⟩
    have hwl : (hexS (l.take n)).length = 2 * n := by rw [hexS_len, List.length_take]; omega
    by_cases hlt : n < 32
    · have hltI : (n : Int) < 32 := by omega
      have hat := digV_at (l := l) (i := n) (by omega)
      have h6 : s 6 = .agg (u8s l).toArray := h6
      have hp : partOf (u8s l).toArray n none = some (.int .u8 (l[n]).toNat) := by simpa [partOf] using hat
      obtain ⟨b, hb⟩ : ∃ b, b = l[n] := ⟨_, rfl⟩
      rw [← hb] at hp
      have e1 : Int.fdiv (b.toNat : Int) 16 = ((b.toNat / 16 : Nat) : Int) := fdivP b.toNat 4
      have e2 : Go.bits .and .u8 (b.toNat : Int) 15 = ((b.toNat % 16 : Nat) : Int) := low4 b
      have e3 : ∀ m : Nat, m < 16 → strAt (.string ⟨#[48, 49, 50, 51, 52, 53, 54, 55, 56, 57, 97, 98, 99, 100, 101, 102]⟩) (.int .u8 (m : Int)) = some (.int .u8 (hexD m).toNat) := fun m hm => by
        exact strAt_D (bs := hexT) (k := .u8) (n := m) hm
      have hb3 := e3 (b.toNat / 16) (by have := b.toNat_lt; omega)
      have hb4 := e3 (b.toNat % 16) (by omega)
      obtain ⟨w4, g4, hap, hB4⟩ := (hB.step (Fr.push g (.cells (u8s (hex2 b)) true 1) [])).append (hex2 b) (by rw [hwl]; simp [hex2]; omega)
      have hap : appendV (g.push (.cells [.int .u8 (hexD (b.toNat / 16)).toNat, .int .u8 (hexD (b.toNat % 16)).toNat] true 1)) 1 1 w [.int .u8 (hexD (b.toNat / 16)).toNat, .int .u8 (hexD (b.toNat % 16)).toNat] 2 = some (w4, g4) := hap
      rw [hb, ← hexS_succ (by omega)] at hB4
      have eI : IntKind.i64.wrap ((n : Int) + 1) = ((n + 1 : Nat) : Int) := by rw [i64_small (by omega) (by omega)]; omega
      obtain ⟨wa, wc, hw⟩ := hB.shape
      rw [hw] at h3 hap
      simp (disch := first | omega | (simp only [VH.n_push, VH.n_set]; done) | (simp only [VH.n_push, VH.n_set]; omega)) [-Int.natCast_emod, -Int.natCast_ediv, -Int.natCast_add, pun, pbinS, -BitVec.toNat_or, -BitVec.toNat_xor, -BitVec.toNat_add, -BitVec.toNat_and, -BitVec.toNat_not, -BitVec.toNat_shiftLeft, -BitVec.toNat_ushiftRight, pbin, pbinI, i64_small, IntKind.bits, h3, h6, h7, hltI, hp, e1, e2, hb3, hb4, fill2_u8, row2_u8, hap, eI, pw_skip, pw_ops, pw_quiet, pw_seq, pw_cond, pw_block, pw_exit, pw_ret, pw_scope, pw_label, kSeq_normal, kSeq_ret, kSeq_exit, kBlock_normal, kBlock_ret, kBlock_exit, kScope_normal, kScope_ret, kScope_exit, kLoop_normal, kLoop_ret, kLoop_exit, kCond_true, kCond_false, kCond_dec, pwOps_nil, pwOps_call, pwOps_guard, kStep_some, kCall_at, pwQ_nil, pwQ_call, pwQ_guard, kQ_some, putS_some, putS_none, upd_apply, ev_t, ev_k, isB_bool, isB_undef, s0_apply, pstep, pwO_mov, pwO_pick, pwO_nilck, pwO_bin, pwO_binB, pwO_eqNil, pwO_un, pwO_convI, pwO_convS, pwO_alloc, pwO_build, pwO_load, pwO_store, pwO_fieldAddr, pwO_field, pwO_idxS, pwO_idxA, pwO_idxV, pwO_strAt, pwO_lenStr, pwO_lenS, pwO_lenC, pwO_slS, pwO_slA, pwO_slStr, pwO_extract, pwO_mkFunc, pwO_mkIface, pwO_append, pwO_appendStr, pwO_toBytes, pwO_ofB, pwO_box, pwO_row, pwO_minmax, pwO_eqV, pwO_sameB, pwR_mov, pwR_pick, pwR_nilck, pwR_bin, pwR_binB, pwR_eqNil, pwR_un, pwR_convI, pwR_convS, pwR_build, pwR_load, pwR_fieldAddr, pwR_field, pwR_idxS, pwR_idxA, pwR_idxV, pwR_strAt, pwR_lenStr, pwR_lenS, pwR_lenC, pwR_slS, pwR_slA, pwR_slStr, pwR_extract, pwR_mkFunc, pwR_mkIface, pwR_ofB, pwR_minmax, pwR_eqV, ret_r, ret_n, kRet_some, resV0, resV1, resV2, resV3, resV4, VH.get_push_new, VH.get_set_same, VH.n_push, VH.n_set, cellsL_agg, cellsL_int, cellsL_bool, cellsL_string, cellsL_slice, cellsL_pointer, cellsL_map, pw_draw, pwD_nil, pwD_cons, kD_nil, kD_cons, evalOK_plain, evalOK_guard, kEv_some, dstIs_some, dstIs_none, pw_goto, pw_scopeL, kSeq_goto, kBlock_goto, kLoop_goto, kScopeL_normal, kScopeL_ret, kScopeL_exit, kScopeL_goto, pwOps_callv, kCallv_fn, kCallv_yld, pwOps_nextM, pwO_makeMap, pwO_lookup, pwR_lookup, pwO_mapSet, pwO_mapDel, pwO_lenM, pwR_lenM, pwO_mapEntry, pwO_entrySet, pwO_rangeS, pwO_nextS, pwO_rangeM, pwO_entryM, pwR_entryM, pwO_copyV, pwO_makeSl, pwO_asrt, pwR_asrt, kStep_if, kStep_dif, kQ_if, kQ_dif, kEv_if, bound_none, bound_some, toNat_add', toNat_sub', toNat_mul', kLoopN_normal, kLoopN_ret, kLoopN_exit, kLoopN_goto, Option.map_some, Option.map_none, loadAt_obj, storeAt_obj, rowOf_obj, eszIs_obj, eszObj_cells, loadObj_tab, storeObj_tab_int, VH.get_set_ne, VH.get_push_lt, VH.set_set, tab_length, List.getElem?_cons_zero, List.getElem?_cons_succ, List.length_cons, List.length_nil, oneC_int, oneC_bool, oneC_string, oneC_slice, oneC_pointer, oneC_map, srcCells_at, srcCells_nil, VH.get_push_at, isNilV, pw_drawT, pwT_nil, pwT_step, pwT_alt, kT_nil, kT_cons]
      exact ⟨hlt, hB4, rfl⟩
    · obtain rfl : n = 32 := by omega
      have hltI : ¬ (((32 : Nat) : Int) < 32) := by omega
      have hof := ofB_eq hB.is
      rw [List.take_of_length_le (by omega)] at hof
      simp (disch := first | omega | (simp only [VH.n_push, VH.n_set]; done) | (simp only [VH.n_push, VH.n_set]; omega)) [pun, pbinS, -BitVec.toNat_or, -BitVec.toNat_xor, -BitVec.toNat_add, -BitVec.toNat_and, -BitVec.toNat_not, -BitVec.toNat_shiftLeft, -BitVec.toNat_ushiftRight, pbin, pbinI, i64_small, IntKind.bits, h3, h6, h7, hltI, hof, r_sha_Hex, ret_r, resV, resL, resOne, pw_skip, pw_ops, pw_quiet, pw_seq, pw_cond, pw_block, pw_exit, pw_ret, pw_scope, pw_label, kSeq_normal, kSeq_ret, kSeq_exit, kBlock_normal, kBlock_ret, kBlock_exit, kScope_normal, kScope_ret, kScope_exit, kLoop_normal, kLoop_ret, kLoop_exit, kCond_true, kCond_false, kCond_dec, pwOps_nil, pwOps_call, pwOps_guard, kStep_some, kCall_at, pwQ_nil, pwQ_call, pwQ_guard, kQ_some, putS_some, putS_none, upd_apply, ev_t, ev_k, isB_bool, isB_undef, s0_apply, pstep, pwO_mov, pwO_pick, pwO_nilck, pwO_bin, pwO_binB, pwO_eqNil, pwO_un, pwO_convI, pwO_convS, pwO_alloc, pwO_build, pwO_load, pwO_store, pwO_fieldAddr, pwO_field, pwO_idxS, pwO_idxA, pwO_idxV, pwO_strAt, pwO_lenStr, pwO_lenS, pwO_lenC, pwO_slS, pwO_slA, pwO_slStr, pwO_extract, pwO_mkFunc, pwO_mkIface, pwO_append, pwO_appendStr, pwO_toBytes, pwO_ofB, pwO_box, pwO_row, pwO_minmax, pwO_eqV, pwO_sameB, pwR_mov, pwR_pick, pwR_nilck, pwR_bin, pwR_binB, pwR_eqNil, pwR_un, pwR_convI, pwR_convS, pwR_build, pwR_load, pwR_fieldAddr, pwR_field, pwR_idxS, pwR_idxA, pwR_idxV, pwR_strAt, pwR_lenStr, pwR_lenS, pwR_lenC, pwR_slS, pwR_slA, pwR_slStr, pwR_extract, pwR_mkFunc, pwR_mkIface, pwR_ofB, pwR_minmax, pwR_eqV, ret_r, ret_n, kRet_some, resV0, resV1, resV2, resV3, resV4, VH.get_push_new, VH.get_set_same, VH.n_push, VH.n_set, cellsL_agg, cellsL_int, cellsL_bool, cellsL_string, cellsL_slice, cellsL_pointer, cellsL_map, pw_draw, pwD_nil, pwD_cons, kD_nil, kD_cons, evalOK_plain, evalOK_guard, kEv_some, dstIs_some, dstIs_none, pw_goto, pw_scopeL, kSeq_goto, kBlock_goto, kLoop_goto, kScopeL_normal, kScopeL_ret, kScopeL_exit, kScopeL_goto, pwOps_callv, kCallv_fn, kCallv_yld, pwOps_nextM, pwO_makeMap, pwO_lookup, pwR_lookup, pwO_mapSet, pwO_mapDel, pwO_lenM, pwR_lenM, pwO_mapEntry, pwO_entrySet, pwO_rangeS, pwO_nextS, pwO_rangeM, pwO_entryM, pwR_entryM, pwO_copyV, pwO_makeSl, pwO_asrt, pwR_asrt, kStep_if, kStep_dif, kQ_if, kQ_dif, kEv_if, bound_none, bound_some, toNat_add', toNat_sub', toNat_mul', kLoopN_normal, kLoopN_ret, kLoopN_exit, kLoopN_goto, Option.map_some, Option.map_none, loadAt_obj, storeAt_obj, rowOf_obj, eszIs_obj, eszObj_cells, loadObj_tab, storeObj_tab_int, VH.get_set_ne, VH.get_push_lt, VH.set_set, tab_length, List.getElem?_cons_zero, List.getElem?_cons_succ, List.length_cons, List.length_nil, oneC_int, oneC_bool, oneC_string, oneC_slice, oneC_pointer, oneC_map, srcCells_at, srcCells_nil, VH.get_push_at, isNilV, pw_drawT, pwT_nil, pwT_step, pwT_alt, kT_nil, kT_cons]
theorem hex_ok {h : VH} {l : List UInt8} (hl : l.length = 32) : PCalls Try.prog f_sha_Hex [digV l] h (fun u h' => u = .string (strB (hexS l)) ∧ h' = h) :=
  ((hex_ok' (h := h.ro) hl).mono fun u _ e => by subst e; exact ⟨rfl, rfl⟩).drop
end Go.Proofs.Ytadkbkkfpajghaa.Sha
