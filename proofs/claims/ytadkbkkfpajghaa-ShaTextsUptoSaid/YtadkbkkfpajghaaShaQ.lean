/- SHA-256, part Q: the reference's text; the law of texts. -/
import Derived.Test.YtadkbkkfpajghaaShaP
set_option linter.unusedVariables false
set_option linter.unusedSimpArgs false
set_option maxRecDepth 100000
namespace Go.Proofs.Ytadkbkkfpajghaa.Sha
open Go Go.RowKit Go.Proofs.Ytadkbkkfpajghaa.Pm Go.Proofs.Ytadkbkkfpajghaa.Fs

theorem runhex_ok {h : VH} {s : List UInt8} : PCalls Try.prog f_ref03_Unhex [.string (strB s)] h (fun u h' => u = unS s ∧ h' = h) :=
  ((runhex_ok' (h := h.ro)).mono fun u _ e => by subst e; exact ⟨unS_closed _, rfl⟩).drop
theorem hexTat (m : Nat) (hm : m < 16) : strAt (.string ⟨#[48, 49, 50, 51, 52, 53, 54, 55, 56, 57, 97, 98, 99, 100, 101, 102]⟩) (.int .u8 (m : Int)) = some (.int .u8 (hexD m).toNat) := strAt_D (bs := hexT) (k := .u8) (n := m) hm
set_option maxHeartbeats 2000000 in
theorem rhex_ok' {h : VH} {l : List UInt8} (hl : l.length = 32) : PCalls Try.prog f_ref03_Hex [digV l] h (fun u _ => u = .string (strB (hexS l))) := by
  refine PCalls_of_pw st_ref03_Hex (by simp [n_ref03_Hex]) ?_
  rw [b_ref03_Hex]
  obtain ⟨g0, hg0⟩ : ∃ g0, g0 = h.push (.cells (u8s l) true 1) := ⟨_, rfl⟩
  have h0l : g0.get h.n = .cells (u8s l) true 1 := by rw [hg0]; exact VH.get_push_new _ _
  have h0n : g0.n = h.n + 1 := by rw [hg0]; simp
  have hul : (u8s l).length = 32 := by simp [u8s, hl]
  have hez : eszObj (.cells (u8s l) true 1) 1 = true := by simp [eszObj]
  simp (disch := first | omega | (simp only [VH.n_push, VH.n_set]; done) | (simp only [VH.n_push, VH.n_set]; omega)) [B_ref03_Hex, pun, pbinS, -BitVec.toNat_or, -BitVec.toNat_xor, -BitVec.toNat_add, -BitVec.toNat_and, -BitVec.toNat_not, -BitVec.toNat_shiftLeft, -BitVec.toNat_ushiftRight, pbin, pbinI, i64_small, IntKind.bits, digV_cells, u8s_all, ← hg0, pw_skip, pw_ops, pw_quiet, pw_seq, pw_cond, pw_block, pw_exit, pw_ret, pw_scope, pw_label, kSeq_normal, kSeq_ret, kSeq_exit, kBlock_normal, kBlock_ret, kBlock_exit, kScope_normal, kScope_ret, kScope_exit, kLoop_normal, kLoop_ret, kLoop_exit, kCond_bool, pwOps_nil, pwOps_call, pwOps_guard, kStep_some, kCall_at, pwQ_nil, pwQ_call, pwQ_guard, kQ_some, putS_some, putS_none, upd_apply, ev_t, ev_k, isB_bool, s0_apply, pstep, pwO_mov, pwO_pick, pwO_nilck, pwO_bin, pwO_binB, pwO_eqNil, pwO_un, pwO_convI, pwO_convS, pwO_alloc, pwO_build, pwO_load, pwO_store, pwO_fieldAddr, pwO_field, pwO_idxS, pwO_idxA, pwO_idxV, pwO_strAt, pwO_lenStr, pwO_lenS, pwO_lenC, pwO_slS, pwO_slA, pwO_slStr, pwO_extract, pwO_mkFunc, pwO_mkIface, pwO_append, pwO_appendStr, pwO_toBytes, pwO_ofB, pwO_box, pwO_row, pwO_minmax, pwO_eqV, pwO_sameB, pwR_mov, pwR_pick, pwR_nilck, pwR_bin, pwR_binB, pwR_eqNil, pwR_un, pwR_convI, pwR_convS, pwR_build, pwR_load, pwR_fieldAddr, pwR_field, pwR_idxS, pwR_idxA, pwR_idxV, pwR_strAt, pwR_lenStr, pwR_lenS, pwR_lenC, pwR_slS, pwR_slA, pwR_slStr, pwR_extract, pwR_mkFunc, pwR_mkIface, pwR_ofB, pwR_minmax, pwR_eqV, ret_r, ret_n, kRet_some, resV0, resV1, resV2, resV3, resV4, VH.get_push_new, VH.get_set_same, VH.n_push, VH.n_set, cellsL_agg, cellsL_int, cellsL_bool, cellsL_string, cellsL_slice, cellsL_pointer, cellsL_map, pw_draw, pwD_nil, pwD_cons, kD_nil, kD_cons, evalOK_plain, evalOK_guard, kEv_some, dstIs_some, dstIs_none, pw_goto, pw_scopeL, kSeq_goto, kBlock_goto, kLoop_goto, kScopeL_normal, kScopeL_ret, kScopeL_exit, kScopeL_goto, pwOps_callv, kCallv_fn, kCallv_yld, pwOps_nextM, pwO_makeMap, pwO_lookup, pwR_lookup, pwO_mapSet, pwO_mapDel, pwO_lenM, pwR_lenM, pwO_mapEntry, pwO_entrySet, pwO_rangeS, pwO_nextS, pwO_rangeM, pwO_entryM, pwR_entryM, pwO_copyV, pwO_makeSl, pwO_asrt, pwR_asrt, kStep_if, kStep_dif, kQ_if, kQ_dif, kEv_if, bound_none, bound_some, toNat_add', toNat_sub', toNat_mul', kLoopN_normal, kLoopN_ret, kLoopN_exit, kLoopN_goto, Option.map_some, Option.map_none, loadAt_obj, storeAt_obj, rowOf_obj, eszIs_obj, eszObj_cells, loadObj_tab, storeObj_tab_int, VH.get_set_ne, VH.get_push_lt, VH.set_set, tab_length, List.getElem?_cons_zero, List.getElem?_cons_succ, List.length_cons, List.length_nil, oneC_int, oneC_bool, oneC_string, oneC_slice, oneC_pointer, oneC_map, srcCells_at, srcCells_nil, VH.get_push_at, isNilV]
  refine pw_loopN (fun n s g => ∃ w, s 3 = w ∧ Buf g0 g w (hexS (l.take n)) ∧ s 1 = .pointer (some ⟨h.n, 0, none⟩) ∧ s 4 = .int .i64 (n : Int)) 32 ?_ ?_
  · exact ⟨_, by simp [upd_apply], Buf.nil g0, by simp [upd_apply], by simp [upd_apply]⟩
  · rintro n s g hn ⟨w, h3, hB, h1, h4⟩
    have hwl : (hexS (l.take n)).length = 2 * n := by rw [hexS_len, List.length_take]; omega
    have hgl : g.get h.n = .cells (u8s l) true 1 := by rw [hB.old (by omega), h0l]
    by_cases hlt : n < 32
    · have hltI : (n : Int) < 32 := by omega
      obtain ⟨b, hb⟩ : ∃ b, b = l[n] := ⟨_, rfl⟩
      have hat : (u8s l)[n]? = some (.int .u8 b.toNat) := by rw [hb]; exact digV_at (by omega)
      have hld : loadObj (.cells (u8s l) true 1) n none = some (.int .u8 b.toNat) := hat
      have e1 : Int.tdiv (b.toNat : Int) 16 = ((b.toNat / 16 : Nat) : Int) := by rw [Int.tdiv_eq_ediv_of_nonneg (by omega)]; omega
      have e1' : IntKind.u8.wrap ((b.toNat / 16 : Nat) : Int) = ((b.toNat / 16 : Nat) : Int) := by
        have := b.toNat_lt
        rw [wrapN_u8, Nat.mod_eq_of_lt (by omega)]
      have e2 : Int.tmod (b.toNat : Int) 16 = ((b.toNat % 16 : Nat) : Int) := tmodN b.toNat 16
      have hb3 := hexTat (b.toNat / 16) (by have := b.toNat_lt; omega)
      have hb4 := hexTat (b.toNat % 16) (by omega)
      obtain ⟨w4, g4, hap, hB4⟩ := (hB.step (Fr.push g (.cells (u8s (hex2 b)) true 1) [])).append (hex2 b) (by rw [hwl]; simp [hex2]; omega)
      have hap : appendV (g.push (.cells [.int .u8 (hexD (b.toNat / 16)).toNat, .int .u8 (hexD (b.toNat % 16)).toNat] true 1)) 1 1 w [.int .u8 (hexD (b.toNat / 16)).toNat, .int .u8 (hexD (b.toNat % 16)).toNat] 2 = some (w4, g4) := hap
      rw [hb, ← hexS_succ (by omega)] at hB4
      have eI : IntKind.i64.wrap ((n : Int) + 1) = ((n + 1 : Nat) : Int) := by rw [i64_small (by omega) (by omega)]; omega
      obtain ⟨wa, wc, hw⟩ := hB.shape
      rw [hw] at h3 hap
      simp (disch := first | omega | (simp only [VH.n_push, VH.n_set]; done) | (simp only [VH.n_push, VH.n_set]; omega)) [-Int.natCast_emod, -Int.natCast_ediv, -Int.natCast_add, pun, pbinS, -BitVec.toNat_or, -BitVec.toNat_xor, -BitVec.toNat_add, -BitVec.toNat_and, -BitVec.toNat_not, -BitVec.toNat_shiftLeft, -BitVec.toNat_ushiftRight, pbin, pbinI, i64_small, IntKind.bits, h3, h1, h4, hltI, hgl, hld, e1, e1', e2, hb3, hb4, fill2_u8, row2_u8, hap, eI, pw_skip, pw_ops, pw_quiet, pw_seq, pw_cond, pw_block, pw_exit, pw_ret, pw_scope, pw_label, kSeq_normal, kSeq_ret, kSeq_exit, kBlock_normal, kBlock_ret, kBlock_exit, kScope_normal, kScope_ret, kScope_exit, kLoop_normal, kLoop_ret, kLoop_exit, kCond_bool, pwOps_nil, pwOps_call, pwOps_guard, kStep_some, kCall_at, pwQ_nil, pwQ_call, pwQ_guard, kQ_some, putS_some, putS_none, upd_apply, ev_t, ev_k, isB_bool, s0_apply, pstep, pwO_mov, pwO_pick, pwO_nilck, pwO_bin, pwO_binB, pwO_eqNil, pwO_un, pwO_convI, pwO_convS, pwO_alloc, pwO_build, pwO_load, pwO_store, pwO_fieldAddr, pwO_field, pwO_idxS, pwO_idxA, pwO_idxV, pwO_strAt, pwO_lenStr, pwO_lenS, pwO_lenC, pwO_slS, pwO_slA, pwO_slStr, pwO_extract, pwO_mkFunc, pwO_mkIface, pwO_append, pwO_appendStr, pwO_toBytes, pwO_ofB, pwO_box, pwO_row, pwO_minmax, pwO_eqV, pwO_sameB, pwR_mov, pwR_pick, pwR_nilck, pwR_bin, pwR_binB, pwR_eqNil, pwR_un, pwR_convI, pwR_convS, pwR_build, pwR_load, pwR_fieldAddr, pwR_field, pwR_idxS, pwR_idxA, pwR_idxV, pwR_strAt, pwR_lenStr, pwR_lenS, pwR_lenC, pwR_slS, pwR_slA, pwR_slStr, pwR_extract, pwR_mkFunc, pwR_mkIface, pwR_ofB, pwR_minmax, pwR_eqV, ret_r, ret_n, kRet_some, resV0, resV1, resV2, resV3, resV4, VH.get_push_new, VH.get_set_same, VH.n_push, VH.n_set, cellsL_agg, cellsL_int, cellsL_bool, cellsL_string, cellsL_slice, cellsL_pointer, cellsL_map, pw_draw, pwD_nil, pwD_cons, kD_nil, kD_cons, evalOK_plain, evalOK_guard, kEv_some, dstIs_some, dstIs_none, pw_goto, pw_scopeL, kSeq_goto, kBlock_goto, kLoop_goto, kScopeL_normal, kScopeL_ret, kScopeL_exit, kScopeL_goto, pwOps_callv, kCallv_fn, kCallv_yld, pwOps_nextM, pwO_makeMap, pwO_lookup, pwR_lookup, pwO_mapSet, pwO_mapDel, pwO_lenM, pwR_lenM, pwO_mapEntry, pwO_entrySet, pwO_rangeS, pwO_nextS, pwO_rangeM, pwO_entryM, pwR_entryM, pwO_copyV, pwO_makeSl, pwO_asrt, pwR_asrt, kStep_if, kStep_dif, kQ_if, kQ_dif, kEv_if, bound_none, bound_some, toNat_add', toNat_sub', toNat_mul', kLoopN_normal, kLoopN_ret, kLoopN_exit, kLoopN_goto, Option.map_some, Option.map_none, loadAt_obj, storeAt_obj, rowOf_obj, eszIs_obj, eszObj_cells, loadObj_tab, storeObj_tab_int, VH.get_set_ne, VH.get_push_lt, VH.set_set, tab_length, List.getElem?_cons_zero, List.getElem?_cons_succ, List.length_cons, List.length_nil, oneC_int, oneC_bool, oneC_string, oneC_slice, oneC_pointer, oneC_map, srcCells_at, srcCells_nil, VH.get_push_at, isNilV]
      exact ⟨hlt, hB4⟩
    · obtain rfl : n = 32 := by omega
      have hltI : ¬ (((32 : Nat) : Int) < 32) := by omega
      have hof := ofB_eq hB.is
      rw [List.take_of_length_le (by omega)] at hof
      simp (disch := first | omega | (simp only [VH.n_push, VH.n_set]; done) | (simp only [VH.n_push, VH.n_set]; omega)) [pun, pbinS, -BitVec.toNat_or, -BitVec.toNat_xor, -BitVec.toNat_add, -BitVec.toNat_and, -BitVec.toNat_not, -BitVec.toNat_shiftLeft, -BitVec.toNat_ushiftRight, pbin, pbinI, i64_small, IntKind.bits, h3, h1, h4, hltI, hof, r_ref03_Hex, ret_r, resV, resL, resOne, pw_skip, pw_ops, pw_quiet, pw_seq, pw_cond, pw_block, pw_exit, pw_ret, pw_scope, pw_label, kSeq_normal, kSeq_ret, kSeq_exit, kBlock_normal, kBlock_ret, kBlock_exit, kScope_normal, kScope_ret, kScope_exit, kLoop_normal, kLoop_ret, kLoop_exit, kCond_bool, pwOps_nil, pwOps_call, pwOps_guard, kStep_some, kCall_at, pwQ_nil, pwQ_call, pwQ_guard, kQ_some, putS_some, putS_none, upd_apply, ev_t, ev_k, isB_bool, s0_apply, pstep, pwO_mov, pwO_pick, pwO_nilck, pwO_bin, pwO_binB, pwO_eqNil, pwO_un, pwO_convI, pwO_convS, pwO_alloc, pwO_build, pwO_load, pwO_store, pwO_fieldAddr, pwO_field, pwO_idxS, pwO_idxA, pwO_idxV, pwO_strAt, pwO_lenStr, pwO_lenS, pwO_lenC, pwO_slS, pwO_slA, pwO_slStr, pwO_extract, pwO_mkFunc, pwO_mkIface, pwO_append, pwO_appendStr, pwO_toBytes, pwO_ofB, pwO_box, pwO_row, pwO_minmax, pwO_eqV, pwO_sameB, pwR_mov, pwR_pick, pwR_nilck, pwR_bin, pwR_binB, pwR_eqNil, pwR_un, pwR_convI, pwR_convS, pwR_build, pwR_load, pwR_fieldAddr, pwR_field, pwR_idxS, pwR_idxA, pwR_idxV, pwR_strAt, pwR_lenStr, pwR_lenS, pwR_lenC, pwR_slS, pwR_slA, pwR_slStr, pwR_extract, pwR_mkFunc, pwR_mkIface, pwR_ofB, pwR_minmax, pwR_eqV, ret_r, ret_n, kRet_some, resV0, resV1, resV2, resV3, resV4, VH.get_push_new, VH.get_set_same, VH.n_push, VH.n_set, cellsL_agg, cellsL_int, cellsL_bool, cellsL_string, cellsL_slice, cellsL_pointer, cellsL_map, pw_draw, pwD_nil, pwD_cons, kD_nil, kD_cons, evalOK_plain, evalOK_guard, kEv_some, dstIs_some, dstIs_none, pw_goto, pw_scopeL, kSeq_goto, kBlock_goto, kLoop_goto, kScopeL_normal, kScopeL_ret, kScopeL_exit, kScopeL_goto, pwOps_callv, kCallv_fn, kCallv_yld, pwOps_nextM, pwO_makeMap, pwO_lookup, pwR_lookup, pwO_mapSet, pwO_mapDel, pwO_lenM, pwR_lenM, pwO_mapEntry, pwO_entrySet, pwO_rangeS, pwO_nextS, pwO_rangeM, pwO_entryM, pwR_entryM, pwO_copyV, pwO_makeSl, pwO_asrt, pwR_asrt, kStep_if, kStep_dif, kQ_if, kQ_dif, kEv_if, bound_none, bound_some, toNat_add', toNat_sub', toNat_mul', kLoopN_normal, kLoopN_ret, kLoopN_exit, kLoopN_goto, Option.map_some, Option.map_none, loadAt_obj, storeAt_obj, rowOf_obj, eszIs_obj, eszObj_cells, loadObj_tab, storeObj_tab_int, VH.get_set_ne, VH.get_push_lt, VH.set_set, tab_length, List.getElem?_cons_zero, List.getElem?_cons_succ, List.length_cons, List.length_nil, oneC_int, oneC_bool, oneC_string, oneC_slice, oneC_pointer, oneC_map, srcCells_at, srcCells_nil, VH.get_push_at, isNilV]
theorem rhex_ok {h : VH} {l : List UInt8} (hl : l.length = 32) : PCalls Try.prog f_ref03_Hex [digV l] h (fun u h' => u = .string (strB (hexS l)) ∧ h' = h) :=
  ((rhex_ok' (h := h.ro) hl).mono fun u _ e => by subst e; exact ⟨rfl, rfl⟩).drop

theorem dg_hexD : ∀ n : Fin 16, dg (hexD n.val) = (n.val : Int) := by decide +kernel
theorem hexS_at : ∀ (l : List UInt8) (i : Nat), i < l.length → (hexS l).getD (2 * i) 0 = hexD ((l.getD i 0).toNat / 16) ∧ (hexS l).getD (2 * i + 1) 0 = hexD ((l.getD i 0).toNat % 16)
  | [], i, h => by simp at h
  | b :: l, 0, h => by simp [hexS, hex2]
  | b :: l, i + 1, h => by
    have := hexS_at l i (by simpa using h)
    have e : 2 * (i + 1) = 2 * i + 2 := by omega
    rw [e]
    simpa [hexS, hex2, List.getD] using this
theorem unS_hex {l : List UInt8} (hl : l.length = 32) : unS (hexS l) = .tuple #[digV l, .int .i64 0] := by
  have hlen : (hexS l).length = 64 := by rw [hexS_len]; omega
  have h1 : ∀ i, i < 32 → dg ((hexS l).getD (2 * i) 0) = (((l.getD i 0).toNat / 16 : Nat) : Int) ∧ dg ((hexS l).getD (2 * i + 1) 0) = (((l.getD i 0).toNat % 16 : Nat) : Int) := by
    intro i hi
    obtain ⟨a, b⟩ := hexS_at l i (by omega)
    have := (l.getD i 0).toNat_lt
    rw [a, b]
    exact ⟨dg_hexD ⟨_, by omega⟩, dg_hexD ⟨_, by omega⟩⟩
  rw [unS_good hlen]
  · have hm : (List.range 32).map (unB (hexS l)) = l := ?_
    · rw [hm]
    apply List.ext_getElem (by simp [hl])
    intro i hi hi2
    have hi32 : i < 32 := by simpa using hi
    obtain ⟨a, b⟩ := h1 i hi32
    simp only [List.getElem_map, List.getElem_range, unB, dgN, a, b]
    have e : l.getD i 0 = l[i] := by simp [List.getD, List.getElem?_eq_getElem hi2]
    rw [e]
    apply UInt8.toNat_inj.1
    have := (l[i]).toNat_lt
    rw [UInt8.toNat_ofNat', Nat.mod_eq_of_lt (by omega)]
    omega
  · intro i hi
    by_cases he : i % 2 = 0
    · rw [show i = 2 * (i / 2) by omega, (h1 (i / 2) (by omega)).1]; omega
    · rw [show i = 2 * (i / 2) + 1 by omega, (h1 (i / 2) (by omega)).2]; omega
end Go.Proofs.Ytadkbkkfpajghaa.Sha
