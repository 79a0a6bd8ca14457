/- SHA-256, part D: a state's bytes; the states behind the blocks of bytes. -/
import Derived.Test.YtdnkpgbggpbgaaaShaC
set_option linter.unusedVariables false
set_option linter.unusedSimpArgs false
set_option maxRecDepth 100000
namespace Go.Proofs.Ytdnkpgbggpbgaaa.Sha
open Go Go.RowKit Go.Proofs.Ytdnkpgbggpbgaaa.Pm Go.Proofs.Ytdnkpgbggpbgaaa.Fs


def stByte (s : St) (i : Nat) : UInt8 := UInt8.ofNat (s.list.getD (i / 4) 0#32 >>> (24 - 8 * (i % 4))).toNat
def bytesS (s : St) : List UInt8 := (List.range 32).map (stByte s)
def digV (l : List UInt8) : Value := .agg (u8s l).toArray
theorem bytesS_len (s : St) : (bytesS s).length = 32 := by simp [bytesS]
def bf (s : St) (n : Nat) (j : Nat) : Value := if j < n then .int .u8 (stByte s j).toNat else .int .u8 0
theorem bf_all (s : St) : tab 32 (bf s 32) = u8s (bytesS s) := by
  unfold u8s bytesS
  rw [List.map_map]
  exact tab_congr fun i hi => by simp [bf, hi]
theorem zeros32 : [Value.int .u8 0, .int .u8 0, .int .u8 0, .int .u8 0, .int .u8 0, .int .u8 0, .int .u8 0, .int .u8 0, .int .u8 0, .int .u8 0, .int .u8 0, .int .u8 0, .int .u8 0, .int .u8 0, .int .u8 0, .int .u8 0, .int .u8 0, .int .u8 0, .int .u8 0, .int .u8 0, .int .u8 0, .int .u8 0, .int .u8 0, .int .u8 0, .int .u8 0, .int .u8 0, .int .u8 0, .int .u8 0, .int .u8 0, .int .u8 0, .int .u8 0, .int .u8 0] = tab 32 (fun _ => .int .u8 0) := rfl
theorem tdivN (n m : Nat) : Int.tdiv (n : Int) (m : Int) = ((n / m : Nat) : Int) := rfl
theorem tmodN (n m : Nat) : Int.tmod (n : Int) (m : Int) = ((n % m : Nat) : Int) := rfl
theorem St.atN (s : St) {k : Nat} (h : k < 8) : (u32s s.list)[k]? = some (.int .u32 (s.list.getD k 0#32).toNat) := by
  rw [u32s_at (by rw [St.list_len]; exact h), List.getD_eq_getElem?_getD, List.getElem?_eq_getElem (by rw [St.list_len]; exact h)]
  rfl
theorem byte_val (s : St) (n : Nat) : IntKind.u8.wrap ((s.list.getD (n / 4) 0#32 >>> (24 - 8 * (n % 4))).toNat : Int) = ((stByte s n).toNat : Int) := by
  rw [wrapN_u8]
  simp only [stByte, UInt8.toNat_ofNat']

set_option maxHeartbeats 1000000 in
theorem bytes_ok' (st : St) (h : VH) : PCalls Try.prog f_sha_state_bytes [st.val] h (fun u _ => u = digV (bytesS st)) := by
  refine PCalls_of_pw st_sha_state_bytes (by simp [n_sha_state_bytes]) ?_
  rw [b_sha_state_bytes]
  simp [B_sha_state_bytes, St.cells, u32s_one, zeros32, pw_skip, pw_ops, pw_quiet, pw_seq, pw_cond, pw_block, pw_exit, pw_ret, pw_scope, pw_label, kSeq_normal, kSeq_ret, kSeq_exit, kBlock_normal, kBlock_ret, kBlock_exit, kScope_normal, kScope_ret, kScope_exit, kLoop_normal, kLoop_ret, kLoop_exit, kCond_bool, pwOps_nil, pwOps_call, pwOps_guard, kStep_some, kStep_ite, kStep_dite, kCall_at, pwQ_nil, pwQ_call, pwQ_guard, kQ_some, kQ_ite, putS_some, putS_none, upd_apply, ev_t, ev_k, isB_bool, s0_apply, pstep, pwO_mov, pwO_pick, pwO_nilck, pwO_bin, pwO_binB, pwO_eqNil, pwO_un, pwO_convI, pwO_convS, pwO_alloc, pwO_build, pwO_load, pwO_store, pwO_fieldAddr, pwO_field, pwO_idxS, pwO_idxA, pwO_idxV, pwO_idxStr, pwO_lenStr, pwO_lenS, pwO_lenC, pwO_slS, pwO_slA, pwO_slStr, pwO_extract, pwO_mkFunc, pwO_mkIface, pwO_append, pwO_appendStr, pwO_appendZ, pwO_toBytes, pwO_ofBytes, pwO_box, pwO_row, pwO_minmax, pwO_eqV, pwO_sameB, pwR_mov, pwR_pick, pwR_nilck, pwR_bin, pwR_binB, pwR_eqNil, pwR_un, pwR_convI, pwR_convS, pwR_build, pwR_load, pwR_fieldAddr, pwR_field, pwR_idxS, pwR_idxA, pwR_idxV, pwR_idxStr, pwR_lenStr, pwR_lenS, pwR_lenC, pwR_slS, pwR_slA, pwR_slStr, pwR_extract, pwR_mkFunc, pwR_mkIface, pwR_ofBytes, pwR_minmax, pwR_eqV, ret_r, ret_n, kRet_some, resV0, resV1, resV2, resV3, resV4, storeAt, loadAt, VH.get_push_new, VH.get_set_same, VH.n_push, VH.n_set, cellsL_agg, cellsL_int, cellsL_bool, cellsL_string, cellsL_slice, cellsL_pointer, cellsL_map, pw_draw, pwD_nil, pwD_cons, kD_nil, kD_cons, evalOK_plain, evalOK_guard, kEv_some, kEv_ite, dstIs_some, dstIs_none, pw_goto, pw_scopeL, kSeq_goto, kBlock_goto, kLoop_goto, kScopeL_normal, kScopeL_ret, kScopeL_exit, kScopeL_goto, pwOps_callv, kCallv_fn, kCallv_yld, pwOps_nextM, pwO_makeMap, pwO_lookup, pwR_lookup, pwO_mapSet, pwO_mapDel, pwO_lenM, pwR_lenM, pwO_mapEntry, pwO_entrySet, pwO_rangeS, pwO_nextS, pwO_rangeM, pwO_entryM, pwR_entryM, pwO_copyV, pwO_makeSl, pwO_asrt, pwR_asrt, gI, gM, gT, gF, gN, gNT, gNF, dI, dM, dT, dF]
  obtain ⟨g0, hg0⟩ : ∃ g0, g0 = (h.push (.cells (u32s st.list) true 1)).push (.cells (tab 32 (bf st 0)) true 1) := ⟨_, rfl⟩
  obtain ⟨hgs, hgp, _⟩ : g0.get h.n = .cells (u32s st.list) true 1 ∧ g0.get (h.n + 1) = .cells (tab 32 (bf st 0)) true 1 ∧ ∀ j, j < h.n → g0.get j = h.get j := by rw [hg0]; exact VH.get_push2 h _ _
  refine pw_loopN (fun n s g => s 4 = .int .i64 n ∧ s 1 = .pointer (some ⟨h.n, 0, none⟩) ∧ s 2 = .pointer (some ⟨h.n + 1, 0, none⟩) ∧ g = g0.set (h.n + 1) (.cells (tab 32 (bf st n)) true 1)) 32 ?_ ?_
  · refine ⟨by simp [upd_apply], by simp [upd_apply], by simp [upd_apply], ?_⟩
    rw [VH.set_self hgp, hg0]
    rfl
  · rintro n s g hn ⟨h4, h1, h2, rfl⟩
    by_cases hlt : n < 32
    · have hlt' : (n : Int) < 32 := by omega
      have e1 : Int.tdiv (n : Int) 4 = ((n / 4 : Nat) : Int) := tdivN n 4
      have e2 : Int.tmod (n : Int) 4 = ((n % 4 : Nat) : Int) := tmodN n 4
      have e3 : (24 : Int) - 8 * ((n % 4 : Nat) : Int) = ((24 - 8 * (n % 4) : Nat) : Int) := by omega
      have e5 : min (24 - 8 * (n % 4)) 32 = 24 - 8 * (n % 4) := by omega
      have e6 : ¬ ((24 - 8 * (n % 4) : Nat) : Int) < 0 := by omega
      have e7 : IntKind.i64.wrap (8 * ((n % 4 : Nat) : Int)) = 8 * ((n % 4 : Nat) : Int) := i64_small (by omega) (by omega)
      have hat := st.atN (k := n / 4) (by omega)
      have hb := byte_val st n
      simp (disch := omega) [-Int.natCast_emod, -Int.natCast_ediv, -List.getD_eq_getElem?_getD, -BitVec.toNat_or, -BitVec.toNat_xor, -BitVec.toNat_add, -BitVec.toNat_and, -BitVec.toNat_not, -BitVec.toNat_shiftLeft, -BitVec.toNat_ushiftRight, pbin, pbinI, i64_small, IntKind.bits, h4, h1, h2, hgs, hlt', e1, e2, e7, e3, e5, e6, loadObj_u32s, hat, shr_u32, hb]
      refine ⟨hlt, ?_⟩
      congr 2
      refine tab_congr fun j hj => ?_
      by_cases hjn : j = n
      · subst hjn; simp [bf]
      · have : (j < n) = (j < n + 1) := by
          apply propext; omega
        simp [hjn, bf, this]
    · obtain rfl : n = 32 := by omega
      have hst : storeObj (.cells (tab 32 (bf st 32)) true 1) 0 32 (.agg (tab 32 (bf st 32)).toArray) = some (.cells (tab 32 (bf st 32)) true 1) :=
        storeObj_all (by simp) (by simp) (tab_all fun i hi => by simp [bf, hi])
      simp (disch := omega) [-BitVec.toNat_or, -BitVec.toNat_xor, -BitVec.toNat_add, -BitVec.toNat_and, -BitVec.toNat_not, -BitVec.toNat_shiftLeft, -BitVec.toNat_ushiftRight, pbin, pbinI, i64_small, IntKind.bits, h4, h1, h2, loadObj_tabN, hst, r_sha_state_bytes, ret_r, resV, resL, resOne]
      rw [bf_all]
      rfl
set_option maxHeartbeats 1000000 in
theorem rbytes_ok' (st : St) (h : VH) : PCalls Try.prog f_ref03_Bytes [st.val] h (fun u _ => u = digV (bytesS st)) := by
  refine PCalls_of_pw st_ref03_Bytes (by simp [n_ref03_Bytes]) ?_
  rw [b_ref03_Bytes]
  simp [B_ref03_Bytes, St.cells, u32s_one, zeros32, pw_skip, pw_ops, pw_quiet, pw_seq, pw_cond, pw_block, pw_exit, pw_ret, pw_scope, pw_label, kSeq_normal, kSeq_ret, kSeq_exit, kBlock_normal, kBlock_ret, kBlock_exit, kScope_normal, kScope_ret, kScope_exit, kLoop_normal, kLoop_ret, kLoop_exit, kCond_bool, pwOps_nil, pwOps_call, pwOps_guard, kStep_some, kStep_ite, kStep_dite, kCall_at, pwQ_nil, pwQ_call, pwQ_guard, kQ_some, kQ_ite, putS_some, putS_none, upd_apply, ev_t, ev_k, isB_bool, s0_apply, pstep, pwO_mov, pwO_pick, pwO_nilck, pwO_bin, pwO_binB, pwO_eqNil, pwO_un, pwO_convI, pwO_convS, pwO_alloc, pwO_build, pwO_load, pwO_store, pwO_fieldAddr, pwO_field, pwO_idxS, pwO_idxA, pwO_idxV, pwO_idxStr, pwO_lenStr, pwO_lenS, pwO_lenC, pwO_slS, pwO_slA, pwO_slStr, pwO_extract, pwO_mkFunc, pwO_mkIface, pwO_append, pwO_appendStr, pwO_appendZ, pwO_toBytes, pwO_ofBytes, pwO_box, pwO_row, pwO_minmax, pwO_eqV, pwO_sameB, pwR_mov, pwR_pick, pwR_nilck, pwR_bin, pwR_binB, pwR_eqNil, pwR_un, pwR_convI, pwR_convS, pwR_build, pwR_load, pwR_fieldAddr, pwR_field, pwR_idxS, pwR_idxA, pwR_idxV, pwR_idxStr, pwR_lenStr, pwR_lenS, pwR_lenC, pwR_slS, pwR_slA, pwR_slStr, pwR_extract, pwR_mkFunc, pwR_mkIface, pwR_ofBytes, pwR_minmax, pwR_eqV, ret_r, ret_n, kRet_some, resV0, resV1, resV2, resV3, resV4, storeAt, loadAt, VH.get_push_new, VH.get_set_same, VH.n_push, VH.n_set, cellsL_agg, cellsL_int, cellsL_bool, cellsL_string, cellsL_slice, cellsL_pointer, cellsL_map, pw_draw, pwD_nil, pwD_cons, kD_nil, kD_cons, evalOK_plain, evalOK_guard, kEv_some, kEv_ite, dstIs_some, dstIs_none, pw_goto, pw_scopeL, kSeq_goto, kBlock_goto, kLoop_goto, kScopeL_normal, kScopeL_ret, kScopeL_exit, kScopeL_goto, pwOps_callv, kCallv_fn, kCallv_yld, pwOps_nextM, pwO_makeMap, pwO_lookup, pwR_lookup, pwO_mapSet, pwO_mapDel, pwO_lenM, pwR_lenM, pwO_mapEntry, pwO_entrySet, pwO_rangeS, pwO_nextS, pwO_rangeM, pwO_entryM, pwR_entryM, pwO_copyV, pwO_makeSl, pwO_asrt, pwR_asrt, gI, gM, gT, gF, gN, gNT, gNF, dI, dM, dT, dF]
  obtain ⟨g0, hg0⟩ : ∃ g0, g0 = ((h.push (.cells (u32s st.list) true 1)).push (.cells (tab 32 (bf st 0)) true 1)).push (.cells (tab 32 (bf st 0)) true 1) := ⟨_, rfl⟩
  obtain ⟨hgs, hgz, hgp, _⟩ : g0.get h.n = .cells (u32s st.list) true 1 ∧ g0.get (h.n + 1) = .cells (tab 32 (bf st 0)) true 1 ∧ g0.get (h.n + 1 + 1) = .cells (tab 32 (bf st 0)) true 1 ∧ ∀ j, j < h.n → g0.get j = h.get j := by rw [hg0]; exact VH.get_push3 h _ _ _
  refine pw_loopN (fun n s g => s 4 = .int .i64 n ∧ s 1 = .pointer (some ⟨h.n, 0, none⟩) ∧ s 2 = .pointer (some ⟨h.n + 1, 0, none⟩) ∧ s 3 = .pointer (some ⟨h.n + 1 + 1, 0, none⟩) ∧ g = g0.set (h.n + 1 + 1) (.cells (tab 32 (bf st n)) true 1)) 32 ?_ ?_
  · refine ⟨by simp [upd_apply], by simp [upd_apply], by simp [upd_apply], by simp [upd_apply], ?_⟩
    rw [VH.set_self hgp, hg0]
    rfl
  · rintro n s g hn ⟨h4, h1, h2, h3, rfl⟩
    by_cases hlt : n < 32
    · have hlt' : (n : Int) < 32 := by omega
      have e1 : Int.tdiv (n : Int) 4 = ((n / 4 : Nat) : Int) := tdivN n 4
      have e2 : Int.tmod (n : Int) 4 = ((n % 4 : Nat) : Int) := tmodN n 4
      have e3 : (24 : Int) - 8 * ((n % 4 : Nat) : Int) = ((24 - 8 * (n % 4) : Nat) : Int) := by omega
      have e5 : min (24 - 8 * (n % 4)) 32 = 24 - 8 * (n % 4) := by omega
      have e6 : ¬ ((24 - 8 * (n % 4) : Nat) : Int) < 0 := by omega
      have e7 : IntKind.i64.wrap (8 * ((n % 4 : Nat) : Int)) = 8 * ((n % 4 : Nat) : Int) := i64_small (by omega) (by omega)
      have e8 : IntKind.u64.wrap ((24 - 8 * (n % 4) : Nat) : Int) = ((24 - 8 * (n % 4) : Nat) : Int) := u64_small (by omega) (by omega)
      have hat := st.atN (k := n / 4) (by omega)
      have hb := byte_val st n
      simp (disch := omega) [-Int.natCast_emod, -Int.natCast_ediv, -List.getD_eq_getElem?_getD, -BitVec.toNat_or, -BitVec.toNat_xor, -BitVec.toNat_add, -BitVec.toNat_and, -BitVec.toNat_not, -BitVec.toNat_shiftLeft, -BitVec.toNat_ushiftRight, pbin, pbinI, i64_small, IntKind.bits, h4, h1, h2, h3, hgs, hlt', e1, e2, e7, e3, e5, e6, e8, loadObj_u32s, hat, shr_u32, hb]
      refine ⟨hlt, ?_⟩
      congr 2
      refine tab_congr fun j hj => ?_
      by_cases hjn : j = n
      · subst hjn; simp [bf]
      · have : (j < n) = (j < n + 1) := by
          apply propext; omega
        simp [hjn, bf, this]
    · obtain rfl : n = 32 := by omega
      have hst : storeObj (.cells (tab 32 (bf st 0)) true 1) 0 32 (.agg (tab 32 (bf st 32)).toArray) = some (.cells (tab 32 (bf st 32)) true 1) :=
        storeObj_all (by simp) (by simp) (tab_all fun i hi => by simp [bf, hi])
      simp (disch := omega) [-BitVec.toNat_or, -BitVec.toNat_xor, -BitVec.toNat_add, -BitVec.toNat_and, -BitVec.toNat_not, -BitVec.toNat_shiftLeft, -BitVec.toNat_ushiftRight, pbin, pbinI, i64_small, IntKind.bits, h4, h1, h2, h3, hgz, loadObj_tabN, hst, r_ref03_Bytes, ret_r, resV, resL, resOne]
      rw [bf_all]
      rfl
theorem u8s_closed (l : List UInt8) : (u8s l).all closedV = true := by
  simp only [u8s, List.all_map, List.all_eq_true]
  intro x _; rfl
theorem digV_closed (l : List UInt8) : closedD (digV l) = true := u8s_closed l
theorem bytes_ok (st : St) (h : VH) : PCalls Try.prog f_sha_state_bytes [st.val] h (fun u h' => u = digV (bytesS st) ∧ h' = h) :=
  ((bytes_ok' st h.ro).mono fun u _ e => by subst e; exact ⟨digV_closed _, rfl⟩).drop
theorem rbytes_ok (st : St) (h : VH) : PCalls Try.prog f_ref03_Bytes [st.val] h (fun u h' => u = digV (bytesS st) ∧ h' = h) :=
  ((rbytes_ok' st h.ro).mono fun u _ e => by subst e; exact ⟨digV_closed _, rfl⟩).drop
end Go.Proofs.Ytdnkpgbggpbgaaa.Sha
