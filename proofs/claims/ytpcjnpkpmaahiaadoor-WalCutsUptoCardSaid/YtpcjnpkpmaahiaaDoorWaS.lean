/- wal, part S: the sum (out of the texts of wire by pick.py). -/
import Derived.Test.YtpcjnpkpmaahiaaDoorWaW
set_option linter.unusedVariables false
set_option linter.unusedSimpArgs false
set_option maxRecDepth 100000
namespace Go.Proofs.YtpcjnpkpmaahiaaDoor.Wa
open Go Go.RowKit Go.Proofs.YtpcjnpkpmaahiaaDoor.Pm Go.Proofs.YtpcjnpkpmaahiaaDoor.Fs

def bit1 (r : BitVec 32) : BitVec 32 := if r &&& 1#32 = 1#32 then (r >>> 1) ^^^ 0x82f63b78#32 else r >>> 1
def bitN : Nat → BitVec 32 → BitVec 32
  | 0, r => r
  | n + 1, r => bitN n (bit1 r)
def tab (n : Nat) : BitVec 32 := bitN 4 (BitVec.ofNat 32 n)
def tabV : List Value := (List.range 16).map fun n => .int .u32 (tab n).toNat
def nib (r : BitVec 32) : BitVec 32 := (r >>> 4) ^^^ tab (r &&& 15#32).toNat
def up (c : UInt8) : BitVec 32 := BitVec.ofNat 32 c.toNat
def step (r : BitVec 32) (c : UInt8) : BitVec 32 := nib (nib (r ^^^ up c))
def stepR (r : BitVec 32) (c : UInt8) : BitVec 32 := bitN 8 (r ^^^ up c)
def sumS (bs : List UInt8) : BitVec 32 := ~~~ (bs.foldl step 0xffffffff#32)
def sumR (bs : List UInt8) : BitVec 32 := ~~~ (bs.foldl stepR 0xffffffff#32)
theorem table_run : runF GA 400 f_wire_table [] VH.empty = some (.agg tabV.toArray) := by kernel_rfl
theorem table_ok (h : VH) : PCalls Tryd.prog f_wire_table [] h (fun u h' => u = .agg tabV.toArray ∧ h' = h) := run_alone GA_ok table_run (by kernel_rfl) rfl h
theorem tabV_len : tabV.length = 16 := rfl
theorem tabV_one : tabV.all Value.oneCell' = true := by kernel_rfl
theorem tabV_at {n : Nat} (h : n < 16) : tabV[n]? = some (.int .u32 (tab n).toNat) := by simp [tabV, h]
theorem take_foldl (f : BitVec 32 → UInt8 → BitVec 32) (bs : List UInt8) (i : Nat) (hi : i < bs.length) (r : BitVec 32) : (bs.take (i + 1)).foldl f r = f ((bs.take i).foldl f r) bs[i] := by
  rw [List.take_succ_eq_append_getElem hi, List.foldl_append]
  rfl
attribute [local irreducible] tabV
theorem up_toNat (c : UInt8) : ((up c).toNat : Int) = (c.toNat : Int) := by
  have := c.toNat_lt
  unfold up
  rw [BitVec.toNat_ofNat, Nat.mod_eq_of_lt (by omega)]
theorem wrap_u32_byte (c : UInt8) : IntKind.u32.wrap (c.toNat : Int) = ((up c).toNat : Int) := by
  have := c.toNat_lt
  rw [up_toNat, wrapN_u32, Nat.mod_eq_of_lt (by omega)]
theorem and15_lt (r : BitVec 32) : (r &&& 15#32).toNat < 16 := by
  rw [BitVec.toNat_and]
  exact Nat.lt_succ_of_le Nat.and_le_right
theorem not32 (r : BitVec 32) : Go.bits .xor .u32 4294967295 (r.toNat : Int) = ((~~~ r).toNat : Int) := by
  have := bits_xor_u32 (BitVec.allOnes 32) r
  rw [BitVec.allOnes_xor] at this
  exact this
theorem and15 (r : BitVec 32) : Go.bits .and .u32 (r.toNat : Int) 15 = ((r &&& 15#32).toNat : Int) := bits_and_u32 r 15#32
theorem and1 (r : BitVec 32) : Go.bits .and .u32 (r.toNat : Int) 1 = ((r &&& 1#32).toNat : Int) := bits_and_u32 r 1#32
theorem nib_int (r : BitVec 32) : Go.bits .xor .u32 (Int.fdiv (r.toNat : Int) 16) ((tab (r &&& 15#32).toNat).toNat : Int) = ((nib r).toNat : Int) := by
  have h := shr_u32 r 4
  rw [show (2 : Int) ^ 4 = 16 by decide] at h
  rw [h, bits_xor_u32]
  rfl
theorem un_xor_u32 (n : Int) : pun .xor (.int .u32 n) = some (.int .u32 (Go.bits .xor .u32 4294967295 n)) := rfl
theorem i64_succ {n : Nat} (h : n < 9223372036854775807) : IntKind.i64.wrap ((n : Int) + 1) = ((n + 1 : Nat) : Int) := by
  rw [IntKind.wrap_i64]; omega
set_option maxHeartbeats 1000000 in
theorem sum_ok' {h : VH} {v : Value} {bs : List UInt8} (hb : IsBytes h v bs) (hlen : bs.length < 9223372036854775807) : PCalls Tryd.prog f_wire_Sum [v] h (fun u h' => u = .int .u32 (sumS bs).toNat) := by
  refine PCalls_of_pw st_wire_Sum (by simp [n_wire_Sum]) ?_
  rw [b_wire_Sum]
  simp [B_wire_Sum, pw_skip, pw_ops, pw_quiet, pw_seq, pw_cond, pw_block, pw_exit, pw_ret, pw_scope, pw_label, kSeq_normal, kSeq_ret, kSeq_exit, kBlock_normal, kBlock_ret, kBlock_exit, kScope_normal, kScope_ret, kScope_exit, kLoop_normal, kLoop_ret, kLoop_exit, kCond_bool, pwOps_nil, pwOps_call, pwOps_guard, kStep_some, kStep_ite, kStep_dite, kCall_at, pwQ_nil, pwQ_call, pwQ_guard, kQ_some, kQ_ite, putS_some, putS_none, upd_apply, ev_t, ev_k, isB_bool, s0_apply, pstep, pwO_mov, pwO_pick, pwO_nilck, pwO_bin, pwO_binB, pwO_eqNil, pwO_un, pwO_convI, pwO_convS, pwO_alloc, pwO_build, pwO_load, pwO_store, pwO_fieldAddr, pwO_field, pwO_idxS, pwO_idxA, pwO_idxV, pwO_idxStr, pwO_lenStr, pwO_lenS, pwO_lenC, pwO_slS, pwO_slA, pwO_slStr, pwO_extract, pwO_mkFunc, pwO_mkIface, pwO_append, pwO_appendStr, pwO_appendZ, pwO_toBytes, pwO_ofBytes, pwO_box, pwO_row, pwO_minmax, pwO_eqV, pwO_sameB, pwR_mov, pwR_pick, pwR_nilck, pwR_bin, pwR_binB, pwR_eqNil, pwR_un, pwR_convI, pwR_convS, pwR_build, pwR_load, pwR_fieldAddr, pwR_field, pwR_idxS, pwR_idxA, pwR_idxV, pwR_idxStr, pwR_lenStr, pwR_lenS, pwR_lenC, pwR_slS, pwR_slA, pwR_slStr, pwR_extract, pwR_mkFunc, pwR_mkIface, pwR_ofBytes, pwR_minmax, pwR_eqV, ret_r, ret_n, kRet_some, resV0, resV1, resV2, resV3, resV4, storeAt, loadAt, VH.get_push_new, VH.get_set_same, VH.n_push, VH.n_set, cellsL_agg, cellsL_int, cellsL_bool, cellsL_string, cellsL_slice, cellsL_pointer, cellsL_map, pw_draw, pwD_nil, pwD_cons, kD_nil, kD_cons, evalOK_plain, evalOK_guard, kEv_some, kEv_ite, dstIs_some, dstIs_none, pw_goto, pw_scopeL, kSeq_goto, kBlock_goto, kLoop_goto, kScopeL_normal, kScopeL_ret, kScopeL_exit, kScopeL_goto, pwOps_callv, kCallv_fn, kCallv_yld, pwOps_nextM, pwO_makeMap, pwO_lookup, pwR_lookup, pwO_mapSet, pwO_mapDel, pwO_lenM, pwR_lenM, pwO_mapEntry, pwO_entrySet, pwO_rangeS, pwO_nextS, pwO_rangeM, pwO_entryM, pwR_entryM, pwO_copyV, pwO_makeSl, pwO_asrt, pwR_asrt, gI, gM, gT, gF, gN, gNT, gNF, dI, dM, dT, dF]
  refine (table_ok h).mono ?_
  rintro u h' ⟨rfl, rfl⟩
  simp [tabV_len, tabV_one, wr_all, pw_skip, pw_ops, pw_quiet, pw_seq, pw_cond, pw_block, pw_exit, pw_ret, pw_scope, pw_label, kSeq_normal, kSeq_ret, kSeq_exit, kBlock_normal, kBlock_ret, kBlock_exit, kScope_normal, kScope_ret, kScope_exit, kLoop_normal, kLoop_ret, kLoop_exit, kCond_bool, pwOps_nil, pwOps_call, pwOps_guard, kStep_some, kStep_ite, kStep_dite, kCall_at, pwQ_nil, pwQ_call, pwQ_guard, kQ_some, kQ_ite, putS_some, putS_none, upd_apply, ev_t, ev_k, isB_bool, s0_apply, pstep, pwO_mov, pwO_pick, pwO_nilck, pwO_bin, pwO_binB, pwO_eqNil, pwO_un, pwO_convI, pwO_convS, pwO_alloc, pwO_build, pwO_load, pwO_store, pwO_fieldAddr, pwO_field, pwO_idxS, pwO_idxA, pwO_idxV, pwO_idxStr, pwO_lenStr, pwO_lenS, pwO_lenC, pwO_slS, pwO_slA, pwO_slStr, pwO_extract, pwO_mkFunc, pwO_mkIface, pwO_append, pwO_appendStr, pwO_appendZ, pwO_toBytes, pwO_ofBytes, pwO_box, pwO_row, pwO_minmax, pwO_eqV, pwO_sameB, pwR_mov, pwR_pick, pwR_nilck, pwR_bin, pwR_binB, pwR_eqNil, pwR_un, pwR_convI, pwR_convS, pwR_build, pwR_load, pwR_fieldAddr, pwR_field, pwR_idxS, pwR_idxA, pwR_idxV, pwR_idxStr, pwR_lenStr, pwR_lenS, pwR_lenC, pwR_slS, pwR_slA, pwR_slStr, pwR_extract, pwR_mkFunc, pwR_mkIface, pwR_ofBytes, pwR_minmax, pwR_eqV, ret_r, ret_n, kRet_some, resV0, resV1, resV2, resV3, resV4, storeAt, loadAt, VH.get_push_new, VH.get_set_same, VH.n_push, VH.n_set, cellsL_agg, cellsL_int, cellsL_bool, cellsL_string, cellsL_slice, cellsL_pointer, cellsL_map, pw_draw, pwD_nil, pwD_cons, kD_nil, kD_cons, evalOK_plain, evalOK_guard, kEv_some, kEv_ite, dstIs_some, dstIs_none, pw_goto, pw_scopeL, kSeq_goto, kBlock_goto, kLoop_goto, kScopeL_normal, kScopeL_ret, kScopeL_exit, kScopeL_goto, pwOps_callv, kCallv_fn, kCallv_yld, pwOps_nextM, pwO_makeMap, pwO_lookup, pwR_lookup, pwO_mapSet, pwO_mapDel, pwO_lenM, pwR_lenM, pwO_mapEntry, pwO_entrySet, pwO_rangeS, pwO_nextS, pwO_rangeM, pwO_entryM, pwR_entryM, pwO_copyV, pwO_makeSl, pwO_asrt, pwR_asrt, gI, gM, gT, gF, gN, gNT, gNF, dI, dM, dT, dF]
  rcases hb with ⟨rfl, rfl⟩ | ⟨i, o, c, cs, own, hi, rfl, hcs, hfit, hrow⟩
  · simp [pw_skip, pw_ops, pw_quiet, pw_seq, pw_cond, pw_block, pw_exit, pw_ret, pw_scope, pw_label, kSeq_normal, kSeq_ret, kSeq_exit, kBlock_normal, kBlock_ret, kBlock_exit, kScope_normal, kScope_ret, kScope_exit, kLoop_normal, kLoop_ret, kLoop_exit, kCond_bool, pwOps_nil, pwOps_call, pwOps_guard, kStep_some, kStep_ite, kStep_dite, kCall_at, pwQ_nil, pwQ_call, pwQ_guard, kQ_some, kQ_ite, putS_some, putS_none, upd_apply, ev_t, ev_k, isB_bool, s0_apply, pstep, pwO_mov, pwO_pick, pwO_nilck, pwO_bin, pwO_binB, pwO_eqNil, pwO_un, pwO_convI, pwO_convS, pwO_alloc, pwO_build, pwO_load, pwO_store, pwO_fieldAddr, pwO_field, pwO_idxS, pwO_idxA, pwO_idxV, pwO_idxStr, pwO_lenStr, pwO_lenS, pwO_lenC, pwO_slS, pwO_slA, pwO_slStr, pwO_extract, pwO_mkFunc, pwO_mkIface, pwO_append, pwO_appendStr, pwO_appendZ, pwO_toBytes, pwO_ofBytes, pwO_box, pwO_row, pwO_minmax, pwO_eqV, pwO_sameB, pwR_mov, pwR_pick, pwR_nilck, pwR_bin, pwR_binB, pwR_eqNil, pwR_un, pwR_convI, pwR_convS, pwR_build, pwR_load, pwR_fieldAddr, pwR_field, pwR_idxS, pwR_idxA, pwR_idxV, pwR_idxStr, pwR_lenStr, pwR_lenS, pwR_lenC, pwR_slS, pwR_slA, pwR_slStr, pwR_extract, pwR_mkFunc, pwR_mkIface, pwR_ofBytes, pwR_minmax, pwR_eqV, ret_r, ret_n, kRet_some, resV0, resV1, resV2, resV3, resV4, storeAt, loadAt, VH.get_push_new, VH.get_set_same, VH.n_push, VH.n_set, cellsL_agg, cellsL_int, cellsL_bool, cellsL_string, cellsL_slice, cellsL_pointer, cellsL_map, pw_draw, pwD_nil, pwD_cons, kD_nil, kD_cons, evalOK_plain, evalOK_guard, kEv_some, kEv_ite, dstIs_some, dstIs_none, pw_goto, pw_scopeL, kSeq_goto, kBlock_goto, kLoop_goto, kScopeL_normal, kScopeL_ret, kScopeL_exit, kScopeL_goto, pwOps_callv, kCallv_fn, kCallv_yld, pwOps_nextM, pwO_makeMap, pwO_lookup, pwR_lookup, pwO_mapSet, pwO_mapDel, pwO_lenM, pwR_lenM, pwO_mapEntry, pwO_entrySet, pwO_rangeS, pwO_nextS, pwO_rangeM, pwO_entryM, pwR_entryM, pwO_copyV, pwO_makeSl, pwO_asrt, pwR_asrt, gI, gM, gT, gF, gN, gNT, gNF, dI, dM, dT, dF]
    refine pw_loop (fun _ s h => s 10 = .int .i64 0 ∧ s 9 = .int .i64 0 ∧ s 4 = .int .u32 4294967295) 0 (by simp [upd_apply]) ?_
    rintro _ s h ⟨h10, h9, h4⟩
    simp [h10, h9, h4, pbin, pbinI, pun, r_wire_Sum, pw_skip, pw_ops, pw_quiet, pw_seq, pw_cond, pw_block, pw_exit, pw_ret, pw_scope, pw_label, kSeq_normal, kSeq_ret, kSeq_exit, kBlock_normal, kBlock_ret, kBlock_exit, kScope_normal, kScope_ret, kScope_exit, kLoop_normal, kLoop_ret, kLoop_exit, kCond_bool, pwOps_nil, pwOps_call, pwOps_guard, kStep_some, kStep_ite, kStep_dite, kCall_at, pwQ_nil, pwQ_call, pwQ_guard, kQ_some, kQ_ite, putS_some, putS_none, upd_apply, ev_t, ev_k, isB_bool, s0_apply, pstep, pwO_mov, pwO_pick, pwO_nilck, pwO_bin, pwO_binB, pwO_eqNil, pwO_un, pwO_convI, pwO_convS, pwO_alloc, pwO_build, pwO_load, pwO_store, pwO_fieldAddr, pwO_field, pwO_idxS, pwO_idxA, pwO_idxV, pwO_idxStr, pwO_lenStr, pwO_lenS, pwO_lenC, pwO_slS, pwO_slA, pwO_slStr, pwO_extract, pwO_mkFunc, pwO_mkIface, pwO_append, pwO_appendStr, pwO_appendZ, pwO_toBytes, pwO_ofBytes, pwO_box, pwO_row, pwO_minmax, pwO_eqV, pwO_sameB, pwR_mov, pwR_pick, pwR_nilck, pwR_bin, pwR_binB, pwR_eqNil, pwR_un, pwR_convI, pwR_convS, pwR_build, pwR_load, pwR_fieldAddr, pwR_field, pwR_idxS, pwR_idxA, pwR_idxV, pwR_idxStr, pwR_lenStr, pwR_lenS, pwR_lenC, pwR_slS, pwR_slA, pwR_slStr, pwR_extract, pwR_mkFunc, pwR_mkIface, pwR_ofBytes, pwR_minmax, pwR_eqV, ret_r, ret_n, kRet_some, resV0, resV1, resV2, resV3, resV4, storeAt, loadAt, VH.get_push_new, VH.get_set_same, VH.n_push, VH.n_set, cellsL_agg, cellsL_int, cellsL_bool, cellsL_string, cellsL_slice, cellsL_pointer, cellsL_map, pw_draw, pwD_nil, pwD_cons, kD_nil, kD_cons, evalOK_plain, evalOK_guard, kEv_some, kEv_ite, dstIs_some, dstIs_none, pw_goto, pw_scopeL, kSeq_goto, kBlock_goto, kLoop_goto, kScopeL_normal, kScopeL_ret, kScopeL_exit, kScopeL_goto, pwOps_callv, kCallv_fn, kCallv_yld, pwOps_nextM, pwO_makeMap, pwO_lookup, pwR_lookup, pwO_mapSet, pwO_mapDel, pwO_lenM, pwR_lenM, pwO_mapEntry, pwO_entrySet, pwO_rangeS, pwO_nextS, pwO_rangeM, pwO_entryM, pwR_entryM, pwO_copyV, pwO_makeSl, pwO_asrt, pwR_asrt, gI, gM, gT, gF, gN, gNT, gNF, dI, dM, dT, dF]
    simp [sumS]
    exact not32 4294967295#32
  · simp [pw_skip, pw_ops, pw_quiet, pw_seq, pw_cond, pw_block, pw_exit, pw_ret, pw_scope, pw_label, kSeq_normal, kSeq_ret, kSeq_exit, kBlock_normal, kBlock_ret, kBlock_exit, kScope_normal, kScope_ret, kScope_exit, kLoop_normal, kLoop_ret, kLoop_exit, kCond_bool, pwOps_nil, pwOps_call, pwOps_guard, kStep_some, kStep_ite, kStep_dite, kCall_at, pwQ_nil, pwQ_call, pwQ_guard, kQ_some, kQ_ite, putS_some, putS_none, upd_apply, ev_t, ev_k, isB_bool, s0_apply, pstep, pwO_mov, pwO_pick, pwO_nilck, pwO_bin, pwO_binB, pwO_eqNil, pwO_un, pwO_convI, pwO_convS, pwO_alloc, pwO_build, pwO_load, pwO_store, pwO_fieldAddr, pwO_field, pwO_idxS, pwO_idxA, pwO_idxV, pwO_idxStr, pwO_lenStr, pwO_lenS, pwO_lenC, pwO_slS, pwO_slA, pwO_slStr, pwO_extract, pwO_mkFunc, pwO_mkIface, pwO_append, pwO_appendStr, pwO_appendZ, pwO_toBytes, pwO_ofBytes, pwO_box, pwO_row, pwO_minmax, pwO_eqV, pwO_sameB, pwR_mov, pwR_pick, pwR_nilck, pwR_bin, pwR_binB, pwR_eqNil, pwR_un, pwR_convI, pwR_convS, pwR_build, pwR_load, pwR_fieldAddr, pwR_field, pwR_idxS, pwR_idxA, pwR_idxV, pwR_idxStr, pwR_lenStr, pwR_lenS, pwR_lenC, pwR_slS, pwR_slA, pwR_slStr, pwR_extract, pwR_mkFunc, pwR_mkIface, pwR_ofBytes, pwR_minmax, pwR_eqV, ret_r, ret_n, kRet_some, resV0, resV1, resV2, resV3, resV4, storeAt, loadAt, VH.get_push_new, VH.get_set_same, VH.n_push, VH.n_set, cellsL_agg, cellsL_int, cellsL_bool, cellsL_string, cellsL_slice, cellsL_pointer, cellsL_map, pw_draw, pwD_nil, pwD_cons, kD_nil, kD_cons, evalOK_plain, evalOK_guard, kEv_some, kEv_ite, dstIs_some, dstIs_none, pw_goto, pw_scopeL, kSeq_goto, kBlock_goto, kLoop_goto, kScopeL_normal, kScopeL_ret, kScopeL_exit, kScopeL_goto, pwOps_callv, kCallv_fn, kCallv_yld, pwOps_nextM, pwO_makeMap, pwO_lookup, pwR_lookup, pwO_mapSet, pwO_mapDel, pwO_lenM, pwR_lenM, pwO_mapEntry, pwO_entrySet, pwO_rangeS, pwO_nextS, pwO_rangeM, pwO_entryM, pwR_entryM, pwO_copyV, pwO_makeSl, pwO_asrt, pwR_asrt, gI, gM, gT, gF, gN, gNT, gNF, dI, dM, dT, dF]
    rw [wr_all (by simp [tabV_len])]
    refine pw_loop (fun k s g => ∃ n : Nat, n ≤ bs.length ∧ k = bs.length - n ∧ s 10 = .int .i64 n ∧ s 9 = .int .i64 bs.length ∧ s 8 = .slice (some ⟨i, o, none⟩) bs.length c ∧ s 3 = .pointer (some ⟨h'.n, 0, none⟩) ∧
      s 4 = .int .u32 ((bs.take n).foldl step 0xffffffff#32).toNat ∧ g.get h'.n = .cells tabV true 1 ∧ g.get i = .cells cs own 1) bs.length ?_ ?_
    · exact ⟨0, Nat.zero_le _, by omega, by simp [upd_apply], by simp [upd_apply], by simp [upd_apply], by simp [upd_apply], by simp [upd_apply], by simp, by simp [VH.get_set, VH.get_push, Nat.ne_of_lt hi.1, hcs]⟩
    · rintro k s g ⟨n, hn, rfl, h10, h9, h8, h3, h4, hg1, hg2⟩
      by_cases hlt : n < bs.length
      · have hc := IsBytes.at_ hrow hlt
        have e15 := and15_lt
        have e15' : ∀ r : BitVec 32, ((r &&& 15#32).toNat : Int) < 16 := fun r => by have := and15_lt r; omega
        simp [-BitVec.toNat_xor, -BitVec.toNat_and, h10, h9, h8, h3, h4, hlt, hc, hg1, hg2, pbin, pbinI, wrap_u32_byte, bits_xor_u32, and15, e15, e15', tabV_at, nib_int, IntKind.bits, pw_skip, pw_ops, pw_quiet, pw_seq, pw_cond, pw_block, pw_exit, pw_ret, pw_scope, pw_label, kSeq_normal, kSeq_ret, kSeq_exit, kBlock_normal, kBlock_ret, kBlock_exit, kScope_normal, kScope_ret, kScope_exit, kLoop_normal, kLoop_ret, kLoop_exit, kCond_bool, pwOps_nil, pwOps_call, pwOps_guard, kStep_some, kStep_ite, kStep_dite, kCall_at, pwQ_nil, pwQ_call, pwQ_guard, kQ_some, kQ_ite, putS_some, putS_none, upd_apply, ev_t, ev_k, isB_bool, s0_apply, pstep, pwO_mov, pwO_pick, pwO_nilck, pwO_bin, pwO_binB, pwO_eqNil, pwO_un, pwO_convI, pwO_convS, pwO_alloc, pwO_build, pwO_load, pwO_store, pwO_fieldAddr, pwO_field, pwO_idxS, pwO_idxA, pwO_idxV, pwO_idxStr, pwO_lenStr, pwO_lenS, pwO_lenC, pwO_slS, pwO_slA, pwO_slStr, pwO_extract, pwO_mkFunc, pwO_mkIface, pwO_append, pwO_appendStr, pwO_appendZ, pwO_toBytes, pwO_ofBytes, pwO_box, pwO_row, pwO_minmax, pwO_eqV, pwO_sameB, pwR_mov, pwR_pick, pwR_nilck, pwR_bin, pwR_binB, pwR_eqNil, pwR_un, pwR_convI, pwR_convS, pwR_build, pwR_load, pwR_fieldAddr, pwR_field, pwR_idxS, pwR_idxA, pwR_idxV, pwR_idxStr, pwR_lenStr, pwR_lenS, pwR_lenC, pwR_slS, pwR_slA, pwR_slStr, pwR_extract, pwR_mkFunc, pwR_mkIface, pwR_ofBytes, pwR_minmax, pwR_eqV, ret_r, ret_n, kRet_some, resV0, resV1, resV2, resV3, resV4, storeAt, loadAt, VH.get_push_new, VH.get_set_same, VH.n_push, VH.n_set, cellsL_agg, cellsL_int, cellsL_bool, cellsL_string, cellsL_slice, cellsL_pointer, cellsL_map, pw_draw, pwD_nil, pwD_cons, kD_nil, kD_cons, evalOK_plain, evalOK_guard, kEv_some, kEv_ite, dstIs_some, dstIs_none, pw_goto, pw_scopeL, kSeq_goto, kBlock_goto, kLoop_goto, kScopeL_normal, kScopeL_ret, kScopeL_exit, kScopeL_goto, pwOps_callv, kCallv_fn, kCallv_yld, pwOps_nextM, pwO_makeMap, pwO_lookup, pwR_lookup, pwO_mapSet, pwO_mapDel, pwO_lenM, pwR_lenM, pwO_mapEntry, pwO_entrySet, pwO_rangeS, pwO_nextS, pwO_rangeM, pwO_entryM, pwR_entryM, pwO_copyV, pwO_makeSl, pwO_asrt, pwR_asrt, gI, gM, gT, gF, gN, gNT, gNF, dI, dM, dT, dF]
        refine ⟨bs.length - (n + 1), by omega, n + 1, by omega, rfl, ?_, ?_⟩
        · rw [i64_succ (by omega)]
        · rw [take_foldl step bs n hlt]
          rfl
      · obtain rfl : n = bs.length := by omega
        simp [-BitVec.toNat_not, h10, h9, h4, pbin, pbinI, un_xor_u32, r_wire_Sum, not32, pw_skip, pw_ops, pw_quiet, pw_seq, pw_cond, pw_block, pw_exit, pw_ret, pw_scope, pw_label, kSeq_normal, kSeq_ret, kSeq_exit, kBlock_normal, kBlock_ret, kBlock_exit, kScope_normal, kScope_ret, kScope_exit, kLoop_normal, kLoop_ret, kLoop_exit, kCond_bool, pwOps_nil, pwOps_call, pwOps_guard, kStep_some, kStep_ite, kStep_dite, kCall_at, pwQ_nil, pwQ_call, pwQ_guard, kQ_some, kQ_ite, putS_some, putS_none, upd_apply, ev_t, ev_k, isB_bool, s0_apply, pstep, pwO_mov, pwO_pick, pwO_nilck, pwO_bin, pwO_binB, pwO_eqNil, pwO_un, pwO_convI, pwO_convS, pwO_alloc, pwO_build, pwO_load, pwO_store, pwO_fieldAddr, pwO_field, pwO_idxS, pwO_idxA, pwO_idxV, pwO_idxStr, pwO_lenStr, pwO_lenS, pwO_lenC, pwO_slS, pwO_slA, pwO_slStr, pwO_extract, pwO_mkFunc, pwO_mkIface, pwO_append, pwO_appendStr, pwO_appendZ, pwO_toBytes, pwO_ofBytes, pwO_box, pwO_row, pwO_minmax, pwO_eqV, pwO_sameB, pwR_mov, pwR_pick, pwR_nilck, pwR_bin, pwR_binB, pwR_eqNil, pwR_un, pwR_convI, pwR_convS, pwR_build, pwR_load, pwR_fieldAddr, pwR_field, pwR_idxS, pwR_idxA, pwR_idxV, pwR_idxStr, pwR_lenStr, pwR_lenS, pwR_lenC, pwR_slS, pwR_slA, pwR_slStr, pwR_extract, pwR_mkFunc, pwR_mkIface, pwR_ofBytes, pwR_minmax, pwR_eqV, ret_r, ret_n, kRet_some, resV0, resV1, resV2, resV3, resV4, storeAt, loadAt, VH.get_push_new, VH.get_set_same, VH.n_push, VH.n_set, cellsL_agg, cellsL_int, cellsL_bool, cellsL_string, cellsL_slice, cellsL_pointer, cellsL_map, pw_draw, pwD_nil, pwD_cons, kD_nil, kD_cons, evalOK_plain, evalOK_guard, kEv_some, kEv_ite, dstIs_some, dstIs_none, pw_goto, pw_scopeL, kSeq_goto, kBlock_goto, kLoop_goto, kScopeL_normal, kScopeL_ret, kScopeL_exit, kScopeL_goto, pwOps_callv, kCallv_fn, kCallv_yld, pwOps_nextM, pwO_makeMap, pwO_lookup, pwR_lookup, pwO_mapSet, pwO_mapDel, pwO_lenM, pwR_lenM, pwO_mapEntry, pwO_entrySet, pwO_rangeS, pwO_nextS, pwO_rangeM, pwO_entryM, pwR_entryM, pwO_copyV, pwO_makeSl, pwO_asrt, pwR_asrt, gI, gM, gT, gF, gN, gNT, gNF, dI, dM, dT, dF]
        exact not32 _
theorem sum_ok {h : VH} {v : Value} {bs : List UInt8} (hb : IsBytes h v bs) (hlen : bs.length < 9223372036854775807) : PCalls Tryd.prog f_wire_Sum [v] h (fun u h' => u = .int .u32 (sumS bs).toNat ∧ h' = h) :=
  ((sum_ok' hb.ro hlen).mono fun u _ e => by subst e; exact ⟨rfl, rfl⟩).drop
theorem bitN_succ (n : Nat) (r : BitVec 32) : bitN (n + 1) r = bit1 (bitN n r) := by
  induction n generalizing r with
  | zero => rfl
  | succ n ih => exact ih (bit1 r)
theorem bit1_yes {r : BitVec 32} (h : r &&& 1#32 = 1#32) : bit1 r = (r >>> 1) ^^^ 0x82f63b78#32 := if_pos h
theorem bit1_no {r : BitVec 32} (h : ¬ r &&& 1#32 = 1#32) : bit1 r = r >>> 1 := if_neg h
theorem and1_iff (r : BitVec 32) : (((r &&& 1#32).toNat : Int) == 1) = decide (r &&& 1#32 = 1#32) := by
  by_cases h : r &&& 1#32 = 1#32
  · rw [h]; rfl
  · have : ¬ ((r &&& 1#32).toNat : Int) = 1 := fun e => h (by
      apply BitVec.eq_of_toNat_eq
      have : (r &&& 1#32).toNat = 1 := by omega
      exact this)
    simp only [h, decide_false]
    simpa using this
theorem shr1 (r : BitVec 32) : Int.fdiv (r.toNat : Int) 2 = ((r >>> 1).toNat : Int) := by
  have h := shr_u32 r 1
  rwa [show (2 : Int) ^ 1 = 2 by decide] at h
theorem xorp (r : BitVec 32) : Go.bits .xor .u32 (r.toNat : Int) 2197175160 = ((r ^^^ 0x82f63b78#32).toNat : Int) := bits_xor_u32 r 0x82f63b78#32
set_option maxHeartbeats 1000000 in
theorem sumr_ok' {h : VH} {v : Value} {bs : List UInt8} (hb : IsBytes h v bs) (hlen : bs.length < 9223372036854775807) : PCalls Tryd.prog f_ref02_Sum [v] h (fun u h' => u = .int .u32 (sumR bs).toNat) := by
  refine PCalls_of_pw st_ref02_Sum (by simp [n_ref02_Sum]) ?_
  rw [b_ref02_Sum]
  simp [B_ref02_Sum, pw_skip, pw_ops, pw_quiet, pw_seq, pw_cond, pw_block, pw_exit, pw_ret, pw_scope, pw_label, kSeq_normal, kSeq_ret, kSeq_exit, kBlock_normal, kBlock_ret, kBlock_exit, kScope_normal, kScope_ret, kScope_exit, kLoop_normal, kLoop_ret, kLoop_exit, kCond_bool, pwOps_nil, pwOps_call, pwOps_guard, kStep_some, kStep_ite, kStep_dite, kCall_at, pwQ_nil, pwQ_call, pwQ_guard, kQ_some, kQ_ite, putS_some, putS_none, upd_apply, ev_t, ev_k, isB_bool, s0_apply, pstep, pwO_mov, pwO_pick, pwO_nilck, pwO_bin, pwO_binB, pwO_eqNil, pwO_un, pwO_convI, pwO_convS, pwO_alloc, pwO_build, pwO_load, pwO_store, pwO_fieldAddr, pwO_field, pwO_idxS, pwO_idxA, pwO_idxV, pwO_idxStr, pwO_lenStr, pwO_lenS, pwO_lenC, pwO_slS, pwO_slA, pwO_slStr, pwO_extract, pwO_mkFunc, pwO_mkIface, pwO_append, pwO_appendStr, pwO_appendZ, pwO_toBytes, pwO_ofBytes, pwO_box, pwO_row, pwO_minmax, pwO_eqV, pwO_sameB, pwR_mov, pwR_pick, pwR_nilck, pwR_bin, pwR_binB, pwR_eqNil, pwR_un, pwR_convI, pwR_convS, pwR_build, pwR_load, pwR_fieldAddr, pwR_field, pwR_idxS, pwR_idxA, pwR_idxV, pwR_idxStr, pwR_lenStr, pwR_lenS, pwR_lenC, pwR_slS, pwR_slA, pwR_slStr, pwR_extract, pwR_mkFunc, pwR_mkIface, pwR_ofBytes, pwR_minmax, pwR_eqV, ret_r, ret_n, kRet_some, resV0, resV1, resV2, resV3, resV4, storeAt, loadAt, VH.get_push_new, VH.get_set_same, VH.n_push, VH.n_set, cellsL_agg, cellsL_int, cellsL_bool, cellsL_string, cellsL_slice, cellsL_pointer, cellsL_map, pw_draw, pwD_nil, pwD_cons, kD_nil, kD_cons, evalOK_plain, evalOK_guard, kEv_some, kEv_ite, dstIs_some, dstIs_none, pw_goto, pw_scopeL, kSeq_goto, kBlock_goto, kLoop_goto, kScopeL_normal, kScopeL_ret, kScopeL_exit, kScopeL_goto, pwOps_callv, kCallv_fn, kCallv_yld, pwOps_nextM, pwO_makeMap, pwO_lookup, pwR_lookup, pwO_mapSet, pwO_mapDel, pwO_lenM, pwR_lenM, pwO_mapEntry, pwO_entrySet, pwO_rangeS, pwO_nextS, pwO_rangeM, pwO_entryM, pwR_entryM, pwO_copyV, pwO_makeSl, pwO_asrt, pwR_asrt, gI, gM, gT, gF, gN, gNT, gNF, dI, dM, dT, dF]
  rcases hb with ⟨rfl, rfl⟩ | ⟨i, o, c, cs, own, hi, rfl, hcs, hfit, hrow⟩
  · refine pw_loop (fun _ s h => s 4 = .int .i64 0 ∧ s 0 = .slice none 0 0 ∧ s 3 = .int .u32 4294967295) 0 (by simp [upd_apply, s0_apply]) ?_
    rintro _ s h ⟨h10, h9, h4⟩
    simp [h10, h9, h4, pbin, pbinI, pun, r_ref02_Sum, pw_skip, pw_ops, pw_quiet, pw_seq, pw_cond, pw_block, pw_exit, pw_ret, pw_scope, pw_label, kSeq_normal, kSeq_ret, kSeq_exit, kBlock_normal, kBlock_ret, kBlock_exit, kScope_normal, kScope_ret, kScope_exit, kLoop_normal, kLoop_ret, kLoop_exit, kCond_bool, pwOps_nil, pwOps_call, pwOps_guard, kStep_some, kStep_ite, kStep_dite, kCall_at, pwQ_nil, pwQ_call, pwQ_guard, kQ_some, kQ_ite, putS_some, putS_none, upd_apply, ev_t, ev_k, isB_bool, s0_apply, pstep, pwO_mov, pwO_pick, pwO_nilck, pwO_bin, pwO_binB, pwO_eqNil, pwO_un, pwO_convI, pwO_convS, pwO_alloc, pwO_build, pwO_load, pwO_store, pwO_fieldAddr, pwO_field, pwO_idxS, pwO_idxA, pwO_idxV, pwO_idxStr, pwO_lenStr, pwO_lenS, pwO_lenC, pwO_slS, pwO_slA, pwO_slStr, pwO_extract, pwO_mkFunc, pwO_mkIface, pwO_append, pwO_appendStr, pwO_appendZ, pwO_toBytes, pwO_ofBytes, pwO_box, pwO_row, pwO_minmax, pwO_eqV, pwO_sameB, pwR_mov, pwR_pick, pwR_nilck, pwR_bin, pwR_binB, pwR_eqNil, pwR_un, pwR_convI, pwR_convS, pwR_build, pwR_load, pwR_fieldAddr, pwR_field, pwR_idxS, pwR_idxA, pwR_idxV, pwR_idxStr, pwR_lenStr, pwR_lenS, pwR_lenC, pwR_slS, pwR_slA, pwR_slStr, pwR_extract, pwR_mkFunc, pwR_mkIface, pwR_ofBytes, pwR_minmax, pwR_eqV, ret_r, ret_n, kRet_some, resV0, resV1, resV2, resV3, resV4, storeAt, loadAt, VH.get_push_new, VH.get_set_same, VH.n_push, VH.n_set, cellsL_agg, cellsL_int, cellsL_bool, cellsL_string, cellsL_slice, cellsL_pointer, cellsL_map, pw_draw, pwD_nil, pwD_cons, kD_nil, kD_cons, evalOK_plain, evalOK_guard, kEv_some, kEv_ite, dstIs_some, dstIs_none, pw_goto, pw_scopeL, kSeq_goto, kBlock_goto, kLoop_goto, kScopeL_normal, kScopeL_ret, kScopeL_exit, kScopeL_goto, pwOps_callv, kCallv_fn, kCallv_yld, pwOps_nextM, pwO_makeMap, pwO_lookup, pwR_lookup, pwO_mapSet, pwO_mapDel, pwO_lenM, pwR_lenM, pwO_mapEntry, pwO_entrySet, pwO_rangeS, pwO_nextS, pwO_rangeM, pwO_entryM, pwR_entryM, pwO_copyV, pwO_makeSl, pwO_asrt, pwR_asrt, gI, gM, gT, gF, gN, gNT, gNF, dI, dM, dT, dF]
    simp [sumR]
    exact not32 4294967295#32
  · refine pw_loop (fun k s g => ∃ n : Nat, n ≤ bs.length ∧ k = bs.length - n ∧ s 4 = .int .i64 n ∧ s 0 = .slice (some ⟨i, o, none⟩) bs.length c ∧
      s 3 = .int .u32 ((bs.take n).foldl stepR 0xffffffff#32).toNat ∧ g.get i = .cells cs own 1) bs.length ?_ ?_
    · exact ⟨0, Nat.zero_le _, by omega, by simp [upd_apply], by simp [upd_apply, s0_apply], by simp [upd_apply], hcs⟩
    · rintro k s g ⟨n, hn, rfl, h4, h0, h3, hg⟩
      by_cases hlt : n < bs.length
      · have hc := IsBytes.at_ hrow hlt
        simp [-BitVec.toNat_xor, h4, h0, h3, hlt, hc, hg, pbin, pbinI, wrap_u32_byte, bits_xor_u32, IntKind.bits, pw_skip, pw_ops, pw_quiet, pw_seq, pw_cond, pw_block, pw_exit, pw_ret, pw_scope, pw_label, kSeq_normal, kSeq_ret, kSeq_exit, kBlock_normal, kBlock_ret, kBlock_exit, kScope_normal, kScope_ret, kScope_exit, kLoop_normal, kLoop_ret, kLoop_exit, kCond_bool, pwOps_nil, pwOps_call, pwOps_guard, kStep_some, kStep_ite, kStep_dite, kCall_at, pwQ_nil, pwQ_call, pwQ_guard, kQ_some, kQ_ite, putS_some, putS_none, upd_apply, ev_t, ev_k, isB_bool, s0_apply, pstep, pwO_mov, pwO_pick, pwO_nilck, pwO_bin, pwO_binB, pwO_eqNil, pwO_un, pwO_convI, pwO_convS, pwO_alloc, pwO_build, pwO_load, pwO_store, pwO_fieldAddr, pwO_field, pwO_idxS, pwO_idxA, pwO_idxV, pwO_idxStr, pwO_lenStr, pwO_lenS, pwO_lenC, pwO_slS, pwO_slA, pwO_slStr, pwO_extract, pwO_mkFunc, pwO_mkIface, pwO_append, pwO_appendStr, pwO_appendZ, pwO_toBytes, pwO_ofBytes, pwO_box, pwO_row, pwO_minmax, pwO_eqV, pwO_sameB, pwR_mov, pwR_pick, pwR_nilck, pwR_bin, pwR_binB, pwR_eqNil, pwR_un, pwR_convI, pwR_convS, pwR_build, pwR_load, pwR_fieldAddr, pwR_field, pwR_idxS, pwR_idxA, pwR_idxV, pwR_idxStr, pwR_lenStr, pwR_lenS, pwR_lenC, pwR_slS, pwR_slA, pwR_slStr, pwR_extract, pwR_mkFunc, pwR_mkIface, pwR_ofBytes, pwR_minmax, pwR_eqV, ret_r, ret_n, kRet_some, resV0, resV1, resV2, resV3, resV4, storeAt, loadAt, VH.get_push_new, VH.get_set_same, VH.n_push, VH.n_set, cellsL_agg, cellsL_int, cellsL_bool, cellsL_string, cellsL_slice, cellsL_pointer, cellsL_map, pw_draw, pwD_nil, pwD_cons, kD_nil, kD_cons, evalOK_plain, evalOK_guard, kEv_some, kEv_ite, dstIs_some, dstIs_none, pw_goto, pw_scopeL, kSeq_goto, kBlock_goto, kLoop_goto, kScopeL_normal, kScopeL_ret, kScopeL_exit, kScopeL_goto, pwOps_callv, kCallv_fn, kCallv_yld, pwOps_nextM, pwO_makeMap, pwO_lookup, pwR_lookup, pwO_mapSet, pwO_mapDel, pwO_lenM, pwR_lenM, pwO_mapEntry, pwO_entrySet, pwO_rangeS, pwO_nextS, pwO_rangeM, pwO_entryM, pwR_entryM, pwO_copyV, pwO_makeSl, pwO_asrt, pwR_asrt, gI, gM, gT, gF, gN, gNT, gNF, dI, dM, dT, dF]
        refine pw_loop (fun k s g => ∃ j : Nat, j ≤ 8 ∧ k = 8 - j ∧ s 5 = .int .i64 j ∧ s 4 = .int .i64 n ∧ s 0 = .slice (some ⟨i, o, none⟩) bs.length c ∧
          s 3 = .int .u32 (bitN j (((bs.take n).foldl stepR 0xffffffff#32) ^^^ up bs[n])).toNat ∧ g.get i = .cells cs own 1) 8 ?_ ?_
        · exact ⟨0, by omega, rfl, by simp [upd_apply], by simp [upd_apply, h4], by simp [upd_apply, h0], by simp [upd_apply, bitN], hg⟩
        · rintro k s g ⟨j, hj, rfl, h5, h4, h0, h3, hg⟩
          by_cases hj8 : j < 8
          · have hj8' : (j : Int) < 8 := by omega
            by_cases hb1 : bitN j (((bs.take n).foldl stepR 0xffffffff#32) ^^^ up bs[n]) &&& 1#32 = 1#32
            · simp [-BitVec.toNat_xor, -BitVec.toNat_and, -BitVec.toNat_ushiftRight, h5, h4, h0, h3, hj8', hg, pbin, pbinI, and1, and1_iff, hb1, shr1, xorp, IntKind.bits, pw_skip, pw_ops, pw_quiet, pw_seq, pw_cond, pw_block, pw_exit, pw_ret, pw_scope, pw_label, kSeq_normal, kSeq_ret, kSeq_exit, kBlock_normal, kBlock_ret, kBlock_exit, kScope_normal, kScope_ret, kScope_exit, kLoop_normal, kLoop_ret, kLoop_exit, kCond_bool, pwOps_nil, pwOps_call, pwOps_guard, kStep_some, kStep_ite, kStep_dite, kCall_at, pwQ_nil, pwQ_call, pwQ_guard, kQ_some, kQ_ite, putS_some, putS_none, upd_apply, ev_t, ev_k, isB_bool, s0_apply, pstep, pwO_mov, pwO_pick, pwO_nilck, pwO_bin, pwO_binB, pwO_eqNil, pwO_un, pwO_convI, pwO_convS, pwO_alloc, pwO_build, pwO_load, pwO_store, pwO_fieldAddr, pwO_field, pwO_idxS, pwO_idxA, pwO_idxV, pwO_idxStr, pwO_lenStr, pwO_lenS, pwO_lenC, pwO_slS, pwO_slA, pwO_slStr, pwO_extract, pwO_mkFunc, pwO_mkIface, pwO_append, pwO_appendStr, pwO_appendZ, pwO_toBytes, pwO_ofBytes, pwO_box, pwO_row, pwO_minmax, pwO_eqV, pwO_sameB, pwR_mov, pwR_pick, pwR_nilck, pwR_bin, pwR_binB, pwR_eqNil, pwR_un, pwR_convI, pwR_convS, pwR_build, pwR_load, pwR_fieldAddr, pwR_field, pwR_idxS, pwR_idxA, pwR_idxV, pwR_idxStr, pwR_lenStr, pwR_lenS, pwR_lenC, pwR_slS, pwR_slA, pwR_slStr, pwR_extract, pwR_mkFunc, pwR_mkIface, pwR_ofBytes, pwR_minmax, pwR_eqV, ret_r, ret_n, kRet_some, resV0, resV1, resV2, resV3, resV4, storeAt, loadAt, VH.get_push_new, VH.get_set_same, VH.n_push, VH.n_set, cellsL_agg, cellsL_int, cellsL_bool, cellsL_string, cellsL_slice, cellsL_pointer, cellsL_map, pw_draw, pwD_nil, pwD_cons, kD_nil, kD_cons, evalOK_plain, evalOK_guard, kEv_some, kEv_ite, dstIs_some, dstIs_none, pw_goto, pw_scopeL, kSeq_goto, kBlock_goto, kLoop_goto, kScopeL_normal, kScopeL_ret, kScopeL_exit, kScopeL_goto, pwOps_callv, kCallv_fn, kCallv_yld, pwOps_nextM, pwO_makeMap, pwO_lookup, pwR_lookup, pwO_mapSet, pwO_mapDel, pwO_lenM, pwR_lenM, pwO_mapEntry, pwO_entrySet, pwO_rangeS, pwO_nextS, pwO_rangeM, pwO_entryM, pwR_entryM, pwO_copyV, pwO_makeSl, pwO_asrt, pwR_asrt, gI, gM, gT, gF, gN, gNT, gNF, dI, dM, dT, dF]
              refine ⟨8 - (j + 1), by omega, j + 1, by omega, rfl, ?_, ?_⟩
              · rw [i64_succ (by omega)]
              · rw [bitN_succ, bit1_yes hb1]
            · simp [-BitVec.toNat_xor, -BitVec.toNat_and, -BitVec.toNat_ushiftRight, h5, h4, h0, h3, hj8', hg, pbin, pbinI, and1, and1_iff, hb1, shr1, xorp, IntKind.bits, pw_skip, pw_ops, pw_quiet, pw_seq, pw_cond, pw_block, pw_exit, pw_ret, pw_scope, pw_label, kSeq_normal, kSeq_ret, kSeq_exit, kBlock_normal, kBlock_ret, kBlock_exit, kScope_normal, kScope_ret, kScope_exit, kLoop_normal, kLoop_ret, kLoop_exit, kCond_bool, pwOps_nil, pwOps_call, pwOps_guard, kStep_some, kStep_ite, kStep_dite, kCall_at, pwQ_nil, pwQ_call, pwQ_guard, kQ_some, kQ_ite, putS_some, putS_none, upd_apply, ev_t, ev_k, isB_bool, s0_apply, pstep, pwO_mov, pwO_pick, pwO_nilck, pwO_bin, pwO_binB, pwO_eqNil, pwO_un, pwO_convI, pwO_convS, pwO_alloc, pwO_build, pwO_load, pwO_store, pwO_fieldAddr, pwO_field, pwO_idxS, pwO_idxA, pwO_idxV, pwO_idxStr, pwO_lenStr, pwO_lenS, pwO_lenC, pwO_slS, pwO_slA, pwO_slStr, pwO_extract, pwO_mkFunc, pwO_mkIface, pwO_append, pwO_appendStr, pwO_appendZ, pwO_toBytes, pwO_ofBytes, pwO_box, pwO_row, pwO_minmax, pwO_eqV, pwO_sameB, pwR_mov, pwR_pick, pwR_nilck, pwR_bin, pwR_binB, pwR_eqNil, pwR_un, pwR_convI, pwR_convS, pwR_build, pwR_load, pwR_fieldAddr, pwR_field, pwR_idxS, pwR_idxA, pwR_idxV, pwR_idxStr, pwR_lenStr, pwR_lenS, pwR_lenC, pwR_slS, pwR_slA, pwR_slStr, pwR_extract, pwR_mkFunc, pwR_mkIface, pwR_ofBytes, pwR_minmax, pwR_eqV, ret_r, ret_n, kRet_some, resV0, resV1, resV2, resV3, resV4, storeAt, loadAt, VH.get_push_new, VH.get_set_same, VH.n_push, VH.n_set, cellsL_agg, cellsL_int, cellsL_bool, cellsL_string, cellsL_slice, cellsL_pointer, cellsL_map, pw_draw, pwD_nil, pwD_cons, kD_nil, kD_cons, evalOK_plain, evalOK_guard, kEv_some, kEv_ite, dstIs_some, dstIs_none, pw_goto, pw_scopeL, kSeq_goto, kBlock_goto, kLoop_goto, kScopeL_normal, kScopeL_ret, kScopeL_exit, kScopeL_goto, pwOps_callv, kCallv_fn, kCallv_yld, pwOps_nextM, pwO_makeMap, pwO_lookup, pwR_lookup, pwO_mapSet, pwO_mapDel, pwO_lenM, pwR_lenM, pwO_mapEntry, pwO_entrySet, pwO_rangeS, pwO_nextS, pwO_rangeM, pwO_entryM, pwR_entryM, pwO_copyV, pwO_makeSl, pwO_asrt, pwR_asrt, gI, gM, gT, gF, gN, gNT, gNF, dI, dM, dT, dF]
              refine ⟨8 - (j + 1), by omega, j + 1, by omega, rfl, ?_, ?_⟩
              · rw [i64_succ (by omega)]
              · rw [bitN_succ, bit1_no hb1]
          · obtain rfl : j = 8 := by omega
            simp [-BitVec.toNat_xor, h5, h4, h0, h3, hg, pbin, pbinI, pw_skip, pw_ops, pw_quiet, pw_seq, pw_cond, pw_block, pw_exit, pw_ret, pw_scope, pw_label, kSeq_normal, kSeq_ret, kSeq_exit, kBlock_normal, kBlock_ret, kBlock_exit, kScope_normal, kScope_ret, kScope_exit, kLoop_normal, kLoop_ret, kLoop_exit, kCond_bool, pwOps_nil, pwOps_call, pwOps_guard, kStep_some, kStep_ite, kStep_dite, kCall_at, pwQ_nil, pwQ_call, pwQ_guard, kQ_some, kQ_ite, putS_some, putS_none, upd_apply, ev_t, ev_k, isB_bool, s0_apply, pstep, pwO_mov, pwO_pick, pwO_nilck, pwO_bin, pwO_binB, pwO_eqNil, pwO_un, pwO_convI, pwO_convS, pwO_alloc, pwO_build, pwO_load, pwO_store, pwO_fieldAddr, pwO_field, pwO_idxS, pwO_idxA, pwO_idxV, pwO_idxStr, pwO_lenStr, pwO_lenS, pwO_lenC, pwO_slS, pwO_slA, pwO_slStr, pwO_extract, pwO_mkFunc, pwO_mkIface, pwO_append, pwO_appendStr, pwO_appendZ, pwO_toBytes, pwO_ofBytes, pwO_box, pwO_row, pwO_minmax, pwO_eqV, pwO_sameB, pwR_mov, pwR_pick, pwR_nilck, pwR_bin, pwR_binB, pwR_eqNil, pwR_un, pwR_convI, pwR_convS, pwR_build, pwR_load, pwR_fieldAddr, pwR_field, pwR_idxS, pwR_idxA, pwR_idxV, pwR_idxStr, pwR_lenStr, pwR_lenS, pwR_lenC, pwR_slS, pwR_slA, pwR_slStr, pwR_extract, pwR_mkFunc, pwR_mkIface, pwR_ofBytes, pwR_minmax, pwR_eqV, ret_r, ret_n, kRet_some, resV0, resV1, resV2, resV3, resV4, storeAt, loadAt, VH.get_push_new, VH.get_set_same, VH.n_push, VH.n_set, cellsL_agg, cellsL_int, cellsL_bool, cellsL_string, cellsL_slice, cellsL_pointer, cellsL_map, pw_draw, pwD_nil, pwD_cons, kD_nil, kD_cons, evalOK_plain, evalOK_guard, kEv_some, kEv_ite, dstIs_some, dstIs_none, pw_goto, pw_scopeL, kSeq_goto, kBlock_goto, kLoop_goto, kScopeL_normal, kScopeL_ret, kScopeL_exit, kScopeL_goto, pwOps_callv, kCallv_fn, kCallv_yld, pwOps_nextM, pwO_makeMap, pwO_lookup, pwR_lookup, pwO_mapSet, pwO_mapDel, pwO_lenM, pwR_lenM, pwO_mapEntry, pwO_entrySet, pwO_rangeS, pwO_nextS, pwO_rangeM, pwO_entryM, pwR_entryM, pwO_copyV, pwO_makeSl, pwO_asrt, pwR_asrt, gI, gM, gT, gF, gN, gNT, gNF, dI, dM, dT, dF]
            refine ⟨bs.length - (n + 1), by omega, n + 1, by omega, rfl, ?_, ?_⟩
            · rw [i64_succ (by omega)]
            · rw [take_foldl stepR bs n hlt]
              rfl
      · obtain rfl : n = bs.length := by omega
        simp [-BitVec.toNat_not, h4, h0, h3, pbin, pbinI, un_xor_u32, r_ref02_Sum, not32, pw_skip, pw_ops, pw_quiet, pw_seq, pw_cond, pw_block, pw_exit, pw_ret, pw_scope, pw_label, kSeq_normal, kSeq_ret, kSeq_exit, kBlock_normal, kBlock_ret, kBlock_exit, kScope_normal, kScope_ret, kScope_exit, kLoop_normal, kLoop_ret, kLoop_exit, kCond_bool, pwOps_nil, pwOps_call, pwOps_guard, kStep_some, kStep_ite, kStep_dite, kCall_at, pwQ_nil, pwQ_call, pwQ_guard, kQ_some, kQ_ite, putS_some, putS_none, upd_apply, ev_t, ev_k, isB_bool, s0_apply, pstep, pwO_mov, pwO_pick, pwO_nilck, pwO_bin, pwO_binB, pwO_eqNil, pwO_un, pwO_convI, pwO_convS, pwO_alloc, pwO_build, pwO_load, pwO_store, pwO_fieldAddr, pwO_field, pwO_idxS, pwO_idxA, pwO_idxV, pwO_idxStr, pwO_lenStr, pwO_lenS, pwO_lenC, pwO_slS, pwO_slA, pwO_slStr, pwO_extract, pwO_mkFunc, pwO_mkIface, pwO_append, pwO_appendStr, pwO_appendZ, pwO_toBytes, pwO_ofBytes, pwO_box, pwO_row, pwO_minmax, pwO_eqV, pwO_sameB, pwR_mov, pwR_pick, pwR_nilck, pwR_bin, pwR_binB, pwR_eqNil, pwR_un, pwR_convI, pwR_convS, pwR_build, pwR_load, pwR_fieldAddr, pwR_field, pwR_idxS, pwR_idxA, pwR_idxV, pwR_idxStr, pwR_lenStr, pwR_lenS, pwR_lenC, pwR_slS, pwR_slA, pwR_slStr, pwR_extract, pwR_mkFunc, pwR_mkIface, pwR_ofBytes, pwR_minmax, pwR_eqV, ret_r, ret_n, kRet_some, resV0, resV1, resV2, resV3, resV4, storeAt, loadAt, VH.get_push_new, VH.get_set_same, VH.n_push, VH.n_set, cellsL_agg, cellsL_int, cellsL_bool, cellsL_string, cellsL_slice, cellsL_pointer, cellsL_map, pw_draw, pwD_nil, pwD_cons, kD_nil, kD_cons, evalOK_plain, evalOK_guard, kEv_some, kEv_ite, dstIs_some, dstIs_none, pw_goto, pw_scopeL, kSeq_goto, kBlock_goto, kLoop_goto, kScopeL_normal, kScopeL_ret, kScopeL_exit, kScopeL_goto, pwOps_callv, kCallv_fn, kCallv_yld, pwOps_nextM, pwO_makeMap, pwO_lookup, pwR_lookup, pwO_mapSet, pwO_mapDel, pwO_lenM, pwR_lenM, pwO_mapEntry, pwO_entrySet, pwO_rangeS, pwO_nextS, pwO_rangeM, pwO_entryM, pwR_entryM, pwO_copyV, pwO_makeSl, pwO_asrt, pwR_asrt, gI, gM, gT, gF, gN, gNT, gNF, dI, dM, dT, dF]
        exact not32 _
theorem sumr_ok {h : VH} {v : Value} {bs : List UInt8} (hb : IsBytes h v bs) (hlen : bs.length < 9223372036854775807) : PCalls Tryd.prog f_ref02_Sum [v] h (fun u h' => u = .int .u32 (sumR bs).toNat ∧ h' = h) :=
  ((sumr_ok' hb.ro hlen).mono fun u _ e => by subst e; exact ⟨rfl, rfl⟩).drop
theorem low_iff (r : BitVec 32) : r &&& 1#32 = 1#32 ↔ r.getLsbD 0 = true := by
  constructor
  · intro h
    have := congrArg (fun x => x.getLsbD 0) h
    simpa using this
  · intro h
    apply BitVec.eq_of_getLsbD_eq
    intro i hi
    rw [BitVec.getLsbD_and]
    by_cases h0 : i = 0
    · subst h0; simp [h]
    · have : (1#32).getLsbD i = false := by simp [BitVec.getLsbD_one, h0]
      rw [this, Bool.and_false]
theorem bit1_eq (r : BitVec 32) : bit1 r = (r >>> 1) ^^^ (if r.getLsbD 0 then 0x82f63b78#32 else 0#32) := by
  unfold bit1
  by_cases h : r.getLsbD 0 = true
  · rw [if_pos ((low_iff r).2 h), if_pos h]
  · rw [if_neg (fun e => h ((low_iff r).1 e)), if_neg h, BitVec.xor_zero]
theorem bit1_xor (a b : BitVec 32) : bit1 (a ^^^ b) = bit1 a ^^^ bit1 b := by
  rw [bit1_eq, bit1_eq, bit1_eq, BitVec.ushiftRight_xor_distrib, BitVec.getLsbD_xor]
  generalize a >>> 1 = x
  generalize b >>> 1 = y
  generalize hp : (0x82f63b78#32) = p
  apply BitVec.eq_of_getLsbD_eq
  intro i hi
  cases a.getLsbD 0 <;> cases b.getLsbD 0 <;> simp [BitVec.getLsbD_xor] <;> cases x.getLsbD i <;> cases y.getLsbD i <;> cases p.getLsbD i <;> rfl
theorem bitN_xor (n : Nat) (a b : BitVec 32) : bitN n (a ^^^ b) = bitN n a ^^^ bitN n b := by
  induction n generalizing a b with
  | zero => rfl
  | succ n ih =>
    show bitN n (bit1 (a ^^^ b)) = bitN n (bit1 a) ^^^ bitN n (bit1 b)
    rw [bit1_xor, ih]
theorem bit1_zero : bit1 0#32 = 0#32 := by decide
theorem bitN_zero (n : Nat) : bitN n 0#32 = 0#32 := by
  induction n with
  | zero => rfl
  | succ n ih =>
    show bitN n (bit1 0#32) = _
    rw [bit1_zero, ih]
theorem bit1_even {r : BitVec 32} (h : r.getLsbD 0 = false) : bit1 r = r >>> 1 := by
  rw [bit1_eq, h]
  simp
theorem high4 (r : BitVec 32) : bitN 4 ((r >>> 4) <<< 4) = r >>> 4 := by
  have g : ∀ (i : Nat), ((r >>> 4) <<< 4).getLsbD i = (decide (4 ≤ i) && (decide (i < 32) && r.getLsbD i)) := by
    intro i
    simp only [BitVec.getLsbD_shiftLeft, BitVec.getLsbD_ushiftRight]
    by_cases h4 : i < 4
    · simp [h4]
      intro h
      omega
    · have : 4 + (i - 4) = i := by omega
      simp [h4, this]
      omega
  generalize (r >>> 4) <<< 4 = t at g
  show bit1 (bit1 (bit1 (bit1 t))) = _
  rw [bit1_even (r := t) (by rw [g]; rfl), bit1_even (r := t >>> 1) (by rw [BitVec.getLsbD_ushiftRight, g]; rfl),
    bit1_even (r := t >>> 1 >>> 1) (by rw [BitVec.getLsbD_ushiftRight, BitVec.getLsbD_ushiftRight, g]; rfl),
    bit1_even (r := t >>> 1 >>> 1 >>> 1) (by rw [BitVec.getLsbD_ushiftRight, BitVec.getLsbD_ushiftRight, BitVec.getLsbD_ushiftRight, g]; rfl)]
  apply BitVec.eq_of_getLsbD_eq
  intro i hi
  simp only [BitVec.getLsbD_ushiftRight, g]
  have : 1 + (1 + (1 + (1 + i))) = 4 + i := by omega
  rw [this]
  by_cases h : 4 + i < 32
  · simp [h]
  · rw [BitVec.getLsbD_of_ge _ _ (by omega)]; simp
theorem split4 (r : BitVec 32) : r = ((r >>> 4) <<< 4) ^^^ (r &&& 15#32) := by
  apply BitVec.eq_of_getLsbD_eq
  intro i hi
  rw [BitVec.getLsbD_xor, BitVec.getLsbD_and, BitVec.getLsbD_shiftLeft, BitVec.getLsbD_ushiftRight]
  by_cases h4 : i < 4
  · have : i = 0 ∨ i = 1 ∨ i = 2 ∨ i = 3 := by omega
    rcases this with rfl | rfl | rfl | rfl <;> simp
  · have e : 4 + (i - 4) = i := by omega
    have e15 : (15#32).getLsbD i = false := by
      rw [BitVec.getLsbD_ofNat]
      have : Nat.testBit 15 i = false := Nat.testBit_lt_two_pow (Nat.lt_of_lt_of_le (show 15 < 2 ^ 4 by decide) (Nat.pow_le_pow_right (by decide) (by omega)))
      rw [this, Bool.and_false]
    rw [e, e15]
    simp [hi, h4]
theorem nib_eq (r : BitVec 32) : nib r = bitN 4 r := by
  have h : bitN 4 r = bitN 4 (((r >>> 4) <<< 4) ^^^ (r &&& 15#32)) := congrArg _ (split4 r)
  rw [h, bitN_xor, high4]
  unfold nib tab
  rw [BitVec.ofNat_toNat, BitVec.setWidth_eq]
theorem step_eq (r : BitVec 32) (c : UInt8) : step r c = stepR r c := by
  unfold step stepR
  rw [nib_eq, nib_eq]
  rfl
theorem sum_eq (bs : List UInt8) : sumS bs = sumR bs := by
  have : step = stepR := by funext r c; exact step_eq r c
  unfold sumS sumR
  rw [this]
end Go.Proofs.YtpcjnpkpmaahiaaDoor.Wa
