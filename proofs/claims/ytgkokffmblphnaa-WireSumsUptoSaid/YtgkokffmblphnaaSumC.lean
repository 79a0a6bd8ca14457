import Derived.Test.YtgkokffmblphnaaSumB
import Derived.Test.YtgkokffmblphnaaPmR
set_option linter.unusedVariables false
set_option linter.unusedSimpArgs false
set_option maxRecDepth 100000
namespace Go.Proofs.Ytgkokffmblphnaa.SumA
open Go Go.RowKit Go.Proofs.Ytgkokffmblphnaa.Pm Go.Proofs.Ytgkokffmblphnaa.Fs

theorem known_run : runF GA 3000 8 [] VH.empty = some (.bool true) := by kernel_rfl
theorem known_ok (h : VH) : PCalls Try.prog 8 [] h (fun u h' => u = .bool true ∧ h' = h) := run_alone GA_ok known_run (by kernel_rfl) rfl h

theorem i64_small {n : Int} (h : -9223372036854775808 ≤ n) (h2 : n < 9223372036854775808) : IntKind.i64.wrap n = n := by
  rw [IntKind.wrap_i64]; omega
theorem tmod_emod (n : Int) {m : Nat} (hm : 0 < m) : (if Int.tmod n m < 0 then Int.tmod n m + m else Int.tmod n m) = n % (m : Int) := by
  rw [Int.tmod_eq_emod]
  have := Int.emod_nonneg n (show (m : Int) ≠ 0 by omega)
  have := Int.emod_lt_of_pos n (show (0 : Int) < m by omega)
  have h3 : ((m : Int).natAbs : Int) = m := by simp
  by_cases h : 0 ≤ n ∨ (m : Int) ∣ n
  · rw [if_pos h]; split <;> omega
  · rw [if_neg h, h3]; split <;> omega

theorem count_ok {h : VH} {n : Int} {m : Nat} (h0 : 0 < m) (hm : m < 4611686018427387904) : PCalls Try.prog 9 [.int .i64 n, .int .i64 m] h (fun u h' => u = .int .i64 (n % (m : Int)) ∧ h' = h) := by
  refine PCalls_of_pw st9 (by simp [n9]) ?_
  rw [b9]
  have ne : (m : Int) ≠ 0 := by omega
  have e := tmod_emod n h0
  have l1 : Int.tmod n m < m := Int.tmod_lt_of_pos n (by omega)
  have l2 : -(m : Int) < Int.tmod n m := by
    have := Int.lt_tmod_of_pos n (show (0 : Int) < m by omega)
    exact this
  by_cases hneg : Int.tmod n m < 0
  · rw [if_pos hneg] at e
    simp [B9, ne, Nat.ne_of_gt h0, pbin, pbinI, r9, hneg, pw_skip, pw_ops, pw_quiet, pw_seq, pw_cond, pw_block, pw_exit, pw_ret, pw_scope, pw_label, kSeq_normal, kSeq_ret, kSeq_exit, kBlock_normal, kBlock_ret, kBlock_exit, kScope_normal, kScope_ret, kScope_exit, kLoop_normal, kLoop_ret, kLoop_exit, kCond_bool, pwOps_nil, pwOps_call, pwOps_guard, kStep_some, kStep_ite, kStep_dite, kCall_at, pwQ_nil, pwQ_call, pwQ_guard, kQ_some, kQ_ite, putS_some, putS_none, upd_apply, ev_t, ev_k, isB_bool, s0_apply, pstep, pwO_mov, pwO_pick, pwO_nilck, pwO_bin, pwO_binB, pwO_eqNil, pwO_un, pwO_convI, pwO_convS, pwO_alloc, pwO_build, pwO_load, pwO_store, pwO_fieldAddr, pwO_field, pwO_idxS, pwO_idxA, pwO_idxV, pwO_idxStr, pwO_lenStr, pwO_lenS, pwO_lenC, pwO_slS, pwO_slA, pwO_slStr, pwO_extract, pwO_mkFunc, pwO_mkIface, pwO_append, pwO_appendStr, pwO_toBytes, pwO_ofBytes, pwO_box, pwO_row, pwO_minmax, pwO_sameB, pwR_mov, pwR_pick, pwR_nilck, pwR_bin, pwR_binB, pwR_eqNil, pwR_un, pwR_convI, pwR_convS, pwR_build, pwR_load, pwR_fieldAddr, pwR_field, pwR_idxS, pwR_idxA, pwR_idxV, pwR_idxStr, pwR_lenStr, pwR_lenS, pwR_lenC, pwR_slS, pwR_slA, pwR_slStr, pwR_extract, pwR_mkFunc, pwR_mkIface, pwR_ofBytes, pwR_minmax, ret_r, ret_n, kRet_some, resV0, resV1, resV2, resV3, resV4, storeAt, loadAt, VH.get_push_new, VH.get_set_same, VH.n_push, VH.n_set, cellsL_agg, cellsL_int, cellsL_bool, cellsL_string, cellsL_slice, cellsL_pointer, cellsL_map]
    rw [i64_small (by omega) (by omega), e]
  · rw [if_neg hneg] at e
    simp [B9, ne, Nat.ne_of_gt h0, pbin, pbinI, r9, hneg, pw_skip, pw_ops, pw_quiet, pw_seq, pw_cond, pw_block, pw_exit, pw_ret, pw_scope, pw_label, kSeq_normal, kSeq_ret, kSeq_exit, kBlock_normal, kBlock_ret, kBlock_exit, kScope_normal, kScope_ret, kScope_exit, kLoop_normal, kLoop_ret, kLoop_exit, kCond_bool, pwOps_nil, pwOps_call, pwOps_guard, kStep_some, kStep_ite, kStep_dite, kCall_at, pwQ_nil, pwQ_call, pwQ_guard, kQ_some, kQ_ite, putS_some, putS_none, upd_apply, ev_t, ev_k, isB_bool, s0_apply, pstep, pwO_mov, pwO_pick, pwO_nilck, pwO_bin, pwO_binB, pwO_eqNil, pwO_un, pwO_convI, pwO_convS, pwO_alloc, pwO_build, pwO_load, pwO_store, pwO_fieldAddr, pwO_field, pwO_idxS, pwO_idxA, pwO_idxV, pwO_idxStr, pwO_lenStr, pwO_lenS, pwO_lenC, pwO_slS, pwO_slA, pwO_slStr, pwO_extract, pwO_mkFunc, pwO_mkIface, pwO_append, pwO_appendStr, pwO_toBytes, pwO_ofBytes, pwO_box, pwO_row, pwO_minmax, pwO_sameB, pwR_mov, pwR_pick, pwR_nilck, pwR_bin, pwR_binB, pwR_eqNil, pwR_un, pwR_convI, pwR_convS, pwR_build, pwR_load, pwR_fieldAddr, pwR_field, pwR_idxS, pwR_idxA, pwR_idxV, pwR_idxStr, pwR_lenStr, pwR_lenS, pwR_lenC, pwR_slS, pwR_slA, pwR_slStr, pwR_extract, pwR_mkFunc, pwR_mkIface, pwR_ofBytes, pwR_minmax, ret_r, ret_n, kRet_some, resV0, resV1, resV2, resV3, resV4, storeAt, loadAt, VH.get_push_new, VH.get_set_same, VH.n_push, VH.n_set, cellsL_agg, cellsL_int, cellsL_bool, cellsL_string, cellsL_slice, cellsL_pointer, cellsL_map]
    exact e

theorem law_ok {h : VH} {v : Value} {bs : List UInt8} (hb : IsBytes h v bs) (hlen : bs.length ≤ 1048576) (n : Int) : PCalls Try.prog 3 [v, .int .i64 n] h (fun u h' => u = .bool true ∧ True) := by
  refine PCalls_of_pw st3 (by simp [n3]) ?_
  rw [b3]
  have fin : ∀ g : VH, PCalls Try.prog 8 [] g (fun u h' => u = .bool true ∧ h' = g) := known_ok
  obtain ⟨a, c, rfl⟩ := hb.shape
  obtain ⟨S, hS⟩ : ∃ S, S = sumS bs := ⟨_, rfl⟩
  have hs1 : PCalls Try.prog 6 [.slice a bs.length c] h (fun u h' => u = .int .u32 S.toNat ∧ h' = h) := by rw [hS]; exact sum_ok hb (by omega)
  have hs2 : PCalls Try.prog 7 [.slice a bs.length c] h (fun u h' => u = .int .u32 S.toNat ∧ h' = h) := by rw [hS, sum_eq]; exact sumr_ok hb (by omega)
  simp [B3, pw_skip, pw_ops, pw_quiet, pw_seq, pw_cond, pw_block, pw_exit, pw_ret, pw_scope, pw_label, kSeq_normal, kSeq_ret, kSeq_exit, kBlock_normal, kBlock_ret, kBlock_exit, kScope_normal, kScope_ret, kScope_exit, kLoop_normal, kLoop_ret, kLoop_exit, kCond_bool, pwOps_nil, pwOps_call, pwOps_guard, kStep_some, kStep_ite, kStep_dite, kCall_at, pwQ_nil, pwQ_call, pwQ_guard, kQ_some, kQ_ite, putS_some, putS_none, upd_apply, ev_t, ev_k, isB_bool, s0_apply, pstep, pwO_mov, pwO_pick, pwO_nilck, pwO_bin, pwO_binB, pwO_eqNil, pwO_un, pwO_convI, pwO_convS, pwO_alloc, pwO_build, pwO_load, pwO_store, pwO_fieldAddr, pwO_field, pwO_idxS, pwO_idxA, pwO_idxV, pwO_idxStr, pwO_lenStr, pwO_lenS, pwO_lenC, pwO_slS, pwO_slA, pwO_slStr, pwO_extract, pwO_mkFunc, pwO_mkIface, pwO_append, pwO_appendStr, pwO_toBytes, pwO_ofBytes, pwO_box, pwO_row, pwO_minmax, pwO_sameB, pwR_mov, pwR_pick, pwR_nilck, pwR_bin, pwR_binB, pwR_eqNil, pwR_un, pwR_convI, pwR_convS, pwR_build, pwR_load, pwR_fieldAddr, pwR_field, pwR_idxS, pwR_idxA, pwR_idxV, pwR_idxStr, pwR_lenStr, pwR_lenS, pwR_lenC, pwR_slS, pwR_slA, pwR_slStr, pwR_extract, pwR_mkFunc, pwR_mkIface, pwR_ofBytes, pwR_minmax, ret_r, ret_n, kRet_some, resV0, resV1, resV2, resV3, resV4, storeAt, loadAt, VH.get_push_new, VH.get_set_same, VH.n_push, VH.n_set, cellsL_agg, cellsL_int, cellsL_bool, cellsL_string, cellsL_slice, cellsL_pointer, cellsL_map]
  refine hs1.mono ?_
  rintro u h' ⟨rfl, rfl⟩
  simp [pw_skip, pw_ops, pw_quiet, pw_seq, pw_cond, pw_block, pw_exit, pw_ret, pw_scope, pw_label, kSeq_normal, kSeq_ret, kSeq_exit, kBlock_normal, kBlock_ret, kBlock_exit, kScope_normal, kScope_ret, kScope_exit, kLoop_normal, kLoop_ret, kLoop_exit, kCond_bool, pwOps_nil, pwOps_call, pwOps_guard, kStep_some, kStep_ite, kStep_dite, kCall_at, pwQ_nil, pwQ_call, pwQ_guard, kQ_some, kQ_ite, putS_some, putS_none, upd_apply, ev_t, ev_k, isB_bool, s0_apply, pstep, pwO_mov, pwO_pick, pwO_nilck, pwO_bin, pwO_binB, pwO_eqNil, pwO_un, pwO_convI, pwO_convS, pwO_alloc, pwO_build, pwO_load, pwO_store, pwO_fieldAddr, pwO_field, pwO_idxS, pwO_idxA, pwO_idxV, pwO_idxStr, pwO_lenStr, pwO_lenS, pwO_lenC, pwO_slS, pwO_slA, pwO_slStr, pwO_extract, pwO_mkFunc, pwO_mkIface, pwO_append, pwO_appendStr, pwO_toBytes, pwO_ofBytes, pwO_box, pwO_row, pwO_minmax, pwO_sameB, pwR_mov, pwR_pick, pwR_nilck, pwR_bin, pwR_binB, pwR_eqNil, pwR_un, pwR_convI, pwR_convS, pwR_build, pwR_load, pwR_fieldAddr, pwR_field, pwR_idxS, pwR_idxA, pwR_idxV, pwR_idxStr, pwR_lenStr, pwR_lenS, pwR_lenC, pwR_slS, pwR_slA, pwR_slStr, pwR_extract, pwR_mkFunc, pwR_mkIface, pwR_ofBytes, pwR_minmax, ret_r, ret_n, kRet_some, resV0, resV1, resV2, resV3, resV4, storeAt, loadAt, VH.get_push_new, VH.get_set_same, VH.n_push, VH.n_set, cellsL_agg, cellsL_int, cellsL_bool, cellsL_string, cellsL_slice, cellsL_pointer, cellsL_map]
  refine hs2.mono ?_
  rintro u h' ⟨rfl, rfl⟩
  by_cases h0 : bs.length = 0
  · simp [pbin, pbinI, h0, pw_skip, pw_ops, pw_quiet, pw_seq, pw_cond, pw_block, pw_exit, pw_ret, pw_scope, pw_label, kSeq_normal, kSeq_ret, kSeq_exit, kBlock_normal, kBlock_ret, kBlock_exit, kScope_normal, kScope_ret, kScope_exit, kLoop_normal, kLoop_ret, kLoop_exit, kCond_bool, pwOps_nil, pwOps_call, pwOps_guard, kStep_some, kStep_ite, kStep_dite, kCall_at, pwQ_nil, pwQ_call, pwQ_guard, kQ_some, kQ_ite, putS_some, putS_none, upd_apply, ev_t, ev_k, isB_bool, s0_apply, pstep, pwO_mov, pwO_pick, pwO_nilck, pwO_bin, pwO_binB, pwO_eqNil, pwO_un, pwO_convI, pwO_convS, pwO_alloc, pwO_build, pwO_load, pwO_store, pwO_fieldAddr, pwO_field, pwO_idxS, pwO_idxA, pwO_idxV, pwO_idxStr, pwO_lenStr, pwO_lenS, pwO_lenC, pwO_slS, pwO_slA, pwO_slStr, pwO_extract, pwO_mkFunc, pwO_mkIface, pwO_append, pwO_appendStr, pwO_toBytes, pwO_ofBytes, pwO_box, pwO_row, pwO_minmax, pwO_sameB, pwR_mov, pwR_pick, pwR_nilck, pwR_bin, pwR_binB, pwR_eqNil, pwR_un, pwR_convI, pwR_convS, pwR_build, pwR_load, pwR_fieldAddr, pwR_field, pwR_idxS, pwR_idxA, pwR_idxV, pwR_idxStr, pwR_lenStr, pwR_lenS, pwR_lenC, pwR_slS, pwR_slA, pwR_slStr, pwR_extract, pwR_mkFunc, pwR_mkIface, pwR_ofBytes, pwR_minmax, ret_r, ret_n, kRet_some, resV0, resV1, resV2, resV3, resV4, storeAt, loadAt, VH.get_push_new, VH.get_set_same, VH.n_push, VH.n_set, cellsL_agg, cellsL_int, cellsL_bool, cellsL_string, cellsL_slice, cellsL_pointer, cellsL_map]
    rw [h0] at hs2
    refine hs2.mono ?_
    rintro u h' ⟨rfl, rfl⟩
    simp [pbin, pbinI, pw_skip, pw_ops, pw_quiet, pw_seq, pw_cond, pw_block, pw_exit, pw_ret, pw_scope, pw_label, kSeq_normal, kSeq_ret, kSeq_exit, kBlock_normal, kBlock_ret, kBlock_exit, kScope_normal, kScope_ret, kScope_exit, kLoop_normal, kLoop_ret, kLoop_exit, kCond_bool, pwOps_nil, pwOps_call, pwOps_guard, kStep_some, kStep_ite, kStep_dite, kCall_at, pwQ_nil, pwQ_call, pwQ_guard, kQ_some, kQ_ite, putS_some, putS_none, upd_apply, ev_t, ev_k, isB_bool, s0_apply, pstep, pwO_mov, pwO_pick, pwO_nilck, pwO_bin, pwO_binB, pwO_eqNil, pwO_un, pwO_convI, pwO_convS, pwO_alloc, pwO_build, pwO_load, pwO_store, pwO_fieldAddr, pwO_field, pwO_idxS, pwO_idxA, pwO_idxV, pwO_idxStr, pwO_lenStr, pwO_lenS, pwO_lenC, pwO_slS, pwO_slA, pwO_slStr, pwO_extract, pwO_mkFunc, pwO_mkIface, pwO_append, pwO_appendStr, pwO_toBytes, pwO_ofBytes, pwO_box, pwO_row, pwO_minmax, pwO_sameB, pwR_mov, pwR_pick, pwR_nilck, pwR_bin, pwR_binB, pwR_eqNil, pwR_un, pwR_convI, pwR_convS, pwR_build, pwR_load, pwR_fieldAddr, pwR_field, pwR_idxS, pwR_idxA, pwR_idxV, pwR_idxStr, pwR_lenStr, pwR_lenS, pwR_lenC, pwR_slS, pwR_slA, pwR_slStr, pwR_extract, pwR_mkFunc, pwR_mkIface, pwR_ofBytes, pwR_minmax, ret_r, ret_n, kRet_some, resV0, resV1, resV2, resV3, resV4, storeAt, loadAt, VH.get_push_new, VH.get_set_same, VH.n_push, VH.n_set, cellsL_agg, cellsL_int, cellsL_bool, cellsL_string, cellsL_slice, cellsL_pointer, cellsL_map]
    refine (fin _).mono ?_
    rintro u h' ⟨rfl, rfl⟩
    simp [r3, pw_skip, pw_ops, pw_quiet, pw_seq, pw_cond, pw_block, pw_exit, pw_ret, pw_scope, pw_label, kSeq_normal, kSeq_ret, kSeq_exit, kBlock_normal, kBlock_ret, kBlock_exit, kScope_normal, kScope_ret, kScope_exit, kLoop_normal, kLoop_ret, kLoop_exit, kCond_bool, pwOps_nil, pwOps_call, pwOps_guard, kStep_some, kStep_ite, kStep_dite, kCall_at, pwQ_nil, pwQ_call, pwQ_guard, kQ_some, kQ_ite, putS_some, putS_none, upd_apply, ev_t, ev_k, isB_bool, s0_apply, pstep, pwO_mov, pwO_pick, pwO_nilck, pwO_bin, pwO_binB, pwO_eqNil, pwO_un, pwO_convI, pwO_convS, pwO_alloc, pwO_build, pwO_load, pwO_store, pwO_fieldAddr, pwO_field, pwO_idxS, pwO_idxA, pwO_idxV, pwO_idxStr, pwO_lenStr, pwO_lenS, pwO_lenC, pwO_slS, pwO_slA, pwO_slStr, pwO_extract, pwO_mkFunc, pwO_mkIface, pwO_append, pwO_appendStr, pwO_toBytes, pwO_ofBytes, pwO_box, pwO_row, pwO_minmax, pwO_sameB, pwR_mov, pwR_pick, pwR_nilck, pwR_bin, pwR_binB, pwR_eqNil, pwR_un, pwR_convI, pwR_convS, pwR_build, pwR_load, pwR_fieldAddr, pwR_field, pwR_idxS, pwR_idxA, pwR_idxV, pwR_idxStr, pwR_lenStr, pwR_lenS, pwR_lenC, pwR_slS, pwR_slA, pwR_slStr, pwR_extract, pwR_mkFunc, pwR_mkIface, pwR_ofBytes, pwR_minmax, ret_r, ret_n, kRet_some, resV0, resV1, resV2, resV3, resV4, storeAt, loadAt, VH.get_push_new, VH.get_set_same, VH.n_push, VH.n_set, cellsL_agg, cellsL_int, cellsL_bool, cellsL_string, cellsL_slice, cellsL_pointer, cellsL_map]
  · have hi0 : ¬ (bs.length : Int) = 0 := by omega
    have hap : appendV h' 1 1 (.slice none 0 0) (u8s bs) bs.length = some (.slice (some ⟨h'.n, 0, none⟩) bs.length bs.length, h'.push (.cells (u8s bs) true 1)) := appendV_new h0 (by omega)
    have h8 : IntKind.i64.wrap (8 * (bs.length : Int)) = ((8 * bs.length : Nat) : Int) := by
      rw [i64_small (by omega) (by omega)]; simp
    have hi0' : ((bs.length : Int) == 0) = false := by simpa using hi0
    simp [pbin, pbinI, h0, hi0', hb.src, hap, h8, pw_skip, pw_ops, pw_quiet, pw_seq, pw_cond, pw_block, pw_exit, pw_ret, pw_scope, pw_label, kSeq_normal, kSeq_ret, kSeq_exit, kBlock_normal, kBlock_ret, kBlock_exit, kScope_normal, kScope_ret, kScope_exit, kLoop_normal, kLoop_ret, kLoop_exit, kCond_bool, pwOps_nil, pwOps_call, pwOps_guard, kStep_some, kStep_ite, kStep_dite, kCall_at, pwQ_nil, pwQ_call, pwQ_guard, kQ_some, kQ_ite, putS_some, putS_none, upd_apply, ev_t, ev_k, isB_bool, s0_apply, pstep, pwO_mov, pwO_pick, pwO_nilck, pwO_bin, pwO_binB, pwO_eqNil, pwO_un, pwO_convI, pwO_convS, pwO_alloc, pwO_build, pwO_load, pwO_store, pwO_fieldAddr, pwO_field, pwO_idxS, pwO_idxA, pwO_idxV, pwO_idxStr, pwO_lenStr, pwO_lenS, pwO_lenC, pwO_slS, pwO_slA, pwO_slStr, pwO_extract, pwO_mkFunc, pwO_mkIface, pwO_append, pwO_appendStr, pwO_toBytes, pwO_ofBytes, pwO_box, pwO_row, pwO_minmax, pwO_sameB, pwR_mov, pwR_pick, pwR_nilck, pwR_bin, pwR_binB, pwR_eqNil, pwR_un, pwR_convI, pwR_convS, pwR_build, pwR_load, pwR_fieldAddr, pwR_field, pwR_idxS, pwR_idxA, pwR_idxV, pwR_idxStr, pwR_lenStr, pwR_lenS, pwR_lenC, pwR_slS, pwR_slA, pwR_slStr, pwR_extract, pwR_mkFunc, pwR_mkIface, pwR_ofBytes, pwR_minmax, ret_r, ret_n, kRet_some, resV0, resV1, resV2, resV3, resV4, storeAt, loadAt, VH.get_push_new, VH.get_set_same, VH.n_push, VH.n_set, cellsL_agg, cellsL_int, cellsL_bool, cellsL_string, cellsL_slice, cellsL_pointer, cellsL_map]
    have hcnt := count_ok (h := h'.push (.cells (u8s bs) true 1)) (n := n) (m := 8 * bs.length) (by omega) (by omega)
    refine PCalls.mono (by simpa using hcnt) ?_
    rintro u h2 ⟨rfl, rfl⟩
    obtain ⟨k, hk⟩ : ∃ k : Nat, n % (8 * (bs.length : Int)) = (k : Int) := ⟨(n % (8 * (bs.length : Int))).toNat, by
      have := Int.emod_nonneg n (show 8 * (bs.length : Int) ≠ 0 by omega)
      omega⟩
    have hk2 : k < 8 * bs.length := by
      have := Int.emod_lt_of_pos n (show (0 : Int) < 8 * (bs.length : Int) by omega)
      omega
    rw [hk]
    obtain ⟨q, hq⟩ : ∃ q, q = k / 8 := ⟨_, rfl⟩
    obtain ⟨r, hr⟩ : ∃ r, r = k % 8 := ⟨_, rfl⟩
    have hk8 : q < bs.length := by omega
    have hr8 : r < 8 := by omega
    have e1 : Int.tdiv (k : Int) 8 = (q : Int) := by rw [Int.tdiv_eq_ediv_of_nonneg (by omega)]; omega
    have e2 : Int.tmod (k : Int) 8 = (r : Int) := by rw [Int.tmod_eq_emod_of_nonneg (by omega)]; omega
    have e3 : IntKind.i64.wrap (q : Int) = (q : Int) := i64_small (by omega) (by omega)
    have e4 : IntKind.u64.wrap (r : Int) = (r : Int) := by rw [wrapN_u64, Nat.mod_eq_of_lt (by omega)]
    have hat : (u8s bs)[q]? = some (.int .u8 (bs[q]).toNat) := by simp [u8s, hk8]
    obtain ⟨D, hD⟩ : ∃ D : UInt8, D = UInt8.ofBitVec (bs[q].toBitVec ^^^ (1#8 <<< r)) := ⟨_, rfl⟩
    have hx : Go.bits .xor .u8 (bs[q].toNat : Int) (IntKind.u8.wrap (2 ^ r)) = (D.toNat : Int) := by
      have h1 := shl_u8 1#8 r
      rw [show (((1#8).toNat : Nat) : Int) = 1 from rfl, Int.one_mul] at h1
      rw [h1, hD]
      exact bits_xor_u8 _ _
    have hne : D ≠ bs[q] := by
      intro e
      have h1 : bs[q].toBitVec ^^^ (1#8 <<< r) = bs[q].toBitVec := (congrArg UInt8.toBitVec hD).symm.trans (congrArg UInt8.toBitVec e)
      have h2 : (1#8 <<< r) = 0#8 := by
        have := congrArg (fun x => bs[q].toBitVec ^^^ x) h1
        simpa [← BitVec.xor_assoc] using this
      revert h2
      have : r = 0 ∨ r = 1 ∨ r = 2 ∨ r = 3 ∨ r = 4 ∨ r = 5 ∨ r = 6 ∨ r = 7 := by omega
      rcases this with rfl | rfl | rfl | rfl | rfl | rfl | rfl | rfl <;> decide
    have hmin : min r 8 = r := by omega
    have hrn : ¬ (r : Int) < 0 := by omega
    simp [pbin, pbinI, e1, e2, e3, e4, hk8, hmin, hrn, hx, IntKind.bits, wr_one, u8s_set, pw_skip, pw_ops, pw_quiet, pw_seq, pw_cond, pw_block, pw_exit, pw_ret, pw_scope, pw_label, kSeq_normal, kSeq_ret, kSeq_exit, kBlock_normal, kBlock_ret, kBlock_exit, kScope_normal, kScope_ret, kScope_exit, kLoop_normal, kLoop_ret, kLoop_exit, kCond_bool, pwOps_nil, pwOps_call, pwOps_guard, kStep_some, kStep_ite, kStep_dite, kCall_at, pwQ_nil, pwQ_call, pwQ_guard, kQ_some, kQ_ite, putS_some, putS_none, upd_apply, ev_t, ev_k, isB_bool, s0_apply, pstep, pwO_mov, pwO_pick, pwO_nilck, pwO_bin, pwO_binB, pwO_eqNil, pwO_un, pwO_convI, pwO_convS, pwO_alloc, pwO_build, pwO_load, pwO_store, pwO_fieldAddr, pwO_field, pwO_idxS, pwO_idxA, pwO_idxV, pwO_idxStr, pwO_lenStr, pwO_lenS, pwO_lenC, pwO_slS, pwO_slA, pwO_slStr, pwO_extract, pwO_mkFunc, pwO_mkIface, pwO_append, pwO_appendStr, pwO_toBytes, pwO_ofBytes, pwO_box, pwO_row, pwO_minmax, pwO_sameB, pwR_mov, pwR_pick, pwR_nilck, pwR_bin, pwR_binB, pwR_eqNil, pwR_un, pwR_convI, pwR_convS, pwR_build, pwR_load, pwR_fieldAddr, pwR_field, pwR_idxS, pwR_idxA, pwR_idxV, pwR_idxStr, pwR_lenStr, pwR_lenS, pwR_lenC, pwR_slS, pwR_slA, pwR_slStr, pwR_extract, pwR_mkFunc, pwR_mkIface, pwR_ofBytes, pwR_minmax, ret_r, ret_n, kRet_some, resV0, resV1, resV2, resV3, resV4, storeAt, loadAt, VH.get_push_new, VH.get_set_same, VH.n_push, VH.n_set, cellsL_agg, cellsL_int, cellsL_bool, cellsL_string, cellsL_slice, cellsL_pointer, cellsL_map]
    refine ⟨⟨by omega, rfl⟩, ?_⟩
    have hb2 : IsBytes ((h'.push (.cells (u8s bs) true 1)).set h'.n (.cells (u8s (bs.set q D)) true 1)) (.slice (some ⟨h'.n, 0, none⟩) bs.length bs.length) (bs.set q D) :=
      .inr ⟨h'.n, 0, bs.length, u8s (bs.set q D), true, by simp, by simp, by simp, by simp, by rw [List.drop_zero, List.take_of_length_le (by simp)]⟩
    refine (sum_ok hb2 (by simp; omega)).mono ?_
    rintro u h3 ⟨rfl, rfl⟩
    have hd : ¬ ((sumS (bs.set q D)).toNat : Int) = (S.toNat : Int) := fun e => sumS_set hk8 hne (by
      rw [← hS]
      apply BitVec.eq_of_toNat_eq
      omega)
    obtain ⟨T, hT⟩ : ∃ T, T = sumS (bs.set q D) := ⟨_, rfl⟩
    rw [← hT] at hd ⊢
    have hd' : ((T.toNat : Int) != (S.toNat : Int)) = true := by simpa using hd
    simp [-bne_iff_ne, pbin, pbinI, hd', pw_skip, pw_ops, pw_quiet, pw_seq, pw_cond, pw_block, pw_exit, pw_ret, pw_scope, pw_label, kSeq_normal, kSeq_ret, kSeq_exit, kBlock_normal, kBlock_ret, kBlock_exit, kScope_normal, kScope_ret, kScope_exit, kLoop_normal, kLoop_ret, kLoop_exit, kCond_bool, pwOps_nil, pwOps_call, pwOps_guard, kStep_some, kStep_ite, kStep_dite, kCall_at, pwQ_nil, pwQ_call, pwQ_guard, kQ_some, kQ_ite, putS_some, putS_none, upd_apply, ev_t, ev_k, isB_bool, s0_apply, pstep, pwO_mov, pwO_pick, pwO_nilck, pwO_bin, pwO_binB, pwO_eqNil, pwO_un, pwO_convI, pwO_convS, pwO_alloc, pwO_build, pwO_load, pwO_store, pwO_fieldAddr, pwO_field, pwO_idxS, pwO_idxA, pwO_idxV, pwO_idxStr, pwO_lenStr, pwO_lenS, pwO_lenC, pwO_slS, pwO_slA, pwO_slStr, pwO_extract, pwO_mkFunc, pwO_mkIface, pwO_append, pwO_appendStr, pwO_toBytes, pwO_ofBytes, pwO_box, pwO_row, pwO_minmax, pwO_sameB, pwR_mov, pwR_pick, pwR_nilck, pwR_bin, pwR_binB, pwR_eqNil, pwR_un, pwR_convI, pwR_convS, pwR_build, pwR_load, pwR_fieldAddr, pwR_field, pwR_idxS, pwR_idxA, pwR_idxV, pwR_idxStr, pwR_lenStr, pwR_lenS, pwR_lenC, pwR_slS, pwR_slA, pwR_slStr, pwR_extract, pwR_mkFunc, pwR_mkIface, pwR_ofBytes, pwR_minmax, ret_r, ret_n, kRet_some, resV0, resV1, resV2, resV3, resV4, storeAt, loadAt, VH.get_push_new, VH.get_set_same, VH.n_push, VH.n_set, cellsL_agg, cellsL_int, cellsL_bool, cellsL_string, cellsL_slice, cellsL_pointer, cellsL_map]
    refine (fin _).mono ?_
    rintro u h4 ⟨rfl, rfl⟩
    simp [r3, pw_skip, pw_ops, pw_quiet, pw_seq, pw_cond, pw_block, pw_exit, pw_ret, pw_scope, pw_label, kSeq_normal, kSeq_ret, kSeq_exit, kBlock_normal, kBlock_ret, kBlock_exit, kScope_normal, kScope_ret, kScope_exit, kLoop_normal, kLoop_ret, kLoop_exit, kCond_bool, pwOps_nil, pwOps_call, pwOps_guard, kStep_some, kStep_ite, kStep_dite, kCall_at, pwQ_nil, pwQ_call, pwQ_guard, kQ_some, kQ_ite, putS_some, putS_none, upd_apply, ev_t, ev_k, isB_bool, s0_apply, pstep, pwO_mov, pwO_pick, pwO_nilck, pwO_bin, pwO_binB, pwO_eqNil, pwO_un, pwO_convI, pwO_convS, pwO_alloc, pwO_build, pwO_load, pwO_store, pwO_fieldAddr, pwO_field, pwO_idxS, pwO_idxA, pwO_idxV, pwO_idxStr, pwO_lenStr, pwO_lenS, pwO_lenC, pwO_slS, pwO_slA, pwO_slStr, pwO_extract, pwO_mkFunc, pwO_mkIface, pwO_append, pwO_appendStr, pwO_toBytes, pwO_ofBytes, pwO_box, pwO_row, pwO_minmax, pwO_sameB, pwR_mov, pwR_pick, pwR_nilck, pwR_bin, pwR_binB, pwR_eqNil, pwR_un, pwR_convI, pwR_convS, pwR_build, pwR_load, pwR_fieldAddr, pwR_field, pwR_idxS, pwR_idxA, pwR_idxV, pwR_idxStr, pwR_lenStr, pwR_lenS, pwR_lenC, pwR_slS, pwR_slA, pwR_slStr, pwR_extract, pwR_mkFunc, pwR_mkIface, pwR_ofBytes, pwR_minmax, ret_r, ret_n, kRet_some, resV0, resV1, resV2, resV3, resV4, storeAt, loadAt, VH.get_push_new, VH.get_set_same, VH.n_push, VH.n_set, cellsL_agg, cellsL_int, cellsL_bool, cellsL_string, cellsL_slice, cellsL_pointer, cellsL_map]
end Go.Proofs.Ytgkokffmblphnaa.SumA
