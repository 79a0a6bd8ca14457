/- SHA-256, part A: what it is; turning; tables. -/
import Derived.Test.YtdnkpgbggpbgaaaFsA
import Derived.Test.YtdnkpgbggpbgaaaPmZa
set_option linter.unusedVariables false
set_option linter.unusedSimpArgs false
set_option maxRecDepth 100000
namespace Go.Proofs.Ytdnkpgbggpbgaaa.Sha
open Go Go.RowKit Go.Proofs.Ytdnkpgbggpbgaaa.Pm Go.Proofs.Ytdnkpgbggpbgaaa.Fs

/-! ### numbers -/
def up (c : UInt8) : BitVec 32 := BitVec.ofNat 32 c.toNat
theorem up_toNat (c : UInt8) : ((up c).toNat : Int) = (c.toNat : Int) := by
  have := c.toNat_lt
  unfold up
  rw [BitVec.toNat_ofNat, Nat.mod_eq_of_lt (by omega)]
theorem wrap_u32_byte (c : UInt8) : IntKind.u32.wrap (c.toNat : Int) = ((up c).toNat : Int) := by
  have := c.toNat_lt
  rw [up_toNat, wrapN_u32, Nat.mod_eq_of_lt (by omega)]

/-! ### what it is -/
def rotr (x : BitVec 32) (n : Nat) : BitVec 32 := x >>> n ||| x <<< (32 - n)
def u32s (l : List (BitVec 32)) : List Value := l.map fun x => .int .u32 x.toNat
@[simp] theorem u32s_length (l : List (BitVec 32)) : (u32s l).length = l.length := by simp [u32s]
theorem u32s_at {l : List (BitVec 32)} {i : Nat} (h : i < l.length) : (u32s l)[i]? = some (.int .u32 (l[i]).toNat) := by simp [u32s, h]
theorem u32s_one (l : List (BitVec 32)) : (u32s l).all Value.oneCell' = true := by
  simp only [u32s, List.all_map, List.all_eq_true]
  intro x _; rfl
theorem u32s_closed (l : List (BitVec 32)) : (u32s l).all closedV = true := by
  simp only [u32s, List.all_map, List.all_eq_true]
  intro x _; rfl

structure St where
  a : BitVec 32
  b : BitVec 32
  c : BitVec 32
  d : BitVec 32
  e : BitVec 32
  f : BitVec 32
  g : BitVec 32
  h : BitVec 32
def St.list (s : St) : List (BitVec 32) := [s.a, s.b, s.c, s.d, s.e, s.f, s.g, s.h]
def St.val (s : St) : Value := .agg (u32s s.list).toArray
theorem St.list_len (s : St) : s.list.length = 8 := rfl
def begin0 : St := ⟨0x6a09e667#32, 0xbb67ae85#32, 0x3c6ef372#32, 0xa54ff53a#32, 0x510e527f#32, 0x9b05688c#32, 0x1f83d9ab#32, 0x5be0cd19#32⟩

/-- the first m of the four bytes of a word. -/
def word (bs : List UInt8) (i : Nat) : Nat → BitVec 32
  | 0 => 0#32
  | m + 1 => word bs i m <<< 8 ||| up (bs.getD (4 * i + m) 0)
def sig0 (x : BitVec 32) : BitVec 32 := rotr x 7 ^^^ rotr x 18 ^^^ x >>> 3
def sig1 (x : BitVec 32) : BitVec 32 := rotr x 17 ^^^ rotr x 19 ^^^ x >>> 10
def sched (bs : List UInt8) (i : Nat) : BitVec 32 :=
  if i < 16 then word bs i 4 else sched bs (i - 16) + sched bs (i - 7) + sig0 (sched bs (i - 15)) + sig1 (sched bs (i - 2))
termination_by i
decreasing_by all_goals omega
theorem sched_lo {bs : List UInt8} {i : Nat} (h : i < 16) : sched bs i = word bs i 4 := by rw [sched, if_pos h]
theorem sched_hi {bs : List UInt8} {i : Nat} (h : 16 ≤ i) : sched bs i = sched bs (i - 16) + sched bs (i - 7) + sig0 (sched bs (i - 15)) + sig1 (sched bs (i - 2)) := by
  rw [sched, if_neg (by omega)]
def cS0 (x : BitVec 32) : BitVec 32 := rotr x 2 ^^^ rotr x 13 ^^^ rotr x 22
def cS1 (x : BitVec 32) : BitVec 32 := rotr x 6 ^^^ rotr x 11 ^^^ rotr x 25
def chS (e f g : BitVec 32) : BitVec 32 := f &&& e ||| g &&& ~~~ e
def majS (a b c : BitVec 32) : BitVec 32 := a &&& b ||| c &&& (a ||| b)
def kT : List (BitVec 32) := [0x428a2f98#32, 0x71374491#32, 0xb5c0fbcf#32, 0xe9b5dba5#32, 0x3956c25b#32, 0x59f111f1#32, 0x923f82a4#32, 0xab1c5ed5#32, 0xd807aa98#32, 0x12835b01#32, 0x243185be#32, 0x550c7dc3#32, 0x72be5d74#32, 0x80deb1fe#32, 0x9bdc06a7#32, 0xc19bf174#32, 0xe49b69c1#32, 0xefbe4786#32, 0x0fc19dc6#32, 0x240ca1cc#32, 0x2de92c6f#32, 0x4a7484aa#32, 0x5cb0a9dc#32, 0x76f988da#32, 0x983e5152#32, 0xa831c66d#32, 0xb00327c8#32, 0xbf597fc7#32, 0xc6e00bf3#32, 0xd5a79147#32, 0x06ca6351#32, 0x14292967#32, 0x27b70a85#32, 0x2e1b2138#32, 0x4d2c6dfc#32, 0x53380d13#32, 0x650a7354#32, 0x766a0abb#32, 0x81c2c92e#32, 0x92722c85#32, 0xa2bfe8a1#32, 0xa81a664b#32, 0xc24b8b70#32, 0xc76c51a3#32, 0xd192e819#32, 0xd6990624#32, 0xf40e3585#32, 0x106aa070#32, 0x19a4c116#32, 0x1e376c08#32, 0x2748774c#32, 0x34b0bcb5#32, 0x391c0cb3#32, 0x4ed8aa4a#32, 0x5b9cca4f#32, 0x682e6ff3#32, 0x748f82ee#32, 0x78a5636f#32, 0x84c87814#32, 0x8cc70208#32, 0x90befffa#32, 0xa4506ceb#32, 0xbef9a3f7#32, 0xc67178f2#32]
def kAt (i : Nat) : BitVec 32 := kT.getD i 0#32
def round (k w : BitVec 32) (s : St) : St :=
  let one := s.h + k + w + cS1 s.e + chS s.e s.f s.g
  ⟨one + (cS0 s.a + majS s.a s.b s.c), s.a, s.b, s.c, s.d + one, s.e, s.f, s.g⟩
def rounds (bs : List UInt8) (s : St) : Nat → St
  | 0 => s
  | n + 1 => round (kAt n) (sched bs n) (rounds bs s n)
def St.add (s t : St) : St := ⟨s.a + t.a, s.b + t.b, s.c + t.c, s.d + t.d, s.e + t.e, s.f + t.f, s.g + t.g, s.h + t.h⟩
/-- the state behind a block. -/
def blockS (bs : List UInt8) (s : St) : St := s.add (rounds bs s 64)

/-! ### turning, tables -/
theorem bits_ok (x : BitVec 32) {n : Nat} (h0 : 0 < n) (h32 : n < 32) (h : VH) : PCalls Try.prog f_bits_RotateLeft32 [.int .u32 x.toNat, .int .i64 (-(n : Int))] h (fun u h' => u = .int .u32 (rotr x n).toNat ∧ h' = h) := by
  refine PCalls_of_pw st_bits_RotateLeft32 (by simp [n_bits_RotateLeft32]) ?_
  rw [b_bits_RotateLeft32]
  have e1 : Go.bits .and .u64 (IntKind.u64.wrap (-(n : Int))) 31 = ((32 - n : Nat) : Int) := by
    have : ∀ n : Fin 32, 0 < n.val → Go.bits .and .u64 (IntKind.u64.wrap (-(n.val : Int))) 31 = ((32 - n.val : Nat) : Int) := by decide
    exact this ⟨n, h32⟩ h0
  have e2 : IntKind.u64.wrap (32 - ((32 - n : Nat) : Int)) = ((n : Nat) : Int) := by rw [u64_small (by omega) (by omega)]; omega
  have e3 : min (32 - n) 32 = 32 - n := by omega
  have e4 : min n 32 = n := by omega
  have e5 : ¬ ((32 - n : Nat) : Int) < 0 := by omega
  have e6 : ¬ ((n : Nat) : Int) < 0 := by omega
  simp [-BitVec.toNat_or, -BitVec.toNat_shiftLeft, -BitVec.toNat_ushiftRight, B_bits_RotateLeft32, pbin, pbinI, e1, e2, e3, e4, e5, e6, IntKind.bits, shl_u32, shr_u32, bits_or_u32, r_bits_RotateLeft32, pw_skip, pw_ops, pw_quiet, pw_seq, pw_cond, pw_block, pw_exit, pw_ret, pw_scope, pw_label, kSeq_normal, kSeq_ret, kSeq_exit, kBlock_normal, kBlock_ret, kBlock_exit, kScope_normal, kScope_ret, kScope_exit, kLoop_normal, kLoop_ret, kLoop_exit, kCond_bool, pwOps_nil, pwOps_call, pwOps_guard, kStep_some, kStep_ite, kStep_dite, kCall_at, pwQ_nil, pwQ_call, pwQ_guard, kQ_some, kQ_ite, putS_some, putS_none, upd_apply, ev_t, ev_k, isB_bool, s0_apply, pstep, pwO_mov, pwO_pick, pwO_nilck, pwO_bin, pwO_binB, pwO_eqNil, pwO_un, pwO_convI, pwO_convS, pwO_alloc, pwO_build, pwO_load, pwO_store, pwO_fieldAddr, pwO_field, pwO_idxS, pwO_idxA, pwO_idxV, pwO_idxStr, pwO_lenStr, pwO_lenS, pwO_lenC, pwO_slS, pwO_slA, pwO_slStr, pwO_extract, pwO_mkFunc, pwO_mkIface, pwO_append, pwO_appendStr, pwO_appendZ, pwO_toBytes, pwO_ofBytes, pwO_box, pwO_row, pwO_minmax, pwO_eqV, pwO_sameB, pwR_mov, pwR_pick, pwR_nilck, pwR_bin, pwR_binB, pwR_eqNil, pwR_un, pwR_convI, pwR_convS, pwR_build, pwR_load, pwR_fieldAddr, pwR_field, pwR_idxS, pwR_idxA, pwR_idxV, pwR_idxStr, pwR_lenStr, pwR_lenS, pwR_lenC, pwR_slS, pwR_slA, pwR_slStr, pwR_extract, pwR_mkFunc, pwR_mkIface, pwR_ofBytes, pwR_minmax, pwR_eqV, ret_r, ret_n, kRet_some, resV0, resV1, resV2, resV3, resV4, storeAt, loadAt, VH.get_push_new, VH.get_set_same, VH.n_push, VH.n_set, cellsL_agg, cellsL_int, cellsL_bool, cellsL_string, cellsL_slice, cellsL_pointer, cellsL_map, pw_draw, pwD_nil, pwD_cons, kD_nil, kD_cons, evalOK_plain, evalOK_guard, kEv_some, kEv_ite, dstIs_some, dstIs_none, pw_goto, pw_scopeL, kSeq_goto, kBlock_goto, kLoop_goto, kScopeL_normal, kScopeL_ret, kScopeL_exit, kScopeL_goto, pwOps_callv, kCallv_fn, kCallv_yld, pwOps_nextM, pwO_makeMap, pwO_lookup, pwR_lookup, pwO_mapSet, pwO_mapDel, pwO_lenM, pwR_lenM, pwO_mapEntry, pwO_entrySet, pwO_rangeS, pwO_nextS, pwO_rangeM, pwO_entryM, pwR_entryM, pwO_copyV, pwO_makeSl, pwO_asrt, pwR_asrt, gI, gM, gT, gF, gN, gNT, gNF, dI, dM, dT, dF]
  rw [BitVec.or_comm]
  rfl
theorem turned_ok (x : BitVec 32) {n : Nat} (h0 : 0 < n) (h32 : n < 32) (h : VH) : PCalls Try.prog f_sha_turned [.int .u32 x.toNat, .int .i64 (n : Int)] h (fun u h' => u = .int .u32 (rotr x n).toNat ∧ h' = h) := by
  refine PCalls_of_pw st_sha_turned (by simp [n_sha_turned]) ?_
  rw [b_sha_turned]
  have e1 : IntKind.i64.wrap (-(n : Int)) = -(n : Int) := i64_small (by omega) (by omega)
  simp [B_sha_turned, pun, e1, pw_skip, pw_ops, pw_quiet, pw_seq, pw_cond, pw_block, pw_exit, pw_ret, pw_scope, pw_label, kSeq_normal, kSeq_ret, kSeq_exit, kBlock_normal, kBlock_ret, kBlock_exit, kScope_normal, kScope_ret, kScope_exit, kLoop_normal, kLoop_ret, kLoop_exit, kCond_bool, pwOps_nil, pwOps_call, pwOps_guard, kStep_some, kStep_ite, kStep_dite, kCall_at, pwQ_nil, pwQ_call, pwQ_guard, kQ_some, kQ_ite, putS_some, putS_none, upd_apply, ev_t, ev_k, isB_bool, s0_apply, pstep, pwO_mov, pwO_pick, pwO_nilck, pwO_bin, pwO_binB, pwO_eqNil, pwO_un, pwO_convI, pwO_convS, pwO_alloc, pwO_build, pwO_load, pwO_store, pwO_fieldAddr, pwO_field, pwO_idxS, pwO_idxA, pwO_idxV, pwO_idxStr, pwO_lenStr, pwO_lenS, pwO_lenC, pwO_slS, pwO_slA, pwO_slStr, pwO_extract, pwO_mkFunc, pwO_mkIface, pwO_append, pwO_appendStr, pwO_appendZ, pwO_toBytes, pwO_ofBytes, pwO_box, pwO_row, pwO_minmax, pwO_eqV, pwO_sameB, pwR_mov, pwR_pick, pwR_nilck, pwR_bin, pwR_binB, pwR_eqNil, pwR_un, pwR_convI, pwR_convS, pwR_build, pwR_load, pwR_fieldAddr, pwR_field, pwR_idxS, pwR_idxA, pwR_idxV, pwR_idxStr, pwR_lenStr, pwR_lenS, pwR_lenC, pwR_slS, pwR_slA, pwR_slStr, pwR_extract, pwR_mkFunc, pwR_mkIface, pwR_ofBytes, pwR_minmax, pwR_eqV, ret_r, ret_n, kRet_some, resV0, resV1, resV2, resV3, resV4, storeAt, loadAt, VH.get_push_new, VH.get_set_same, VH.n_push, VH.n_set, cellsL_agg, cellsL_int, cellsL_bool, cellsL_string, cellsL_slice, cellsL_pointer, cellsL_map, pw_draw, pwD_nil, pwD_cons, kD_nil, kD_cons, evalOK_plain, evalOK_guard, kEv_some, kEv_ite, dstIs_some, dstIs_none, pw_goto, pw_scopeL, kSeq_goto, kBlock_goto, kLoop_goto, kScopeL_normal, kScopeL_ret, kScopeL_exit, kScopeL_goto, pwOps_callv, kCallv_fn, kCallv_yld, pwOps_nextM, pwO_makeMap, pwO_lookup, pwR_lookup, pwO_mapSet, pwO_mapDel, pwO_lenM, pwR_lenM, pwO_mapEntry, pwO_entrySet, pwO_rangeS, pwO_nextS, pwO_rangeM, pwO_entryM, pwR_entryM, pwO_copyV, pwO_makeSl, pwO_asrt, pwR_asrt, gI, gM, gT, gF, gN, gNT, gNF, dI, dM, dT, dF]
  refine (bits_ok x h0 h32 h).mono ?_
  rintro u h' ⟨rfl, rfl⟩
  simp [r_sha_turned, pw_skip, pw_ops, pw_quiet, pw_seq, pw_cond, pw_block, pw_exit, pw_ret, pw_scope, pw_label, kSeq_normal, kSeq_ret, kSeq_exit, kBlock_normal, kBlock_ret, kBlock_exit, kScope_normal, kScope_ret, kScope_exit, kLoop_normal, kLoop_ret, kLoop_exit, kCond_bool, pwOps_nil, pwOps_call, pwOps_guard, kStep_some, kStep_ite, kStep_dite, kCall_at, pwQ_nil, pwQ_call, pwQ_guard, kQ_some, kQ_ite, putS_some, putS_none, upd_apply, ev_t, ev_k, isB_bool, s0_apply, pstep, pwO_mov, pwO_pick, pwO_nilck, pwO_bin, pwO_binB, pwO_eqNil, pwO_un, pwO_convI, pwO_convS, pwO_alloc, pwO_build, pwO_load, pwO_store, pwO_fieldAddr, pwO_field, pwO_idxS, pwO_idxA, pwO_idxV, pwO_idxStr, pwO_lenStr, pwO_lenS, pwO_lenC, pwO_slS, pwO_slA, pwO_slStr, pwO_extract, pwO_mkFunc, pwO_mkIface, pwO_append, pwO_appendStr, pwO_appendZ, pwO_toBytes, pwO_ofBytes, pwO_box, pwO_row, pwO_minmax, pwO_eqV, pwO_sameB, pwR_mov, pwR_pick, pwR_nilck, pwR_bin, pwR_binB, pwR_eqNil, pwR_un, pwR_convI, pwR_convS, pwR_build, pwR_load, pwR_fieldAddr, pwR_field, pwR_idxS, pwR_idxA, pwR_idxV, pwR_idxStr, pwR_lenStr, pwR_lenS, pwR_lenC, pwR_slS, pwR_slA, pwR_slStr, pwR_extract, pwR_mkFunc, pwR_mkIface, pwR_ofBytes, pwR_minmax, pwR_eqV, ret_r, ret_n, kRet_some, resV0, resV1, resV2, resV3, resV4, storeAt, loadAt, VH.get_push_new, VH.get_set_same, VH.n_push, VH.n_set, cellsL_agg, cellsL_int, cellsL_bool, cellsL_string, cellsL_slice, cellsL_pointer, cellsL_map, pw_draw, pwD_nil, pwD_cons, kD_nil, kD_cons, evalOK_plain, evalOK_guard, kEv_some, kEv_ite, dstIs_some, dstIs_none, pw_goto, pw_scopeL, kSeq_goto, kBlock_goto, kLoop_goto, kScopeL_normal, kScopeL_ret, kScopeL_exit, kScopeL_goto, pwOps_callv, kCallv_fn, kCallv_yld, pwOps_nextM, pwO_makeMap, pwO_lookup, pwR_lookup, pwO_mapSet, pwO_mapDel, pwO_lenM, pwR_lenM, pwO_mapEntry, pwO_entrySet, pwO_rangeS, pwO_nextS, pwO_rangeM, pwO_entryM, pwR_entryM, pwO_copyV, pwO_makeSl, pwO_asrt, pwR_asrt, gI, gM, gT, gF, gN, gNT, gNF, dI, dM, dT, dF]
theorem rturned_ok (x : BitVec 32) {n : Nat} (h0 : 0 < n) (h32 : n < 32) (h : VH) : PCalls Try.prog f_ref03_turned [.int .u32 x.toNat, .int .u64 (n : Int)] h (fun u h' => u = .int .u32 (rotr x n).toNat ∧ h' = h) := by
  refine PCalls_of_pw st_ref03_turned (by simp [n_ref03_turned]) ?_
  rw [b_ref03_turned]
  have e2 : IntKind.u64.wrap (32 - (n : Int)) = ((32 - n : Nat) : Int) := by rw [u64_small (by omega) (by omega)]; omega
  have e3 : min (32 - n) 32 = 32 - n := by omega
  have e4 : min n 32 = n := by omega
  have e5 : ¬ ((32 - n : Nat) : Int) < 0 := by omega
  have e6 : ¬ ((n : Nat) : Int) < 0 := by omega
  simp [-BitVec.toNat_or, -BitVec.toNat_shiftLeft, -BitVec.toNat_ushiftRight, B_ref03_turned, pbin, pbinI, e2, e3, e4, e5, e6, IntKind.bits, shl_u32, shr_u32, bits_or_u32, r_ref03_turned, pw_skip, pw_ops, pw_quiet, pw_seq, pw_cond, pw_block, pw_exit, pw_ret, pw_scope, pw_label, kSeq_normal, kSeq_ret, kSeq_exit, kBlock_normal, kBlock_ret, kBlock_exit, kScope_normal, kScope_ret, kScope_exit, kLoop_normal, kLoop_ret, kLoop_exit, kCond_bool, pwOps_nil, pwOps_call, pwOps_guard, kStep_some, kStep_ite, kStep_dite, kCall_at, pwQ_nil, pwQ_call, pwQ_guard, kQ_some, kQ_ite, putS_some, putS_none, upd_apply, ev_t, ev_k, isB_bool, s0_apply, pstep, pwO_mov, pwO_pick, pwO_nilck, pwO_bin, pwO_binB, pwO_eqNil, pwO_un, pwO_convI, pwO_convS, pwO_alloc, pwO_build, pwO_load, pwO_store, pwO_fieldAddr, pwO_field, pwO_idxS, pwO_idxA, pwO_idxV, pwO_idxStr, pwO_lenStr, pwO_lenS, pwO_lenC, pwO_slS, pwO_slA, pwO_slStr, pwO_extract, pwO_mkFunc, pwO_mkIface, pwO_append, pwO_appendStr, pwO_appendZ, pwO_toBytes, pwO_ofBytes, pwO_box, pwO_row, pwO_minmax, pwO_eqV, pwO_sameB, pwR_mov, pwR_pick, pwR_nilck, pwR_bin, pwR_binB, pwR_eqNil, pwR_un, pwR_convI, pwR_convS, pwR_build, pwR_load, pwR_fieldAddr, pwR_field, pwR_idxS, pwR_idxA, pwR_idxV, pwR_idxStr, pwR_lenStr, pwR_lenS, pwR_lenC, pwR_slS, pwR_slA, pwR_slStr, pwR_extract, pwR_mkFunc, pwR_mkIface, pwR_ofBytes, pwR_minmax, pwR_eqV, ret_r, ret_n, kRet_some, resV0, resV1, resV2, resV3, resV4, storeAt, loadAt, VH.get_push_new, VH.get_set_same, VH.n_push, VH.n_set, cellsL_agg, cellsL_int, cellsL_bool, cellsL_string, cellsL_slice, cellsL_pointer, cellsL_map, pw_draw, pwD_nil, pwD_cons, kD_nil, kD_cons, evalOK_plain, evalOK_guard, kEv_some, kEv_ite, dstIs_some, dstIs_none, pw_goto, pw_scopeL, kSeq_goto, kBlock_goto, kLoop_goto, kScopeL_normal, kScopeL_ret, kScopeL_exit, kScopeL_goto, pwOps_callv, kCallv_fn, kCallv_yld, pwOps_nextM, pwO_makeMap, pwO_lookup, pwR_lookup, pwO_mapSet, pwO_mapDel, pwO_lenM, pwR_lenM, pwO_mapEntry, pwO_entrySet, pwO_rangeS, pwO_nextS, pwO_rangeM, pwO_entryM, pwR_entryM, pwO_copyV, pwO_makeSl, pwO_asrt, pwR_asrt, gI, gM, gT, gF, gN, gNT, gNF, dI, dM, dT, dF]
  rfl

theorem bits_andNot_u32 (a b : BitVec 32) : Go.bits .andNot .u32 (a.toNat : Int) (b.toNat : Int) = ((a &&& ~~~ b).toNat : Int) := by
  show IntKind.u32.wrap (((BitVec.ofInt 32 (a.toNat : Int)) &&& ~~~ (BitVec.ofInt 32 (b.toNat : Int))).toNat : Int) = _
  rw [BitVec.ofInt_natCast, BitVec.ofInt_natCast, BitVec.ofNat_toNat, BitVec.ofNat_toNat, BitVec.setWidth_eq, BitVec.setWidth_eq, wrapB_u32]
theorem turned_ok' (x : BitVec 32) (k : Int) (h0 : 0 < k) (h32 : k < 32) (h : VH) : PCalls Try.prog f_sha_turned [.int .u32 x.toNat, .int .i64 k] h (fun u h' => u = .int .u32 (rotr x k.toNat).toNat ∧ h' = h) := by
  obtain ⟨n, rfl⟩ := Int.eq_ofNat_of_zero_le (show 0 ≤ k by omega)
  exact turned_ok x (by omega) (by omega) h
theorem rturned_ok' (x : BitVec 32) (k : Int) (h0 : 0 < k) (h32 : k < 32) (h : VH) : PCalls Try.prog f_ref03_turned [.int .u32 x.toNat, .int .u64 k] h (fun u h' => u = .int .u32 (rotr x k.toNat).toNat ∧ h' = h) := by
  obtain ⟨n, rfl⟩ := Int.eq_ofNat_of_zero_le (show 0 ≤ k by omega)
  exact rturned_ok x (by omega) (by omega) h
theorem shl8 (x : BitVec 32) : IntKind.u32.wrap ((x.toNat : Int) * 256) = ((x <<< 8).toNat : Int) := shl_u32 x 8
theorem shr3 (x : BitVec 32) : Int.fdiv (x.toNat : Int) 8 = ((x >>> 3).toNat : Int) := shr_u32 x 3
theorem shr10 (x : BitVec 32) : Int.fdiv (x.toNat : Int) 1024 = ((x >>> 10).toNat : Int) := shr_u32 x 10

def kV : Value := .agg (u32s kT).toArray
theorem ks_run : runF GA 50 f_sha_ks [] VH.empty = some kV := by kernel_rfl
theorem rks_run : runF GA 50 f_ref03_Ks [] VH.empty = some kV := by kernel_rfl
theorem begin_run : runF GA 50 f_sha_begin [] VH.empty = some begin0.val := by kernel_rfl
theorem kV_closed : closedD kV = true := by kernel_rfl
theorem ks_ok (h : VH) : PCalls Try.prog f_sha_ks [] h (fun u h' => u = kV ∧ h' = h) := run_alone GA_ok ks_run kV_closed rfl h
theorem rks_ok (h : VH) : PCalls Try.prog f_ref03_Ks [] h (fun u h' => u = kV ∧ h' = h) := run_alone GA_ok rks_run kV_closed rfl h
theorem begin_ok (h : VH) : PCalls Try.prog f_sha_begin [] h (fun u h' => u = begin0.val ∧ h' = h) := run_alone GA_ok begin_run (by kernel_rfl) rfl h
theorem kT_len : kT.length = 64 := rfl
theorem kT_at {n : Nat} (h : n < 64) : (u32s kT)[n]? = some (.int .u32 (kAt n).toNat) := by
  rw [u32s_at (by rw [kT_len]; exact h), kAt, List.getD_eq_getElem?_getD, List.getElem?_eq_getElem (by rw [kT_len]; exact h)]
  rfl
attribute [irreducible] kT kV
theorem kV_part {n : Nat} (h : n < 64) : partOf (u32s kT).toArray (n * 1) none = some (.int .u32 (kAt n).toNat) := by
  simp [partOf, kT_at h]
end Go.Proofs.Ytdnkpgbggpbgaaa.Sha
