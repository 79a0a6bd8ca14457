/- SHA-256, part B: the program's block. -/
import Derived.Test.YtdnkpgbggpbgaaaShaA
set_option linter.unusedVariables false
set_option linter.unusedSimpArgs false
set_option maxRecDepth 100000
namespace Go.Proofs.Ytdnkpgbggpbgaaa.Sha
open Go Go.RowKit Go.Proofs.Ytdnkpgbggpbgaaa.Pm Go.Proofs.Ytdnkpgbggpbgaaa.Fs


theorem St.cells (s : St) : cellsL s.val = u32s s.list := rfl
theorem loadObj_u32s {l : List (BitVec 32)} {ow : Bool} {e o : Nat} : loadObj (.cells (u32s l) ow e) o none = (u32s l)[o]? := rfl
theorem St.at0 (s : St) : (u32s s.list)[0]? = some (.int .u32 s.a.toNat) := rfl
theorem St.at1 (s : St) : (u32s s.list)[1]? = some (.int .u32 s.b.toNat) := rfl
theorem St.at2 (s : St) : (u32s s.list)[2]? = some (.int .u32 s.c.toNat) := rfl
theorem St.at3 (s : St) : (u32s s.list)[3]? = some (.int .u32 s.d.toNat) := rfl
theorem St.at4 (s : St) : (u32s s.list)[4]? = some (.int .u32 s.e.toNat) := rfl
theorem St.at5 (s : St) : (u32s s.list)[5]? = some (.int .u32 s.f.toNat) := rfl
theorem St.at6 (s : St) : (u32s s.list)[6]? = some (.int .u32 s.g.toNat) := rfl
theorem St.at7 (s : St) : (u32s s.list)[7]? = some (.int .u32 s.h.toNat) := rfl
theorem zeros64 : [Value.int .u32 0, .int .u32 0, .int .u32 0, .int .u32 0, .int .u32 0, .int .u32 0, .int .u32 0, .int .u32 0, .int .u32 0, .int .u32 0, .int .u32 0, .int .u32 0, .int .u32 0, .int .u32 0, .int .u32 0, .int .u32 0, .int .u32 0, .int .u32 0, .int .u32 0, .int .u32 0, .int .u32 0, .int .u32 0, .int .u32 0, .int .u32 0, .int .u32 0, .int .u32 0, .int .u32 0, .int .u32 0, .int .u32 0, .int .u32 0, .int .u32 0, .int .u32 0, .int .u32 0, .int .u32 0, .int .u32 0, .int .u32 0, .int .u32 0, .int .u32 0, .int .u32 0, .int .u32 0, .int .u32 0, .int .u32 0, .int .u32 0, .int .u32 0, .int .u32 0, .int .u32 0, .int .u32 0, .int .u32 0, .int .u32 0, .int .u32 0, .int .u32 0, .int .u32 0, .int .u32 0, .int .u32 0, .int .u32 0, .int .u32 0, .int .u32 0, .int .u32 0, .int .u32 0, .int .u32 0, .int .u32 0, .int .u32 0, .int .u32 0, .int .u32 0] = tab 64 (fun _ => .int .u32 (0#32 : BitVec 32).toNat) := rfl

/-- the schedule, of which n words are done. -/
def wf (bs : List UInt8) (n : Nat) (i : Nat) : Value := .int .u32 (if i < n then sched bs i else 0#32).toNat

theorem wf_lt {bs : List UInt8} {n j : Nat} (h : j < n) : wf bs n j = .int .u32 (sched bs j).toNat := by simp [wf, h]
/-- the sums, of which n are done. -/
def sf (bs : List UInt8) (st : St) (n : Nat) (j : Nat) : Value := .int .u32 ((if j < n then (blockS bs st).list else st.list).getD j 0#32).toNat
set_option maxHeartbeats 2000000 in
theorem behind_ok' {h : VH} {v : Value} {bs : List UInt8} (hb : IsBytes h v bs) (h64 : 64 ≤ bs.length) (st : St) : PCalls Try.prog f_sha_state_behind [st.val, v] h (fun u _ => u = (blockS bs st).val) := by
  refine PCalls_of_pw st_sha_state_behind (by simp [n_sha_state_behind]) ?_
  rw [b_sha_state_behind]
  rcases hb.cases with ⟨_, rfl⟩ | ⟨i, o, c, hi, hc, rfl, hat⟩
  · simp at h64
  simp [B_sha_state_behind, St.cells, u32s_one, zeros64, pw_skip, pw_ops, pw_quiet, pw_seq, pw_cond, pw_block, pw_exit, pw_ret, pw_scope, pw_label, kSeq_normal, kSeq_ret, kSeq_exit, kBlock_normal, kBlock_ret, kBlock_exit, kScope_normal, kScope_ret, kScope_exit, kLoop_normal, kLoop_ret, kLoop_exit, kCond_bool, pwOps_nil, pwOps_call, pwOps_guard, kStep_some, kStep_ite, kStep_dite, kCall_at, pwQ_nil, pwQ_call, pwQ_guard, kQ_some, kQ_ite, putS_some, putS_none, upd_apply, ev_t, ev_k, isB_bool, s0_apply, pstep, pwO_mov, pwO_pick, pwO_nilck, pwO_bin, pwO_binB, pwO_eqNil, pwO_un, pwO_convI, pwO_convS, pwO_alloc, pwO_build, pwO_load, pwO_store, pwO_fieldAddr, pwO_field, pwO_idxS, pwO_idxA, pwO_idxV, pwO_idxStr, pwO_lenStr, pwO_lenS, pwO_lenC, pwO_slS, pwO_slA, pwO_slStr, pwO_extract, pwO_mkFunc, pwO_mkIface, pwO_append, pwO_appendStr, pwO_appendZ, pwO_toBytes, pwO_ofBytes, pwO_box, pwO_row, pwO_minmax, pwO_eqV, pwO_sameB, pwR_mov, pwR_pick, pwR_nilck, pwR_bin, pwR_binB, pwR_eqNil, pwR_un, pwR_convI, pwR_convS, pwR_build, pwR_load, pwR_fieldAddr, pwR_field, pwR_idxS, pwR_idxA, pwR_idxV, pwR_idxStr, pwR_lenStr, pwR_lenS, pwR_lenC, pwR_slS, pwR_slA, pwR_slStr, pwR_extract, pwR_mkFunc, pwR_mkIface, pwR_ofBytes, pwR_minmax, pwR_eqV, ret_r, ret_n, kRet_some, resV0, resV1, resV2, resV3, resV4, storeAt, loadAt, VH.get_push_new, VH.get_set_same, VH.n_push, VH.n_set, cellsL_agg, cellsL_int, cellsL_bool, cellsL_string, cellsL_slice, cellsL_pointer, cellsL_map, pw_draw, pwD_nil, pwD_cons, kD_nil, kD_cons, evalOK_plain, evalOK_guard, kEv_some, kEv_ite, dstIs_some, dstIs_none, pw_goto, pw_scopeL, kSeq_goto, kBlock_goto, kLoop_goto, kScopeL_normal, kScopeL_ret, kScopeL_exit, kScopeL_goto, pwOps_callv, kCallv_fn, kCallv_yld, pwOps_nextM, pwO_makeMap, pwO_lookup, pwR_lookup, pwO_mapSet, pwO_mapDel, pwO_lenM, pwR_lenM, pwO_mapEntry, pwO_entrySet, pwO_rangeS, pwO_nextS, pwO_rangeM, pwO_entryM, pwR_entryM, pwO_copyV, pwO_makeSl, pwO_asrt, pwR_asrt, gI, gM, gT, gF, gN, gNT, gNF, dI, dM, dT, dF]
  obtain ⟨g0, hg0⟩ : ∃ g0, g0 = ((h.push (.cells (u32s st.list) true 1)).push (.cells [.int .u32 0, .int .u32 0, .int .u32 0, .int .u32 0, .int .u32 0, .int .u32 0, .int .u32 0, .int .u32 0] true 1)).push (.cells (tab 64 (wf bs 0)) true 1) := ⟨_, rfl⟩
  have hgp : g0.get (h.n + 1 + 1) = .cells (tab 64 (wf bs 0)) true 1 := by rw [hg0]; simp [VH.get_push]
  have hgi : g0.get i = h.get i := by rw [hg0]; simp [VH.get_push, Nat.ne_of_lt hi, Nat.ne_of_lt (Nat.lt_succ_of_lt hi), Nat.ne_of_lt (Nat.lt_succ_of_lt (Nat.lt_succ_of_lt hi))]
  have hgs : g0.get h.n = .cells (u32s st.list) true 1 := by rw [hg0]; simp [VH.get_push, show ¬ h.n = h.n + 1 + 1 by omega]
  have hgz : g0.get (h.n + 1) = .cells [.int .u32 0, .int .u32 0, .int .u32 0, .int .u32 0, .int .u32 0, .int .u32 0, .int .u32 0, .int .u32 0] true 1 := by rw [hg0]; simp [VH.get_push]
  have hip : i ≠ h.n + 1 + 1 := by omega
  have hez := hat.esz
  obtain ⟨p, hp⟩ : ∃ p, p = h.n + 1 + 1 := ⟨_, rfl⟩
  rw [← hp] at hgp hip ⊢
  refine pw_loopN (fun n s g => s 26 = .int .i64 n ∧ s 1 = .slice (some ⟨i, o, none⟩) bs.length c ∧ s 2 = .pointer (some ⟨h.n, 0, none⟩) ∧ s 4 = .pointer (some ⟨h.n + 1, 0, none⟩) ∧ s 5 = .pointer (some ⟨p, 0, none⟩) ∧
    g = g0.set p (.cells (tab 64 (wf bs n)) true 1)) 16 ?_ ?_
  · refine ⟨by simp [upd_apply], by simp [upd_apply, s0_apply], by simp [upd_apply], by simp [upd_apply], by simp [upd_apply], ?_⟩
    rw [VH.set_self hgp, hg0]
    rfl
  · rintro n s g hn ⟨h26, h1, h2, h4, h5, rfl⟩
    by_cases hn16 : n < 16
    · have hlt' : (n : Int) < 16 := by omega
      simp (disch := omega) [h26, h1, h2, h4, h5, hlt', pbin, pbinI, i64_small, hgi, hez]
      have hsub := hat.sub (4 * n) 4 (by omega)
      refine pw_loopN (fun m s g => s 37 = .int .i64 m ∧ s 36 = .int .i64 4 ∧ (∃ c', s 35 = .slice (some ⟨i, o + 4 * n, none⟩) 4 c') ∧ s 6 = .int .i64 n ∧ s 26 = .int .i64 n ∧ s 1 = .slice (some ⟨i, o, none⟩) bs.length c ∧ s 2 = .pointer (some ⟨h.n, 0, none⟩) ∧ s 4 = .pointer (some ⟨h.n + 1, 0, none⟩) ∧ s 5 = .pointer (some ⟨p, 0, none⟩) ∧
        g = g0.set p (.cells (tab 64 (fun j => if j = n then .int .u32 (word bs n m).toNat else wf bs n j)) true 1)) 4 ?_ ?_
      · refine ⟨by simp [upd_apply], by simp [upd_apply], ⟨_, by simp [upd_apply]; rfl⟩, by simp [upd_apply], by simp [upd_apply, h26], by simp [upd_apply, h1], by simp [upd_apply, h2], by simp [upd_apply, h4], by simp [upd_apply, h5], ?_⟩
        congr 2
        refine tab_congr fun j hj => ?_
        by_cases hjn : j = n
        · subst hjn; simp [wf, word]
        · simp [hjn]
      · rintro m s g hm ⟨h37, h36, ⟨c', h35⟩, h6, h26, h1, h2, h4, h5, rfl⟩
        by_cases hlt : m < 4
        · have hlt' : (m : Int) < 4 := by omega
          have hld := hsub.at_ (k := m) (by simp; omega)
          simp (disch := omega) [-BitVec.toNat_or, -BitVec.toNat_shiftLeft, h37, h36, h35, h6, h26, h1, h2, h4, h5, hlt', pbin, pbinI, i64_small, hgi, hld, IntKind.bits, shl8, wrap_u32_byte, bits_or_u32]
          refine ⟨hlt, ?_⟩
          congr 2
          refine tab_congr fun j hj => ?_
          by_cases hjn : j = n
          · subst hjn
            simp only [if_true, word]
            rw [List.getD_eq_getElem?_getD, List.getElem?_eq_getElem (by omega), Option.getD_some]
          · simp [hjn]
        · obtain rfl : m = 4 := by omega
          simp (disch := omega) [h37, h36, h35, h6, h26, h1, h2, h4, h5, pbin, pbinI, i64_small]
          refine ⟨hn16, ?_⟩
          congr 2
          refine tab_congr fun j hj => ?_
          by_cases hjn : j = n
          · subst hjn
            simp [wf, sched_lo hn16]
          · have : (j < n) = (j < n + 1) := by
              apply propext; omega
            simp [hjn, wf, this]
    · obtain rfl : n = 16 := by omega
      simp (disch := omega) [h26, h1, h2, h4, h5, pbin, pbinI, i64_small]
      refine pw_loopN (fun n s g => s 9 = .int .i64 (16 + n : Nat) ∧ s 2 = .pointer (some ⟨h.n, 0, none⟩) ∧ s 4 = .pointer (some ⟨h.n + 1, 0, none⟩) ∧ s 5 = .pointer (some ⟨p, 0, none⟩) ∧
        g = g0.set p (.cells (tab 64 (wf bs (16 + n))) true 1)) 48 ?_ ?_
      · exact ⟨by simp [upd_apply], by simp [upd_apply, h2], by simp [upd_apply, h4], by simp [upd_apply, h5], rfl⟩
      · rintro n s g hn ⟨h9, h2, h4, h5, rfl⟩
        by_cases hlt : n < 48
        · have hlt' : (16 : Int) + (n : Int) < 64 := by omega
          simp (disch := omega) [-BitVec.toNat_or, -BitVec.toNat_xor, -BitVec.toNat_add, -BitVec.toNat_shiftLeft, -BitVec.toNat_ushiftRight, h9, h2, h4, h5, hlt', pbin, pbinI, i64_small, hgi, IntKind.bits, wf_lt, shr3, shr10]
          refine (turned_ok' _ 7 (by decide) (by decide) _).mono ?_
          rintro u h' ⟨rfl, rfl⟩
          simp (disch := omega) [-BitVec.toNat_or, -BitVec.toNat_xor, -BitVec.toNat_add, -BitVec.toNat_and, -BitVec.toNat_not, -BitVec.toNat_shiftLeft, -BitVec.toNat_ushiftRight, pbin, pbinI, i64_small, IntKind.bits, shr3, shr10, bits_or_u32, bits_xor_u32, bits_and_u32, add_u32, h5, h9, hgi, wf_lt]
          refine (turned_ok' _ 18 (by decide) (by decide) _).mono ?_
          rintro u h' ⟨rfl, rfl⟩
          simp (disch := omega) [-BitVec.toNat_or, -BitVec.toNat_xor, -BitVec.toNat_add, -BitVec.toNat_and, -BitVec.toNat_not, -BitVec.toNat_shiftLeft, -BitVec.toNat_ushiftRight, pbin, pbinI, i64_small, IntKind.bits, shr3, shr10, bits_or_u32, bits_xor_u32, bits_and_u32, add_u32, h5, h9, hgi, wf_lt]
          refine (turned_ok' _ 17 (by decide) (by decide) _).mono ?_
          rintro u h' ⟨rfl, rfl⟩
          simp (disch := omega) [-BitVec.toNat_or, -BitVec.toNat_xor, -BitVec.toNat_add, -BitVec.toNat_and, -BitVec.toNat_not, -BitVec.toNat_shiftLeft, -BitVec.toNat_ushiftRight, pbin, pbinI, i64_small, IntKind.bits, shr3, shr10, bits_or_u32, bits_xor_u32, bits_and_u32, add_u32, h5, h9, hgi, wf_lt]
          refine (turned_ok' _ 19 (by decide) (by decide) _).mono ?_
          rintro u h' ⟨rfl, rfl⟩
          simp (disch := omega) [-BitVec.toNat_or, -BitVec.toNat_xor, -BitVec.toNat_add, -BitVec.toNat_and, -BitVec.toNat_not, -BitVec.toNat_shiftLeft, -BitVec.toNat_ushiftRight, pbin, pbinI, i64_small, IntKind.bits, shr3, shr10, bits_or_u32, bits_xor_u32, bits_and_u32, add_u32, h2, h4, h5, h9, hgi, wf_lt]
          refine ⟨hlt, by omega, ?_⟩
          congr 2
          refine tab_congr fun j hj => ?_
          by_cases hjn : j = 16 + n
          · subst hjn
            rw [if_pos rfl, wf_lt (by omega), sched_hi (i := 16 + n) (by omega), show 16 + n - 16 = n by omega]
            rfl
          · have : (j < 16 + n) = (j < 16 + (n + 1)) := by
              apply propext; omega
            simp [hjn, wf, this]
        · obtain rfl : n = 48 := by omega
          simp (disch := omega) [-BitVec.toNat_or, -BitVec.toNat_xor, -BitVec.toNat_add, -BitVec.toNat_and, -BitVec.toNat_not, -BitVec.toNat_shiftLeft, -BitVec.toNat_ushiftRight, pbin, pbinI, i64_small, IntKind.bits, shr3, shr10, bits_or_u32, bits_xor_u32, bits_and_u32, add_u32, h9, h2, h4, h5, hgs, hgi, loadObj_one, St.list, u32s]
          refine (ks_ok _).mono ?_
          rintro u h' ⟨rfl, rfl⟩
          simp (disch := omega) 
          refine pw_loopN (fun n s g => s 110 = .int .i64 n ∧ s 109 = kV ∧ s 2 = .pointer (some ⟨h.n, 0, none⟩) ∧ s 4 = .pointer (some ⟨h.n + 1, 0, none⟩) ∧ s 5 = .pointer (some ⟨p, 0, none⟩) ∧
            s 12 = .int .u32 (rounds bs st n).a.toNat ∧ s 13 = .int .u32 (rounds bs st n).b.toNat ∧ s 14 = .int .u32 (rounds bs st n).c.toNat ∧ s 15 = .int .u32 (rounds bs st n).d.toNat ∧
            s 16 = .int .u32 (rounds bs st n).e.toNat ∧ s 17 = .int .u32 (rounds bs st n).f.toNat ∧ s 18 = .int .u32 (rounds bs st n).g.toNat ∧ s 19 = .int .u32 (rounds bs st n).h.toNat ∧
            g = g0.set p (.cells (tab 64 (wf bs 64)) true 1)) 64 ?_ ?_
          · exact ⟨by simp [upd_apply], by simp [upd_apply], by simp [upd_apply, h2], by simp [upd_apply, h4], by simp [upd_apply, h5], by simp [upd_apply, rounds], by simp [upd_apply, rounds], by simp [upd_apply, rounds], by simp [upd_apply, rounds], by simp [upd_apply, rounds], by simp [upd_apply, rounds], by simp [upd_apply, rounds], by simp [upd_apply, rounds], rfl⟩
          · rintro n s g hn ⟨h110, h109, h2, h4, h5, h12, h13, h14, h15, h16, h17, h18, h19, rfl⟩
            by_cases hlt : n < 64
            · have hlt' : (n : Int) < 64 := by omega
              simp (disch := omega) [-BitVec.toNat_or, -BitVec.toNat_xor, -BitVec.toNat_add, -BitVec.toNat_and, -BitVec.toNat_not, -BitVec.toNat_shiftLeft, -BitVec.toNat_ushiftRight, pbin, pbinI, i64_small, IntKind.bits, shr3, shr10, bits_or_u32, bits_xor_u32, bits_and_u32, add_u32, h110, h109, h2, h4, h5, h12, h13, h14, h15, h16, h17, h18, h19, hlt', wf_lt, kV, kT_at, partOf, bits_andNot_u32]
              refine (turned_ok' _ 6 (by decide) (by decide) _).mono ?_
              rintro u h' ⟨rfl, rfl⟩
              simp (disch := omega) [-BitVec.toNat_or, -BitVec.toNat_xor, -BitVec.toNat_add, -BitVec.toNat_and, -BitVec.toNat_not, -BitVec.toNat_shiftLeft, -BitVec.toNat_ushiftRight, pbin, pbinI, i64_small, IntKind.bits, shr3, shr10, bits_or_u32, bits_xor_u32, bits_and_u32, add_u32, h12, h13, h14, h15, h16, h17, h18, h19, h5, h2, h4, h110, wf_lt, bits_andNot_u32]
              refine (turned_ok' _ 11 (by decide) (by decide) _).mono ?_
              rintro u h' ⟨rfl, rfl⟩
              simp (disch := omega) [-BitVec.toNat_or, -BitVec.toNat_xor, -BitVec.toNat_add, -BitVec.toNat_and, -BitVec.toNat_not, -BitVec.toNat_shiftLeft, -BitVec.toNat_ushiftRight, pbin, pbinI, i64_small, IntKind.bits, shr3, shr10, bits_or_u32, bits_xor_u32, bits_and_u32, add_u32, h12, h13, h14, h15, h16, h17, h18, h19, h5, h2, h4, h110, wf_lt, bits_andNot_u32]
              refine (turned_ok' _ 25 (by decide) (by decide) _).mono ?_
              rintro u h' ⟨rfl, rfl⟩
              simp (disch := omega) [-BitVec.toNat_or, -BitVec.toNat_xor, -BitVec.toNat_add, -BitVec.toNat_and, -BitVec.toNat_not, -BitVec.toNat_shiftLeft, -BitVec.toNat_ushiftRight, pbin, pbinI, i64_small, IntKind.bits, shr3, shr10, bits_or_u32, bits_xor_u32, bits_and_u32, add_u32, h12, h13, h14, h15, h16, h17, h18, h19, h5, h2, h4, h110, wf_lt, bits_andNot_u32]
              refine (turned_ok' _ 2 (by decide) (by decide) _).mono ?_
              rintro u h' ⟨rfl, rfl⟩
              simp (disch := omega) [-BitVec.toNat_or, -BitVec.toNat_xor, -BitVec.toNat_add, -BitVec.toNat_and, -BitVec.toNat_not, -BitVec.toNat_shiftLeft, -BitVec.toNat_ushiftRight, pbin, pbinI, i64_small, IntKind.bits, shr3, shr10, bits_or_u32, bits_xor_u32, bits_and_u32, add_u32, h12, h13, h14, h15, h16, h17, h18, h19, h5, h2, h4, h110, wf_lt, bits_andNot_u32]
              refine (turned_ok' _ 13 (by decide) (by decide) _).mono ?_
              rintro u h' ⟨rfl, rfl⟩
              simp (disch := omega) [-BitVec.toNat_or, -BitVec.toNat_xor, -BitVec.toNat_add, -BitVec.toNat_and, -BitVec.toNat_not, -BitVec.toNat_shiftLeft, -BitVec.toNat_ushiftRight, pbin, pbinI, i64_small, IntKind.bits, shr3, shr10, bits_or_u32, bits_xor_u32, bits_and_u32, add_u32, h12, h13, h14, h15, h16, h17, h18, h19, h5, h2, h4, h110, wf_lt, bits_andNot_u32]
              refine (turned_ok' _ 22 (by decide) (by decide) _).mono ?_
              rintro u h' ⟨rfl, rfl⟩
              simp (disch := omega) [-BitVec.toNat_or, -BitVec.toNat_xor, -BitVec.toNat_add, -BitVec.toNat_and, -BitVec.toNat_not, -BitVec.toNat_shiftLeft, -BitVec.toNat_ushiftRight, pbin, pbinI, i64_small, IntKind.bits, shr3, shr10, bits_or_u32, bits_xor_u32, bits_and_u32, add_u32, h12, h13, h14, h15, h16, h17, h18, h19, h5, h2, h4, h110, wf_lt, bits_andNot_u32]
              exact ⟨hlt, by rw [h109]; simp only [kV], rfl, rfl, rfl, rfl, rfl, rfl, rfl, rfl⟩
            · obtain rfl : n = 64 := by omega
              simp (disch := omega) [-BitVec.toNat_or, -BitVec.toNat_xor, -BitVec.toNat_add, -BitVec.toNat_and, -BitVec.toNat_not, -BitVec.toNat_shiftLeft, -BitVec.toNat_ushiftRight, pbin, pbinI, i64_small, IntKind.bits, shr3, shr10, bits_or_u32, bits_xor_u32, bits_and_u32, add_u32, h110, h109, h2, h4, h5, h12, h13, h14, h15, h16, h17, h18, h19, fillC, wr]
              refine pw_loopN (fun n s g => s 178 = .int .i64 n ∧ s 177 = (rounds bs st 64).val ∧ s 2 = .pointer (some ⟨h.n, 0, none⟩) ∧ s 4 = .pointer (some ⟨h.n + 1, 0, none⟩) ∧
                g = (g0.set p (.cells (tab 64 (wf bs 64)) true 1)).set h.n (.cells (tab 8 (sf bs st n)) true 1)) 8 ?_ ?_
              · refine ⟨by simp [upd_apply], by simp [upd_apply, St.val, u32s, St.list], by simp [upd_apply, h2], by simp [upd_apply, h4], ?_⟩
                exact (VH.set_self (by rw [VH.get_set_ne _ _ (by omega), hgs]; rfl)).symm
              · rintro n s g hn ⟨h178, h177, h2, h4, rfl⟩
                have hz : (g0.set p (.cells (tab 64 (wf bs 64)) true 1)).get (h.n + 1) = .cells [.int .u32 0, .int .u32 0, .int .u32 0, .int .u32 0, .int .u32 0, .int .u32 0, .int .u32 0, .int .u32 0] true 1 := by rw [VH.get_set_ne _ _ (by omega), hgz]
                by_cases hlt : n < 8
                · have hlt' : (n : Int) < 8 := by omega
                  have hpart : (u32s (rounds bs st 64).list)[n]? = some (.int .u32 ((rounds bs st 64).list.getD n 0#32).toNat) := by
                    rw [u32s_at (by rw [St.list_len]; exact hlt), List.getD_eq_getElem?_getD, List.getElem?_eq_getElem (by rw [St.list_len]; exact hlt)]
                    rfl
                  have hsf : sf bs st n n = .int .u32 (st.list.getD n 0#32).toNat := by simp [sf]
                  simp (disch := omega) [-BitVec.toNat_or, -BitVec.toNat_xor, -BitVec.toNat_add, -BitVec.toNat_and, -BitVec.toNat_not, -BitVec.toNat_shiftLeft, -BitVec.toNat_ushiftRight, pbin, pbinI, i64_small, IntKind.bits, shr3, shr10, bits_or_u32, bits_xor_u32, bits_and_u32, add_u32, h178, h177, h2, h4, hlt', St.val, partOf, hpart, hsf]
                  refine ⟨hlt, ?_⟩
                  congr 2
                  refine tab_congr fun j hj => ?_
                  by_cases hjn : j = n
                  · subst hjn
                    have : j = 0 ∨ j = 1 ∨ j = 2 ∨ j = 3 ∨ j = 4 ∨ j = 5 ∨ j = 6 ∨ j = 7 := by omega
                    rcases this with rfl | rfl | rfl | rfl | rfl | rfl | rfl | rfl <;> rfl
                  · have : (j < n) = (j < n + 1) := by
                      apply propext; omega
                    simp [hjn, sf, this]
                · obtain rfl : n = 8 := by omega
                  have hst : storeObj (.cells [.int .u32 0, .int .u32 0, .int .u32 0, .int .u32 0, .int .u32 0, .int .u32 0, .int .u32 0, .int .u32 0] true 1) 0 8 (.agg (tab 8 (sf bs st 8)).toArray) = some (.cells (tab 8 (sf bs st 8)) true 1) :=
                    storeObj_all (by simp) rfl (tab_all fun i _ => rfl)
                  simp (disch := omega) [-BitVec.toNat_or, -BitVec.toNat_xor, -BitVec.toNat_add, -BitVec.toNat_and, -BitVec.toNat_not, -BitVec.toNat_shiftLeft, -BitVec.toNat_ushiftRight, pbin, pbinI, i64_small, IntKind.bits, shr3, shr10, bits_or_u32, bits_xor_u32, bits_and_u32, add_u32, h178, h177, h2, h4, hz, loadObj_tabN, hst, r_sha_state_behind, ret_r, resV, resL, resOne]
                  simp (disch := omega) [hgz, hst, h2, h4, loadObj_tabN, r_sha_state_behind, ret_r, resV, resL, resOne]
                  rfl

theorem St.closed (s : St) : closedD s.val = true := u32s_closed _
theorem behind_ok {h : VH} {v : Value} {bs : List UInt8} (hb : IsBytes h v bs) (h64 : 64 ≤ bs.length) (st : St) : PCalls Try.prog f_sha_state_behind [st.val, v] h (fun u h' => u = (blockS bs st).val ∧ h' = h) :=
  ((behind_ok' hb.ro h64 st).mono fun u _ e => by subst e; exact ⟨St.closed _, rfl⟩).drop
end Go.Proofs.Ytdnkpgbggpbgaaa.Sha
