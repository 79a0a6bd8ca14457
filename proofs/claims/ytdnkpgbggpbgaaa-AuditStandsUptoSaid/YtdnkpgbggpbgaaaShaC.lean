/- SHA-256, part C: the reference's block. -/
import Derived.Test.YtdnkpgbggpbgaaaShaB
set_option linter.unusedVariables false
set_option linter.unusedSimpArgs false
set_option maxRecDepth 100000
namespace Go.Proofs.Ytdnkpgbggpbgaaa.Sha
open Go Go.RowKit Go.Proofs.Ytdnkpgbggpbgaaa.Pm Go.Proofs.Ytdnkpgbggpbgaaa.Fs


theorem word4 (bs : List UInt8) (i : Nat) : word bs i 4 = up (bs.getD (4 * i) 0) <<< 24 ||| up (bs.getD (4 * i + 1) 0) <<< 16 ||| up (bs.getD (4 * i + 2) 0) <<< 8 ||| up (bs.getD (4 * i + 3) 0) := by
  simp only [word, Nat.add_zero]
  simp only [BitVec.shiftLeft_or_distrib, ← BitVec.shiftLeft_add, BitVec.zero_shiftLeft, BitVec.zero_or]
theorem ch_eq (e f g : BitVec 32) : e &&& f ^^^ ~~~ e &&& g = chS e f g := by
  unfold chS
  apply BitVec.eq_of_getLsbD_eq
  intro i hi
  simp only [BitVec.getLsbD_xor, BitVec.getLsbD_and, BitVec.getLsbD_or, BitVec.getLsbD_not, hi, decide_true, Bool.true_and]
  cases e.getLsbD i <;> cases f.getLsbD i <;> cases g.getLsbD i <;> rfl
theorem maj_eq (a b c : BitVec 32) : a &&& b ^^^ a &&& c ^^^ b &&& c = majS a b c := by
  unfold majS
  apply BitVec.eq_of_getLsbD_eq
  intro i hi
  simp only [BitVec.getLsbD_xor, BitVec.getLsbD_and, BitVec.getLsbD_or]
  cases a.getLsbD i <;> cases b.getLsbD i <;> cases c.getLsbD i <;> rfl
theorem not32 (r : BitVec 32) : Go.bits .xor .u32 4294967295 (r.toNat : Int) = ((~~~ r).toNat : Int) := by
  have := bits_xor_u32 (BitVec.allOnes 32) r
  rw [BitVec.allOnes_xor] at this
  exact this
theorem un_xor_u32 (n : Int) : pun .xor (.int .u32 n) = some (.int .u32 (Go.bits .xor .u32 4294967295 n)) := rfl
theorem shl16 (x : BitVec 32) : IntKind.u32.wrap ((x.toNat : Int) * 65536) = ((x <<< 16).toNat : Int) := shl_u32 x 16
theorem shl24 (x : BitVec 32) : IntKind.u32.wrap ((x.toNat : Int) * 16777216) = ((x <<< 24).toNat : Int) := shl_u32 x 24
theorem val8 (a b c d e f g h : BitVec 32) : Value.agg #[.int .u32 a.toNat, .int .u32 b.toNat, .int .u32 c.toNat, .int .u32 d.toNat, .int .u32 e.toNat, .int .u32 f.toNat, .int .u32 g.toNat, .int .u32 h.toNat] = (St.mk a b c d e f g h).val := rfl
theorem kV_cells : cellsL kV = u32s kT := by unfold kV; rfl

/-- the sums, of which n are done. -/
def sfr (bs : List UInt8) (st : St) (n : Nat) (j : Nat) : Value := .int .u32 ((if j < n then (blockS bs st).list else (rounds bs st 64).list).getD j 0#32).toNat
set_option maxHeartbeats 4000000 in
theorem rblock_ok' {h : VH} {v : Value} {bs : List UInt8} (hb : IsBytes h v bs) (h64 : bs.length = 64) (st : St) : PCalls Try.prog f_ref03_Block [st.val, v, kV] h (fun u _ => u = (blockS bs st).val) := by
  refine PCalls_of_pw st_ref03_Block (by simp [n_ref03_Block]) ?_
  rw [b_ref03_Block]
  rcases hb.cases with ⟨_, rfl⟩ | ⟨i, o, c, hi, hc, rfl, hat⟩
  · simp at h64
  simp [B_ref03_Block, St.cells, u32s_one, kV_cells, zeros64, pw_skip, pw_ops, pw_quiet, pw_seq, pw_cond, pw_block, pw_exit, pw_ret, pw_scope, pw_label, kSeq_normal, kSeq_ret, kSeq_exit, kBlock_normal, kBlock_ret, kBlock_exit, kScope_normal, kScope_ret, kScope_exit, kLoop_normal, kLoop_ret, kLoop_exit, kCond_bool, pwOps_nil, pwOps_call, pwOps_guard, kStep_some, kStep_ite, kStep_dite, kCall_at, pwQ_nil, pwQ_call, pwQ_guard, kQ_some, kQ_ite, putS_some, putS_none, upd_apply, ev_t, ev_k, isB_bool, s0_apply, pstep, pwO_mov, pwO_pick, pwO_nilck, pwO_bin, pwO_binB, pwO_eqNil, pwO_un, pwO_convI, pwO_convS, pwO_alloc, pwO_build, pwO_load, pwO_store, pwO_fieldAddr, pwO_field, pwO_idxS, pwO_idxA, pwO_idxV, pwO_idxStr, pwO_lenStr, pwO_lenS, pwO_lenC, pwO_slS, pwO_slA, pwO_slStr, pwO_extract, pwO_mkFunc, pwO_mkIface, pwO_append, pwO_appendStr, pwO_appendZ, pwO_toBytes, pwO_ofBytes, pwO_box, pwO_row, pwO_minmax, pwO_eqV, pwO_sameB, pwR_mov, pwR_pick, pwR_nilck, pwR_bin, pwR_binB, pwR_eqNil, pwR_un, pwR_convI, pwR_convS, pwR_build, pwR_load, pwR_fieldAddr, pwR_field, pwR_idxS, pwR_idxA, pwR_idxV, pwR_idxStr, pwR_lenStr, pwR_lenS, pwR_lenC, pwR_slS, pwR_slA, pwR_slStr, pwR_extract, pwR_mkFunc, pwR_mkIface, pwR_ofBytes, pwR_minmax, pwR_eqV, ret_r, ret_n, kRet_some, resV0, resV1, resV2, resV3, resV4, storeAt, loadAt, VH.get_push_new, VH.get_set_same, VH.n_push, VH.n_set, cellsL_agg, cellsL_int, cellsL_bool, cellsL_string, cellsL_slice, cellsL_pointer, cellsL_map, pw_draw, pwD_nil, pwD_cons, kD_nil, kD_cons, evalOK_plain, evalOK_guard, kEv_some, kEv_ite, dstIs_some, dstIs_none, pw_goto, pw_scopeL, kSeq_goto, kBlock_goto, kLoop_goto, kScopeL_normal, kScopeL_ret, kScopeL_exit, kScopeL_goto, pwOps_callv, kCallv_fn, kCallv_yld, pwOps_nextM, pwO_makeMap, pwO_lookup, pwR_lookup, pwO_mapSet, pwO_mapDel, pwO_lenM, pwR_lenM, pwO_mapEntry, pwO_entrySet, pwO_rangeS, pwO_nextS, pwO_rangeM, pwO_entryM, pwR_entryM, pwO_copyV, pwO_makeSl, pwO_asrt, pwR_asrt, gI, gM, gT, gF, gN, gNT, gNF, dI, dM, dT, dF]
  obtain ⟨g0, hg0⟩ : ∃ g0, g0 = (((h.push (.cells (u32s st.list) true 1)).push (.cells (u32s kT) true 1)).push (.cells [.int .u32 0, .int .u32 0, .int .u32 0, .int .u32 0, .int .u32 0, .int .u32 0, .int .u32 0, .int .u32 0] true 1)).push (.cells (tab 64 (wf bs 0)) true 1) := ⟨_, rfl⟩
  obtain ⟨hgs, hgk, hgz, hgp, hgl⟩ : g0.get h.n = .cells (u32s st.list) true 1 ∧ g0.get (h.n + 1) = .cells (u32s kT) true 1 ∧ g0.get (h.n + 1 + 1) = .cells [.int .u32 0, .int .u32 0, .int .u32 0, .int .u32 0, .int .u32 0, .int .u32 0, .int .u32 0, .int .u32 0] true 1 ∧ g0.get (h.n + 1 + 1 + 1) = .cells (tab 64 (wf bs 0)) true 1 ∧ ∀ j, j < h.n → g0.get j = h.get j := by
    rw [hg0]; exact VH.get_push4 h _ _ _ _
  have hgi := hgl i hi
  have hgn : g0.n = h.n + 4 := by rw [hg0]; simp
  have hip : i ≠ h.n + 1 + 1 + 1 := by omega
  obtain ⟨p, hp⟩ : ∃ p, p = h.n + 1 + 1 + 1 := ⟨_, rfl⟩
  rw [← hp] at hgp hip ⊢
  refine pw_loopN (fun n s g => s 8 = .int .i64 n ∧ s 1 = .slice (some ⟨i, o, none⟩) bs.length c ∧ s 3 = .pointer (some ⟨h.n, 0, none⟩) ∧ s 5 = .pointer (some ⟨h.n + 1, 0, none⟩) ∧ s 6 = .pointer (some ⟨h.n + 1 + 1, 0, none⟩) ∧ s 7 = .pointer (some ⟨p, 0, none⟩) ∧
    g = g0.set p (.cells (tab 64 (wf bs n)) true 1)) 16 ?_ ?_
  · refine ⟨by simp [upd_apply], by simp [upd_apply, s0_apply], by simp [upd_apply], by simp [upd_apply], by simp [upd_apply], by simp [upd_apply], ?_⟩
    rw [VH.set_self hgp, hg0]
    rfl
  · rintro n s g hn ⟨h8, h1, h3, h5, h6, h7, rfl⟩
    by_cases hn16 : n < 16
    · have hlt' : (n : Int) < 16 := by omega
      have hld0 := hat.at_ (k := 4 * n) (by omega)
      have hld1 := hat.at_ (k := 4 * n + 1) (by omega)
      have hld2 := hat.at_ (k := 4 * n + 2) (by omega)
      have hld3 := hat.at_ (k := 4 * n + 3) (by omega)
      simp (disch := omega) [-BitVec.toNat_or, -BitVec.toNat_xor, -BitVec.toNat_add, -BitVec.toNat_and, -BitVec.toNat_not, -BitVec.toNat_shiftLeft, -BitVec.toNat_ushiftRight, pbin, pbinI, i64_small, IntKind.bits, shr3, shr10, bits_or_u32, bits_xor_u32, bits_and_u32, add_u32, h8, h1, h3, h5, h6, h7, hlt', hgi, hld0, hld1, hld2, hld3, shl8, shl16, shl24, wrap_u32_byte]
      refine ⟨hn16, ?_⟩
      congr 2
      refine tab_congr fun j hj => ?_
      by_cases hjn : j = n
      · subst hjn
        have e : ∀ k, k < bs.length → bs.getD k 0 = bs[k]! := fun k hk => by simp [List.getD_eq_getElem?_getD, hk]
        rw [if_pos rfl, wf_lt (by omega), sched_lo hn16, word4]
        simp only [List.getD_eq_getElem?_getD]
        rw [List.getElem?_eq_getElem (by omega), List.getElem?_eq_getElem (by omega), List.getElem?_eq_getElem (by omega), List.getElem?_eq_getElem (by omega)]
        rfl
      · have : (j < n) = (j < n + 1) := by
          apply propext; omega
        simp [hjn, wf, this]
    · obtain rfl : n = 16 := by omega
      simp (disch := omega) [-BitVec.toNat_or, -BitVec.toNat_xor, -BitVec.toNat_add, -BitVec.toNat_and, -BitVec.toNat_not, -BitVec.toNat_shiftLeft, -BitVec.toNat_ushiftRight, pbin, pbinI, i64_small, IntKind.bits, shr3, shr10, bits_or_u32, bits_xor_u32, bits_and_u32, add_u32, h8, h1, h3, h5, h6, h7]
      refine pw_loopN (fun n s g => s 9 = .int .i64 (16 + n : Nat) ∧ s 3 = .pointer (some ⟨h.n, 0, none⟩) ∧ s 5 = .pointer (some ⟨h.n + 1, 0, none⟩) ∧ s 6 = .pointer (some ⟨h.n + 1 + 1, 0, none⟩) ∧ s 7 = .pointer (some ⟨p, 0, none⟩) ∧
        g = g0.set p (.cells (tab 64 (wf bs (16 + n))) true 1)) 48 ?_ ?_
      · exact ⟨by simp [upd_apply], by simp [upd_apply, h3], by simp [upd_apply, h5], by simp [upd_apply, h6], by simp [upd_apply, h7], rfl⟩
      · rintro n s g hn ⟨h9, h3, h5, h6, h7, rfl⟩
        by_cases hlt : n < 48
        · have hlt' : (16 : Int) + (n : Int) < 64 := by omega
          simp (disch := omega) [-BitVec.toNat_or, -BitVec.toNat_xor, -BitVec.toNat_add, -BitVec.toNat_and, -BitVec.toNat_not, -BitVec.toNat_shiftLeft, -BitVec.toNat_ushiftRight, pbin, pbinI, i64_small, IntKind.bits, shr3, shr10, bits_or_u32, bits_xor_u32, bits_and_u32, add_u32, h9, h3, h5, h6, h7, hlt', wf_lt]
          refine (rturned_ok' _ 7 (by decide) (by decide) _).mono ?_
          rintro u h' ⟨rfl, rfl⟩
          simp (disch := omega) [-BitVec.toNat_or, -BitVec.toNat_xor, -BitVec.toNat_add, -BitVec.toNat_and, -BitVec.toNat_not, -BitVec.toNat_shiftLeft, -BitVec.toNat_ushiftRight, pbin, pbinI, i64_small, IntKind.bits, shr3, shr10, bits_or_u32, bits_xor_u32, bits_and_u32, add_u32, h9, h3, h5, h6, h7, wf_lt]
          refine (rturned_ok' _ 18 (by decide) (by decide) _).mono ?_
          rintro u h' ⟨rfl, rfl⟩
          simp (disch := omega) [-BitVec.toNat_or, -BitVec.toNat_xor, -BitVec.toNat_add, -BitVec.toNat_and, -BitVec.toNat_not, -BitVec.toNat_shiftLeft, -BitVec.toNat_ushiftRight, pbin, pbinI, i64_small, IntKind.bits, shr3, shr10, bits_or_u32, bits_xor_u32, bits_and_u32, add_u32, h9, h3, h5, h6, h7, wf_lt]
          refine (rturned_ok' _ 17 (by decide) (by decide) _).mono ?_
          rintro u h' ⟨rfl, rfl⟩
          simp (disch := omega) [-BitVec.toNat_or, -BitVec.toNat_xor, -BitVec.toNat_add, -BitVec.toNat_and, -BitVec.toNat_not, -BitVec.toNat_shiftLeft, -BitVec.toNat_ushiftRight, pbin, pbinI, i64_small, IntKind.bits, shr3, shr10, bits_or_u32, bits_xor_u32, bits_and_u32, add_u32, h9, h3, h5, h6, h7, wf_lt]
          refine (rturned_ok' _ 19 (by decide) (by decide) _).mono ?_
          rintro u h' ⟨rfl, rfl⟩
          simp (disch := omega) [-BitVec.toNat_or, -BitVec.toNat_xor, -BitVec.toNat_add, -BitVec.toNat_and, -BitVec.toNat_not, -BitVec.toNat_shiftLeft, -BitVec.toNat_ushiftRight, pbin, pbinI, i64_small, IntKind.bits, shr3, shr10, bits_or_u32, bits_xor_u32, bits_and_u32, add_u32, h9, h3, h5, h6, h7, wf_lt]
          refine ⟨hlt, by omega, ?_⟩
          congr 2
          refine tab_congr fun j hj => ?_
          by_cases hjn : j = 16 + n
          · subst hjn
            rw [if_pos rfl, wf_lt (by omega), sched_hi (i := 16 + n) (by omega), show 16 + n - 16 = n by omega]
            congr 3
            unfold sig0
            rw [BitVec.add_assoc (sched bs n), BitVec.add_comm (rotr (sched bs (16 + n - 15)) 7 ^^^ _ ^^^ _), ← BitVec.add_assoc]
            rfl
          · have : (j < 16 + n) = (j < 16 + (n + 1)) := by
              apply propext; omega
            simp [hjn, wf, this]
        · obtain rfl : n = 48 := by omega
          have hl8 : ∀ s : St, loadObj (.cells (u32s s.list) true 1) 0 (some 8) = some s.val := fun s => rfl
          have hs8 : ∀ s : St, storeObj (.cells [.int .u32 0, .int .u32 0, .int .u32 0, .int .u32 0, .int .u32 0, .int .u32 0, .int .u32 0, .int .u32 0] true 1) 0 8 s.val = some (.cells (u32s s.list) true 1) := fun s => storeObj_all rfl rfl (u32s_one _)
          have hs8' : ∀ s t : St, storeObj (.cells (u32s t.list) true 1) 0 8 s.val = some (.cells (u32s s.list) true 1) := fun s t => storeObj_all rfl rfl (u32s_one _)
          simp (disch := first | omega | rfl) [-BitVec.toNat_or, -BitVec.toNat_xor, -BitVec.toNat_add, -BitVec.toNat_and, -BitVec.toNat_not, -BitVec.toNat_shiftLeft, -BitVec.toNat_ushiftRight, pbin, pbinI, i64_small, IntKind.bits, shr3, shr10, bits_or_u32, bits_xor_u32, bits_and_u32, add_u32, h9, h3, h5, h6, h7, hgs, hl8, hs8, VH.get_push_at]
          obtain ⟨g1, hg1⟩ : ∃ g1, g1 = (g0.set p (.cells (tab 64 (wf bs 64)) true 1)).push (.cells [.int .u32 0, .int .u32 0, .int .u32 0, .int .u32 0, .int .u32 0, .int .u32 0, .int .u32 0, .int .u32 0] true 1) := ⟨_, rfl⟩
          have k1 : ∀ j, j < g0.n → j ≠ p → g1.get j = g0.get j := fun j hj hne => by rw [hg1, VH.get_push_lt _ _ (by simpa using hj), VH.get_set_ne _ _ hne]
          have k2 : g1.get p = .cells (tab 64 (wf bs 64)) true 1 := by rw [hg1, VH.get_push_lt _ _ (by simp; omega), VH.get_set_same]
          have k3 : g1.get h.n = .cells (u32s st.list) true 1 := by rw [k1 _ (by omega) (by omega), hgs]
          have k4 : g1.get (h.n + 1) = .cells (u32s kT) true 1 := by rw [k1 _ (by omega) (by omega), hgk]
          have k5 : g1.get (h.n + 1 + 1) = .cells [.int .u32 0, .int .u32 0, .int .u32 0, .int .u32 0, .int .u32 0, .int .u32 0, .int .u32 0, .int .u32 0] true 1 := by rw [k1 _ (by omega) (by omega), hgz]
          obtain ⟨q, hq⟩ : ∃ q, q = g0.n := ⟨_, rfl⟩
          rw [← hg1, ← hq]
          have hgq : g1.get q = .cells [.int .u32 0, .int .u32 0, .int .u32 0, .int .u32 0, .int .u32 0, .int .u32 0, .int .u32 0, .int .u32 0] true 1 := by rw [hg1, hq]; exact VH.get_push_new (g0.set p _) _
          simp (disch := omega) [hgq, hs8]
          refine pw_loopN (fun n s g => s 13 = .int .i64 n ∧ s 3 = .pointer (some ⟨h.n, 0, none⟩) ∧ s 5 = .pointer (some ⟨h.n + 1, 0, none⟩) ∧ s 6 = .pointer (some ⟨h.n + 1 + 1, 0, none⟩) ∧ s 7 = .pointer (some ⟨p, 0, none⟩) ∧ s 12 = .pointer (some ⟨q, 0, none⟩) ∧
            g = g1.set q (.cells (u32s (rounds bs st n).list) true 1)) 64 ?_ ?_
          · exact ⟨by simp [upd_apply], by simp [upd_apply, h3], by simp [upd_apply, h5], by simp [upd_apply, h6], by simp [upd_apply, h7], by simp [upd_apply, hq], rfl⟩
          · rintro n s g hn ⟨h13, h3, h5, h6, h7, h12, rfl⟩
            by_cases hlt : n < 64
            · have hlt' : (n : Int) < 64 := by omega
              simp (disch := omega) [-pun, -BitVec.toNat_or, -BitVec.toNat_xor, -BitVec.toNat_add, -BitVec.toNat_and, -BitVec.toNat_not, -BitVec.toNat_shiftLeft, -BitVec.toNat_ushiftRight, pbin, pbinI, i64_small, IntKind.bits, shr3, shr10, bits_or_u32, bits_xor_u32, bits_and_u32, add_u32, hlt', h13, h3, h5, h6, h7, h12, k2, k4, wf_lt, kT_at, loadObj_u32s, St.at0, St.at1, St.at2, St.at3, St.at4, St.at5, St.at6, St.at7, un_xor_u32, not32]
              refine (rturned_ok' _ 6 (by decide) (by decide) _).mono ?_
              rintro u h' ⟨rfl, rfl⟩
              simp (disch := omega) [-pun, -BitVec.toNat_or, -BitVec.toNat_xor, -BitVec.toNat_add, -BitVec.toNat_and, -BitVec.toNat_not, -BitVec.toNat_shiftLeft, -BitVec.toNat_ushiftRight, pbin, pbinI, i64_small, IntKind.bits, shr3, shr10, bits_or_u32, bits_xor_u32, bits_and_u32, add_u32, h13, h3, h5, h6, h7, h12, k2, k4, wf_lt, kT_at, loadObj_u32s, St.at0, St.at1, St.at2, St.at3, St.at4, St.at5, St.at6, St.at7, un_xor_u32, not32]
              refine (rturned_ok' _ 11 (by decide) (by decide) _).mono ?_
              rintro u h' ⟨rfl, rfl⟩
              simp (disch := omega) [-pun, -BitVec.toNat_or, -BitVec.toNat_xor, -BitVec.toNat_add, -BitVec.toNat_and, -BitVec.toNat_not, -BitVec.toNat_shiftLeft, -BitVec.toNat_ushiftRight, pbin, pbinI, i64_small, IntKind.bits, shr3, shr10, bits_or_u32, bits_xor_u32, bits_and_u32, add_u32, h13, h3, h5, h6, h7, h12, k2, k4, wf_lt, kT_at, loadObj_u32s, St.at0, St.at1, St.at2, St.at3, St.at4, St.at5, St.at6, St.at7, un_xor_u32, not32]
              refine (rturned_ok' _ 25 (by decide) (by decide) _).mono ?_
              rintro u h' ⟨rfl, rfl⟩
              simp (disch := omega) [-pun, -BitVec.toNat_or, -BitVec.toNat_xor, -BitVec.toNat_add, -BitVec.toNat_and, -BitVec.toNat_not, -BitVec.toNat_shiftLeft, -BitVec.toNat_ushiftRight, pbin, pbinI, i64_small, IntKind.bits, shr3, shr10, bits_or_u32, bits_xor_u32, bits_and_u32, add_u32, h13, h3, h5, h6, h7, h12, k2, k4, wf_lt, kT_at, loadObj_u32s, St.at0, St.at1, St.at2, St.at3, St.at4, St.at5, St.at6, St.at7, un_xor_u32, not32]
              refine (rturned_ok' _ 2 (by decide) (by decide) _).mono ?_
              rintro u h' ⟨rfl, rfl⟩
              simp (disch := omega) [-pun, -BitVec.toNat_or, -BitVec.toNat_xor, -BitVec.toNat_add, -BitVec.toNat_and, -BitVec.toNat_not, -BitVec.toNat_shiftLeft, -BitVec.toNat_ushiftRight, pbin, pbinI, i64_small, IntKind.bits, shr3, shr10, bits_or_u32, bits_xor_u32, bits_and_u32, add_u32, h13, h3, h5, h6, h7, h12, k2, k4, wf_lt, kT_at, loadObj_u32s, St.at0, St.at1, St.at2, St.at3, St.at4, St.at5, St.at6, St.at7, un_xor_u32, not32]
              refine (rturned_ok' _ 13 (by decide) (by decide) _).mono ?_
              rintro u h' ⟨rfl, rfl⟩
              simp (disch := omega) [-pun, -BitVec.toNat_or, -BitVec.toNat_xor, -BitVec.toNat_add, -BitVec.toNat_and, -BitVec.toNat_not, -BitVec.toNat_shiftLeft, -BitVec.toNat_ushiftRight, pbin, pbinI, i64_small, IntKind.bits, shr3, shr10, bits_or_u32, bits_xor_u32, bits_and_u32, add_u32, h13, h3, h5, h6, h7, h12, k2, k4, wf_lt, kT_at, loadObj_u32s, St.at0, St.at1, St.at2, St.at3, St.at4, St.at5, St.at6, St.at7, un_xor_u32, not32]
              refine (rturned_ok' _ 22 (by decide) (by decide) _).mono ?_
              rintro u h' ⟨rfl, rfl⟩
              simp (disch := omega) [-pun, -BitVec.toNat_or, -BitVec.toNat_xor, -BitVec.toNat_add, -BitVec.toNat_and, -BitVec.toNat_not, -BitVec.toNat_shiftLeft, -BitVec.toNat_ushiftRight, pbin, pbinI, i64_small, IntKind.bits, shr3, shr10, bits_or_u32, bits_xor_u32, bits_and_u32, add_u32, h13, h3, h5, h6, h7, h12, k2, k4, wf_lt, kT_at, loadObj_u32s, St.at0, St.at1, St.at2, St.at3, St.at4, St.at5, St.at6, St.at7, un_xor_u32, not32, fillC, wr, val8, hs8']
              refine ⟨hlt, ?_⟩
              congr 3
              show _ = (round (kAt n) (sched bs n) (rounds bs st n)).list
              have e1 : (rounds bs st n).h + (rotr (rounds bs st n).e 6 ^^^ rotr (rounds bs st n).e 11 ^^^ rotr (rounds bs st n).e 25) + ((rounds bs st n).e &&& (rounds bs st n).f ^^^ ~~~(rounds bs st n).e &&& (rounds bs st n).g) + kAt n + sched bs n =
                  (rounds bs st n).h + kAt n + sched bs n + cS1 (rounds bs st n).e + chS (rounds bs st n).e (rounds bs st n).f (rounds bs st n).g := by
                rw [ch_eq]
                unfold cS1
                ac_rfl
              rw [e1, maj_eq]
              rfl
            · obtain rfl : n = 64 := by omega
              simp (disch := omega) [-BitVec.toNat_or, -BitVec.toNat_xor, -BitVec.toNat_add, -BitVec.toNat_and, -BitVec.toNat_not, -BitVec.toNat_shiftLeft, -BitVec.toNat_ushiftRight, pbin, pbinI, i64_small, IntKind.bits, shr3, shr10, bits_or_u32, bits_xor_u32, bits_and_u32, add_u32, h13, h3, h5, h6, h7, h12]
              refine pw_loopN (fun n s g => s 18 = .int .i64 n ∧ s 3 = .pointer (some ⟨h.n, 0, none⟩) ∧ s 6 = .pointer (some ⟨h.n + 1 + 1, 0, none⟩) ∧ s 12 = .pointer (some ⟨q, 0, none⟩) ∧
                g = g1.set q (.cells (tab 8 (sfr bs st n)) true 1)) 8 ?_ ?_
              · refine ⟨by simp [upd_apply], by simp [upd_apply, h3], by simp [upd_apply, h6], by simp [upd_apply, h12], ?_⟩
                congr 2
              · rintro n s g hn ⟨h18, h3, h6, h12, rfl⟩
                by_cases hlt : n < 8
                · have hlt' : (n : Int) < 8 := by omega
                  have hst : (u32s st.list)[n]? = some (.int .u32 (st.list.getD n 0#32).toNat) := by
                    rw [u32s_at (by rw [St.list_len]; exact hlt), List.getD_eq_getElem?_getD, List.getElem?_eq_getElem (by rw [St.list_len]; exact hlt)]
                    rfl
                  have hsf : sfr bs st n n = .int .u32 ((rounds bs st 64).list.getD n 0#32).toNat := by simp [sfr]
                  simp (disch := omega) [-BitVec.toNat_or, -BitVec.toNat_xor, -BitVec.toNat_add, -BitVec.toNat_and, -BitVec.toNat_not, -BitVec.toNat_shiftLeft, -BitVec.toNat_ushiftRight, pbin, pbinI, i64_small, IntKind.bits, shr3, shr10, bits_or_u32, bits_xor_u32, bits_and_u32, add_u32, h18, h3, h6, h12, k3, hlt', loadObj_u32s, hst, hsf]
                  refine ⟨hlt, ?_⟩
                  congr 2
                  refine tab_congr fun j hj => ?_
                  by_cases hjn : j = n
                  · subst hjn
                    have : j = 0 ∨ j = 1 ∨ j = 2 ∨ j = 3 ∨ j = 4 ∨ j = 5 ∨ j = 6 ∨ j = 7 := by omega
                    rcases this with rfl | rfl | rfl | rfl | rfl | rfl | rfl | rfl <;> (simp only [if_true]; rw [BitVec.add_comm]; rfl)
                  · have : (j < n) = (j < n + 1) := by
                      apply propext; omega
                    simp [hjn, sfr, this]
                · obtain rfl : n = 8 := by omega
                  have hst : storeObj (.cells [.int .u32 0, .int .u32 0, .int .u32 0, .int .u32 0, .int .u32 0, .int .u32 0, .int .u32 0, .int .u32 0] true 1) 0 8 (.agg (tab 8 (sfr bs st 8)).toArray) = some (.cells (tab 8 (sfr bs st 8)) true 1) :=
                    storeObj_all (by simp) rfl (tab_all fun i _ => rfl)
                  simp (disch := omega) [-BitVec.toNat_or, -BitVec.toNat_xor, -BitVec.toNat_add, -BitVec.toNat_and, -BitVec.toNat_not, -BitVec.toNat_shiftLeft, -BitVec.toNat_ushiftRight, pbin, pbinI, i64_small, IntKind.bits, shr3, shr10, bits_or_u32, bits_xor_u32, bits_and_u32, add_u32, h18, h3, h6, h12, k5, loadObj_tabN, hst, r_ref03_Block, ret_r, resV, resL, resOne]
                  rfl

theorem rblock_ok {h : VH} {v : Value} {bs : List UInt8} (hb : IsBytes h v bs) (h64 : bs.length = 64) (st : St) : PCalls Try.prog f_ref03_Block [st.val, v, kV] h (fun u h' => u = (blockS bs st).val ∧ h' = h) :=
  ((rblock_ok' hb.ro h64 st).mono fun u _ e => by subst e; exact ⟨St.closed _, rfl⟩).drop
end Go.Proofs.Ytdnkpgbggpbgaaa.Sha
