/- SHA-256, part I: digests of bytes and of pairs; lent bytes; the law of sums. -/
import Derived.Test.YtdnkpgbggpbgaaaShaH
set_option linter.unusedVariables false
set_option linter.unusedSimpArgs false
set_option maxRecDepth 100000
namespace Go.Proofs.Ytdnkpgbggpbgaaa.Sha
open Go Go.RowKit Go.Proofs.Ytdnkpgbggpbgaaa.Pm Go.Proofs.Ytdnkpgbggpbgaaa.Fs
attribute [local simp] pw_skip pw_ops pw_quiet pw_seq pw_cond pw_block pw_exit pw_ret pw_scope pw_label kSeq_normal kSeq_ret kSeq_exit kBlock_normal kBlock_ret kBlock_exit kScope_normal kScope_ret kScope_exit kLoop_normal kLoop_ret kLoop_exit kCond_true kCond_false kCond_dec pwOps_nil pwOps_call pwOps_guard kStep_some kCall_at pwQ_nil pwQ_call pwQ_guard kQ_some putS_some putS_none upd_apply ev_t ev_k isB_bool isB_undef s0_apply pstep pwO_mov pwO_pick pwO_nilck pwO_bin pwO_binB pwO_eqNil pwO_un pwO_convI pwO_convS pwO_alloc pwO_build pwO_load pwO_store pwO_fieldAddr pwO_field pwO_idxS pwO_idxA pwO_idxV pwO_strAt pwO_lenStr pwO_lenS pwO_lenC pwO_slS pwO_slA pwO_slStr pwO_extract pwO_mkFunc pwO_mkIface pwO_append pwO_appendStr pwO_toBytes pwO_ofB pwO_box pwO_row pwO_minmax pwO_eqV pwO_sameB pwR_mov pwR_pick pwR_nilck pwR_bin pwR_binB pwR_eqNil pwR_un pwR_convI pwR_convS pwR_build pwR_load pwR_fieldAddr pwR_field pwR_idxS pwR_idxA pwR_idxV pwR_strAt pwR_lenStr pwR_lenS pwR_lenC pwR_slS pwR_slA pwR_slStr pwR_extract pwR_mkFunc pwR_mkIface pwR_ofB pwR_minmax pwR_eqV ret_r ret_n kRet_some resV0 resV1 resV2 resV3 resV4 VH.get_push_new VH.get_set_same VH.n_push VH.n_set cellsL_agg cellsL_int cellsL_bool cellsL_string cellsL_slice cellsL_pointer cellsL_map pw_draw pwD_nil pwD_cons kD_nil kD_cons evalOK_plain evalOK_guard kEv_some dstIs_some dstIs_none pw_goto pw_scopeL kSeq_goto kBlock_goto kLoop_goto kScopeL_normal kScopeL_ret kScopeL_exit kScopeL_goto pwOps_callv kCallv_fn kCallv_yld pwOps_nextM pwO_makeMap pwO_lookup pwR_lookup pwO_mapSet pwO_mapDel pwO_lenM pwR_lenM pwO_mapEntry pwO_entrySet pwO_rangeS pwO_nextS pwO_rangeM pwO_entryM pwR_entryM pwO_copyV pwO_makeSl pwO_asrt pwR_asrt kStep_if kStep_dif kQ_if kQ_dif kEv_if bound_none bound_some toNat_add' toNat_sub' toNat_mul' kLoopN_normal kLoopN_ret kLoopN_exit kLoopN_goto Option.map_some Option.map_none loadAt_obj storeAt_obj rowOf_obj eszIs_obj eszObj_cells loadObj_tab storeObj_tab_int VH.get_set_ne VH.get_push_lt VH.set_set tab_length List.getElem?_cons_zero List.getElem?_cons_succ List.length_cons List.length_nil oneC_int oneC_bool oneC_string oneC_slice oneC_pointer oneC_map srcCells_at srcCells_nil VH.get_push_at isNilV pw_drawT pwT_nil pwT_step pwT_alt kT_nil kT_cons pun pbinS pbin pbinI i64_small IntKind.bits resV resL resOne gI gM gT gF gN gNT gNF dI dM dT dF

theorem IsBytes.lt {h : VH} {v : Value} {bs : List UInt8} (hb : IsBytes h v bs) : ∀ j ∈ idOf v, j < h.n := by
  rcases hb.cases with ⟨rfl, rfl⟩ | ⟨i, o, c, hi, hc, rfl, _⟩
  · simp [idOf]
  · intro j hj
    simp [idOf] at hj
    omega

set_option maxHeartbeats 2000000 in
theorem sum_ok' {h : VH} {v : Value} {bs : List UInt8} (hb : IsBytes h v bs) (hlen : bs.length ≤ 1099511627000) : PCalls Try.prog f_sha_Sum [v] h (fun u _ => u = digV (shaS bs)) := by
  refine PCalls_of_pw st_sha_Sum (by simp [n_sha_Sum]) ?_
  rw [b_sha_Sum]
  obtain ⟨va, vc, rfl⟩ := hb.shape
  simp (disch := first | omega | (simp only [VH.n_push, VH.n_set]; done) | (simp only [VH.n_push, VH.n_set]; omega)) [B_sha_Sum, pun, pbinS, -BitVec.toNat_or, -BitVec.toNat_xor, -BitVec.toNat_add, -BitVec.toNat_and, -BitVec.toNat_not, -BitVec.toNat_shiftLeft, -BitVec.toNat_ushiftRight, pbin, pbinI, i64_small, IntKind.bits, zeros32]
  refine (new_ok _).mono ?_
  rintro u h' ⟨rfl, rfl⟩
  obtain ⟨g0, hg0⟩ : ∃ g0, g0 = h.push (.cells (tab 32 (fun _ => .int .u8 0)) true 1) := ⟨_, rfl⟩
  have hb0 : IsBytes g0 (.slice va bs.length vc) bs := by
    rw [hg0]; exact hb.fr (Fr.push h _ []) (fun i _ => by simp)
  have h0z : g0.get h.n = .cells (tab 32 (fun _ => .int .u8 0)) true 1 := by rw [hg0]; exact VH.get_push_new _ _
  have h0n : g0.n = h.n + 1 := by rw [hg0]; simp
  have hst := new_stm g0
  obtain ⟨g1, hg1⟩ : ∃ g1, g1 = g0.push (.cells (stmC begin0 (.slice none 0 0) (.slice none 0 0) 0) true 1) := ⟨_, rfl⟩
  rw [← hg1] at hst
  have hf1 : Fr g0 g1 [] := by rw [hg1]; exact Fr.push _ _ _
  simp (disch := first | omega | (simp only [VH.n_push, VH.n_set]; done) | (simp only [VH.n_push, VH.n_set]; omega)) [pun, pbinS, -BitVec.toNat_or, -BitVec.toNat_xor, -BitVec.toNat_add, -BitVec.toNat_and, -BitVec.toNat_not, -BitVec.toNat_shiftLeft, -BitVec.toNat_ushiftRight, pbin, pbinI, i64_small, IntKind.bits, ← hg0, ← hg1]
  refine (write_ok hst (hb0.fr hf1 (fun i _ => by simp)) ?_ (by simpa using hlen)).mono ?_
  · intro j hj
    have := IsBytes.lt hb0 j hj
    simp [fpS, idOf]
    omega
  rintro u g2 ⟨rfl, pv, lv, hst2, hf2, _⟩
  rw [List.nil_append] at hst2
  simp (disch := first | omega | (simp only [VH.n_push, VH.n_set]; done) | (simp only [VH.n_push, VH.n_set]; omega)) [pun, pbinS, -BitVec.toNat_or, -BitVec.toNat_xor, -BitVec.toNat_add, -BitVec.toNat_and, -BitVec.toNat_not, -BitVec.toNat_shiftLeft, -BitVec.toNat_ushiftRight, pbin, pbinI, i64_small, IntKind.bits]
  refine (ssum_ok hst2.read (by omega)).mono ?_
  rintro u g3 ⟨rfl, rfl⟩
  have hgz : g3.get h.n = .cells (tab 32 (fun _ => .int .u8 0)) true 1 := by
    rw [hf2.get _ (by have := hf1.n; omega) (by simp [fpS, idOf]; omega), hf1.get _ (by omega) (by simp), h0z]
  have hds : ∀ (f : Nat → Value), storeObj (.cells (tab 32 f) true 1) 0 32 (digV (shaS bs)) = some (.cells (u8s (shaS bs)) true 1) := fun f => dig_store (shaS_len _) (by simp)
  have hdl : loadObj (.cells (u8s (shaS bs)) true 1) 0 (some 32) = some (digV (shaS bs)) := dig_load (shaS_len _)
  simp (disch := first | omega | (simp only [VH.n_push, VH.n_set]; done) | (simp only [VH.n_push, VH.n_set]; omega)) [pun, pbinS, -BitVec.toNat_or, -BitVec.toNat_xor, -BitVec.toNat_add, -BitVec.toNat_and, -BitVec.toNat_not, -BitVec.toNat_shiftLeft, -BitVec.toNat_ushiftRight, pbin, pbinI, i64_small, IntKind.bits, hgz, hds, hdl, r_sha_Sum, ret_r, resV, resL, resOne]

theorem sum_ok {h : VH} {v : Value} {bs : List UInt8} (hb : IsBytes h v bs) (hlen : bs.length ≤ 1099511627000) : PCalls Try.prog f_sha_Sum [v] h (fun u h' => u = digV (shaS bs) ∧ h' = h) :=
  ((sum_ok' hb.ro hlen).mono fun u _ e => by subst e; exact ⟨digV_closed _, rfl⟩).drop

end Go.Proofs.Ytdnkpgbggpbgaaa.Sha
