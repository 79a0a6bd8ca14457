/- SHA-256, part U: streams alike, spoilt, copied; the law of bytes in any pieces. -/
import Derived.Test.YtadkbkkfpajghaaShaV
set_option linter.unusedVariables false
set_option linter.unusedSimpArgs false
set_option maxRecDepth 100000
namespace Go.Proofs.Ytadkbkkfpajghaa.Sha
open Go Go.RowKit Go.Proofs.Ytadkbkkfpajghaa.Pm Go.Proofs.Ytadkbkkfpajghaa.Fs
attribute [local simp] pw_skip pw_ops pw_quiet pw_seq pw_cond pw_block pw_exit pw_ret pw_scope pw_label kSeq_normal kSeq_ret kSeq_exit kBlock_normal kBlock_ret kBlock_exit kScope_normal kScope_ret kScope_exit kLoop_normal kLoop_ret kLoop_exit kCond_true kCond_false kCond_dec pwOps_nil pwOps_call pwOps_guard kStep_some kCall_at pwQ_nil pwQ_call pwQ_guard kQ_some putS_some putS_none upd_apply ev_t ev_k isB_bool isB_undef s0_apply pstep pwO_mov pwO_pick pwO_nilck pwO_bin pwO_binB pwO_eqNil pwO_un pwO_convI pwO_convS pwO_alloc pwO_build pwO_load pwO_store pwO_fieldAddr pwO_field pwO_idxS pwO_idxA pwO_idxV pwO_strAt pwO_lenStr pwO_lenS pwO_lenC pwO_slS pwO_slA pwO_slStr pwO_extract pwO_mkFunc pwO_mkIface pwO_append pwO_appendStr pwO_toBytes pwO_ofB pwO_box pwO_row pwO_minmax pwO_eqV pwO_sameB pwR_mov pwR_pick pwR_nilck pwR_bin pwR_binB pwR_eqNil pwR_un pwR_convI pwR_convS pwR_build pwR_load pwR_fieldAddr pwR_field pwR_idxS pwR_idxA pwR_idxV pwR_strAt pwR_lenStr pwR_lenS pwR_lenC pwR_slS pwR_slA pwR_slStr pwR_extract pwR_mkFunc pwR_mkIface pwR_ofB pwR_minmax pwR_eqV ret_r ret_n kRet_some resV0 resV1 resV2 resV3 resV4 VH.get_push_new VH.get_set_same VH.n_push VH.n_set cellsL_agg cellsL_int cellsL_bool cellsL_string cellsL_slice cellsL_pointer cellsL_map pw_draw pwD_nil pwD_cons kD_nil kD_cons evalOK_plain evalOK_guard kEv_some dstIs_some dstIs_none pw_goto pw_scopeL kSeq_goto kBlock_goto kLoop_goto kScopeL_normal kScopeL_ret kScopeL_exit kScopeL_goto pwOps_callv kCallv_fn kCallv_yld pwOps_nextM pwO_makeMap pwO_lookup pwR_lookup pwO_mapSet pwO_mapDel pwO_lenM pwR_lenM pwO_mapEntry pwO_entrySet pwO_rangeS pwO_nextS pwO_rangeM pwO_entryM pwR_entryM pwO_copyV pwO_makeSl pwO_asrt pwR_asrt kStep_if kStep_dif kQ_if kQ_dif kEv_if bound_none bound_some toNat_add' toNat_sub' toNat_mul' kLoopN_normal kLoopN_ret kLoopN_exit kLoopN_goto Option.map_some Option.map_none loadAt_obj storeAt_obj rowOf_obj eszIs_obj eszObj_cells loadObj_tab storeObj_tab_int VH.get_set_ne VH.get_push_lt VH.set_set tab_length List.getElem?_cons_zero List.getElem?_cons_succ List.length_cons List.length_nil oneC_int oneC_bool oneC_string oneC_slice oneC_pointer oneC_map srcCells_at srcCells_nil VH.get_push_at isNilV pw_drawT pwT_nil pwT_step pwT_alt kT_nil kT_cons pun pbinS pbin pbinI i64_small IntKind.bits resV resL resOne

theorem slen_ok {h : VH} {i : Nat} {T : List UInt8} {pv lv : Value} (hs : IsStm h i T pv lv) : PCalls Try.prog f_sha_Stream_Len [.pointer (some ⟨i, 0, none⟩)] h (fun u h' => u = .int .i64 (T.length : Int) ∧ h' = h) := by
  refine PCalls_of_pw st_sha_Stream_Len (by simp [n_sha_Stream_Len]) ?_
  rw [b_sha_Stream_Len]
  have ho := hs.obj
  obtain ⟨L, hL⟩ : ∃ L, L = T.length := ⟨_, rfl⟩
  rw [← hL] at ho ⊢
  simp (disch := first | omega | (simp only [VH.n_push, VH.n_set]; done) | (simp only [VH.n_push, VH.n_set]; omega)) [-BitVec.toNat_or, -BitVec.toNat_xor, -BitVec.toNat_add, -BitVec.toNat_and, -BitVec.toNat_not, -BitVec.toNat_shiftLeft, -BitVec.toNat_ushiftRight, r_sha_Stream_Len, B_sha_Stream_Len, ho, stm_ld10]
theorem bool_box {b : Bool} : [Value.bool b].all Value.oneCell' = true := rfl

set_option maxHeartbeats 8000000 in
theorem alike_ok {h : VH} {i : Nat} {T : List UInt8} {pv lv v : Value} (hs : IsStm h i T pv lv) (hb : IsBytes h v T) (hlen : T.length ≤ 10000000) :
    PCalls Try.prog f_law03_alike [.pointer (some ⟨i, 0, none⟩), v] h (fun u h' => u = .bool true ∧ Fr h h' []) := by
  refine PCalls_of_pw st_law03_alike (by simp [n_law03_alike]) ?_
  rw [b_law03_alike]
  obtain ⟨va, vc, hva⟩ := hb.shape
  obtain ⟨L', hL⟩ : ∃ L, L = T.length := ⟨_, rfl⟩
  rw [← hL] at hva
  obtain ⟨g0, hg0⟩ : ∃ g0, g0 = h.push (.cells [.bool false] true 1) := ⟨_, rfl⟩
  have f0 : Fr h g0 [] := by rw [hg0]; exact Fr_push (Fr.refl _ _)
  have g0n : g0.n = h.n + 1 := by rw [hg0]; rfl
  have g0o : g0.get h.n = .cells [.bool false] true 1 := by rw [hg0, VH.get_push_new]
  have s0' := IsStm.fr0 hs f0
  have hb0 := hb.fr f0 (fun _ _ => by simp)
  simp (disch := first | omega | (simp only [VH.n_push, VH.n_set]; done) | (simp only [VH.n_push, VH.n_set]; omega)) [-BitVec.toNat_or, -BitVec.toNat_xor, -BitVec.toNat_add, -BitVec.toNat_and, -BitVec.toNat_not, -BitVec.toNat_shiftLeft, -BitVec.toNat_ushiftRight, B_law03_alike, ← hg0]
  refine (slen_ok s0').mono ?_
  rintro u g1 ⟨rfl, rfl⟩
  rw [← hL]
  have hne : ((L' : Int) != (L' : Int)) = false := by simp
  simp (disch := first | omega | (simp only [VH.n_push, VH.n_set]; done) | (simp only [VH.n_push, VH.n_set]; omega)) [-BitVec.toNat_or, -BitVec.toNat_xor, -BitVec.toNat_add, -BitVec.toNat_and, -BitVec.toNat_not, -BitVec.toNat_shiftLeft, -BitVec.toNat_ushiftRight, hva, hne]
  refine (ssum_ok s0'.read (by omega)).mono ?_
  rintro u g2 ⟨rfl, rfl⟩
  simp (disch := first | omega | (simp only [VH.n_push, VH.n_set]; done) | (simp only [VH.n_push, VH.n_set]; omega)) [-BitVec.toNat_or, -BitVec.toNat_xor, -BitVec.toNat_add, -BitVec.toNat_and, -BitVec.toNat_not, -BitVec.toNat_shiftLeft, -BitVec.toNat_ushiftRight]
  rw [← hva]
  refine (rsum_ok hb0 (by omega)).mono ?_
  rintro u g3 ⟨rfl, rfl⟩
  have hft := fits32 (shaS_len T)
  have hcb := cellsB_u8s (shaS T) (shaS T) rfl
  rw [beq_self_eq_true] at hcb
  simp (disch := first | omega | (simp only [VH.n_push, VH.n_set]; done) | (simp only [VH.n_push, VH.n_set]; omega)) [-BitVec.toNat_or, -BitVec.toNat_xor, -BitVec.toNat_add, -BitVec.toNat_and, -BitVec.toNat_not, -BitVec.toNat_shiftLeft, -BitVec.toNat_ushiftRight, digV, hft, hcb]
  refine (states_ok hb0 (by omega)).mono ?_
  rintro u g4 ⟨ho4, f4, id4⟩
  obtain ⟨k, hk⟩ : ∃ k, k = T.length / 64 := ⟨_, rfl⟩
  rw [← hk] at ho4
  obtain ⟨ua, uc, rfl⟩ := ho4.shapeN
  obtain ⟨g5, hg5⟩ : ∃ g5, g5 = (g4.push (.cells [.slice none 0 0] true 1)).set g4.n (.cells [.slice ua k uc] true 1) := ⟨_, rfl⟩
  have f5 : Fr g4 g5 [] := by rw [hg5]; exact Fr_set (Fr_push (Fr.refl _ _)) (Nat.le_refl _)
  have g5n : g5.n = g4.n + 1 := by rw [hg5]; rfl
  have g5o : g5.get g4.n = .cells [.slice ua k uc] true 1 := by rw [hg5, VH.get_set_same]
  obtain ⟨g6, hg6⟩ : ∃ g6, g6 = (g5.push (.cells [.int .i64 0] true 1)).set g5.n (.cells [.int .i64 0] true 1) := ⟨_, rfl⟩
  have f6 : Fr g5 g6 [] := by rw [hg6]; exact Fr_set (Fr_push (Fr.refl _ _)) (Nat.le_refl _)
  have g6n : g6.n = g5.n + 1 := by rw [hg6]; rfl
  have g6o : g6.get g5.n = .cells [.int .i64 0] true 1 := by rw [hg6, VH.get_set_same]
  simp (disch := first | omega | (simp only [VH.n_push, VH.n_set]; done) | (simp only [VH.n_push, VH.n_set]; omega)) [-BitVec.toNat_or, -BitVec.toNat_xor, -BitVec.toNat_add, -BitVec.toNat_and, -BitVec.toNat_not, -BitVec.toNat_shiftLeft, -BitVec.toNat_ushiftRight, st_sl, ← hg5, st_int, ← hg6]
  refine (blocks_ok (v := .pointer (some ⟨i, 0, none⟩)) rfl rfl).mono ?_
  rintro u g7 ⟨rfl, hg7⟩
  have f7 : Fr g6 g7 [] := by rw [hg7]; exact Fr_push (Fr.refl _ _)
  have g7n : g7.n = g6.n + 1 := by rw [hg7]; rfl
  have g7o : g7.get g6.n = .cells [.pointer (some ⟨i, 0, none⟩)] true 1 := by rw [hg7, VH.get_push_new]
  have n4 := f4.n
  have F07 : Fr h g7 [] := f0.trans (f4.trans (f5.trans (f6.trans f7)))
  have hilt := hs.lt
  simp (disch := first | omega | (simp only [VH.n_push, VH.n_set]; done) | (simp only [VH.n_push, VH.n_set]; omega)) [-BitVec.toNat_or, -BitVec.toNat_xor, -BitVec.toNat_add, -BitVec.toNat_and, -BitVec.toNat_not, -BitVec.toNat_shiftLeft, -BitVec.toNat_ushiftRight]
  refine pw_rangeF_rule (by simp only [ev_t, upd_apply, if_true]; rfl) (by kernel_rfl) (fun L hY => ?_)
  obtain ⟨H, hH⟩ : ∃ H, H = g7.push (.loop L .ready none) := ⟨_, rfl⟩
  have fH : Fr g7 H [] := by rw [hH]; exact Fr_push (Fr.refl _ _)
  have Hn : H.n = g7.n + 1 := by rw [hH]; rfl
  have Hy : H.get g7.n = .loop L .ready none := by rw [hH, VH.get_push_new]
  rw [← hH]
  have FH : Fr h H [] := F07.trans fH
  have sH := IsStm.fr0 hs FH
  have bH : H.get g6.n = .cells [.pointer (some ⟨i, 0, none⟩)] true 1 := (fH.get _ (by omega) (by simp)).trans g7o
  have iH : H.get g5.n = .cells [.int .i64 0] true 1 := ((f7.trans fH).get _ (by omega) (by simp)).trans g6o
  have lH : H.get g4.n = .cells [.slice ua k uc] true 1 := ((f6.trans (f7.trans fH)).get _ (by omega) (by simp)).trans g5o
  have rH : H.get h.n = .cells [.bool false] true 1 := ((f4.trans (f5.trans (f6.trans (f7.trans fH)))).get _ (by omega) (by simp)).trans g0o
  have oH : OwnSl H 8 (.slice ua k uc) (stCells (pastS T k)) k := ho4.fr (f5.trans (f6.trans (f7.trans fH))) (fun _ _ => by simp)
  have olt := ho4.lt
  have pastH := sH.past
  rw [← hk] at pastH
  have hplt := hs.past.lt
  have hobj := sH.obj
  refine PCalls.mono (seq_ok (y := g7.n) (bx := g6.n) (i := i) (k := k) (T := T) (pv := pv) (lv := lv)
    (fun n g => g.get g7.n = .loop L .ready none ∧ Fr H g [g5.n, g7.n] ∧ g.get g5.n = .cells [.int .i64 (n : Int)] true 1) (fun _ => False) ?_ ?_ ?_ (by omega) ?_) ?_
  · rintro n g' g'' ⟨b1, b2, b3⟩ hf
    have hn := b2.n
    exact ⟨(hf.get _ (by omega) (by simp)).trans b1, b2.trans (hf.sub (fun x hx => by simp at hx)), (hf.get _ (by omega) (by simp)).trans b3⟩
  · rintro n g' ⟨b1, b2, b3⟩
    have hn := b2.n
    refine ⟨by omega, by omega, ?_, ⟨foldB T (T.length / 64) begin0, T.length, true, ?_⟩, ?_⟩
    · rw [b2.get _ (by omega) (by simp; omega)]; exact bH
    · rw [b2.get _ (by omega) (by simp; omega)]; exact hobj
    · refine pastH.fr b2 (fun j hj hx => ?_)
      have h6 := hplt j hj
      simp at hx
      omega
  · exact ⟨Hy, Fr.refl _ _, iH⟩
  · rintro n g' hn' ⟨b1, b2, b3⟩
    refine hY _ _ g' none _ b1 rfl ?_
    show pw _ _ _ _ (kRound Try.prog _ g7.n L _)
    have hbl := blkB_len T n
    obtain ⟨D, hD⟩ : ∃ D, D = blkB T n := ⟨_, rfl⟩
    rw [← hD] at hbl ⊢
    have h1 := zst hbl
    have hn2 := b2.n
    obtain ⟨G1, hG1⟩ : ∃ G1, G1 = (g'.push (.cells [.int .u8 0, .int .u8 0, .int .u8 0, .int .u8 0, .int .u8 0, .int .u8 0, .int .u8 0, .int .u8 0, .int .u8 0, .int .u8 0, .int .u8 0, .int .u8 0, .int .u8 0, .int .u8 0, .int .u8 0, .int .u8 0, .int .u8 0, .int .u8 0, .int .u8 0, .int .u8 0, .int .u8 0, .int .u8 0, .int .u8 0, .int .u8 0, .int .u8 0, .int .u8 0, .int .u8 0, .int .u8 0, .int .u8 0, .int .u8 0, .int .u8 0, .int .u8 0] true 1)).set g'.n (.cells (u8s D) true 1) := ⟨_, rfl⟩
    have fG1 : Fr g' G1 [] := by rw [hG1]; exact Fr_set (Fr_push (Fr.refl _ _)) (Nat.le_refl _)
    have G1o : G1.get g'.n = .cells (u8s D) true 1 := by rw [hG1, VH.get_set_same]
    have G1n : G1.n = g'.n + 1 := by rw [hG1]; rfl
    simp (disch := first | omega | (simp only [VH.n_push, VH.n_set]; done) | (simp only [VH.n_push, VH.n_set]; omega)) [-BitVec.toNat_or, -BitVec.toNat_xor, -BitVec.toNat_add, -BitVec.toNat_and, -BitVec.toNat_not, -BitVec.toNat_shiftLeft, -BitVec.toNat_ushiftRight, putAll, h1, ← hG1]
    rw [kRound_normal]
    refine ⟨none, (fG1.get _ (by omega) (by simp)).trans b1, ?_⟩
    obtain ⟨G2, hG2⟩ : ∃ G2, G2 = G1.set g7.n (.loop L .busy none) := ⟨_, rfl⟩
    rw [← hG2]
    have fG2 : Fr G1 G2 [g7.n] := by rw [hG2]; exact Fr.set _ _ (by simp)
    have G2n : G2.n = g'.n + 1 := by rw [hG2]; exact G1n
    have G2y : G2.get g7.n = .loop L .busy none := by rw [hG2, VH.get_set_same]
    have G2o : G2.get g'.n = .cells (u8s D) true 1 := (fG2.get _ (by omega) (by simp; omega)).trans G1o
    have F12 : Fr H G2 [g5.n, g7.n] := (b2.trans (fG1.sub (fun x hx => by simp at hx))).trans (fG2.sub (fun x hx => by simp at hx; simp [hx]))
    have G2c : G2.get g4.n = .cells [.slice ua k uc] true 1 := (F12.get _ (by omega) (by simp; omega)).trans lH
    have G2i : G2.get g5.n = .cells [.int .i64 (n : Int)] true 1 := (fG2.get _ (by omega) (by simp; omega)).trans ((fG1.get _ (by omega) (by simp)).trans b3)
    have o2 := oH.fr F12 (fun j hj hx => by
      have h7 := olt j hj
      simp at hx
      omega)
    have hlp : (pastS T k).length = k := by simp [pastS]
    have o2' : OwnSl G2 8 (.slice ua k uc) (stCells (pastS T k)) (pastS T k).length := by rw [hlp]; exact o2
    obtain ⟨q, o, c, hv, hqld⟩ := own_st_at o2' (k := n) (by omega)
    rw [hlp] at hv
    injection hv with hv1 _ hv3
    subst hv1
    subst hv3
    have hst : (pastS T k)[n]'(by omega) = foldB T (n + 1) begin0 := by simp [pastS]
    rw [hst] at hqld
    have hld := dig_load (l := D) (ow := true) (e := 1) hbl
    have eW : IntKind.i64.wrap ((n : Int) + 1) = ((n + 1 : Nat) : Int) := by rw [i64_small (by omega) (by omega)]; omega
    have hltI : (n : Int) < (k : Int) := by omega
    have hgeI : ¬ (k : Int) ≤ (n : Int) := by omega
    obtain ⟨S, hS⟩ : ∃ S, S = foldB T (n + 1) begin0 := ⟨_, rfl⟩
    have hDS : bytesS S = D := by rw [hD, hS]; rfl
    rw [← hS] at hqld
    simp (disch := first | omega | (simp only [VH.n_push, VH.n_set]; done) | (simp only [VH.n_push, VH.n_set]; omega)) [-BitVec.toNat_or, -BitVec.toNat_xor, -BitVec.toNat_add, -BitVec.toNat_and, -BitVec.toNat_not, -BitVec.toNat_shiftLeft, -BitVec.toNat_ushiftRight, G2i, ld_one, G2c, G2o, hld, hltI, hn', hgeI, hqld]
    refine (rbytes_ok S G2).mono ?_
    rintro u g9 ⟨rfl, rfl⟩
    rw [hDS]
    have hft := fits32 hbl
    have hcb := cellsB_u8s D D rfl
    rw [beq_self_eq_true] at hcb
    simp (disch := first | omega | (simp only [VH.n_push, VH.n_set]; done) | (simp only [VH.n_push, VH.n_set]; omega)) [-BitVec.toNat_or, -BitVec.toNat_xor, -BitVec.toNat_add, -BitVec.toNat_and, -BitVec.toNat_not, -BitVec.toNat_shiftLeft, -BitVec.toNat_ushiftRight, G2o, hld, digV, hft, hcb, G2i, ld_one, eW, st_int]
    refine rndEnd_normal (pe := none) ((VH.get_set_ne _ _ (by omega)).trans G2y) ?_
    exact ⟨rfl, VH.get_set_same _ _ _, (F12.trans (Fr.set _ _ (by simp))).trans (Fr.set _ _ (by simp)), by rw [VH.get_set_ne _ _ (by omega), VH.get_set_same]⟩
  · rintro u g' (⟨b1, b2, b3⟩ | hF)
    · refine ⟨.ready, none, b1, by simp, ?_⟩
      show kBlock 0 _ _ _ _
      have hn3 := b2.n
      obtain ⟨K, hK⟩ : ∃ K, K = g'.set g7.n .dead := ⟨_, rfl⟩
      have fK : Fr g' K [g7.n] := by rw [hK]; exact Fr.set _ _ (by simp)
      have FK : Fr H K [g5.n, g7.n] := b2.trans (fK.sub (fun x hx => by simp at hx; simp [hx]))
      have Kn : K.n = g'.n := by rw [hK]; rfl
      have Kc : K.get g4.n = .cells [.slice ua k uc] true 1 := (FK.get _ (by omega) (by simp; omega)).trans lH
      have Kb : K.get g6.n = .cells [.pointer (some ⟨i, 0, none⟩)] true 1 := (FK.get _ (by omega) (by simp; omega)).trans bH
      have Ki : K.get g5.n = .cells [.int .i64 (k : Int)] true 1 := (fK.get _ (by omega) (by simp; omega)).trans b3
      have Kr : K.get h.n = .cells [.bool false] true 1 := (FK.get _ (by omega) (by simp; omega)).trans rH
      have Ko : K.get i = .cells (stmC (foldB T (T.length / 64) begin0) pv lv T.length) true 1 := (FK.get _ (by omega) (by simp; omega)).trans hobj
      have Kp : OwnSl K 8 pv (stCells (pastS T k)) k := pastH.fr FK (fun j hj hx => by
        have := hplt j hj
        simp at hx
        omega)
      have FhK : Fr h K [] := FH.trans' FK (fun y hy => .inr (by simp at hy; omega))
      simp (disch := first | omega | (simp only [VH.n_push, VH.n_set]; done) | (simp only [VH.n_push, VH.n_set]; omega)) [-BitVec.toNat_or, -BitVec.toNat_xor, -BitVec.toNat_add, -BitVec.toNat_and, -BitVec.toNat_not, -BitVec.toNat_shiftLeft, -BitVec.toNat_ushiftRight, ← hK]
      refine pw_rangeF_rule (by simp only [ev_t, upd_apply, if_true]; rfl) (by kernel_rfl) (fun L2 hY2 => ?_)
      obtain ⟨H2, hH2⟩ : ∃ H2, H2 = K.push (.loop L2 .ready none) := ⟨_, rfl⟩
      have fH2 : Fr K H2 [] := by rw [hH2]; exact Fr_push (Fr.refl _ _)
      have H2n : H2.n = K.n + 1 := by rw [hH2]; rfl
      have H2y : H2.get K.n = .loop L2 .ready none := by rw [hH2, VH.get_push_new]
      rw [← hH2]
      -- what follows
      refine PCalls.mono (seq_ok (y := K.n) (bx := g6.n) (i := i) (k := k) (T := T) (pv := pv) (lv := lv)
        (fun n g => n = 0 ∧ g.get K.n = .loop L2 .ready none ∧ Fr H2 g [K.n]) (fun g => g.get K.n = .loop L2 .done (some (.exit 2)) ∧ Fr H2 g [K.n]) ?_ ?_ ?_ (by omega) ?_) ?_
      · rintro n g1 g2 ⟨b0, b1, b2⟩ hf
        have hn := b2.n
        exact ⟨b0, (hf.get _ (by omega) (by simp)).trans b1, b2.trans (hf.sub (fun x hx => by simp at hx))⟩
      · rintro n g1 ⟨b0, b1, b2⟩
        have hn := b2.n
        refine ⟨by omega, by omega, ?_, ⟨foldB T (T.length / 64) begin0, T.length, true, ?_⟩, ?_⟩
        · rw [b2.get _ (by omega) (by simp; omega), fH2.get _ (by omega) (by simp)]; exact Kb
        · rw [b2.get _ (by omega) (by simp; omega), fH2.get _ (by omega) (by simp)]; exact Ko
        · refine (Kp.fr fH2 (fun _ _ => by simp)).fr b2 (fun j hj hx => ?_)
          have h6 := hplt j hj
          simp at hx
          omega
      · exact ⟨rfl, H2y, Fr.refl _ _⟩
      · rintro n g1 hn' ⟨b0, b1, b2⟩
        refine hY2 _ _ g1 none _ b1 rfl ?_
        show pw _ _ _ _ (kRound Try.prog _ K.n L2 _)
        simp (disch := first | omega | (simp only [VH.n_push, VH.n_set]; done) | (simp only [VH.n_push, VH.n_set]; omega)) [-BitVec.toNat_or, -BitVec.toNat_xor, -BitVec.toNat_add, -BitVec.toNat_and, -BitVec.toNat_not, -BitVec.toNat_shiftLeft, -BitVec.toNat_ushiftRight]
        rw [kRound_normal]
        refine ⟨none, b1, ?_⟩
        simp (disch := first | omega | (simp only [VH.n_push, VH.n_set]; done) | (simp only [VH.n_push, VH.n_set]; omega)) [-BitVec.toNat_or, -BitVec.toNat_xor, -BitVec.toNat_add, -BitVec.toNat_and, -BitVec.toNat_not, -BitVec.toNat_shiftLeft, -BitVec.toNat_ushiftRight]
        refine rndEnd_exit (pe := none) (VH.get_set_same _ _ _) ?_
        rw [VH.set_set]
        exact ⟨rfl, VH.get_set_same _ _ _, b2.trans (Fr.set _ _ (i := K.n) (by simp))⟩
      · have fin : ∀ g', Fr H2 g' [K.n] → Fr K (g'.set K.n .dead) [] := fun g' b2 => (fH2.trans' b2 (fun y hy => .inr (by simp at hy; omega))).trans' (Fr.set _ _ (X := [K.n]) (by simp)) (fun y hy => .inr (by simp at hy; omega))
        have e1 : (k : Int) = (k : Int) := rfl
        rintro u g' (⟨b0, b1, b2⟩ | ⟨b1, b2⟩)
        · have fK3 := fin g' b2
          refine ⟨.ready, none, b1, by simp, ?_⟩
          show kBlock 2 _ _ _ _
          obtain ⟨K3, hK3⟩ : ∃ K3, K3 = g'.set K.n .dead := ⟨_, rfl⟩
          rw [← hK3] at fK3
          have c1 : K3.get g4.n = .cells [.slice ua k uc] true 1 := (fK3.get _ (by omega) (by simp)).trans Kc
          have c2 : K3.get g5.n = .cells [.int .i64 (k : Int)] true 1 := (fK3.get _ (by omega) (by simp)).trans Ki
          have c3 : K3.get h.n = .cells [.bool false] true 1 := (fK3.get _ (by omega) (by simp)).trans Kr
          simp (disch := first | omega | (simp only [VH.n_push, VH.n_set]; done) | (simp only [VH.n_push, VH.n_set]; omega)) [-BitVec.toNat_or, -BitVec.toNat_xor, -BitVec.toNat_add, -BitVec.toNat_and, -BitVec.toNat_not, -BitVec.toNat_shiftLeft, -BitVec.toNat_ushiftRight, r_law03_alike, ← hK3, c1, c2, c3, ld_one, st_bool, ld_bool, ret_r, loadAt_obj]
          exact Fr_set (FhK.trans fK3) (Nat.le_refl _)
        · have fK3 := fin g' b2
          refine ⟨.done, some (.exit 2), b1, by simp, ?_⟩
          show kBlock 2 _ _ _ _
          obtain ⟨K3, hK3⟩ : ∃ K3, K3 = g'.set K.n .dead := ⟨_, rfl⟩
          rw [← hK3] at fK3
          have c1 : K3.get g4.n = .cells [.slice ua k uc] true 1 := (fK3.get _ (by omega) (by simp)).trans Kc
          have c2 : K3.get g5.n = .cells [.int .i64 (k : Int)] true 1 := (fK3.get _ (by omega) (by simp)).trans Ki
          have c3 : K3.get h.n = .cells [.bool false] true 1 := (fK3.get _ (by omega) (by simp)).trans Kr
          simp (disch := first | omega | (simp only [VH.n_push, VH.n_set]; done) | (simp only [VH.n_push, VH.n_set]; omega)) [-BitVec.toNat_or, -BitVec.toNat_xor, -BitVec.toNat_add, -BitVec.toNat_and, -BitVec.toNat_not, -BitVec.toNat_shiftLeft, -BitVec.toNat_ushiftRight, r_law03_alike, ← hK3, c1, c2, c3, ld_one, st_bool, ld_bool, ret_r, loadAt_obj]
          exact Fr_set (FhK.trans fK3) (Nat.le_refl _)
    · exact hF.elim
end Go.Proofs.Ytadkbkkfpajghaa.Sha
