/- SHA-256, part X: streams begun anew, copied; the law of bytes in any pieces. -/
import Derived.Test.YtadkbkkfpajghaaShaW
set_option linter.unusedVariables false
set_option linter.unusedSimpArgs false
set_option maxRecDepth 100000
namespace Go.Proofs.Ytadkbkkfpajghaa.Sha
open Go Go.RowKit Go.Proofs.Ytadkbkkfpajghaa.Pm Go.Proofs.Ytadkbkkfpajghaa.Fs
attribute [local simp] pw_skip pw_ops pw_quiet pw_seq pw_cond pw_block pw_exit pw_ret pw_scope pw_label kSeq_normal kSeq_ret kSeq_exit kBlock_normal kBlock_ret kBlock_exit kScope_normal kScope_ret kScope_exit kLoop_normal kLoop_ret kLoop_exit kCond_true kCond_false kCond_dec pwOps_nil pwOps_call pwOps_guard kStep_some kCall_at pwQ_nil pwQ_call pwQ_guard kQ_some putS_some putS_none upd_apply ev_t ev_k isB_bool isB_undef s0_apply pstep pwO_mov pwO_pick pwO_nilck pwO_bin pwO_binB pwO_eqNil pwO_un pwO_convI pwO_convS pwO_alloc pwO_build pwO_load pwO_store pwO_fieldAddr pwO_field pwO_idxS pwO_idxA pwO_idxV pwO_strAt pwO_lenStr pwO_lenS pwO_lenC pwO_slS pwO_slA pwO_slStr pwO_extract pwO_mkFunc pwO_mkIface pwO_append pwO_appendStr pwO_toBytes pwO_ofB pwO_box pwO_row pwO_minmax pwO_eqV pwO_sameB pwR_mov pwR_pick pwR_nilck pwR_bin pwR_binB pwR_eqNil pwR_un pwR_convI pwR_convS pwR_build pwR_load pwR_fieldAddr pwR_field pwR_idxS pwR_idxA pwR_idxV pwR_strAt pwR_lenStr pwR_lenS pwR_lenC pwR_slS pwR_slA pwR_slStr pwR_extract pwR_mkFunc pwR_mkIface pwR_ofB pwR_minmax pwR_eqV ret_r ret_n kRet_some resV0 resV1 resV2 resV3 resV4 VH.get_push_new VH.get_set_same VH.n_push VH.n_set cellsL_agg cellsL_int cellsL_bool cellsL_string cellsL_slice cellsL_pointer cellsL_map pw_draw pwD_nil pwD_cons kD_nil kD_cons evalOK_plain evalOK_guard kEv_some dstIs_some dstIs_none pw_goto pw_scopeL kSeq_goto kBlock_goto kLoop_goto kScopeL_normal kScopeL_ret kScopeL_exit kScopeL_goto pwOps_callv kCallv_fn kCallv_yld pwOps_nextM pwO_makeMap pwO_lookup pwR_lookup pwO_mapSet pwO_mapDel pwO_lenM pwR_lenM pwO_mapEntry pwO_entrySet pwO_rangeS pwO_nextS pwO_rangeM pwO_entryM pwR_entryM pwO_copyV pwO_makeSl pwO_asrt pwR_asrt kStep_if kStep_dif kQ_if kQ_dif kEv_if bound_none bound_some toNat_add' toNat_sub' toNat_mul' kLoopN_normal kLoopN_ret kLoopN_exit kLoopN_goto Option.map_some Option.map_none loadAt_obj storeAt_obj rowOf_obj eszIs_obj eszObj_cells loadObj_tab storeObj_tab_int VH.get_set_ne VH.get_push_lt VH.set_set tab_length List.getElem?_cons_zero List.getElem?_cons_succ List.length_cons List.length_nil oneC_int oneC_bool oneC_string oneC_slice oneC_pointer oneC_map srcCells_at srcCells_nil VH.get_push_at isNilV pw_drawT pwT_nil pwT_step pwT_alt kT_nil kT_cons pun pbinS pbin pbinI i64_small IntKind.bits resV resL resOne

theorem stm_len (s : St) (pv lv : Value) (n : Nat) : (stmC s pv lv n).length = 11 := rfl
theorem stm_ld11 {s : St} {pv lv : Value} {n : Nat} {ow : Bool} {e : Nat} : loadObj (.cells (stmC s pv lv n) ow e) 0 (some 11) = some (.agg (stmC s pv lv n).toArray) := rfl
theorem stm_st11 {s s' : St} {pv lv : Value} {n : Nat} {a : Option Addr} {b c : Nat} {p : Option Addr} {q r m : Nat} {cs : List Value} (h : cs.length = 11) : storeObj (.cells cs true 1) 0 11 (.agg (stmC s' (.slice a b c) (.slice p q r) m).toArray) = some (.cells (stmC s' (.slice a b c) (.slice p q r) m) true 1) :=
  storeObj_all rfl h (by simp [stmC, u32s, Value.oneCell'])
theorem reset_ok {h : VH} {i : Nat} {T : List UInt8} {pv lv : Value} (hs : IsStm h i T pv lv) :
    PCalls Try.prog f_sha_Stream_Reset [.pointer (some ⟨i, 0, none⟩)] h (fun _ h' => IsStm h' i [] (.slice none 0 0) (.slice none 0 0) ∧ Fr h h' [i]) := by
  refine PCalls_of_pw st_sha_Stream_Reset (by simp [n_sha_Stream_Reset]) ?_
  rw [b_sha_Stream_Reset]
  have ho := hs.obj
  have hl := hs.lt
  obtain ⟨L, hL⟩ : ∃ L, L = T.length := ⟨_, rfl⟩
  rw [← hL] at ho
  simp (disch := first | omega | (simp only [VH.n_push, VH.n_set]; done) | (simp only [VH.n_push, VH.n_set]; omega)) [-BitVec.toNat_or, -BitVec.toNat_xor, -BitVec.toNat_add, -BitVec.toNat_and, -BitVec.toNat_not, -BitVec.toNat_shiftLeft, -BitVec.toNat_ushiftRight, B_sha_Stream_Reset]
  refine (begin_ok h).mono ?_
  rintro u g ⟨rfl, rfl⟩
  have hf : fillC [.int .u32 0, .int .u32 0, .int .u32 0, .int .u32 0, .int .u32 0, .int .u32 0, .int .u32 0, .int .u32 0, .slice none 0 0, .slice none 0 0, .int .i64 0] [(0, 8, begin0.val)] = some (stmC begin0 (.slice none 0 0) (.slice none 0 0) 0) := rfl
  have hst := stm_st11 (s' := begin0) (a := none) (b := 0) (c := 0) (p := none) (q := 0) (r := 0) (m := 0) (s := begin0) (pv := .slice none 0 0) (lv := .slice none 0 0) (n := 0) (cs := stmC (foldB T (T.length / 64) begin0) pv lv L) rfl
  rw [← hL] at hst
  simp (disch := first | omega | (simp only [VH.n_push, VH.n_set]; done) | (simp only [VH.n_push, VH.n_set]; omega)) [-BitVec.toNat_or, -BitVec.toNat_xor, -BitVec.toNat_add, -BitVec.toNat_and, -BitVec.toNat_not, -BitVec.toNat_shiftLeft, -BitVec.toNat_ushiftRight, r_sha_Stream_Reset, hf, ho, hst]
  exact ⟨⟨VH.get_set_same _ _ _, hl, by simp, OwnSl.nil _ _, OwnSl.nil _ _, by simp [idOf], by simp [idOf], by simp [idOf]⟩, Fr.set _ _ (by simp)⟩
set_option maxHeartbeats 2000000 in
theorem copy_ok {h : VH} {i : Nat} {T : List UInt8} {pv lv : Value} (hs : IsStm h i T pv lv) (hlen : T.length ≤ 100000000) :
    PCalls Try.prog f_sha_Stream_Copy [.pointer (some ⟨i, 0, none⟩)] h (fun u h' => u = .pointer (some ⟨h.n, 0, none⟩) ∧ ∃ pv' lv', IsStm h' h.n T pv' lv' ∧ Fr h h' [] ∧ ∀ j ∈ fpS h.n pv' lv', h.n ≤ j) := by
  refine PCalls_of_pw st_sha_Stream_Copy (by simp [n_sha_Stream_Copy]) ?_
  rw [b_sha_Stream_Copy]
  have ho := hs.obj
  have hl := hs.lt
  have hp := hs.past
  have hlf := hs.left
  obtain ⟨L, hL⟩ : ∃ L, L = T.length := ⟨_, rfl⟩
  obtain ⟨k, hk⟩ : ∃ k, k = L / 64 := ⟨_, rfl⟩
  obtain ⟨S, hS⟩ : ∃ S, S = foldB T k begin0 := ⟨_, rfl⟩
  rw [← hL, ← hk, ← hS] at ho
  rw [← hL, ← hk] at hp
  rw [← hL, ← hk] at hlf
  obtain ⟨pa, pc, rfl⟩ := hp.shapeN
  obtain ⟨la, lc, rfl⟩ := hlf.shapeN
  obtain ⟨Q, hQ⟩ : ∃ Q, Q = L - 64 * k := ⟨_, rfl⟩
  rw [← hQ] at ho hlf
  have hf0 : storeObj (.cells [.int .u32 0, .int .u32 0, .int .u32 0, .int .u32 0, .int .u32 0, .int .u32 0, .int .u32 0, .int .u32 0, .slice none 0 0, .slice none 0 0, .int .i64 0] true 1) 0 11 (.agg (stmC S (.slice pa k pc) (.slice la Q lc) L).toArray) = some (.cells (stmC S (.slice pa k pc) (.slice la Q lc) L) true 1) :=
    stm_st11 (s := S) (pv := .slice none 0 0) (lv := .slice none 0 0) (n := 0) rfl
  obtain ⟨g1, hg1⟩ : ∃ g1, g1 = (h.push (.cells [.int .u32 0, .int .u32 0, .int .u32 0, .int .u32 0, .int .u32 0, .int .u32 0, .int .u32 0, .int .u32 0, .slice none 0 0, .slice none 0 0, .int .i64 0] true 1)).set h.n (.cells (stmC S (.slice pa k pc) (.slice la Q lc) L) true 1) := ⟨_, rfl⟩
  have f1 : Fr h g1 [] := by rw [hg1]; exact Fr_set (Fr_push (Fr.refl _ _)) (Nat.le_refl _)
  have g1n : g1.n = h.n + 1 := by rw [hg1]; rfl
  have g1o : g1.get h.n = .cells (stmC S (.slice pa k pc) (.slice la Q lc) L) true 1 := by rw [hg1, VH.get_set_same]
  have g1i : g1.get i = .cells (stmC S (.slice pa k pc) (.slice la Q lc) L) true 1 := (f1.get _ hl (by simp)).trans ho
  have sp := (hp.fr f1 (fun _ _ => by simp)).src
  obtain ⟨wp, g2, hap2, o2, f2, id2⟩ := (OwnSl.nil g1 8).append (bytes := 32) (ys := stCells (pastS T k)) (k := k) (by rw [stCells_len]; simp [pastS]) (by omega)
  rw [List.nil_append] at o2
  obtain ⟨xa, xc, hwp⟩ := o2.shapeN
  rw [Nat.zero_add] at o2 hwp
  subst hwp
  have f2 : Fr g1 g2 [] := f2.sub (fun x hx => by simp [idOf] at hx)
  have g2o : g2.get h.n = .cells (stmC S (.slice pa k pc) (.slice la Q lc) L) true 1 := (f2.get _ (by omega) (by simp)).trans g1o
  obtain ⟨g3, hg3⟩ : ∃ g3, g3 = g2.set h.n (.cells (stmC S (.slice xa k xc) (.slice la Q lc) L) true 1) := ⟨_, rfl⟩
  have f3 : Fr h g3 [] := by rw [hg3]; exact Fr_set (f1.trans f2) (Nat.le_refl _)
  have g3n : g3.n = g2.n := by rw [hg3]; rfl
  have g3o : g3.get h.n = .cells (stmC S (.slice xa k xc) (.slice la Q lc) L) true 1 := by rw [hg3, VH.get_set_same]
  have g3i : g3.get i = .cells (stmC S (.slice pa k pc) (.slice la Q lc) L) true 1 := (f3.get _ hl (by simp)).trans ho
  have sl := (hlf.fr f3 (fun _ _ => by simp)).src
  obtain ⟨wl, g4, hap4, o4, f4, id4⟩ := (OwnSl.nil g3 1).append (bytes := 1) (ys := u8s (T.drop (64 * k))) (k := Q) (by simp; omega) (by omega)
  rw [List.nil_append] at o4
  obtain ⟨ya, yc, hwl⟩ := o4.shapeN
  rw [Nat.zero_add] at o4 hwl
  subst hwl
  have f4 : Fr g3 g4 [] := f4.sub (fun x hx => by simp [idOf] at hx)
  have n2 := f2.n
  have n4 := f4.n
  have g4o : g4.get h.n = .cells (stmC S (.slice xa k xc) (.slice la Q lc) L) true 1 := (f4.get _ (by omega) (by simp)).trans g3o
  simp (disch := first | omega | (simp only [VH.n_push, VH.n_set]; done) | (simp only [VH.n_push, VH.n_set]; omega)) [-BitVec.toNat_or, -BitVec.toNat_xor, -BitVec.toNat_add, -BitVec.toNat_and, -BitVec.toNat_not, -BitVec.toNat_shiftLeft, -BitVec.toNat_ushiftRight, r_sha_Stream_Copy, B_sha_Stream_Copy, ho, stm_ld11, hf0, ← hg1, g1i, g1o, stm_ld8, stm_ld9, sp, hap2, g2o, stm_st8, ← hg3, g3i, g3o, sl, hap4, g4o, stm_st9]
  have i2 : ∀ j ∈ idOf (.slice xa k xc), g1.n ≤ j := fun j hj => by
    rcases id2 j hj with h5 | h5
    · simp [idOf] at h5
    · exact h5
  have i4 : ∀ j ∈ idOf (.slice ya Q yc), g3.n ≤ j := fun j hj => by
    rcases id4 j hj with h5 | h5
    · simp [idOf] at h5
    · exact h5
  have l2 := o2.lt
  have fS : Fr g4 (g4.set h.n (.cells (stmC S (.slice xa k xc) (.slice ya Q yc) L) true 1)) [h.n] := Fr.set _ _ (by simp)
  refine ⟨.slice xa k xc, .slice ya Q yc, ⟨?_, by simp; omega, by omega, ?_, ?_, fun hx => ?_, fun hx => ?_, fun j hj hx => ?_⟩, Fr_set (f3.trans f4) (Nat.le_refl _), fun j hj => ?_⟩
  · rw [← hL, ← hk, ← hS]; exact VH.get_set_same _ _ _
  · rw [← hL, ← hk]
    refine ((o2.fr (X := [h.n]) (by rw [hg3]; exact Fr.set _ _ (by simp)) (fun j hj hx => by have := i2 j hj; simp at hx; omega)).fr f4 (fun _ _ => by simp)).fr fS (fun j hj hx => by have := i2 j hj; simp at hx; omega)
  · rw [← hL, ← hk, ← hQ]
    exact o4.fr fS (fun j hj hx => by have := i4 j hj; simp at hx; omega)
  · have := i2 _ hx; omega
  · have := i4 _ hx; omega
  · have := l2 j hj; have := i4 j hx; omega
  · rcases List.mem_cons.1 hj with rfl | hj
    · exact Nat.le_refl _
    · rcases List.mem_append.1 hj with hj | hj
      · have := i2 j hj; omega
      · have := i4 j hj; omega
end Go.Proofs.Ytadkbkkfpajghaa.Sha
