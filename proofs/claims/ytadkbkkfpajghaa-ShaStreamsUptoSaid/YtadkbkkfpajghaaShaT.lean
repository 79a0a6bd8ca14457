/- SHA-256, part T: the blocks of a stream, one by one; the law of whole blocks. -/
import Derived.Test.YtadkbkkfpajghaaShaM
import Derived.Test.YtadkbkkfpajghaaPmSa
set_option linter.unusedVariables false
set_option linter.unusedSimpArgs false
set_option maxRecDepth 100000
namespace Go.Proofs.Ytadkbkkfpajghaa.Sha
open Go Go.RowKit Go.Proofs.Ytadkbkkfpajghaa.Pm Go.Proofs.Ytadkbkkfpajghaa.Fs
attribute [local simp] pw_skip pw_ops pw_quiet pw_seq pw_cond pw_block pw_exit pw_ret pw_scope pw_label kSeq_normal kSeq_ret kSeq_exit kBlock_normal kBlock_ret kBlock_exit kScope_normal kScope_ret kScope_exit kLoop_normal kLoop_ret kLoop_exit kCond_true kCond_false kCond_dec pwOps_nil pwOps_call pwOps_guard kStep_some kCall_at pwQ_nil pwQ_call pwQ_guard kQ_some putS_some putS_none upd_apply ev_t ev_k isB_bool isB_undef s0_apply pstep pwO_mov pwO_pick pwO_nilck pwO_bin pwO_binB pwO_eqNil pwO_un pwO_convI pwO_convS pwO_alloc pwO_build pwO_load pwO_store pwO_fieldAddr pwO_field pwO_idxS pwO_idxA pwO_idxV pwO_strAt pwO_lenStr pwO_lenS pwO_lenC pwO_slS pwO_slA pwO_slStr pwO_extract pwO_mkFunc pwO_mkIface pwO_append pwO_appendStr pwO_toBytes pwO_ofB pwO_box pwO_row pwO_minmax pwO_eqV pwO_sameB pwR_mov pwR_pick pwR_nilck pwR_bin pwR_binB pwR_eqNil pwR_un pwR_convI pwR_convS pwR_build pwR_load pwR_fieldAddr pwR_field pwR_idxS pwR_idxA pwR_idxV pwR_strAt pwR_lenStr pwR_lenS pwR_lenC pwR_slS pwR_slA pwR_slStr pwR_extract pwR_mkFunc pwR_mkIface pwR_ofB pwR_minmax pwR_eqV ret_r ret_n kRet_some resV0 resV1 resV2 resV3 resV4 VH.get_push_new VH.get_set_same VH.n_push VH.n_set cellsL_agg cellsL_int cellsL_bool cellsL_string cellsL_slice cellsL_pointer cellsL_map pw_draw pwD_nil pwD_cons kD_nil kD_cons evalOK_plain evalOK_guard kEv_some dstIs_some dstIs_none pw_goto pw_scopeL kSeq_goto kBlock_goto kLoop_goto kScopeL_normal kScopeL_ret kScopeL_exit kScopeL_goto pwOps_callv kCallv_fn kCallv_yld pwOps_nextM pwO_makeMap pwO_lookup pwR_lookup pwO_mapSet pwO_mapDel pwO_lenM pwR_lenM pwO_mapEntry pwO_entrySet pwO_rangeS pwO_nextS pwO_rangeM pwO_entryM pwR_entryM pwO_copyV pwO_makeSl pwO_asrt pwR_asrt kStep_if kStep_dif kQ_if kQ_dif kEv_if bound_none bound_some toNat_add' toNat_sub' toNat_mul' kLoopN_normal kLoopN_ret kLoopN_exit kLoopN_goto Option.map_some Option.map_none loadAt_obj storeAt_obj rowOf_obj eszIs_obj eszObj_cells loadObj_tab storeObj_tab_int VH.get_set_ne VH.get_push_lt VH.set_set tab_length List.getElem?_cons_zero List.getElem?_cons_succ List.length_cons List.length_nil oneC_int oneC_bool oneC_string oneC_slice oneC_pointer oneC_map srcCells_at srcCells_nil VH.get_push_at isNilV pw_drawT pwT_nil pwT_step pwT_alt kT_nil kT_cons pun pbinS pbin pbinI i64_small IntKind.bits resV resL resOne

theorem pw_rangeF_rule {P : Program} {fr : Ref} {ps : List Nat} {a b : PC} {s : Slots} {h : VH} {Q : Exit → Slots → VH → Prop} {g : FuncId} {first cap : Array Value} (hf : ev s fr = .func (.func g) first cap) (hi : isFn P g = true)
    (hc : ∀ L : LoopKey, (∀ (i : Nat) (args : List Value) (h1 : VH) (pe : Option Code) (R : Value → VH → Prop), h1.get i = .loop L .ready pe → args.length = ps.length →
        pw P a (putAll s ps args) h1 (fun e s2 h2 => match e with
          | .normal => ∃ pe2, h2.get i = .loop L .ready pe2 ∧ pw P b s2 (h2.set i (.loop L .busy pe2)) (rndEnd i L R)
          | _ => False) → PYield P i args h1 R) →
      PCalls P g (first.toList ++ [.func (.yield h.n) #[] #[]] ++ cap.toList) (h.push (.loop L .ready none)) (rngEnd h.n L s Q)) : pw P (.rangeF fr ps a b) s h Q :=
  ⟨g, first, cap, hf, hi, fun L _ _ hy => hc L hy⟩
/-- a round that has begun. -/
def kRound (P : Program) (b : PC) (i : Nat) (L : LoopKey) (R : Value → VH → Prop) : Exit → Slots → VH → Prop := fun e s2 h2 => match e with
  | .normal => ∃ pe2, h2.get i = .loop L .ready pe2 ∧ pw P b s2 (h2.set i (.loop L .busy pe2)) (rndEnd i L R)
  | _ => False
theorem kRound_normal {P : Program} {b : PC} {i : Nat} {L : LoopKey} {R : Value → VH → Prop} {s : Slots} {h : VH} : kRound P b i L R .normal s h = ∃ pe2, h.get i = .loop L .ready pe2 ∧ pw P b s (h.set i (.loop L .busy pe2)) (rndEnd i L R) := Eq.trans rfl rfl
theorem rndEnd_normal {i : Nat} {L : LoopKey} {R : Value → VH → Prop} {s : Slots} {h : VH} {pe : Option Code} (hg : h.get i = .loop L .busy pe) (hR : R (.bool true) (h.set i (.loop L .ready none))) : rndEnd i L R .normal s h := ⟨⟨pe, hg⟩, hR⟩
theorem rndEnd_exit {i id : Nat} {L : LoopKey} {R : Value → VH → Prop} {s : Slots} {h : VH} {pe : Option Code} (hg : h.get i = .loop L .busy pe) (hR : R (.bool false) (h.set i (.loop L .done (some (.exit id))))) : rndEnd i L R (.exit id) s h := ⟨⟨pe, hg⟩, hR⟩

/-- the digest-like bytes of the state behind block n of a text. -/
def blkB (T : List UInt8) (n : Nat) : List UInt8 := bytesS (foldB T (n + 1) begin0)
theorem blkB_len (T : List UInt8) (n : Nat) : (blkB T n).length = 32 := bytesS_len _

theorem blocks_ok {h : VH} {v : Value} (hv : cellsL v = [v]) (h1 : v.oneCell' = true) : PCalls Try.prog f_sha_Stream_Blocks [v] h (fun u h' => u = .func (.func f_sha_Stream_Blocks_1) #[] #[.pointer (some ⟨h.n, 0, none⟩)] ∧ h' = h.push (.cells [v] true 1)) := by
  refine PCalls_of_pw st_sha_Stream_Blocks (by simp [n_sha_Stream_Blocks]) ?_
  rw [b_sha_Stream_Blocks]
  simp (disch := first | omega | (simp only [VH.n_push, VH.n_set]; done) | (simp only [VH.n_push, VH.n_set]; omega)) [-BitVec.toNat_or, -BitVec.toNat_xor, -BitVec.toNat_add, -BitVec.toNat_and, -BitVec.toNat_not, -BitVec.toNat_shiftLeft, -BitVec.toNat_ushiftRight, r_sha_Stream_Blocks, B_sha_Stream_Blocks, hv, h1]

/-- the stream's blocks are yielded one by one, as long as that is wished. -/
theorem seq_ok {y bx i k : Nat} {T : List UInt8} {pv lv : Value} (J : Nat → VH → Prop) (R : VH → Prop) {h : VH}
    (hJ : ∀ n g g', J n g → Fr g g' [] → J n g')
    (hK : ∀ n g, J n g → bx < g.n ∧ i < g.n ∧ g.get bx = .cells [.pointer (some ⟨i, 0, none⟩)] true 1 ∧ (∃ st m ow, g.get i = .cells (stmC st pv lv m) ow 1) ∧ OwnSl g 8 pv (stCells (pastS T k)) k)
    (h0 : J 0 h) (hk : k ≤ 1000000000)
    (hY : ∀ n g, n < k → J n g → PYield Try.prog y [digV (blkB T n)] g (fun u g' => (u = .bool true ∧ J (n + 1) g') ∨ (u = .bool false ∧ R g'))) :
    PCalls Try.prog f_sha_Stream_Blocks_1 [.func (.yield y) #[] #[], .pointer (some ⟨bx, 0, none⟩)] h (fun u g => J k g ∨ R g) := by
  refine PCalls_of_pw st_sha_Stream_Blocks_1 (by simp [n_sha_Stream_Blocks_1]) ?_
  rw [b_sha_Stream_Blocks_1]
  obtain ⟨hbx, hi, hb, ⟨st, m, ow, hs⟩, ho⟩ := hK 0 h h0
  have l1 : loadObj (.cells [.pointer (some ⟨i, 0, none⟩)] true 1) 0 none = some (.pointer (some ⟨i, 0, none⟩)) := rfl
  have l2 : loadObj (.cells (stmC st pv lv m) ow 1) 8 none = some pv := rfl
  obtain ⟨pa, pc, hpv⟩ := ho.shapeN
  subst hpv
  simp (disch := first | omega | (simp only [VH.n_push, VH.n_set]; done) | (simp only [VH.n_push, VH.n_set]; omega)) [-BitVec.toNat_or, -BitVec.toNat_xor, -BitVec.toNat_add, -BitVec.toNat_and, -BitVec.toNat_not, -BitVec.toNat_shiftLeft, -BitVec.toNat_ushiftRight, B_sha_Stream_Blocks_1, hb, l1, hs, l2]
  refine pw_loopN (fun n s g => J n g ∧ s 0 = .func (.yield y) #[] #[] ∧ s 10 = .slice pa k pc ∧ s 11 = .int .i64 (k : Int) ∧ s 12 = .int .i64 (n : Int)) k ?_ ?_
  · exact ⟨h0, by simp [upd_apply, s0_apply], by simp [upd_apply, s0_apply], by simp [upd_apply, s0_apply], by simp [upd_apply, s0_apply]⟩
  rintro n s g hn ⟨hj, e0, e10, e11, e12⟩
  by_cases hlt : n < k
  · have hltI : (n : Int) < (k : Int) := by omega
    obtain ⟨hbx, hi, hb, ⟨st, m, ow, hs⟩, ho⟩ := hK n g hj
    have hlp : (pastS T k).length = k := by simp [pastS]
    have ho' : OwnSl g 8 (.slice pa k pc) (stCells (pastS T k)) (pastS T k).length := by rw [hlp]; exact ho
    obtain ⟨q, o, c, hv, hld⟩ := own_st_at ho' (k := n) (by omega)
    rw [hlp] at hv
    injection hv with hv1 _ hv3
    subst hv1
    subst hv3
    have hst : (pastS T k)[n]'(by omega) = foldB T (n + 1) begin0 := by simp [pastS]
    rw [hst] at hld
    obtain ⟨S, hS⟩ : ∃ S, S = foldB T (n + 1) begin0 := ⟨_, rfl⟩
    rw [← hS] at hld
    have eW : IntKind.i64.wrap ((n : Int) + 1) = ((n + 1 : Nat) : Int) := by rw [i64_small (by omega) (by omega)]; omega
    obtain ⟨g1, hg1⟩ : ∃ g1, g1 = (g.push (.cells [.int .u32 0, .int .u32 0, .int .u32 0, .int .u32 0, .int .u32 0, .int .u32 0, .int .u32 0, .int .u32 0] true 1)).set g.n (.cells (u32s S.list) true 1) := ⟨_, rfl⟩
    have hf1 : Fr g g1 [] := by rw [hg1]; exact Fr_set (Fr_push (Fr.refl _ _)) (Nat.le_refl _)
    have hg1o : g1.get g.n = .cells (u32s S.list) true 1 := by rw [hg1, VH.get_set_same]
    simp (disch := first | omega | (simp only [VH.n_push, VH.n_set]; done) | (simp only [VH.n_push, VH.n_set]; omega)) [-BitVec.toNat_or, -BitVec.toNat_xor, -BitVec.toNat_add, -BitVec.toNat_and, -BitVec.toNat_not, -BitVec.toNat_shiftLeft, -BitVec.toNat_ushiftRight, e0, e10, e11, e12, hltI, hlt, hld, hs8, ← hg1, hg1o, hl8]
    refine (bytes_ok S g1).mono ?_
    rintro u g2 ⟨rfl, rfl⟩
    have hj1 := hJ n g g2 hj hf1
    simp (disch := first | omega | (simp only [VH.n_push, VH.n_set]; done) | (simp only [VH.n_push, VH.n_set]; omega)) [-BitVec.toNat_or, -BitVec.toNat_xor, -BitVec.toNat_add, -BitVec.toNat_and, -BitVec.toNat_not, -BitVec.toNat_shiftLeft, -BitVec.toNat_ushiftRight]
    refine PYield.mono (by rw [hS]; exact hY n g2 hlt hj1) ?_
    rintro u g3 (⟨rfl, hj3⟩ | ⟨rfl, hr⟩)
    · simp (disch := first | omega | (simp only [VH.n_push, VH.n_set]; done) | (simp only [VH.n_push, VH.n_set]; omega)) [-BitVec.toNat_or, -BitVec.toNat_xor, -BitVec.toNat_add, -BitVec.toNat_and, -BitVec.toNat_not, -BitVec.toNat_shiftLeft, -BitVec.toNat_ushiftRight, e0, e10, e11, e12, eW]
      exact ⟨hlt, hj3⟩
    · simp (disch := first | omega | (simp only [VH.n_push, VH.n_set]; done) | (simp only [VH.n_push, VH.n_set]; omega)) [-BitVec.toNat_or, -BitVec.toNat_xor, -BitVec.toNat_add, -BitVec.toNat_and, -BitVec.toNat_not, -BitVec.toNat_shiftLeft, -BitVec.toNat_ushiftRight, r_sha_Stream_Blocks_1]
      exact .inr hr
  · obtain rfl : n = k := by omega
    simp (disch := first | omega | (simp only [VH.n_push, VH.n_set]; done) | (simp only [VH.n_push, VH.n_set]; omega)) [-BitVec.toNat_or, -BitVec.toNat_xor, -BitVec.toNat_add, -BitVec.toNat_and, -BitVec.toNat_not, -BitVec.toNat_shiftLeft, -BitVec.toNat_ushiftRight, r_sha_Stream_Blocks_1, e0, e10, e11, e12]
    exact .inl hj
end Go.Proofs.Ytadkbkkfpajghaa.Sha
