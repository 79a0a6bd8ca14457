/- SHA-256, part W: lent bytes are spoilt; streams begun anew, copied; the law of bytes in any pieces. -/
import Derived.Test.YtadkbkkfpajghaaShaU
set_option linter.unusedVariables false
set_option linter.unusedSimpArgs false
set_option maxRecDepth 100000
namespace Go.Proofs.Ytadkbkkfpajghaa.Sha
open Go Go.RowKit Go.Proofs.Ytadkbkkfpajghaa.Pm Go.Proofs.Ytadkbkkfpajghaa.Fs
attribute [local simp] pw_skip pw_ops pw_quiet pw_seq pw_cond pw_block pw_exit pw_ret pw_scope pw_label kSeq_normal kSeq_ret kSeq_exit kBlock_normal kBlock_ret kBlock_exit kScope_normal kScope_ret kScope_exit kLoop_normal kLoop_ret kLoop_exit kCond_true kCond_false kCond_dec pwOps_nil pwOps_call pwOps_guard kStep_some kCall_at pwQ_nil pwQ_call pwQ_guard kQ_some putS_some putS_none upd_apply ev_t ev_k isB_bool isB_undef s0_apply pstep pwO_mov pwO_pick pwO_nilck pwO_bin pwO_binB pwO_eqNil pwO_un pwO_convI pwO_convS pwO_alloc pwO_build pwO_load pwO_store pwO_fieldAddr pwO_field pwO_idxS pwO_idxA pwO_idxV pwO_strAt pwO_lenStr pwO_lenS pwO_lenC pwO_slS pwO_slA pwO_slStr pwO_extract pwO_mkFunc pwO_mkIface pwO_append pwO_appendStr pwO_toBytes pwO_ofB pwO_box pwO_row pwO_minmax pwO_eqV pwO_sameB pwR_mov pwR_pick pwR_nilck pwR_bin pwR_binB pwR_eqNil pwR_un pwR_convI pwR_convS pwR_build pwR_load pwR_fieldAddr pwR_field pwR_idxS pwR_idxA pwR_idxV pwR_strAt pwR_lenStr pwR_lenS pwR_lenC pwR_slS pwR_slA pwR_slStr pwR_extract pwR_mkFunc pwR_mkIface pwR_ofB pwR_minmax pwR_eqV ret_r ret_n kRet_some resV0 resV1 resV2 resV3 resV4 VH.get_push_new VH.get_set_same VH.n_push VH.n_set cellsL_agg cellsL_int cellsL_bool cellsL_string cellsL_slice cellsL_pointer cellsL_map pw_draw pwD_nil pwD_cons kD_nil kD_cons evalOK_plain evalOK_guard kEv_some dstIs_some dstIs_none pw_goto pw_scopeL kSeq_goto kBlock_goto kLoop_goto kScopeL_normal kScopeL_ret kScopeL_exit kScopeL_goto pwOps_callv kCallv_fn kCallv_yld pwOps_nextM pwO_makeMap pwO_lookup pwR_lookup pwO_mapSet pwO_mapDel pwO_lenM pwR_lenM pwO_mapEntry pwO_entrySet pwO_rangeS pwO_nextS pwO_rangeM pwO_entryM pwR_entryM pwO_copyV pwO_makeSl pwO_asrt pwR_asrt kStep_if kStep_dif kQ_if kQ_dif kEv_if bound_none bound_some toNat_add' toNat_sub' toNat_mul' kLoopN_normal kLoopN_ret kLoopN_exit kLoopN_goto Option.map_some Option.map_none loadAt_obj storeAt_obj rowOf_obj eszIs_obj eszObj_cells loadObj_tab storeObj_tab_int VH.get_set_ne VH.get_push_lt VH.set_set tab_length List.getElem?_cons_zero List.getElem?_cons_succ List.length_cons List.length_nil oneC_int oneC_bool oneC_string oneC_slice oneC_pointer oneC_map srcCells_at srcCells_nil VH.get_push_at isNilV pw_drawT pwT_nil pwT_step pwT_alt kT_nil kT_cons pun pbinS pbin pbinI i64_small IntKind.bits resV resL resOne

/-- bytes lent, in a row of their own. -/
def LentO (h : VH) (u : Value) (bs : List UInt8) : Prop := ∃ i o c ds, u = .slice (some ⟨i, o, none⟩) bs.length c ∧ bs.length < c ∧ i < h.n ∧ h.get i = .cells ds true 1 ∧ ds.drop o = u8s (bs ++ [77]) ∧ ds.length = o + (bs.length + 1)
theorem LentO.lent {h : VH} {u : Value} {bs : List UInt8} (hl : LentO h u bs) : Lent h u bs := by
  obtain ⟨i, o, c, ds, rfl, hc, hi, hg, hd, hdl⟩ := hl
  exact ⟨i, o, c, rfl, hc, hi, ds, true, hg, by simp; omega, by rw [hd, List.take_of_length_le (by simp)]⟩
theorem LentO.fr {h h' : VH} {X : List Nat} (hf : Fr h h' X) {u : Value} {bs : List UInt8} (hl : LentO h u bs) (hx : ∀ i ∈ idOf u, i ∉ X) : LentO h' u bs := by
  obtain ⟨i, o, c, ds, rfl, hc, hi, hg, hd, hdl⟩ := hl
  exact ⟨i, o, c, ds, rfl, hc, Nat.lt_of_lt_of_le hi hf.n, (hf.get i hi (hx i (by simp [idOf]))).trans hg, hd, hdl⟩
theorem lentO_ok {h : VH} {v : Value} {bs : List UInt8} (hb : IsBytes h v bs) (hlen : bs.length ≤ 1099511627000) :
    PCalls Try.prog f_ref02_Lent [v] h (fun u h' => LentO h' u bs ∧ Fr h h' [] ∧ ∀ j ∈ idOf u, h.n ≤ j) := by
  refine PCalls_of_pw st_ref02_Lent (by simp [n_ref02_Lent]) ?_
  rw [b_ref02_Lent]
  obtain ⟨va, vc, rfl⟩ := hb.shape
  obtain ⟨w1, g1, hap1, hB1⟩ := (Buf.nil h).append bs (by simp; omega)
  obtain ⟨w2, g2, hap2, hB2⟩ := hB1.byte 77 (by simp; omega)
  have hap2 : appendV (g1.push (.cells [.int .u8 77] true 1)) 1 1 w1 [.int .u8 77] 1 = some (w2, g2) := hap2
  have hsrc := hb.src
  rw [List.nil_append] at hB2
  rcases hB2.own with ⟨_, h1, _⟩ | ⟨i, o, c, ds, hi, hc, rfl, hg, hd, hdl, hole⟩
  · simp [u8s] at h1
  have hc2 : bs.length + 1 ≤ c := by simpa using hc
  have hez : eszObj (g2.get i) 1 = true := by rw [hg]; rfl
  have hdsl : ds.length = o + (bs.length + 1) := by
    have := congrArg List.length hd
    simp [u8s] at this
    omega
  obtain ⟨L, hL⟩ : ∃ L, L = bs.length := ⟨_, rfl⟩
  obtain ⟨w1a, w1c, hw1⟩ := hB1.shape
  simp (disch := first | omega | (simp only [VH.n_push, VH.n_set]; done) | (simp only [VH.n_push, VH.n_set]; omega)) [B_ref02_Lent, pun, pbinS, -BitVec.toNat_or, -BitVec.toNat_xor, -BitVec.toNat_add, -BitVec.toNat_and, -BitVec.toNat_not, -BitVec.toNat_shiftLeft, -BitVec.toNat_ushiftRight, pbin, pbinI, i64_small, IntKind.bits, hsrc, hap1, fill_u8, rowObj_u8, hap2, hez, r_ref02_Lent, ret_r, resV, resL, resOne]
  exact ⟨⟨i, o, c, ds, rfl, by omega, hi, hg, hd, hdsl⟩, hB2.fr, fun j hj => hB2.ids j (by simpa [idOf] using hj)⟩
theorem xor90 (b : UInt8) : Go.bits .xor .u8 (b.toNat : Int) 90 = ((b ^^^ 90).toNat : Int) := by
  have := bits_xor_u8 b.toBitVec 90#8
  simpa using this
theorem drop_set_u8 {ds : List Value} {o k : Nat} {bs : List UInt8} (h : ds.drop o = u8s bs) (x : UInt8) : (ds.set (o + k) (.int .u8 (x.toNat : Int))).drop o = u8s (bs.set k x) := by
  rw [List.drop_set, if_neg (by omega), show o + k - o = k by omega, h]
  simp [u8s, List.map_set]
set_option maxHeartbeats 2000000 in
theorem spoilL_ok {h : VH} {u : Value} {bs : List UInt8} (hl : LentO h u bs) (hlen : bs.length ≤ 100000000) : PCalls Try.prog f_ref02_Spoil [u] h (fun _ h' => Fr h h' (idOf u)) := by
  refine PCalls_of_pw st_ref02_Spoil (by simp [n_ref02_Spoil]) ?_
  rw [b_ref02_Spoil]
  obtain ⟨i, o, c, ds0, rfl, hc, hi, hg0, hd0, hdl0⟩ := hl
  obtain ⟨L, hL⟩ : ∃ L, L = bs.length := ⟨_, rfl⟩
  rw [← hL] at hc hdl0 ⊢
  simp (disch := first | omega | (simp only [VH.n_push, VH.n_set]; done) | (simp only [VH.n_push, VH.n_set]; omega)) [-BitVec.toNat_or, -BitVec.toNat_xor, -BitVec.toNat_add, -BitVec.toNat_and, -BitVec.toNat_not, -BitVec.toNat_shiftLeft, -BitVec.toNat_ushiftRight, B_ref02_Spoil]
  refine pw_loopN (fun k s g => ∃ (ds : List Value) (bs' : List UInt8), bs'.length = L + 1 ∧ ds.length = o + (L + 1) ∧ g.get i = .cells ds true 1 ∧ ds.drop o = u8s bs' ∧ Fr h g [i] ∧ s 0 = .slice (some ⟨i, o, none⟩) L c ∧ s 2 = .int .i64 (k : Int)) L ?_ ?_
  · exact ⟨ds0, bs ++ [77], by simp; omega, hdl0, hg0, hd0, Fr.refl _ _, by simp [upd_apply, s0_apply], by simp [upd_apply, s0_apply]⟩
  rintro k s g hk ⟨ds, bs', hbl, hdl, hg, hd, hf, e0, e2⟩
  by_cases hlt : k < L
  · have hltI : (k : Int) < (L : Int) := by omega
    have hkb : k < bs'.length := by omega
    have hld : loadObj (.cells ds true 1) (o + k) none = some (.int .u8 (bs'[k].toNat : Int)) := by
      rw [loadObj_one]
      have h5 : (ds.drop o)[k]? = some (.int .u8 (bs'[k].toNat : Int)) := by
        rw [hd]
        simp [u8s, List.getElem?_eq_getElem hkb]
      rwa [List.getElem?_drop] at h5
    obtain ⟨X, hX⟩ : ∃ X, X = bs'[k] := ⟨_, rfl⟩
    rw [← hX] at hld
    obtain ⟨Y, hY⟩ : ∃ Y, Y = X ^^^ 90 := ⟨_, rfl⟩
    have hxor := xor90 X
    rw [← hY] at hxor
    have hst := storeObj_int (cs := ds) (e := 1) (o := o + k) (k := .u8) (n := (Y.toNat : Int)) (by omega)
    have eW : IntKind.i64.wrap ((k : Int) + 1) = ((k + 1 : Nat) : Int) := by rw [i64_small (by omega) (by omega)]; omega
    simp (disch := first | omega | (simp only [VH.n_push, VH.n_set]; done) | (simp only [VH.n_push, VH.n_set]; omega)) [-BitVec.toNat_or, -BitVec.toNat_xor, -BitVec.toNat_add, -BitVec.toNat_and, -BitVec.toNat_not, -BitVec.toNat_shiftLeft, -BitVec.toNat_ushiftRight, e0, e2, hltI, hlt, hg, hld, hxor, hst, eW]
    exact ⟨ds.set (o + k) (.int .u8 (Y.toNat : Int)), bs'.set k Y, by simpa using hbl, by simp; omega, by simp, drop_set_u8 hd Y, hf.trans (Fr.set _ _ (by simp))⟩
  · obtain rfl : k = L := by omega
    obtain ⟨g1, hg1⟩ : ∃ g1, g1 = g.push (.cells [.int .u8 99] true 1) := ⟨_, rfl⟩
    have hf1 : Fr g g1 [] := by rw [hg1]; exact Fr_push (Fr.refl _ _)
    have hg1o : g1.get g.n = .cells [.int .u8 99] true 1 := by rw [hg1, VH.get_push_new]
    have hgn := hf.n
    have hg1i : g1.get i = .cells ds true 1 := (hf1.get _ (by omega) (by simp)).trans hg
    have hap := appendV_room (h := g1) (esz := 1) (bytes := 1) (i := i) (o := o) (n := k) (c := c) (k := 1) (cs := ds) (ys := [.int .u8 99]) (by decide) hg1i (by omega) (by omega) (by simp; omega)
    have hfill : fillC [.int .u8 0] [(0, 1, .int .u8 99)] = some [.int .u8 99] := rfl
    have hone : [Value.int .u8 99].all Value.oneCell' = true := rfl
    have hrow : rowObj (.cells [.int .u8 99] true 1) 0 1 = some [.int .u8 99] := rfl
    have hwl : (wr ds (o + k * 1) [.int .u8 99]).length = o + (k + 1) := by rw [wr_length (by simp; omega)]; exact hdl
    obtain ⟨W, hW⟩ : ∃ W, W = wr ds (o + k * 1) [.int .u8 99] := ⟨_, rfl⟩
    rw [← hW] at hap hwl
    have hst := storeObj_int (cs := W) (e := 1) (o := o + k) (k := .u8) (n := 98) (by omega)
    have eW : IntKind.i64.wrap ((k : Int) + 1 - 1) = (k : Int) := by rw [i64_small (by omega) (by omega)]; omega
    have hk1 : (k : Int) < (k : Int) + 1 := by omega
    have hlt : k < k + 1 := by omega
    simp (disch := first | omega | (simp only [VH.n_push, VH.n_set]; done) | (simp only [VH.n_push, VH.n_set]; omega)) [-BitVec.toNat_or, -BitVec.toNat_xor, -BitVec.toNat_add, -BitVec.toNat_and, -BitVec.toNat_not, -BitVec.toNat_shiftLeft, -BitVec.toNat_ushiftRight, r_ref02_Spoil, e0, e2, hfill, hone, ← hg1, hg1o, hrow, hap, eW, hk1, hlt, hst]
    exact ((hf.trans (hf1.sub (fun x hx => by simp at hx))).trans (Fr.set _ _ (by simp))).sub (fun x hx => by simpa [idOf] using hx)
end Go.Proofs.Ytadkbkkfpajghaa.Sha
