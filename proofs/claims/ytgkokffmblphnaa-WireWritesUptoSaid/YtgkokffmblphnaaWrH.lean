/- wire, part H: the law of what is read again. -/
import Derived.Test.YtgkokffmblphnaaWrG
import Derived.Test.YtgkokffmblphnaaPmSa
set_option linter.unusedVariables false
set_option linter.unusedSimpArgs false
set_option maxRecDepth 100000
namespace Go.Proofs.Ytgkokffmblphnaa.Wr
open Go Go.RowKit Go.Proofs.Ytgkokffmblphnaa.Pm Go.Proofs.Ytgkokffmblphnaa.Fs
attribute [local simp] pw_skip pw_ops pw_quiet pw_seq pw_cond pw_block pw_exit pw_ret pw_scope pw_label kSeq_normal kSeq_ret kSeq_exit kBlock_normal kBlock_ret kBlock_exit kScope_normal kScope_ret kScope_exit kLoop_normal kLoop_ret kLoop_exit kCond_true kCond_false kCond_dec pwOps_nil pwOps_call pwOps_guard kStep_some kCall_at pwQ_nil pwQ_call pwQ_guard kQ_some putS_some putS_none upd_apply ev_t ev_k isB_bool isB_undef s0_apply pstep pwO_mov pwO_pick pwO_nilck pwO_bin pwO_binB pwO_eqNil pwO_un pwO_convI pwO_convS pwO_alloc pwO_build pwO_load pwO_store pwO_fieldAddr pwO_field pwO_idxS pwO_idxA pwO_idxV pwO_strAt pwO_lenStr pwO_lenS pwO_lenC pwO_slS pwO_slA pwO_slStr pwO_extract pwO_mkFunc pwO_mkIface pwO_append pwO_appendStr pwO_toBytes pwO_ofB pwO_box pwO_row pwO_minmax pwO_eqV pwO_sameB pwR_mov pwR_pick pwR_nilck pwR_bin pwR_binB pwR_eqNil pwR_un pwR_convI pwR_convS pwR_build pwR_load pwR_fieldAddr pwR_field pwR_idxS pwR_idxA pwR_idxV pwR_strAt pwR_lenStr pwR_lenS pwR_lenC pwR_slS pwR_slA pwR_slStr pwR_extract pwR_mkFunc pwR_mkIface pwR_ofB pwR_minmax pwR_eqV ret_r ret_n kRet_some resV0 resV1 resV2 resV3 resV4 VH.get_push_new VH.get_set_same VH.n_push VH.n_set cellsL_agg cellsL_int cellsL_bool cellsL_string cellsL_slice cellsL_pointer cellsL_map pw_draw pwD_nil pwD_cons kD_nil kD_cons evalOK_plain evalOK_guard kEv_some dstIs_some dstIs_none pw_goto pw_scopeL kSeq_goto kBlock_goto kLoop_goto kScopeL_normal kScopeL_ret kScopeL_exit kScopeL_goto pwOps_callv kCallv_fn kCallv_yld pwOps_nextM pwO_makeMap pwO_lookup pwR_lookup pwO_mapSet pwO_mapDel pwO_lenM pwR_lenM pwO_mapEntry pwO_entrySet pwO_rangeS pwO_nextS pwO_rangeM pwO_entryM pwR_entryM pwO_copyV pwO_makeSl pwO_asrt pwR_asrt kStep_if kStep_dif kQ_if kQ_dif kEv_if bound_none bound_some toNat_add' toNat_sub' toNat_mul' kLoopN_normal kLoopN_ret kLoopN_exit kLoopN_goto Option.map_some Option.map_none loadAt_obj storeAt_obj rowOf_obj eszIs_obj eszObj_cells loadObj_tab storeObj_tab_int VH.get_set_ne VH.get_push_lt VH.set_set tab_length List.getElem?_cons_zero List.getElem?_cons_succ List.length_cons List.length_nil oneC_int oneC_bool oneC_string oneC_slice oneC_pointer oneC_map srcCells_at srcCells_nil VH.get_push_at isNilV pw_drawT pwT_nil pwT_step pwT_alt kT_nil kT_cons pun pbinS pbin pbinI i64_small IntKind.bits resV resL resOne

theorem writeS_ok {fs : List Fd} (h : (writeS fs).2 = 0) : (writeS fs).1 = encL fs ∧ (∀ f ∈ fs, okF f = true) ∧ fs.length ≤ 4096 ∧ (encL fs).length ≤ 1048576 := by
  unfold writeS at h ⊢
  by_cases h1 : 4096 < fs.length
  · rw [if_pos h1] at h; exact absurd h (by simp)
  rw [if_neg h1] at h ⊢
  by_cases h2 : fs.all okF = false
  · rw [if_pos h2] at h; exact absurd h (by simp)
  rw [if_neg h2] at h ⊢
  by_cases h3 : 1048576 < (encL fs).length
  · rw [if_pos h3] at h; exact absurd h (by simp)
  rw [if_neg h3]
  have h2 : fs.all okF = true := by simpa using h2
  exact ⟨rfl, List.all_eq_true.1 h2, by omega, by omega⟩
theorem writeS_enc {fs : List Fd} (h1 : ∀ f ∈ fs, okF f = true) (h2 : fs.length ≤ 4096) (h3 : (encL fs).length ≤ 1048576) : writeS fs = (encL fs, 0) := by
  unfold writeS
  rw [if_neg (by omega), if_neg (by rw [List.all_eq_true.2 h1]; decide), if_neg (by omega)]
theorem IsFds.ro {h : VH} {v : Value} {fs : List Fd} (hb : IsFds h v fs) : IsFds h.ro v fs := by
  rcases hb with hb | ⟨i, o, c, cs, own, hi, hc, rfl, hg, hl, hr⟩
  · exact .inl hb
  · exact .inr ⟨i, o, c, cs, false, hi, hc, rfl, by show (h.get i).ro = _; rw [hg]; rfl, hl, hr.mono fun _ _ => IsBytes.ro⟩
theorem isB_take {h : VH} {i o c n : Nat} {bs : List UInt8} (hi : i < h.n) (hat : BytesAt h i o bs) (hn : n ≤ bs.length) (hc : n ≤ c) : IsBytes h (.slice (some ⟨i, o, none⟩) n c) (bs.take n) := by
  have := isB_sub (a := 0) hi hat (by omega) hc
  simpa using this

set_option maxHeartbeats 8000000 in
theorem back_ok' {h : VH} {v w : Value} {fs gs : List Fd} {n cut : Int} (hv : IsFds h v fs) (hw : IsFds h w gs) (hvf : ∀ f ∈ fs, f.wf ∧ f.b.length ≤ 1048576) (hwf : ∀ f ∈ gs, f.wf ∧ f.b.length ≤ 1048576) (hfl : fs.length ≤ 1048576) (hgl : gs.length ≤ 1048576)
    (hn1 : -9223372036854775808 ≤ n) (hn2 : n < 9223372036854775808) (hc1 : -9223372036854775808 ≤ cut) (hc2 : cut < 9223372036854775808) :
    PCalls Try.prog f_law02_WireBack [v, w, .int .i64 n, .int .i64 cut] h (fun u _ => u = .bool true) := by
  refine PCalls_of_pw st_law02_WireBack (by simp [n_law02_WireBack]) ?_
  rw [b_law02_WireBack]
  simp (disch := first | omega | (simp only [VH.n_push, VH.n_set]; done) | (simp only [VH.n_push, VH.n_set]; omega)) [-BitVec.toNat_or, -BitVec.toNat_xor, -BitVec.toNat_add, -BitVec.toNat_and, -BitVec.toNat_not, -BitVec.toNat_shiftLeft, -BitVec.toNat_ushiftRight, B_law02_WireBack]
  refine (given_ok hv (fun f hf => by have := (hvf f hf).2; omega) (by omega)).mono ?_
  rintro u g1 ⟨a1, n1, c1, rfl, B1⟩
  simp (disch := first | omega | (simp only [VH.n_push, VH.n_set]; done) | (simp only [VH.n_push, VH.n_set]; omega)) [-BitVec.toNat_or, -BitVec.toNat_xor, -BitVec.toNat_add, -BitVec.toNat_and, -BitVec.toNat_not, -BitVec.toNat_shiftLeft, -BitVec.toNat_ushiftRight]
  refine (write_ok B1.is (fun f hf => (hvf f hf).1) (fun f hf => by have := (hvf f hf).2; omega) (by omega)).mono ?_
  rintro u g2 ⟨a2, n2, c2, rfl, B2⟩
  simp (disch := first | omega | (simp only [VH.n_push, VH.n_set]; done) | (simp only [VH.n_push, VH.n_set]; omega)) [-BitVec.toNat_or, -BitVec.toNat_xor, -BitVec.toNat_add, -BitVec.toNat_and, -BitVec.toNat_not, -BitVec.toNat_shiftLeft, -BitVec.toNat_ushiftRight]
  have F2 := B1.fr.trans B2.fr
  have hw2 := hw.fr F2
  refine (given_ok hw2 (fun f hf => by have := (hwf f hf).2; omega) (by omega)).mono ?_
  rintro u g3 ⟨a3, n3, c3, rfl, B3⟩
  simp (disch := first | omega | (simp only [VH.n_push, VH.n_set]; done) | (simp only [VH.n_push, VH.n_set]; omega)) [-BitVec.toNat_or, -BitVec.toNat_xor, -BitVec.toNat_add, -BitVec.toNat_and, -BitVec.toNat_not, -BitVec.toNat_shiftLeft, -BitVec.toNat_ushiftRight]
  refine (write_ok B3.is (fun f hf => (hwf f hf).1) (fun f hf => by have := (hwf f hf).2; omega) (by omega)).mono ?_
  rintro u g4 ⟨a4, n4, c4, rfl, B4⟩
  simp (disch := first | omega | (simp only [VH.n_push, VH.n_set]; done) | (simp only [VH.n_push, VH.n_set]; omega)) [-BitVec.toNat_or, -BitVec.toNat_xor, -BitVec.toNat_add, -BitVec.toNat_and, -BitVec.toNat_not, -BitVec.toNat_shiftLeft, -BitVec.toNat_ushiftRight]
  refine (zig_ok hn1 hn2).mono ?_
  rintro u g5 ⟨rfl, rfl⟩
  simp (disch := first | omega | (simp only [VH.n_push, VH.n_set]; done) | (simp only [VH.n_push, VH.n_set]; omega)) [-BitVec.toNat_or, -BitVec.toNat_xor, -BitVec.toNat_add, -BitVec.toNat_and, -BitVec.toNat_not, -BitVec.toNat_shiftLeft, -BitVec.toNat_ushiftRight]
  refine (zag_ok hn1 hn2).mono ?_
  rintro u g5 ⟨rfl, rfl⟩
  have F24 := B3.fr.trans B4.fr
  have F5 := F2.trans F24
  have hb := isB_fr F24 B2.is
  have hc := B4.is
  have hv5 := hv.fr F5
  have hw5 := hw.fr F5
  have hnn : (n != n) = false := by simp
  obtain ⟨e1, he1⟩ : ∃ e, e = (writeS fs).2 := ⟨_, rfl⟩
  obtain ⟨e2, he2⟩ : ∃ e, e = (writeS gs).2 := ⟨_, rfl⟩
  obtain ⟨bs, hbs⟩ : ∃ b, b = (writeS fs).1 := ⟨_, rfl⟩
  obtain ⟨cs, hcs⟩ : ∃ b, b = (writeS gs).1 := ⟨_, rfl⟩
  rw [← he1, ← he2]
  rw [← hbs] at hb
  rw [← hcs] at hc
  have hbn : n2 = bs.length := by
    obtain ⟨a', c', h1⟩ := hb.shape
    injection h1
  have hcn : n4 = cs.length := by
    obtain ⟨a', c', h1⟩ := hc.shape
    injection h1
  obtain ⟨va, vc, hva⟩ := hv.shape
  obtain ⟨wa, wc, hwa⟩ := hw.shape
  obtain ⟨VL, hVL⟩ : ∃ L, L = fs.length := ⟨_, rfl⟩
  obtain ⟨WL, hWL⟩ : ∃ L, L = gs.length := ⟨_, rfl⟩
  rw [← hVL] at hva
  rw [← hWL] at hwa
  simp (disch := first | omega | (simp only [VH.n_push, VH.n_set]; done) | (simp only [VH.n_push, VH.n_set]; omega)) [-BitVec.toNat_or, -BitVec.toNat_xor, -BitVec.toNat_add, -BitVec.toNat_and, -BitVec.toNat_not, -BitVec.toNat_shiftLeft, -BitVec.toNat_ushiftRight, hnn, -beq_iff_eq]
  generalize hKK : kSeq Try.prog _ _ = KK
  have tail : ∀ (s : Slots) (g : VH), Fr g5 g [] → s 0 = v → s 1 = w → s 9 = .slice a2 n2 c2 → s 10 = .int .i64 e1 → s 11 = .slice a4 n4 c4 → s 12 = .int .i64 e2 → KK .normal s g := by
    intro s g hf e0 e1' e9 e10 e11 e12
    rw [← hKK]
    subst hva hwa
    by_cases h1 : e1 = 0
    · by_cases h2 : e2 = 0
      · subst h1
        subst h2
        obtain ⟨q1, q2, q3, q4⟩ := writeS_ok he1.symm
        obtain ⟨r1, r2, r3, r4⟩ := writeS_ok he2.symm
        rw [← hbs] at q1
        rw [← hcs] at r1
        have w1 : IntKind.i64.wrap ((n2 : Int) + (n4 : Int)) = (n2 : Int) + (n4 : Int) := i64_small (by rw [hbn, hcn, q1, r1]; omega) (by rw [hbn, hcn, q1, r1]; omega)
        have w2 : IntKind.i64.wrap ((VL : Int) + (WL : Int)) = (VL : Int) + (WL : Int) := i64_small (by omega) (by omega)
        by_cases hbig : (1048576 : Int) < (n2 : Int) + (n4 : Int)
        · simp (disch := first | omega | (simp only [VH.n_push, VH.n_set]; done) | (simp only [VH.n_push, VH.n_set]; omega)) [-BitVec.toNat_or, -BitVec.toNat_xor, -BitVec.toNat_add, -BitVec.toNat_and, -BitVec.toNat_not, -BitVec.toNat_shiftLeft, -BitVec.toNat_ushiftRight, e0, e1', e9, e10, e11, e12, w1, w2, hbig]
          refine (known_ok _).mono ?_
          rintro u g' ⟨rfl, rfl⟩
          simp (disch := first | omega | (simp only [VH.n_push, VH.n_set]; done) | (simp only [VH.n_push, VH.n_set]; omega)) [-BitVec.toNat_or, -BitVec.toNat_xor, -BitVec.toNat_add, -BitVec.toNat_and, -BitVec.toNat_not, -BitVec.toNat_shiftLeft, -BitVec.toNat_ushiftRight, r_law02_WireBack]
        by_cases hbig2 : (4096 : Int) < (VL : Int) + (WL : Int)
        · simp (disch := first | omega | (simp only [VH.n_push, VH.n_set]; done) | (simp only [VH.n_push, VH.n_set]; omega)) [-BitVec.toNat_or, -BitVec.toNat_xor, -BitVec.toNat_add, -BitVec.toNat_and, -BitVec.toNat_not, -BitVec.toNat_shiftLeft, -BitVec.toNat_ushiftRight, e0, e1', e9, e10, e11, e12, w1, w2, hbig, hbig2]
          refine (known_ok _).mono ?_
          rintro u g' ⟨rfl, rfl⟩
          simp (disch := first | omega | (simp only [VH.n_push, VH.n_set]; done) | (simp only [VH.n_push, VH.n_set]; omega)) [-BitVec.toNat_or, -BitVec.toNat_xor, -BitVec.toNat_add, -BitVec.toNat_and, -BitVec.toNat_not, -BitVec.toNat_shiftLeft, -BitVec.toNat_ushiftRight, r_law02_WireBack]
        have hsb := (isB_fr hf hb).src
        obtain ⟨wv1, G1, hap1, hbuf1⟩ := (Buf.nil g).append bs (by rw [q1]; simp; omega)
        rw [← hbn] at hap1
        rw [List.nil_append] at hbuf1
        obtain ⟨xa, xn, xc, rfl⟩ : ∃ a n c, wv1 = .slice a n c := by
          obtain ⟨a, c, rfl⟩ := hbuf1.shape
          exact ⟨_, _, _, rfl⟩
        have hsc := (isB_fr (hf.trans hbuf1.fr) hc).src
        obtain ⟨wv2, G2, hap2, hbuf2⟩ := hbuf1.append cs (by rw [q1, r1]; omega)
        rw [← hcn] at hap2
        obtain ⟨ya, yn, yc, rfl⟩ : ∃ a n c, wv2 = .slice a n c := by
          obtain ⟨a, c, rfl⟩ := hbuf2.shape
          exact ⟨_, _, _, rfl⟩
        simp (disch := first | omega | (simp only [VH.n_push, VH.n_set]; done) | (simp only [VH.n_push, VH.n_set]; omega)) [-BitVec.toNat_or, -BitVec.toNat_xor, -BitVec.toNat_add, -BitVec.toNat_and, -BitVec.toNat_not, -BitVec.toNat_shiftLeft, -BitVec.toNat_ushiftRight, e0, e1', e9, e10, e11, e12, w1, w2, hbig, hbig2, hsb, hap1, hsc, hap2]
        have hall : bs ++ cs = encL (fs ++ gs) := by rw [q1, r1, encL_append]
        have hle : (encL (fs ++ gs)).length ≤ 1048576 := by rw [← hall, List.length_append]; omega
        have hrd : readS (bs ++ cs) = (fs ++ gs, 0, 0) := by
          rw [hall]
          refine readS_enc (fun f hf => ?_) (by rw [List.length_append]; omega) hle (encL_ge _)
          rcases List.mem_append.1 hf with hf | hf
          · exact ⟨q2 f hf, (hvf f hf).1.2.2.2.2, by have := (hvf f hf).2; omega⟩
          · exact ⟨r2 f hf, (hwf f hf).1.2.2.2.2, by have := (hwf f hf).2; omega⟩
        refine (read_ok hbuf2.is (by rw [hall]; omega)).mono ?_
        rintro u G3 ⟨za, zn, zc, rfl, hfb⟩
        rw [hrd] at hfb ⊢
        have F3 : Fr g5 G3 [] := hf.trans (hbuf2.fr.trans hfb.fr)
        obtain ⟨cs1, hs1, hl1, hn1'⟩ := (hv5.fr F3).src
        have hw6 := hw5.fr F3
        obtain ⟨aa, an, ac, G4, hap3, hB3⟩ := (FBuf.nil G3).appendL hl1 (by simp; omega)
        rw [List.nil_append] at hB3
        rw [← hVL] at hap3
        obtain ⟨cs2, hs2, hl2, hn2'⟩ := (hw6.fr hB3.fr).src
        obtain ⟨ba, bn, bc, G5, hap4, hB4⟩ := hB3.appendL hl2 (by omega)
        rw [← hWL] at hap4
        simp (disch := first | omega | (simp only [VH.n_push, VH.n_set]; done) | (simp only [VH.n_push, VH.n_set]; omega)) [-BitVec.toNat_or, -BitVec.toNat_xor, -BitVec.toNat_add, -BitVec.toNat_and, -BitVec.toNat_not, -BitVec.toNat_shiftLeft, -BitVec.toNat_ushiftRight, hs1, hap3, hs2, hap4, e0, e1']
        refine (taken_ok (hfb.is.fr hB4.fr) (by rw [List.length_append]; omega)).mono ?_
        rintro u G6 ⟨ta, tn, tc, rfl, hT⟩
        simp (disch := first | omega | (simp only [VH.n_push, VH.n_set]; done) | (simp only [VH.n_push, VH.n_set]; omega)) [-BitVec.toNat_or, -BitVec.toNat_xor, -BitVec.toNat_add, -BitVec.toNat_and, -BitVec.toNat_not, -BitVec.toNat_shiftLeft, -BitVec.toNat_ushiftRight]
        refine (same_ok hT.is (hB4.is.fr hT.fr) (by rw [List.length_append]; omega)).mono ?_
        rintro u G7 ⟨rfl, hf7⟩
        rw [sameL_refl]
        simp (disch := first | omega | (simp only [VH.n_push, VH.n_set]; done) | (simp only [VH.n_push, VH.n_set]; omega)) [-BitVec.toNat_or, -BitVec.toNat_xor, -BitVec.toNat_add, -BitVec.toNat_and, -BitVec.toNat_not, -BitVec.toNat_shiftLeft, -BitVec.toNat_ushiftRight]
        refine (known_ok _).mono ?_
        rintro u g' ⟨rfl, rfl⟩
        simp (disch := first | omega | (simp only [VH.n_push, VH.n_set]; done) | (simp only [VH.n_push, VH.n_set]; omega)) [-BitVec.toNat_or, -BitVec.toNat_xor, -BitVec.toNat_add, -BitVec.toNat_and, -BitVec.toNat_not, -BitVec.toNat_shiftLeft, -BitVec.toNat_ushiftRight, r_law02_WireBack]
      · have h2b : (e2 != 0) = true := by simpa using h2
        simp (disch := first | omega | (simp only [VH.n_push, VH.n_set]; done) | (simp only [VH.n_push, VH.n_set]; omega)) [-BitVec.toNat_or, -BitVec.toNat_xor, -BitVec.toNat_add, -BitVec.toNat_and, -BitVec.toNat_not, -BitVec.toNat_shiftLeft, -BitVec.toNat_ushiftRight, e0, e1', e9, e10, e11, e12, h1, h2, h2b]
        refine (known_ok _).mono ?_
        rintro u g' ⟨rfl, rfl⟩
        simp (disch := first | omega | (simp only [VH.n_push, VH.n_set]; done) | (simp only [VH.n_push, VH.n_set]; omega)) [-BitVec.toNat_or, -BitVec.toNat_xor, -BitVec.toNat_add, -BitVec.toNat_and, -BitVec.toNat_not, -BitVec.toNat_shiftLeft, -BitVec.toNat_ushiftRight, r_law02_WireBack]
    · have h1b : (e1 != 0) = true := by simpa using h1
      simp (disch := first | omega | (simp only [VH.n_push, VH.n_set]; done) | (simp only [VH.n_push, VH.n_set]; omega)) [-BitVec.toNat_or, -BitVec.toNat_xor, -BitVec.toNat_add, -BitVec.toNat_and, -BitVec.toNat_not, -BitVec.toNat_shiftLeft, -BitVec.toNat_ushiftRight, e0, e1', e9, e10, e11, e12, h1, h1b]
      refine (known_ok _).mono ?_
      rintro u g' ⟨rfl, rfl⟩
      simp (disch := first | omega | (simp only [VH.n_push, VH.n_set]; done) | (simp only [VH.n_push, VH.n_set]; omega)) [-BitVec.toNat_or, -BitVec.toNat_xor, -BitVec.toNat_add, -BitVec.toNat_and, -BitVec.toNat_not, -BitVec.toNat_shiftLeft, -BitVec.toNat_ushiftRight, r_law02_WireBack]
  by_cases h1 : e1 = 0
  · subst h1
    obtain ⟨q1, q2, q3, q4⟩ := writeS_ok he1.symm
    rw [← hbs] at q1
    have hrd : readS bs = (fs, 0, 0) := by
      rw [q1]
      exact readS_enc (fun f hf => ⟨q2 f hf, (hvf f hf).1.2.2.2.2, by have := (hvf f hf).2; omega⟩) q3 q4 (encL_ge _)
    simp (disch := first | omega | (simp only [VH.n_push, VH.n_set]; done) | (simp only [VH.n_push, VH.n_set]; omega)) [-BitVec.toNat_or, -BitVec.toNat_xor, -BitVec.toNat_add, -BitVec.toNat_and, -BitVec.toNat_not, -BitVec.toNat_shiftLeft, -BitVec.toNat_ushiftRight]
    refine (read_ok hb (by rw [q1]; omega)).mono ?_
    rintro u G1 ⟨xa, xn, xc, rfl, hfb⟩
    rw [hrd] at hfb ⊢
    dsimp only at hfb
    have hbl : bs.length ≤ 1048576 := by rw [q1]; exact q4
    simp (disch := first | omega | (simp only [VH.n_push, VH.n_set]; done) | (simp only [VH.n_push, VH.n_set]; omega)) [-BitVec.toNat_or, -BitVec.toNat_xor, -BitVec.toNat_add, -BitVec.toNat_and, -BitVec.toNat_not, -BitVec.toNat_shiftLeft, -BitVec.toNat_ushiftRight]
    refine (taken_ok hfb.is (by omega)).mono ?_
    rintro u G2 ⟨ta, tn, tc, rfl, hT⟩
    have F2' : Fr g5 G2 [] := hfb.fr.trans hT.fr
    simp (disch := first | omega | (simp only [VH.n_push, VH.n_set]; done) | (simp only [VH.n_push, VH.n_set]; omega)) [-BitVec.toNat_or, -BitVec.toNat_xor, -BitVec.toNat_add, -BitVec.toNat_and, -BitVec.toNat_not, -BitVec.toNat_shiftLeft, -BitVec.toNat_ushiftRight]
    refine (same_ok hT.is (hv5.fr F2') (by omega)).mono ?_
    rintro u G3 ⟨rfl, hf3⟩
    rw [sameL_refl]
    have F3 : Fr g5 G3 [] := F2'.trans hf3
    simp (disch := first | omega | (simp only [VH.n_push, VH.n_set]; done) | (simp only [VH.n_push, VH.n_set]; omega)) [-BitVec.toNat_or, -BitVec.toNat_xor, -BitVec.toNat_add, -BitVec.toNat_and, -BitVec.toNat_not, -BitVec.toNat_shiftLeft, -BitVec.toNat_ushiftRight]
    have hb3 := isB_fr F3 hb
    refine (canon_ok hb3 (by rw [q1]; omega)).mono ?_
    rintro u G4 ⟨ca, cn, cc, rfl, hC⟩
    have hcan : canonS bs = (bs, 0, 0) := by
      unfold canonS
      rw [hrd]
      simp only [ne_eq, not_true, if_false]
      rw [writeS_enc q2 q3 q4, q1]
    rw [hcan] at hC ⊢
    have F4 : Fr g5 G4 [] := F3.trans hC.fr
    have o1 := ofB_eq hC.is
    have o2 := ofB_eq (isB_fr F4 hb)
    have hm1 : (n2 : Int) + 1 ≤ 4611686018427387904 := by rw [hbn, q1]; omega
    have w1 : IntKind.i64.wrap ((n2 : Int) + 1) = (n2 : Int) + 1 := i64_small (by omega) (by omega)
    simp (disch := first | omega | (simp only [VH.n_push, VH.n_set]; done) | (simp only [VH.n_push, VH.n_set]; omega)) [-BitVec.toNat_or, -BitVec.toNat_xor, -BitVec.toNat_add, -BitVec.toNat_and, -BitVec.toNat_not, -BitVec.toNat_shiftLeft, -BitVec.toNat_ushiftRight, o1, o2, w1]
    refine (count_ok (by omega) hm1 hc1 hc2).mono ?_
    rintro u G5 ⟨k, rfl, hk, rfl⟩
    have hkb : k ≤ bs.length := by omega
    have hb4 := isB_fr F4 hb
    rw [hbn] at hb4
    rcases hb4.cases with ⟨hb5, hb6⟩ | ⟨i, o, c', hi, hc', hbv, hat⟩
    · injection hb5 with hbv1 hbv2 hbv3
      subst hbv1
      subst hbv3
      obtain rfl : n2 = 0 := by rw [hbn, hb6]; rfl
      obtain rfl : k = 0 := by rw [hb6] at hkb; simpa using hkb
      simp (disch := first | omega | (simp only [VH.n_push, VH.n_set]; done) | (simp only [VH.n_push, VH.n_set]; omega)) [-BitVec.toNat_or, -BitVec.toNat_xor, -BitVec.toNat_add, -BitVec.toNat_and, -BitVec.toNat_not, -BitVec.toNat_shiftLeft, -BitVec.toNat_ushiftRight]
      refine (read_ok (bs := []) (.inl ⟨rfl, rfl⟩) (by simp)).mono ?_
      rintro u G6 ⟨ra, rn, rc, rfl, hR⟩
      have F6 := F4.trans hR.fr
      have hrn0 : readS [] = ([], 0, 0) := rfl
      rw [hrn0] at hR ⊢
      have hrn : rn = 0 := by
        obtain ⟨a', c', h1⟩ := hR.shape
        injection h1
      have hgt : ¬ (VL : Int) < 0 := by omega
      simp (disch := first | omega | (simp only [VH.n_push, VH.n_set]; done) | (simp only [VH.n_push, VH.n_set]; omega)) [-BitVec.toNat_or, -BitVec.toNat_xor, -BitVec.toNat_add, -BitVec.toNat_and, -BitVec.toNat_not, -BitVec.toNat_shiftLeft, -BitVec.toNat_ushiftRight, hva, hgt, hrn]
      exact tail _ _ F6 (by simp [upd_apply, s0_apply, hva]) (by simp [upd_apply, s0_apply]) (by simp [upd_apply]) (by simp [upd_apply]) (by simp [upd_apply]) (by simp [upd_apply])
    · injection hbv with hbv1 hbv2 hbv3
      subst hbv1
      subst hbv3
      have hbn' : n2 ≤ c2 := by omega
      have hsub := isB_take hi hat hkb (show k ≤ c2 by omega)
      have hez := hat.esz
      have hhi : bound (some (.int .i64 (k : Int))) c2 n2 = some k := by rw [bound_some (by omega)]; rfl
      simp (disch := first | omega | (simp only [VH.n_push, VH.n_set]; done) | (simp only [VH.n_push, VH.n_set]; omega)) [-BitVec.toNat_or, -BitVec.toNat_xor, -BitVec.toNat_add, -BitVec.toNat_and, -BitVec.toNat_not, -BitVec.toNat_shiftLeft, -BitVec.toNat_ushiftRight, hez, hhi]
      refine (read_ok hsub (by rw [List.length_take]; omega)).mono ?_
      rintro u G6 ⟨ra, rn, rc, rfl, hR⟩
      have F6 := F4.trans hR.fr
      have hcase : ((readS (bs.take k)).2.1 = 0 ∧ (readS (bs.take k)).1.length ≤ fs.length) ∨ ((readS (bs.take k)).2.1 = 8 ∧ (readS (bs.take k)).2.2 ≤ k) := by
        rw [q1] at hkb ⊢
        exact readS_take (fun f hf => ⟨q2 f hf, (hvf f hf).1.2.2.2.2, by have := (hvf f hf).2; omega⟩) q3 q4 hkb
      have hrn : rn = (readS (bs.take k)).1.length := by
        obtain ⟨a', c', h1⟩ := hR.shape
        injection h1
      generalize readS (bs.take k) = R at hcase hrn hR ⊢
      obtain ⟨rfs, re, rp⟩ := R
      simp only at hcase hrn hR ⊢
      rcases hcase with ⟨rfl, hlen⟩ | ⟨rfl, hp⟩
      · have hgt : ¬ (VL : Int) < (rn : Int) := by omega
        simp (disch := first | omega | (simp only [VH.n_push, VH.n_set]; done) | (simp only [VH.n_push, VH.n_set]; omega)) [-BitVec.toNat_or, -BitVec.toNat_xor, -BitVec.toNat_add, -BitVec.toNat_and, -BitVec.toNat_not, -BitVec.toNat_shiftLeft, -BitVec.toNat_ushiftRight, hva, hgt]
        exact tail _ _ F6 (by simp [upd_apply, s0_apply, hva]) (by simp [upd_apply, s0_apply]) (by simp [upd_apply]) (by simp [upd_apply]) (by simp [upd_apply]) (by simp [upd_apply])
      · have hgt : ¬ (k : Int) < (rp : Int) := by omega
        simp (disch := first | omega | (simp only [VH.n_push, VH.n_set]; done) | (simp only [VH.n_push, VH.n_set]; omega)) [-BitVec.toNat_or, -BitVec.toNat_xor, -BitVec.toNat_add, -BitVec.toNat_and, -BitVec.toNat_not, -BitVec.toNat_shiftLeft, -BitVec.toNat_ushiftRight, hva, hgt]
        exact tail _ _ F6 (by simp [upd_apply, s0_apply, hva]) (by simp [upd_apply, s0_apply]) (by simp [upd_apply]) (by simp [upd_apply]) (by simp [upd_apply]) (by simp [upd_apply])
  · have h1b : (e1 == 0) = false := by simpa using h1
    simp (disch := first | omega | (simp only [VH.n_push, VH.n_set]; done) | (simp only [VH.n_push, VH.n_set]; omega)) [-BitVec.toNat_or, -BitVec.toNat_xor, -BitVec.toNat_add, -BitVec.toNat_and, -BitVec.toNat_not, -BitVec.toNat_shiftLeft, -BitVec.toNat_ushiftRight, h1b]
    exact tail _ _ (Fr.refl _ _) (by simp [upd_apply, s0_apply]) (by simp [upd_apply, s0_apply]) (by simp [upd_apply]) (by simp [upd_apply]) (by simp [upd_apply]) (by simp [upd_apply])

abbrev fdT : Ty := .cons 1 (.int .i64) (.cons 1 (.int .i64) (.cons 1 (.int .u64) (.cons 1 (.sl 1 (.int .u8)) .nil)))
theorem fd_rows {h : VH} : ∀ (es : List (List Value × Nat)), (∀ x ∈ es, x.1.length = 4 ∧ Sh h fdT x.1 x.2) → ∃ fs : List Fd, FdL h (es.map (·.1)).flatten fs ∧ fs.length = es.length ∧ (∀ f ∈ fs, f.wf ∧ f.b.length ≤ (es.map (·.2)).sum) ∧ es.length ≤ (es.map (·.2)).sum
  | [], _ => ⟨[], trivial, rfl, fun f hf => by simp at hf, by simp⟩
  | x :: es, hx => by
    obtain ⟨fs, h1, h2, h3, h4⟩ := fd_rows es (fun y hy => hx y (List.mem_cons_of_mem _ hy))
    obtain ⟨hl, v1, v2, k1, k2, e1, l1, s1, ⟨v3, v4, k3, k4, e2, l2, s2, ⟨v5, v6, k5, k6, e3, l3, s3, ⟨v7, v8, k7, k8, e4, l4, s4, ⟨e5, ek0⟩, ek1⟩, ek2⟩, ek3⟩, ek⟩ := hx x (List.mem_cons_self ..)
    obtain ⟨a, rfl, a1, a2, _⟩ := s1.i64
    obtain ⟨b, rfl, b1, b2, _⟩ := s2.i64
    obtain ⟨c, rfl, c1, _⟩ := s3.u64
    obtain ⟨w, rfl⟩ := list_one l4
    obtain ⟨bs, hb, hbl⟩ := Sh.bytes s4
    refine ⟨⟨a, b, c, bs⟩ :: fs, ?_, by simp [h2], fun f hf => ?_, ?_⟩
    · rw [List.map_cons, List.flatten_cons, e1, e2, e3, e4, e5]
      exact ⟨rfl, rfl, rfl, hb, h1⟩
    · simp only [List.map_cons, List.sum_cons]
      rcases List.mem_cons.1 hf with rfl | hf
      · exact ⟨⟨a1, a2, b1, b2, c1⟩, by dsimp only; omega⟩
      · have := h3 f hf
        exact ⟨this.1, by omega⟩
    · simp only [List.map_cons, List.sum_cons, List.length_cons]
      omega
theorem FdL.take {h : VH} : ∀ {cs : List Value} {fs : List Fd}, FdL h cs fs → ∀ (n : Nat), FdL h (cs.take (4 * n)) (fs.take n)
  | [], [], _, n => by simp; trivial
  | a :: b :: c :: w :: r, f :: fs, ⟨h1, h2, h3, h4, h5⟩, 0 => trivial
  | a :: b :: c :: w :: r, f :: fs, ⟨h1, h2, h3, h4, h5⟩, n + 1 => by
    rw [show 4 * (n + 1) = 4 * n + 4 by omega]
    exact ⟨h1, h2, h3, h4, h5.take n⟩
  | [], _ :: _, h, _ => h.elim
  | [_], [], h, _ => h.elim
  | [_], _ :: _, h, _ => h.elim
  | [_, _], [], h, _ => h.elim
  | [_, _], _ :: _, h, _ => h.elim
  | [_, _, _], [], h, _ => h.elim
  | [_, _, _], _ :: _, h, _ => h.elim
  | _ :: _ :: _ :: _ :: _, [], h, _ => h.elim
/-- a slice of fields that came in. -/
theorem Sh.fds {h : VH} {v : Value} {k : Nat} (H : Sh h (.sl 4 fdT) [v] k) : ∃ fs, IsFds h v fs ∧ (∀ f ∈ fs, f.wf ∧ f.b.length ≤ k) ∧ fs.length ≤ k := by
  rcases H with ⟨h1, rfl⟩ | ⟨i, n, c, cs, ow, es, h1, h2, h3, h4, h5, h6, h7, h8⟩
  · injection h1 with h1 _
    subst h1
    exact ⟨[], .inl ⟨rfl, rfl⟩, fun f hf => by simp at hf, by simp⟩
  · injection h1 with h1 _
    subst h1
    obtain ⟨fs, b1, b2, b3, b4⟩ := fd_rows es h7
    have hl : (fs.take n).length = n := by simp; omega
    have hcl := b1.length
    refine ⟨fs.take n, .inr ⟨i, 0, c, cs, ow, h3, by omega, by rw [hl], h4, ?_, ?_⟩, fun f hf => ?_, by omega⟩
    · rw [h6]; omega
    · rw [hl, h6, List.drop_zero]
      exact b1.take n
    · have := b3 f (List.mem_of_mem_take hf)
      exact ⟨this.1, by omega⟩
theorem back_law {h : VH} {us : List Value} {k : Nat} (H : ShA h [.sl 4 fdT, .sl 4 fdT, .int .i64, .int .i64] us k) (hk : k ≤ 1048576) :
    PCalls Try.prog f_law02_WireBack us h (fun u h' => u = .bool true ∧ h' = h) := by
  obtain ⟨v, r, k1, k2, rfl, h1, ⟨v2, r2, k3, k4, rfl, h2, ⟨v3, r3, k5, k6, rfl, h3, ⟨v4, r4, k7, k8, rfl, h4, ⟨rfl, _⟩, _⟩, _⟩, _⟩, h6⟩ := H
  obtain ⟨fs, a1, a2, a3⟩ := Sh.fds h1
  obtain ⟨gs, b1, b2, b3⟩ := Sh.fds h2
  obtain ⟨n, hn, n1, n2, _⟩ := Sh.i64 (h := h) h3
  obtain ⟨c, hc, c1, c2, _⟩ := Sh.i64 (h := h) h4
  injection hn with hn _
  injection hc with hc _
  subst hn; subst hc
  exact ((back_ok' a1.ro b1.ro (fun f hf => ⟨(a2 f hf).1, by have := (a2 f hf).2; omega⟩) (fun f hf => ⟨(b2 f hf).1, by have := (b2 f hf).2; omega⟩) (by omega) (by omega) n1 n2 c1 c2).mono fun u _ e => by subst e; exact ⟨rfl, rfl⟩).drop
end Go.Proofs.Ytgkokffmblphnaa.Wr
