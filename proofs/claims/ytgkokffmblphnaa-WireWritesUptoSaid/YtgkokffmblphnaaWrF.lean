/- wire, part F: the statements' own functions: given, taken, Same, One, Count, signs; known. -/
import Derived.Test.YtgkokffmblphnaaWrE
set_option linter.unusedVariables false
set_option linter.unusedSimpArgs false
set_option maxRecDepth 100000
namespace Go.Proofs.Ytgkokffmblphnaa.Wr
open Go Go.RowKit Go.Proofs.Ytgkokffmblphnaa.Pm Go.Proofs.Ytgkokffmblphnaa.Fs
attribute [local simp] pw_skip pw_ops pw_quiet pw_seq pw_cond pw_block pw_exit pw_ret pw_scope pw_label kSeq_normal kSeq_ret kSeq_exit kBlock_normal kBlock_ret kBlock_exit kScope_normal kScope_ret kScope_exit kLoop_normal kLoop_ret kLoop_exit kCond_true kCond_false kCond_dec pwOps_nil pwOps_call pwOps_guard kStep_some kCall_at pwQ_nil pwQ_call pwQ_guard kQ_some putS_some putS_none upd_apply ev_t ev_k isB_bool isB_undef s0_apply pstep pwO_mov pwO_pick pwO_nilck pwO_bin pwO_binB pwO_eqNil pwO_un pwO_convI pwO_convS pwO_alloc pwO_build pwO_load pwO_store pwO_fieldAddr pwO_field pwO_idxS pwO_idxA pwO_idxV pwO_strAt pwO_lenStr pwO_lenS pwO_lenC pwO_slS pwO_slA pwO_slStr pwO_extract pwO_mkFunc pwO_mkIface pwO_append pwO_appendStr pwO_toBytes pwO_ofB pwO_box pwO_row pwO_minmax pwO_eqV pwO_sameB pwR_mov pwR_pick pwR_nilck pwR_bin pwR_binB pwR_eqNil pwR_un pwR_convI pwR_convS pwR_build pwR_load pwR_fieldAddr pwR_field pwR_idxS pwR_idxA pwR_idxV pwR_strAt pwR_lenStr pwR_lenS pwR_lenC pwR_slS pwR_slA pwR_slStr pwR_extract pwR_mkFunc pwR_mkIface pwR_ofB pwR_minmax pwR_eqV ret_r ret_n kRet_some resV0 resV1 resV2 resV3 resV4 VH.get_push_new VH.get_set_same VH.n_push VH.n_set cellsL_agg cellsL_int cellsL_bool cellsL_string cellsL_slice cellsL_pointer cellsL_map pw_draw pwD_nil pwD_cons kD_nil kD_cons evalOK_plain evalOK_guard kEv_some dstIs_some dstIs_none pw_goto pw_scopeL kSeq_goto kBlock_goto kLoop_goto kScopeL_normal kScopeL_ret kScopeL_exit kScopeL_goto pwOps_callv kCallv_fn kCallv_yld pwOps_nextM pwO_makeMap pwO_lookup pwR_lookup pwO_mapSet pwO_mapDel pwO_lenM pwR_lenM pwO_mapEntry pwO_entrySet pwO_rangeS pwO_nextS pwO_rangeM pwO_entryM pwR_entryM pwO_copyV pwO_makeSl pwO_asrt pwR_asrt kStep_if kStep_dif kQ_if kQ_dif kEv_if bound_none bound_some toNat_add' toNat_sub' toNat_mul' kLoopN_normal kLoopN_ret kLoopN_exit kLoopN_goto Option.map_some Option.map_none loadAt_obj storeAt_obj rowOf_obj eszIs_obj eszObj_cells loadObj_tab storeObj_tab_int VH.get_set_ne VH.get_push_lt VH.set_set tab_length List.getElem?_cons_zero List.getElem?_cons_succ List.length_cons List.length_nil oneC_int oneC_bool oneC_string oneC_slice oneC_pointer oneC_map srcCells_at srcCells_nil VH.get_push_at isNilV pw_drawT pwT_nil pwT_step pwT_alt kT_nil kT_cons pun pbinS pbin pbinI i64_small IntKind.bits resV resL resOne

theorem known_run : runF GA 3000 f_law02_known [] VH.empty = some (.bool true) := by kernel_rfl
theorem known_ok (h : VH) : PCalls Try.prog f_law02_known [] h (fun u h' => u = .bool true ∧ h' = h) := run_alone GA_ok known_run (by kernel_rfl) rfl h

set_option maxHeartbeats 2000000 in
theorem given_ok {h : VH} {v : Value} {fs : List Fd} (hv : IsFds h v fs) (hbl : ∀ f ∈ fs, f.b.length ≤ 100000000) (hlen : fs.length ≤ 100000000) :
    PCalls Try.prog f_law02_given [v] h (fun u h' => ∃ a n c, u = .slice a n c ∧ FBuf h h' (.slice a n c) fs) := by
  refine PCalls_of_pw st_law02_given (by simp [n_law02_given]) ?_
  rw [b_law02_given]
  obtain ⟨va, vc, rfl⟩ := hv.shape
  obtain ⟨L, hL⟩ : ∃ L, L = fs.length := ⟨_, rfl⟩
  rw [← hL]
  simp (disch := first | omega | (simp only [VH.n_push, VH.n_set]; done) | (simp only [VH.n_push, VH.n_set]; omega)) [-BitVec.toNat_or, -BitVec.toNat_xor, -BitVec.toNat_add, -BitVec.toNat_and, -BitVec.toNat_not, -BitVec.toNat_shiftLeft, -BitVec.toNat_ushiftRight, B_law02_given]
  refine pw_loopN (fun k s g => ∃ a n c, FBuf h g (.slice a n c) (fs.take k) ∧ s 0 = .slice va L vc ∧ s 3 = .slice a n c ∧ s 4 = .int .i64 (k : Int)) L ?_ ?_
  · exact ⟨none, 0, 0, by simpa using FBuf.nil h, by simp [upd_apply, s0_apply], by simp [upd_apply, s0_apply], by simp [upd_apply, s0_apply]⟩
  rintro k s g hk ⟨ba, bn, bc, hB, e0, e3, e4⟩
  by_cases hlt : k < L
  · have hltI : (k : Int) < (L : Int) := by omega
    have hkf : k < fs.length := by omega
    obtain ⟨i, o, c, hi, hc, hva, hez, hat⟩ := hv.at_ (by omega)
    rw [← hL] at hva hc
    injection hva with hva1 _ hva3
    subst hva1
    subst hva3
    obtain ⟨w, hA0⟩ := hat k hkf
    have hA := hA0.fr hB.fr hi
    have hmem : fs[k] ∈ fs := List.getElem_mem hkf
    have htk := take_one hkf
    obtain ⟨f, hf⟩ : ∃ f, f = fs[k] := ⟨_, rfl⟩
    rw [← hf] at hA0 hA hmem
    obtain ⟨FL, hFL⟩ : ∃ FL, FL = f.b.length := ⟨_, rfl⟩
    have hfb := hbl f hmem
    obtain ⟨wa, wc, hwv⟩ := hA.bytes.shape
    rw [← hFL] at hwv
    subst hwv
    have eW : IntKind.i64.wrap ((k : Int) + 1) = ((k + 1 : Nat) : Int) := by rw [i64_small (by omega) (by omega)]; omega
    have hgi : i < g.n := by have := hB.fr.n; omega
    obtain ⟨g1, hg1⟩ : ∃ g1, g1 = g.push (.cells [.int .i64 0, .int .i64 0, .int .u64 0, .slice none 0 0] true 1) := ⟨_, rfl⟩
    have hf1 : Fr g g1 [] := by rw [hg1]; exact Fr_push (Fr.refl _ _)
    have hg1o : g1.get g.n = .cells [.int .i64 0, .int .i64 0, .int .u64 0, .slice none 0 0] true 1 := by rw [hg1, VH.get_push_new]
    have hA1 := hA.fr hf1 hgi
    obtain ⟨g2, hg2⟩ : ∃ g2, g2 = g1.set g.n (.cells [.int .i64 f.num, .int .i64 f.ty, .int .u64 (f.n : Int), .slice none 0 0] true 1) := ⟨_, rfl⟩
    have hf2 : Fr g g2 [] := by rw [hg2]; exact Fr_set hf1 (Nat.le_refl _)
    have hA2 := hA.fr hf2 hgi
    have hg2o : g2.get g.n = .cells [.int .i64 f.num, .int .i64 f.ty, .int .u64 (f.n : Int), .slice none 0 0] true 1 := by rw [hg2, VH.get_set_same]
    have hg2n : g2.n = g.n + 1 := by rw [hg2, hg1]; rfl
    obtain ⟨w', g3, hap, hbuf⟩ := (Buf.nil g2).append f.b (by simp; omega)
    rw [List.nil_append] at hbuf
    rw [← hFL] at hap
    obtain ⟨xa, xn, xc, rfl⟩ : ∃ a n c, w' = .slice a n c := by
      obtain ⟨a, c, rfl⟩ := hbuf.shape
      exact ⟨_, _, _, rfl⟩
    have hsrc := hA2.bytes.src
    have hg3o : g3.get g.n = .cells [.int .i64 f.num, .int .i64 f.ty, .int .u64 (f.n : Int), .slice none 0 0] true 1 := (hbuf.fr.get _ (by omega) (by simp)).trans hg2o
    have hA3 := hA2.fr hbuf.fr (by omega)
    obtain ⟨g4, hg4⟩ : ∃ g4, g4 = g3.set g.n (.cells [.int .i64 f.num, .int .i64 f.ty, .int .u64 (f.n : Int), .slice xa xn xc] true 1) := ⟨_, rfl⟩
    have hf4 : Fr g g4 [] := by rw [hg4]; exact Fr_set (hf2.trans hbuf.fr) (Nat.le_refl _)
    have hg4o : g4.get g.n = .cells [.int .i64 f.num, .int .i64 f.ty, .int .u64 (f.n : Int), .slice xa xn xc] true 1 := by rw [hg4, VH.get_set_same]
    have hby : IsBytes g4 (.slice xa xn xc) f.b := by
      refine hbuf.is.fr (X := [g.n]) (by rw [hg4]; exact Fr.set _ _ (by simp)) fun j hj hx => ?_
      have := hbuf.ids j hj
      simp at hx
      omega
    have hB4 := hB.step hf4
    obtain ⟨ya, yn, yc, g5, hap5, hB5⟩ := hB4.append (f := f) hby (by rw [List.length_take]; omega)
    have hfl : fillC [.int .i64 0, .int .i64 0, .int .u64 0, .slice none 0 0] [(0, 4, .agg #[.int .i64 f.num, .int .i64 f.ty, .int .u64 (f.n : Int), .slice xa xn xc])] = some (fdL f (.slice xa xn xc)) := rfl
    have hone : (fdL f (.slice xa xn xc)).all Value.oneCell' = true := rfl
    have hrow : rowObj (.cells (fdL f (.slice xa xn xc)) true 4) 0 4 = some (fdL f (.slice xa xn xc)) := rfl
    have q0 := hA.l0
    have q1 := hA.l1
    have q2 := hA.l2
    have q3 := hA2.l3
    have r0 := hA1.l0
    have r1 := hA1.l1
    have r2 := hA1.l2
    have r3 := hA3.l3
    simp (disch := first | omega | (simp only [VH.n_push, VH.n_set]; done) | (simp only [VH.n_push, VH.n_set]; omega)) [-BitVec.toNat_or, -BitVec.toNat_xor, -BitVec.toNat_add, -BitVec.toNat_and, -BitVec.toNat_not, -BitVec.toNat_shiftLeft, -BitVec.toNat_ushiftRight, e0, e3, e4, hltI, hlt, ← hg1, q0, q1, q2, fill4_3, r0, r1, r2, hg1o, st4_all, ← hg2, hg2o, ld4_3, q3, hsrc, hap, hg3o, r3, st4_3, ← hg4, hg4o, ld4_all, hfl, hone, hrow, hap5, eW]
    rw [← hf] at htk
    rw [← htk] at hB5
    exact ⟨_, _, _, hB5, rfl, rfl, rfl⟩
  · obtain rfl : k = L := by omega
    simp (disch := first | omega | (simp only [VH.n_push, VH.n_set]; done) | (simp only [VH.n_push, VH.n_set]; omega)) [-BitVec.toNat_or, -BitVec.toNat_xor, -BitVec.toNat_add, -BitVec.toNat_and, -BitVec.toNat_not, -BitVec.toNat_shiftLeft, -BitVec.toNat_ushiftRight, r_law02_given, e0, e3, e4]
    have e : fs.take k = fs := by rw [hL]; exact List.take_length
    rw [e] at hB
    exact ⟨_, _, _, ⟨rfl, rfl, rfl⟩, hB⟩

set_option maxHeartbeats 2000000 in
theorem taken_ok {h : VH} {v : Value} {fs : List Fd} (hv : IsFds h v fs) (hlen : fs.length ≤ 100000000) :
    PCalls Try.prog f_law02_taken [v] h (fun u h' => ∃ a n c, u = .slice a n c ∧ FBuf h h' (.slice a n c) fs) := by
  refine PCalls_of_pw st_law02_taken (by simp [n_law02_taken]) ?_
  rw [b_law02_taken]
  obtain ⟨va, vc, rfl⟩ := hv.shape
  obtain ⟨L, hL⟩ : ∃ L, L = fs.length := ⟨_, rfl⟩
  rw [← hL]
  simp (disch := first | omega | (simp only [VH.n_push, VH.n_set]; done) | (simp only [VH.n_push, VH.n_set]; omega)) [-BitVec.toNat_or, -BitVec.toNat_xor, -BitVec.toNat_add, -BitVec.toNat_and, -BitVec.toNat_not, -BitVec.toNat_shiftLeft, -BitVec.toNat_ushiftRight, B_law02_taken]
  refine pw_loopN (fun k s g => ∃ a n c, FBuf h g (.slice a n c) (fs.take k) ∧ s 0 = .slice va L vc ∧ s 3 = .slice a n c ∧ s 4 = .int .i64 (k : Int)) L ?_ ?_
  · exact ⟨none, 0, 0, by simpa using FBuf.nil h, by simp [upd_apply, s0_apply], by simp [upd_apply, s0_apply], by simp [upd_apply, s0_apply]⟩
  rintro k s g hk ⟨ba, bn, bc, hB, e0, e3, e4⟩
  by_cases hlt : k < L
  · have hltI : (k : Int) < (L : Int) := by omega
    have hkf : k < fs.length := by omega
    obtain ⟨i, o, c, hi, hc, hva, hez, hat⟩ := hv.at_ (by omega)
    rw [← hL] at hva hc
    injection hva with hva1 _ hva3
    subst hva1
    subst hva3
    obtain ⟨w, hA0⟩ := hat k hkf
    have hA := hA0.fr hB.fr hi
    have htk := take_one hkf
    obtain ⟨f, hf⟩ : ∃ f, f = fs[k] := ⟨_, rfl⟩
    rw [← hf] at hA htk
    obtain ⟨wa, wc, hwv⟩ := hA.bytes.shape
    obtain ⟨wn, hwn⟩ : ∃ wn, wn = f.b.length := ⟨_, rfl⟩
    rw [← hwn] at hwv
    subst hwv
    have eW : IntKind.i64.wrap ((k : Int) + 1) = ((k + 1 : Nat) : Int) := by rw [i64_small (by omega) (by omega)]; omega
    have hgi : i < g.n := by have := hB.fr.n; omega
    have hA1 := hA.fr (Fr_push (o := .cells (fdL f (.slice wa wn wc)) true 4) (Fr.refl g [])) hgi
    obtain ⟨ya, yn, yc, g5, hap5, hB5⟩ := hB.append (f := f) hA.bytes (by rw [List.length_take]; omega)
    rw [← htk] at hB5
    have hfl : fillC [.int .i64 0, .int .i64 0, .int .u64 0, .slice none 0 0] [(0, 4, .agg #[.int .i64 f.num, .int .i64 f.ty, .int .u64 (f.n : Int), .slice wa wn wc])] = some (fdL f (.slice wa wn wc)) := rfl
    have hone : (fdL f (.slice wa wn wc)).all Value.oneCell' = true := rfl
    have hrow : rowObj (.cells (fdL f (.slice wa wn wc)) true 4) 0 4 = some (fdL f (.slice wa wn wc)) := rfl
    have q0 := hA.l0
    have q1 := hA.l1
    have q2 := hA.l2
    have q3 := hA.l3
    have r0 := hA1.l0
    have r1 := hA1.l1
    have r2 := hA1.l2
    have r3 := hA1.l3
    obtain ⟨g1, hg1⟩ : ∃ g1, g1 = g.push (.cells (fdL f (.slice wa wn wc)) true 4) := ⟨_, rfl⟩
    have hg1o : g1.get g.n = .cells (fdL f (.slice wa wn wc)) true 4 := by rw [hg1, VH.get_push_new]
    rw [← hg1] at r0 r1 r2 r3 hap5
    simp (disch := first | omega | (simp only [VH.n_push, VH.n_set]; done) | (simp only [VH.n_push, VH.n_set]; omega)) [-BitVec.toNat_or, -BitVec.toNat_xor, -BitVec.toNat_add, -BitVec.toNat_and, -BitVec.toNat_not, -BitVec.toNat_shiftLeft, -BitVec.toNat_ushiftRight, e0, e3, e4, hltI, hlt, q0, q1, q2, q3, fill4_4, hfl, hone, ← hg1, hg1o, r0, r1, r2, r3, hrow, hap5, eW]
    exact ⟨_, _, _, hB5, rfl, rfl, rfl⟩
  · obtain rfl : k = L := by omega
    simp (disch := first | omega | (simp only [VH.n_push, VH.n_set]; done) | (simp only [VH.n_push, VH.n_set]; omega)) [-BitVec.toNat_or, -BitVec.toNat_xor, -BitVec.toNat_add, -BitVec.toNat_and, -BitVec.toNat_not, -BitVec.toNat_shiftLeft, -BitVec.toNat_ushiftRight, r_law02_taken, e0, e3, e4]
    have e : fs.take k = fs := by rw [hL]; exact List.take_length
    rw [e] at hB
    exact ⟨_, _, _, ⟨rfl, rfl, rfl⟩, hB⟩
def eqF (f g : Fd) : Bool := f.num == g.num && (f.ty == g.ty && ((f.n : Int) == (g.n : Int) && f.b == g.b))
theorem eqF_iff {f g : Fd} : eqF f g = true ↔ f = g := by
  unfold eqF
  constructor
  · intro h
    simp only [Bool.and_eq_true, beq_iff_eq] at h
    obtain ⟨h1, h2, h3, h4⟩ := h
    cases f; cases g
    simp only at *
    subst h1; subst h2; subst h4
    rw [Int.ofNat_inj.1 h3]
  · rintro rfl
    simp
theorem one_ok {h : VH} {f g : Fd} {v w : Value} (hv : IsBytes h v f.b) (hw : IsBytes h w g.b) : PCalls Try.prog f_ref02_One [fdV f v, fdV g w] h (fun u h' => u = .bool (eqF f g) ∧ Fr h h' []) := by
  refine PCalls_of_pw st_ref02_One (by simp [n_ref02_One]) ?_
  rw [b_ref02_One]
  obtain ⟨a, c, rfl⟩ := hv.shape
  obtain ⟨a', c', rfl⟩ := hw.shape
  obtain ⟨L, hL⟩ : ∃ L, L = f.b.length := ⟨_, rfl⟩
  obtain ⟨M, hM⟩ : ∃ M, M = g.b.length := ⟨_, rfl⟩
  rw [← hL] at hv ⊢
  rw [← hM] at hw ⊢
  have hone : (cellsL (fdV f (.slice a L c))).all Value.oneCell' = true := rfl
  have hc : cellsL (fdV f (.slice a L c)) = [.int .i64 f.num, .int .i64 f.ty, .int .u64 (f.n : Int), .slice a L c] := rfl
  have hone' : (cellsL (fdV g (.slice a' M c'))).all Value.oneCell' = true := rfl
  have hc' : cellsL (fdV g (.slice a' M c')) = [.int .i64 g.num, .int .i64 g.ty, .int .u64 (g.n : Int), .slice a' M c'] := rfl
  obtain ⟨g1, hg1⟩ : ∃ g1, g1 = (h.push (.cells [.int .i64 f.num, .int .i64 f.ty, .int .u64 (f.n : Int), .slice a L c] true 1)).push (.cells [.int .i64 g.num, .int .i64 g.ty, .int .u64 (g.n : Int), .slice a' M c'] true 1) := ⟨_, rfl⟩
  have hf1 : Fr h g1 [] := by rw [hg1]; exact Fr_push (Fr_push (Fr.refl _ _))
  have o1 : g1.get h.n = .cells [.int .i64 f.num, .int .i64 f.ty, .int .u64 (f.n : Int), .slice a L c] true 1 := by rw [hg1, VH.get_push_lt _ _ (by simp), VH.get_push_new]
  have o2 : g1.get (h.n + 1) = .cells [.int .i64 g.num, .int .i64 g.ty, .int .u64 (g.n : Int), .slice a' M c'] true 1 := by rw [hg1]; exact VH.get_push_new (h.push _) _
  have s1 := ofB_eq (isB_fr hf1 hv)
  have s2 := ofB_eq (isB_fr hf1 hw)
  obtain ⟨p1, hp1⟩ : ∃ p, p = (f.num == g.num) := ⟨_, rfl⟩
  obtain ⟨p2, hp2⟩ : ∃ p, p = (f.ty == g.ty) := ⟨_, rfl⟩
  obtain ⟨p3, hp3⟩ : ∃ p, p = ((f.n : Int) == (g.n : Int)) := ⟨_, rfl⟩
  obtain ⟨p4, hp4⟩ : ∃ p, p = (f.b == g.b) := ⟨_, rfl⟩
  have hres : eqF f g = (p1 && (p2 && (p3 && p4))) := by unfold eqF; rw [hp1, hp2, hp3, hp4]
  rw [hres]
  cases p1
  · simp (disch := first | omega | (simp only [VH.n_push, VH.n_set]; done) | (simp only [VH.n_push, VH.n_set]; omega)) [-BitVec.toNat_or, -BitVec.toNat_xor, -BitVec.toNat_add, -BitVec.toNat_and, -BitVec.toNat_not, -BitVec.toNat_shiftLeft, -BitVec.toNat_ushiftRight, r_ref02_One, B_ref02_One, hone, hc, hone', hc', ← hg1, o1, o2, ld4_0, ← hp1]
    exact hf1
  cases p2
  · simp (disch := first | omega | (simp only [VH.n_push, VH.n_set]; done) | (simp only [VH.n_push, VH.n_set]; omega)) [-BitVec.toNat_or, -BitVec.toNat_xor, -BitVec.toNat_add, -BitVec.toNat_and, -BitVec.toNat_not, -BitVec.toNat_shiftLeft, -BitVec.toNat_ushiftRight, r_ref02_One, B_ref02_One, hone, hc, hone', hc', ← hg1, o1, o2, ld4_0, ld4_1, ← hp1, ← hp2]
    exact hf1
  cases p3
  · simp (disch := first | omega | (simp only [VH.n_push, VH.n_set]; done) | (simp only [VH.n_push, VH.n_set]; omega)) [-BitVec.toNat_or, -BitVec.toNat_xor, -BitVec.toNat_add, -BitVec.toNat_and, -BitVec.toNat_not, -BitVec.toNat_shiftLeft, -BitVec.toNat_ushiftRight, r_ref02_One, B_ref02_One, hone, hc, hone', hc', ← hg1, o1, o2, ld4_0, ld4_1, ld4_2, ← hp1, ← hp2, ← hp3]
    exact hf1
  · simp (disch := first | omega | (simp only [VH.n_push, VH.n_set]; done) | (simp only [VH.n_push, VH.n_set]; omega)) [-BitVec.toNat_or, -BitVec.toNat_xor, -BitVec.toNat_add, -BitVec.toNat_and, -BitVec.toNat_not, -BitVec.toNat_shiftLeft, -BitVec.toNat_ushiftRight, r_ref02_One, B_ref02_One, hone, hc, hone', hc', ← hg1, o1, o2, ld4_0, ld4_1, ld4_2, ld4_3, ← hp1, ← hp2, ← hp3, s1, s2, strB_toList, ← hp4]
    exact hf1
def sameL : List Fd → List Fd → Bool
  | [], [] => true
  | f :: fs, g :: gs => eqF f g && sameL fs gs
  | _, _ => false
theorem sameL_iff : ∀ {fs gs : List Fd}, sameL fs gs = true ↔ fs = gs
  | [], [] => by simp [sameL]
  | f :: fs, g :: gs => by
    simp only [sameL, Bool.and_eq_true, eqF_iff, sameL_iff, List.cons.injEq]
  | [], _ :: _ => by simp [sameL]
  | _ :: _, [] => by simp [sameL]
theorem sameL_refl (fs : List Fd) : sameL fs fs = true := sameL_iff.2 rfl
theorem sameL_no {fs gs : List Fd} (h : fs ≠ gs) : sameL fs gs = false := by
  cases hs : sameL fs gs with
  | false => rfl
  | true => exact absurd (sameL_iff.1 hs) h

set_option maxHeartbeats 1000000 in
theorem same_ok {h : VH} {v w : Value} {fs gs : List Fd} (hv : IsFds h v fs) (hw : IsFds h w gs) (hlen : fs.length ≤ 1000000000) : PCalls Try.prog f_ref02_Same [v, w] h (fun u h' => u = .bool (sameL fs gs) ∧ Fr h h' []) := by
  refine PCalls_of_pw st_ref02_Same (by simp [n_ref02_Same]) ?_
  rw [b_ref02_Same]
  obtain ⟨va, vc, rfl⟩ := hv.shape
  obtain ⟨wa, wc, rfl⟩ := hw.shape
  obtain ⟨L, hL⟩ : ∃ L, L = fs.length := ⟨_, rfl⟩
  obtain ⟨M, hM⟩ : ∃ M, M = gs.length := ⟨_, rfl⟩
  rw [← hL, ← hM]
  by_cases hne : L = M
  · subst hne
    have hneI : ((L : Int) != (L : Int)) = false := by simp
    simp (disch := first | omega | (simp only [VH.n_push, VH.n_set]; done) | (simp only [VH.n_push, VH.n_set]; omega)) [-BitVec.toNat_or, -BitVec.toNat_xor, -BitVec.toNat_add, -BitVec.toNat_and, -BitVec.toNat_not, -BitVec.toNat_shiftLeft, -BitVec.toNat_ushiftRight, B_ref02_Same, hneI]
    refine pw_loopN (fun k s g => Fr h g [] ∧ fs.take k = gs.take k ∧ s 0 = .slice va L vc ∧ s 1 = .slice wa L wc ∧ s 5 = .int .i64 (k : Int)) L ?_ ?_
    · exact ⟨Fr.refl _ _, by simp, by simp [upd_apply, s0_apply], by simp [upd_apply, s0_apply], by simp [upd_apply, s0_apply]⟩
    rintro k s g hk ⟨hf, htk, e0, e1, e5⟩
    by_cases hlt : k < L
    · have hltI : (k : Int) < (L : Int) := by omega
      have hkf : k < fs.length := by omega
      have hkg : k < gs.length := by omega
      obtain ⟨i, o, c, hi, hc, hva, hez, hat⟩ := hv.at_ (by omega)
      rw [← hL] at hva hc
      injection hva with hva1 _ hva3
      subst hva1
      subst hva3
      obtain ⟨j, p, d, hj, hd, hwa, hez2, hat2⟩ := hw.at_ (by omega)
      rw [← hM] at hwa hd
      injection hwa with hwa1 _ hwa3
      subst hwa1
      subst hwa3
      obtain ⟨x, hA⟩ := hat k hkf
      obtain ⟨y, hB⟩ := hat2 k hkg
      have hA := hA.fr hf hi
      have hB := hB.fr hf hj
      have eW : IntKind.i64.wrap ((k : Int) + 1) = ((k + 1 : Nat) : Int) := by rw [i64_small (by omega) (by omega)]; omega
      have hx := hA.all
      have hy := hB.all
      simp (disch := first | omega | (simp only [VH.n_push, VH.n_set]; done) | (simp only [VH.n_push, VH.n_set]; omega)) [-BitVec.toNat_or, -BitVec.toNat_xor, -BitVec.toNat_add, -BitVec.toNat_and, -BitVec.toNat_not, -BitVec.toNat_shiftLeft, -BitVec.toNat_ushiftRight, e0, e1, e5, hltI, hlt, hx, hy]
      refine (one_ok hA.bytes hB.bytes).mono ?_
      rintro u g2 ⟨rfl, hf2⟩
      by_cases he : fs[k] = gs[k]
      · have heb : eqF fs[k] gs[k] = true := eqF_iff.2 he
        simp (disch := first | omega | (simp only [VH.n_push, VH.n_set]; done) | (simp only [VH.n_push, VH.n_set]; omega)) [-BitVec.toNat_or, -BitVec.toNat_xor, -BitVec.toNat_add, -BitVec.toNat_and, -BitVec.toNat_not, -BitVec.toNat_shiftLeft, -BitVec.toNat_ushiftRight, heb, e0, e1, e5, eW]
        refine ⟨by omega, hf.trans hf2, ?_⟩
        rw [take_one hkf, take_one hkg, htk, he]
      · have heb : eqF fs[k] gs[k] = false := by
          cases hq : eqF fs[k] gs[k] with
          | false => rfl
          | true => exact absurd (eqF_iff.1 hq) he
        have hno : sameL fs gs = false := sameL_no fun e => he (by subst e; rfl)
        rw [hno]
        simp (disch := first | omega | (simp only [VH.n_push, VH.n_set]; done) | (simp only [VH.n_push, VH.n_set]; omega)) [-BitVec.toNat_or, -BitVec.toNat_xor, -BitVec.toNat_add, -BitVec.toNat_and, -BitVec.toNat_not, -BitVec.toNat_shiftLeft, -BitVec.toNat_ushiftRight, r_ref02_Same, heb]
        exact hf.trans hf2
    · obtain rfl : k = L := by omega
      have e : fs = gs := by
        have h1 : fs.take k = fs := by rw [hL]; exact List.take_length
        have h2 : gs.take k = gs := by rw [hM]; exact List.take_length
        rw [← h1, ← h2, htk]
      rw [sameL_iff.2 e]
      simp (disch := first | omega | (simp only [VH.n_push, VH.n_set]; done) | (simp only [VH.n_push, VH.n_set]; omega)) [-BitVec.toNat_or, -BitVec.toNat_xor, -BitVec.toNat_add, -BitVec.toNat_and, -BitVec.toNat_not, -BitVec.toNat_shiftLeft, -BitVec.toNat_ushiftRight, r_ref02_Same, e0, e1, e5]
      exact hf
  · have hneI : ((L : Int) != (M : Int)) = true := by simp; omega
    have hno : sameL fs gs = false := sameL_no fun e => hne (by rw [hL, hM, e])
    rw [hno]
    simp (disch := first | omega | (simp only [VH.n_push, VH.n_set]; done) | (simp only [VH.n_push, VH.n_set]; omega)) [-BitVec.toNat_or, -BitVec.toNat_xor, -BitVec.toNat_add, -BitVec.toNat_and, -BitVec.toNat_not, -BitVec.toNat_shiftLeft, -BitVec.toNat_ushiftRight, r_ref02_Same, B_ref02_Same, hneI]
    exact Fr.refl _ _
theorem count_ok {h : VH} {n most : Int} (h0 : 0 < most) (h1 : most ≤ 4611686018427387904) (h2 : -9223372036854775808 ≤ n) (h3 : n < 9223372036854775808) :
    PCalls Try.prog f_ref02_Count [.int .i64 n, .int .i64 most] h (fun u h' => ∃ k : Nat, u = .int .i64 (k : Int) ∧ (k : Int) < most ∧ h' = h) := by
  refine PCalls_of_pw st_ref02_Count (by simp [n_ref02_Count]) ?_
  rw [b_ref02_Count]
  have hm0 : ¬ most = 0 := by omega
  obtain ⟨q, hq⟩ : ∃ q, q = n.tmod most := ⟨_, rfl⟩
  have hq1 : -most < q ∧ q < most := by
    have := Int.tmod_lt_of_pos n h0
    have h4 : -most < n.tmod most := by
      have := Int.lt_tmod_of_pos n h0
      omega
    omega
  by_cases hneg : q < 0
  · have e : IntKind.i64.wrap (q + most) = q + most := i64_small (by omega) (by omega)
    simp (disch := first | omega | (simp only [VH.n_push, VH.n_set]; done) | (simp only [VH.n_push, VH.n_set]; omega)) [-BitVec.toNat_or, -BitVec.toNat_xor, -BitVec.toNat_add, -BitVec.toNat_and, -BitVec.toNat_not, -BitVec.toNat_shiftLeft, -BitVec.toNat_ushiftRight, r_ref02_Count, B_ref02_Count, hm0, ← hq, hneg, e]
    exact ⟨(q + most).toNat, by omega, by omega⟩
  · simp (disch := first | omega | (simp only [VH.n_push, VH.n_set]; done) | (simp only [VH.n_push, VH.n_set]; omega)) [-BitVec.toNat_or, -BitVec.toNat_xor, -BitVec.toNat_add, -BitVec.toNat_and, -BitVec.toNat_not, -BitVec.toNat_shiftLeft, -BitVec.toNat_ushiftRight, r_ref02_Count, B_ref02_Count, hm0, ← hq, hneg]
    exact ⟨q.toNat, by omega, by omega⟩
end Go.Proofs.Ytgkokffmblphnaa.Wr
