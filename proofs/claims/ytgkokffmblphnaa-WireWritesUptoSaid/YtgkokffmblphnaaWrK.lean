/- wire, part K: bytes are spoilt; lists alike; the law of what is written. -/
import Derived.Test.YtgkokffmblphnaaWrJ
set_option linter.unusedVariables false
set_option linter.unusedSimpArgs false
set_option maxRecDepth 100000
namespace Go.Proofs.Ytgkokffmblphnaa.Wr
open Go Go.RowKit Go.Proofs.Ytgkokffmblphnaa.Pm Go.Proofs.Ytgkokffmblphnaa.Fs
attribute [local simp] pw_skip pw_ops pw_quiet pw_seq pw_cond pw_block pw_exit pw_ret pw_scope pw_label kSeq_normal kSeq_ret kSeq_exit kBlock_normal kBlock_ret kBlock_exit kScope_normal kScope_ret kScope_exit kLoop_normal kLoop_ret kLoop_exit kCond_true kCond_false kCond_dec pwOps_nil pwOps_call pwOps_guard kStep_some kCall_at pwQ_nil pwQ_call pwQ_guard kQ_some putS_some putS_none upd_apply ev_t ev_k isB_bool isB_undef s0_apply pstep pwO_mov pwO_pick pwO_nilck pwO_bin pwO_binB pwO_eqNil pwO_un pwO_convI pwO_convS pwO_alloc pwO_build pwO_load pwO_store pwO_fieldAddr pwO_field pwO_idxS pwO_idxA pwO_idxV pwO_strAt pwO_lenStr pwO_lenS pwO_lenC pwO_slS pwO_slA pwO_slStr pwO_extract pwO_mkFunc pwO_mkIface pwO_append pwO_appendStr pwO_toBytes pwO_ofB pwO_box pwO_row pwO_minmax pwO_eqV pwO_sameB pwR_mov pwR_pick pwR_nilck pwR_bin pwR_binB pwR_eqNil pwR_un pwR_convI pwR_convS pwR_build pwR_load pwR_fieldAddr pwR_field pwR_idxS pwR_idxA pwR_idxV pwR_strAt pwR_lenStr pwR_lenS pwR_lenC pwR_slS pwR_slA pwR_slStr pwR_extract pwR_mkFunc pwR_mkIface pwR_ofB pwR_minmax pwR_eqV ret_r ret_n kRet_some resV0 resV1 resV2 resV3 resV4 VH.get_push_new VH.get_set_same VH.n_push VH.n_set cellsL_agg cellsL_int cellsL_bool cellsL_string cellsL_slice cellsL_pointer cellsL_map pw_draw pwD_nil pwD_cons kD_nil kD_cons evalOK_plain evalOK_guard kEv_some dstIs_some dstIs_none pw_goto pw_scopeL kSeq_goto kBlock_goto kLoop_goto kScopeL_normal kScopeL_ret kScopeL_exit kScopeL_goto pwOps_callv kCallv_fn kCallv_yld pwOps_nextM pwO_makeMap pwO_lookup pwR_lookup pwO_mapSet pwO_mapDel pwO_lenM pwR_lenM pwO_mapEntry pwO_entrySet pwO_rangeS pwO_nextS pwO_rangeM pwO_entryM pwR_entryM pwO_copyV pwO_makeSl pwO_asrt pwR_asrt kStep_if kStep_dif kQ_if kQ_dif kEv_if bound_none bound_some toNat_add' toNat_sub' toNat_mul' kLoopN_normal kLoopN_ret kLoopN_exit kLoopN_goto Option.map_some Option.map_none loadAt_obj storeAt_obj rowOf_obj eszIs_obj eszObj_cells loadObj_tab storeObj_tab_int VH.get_set_ne VH.get_push_lt VH.set_set tab_length List.getElem?_cons_zero List.getElem?_cons_succ List.length_cons List.length_nil oneC_int oneC_bool oneC_string oneC_slice oneC_pointer oneC_map srcCells_at srcCells_nil VH.get_push_at isNilV pw_drawT pwT_nil pwT_step pwT_alt kT_nil kT_cons pun pbinS pbin pbinI i64_small IntKind.bits resV resL resOne

theorem xor90 (b : UInt8) : Go.bits .xor .u8 (b.toNat : Int) 90 = ((b ^^^ 90).toNat : Int) := by
  have := bits_xor_u8 b.toBitVec 90#8
  simpa using this
theorem drop_set_u8 {ds : List Value} {o k : Nat} {bs : List UInt8} (h : ds.drop o = u8s bs) (x : UInt8) : (ds.set (o + k) (.int .u8 (x.toNat : Int))).drop o = u8s (bs.set k x) := by
  rw [List.drop_set, if_neg (by omega), show o + k - o = k by omega, h]
  simp [u8s, List.map_set]
set_option maxHeartbeats 2000000 in
theorem spoil_ok {h : VH} {v : Value} {bs : List UInt8} (hs : OwnSl h 1 v (u8s bs) bs.length) (hlen : bs.length ≤ 100000000) : PCalls Try.prog f_ref02_Spoil [v] h (fun u h' => Fr h h' (idOf v)) := by
  refine PCalls_of_pw st_ref02_Spoil (by simp [n_ref02_Spoil]) ?_
  rw [b_ref02_Spoil]
  obtain ⟨L, hL⟩ : ∃ L, L = bs.length := ⟨_, rfl⟩
  obtain ⟨va, vc, rfl⟩ := hs.shapeN
  rw [← hL] at hs ⊢
  simp (disch := first | omega | (simp only [VH.n_push, VH.n_set]; done) | (simp only [VH.n_push, VH.n_set]; omega)) [-BitVec.toNat_or, -BitVec.toNat_xor, -BitVec.toNat_add, -BitVec.toNat_and, -BitVec.toNat_not, -BitVec.toNat_shiftLeft, -BitVec.toNat_ushiftRight, B_ref02_Spoil]
  refine pw_loopN (fun k s g => ∃ bs' : List UInt8, bs'.length = L ∧ OwnSl g 1 (.slice va L vc) (u8s bs') L ∧ Fr h g (idOf (.slice va L vc)) ∧ s 0 = .slice va L vc ∧ s 2 = .int .i64 (k : Int)) L ?_ ?_
  · exact ⟨bs, hL.symm, hs, Fr.refl _ _, by simp [upd_apply, s0_apply], by simp [upd_apply, s0_apply]⟩
  rintro k s g hk ⟨bs', hbl, ho, hf, e0, e2⟩
  by_cases hlt : k < L
  · have hltI : (k : Int) < (L : Int) := by omega
    rcases ho with ⟨h1, _, h3⟩ | ⟨i, o, c, ds, hi, hc, hv, hg, hd, hdl, hole⟩
    · omega
    · injection hv with hv1 _ hv3
      subst hv1
      subst hv3
      have hdsl : ds.length = o + L := by
        have := congrArg List.length hd
        simp at this
        omega
      have hkb : k < bs'.length := by omega
      have hld : loadObj (.cells ds true 1) (o + k) none = some (.int .u8 (bs'[k].toNat : Int)) := by
        rw [loadObj_one]
        have h5 : (ds.drop o)[k]? = some (.int .u8 (bs'[k].toNat : Int)) := by
          rw [hd]
          simp [u8s, List.getElem?_eq_getElem hkb]
        rwa [List.getElem?_drop] at h5
      obtain ⟨X, hX⟩ : ∃ X, X = bs'[k] := ⟨_, rfl⟩
      rw [← hX] at hld
      obtain ⟨Y, hY⟩ : ∃ Y, Y = X ^^^ 90 := ⟨_, rfl⟩
      have hxor := xor90 X
      rw [← hY] at hxor
      have hst := storeObj_int (cs := ds) (e := 1) (o := o + k) (k := .u8) (n := (Y.toNat : Int)) (by omega)
      have eW : IntKind.i64.wrap ((k : Int) + 1) = ((k + 1 : Nat) : Int) := by rw [i64_small (by omega) (by omega)]; omega
      simp (disch := first | omega | (simp only [VH.n_push, VH.n_set]; done) | (simp only [VH.n_push, VH.n_set]; omega)) [-BitVec.toNat_or, -BitVec.toNat_xor, -BitVec.toNat_add, -BitVec.toNat_and, -BitVec.toNat_not, -BitVec.toNat_shiftLeft, -BitVec.toNat_ushiftRight, e0, e2, hltI, hlt, hg, hld, hxor, hst, eW]
      refine ⟨bs'.set k Y, by simpa using hbl, ?_, hf.trans (Fr.set _ _ (by simp [idOf]))⟩
      refine .inr ⟨i, o, vc, ds.set (o + k) (.int .u8 (Y.toNat : Int)), hi, hc, rfl, VH.get_set_same _ _ _, drop_set_u8 hd Y, by simp; omega, by simp; omega⟩
  · obtain rfl : k = L := by omega
    obtain ⟨g1, hg1⟩ : ∃ g1, g1 = g.push (.cells [.int .u8 99] true 1) := ⟨_, rfl⟩
    have hf1 : Fr g g1 [] := by rw [hg1]; exact Fr_push (Fr.refl _ _)
    have hg1o : g1.get g.n = .cells [.int .u8 99] true 1 := by rw [hg1, VH.get_push_new]
    obtain ⟨w', g', hap, ho', hf', hid⟩ := (ho.fr hf1 (fun _ _ => by simp)).append (bytes := 1) (ys := u8s [99]) (k := 1) (by simp [u8s]) (by omega)
    have hap : appendV g1 1 1 (.slice va k vc) [.int .u8 99] 1 = some (w', g') := hap
    have hfill : fillC [.int .u8 0] [(0, 1, .int .u8 99)] = some [.int .u8 99] := rfl
    have hone : [Value.int .u8 99].all Value.oneCell' = true := rfl
    have hrow : rowObj (.cells [.int .u8 99] true 1) 0 1 = some [.int .u8 99] := rfl
    rcases ho' with ⟨h1, _, h3⟩ | ⟨i, o, c, ds, hi, hc, hv, hg, hd, hdl, hole⟩
    · omega
    · have hdsl : ds.length = o + (k + 1) := by
        have := congrArg List.length hd
        simp [u8s] at this
        simp [u8s] at hdl
        omega
      have hst := storeObj_int (cs := ds) (e := 1) (o := o + k) (k := .u8) (n := 98) (by omega)
      have eW : IntKind.i64.wrap ((k : Int) + 1 - 1) = (k : Int) := by rw [i64_small (by omega) (by omega)]; omega
      have hk1 : (k : Int) < (k : Int) + 1 := by omega
      subst hv
      have hlt : k < k + 1 := by omega
      simp (disch := first | omega | (simp only [VH.n_push, VH.n_set]; done) | (simp only [VH.n_push, VH.n_set]; omega)) [-BitVec.toNat_or, -BitVec.toNat_xor, -BitVec.toNat_add, -BitVec.toNat_and, -BitVec.toNat_not, -BitVec.toNat_shiftLeft, -BitVec.toNat_ushiftRight, r_ref02_Spoil, e0, e2, hfill, hone, ← hg1, hg1o, hrow, hap, eW, hk1, hlt, hg, hst]
      have hix : i ∈ idOf (.slice va k vc) ∨ h.n ≤ i := by
        rcases hid i (by simp [idOf]) with h5 | h5
        · exact .inl h5
        · have := hf.n; have := hf1.n; exact .inr (by omega)
      have F1 : Fr h g' (idOf (.slice va k vc)) := (hf.trans (hf1.sub (fun x hx => by simp at hx))).trans hf'
      exact F1.trans' (Fr.set _ _ (X := [i]) (by simp)) (fun y hy => by simp at hy; subst hy; exact hix)

def sameP : List Fd → List Fd → Bool := sameL
set_option maxHeartbeats 2000000 in
theorem wsame_ok {h : VH} {v w : Value} {fs gs : List Fd} (hv : IsFds h v fs) (hw : IsFds h w gs) (hlen : fs.length ≤ 1000000000) : PCalls Try.prog f_wire_Same [v, w] h (fun u h' => u = .bool (sameL fs gs) ∧ Fr h h' []) := by
  refine PCalls_of_pw st_wire_Same (by simp [n_wire_Same]) ?_
  rw [b_wire_Same]
  obtain ⟨va, vc, rfl⟩ := hv.shape
  obtain ⟨wa, wc, rfl⟩ := hw.shape
  obtain ⟨L, hL⟩ : ∃ L, L = fs.length := ⟨_, rfl⟩
  obtain ⟨M, hM⟩ : ∃ M, M = gs.length := ⟨_, rfl⟩
  rw [← hL, ← hM]
  by_cases hne : L = M
  · subst hne
    have hneI : ((L : Int) != (L : Int)) = false := by simp
    simp (disch := first | omega | (simp only [VH.n_push, VH.n_set]; done) | (simp only [VH.n_push, VH.n_set]; omega)) [-BitVec.toNat_or, -BitVec.toNat_xor, -BitVec.toNat_add, -BitVec.toNat_and, -BitVec.toNat_not, -BitVec.toNat_shiftLeft, -BitVec.toNat_ushiftRight, B_wire_Same, hneI]
    refine pw_loopN (fun k s g => Fr h g [] ∧ fs.take k = gs.take k ∧ s 0 = .slice va L vc ∧ s 1 = .slice wa L wc ∧ s 13 = .slice va L vc ∧ s 14 = .int .i64 (L : Int) ∧ s 15 = .int .i64 (k : Int)) L ?_ ?_
    · exact ⟨Fr.refl _ _, by simp, by simp [upd_apply, s0_apply], by simp [upd_apply, s0_apply], by simp [upd_apply, s0_apply], by simp [upd_apply, s0_apply], by simp [upd_apply, s0_apply]⟩
    rintro k s g hk ⟨hf, htk, e0, e1, e13, e14, e15⟩
    by_cases hlt : k < L
    · have hltI : (k : Int) < (L : Int) := by omega
      have hkf : k < fs.length := by omega
      have hkg : k < gs.length := by omega
      obtain ⟨i, o, c, hi, hc, hva, hez, hat⟩ := hv.at_ (by omega)
      rw [← hL] at hva hc
      injection hva with hva1 _ hva3
      subst hva1
      subst hva3
      obtain ⟨j, p, d, hj, hd, hwa, hez2, hat2⟩ := hw.at_ (by omega)
      rw [← hM] at hwa hd
      injection hwa with hwa1 _ hwa3
      subst hwa1
      subst hwa3
      obtain ⟨x, hA⟩ := hat k hkf
      obtain ⟨y, hB⟩ := hat2 k hkg
      have hA := hA.fr hf hi
      have hB := hB.fr hf hj
      have eW : IntKind.i64.wrap ((k : Int) + 1) = ((k + 1 : Nat) : Int) := by rw [i64_small (by omega) (by omega)]; omega
      have htk1 := take_one hkf
      have htk2 := take_one hkg
      have hno : fs[k] ≠ gs[k] → sameL fs gs = false := fun he => sameL_no fun e => he (by subst e; rfl)
      have hiff := @eqF_iff fs[k] gs[k]
      obtain ⟨f, hf'⟩ : ∃ f, f = fs[k] := ⟨_, rfl⟩
      obtain ⟨q, hq'⟩ : ∃ q, q = gs[k] := ⟨_, rfl⟩
      rw [← hf'] at hA hno htk1 hiff
      rw [← hq'] at hB hno htk2 hiff
      obtain ⟨xa, xc, hxv⟩ := hA.bytes.shape
      obtain ⟨ya, yc, hyv⟩ := hB.bytes.shape
      obtain ⟨FL, hFL⟩ : ∃ FL, FL = f.b.length := ⟨_, rfl⟩
      obtain ⟨QL, hQL⟩ : ∃ QL, QL = q.b.length := ⟨_, rfl⟩
      rw [← hFL] at hxv
      rw [← hQL] at hyv
      subst hxv
      subst hyv
      have hx := hA.all
      have hst : ∀ a b c d, storeObj (.cells [a, b, c, d] true 1) 0 4 (fdV f (.slice xa FL xc)) = some (.cells [.int .i64 f.num, .int .i64 f.ty, .int .u64 (f.n : Int), .slice xa FL xc] true 1) := fun _ _ _ _ => rfl
      have hst2 : ∀ a b c d, storeObj (.cells [a, b, c, d] true 1) 0 4 (fdV q (.slice ya QL yc)) = some (.cells [.int .i64 q.num, .int .i64 q.ty, .int .u64 (q.n : Int), .slice ya QL yc] true 1) := fun _ _ _ _ => rfl
      obtain ⟨g1, hg1⟩ : ∃ g1, g1 = (g.push (.cells [.int .i64 0, .int .i64 0, .int .u64 0, .slice none 0 0] true 1)).set g.n (.cells [.int .i64 f.num, .int .i64 f.ty, .int .u64 (f.n : Int), .slice xa FL xc] true 1) := ⟨_, rfl⟩
      have hg1o : g1.get g.n = .cells [.int .i64 f.num, .int .i64 f.ty, .int .u64 (f.n : Int), .slice xa FL xc] true 1 := by rw [hg1, VH.get_set_same]
      have hf1 : Fr g g1 [] := by rw [hg1]; exact Fr_set (Fr_push (Fr.refl _ _)) (Nat.le_refl _)
      have hg1n : g1.n = g.n + 1 := by rw [hg1]; rfl
      have hB1 := hB.fr hf1 (by have := hf.n; omega)
      have hy := hB1.all
      obtain ⟨g2, hg2⟩ : ∃ g2, g2 = (g1.push (.cells [.int .i64 0, .int .i64 0, .int .u64 0, .slice none 0 0] true 1)).set g1.n (.cells [.int .i64 q.num, .int .i64 q.ty, .int .u64 (q.n : Int), .slice ya QL yc] true 1) := ⟨_, rfl⟩
      have hg2o : g2.get g1.n = .cells [.int .i64 q.num, .int .i64 q.ty, .int .u64 (q.n : Int), .slice ya QL yc] true 1 := by rw [hg2, VH.get_set_same]
      have hf2 : Fr g1 g2 [] := by rw [hg2]; exact Fr_set (Fr_push (Fr.refl _ _)) (Nat.le_refl _)
      have hg2p : g2.get g.n = .cells [.int .i64 f.num, .int .i64 f.ty, .int .u64 (f.n : Int), .slice xa FL xc] true 1 := (hf2.get _ (by omega) (by simp)).trans hg1o
      have F2 : Fr g g2 [] := hf1.trans hf2
      have s1 := ofB_eq (isB_fr F2 hA.bytes)
      have s2 := ofB_eq (isB_fr F2 hB.bytes)
      obtain ⟨p1, hp1⟩ : ∃ p, p = (f.num == q.num) := ⟨_, rfl⟩
      obtain ⟨p2, hp2⟩ : ∃ p, p = (f.ty == q.ty) := ⟨_, rfl⟩
      obtain ⟨p3, hp3⟩ : ∃ p, p = ((f.n : Int) == (q.n : Int)) := ⟨_, rfl⟩
      obtain ⟨p4, hp4⟩ : ∃ p, p = (f.b == q.b) := ⟨_, rfl⟩
      have n1 : (f.num != q.num) = !p1 := by rw [hp1]; rfl
      have n2 : (f.ty != q.ty) = !p2 := by rw [hp2]; rfl
      have n3 : ((f.n : Int) != (q.n : Int)) = !p3 := by rw [hp3]; rfl
      have hres : eqF f q = (p1 && (p2 && (p3 && p4))) := by unfold eqF; rw [hp1, hp2, hp3, hp4]
      rw [hres] at hiff
      have hne : (p1 && (p2 && (p3 && p4))) = false → sameL fs gs = false := fun e => hno fun e2 => by rw [hiff.2 e2] at e; cases e
      have FF := hf.trans F2
      cases p1
      · rw [hne rfl]
        simp (disch := first | omega | (simp only [VH.n_push, VH.n_set]; done) | (simp only [VH.n_push, VH.n_set]; omega)) [-BitVec.toNat_or, -BitVec.toNat_xor, -BitVec.toNat_add, -BitVec.toNat_and, -BitVec.toNat_not, -BitVec.toNat_shiftLeft, -BitVec.toNat_ushiftRight, r_wire_Same, e0, e1, e13, e14, e15, hltI, hlt, hx, hst, ← hg1, hy, hst2, ← hg2, hg2p, hg2o, ld4_0, n1]
        exact FF
      cases p2
      · rw [hne rfl]
        simp (disch := first | omega | (simp only [VH.n_push, VH.n_set]; done) | (simp only [VH.n_push, VH.n_set]; omega)) [-BitVec.toNat_or, -BitVec.toNat_xor, -BitVec.toNat_add, -BitVec.toNat_and, -BitVec.toNat_not, -BitVec.toNat_shiftLeft, -BitVec.toNat_ushiftRight, r_wire_Same, e0, e1, e13, e14, e15, hltI, hlt, hx, hst, ← hg1, hy, hst2, ← hg2, hg2p, hg2o, ld4_0, ld4_1, n1, n2]
        exact FF
      cases p3
      · rw [hne rfl]
        simp (disch := first | omega | (simp only [VH.n_push, VH.n_set]; done) | (simp only [VH.n_push, VH.n_set]; omega)) [-BitVec.toNat_or, -BitVec.toNat_xor, -BitVec.toNat_add, -BitVec.toNat_and, -BitVec.toNat_not, -BitVec.toNat_shiftLeft, -BitVec.toNat_ushiftRight, r_wire_Same, e0, e1, e13, e14, e15, hltI, hlt, hx, hst, ← hg1, hy, hst2, ← hg2, hg2p, hg2o, ld4_0, ld4_1, ld4_2, n1, n2, n3]
        exact FF
      cases p4
      · rw [hne rfl]
        simp (disch := first | omega | (simp only [VH.n_push, VH.n_set]; done) | (simp only [VH.n_push, VH.n_set]; omega)) [-BitVec.toNat_or, -BitVec.toNat_xor, -BitVec.toNat_add, -BitVec.toNat_and, -BitVec.toNat_not, -BitVec.toNat_shiftLeft, -BitVec.toNat_ushiftRight, r_wire_Same, e0, e1, e13, e14, e15, hltI, hlt, hx, hst, ← hg1, hy, hst2, ← hg2, hg2p, hg2o, ld4_0, ld4_1, ld4_2, ld4_3, n1, n2, n3, s1, s2, strB_toList, ← hp4]
        exact FF
      · have heq : f = q := hiff.1 rfl
        simp (disch := first | omega | (simp only [VH.n_push, VH.n_set]; done) | (simp only [VH.n_push, VH.n_set]; omega)) [-BitVec.toNat_or, -BitVec.toNat_xor, -BitVec.toNat_add, -BitVec.toNat_and, -BitVec.toNat_not, -BitVec.toNat_shiftLeft, -BitVec.toNat_ushiftRight, e0, e1, e13, e14, e15, hltI, hlt, hx, hst, ← hg1, hy, hst2, ← hg2, hg2p, hg2o, ld4_0, ld4_1, ld4_2, ld4_3, n1, n2, n3, s1, s2, strB_toList, ← hp4, eW]
        refine ⟨FF, ?_⟩
        rw [htk1, htk2, htk, heq]
    · obtain rfl : k = L := by omega
      have e : fs = gs := by
        have h1 : fs.take k = fs := by rw [hL]; exact List.take_length
        have h2 : gs.take k = gs := by rw [hM]; exact List.take_length
        rw [← h1, ← h2, htk]
      rw [sameL_iff.2 e]
      simp (disch := first | omega | (simp only [VH.n_push, VH.n_set]; done) | (simp only [VH.n_push, VH.n_set]; omega)) [-BitVec.toNat_or, -BitVec.toNat_xor, -BitVec.toNat_add, -BitVec.toNat_and, -BitVec.toNat_not, -BitVec.toNat_shiftLeft, -BitVec.toNat_ushiftRight, r_wire_Same, e0, e1, e13, e14, e15]
      exact hf
  · have hneI : ((L : Int) != (M : Int)) = true := by simp; omega
    have hno : sameL fs gs = false := sameL_no fun e => hne (by rw [hL, hM, e])
    rw [hno]
    simp (disch := first | omega | (simp only [VH.n_push, VH.n_set]; done) | (simp only [VH.n_push, VH.n_set]; omega)) [-BitVec.toNat_or, -BitVec.toNat_xor, -BitVec.toNat_add, -BitVec.toNat_and, -BitVec.toNat_not, -BitVec.toNat_shiftLeft, -BitVec.toNat_ushiftRight, r_wire_Same, B_wire_Same, hneI]
    exact Fr.refl _ _
end Go.Proofs.Ytgkokffmblphnaa.Wr
