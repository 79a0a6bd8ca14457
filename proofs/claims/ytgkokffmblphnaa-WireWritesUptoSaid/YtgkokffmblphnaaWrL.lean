/- wire, part L: the law of what is written. -/
import Derived.Test.YtgkokffmblphnaaWrK
set_option linter.unusedVariables false
set_option linter.unusedSimpArgs false
set_option maxRecDepth 100000
namespace Go.Proofs.Ytgkokffmblphnaa.Wr
open Go Go.RowKit Go.Proofs.Ytgkokffmblphnaa.Pm Go.Proofs.Ytgkokffmblphnaa.Fs
attribute [local simp] pw_skip pw_ops pw_quiet pw_seq pw_cond pw_block pw_exit pw_ret pw_scope pw_label kSeq_normal kSeq_ret kSeq_exit kBlock_normal kBlock_ret kBlock_exit kScope_normal kScope_ret kScope_exit kLoop_normal kLoop_ret kLoop_exit kCond_true kCond_false kCond_dec pwOps_nil pwOps_call pwOps_guard kStep_some kCall_at pwQ_nil pwQ_call pwQ_guard kQ_some putS_some putS_none upd_apply ev_t ev_k isB_bool isB_undef s0_apply pstep pwO_mov pwO_pick pwO_nilck pwO_bin pwO_binB pwO_eqNil pwO_un pwO_convI pwO_convS pwO_alloc pwO_build pwO_load pwO_store pwO_fieldAddr pwO_field pwO_idxS pwO_idxA pwO_idxV pwO_strAt pwO_lenStr pwO_lenS pwO_lenC pwO_slS pwO_slA pwO_slStr pwO_extract pwO_mkFunc pwO_mkIface pwO_append pwO_appendStr pwO_toBytes pwO_ofB pwO_box pwO_row pwO_minmax pwO_eqV pwO_sameB pwR_mov pwR_pick pwR_nilck pwR_bin pwR_binB pwR_eqNil pwR_un pwR_convI pwR_convS pwR_build pwR_load pwR_fieldAddr pwR_field pwR_idxS pwR_idxA pwR_idxV pwR_strAt pwR_lenStr pwR_lenS pwR_lenC pwR_slS pwR_slA pwR_slStr pwR_extract pwR_mkFunc pwR_mkIface pwR_ofB pwR_minmax pwR_eqV ret_r ret_n kRet_some resV0 resV1 resV2 resV3 resV4 VH.get_push_new VH.get_set_same VH.n_push VH.n_set cellsL_agg cellsL_int cellsL_bool cellsL_string cellsL_slice cellsL_pointer cellsL_map pw_draw pwD_nil pwD_cons kD_nil kD_cons evalOK_plain evalOK_guard kEv_some dstIs_some dstIs_none pw_goto pw_scopeL kSeq_goto kBlock_goto kLoop_goto kScopeL_normal kScopeL_ret kScopeL_exit kScopeL_goto pwOps_callv kCallv_fn kCallv_yld pwOps_nextM pwO_makeMap pwO_lookup pwR_lookup pwO_mapSet pwO_mapDel pwO_lenM pwR_lenM pwO_mapEntry pwO_entrySet pwO_rangeS pwO_nextS pwO_rangeM pwO_entryM pwR_entryM pwO_copyV pwO_makeSl pwO_asrt pwR_asrt kStep_if kStep_dif kQ_if kQ_dif kEv_if bound_none bound_some toNat_add' toNat_sub' toNat_mul' kLoopN_normal kLoopN_ret kLoopN_exit kLoopN_goto Option.map_some Option.map_none loadAt_obj storeAt_obj rowOf_obj eszIs_obj eszObj_cells loadObj_tab storeObj_tab_int VH.get_set_ne VH.get_push_lt VH.set_set tab_length List.getElem?_cons_zero List.getElem?_cons_succ List.length_cons List.length_nil oneC_int oneC_bool oneC_string oneC_slice oneC_pointer oneC_map srcCells_at srcCells_nil VH.get_push_at isNilV pw_drawT pwT_nil pwT_step pwT_alt kT_nil kT_cons pun pbinS pbin pbinI i64_small IntKind.bits resV resL resOne

theorem fds_one {g : VH} {F : Fd} {p : Option Addr} {q r : Nat} (hb : IsBytes (g.push (.cells (fdL F (.slice p q r)) true 4)) (.slice p q r) F.b) : IsFds (g.push (.cells (fdL F (.slice p q r)) true 4)) (.slice (some ⟨g.n, 0, none⟩) 1 1) [F] :=
  .inr ⟨g.n, 0, 1, _, true, by simp, by simp, rfl, VH.get_push_new _ _, by simp [fdL], FdL.one hb⟩
theorem OwB.inv {g : VH} : ∀ {cs : List Value} {x : Fd} {fs : List Fd} {ids : List Nat}, OwB g cs (x :: fs) ids → ∃ a b c w r rest, cs = a :: b :: c :: w :: r ∧ ids = idOf w ++ rest ∧ OwnSl g 1 w (u8s x.b) x.b.length ∧ OwB g r fs rest
  | a :: b :: c :: w :: r, x, fs, ids, ⟨rest, e, h1, h2, h3⟩ => ⟨a, b, c, w, r, rest, rfl, e, h2, h3⟩
  | [], _, _, _, h => h.elim
  | [_], _, _, _, h => h.elim
  | [_, _], _, _, _, h => h.elim
  | [_, _, _], _, _, _, h => h.elim
set_option maxHeartbeats 8000000 in
theorem writes_ok' {h : VH} {v w : Value} {fs gs : List Fd} {num : Int} (hv : IsFds h v fs) (hw : IsFds h w gs) (hvf : ∀ f ∈ fs, f.wf ∧ f.b.length ≤ 1048576) (hwf : ∀ f ∈ gs, f.wf ∧ f.b.length ≤ 1048576) (hfl : fs.length ≤ 1048576) (hgl : gs.length ≤ 1048576) :
    PCalls Try.prog f_law02_WireWrites [v, w, .int .i64 num] h (fun u _ => u = .bool true) := by
  refine PCalls_of_pw st_law02_WireWrites (by simp [n_law02_WireWrites]) ?_
  rw [b_law02_WireWrites]
  simp (disch := first | omega | (simp only [VH.n_push, VH.n_set]; done) | (simp only [VH.n_push, VH.n_set]; omega)) [-BitVec.toNat_or, -BitVec.toNat_xor, -BitVec.toNat_add, -BitVec.toNat_and, -BitVec.toNat_not, -BitVec.toNat_shiftLeft, -BitVec.toNat_ushiftRight, B_law02_WireWrites]
  refine (given_ok hv (fun f hf => by have := (hvf f hf).2; omega) (by omega)).mono ?_
  rintro u g1 ⟨a1, n1, c1, rfl, B1⟩
  simp (disch := first | omega | (simp only [VH.n_push, VH.n_set]; done) | (simp only [VH.n_push, VH.n_set]; omega)) [-BitVec.toNat_or, -BitVec.toNat_xor, -BitVec.toNat_add, -BitVec.toNat_and, -BitVec.toNat_not, -BitVec.toNat_shiftLeft, -BitVec.toNat_ushiftRight]
  refine (write_ok B1.is (fun f hf => (hvf f hf).1) (fun f hf => by have := (hvf f hf).2; omega) (by omega)).mono ?_
  rintro u g2 ⟨a2, n2, c2, rfl, B2⟩
  simp (disch := first | omega | (simp only [VH.n_push, VH.n_set]; done) | (simp only [VH.n_push, VH.n_set]; omega)) [-BitVec.toNat_or, -BitVec.toNat_xor, -BitVec.toNat_add, -BitVec.toNat_and, -BitVec.toNat_not, -BitVec.toNat_shiftLeft, -BitVec.toNat_ushiftRight]
  have F2 := B1.fr.trans B2.fr
  refine (rwrite_ok (hv.fr F2) (fun f hf => (hvf f hf).1) (fun f hf => by have := (hvf f hf).2; omega) (by omega)).mono ?_
  rintro u g3 ⟨a3, n3, c3, rfl, B3⟩
  have o1 := ofB_eq (isB_fr B3.fr B2.is)
  have o2 := ofB_eq B3.is
  have F13 : Fr g1 g3 [] := B2.fr.trans B3.fr
  have F3 := B1.fr.trans F13
  simp (disch := first | omega | (simp only [VH.n_push, VH.n_set]; done) | (simp only [VH.n_push, VH.n_set]; omega)) [-BitVec.toNat_or, -BitVec.toNat_xor, -BitVec.toNat_add, -BitVec.toNat_and, -BitVec.toNat_not, -BitVec.toNat_shiftLeft, -BitVec.toNat_ushiftRight, o1, o2]
  refine (taken_ok (B1.is.fr F13) (by omega)).mono ?_
  rintro u g4 ⟨a4, n4, c4, rfl, B4⟩
  have F14 := F13.trans B4.fr
  have F4 := B1.fr.trans F14
  simp (disch := first | omega | (simp only [VH.n_push, VH.n_set]; done) | (simp only [VH.n_push, VH.n_set]; omega)) [-BitVec.toNat_or, -BitVec.toNat_xor, -BitVec.toNat_add, -BitVec.toNat_and, -BitVec.toNat_not, -BitVec.toNat_shiftLeft, -BitVec.toNat_ushiftRight]
  refine (same_ok B4.is (hv.fr F4) (by omega)).mono ?_
  rintro u g5 ⟨rfl, hf5⟩
  rw [sameL_refl]
  have F15 := F14.trans hf5
  have F5 := B1.fr.trans F15
  -- the bytes are spoilt
  have hbn : (writeS fs).1.length ≤ 1048576 := by
    unfold writeS
    split
    · simp
    split
    · simp
    split
    · simp
    · dsimp only; omega
  have hown : OwnSl g5 1 (.slice a2 n2 c2) (u8s (writeS fs).1) (writeS fs).1.length := ((B2.own.fr B3.fr (fun _ _ => by simp)).fr B4.fr (fun _ _ => by simp)).fr hf5 (fun _ _ => by simp)
  simp (disch := first | omega | (simp only [VH.n_push, VH.n_set]; done) | (simp only [VH.n_push, VH.n_set]; omega)) [-BitVec.toNat_or, -BitVec.toNat_xor, -BitVec.toNat_add, -BitVec.toNat_and, -BitVec.toNat_not, -BitVec.toNat_shiftLeft, -BitVec.toNat_ushiftRight]
  refine (spoil_ok hown (by omega)).mono ?_
  intro u g6 hf6
  have F16 : Fr g1 g6 [] := F15.trans' hf6 (fun y hy => .inr (B2.ids y hy))
  have F6 := B1.fr.trans F16
  have Bi6 := B1.is.fr F16
  simp (disch := first | omega | (simp only [VH.n_push, VH.n_set]; done) | (simp only [VH.n_push, VH.n_set]; omega)) [-BitVec.toNat_or, -BitVec.toNat_xor, -BitVec.toNat_add, -BitVec.toNat_and, -BitVec.toNat_not, -BitVec.toNat_shiftLeft, -BitVec.toNat_ushiftRight]
  refine (last_ok (num := num) Bi6 (fun f hf => by have := (hvf f hf).2; omega) (by omega)).mono ?_
  rintro u g7 ⟨p7, q7, r7, rfl, hf7, hb7⟩
  obtain ⟨F, hF⟩ : ∃ F, F = (lastF fs num).1 := ⟨_, rfl⟩
  obtain ⟨b, hb⟩ : ∃ b, b = (lastF fs num).2 := ⟨_, rfl⟩
  rw [← hF] at hb7 ⊢
  rw [← hb]
  have hst7 : ∀ a b c d, storeObj (.cells [a, b, c, d] true 1) 0 4 (fdV F (.slice p7 q7 r7)) = some (.cells (fdL F (.slice p7 q7 r7)) true 1) := fun _ _ _ _ => rfl
  simp (disch := first | omega | (simp only [VH.n_push, VH.n_set]; done) | (simp only [VH.n_push, VH.n_set]; omega)) [-BitVec.toNat_or, -BitVec.toNat_xor, -BitVec.toNat_add, -BitVec.toNat_and, -BitVec.toNat_not, -BitVec.toNat_shiftLeft, -BitVec.toNat_ushiftRight, hst7]
  obtain ⟨g8, hg8⟩ : ∃ g8, g8 = (g7.push (.cells [.int .i64 0, .int .i64 0, .int .u64 0, .slice none 0 0] true 1)).set g7.n (.cells (fdL F (.slice p7 q7 r7)) true 1) := ⟨_, rfl⟩
  have hg8o : g8.get g7.n = .cells (fdL F (.slice p7 q7 r7)) true 1 := by rw [hg8, VH.get_set_same]
  have hf8 : Fr g7 g8 [] := by rw [hg8]; exact Fr_set (Fr_push (Fr.refl _ _)) (Nat.le_refl _)
  have hg8n : g8.n = g7.n + 1 := by rw [hg8]; rfl
  rw [← hg8]
  have F68 := hf7.trans hf8
  refine (rlast_ok (num := num) (hv.fr (F6.trans F68)) (by omega)).mono ?_
  rintro u g9 ⟨p9, q9, r9, rfl, hf9, hb9⟩
  rw [← hF] at hb9 ⊢
  rw [← hb]
  have hst9 : ∀ a b c d, storeObj (.cells [a, b, c, d] true 1) 0 4 (fdV F (.slice p9 q9 r9)) = some (.cells (fdL F (.slice p9 q9 r9)) true 1) := fun _ _ _ _ => rfl
  simp (disch := first | omega | (simp only [VH.n_push, VH.n_set]; done) | (simp only [VH.n_push, VH.n_set]; omega)) [-BitVec.toNat_or, -BitVec.toNat_xor, -BitVec.toNat_add, -BitVec.toNat_and, -BitVec.toNat_not, -BitVec.toNat_shiftLeft, -BitVec.toNat_ushiftRight, hst9]
  obtain ⟨g10, hg10⟩ : ∃ g10, g10 = (g9.push (.cells [.int .i64 0, .int .i64 0, .int .u64 0, .slice none 0 0] true 1)).set g9.n (.cells (fdL F (.slice p9 q9 r9)) true 1) := ⟨_, rfl⟩
  have hg10o : g10.get g9.n = .cells (fdL F (.slice p9 q9 r9)) true 1 := by rw [hg10, VH.get_set_same]
  have hf10 : Fr g9 g10 [] := by rw [hg10]; exact Fr_set (Fr_push (Fr.refl _ _)) (Nat.le_refl _)
  have hg10n : g10.n = g9.n + 1 := by rw [hg10]; rfl
  rw [← hg10]
  have F6a := F68.trans (hf9.trans hf10)
  have Bia := Bi6.fr F6a
  have hg10p : g10.get g7.n = .cells (fdL F (.slice p7 q7 r7)) true 1 := (hf10.get _ (by have := hf9.n; omega) (by simp)).trans ((hf9.get _ (by omega) (by simp)).trans hg8o)
  refine (all_ok (num := num) Bia (fun f hf => by have := (hvf f hf).2; omega) (by omega)).mono ?_
  rintro u g11 ⟨a11, n11, c11, rfl, B11⟩
  have F6b := F6a.trans B11.fr
  have Fb : Fr h g11 [] := F6.trans F6b
  have hb7' := isB_fr (hf8.trans ((hf9.trans hf10).trans B11.fr)) hb7
  have hb9' := isB_fr (hf10.trans B11.fr) hb9
  have hg11p : g11.get g7.n = .cells (fdL F (.slice p7 q7 r7)) true 1 := (B11.fr.get _ (by have := hf9.n; omega) (by simp)).trans hg10p
  have hg11q : g11.get g9.n = .cells (fdL F (.slice p9 q9 r9)) true 1 := (B11.fr.get _ (by omega) (by simp)).trans hg10o
  have hl7 : loadObj (.cells (fdL F (.slice p7 q7 r7)) true 1) 0 (some 4) = some (fdV F (.slice p7 q7 r7)) := rfl
  have hl9 : loadObj (.cells (fdL F (.slice p9 q9 r9)) true 1) 0 (some 4) = some (fdV F (.slice p9 q9 r9)) := rfl
  have hfl7 : fillC [.int .i64 0, .int .i64 0, .int .u64 0, .slice none 0 0] [(0, 4, fdV F (.slice p7 q7 r7))] = some (fdL F (.slice p7 q7 r7)) := rfl
  have hfl9 : fillC [.int .i64 0, .int .i64 0, .int .u64 0, .slice none 0 0] [(0, 4, fdV F (.slice p9 q9 r9))] = some (fdL F (.slice p9 q9 r9)) := rfl
  have hone7 : (fdL F (.slice p7 q7 r7)).all Value.oneCell' = true := rfl
  have hone9 : (fdL F (.slice p9 q9 r9)).all Value.oneCell' = true := rfl
  have lt7 : g7.n < g11.n := by have := hf9.n; have := B11.fr.n; omega
  have lt9 : g9.n < g11.n := by have := B11.fr.n; omega
  simp (disch := first | omega | (simp only [VH.n_push, VH.n_set]; done) | (simp only [VH.n_push, VH.n_set]; omega)) [-BitVec.toNat_or, -BitVec.toNat_xor, -BitVec.toNat_add, -BitVec.toNat_and, -BitVec.toNat_not, -BitVec.toNat_shiftLeft, -BitVec.toNat_ushiftRight, hg11p, hg11q, hl7, hl9, hfl7, hfl9, hone7, hone9]
  generalize hKK : kSeq Try.prog _ _ = KK
  have tail : ∀ (s : Slots) (g : VH), Fr g11 g [] → s 0 = v → s 1 = w → s 7 = .slice a1 n1 c1 → s 16 = .slice a11 n11 c11 → s 84 = .bool false → KK .normal s g := by
    intro s g hf e0 e1 e7 e16 e84
    rw [← hKK]
    obtain ⟨cs, ids, o1, o2, o3, o4⟩ := B11.own
    obtain ⟨AL, hAL⟩ : ∃ A, A = allF fs num := ⟨_, rfl⟩
    have hal := allF_len fs num
    have hbl : ∀ x ∈ AL, x.b.length ≤ 1048576 := by
      rw [hAL]
      intro x hx
      exact (hvf x (List.mem_filter.1 hx).1).2
    rw [← hAL] at o1 o2 hal
    have hn11 : n11 = AL.length := by
      obtain ⟨a', c', h1⟩ := o1.shape
      obtain ⟨a', c', h2⟩ := B11.fbuf.shape
      injection h2 with _ h2 _
      rw [h2, hAL]
    simp (disch := first | omega | (simp only [VH.n_push, VH.n_set]; done) | (simp only [VH.n_push, VH.n_set]; omega)) [-BitVec.toNat_or, -BitVec.toNat_xor, -BitVec.toNat_add, -BitVec.toNat_and, -BitVec.toNat_not, -BitVec.toNat_shiftLeft, -BitVec.toNat_ushiftRight, e84]
    refine pw_loopN (fun k s g => ∃ ids, Fr h g [] ∧ Fr g1 g [] ∧ OwnSl g 4 (.slice a11 n11 c11) cs n11 ∧ OwB g (cs.drop (4 * k)) (AL.drop k) ids ∧ ids.Nodup ∧ (∀ i ∈ ids, g6.n ≤ i) ∧ s 0 = v ∧ s 1 = w ∧ s 7 = .slice a1 n1 c1 ∧ s 16 = .slice a11 n11 c11 ∧ s 17 = .int .i64 (k : Int)) n11 ?_ ?_
    · refine ⟨ids, Fb.trans hf, F16.trans (F6b.trans hf), ?_, ?_, o3, fun i hi => Nat.le_trans F6a.n (o4 i hi), by simp [upd_apply, e0], by simp [upd_apply, e1], by simp [upd_apply, e7], by simp [upd_apply, e16], by simp [upd_apply]⟩
      · have := o1.fr hf (fun _ _ => by simp)
        rwa [← hn11] at this
      · simpa using o2.fr hf (fun _ _ => by simp)
    rintro k s g hk ⟨ids, hfh, hf1, ho1, ho2, ho3, ho4, e0, e1, e7, e16, e17⟩
    by_cases hlt : k < n11
    · have hltI : (k : Int) < (n11 : Int) := by omega
      have hkA : k < AL.length := by omega
      have hdr : AL.drop k = AL[k] :: AL.drop (k + 1) := List.drop_eq_getElem_cons hkA
      have hxb := hbl AL[k] (List.getElem_mem hkA)
      rw [hdr] at ho2
      obtain ⟨xa, xb, xc, xw, xr, rest, hcs, rfl, hxo, hrest⟩ := ho2.inv
      rw [List.nodup_append] at ho3
      have hr4 : cs.drop (4 * (k + 1)) = xr := by
        rw [show 4 * (k + 1) = 4 * k + 4 by omega, ← List.drop_drop, hcs]
        rfl
      rcases ho1 with ⟨h1, _, h3⟩ | ⟨i, o, c, ds, hi, hc, hvv, hg, hd, hdl, hole⟩
      · omega
      injection hvv with hv1 _ hv3
      subst hv1
      subst hv3
      have hld : loadObj (.cells ds true 4) (o + k * 4 + 3) none = some xw := by
        rw [loadObj_one]
        have h5 : (ds.drop o)[4 * k + 3]? = some xw := by
          rw [hd]
          have h6 : (cs.drop (4 * k))[3]? = some xw := by rw [hcs]; rfl
          rwa [List.getElem?_drop] at h6
        rw [List.getElem?_drop] at h5
        rwa [show o + (4 * k + 3) = o + k * 4 + 3 by omega] at h5
      obtain ⟨wa, wc, hwv⟩ := hxo.shapeN
      have eW : IntKind.i64.wrap ((k : Int) + 1) = ((k + 1 : Nat) : Int) := by rw [i64_small (by omega) (by omega)]; omega
      simp (disch := first | omega | (simp only [VH.n_push, VH.n_set]; done) | (simp only [VH.n_push, VH.n_set]; omega)) [-BitVec.toNat_or, -BitVec.toNat_xor, -BitVec.toNat_add, -BitVec.toNat_and, -BitVec.toNat_not, -BitVec.toNat_shiftLeft, -BitVec.toNat_ushiftRight, e0, e1, e7, e16, e17, hltI, hlt, hg, hld]
      refine (spoil_ok hxo (by omega)).mono ?_
      intro u g' hfs
      have hni : i ∉ idOf xw := fun hx => by
        obtain ⟨d1, e2⟩ := OwnSl.cells hxo i hx
        rw [hg] at e2
        injection e2 with _ _ e3
        exact absurd e3 (by decide)
      have hge : ∀ y ∈ idOf xw, g6.n ≤ y := fun y hy => ho4 y (List.mem_append_left _ hy)
      simp (disch := first | omega | (simp only [VH.n_push, VH.n_set]; done) | (simp only [VH.n_push, VH.n_set]; omega)) [-BitVec.toNat_or, -BitVec.toNat_xor, -BitVec.toNat_add, -BitVec.toNat_and, -BitVec.toNat_not, -BitVec.toNat_shiftLeft, -BitVec.toNat_ushiftRight, e0, e1, e7, e16, e17, eW]
      refine ⟨hlt, hfh.trans' hfs (fun y hy => .inr ?_), hf1.trans' hfs (fun y hy => .inr ?_), ?_, rest, ?_, ho3.2.1, fun y hy => ho4 y (List.mem_append_right _ hy)⟩
      · have := hge y hy; have := F6.n; omega
      · have := hge y hy; have := F16.n; omega
      · exact .inr ⟨i, o, c11, ds, Nat.lt_of_lt_of_le hi hfs.n, hc, rfl, (hfs.get i hi hni).trans hg, hd, hdl, hole⟩
      · rw [hr4]
        exact hrest.fr hfs (fun y hy hx => ho3.2.2 y hx y hy rfl)
    · obtain rfl : k = n11 := by omega
      have B1' := B1.is.fr hf1
      simp (disch := first | omega | (simp only [VH.n_push, VH.n_set]; done) | (simp only [VH.n_push, VH.n_set]; omega)) [-BitVec.toNat_or, -BitVec.toNat_xor, -BitVec.toNat_add, -BitVec.toNat_and, -BitVec.toNat_not, -BitVec.toNat_shiftLeft, -BitVec.toNat_ushiftRight, e0, e1, e7, e16, e17]
      refine (taken_ok B1' (by omega)).mono ?_
      rintro u g14 ⟨a14, n14, c14, rfl, B14⟩
      have F14' := hfh.trans B14.fr
      simp (disch := first | omega | (simp only [VH.n_push, VH.n_set]; done) | (simp only [VH.n_push, VH.n_set]; omega)) [-BitVec.toNat_or, -BitVec.toNat_xor, -BitVec.toNat_add, -BitVec.toNat_and, -BitVec.toNat_not, -BitVec.toNat_shiftLeft, -BitVec.toNat_ushiftRight, e0, e1, e7]
      refine (same_ok B14.is (hv.fr F14') (by omega)).mono ?_
      rintro u g15 ⟨rfl, hf15⟩
      rw [sameL_refl]
      have F15' := F14'.trans hf15
      simp (disch := first | omega | (simp only [VH.n_push, VH.n_set]; done) | (simp only [VH.n_push, VH.n_set]; omega)) [-BitVec.toNat_or, -BitVec.toNat_xor, -BitVec.toNat_add, -BitVec.toNat_and, -BitVec.toNat_not, -BitVec.toNat_shiftLeft, -BitVec.toNat_ushiftRight, e0, e1, e7]
      refine (given_ok (hw.fr F15') (fun f hf => by have := (hwf f hf).2; omega) (by omega)).mono ?_
      rintro u g16 ⟨a16, n16, c16, rfl, B16⟩
      have F16' := F15'.trans B16.fr
      simp (disch := first | omega | (simp only [VH.n_push, VH.n_set]; done) | (simp only [VH.n_push, VH.n_set]; omega)) [-BitVec.toNat_or, -BitVec.toNat_xor, -BitVec.toNat_add, -BitVec.toNat_and, -BitVec.toNat_not, -BitVec.toNat_shiftLeft, -BitVec.toNat_ushiftRight, e0, e1, e7]
      refine (wsame_ok (B1'.fr ((B14.fr.trans hf15).trans B16.fr)) B16.is (by omega)).mono ?_
      rintro u g17 ⟨rfl, hf17⟩
      have F17' := F16'.trans hf17
      simp (disch := first | omega | (simp only [VH.n_push, VH.n_set]; done) | (simp only [VH.n_push, VH.n_set]; omega)) [-BitVec.toNat_or, -BitVec.toNat_xor, -BitVec.toNat_add, -BitVec.toNat_and, -BitVec.toNat_not, -BitVec.toNat_shiftLeft, -BitVec.toNat_ushiftRight, e0, e1, e7]
      refine (same_ok (hv.fr F17') (hw.fr F17') (by omega)).mono ?_
      rintro u g18 ⟨rfl, hf18⟩
      have hbb : ((sameL fs gs == sameL fs gs) != false) = true := by cases sameL fs gs <;> rfl
      simp (disch := first | omega | (simp only [VH.n_push, VH.n_set]; done) | (simp only [VH.n_push, VH.n_set]; omega)) [-BitVec.toNat_or, -BitVec.toNat_xor, -BitVec.toNat_add, -BitVec.toNat_and, -BitVec.toNat_not, -BitVec.toNat_shiftLeft, -BitVec.toNat_ushiftRight, hbb]
      refine (known_ok _).mono ?_
      rintro u g' ⟨rfl, rfl⟩
      simp (disch := first | omega | (simp only [VH.n_push, VH.n_set]; done) | (simp only [VH.n_push, VH.n_set]; omega)) [-BitVec.toNat_or, -BitVec.toNat_xor, -BitVec.toNat_add, -BitVec.toNat_and, -BitVec.toNat_not, -BitVec.toNat_shiftLeft, -BitVec.toNat_ushiftRight, r_law02_WireWrites]
  have hbb : ((b == b) != true) = false := by cases b <;> rfl
  obtain ⟨L7, hL7⟩ : ∃ X, X = VObj.cells (fdL F (.slice p7 q7 r7)) true 4 := ⟨_, rfl⟩
  obtain ⟨L9, hL9⟩ : ∃ X, X = VObj.cells (fdL F (.slice p9 q9 r9)) true 4 := ⟨_, rfl⟩
  refine ⟨⟨?_, ?_⟩, ?_⟩
  · have hFa : Fr g11 (g11.push L7) [] := Fr_push (Fr.refl _ _)
    have hi7 := fds_one (isB_fr (by rw [hL7] at hFa; exact hFa) hb7')
    refine (taken_ok hi7 (by simp)).mono ?_
    rintro u g12 ⟨a12, n12, c12, rfl, B12⟩
    rw [← hL7] at B12
    have F12 := hFa.trans B12.fr
    have x7 : g12.get g7.n = .cells (fdL F (.slice p7 q7 r7)) true 1 := (F12.get _ lt7 (by simp)).trans hg11p
    have x9 : g12.get g9.n = .cells (fdL F (.slice p9 q9 r9)) true 1 := (F12.get _ lt9 (by simp)).trans hg11q
    have lt12 : g11.n < g12.n := by have := B12.fr.n; simp at this; omega
    have l7' : g7.n < g12.n := by omega
    have l9' : g9.n < g12.n := by omega
    simp (disch := first | omega | (simp only [VH.n_push, VH.n_set]; done) | (simp only [VH.n_push, VH.n_set]; omega)) [-BitVec.toNat_or, -BitVec.toNat_xor, -BitVec.toNat_add, -BitVec.toNat_and, -BitVec.toNat_not, -BitVec.toNat_shiftLeft, -BitVec.toNat_ushiftRight, x7, x9, hl7, hl9, hfl9, hone9]
    have hFb : Fr g12 (g12.push L9) [] := Fr_push (Fr.refl _ _)
    have hi9 := fds_one (isB_fr (F12.trans (by rw [hL9] at hFb; exact hFb)) hb9')
    refine (same_ok (B12.is.fr (by rw [hL9] at hFb; exact hFb)) hi9 (by simp)).mono ?_
    rintro u g13 ⟨rfl, hf13⟩
    rw [sameL_refl]
    rw [← hL9] at hf13
    have F13' := F12.trans (hFb.trans hf13)
    simp (disch := first | omega | (simp only [VH.n_push, VH.n_set]; done) | (simp only [VH.n_push, VH.n_set]; omega)) [-BitVec.toNat_or, -BitVec.toNat_xor, -BitVec.toNat_add, -BitVec.toNat_and, -BitVec.toNat_not, -BitVec.toNat_shiftLeft, -BitVec.toNat_ushiftRight, hbb]
    refine (taken_ok (B11.fbuf.is.fr F13') (by have := allF_len fs num; omega)).mono ?_
    rintro u g14 ⟨a14, n14, c14, rfl, B14⟩
    have F14' := F13'.trans B14.fr
    simp (disch := first | omega | (simp only [VH.n_push, VH.n_set]; done) | (simp only [VH.n_push, VH.n_set]; omega)) [-BitVec.toNat_or, -BitVec.toNat_xor, -BitVec.toNat_add, -BitVec.toNat_and, -BitVec.toNat_not, -BitVec.toNat_shiftLeft, -BitVec.toNat_ushiftRight]
    refine (rall_ok (num := num) (hv.fr (Fb.trans F14')) (by omega)).mono ?_
    rintro u g15 ⟨a15, n15, c15, rfl, B15⟩
    have F15' := F14'.trans B15.fr
    simp (disch := first | omega | (simp only [VH.n_push, VH.n_set]; done) | (simp only [VH.n_push, VH.n_set]; omega)) [-BitVec.toNat_or, -BitVec.toNat_xor, -BitVec.toNat_add, -BitVec.toNat_and, -BitVec.toNat_not, -BitVec.toNat_shiftLeft, -BitVec.toNat_ushiftRight]
    refine (same_ok (B14.is.fr B15.fr) B15.is (by have := allF_len fs num; omega)).mono ?_
    rintro u g16 ⟨rfl, hf16⟩
    rw [sameL_refl]
    simp (disch := first | omega | (simp only [VH.n_push, VH.n_set]; done) | (simp only [VH.n_push, VH.n_set]; omega)) [-BitVec.toNat_or, -BitVec.toNat_xor, -BitVec.toNat_add, -BitVec.toNat_and, -BitVec.toNat_not, -BitVec.toNat_shiftLeft, -BitVec.toNat_ushiftRight]
    exact tail _ _ (F15'.trans hf16) (by simp [upd_apply, s0_apply]) (by simp [upd_apply, s0_apply]) (by simp [upd_apply]) (by simp [upd_apply]) (by simp [upd_apply])
  · have hFa : Fr g11 (g11.push L7) [] := Fr_push (Fr.refl _ _)
    obtain ⟨ga, hga⟩ : ∃ ga, ga = g11.push L7 := ⟨_, rfl⟩
    have hgan : ga.n = g11.n + 1 := by rw [hga]; rfl
    have hgao : ga.get g11.n = L7 := by rw [hga, VH.get_push_new]
    obtain ⟨gb, hgb⟩ : ∃ gb, gb = ga.push L9 := ⟨_, rfl⟩
    rw [← hL7, ← hL9, ← hga, ← hgb]
    have hFb : Fr ga gb [] := by rw [hgb]; exact Fr_push (Fr.refl _ _)
    rw [← hga] at hFa
    have F12 := hFa.trans hFb
    have hi7 : IsFds gb (.slice (some ⟨g11.n, 0, none⟩) 1 1) [F] := by
      have := fds_one (g := g11) (F := F) (p := p7) (q := q7) (r := r7) (isB_fr (by rw [← hL7, ← hga]; exact hFa) hb7')
      rw [← hL7, ← hga] at this
      exact this.fr hFb
    have hi9 : IsFds gb (.slice (some ⟨ga.n, 0, none⟩) 1 1) [F] := by
      have := fds_one (g := ga) (F := F) (p := p9) (q := q9) (r := r9) (isB_fr (by rw [← hL9, ← hgb]; exact F12) hb9')
      rw [← hL9, ← hgb] at this
      exact this
    rw [hgan] at hi9
    refine (taken_ok hi7 (by simp)).mono ?_
    rintro u g12 ⟨a12, n12, c12, rfl, B12⟩
    have F12b := F12.trans B12.fr
    have x7 : g12.get g7.n = .cells (fdL F (.slice p7 q7 r7)) true 1 := (F12b.get _ lt7 (by simp)).trans hg11p
    have x9 : g12.get g9.n = .cells (fdL F (.slice p9 q9 r9)) true 1 := (F12b.get _ lt9 (by simp)).trans hg11q
    simp (disch := first | omega | (simp only [VH.n_push, VH.n_set]; done) | (simp only [VH.n_push, VH.n_set]; omega)) [-BitVec.toNat_or, -BitVec.toNat_xor, -BitVec.toNat_add, -BitVec.toNat_and, -BitVec.toNat_not, -BitVec.toNat_shiftLeft, -BitVec.toNat_ushiftRight, x7, x9, hl7, hl9, hfl9, hone9]
    refine (same_ok B12.is (hi9.fr B12.fr) (by simp)).mono ?_
    rintro u g13 ⟨rfl, hf13⟩
    rw [sameL_refl]
    have F13' := F12b.trans hf13
    simp (disch := first | omega | (simp only [VH.n_push, VH.n_set]; done) | (simp only [VH.n_push, VH.n_set]; omega)) [-BitVec.toNat_or, -BitVec.toNat_xor, -BitVec.toNat_add, -BitVec.toNat_and, -BitVec.toNat_not, -BitVec.toNat_shiftLeft, -BitVec.toNat_ushiftRight, hbb]
    refine (taken_ok (B11.fbuf.is.fr F13') (by have := allF_len fs num; omega)).mono ?_
    rintro u g14 ⟨a14, n14, c14, rfl, B14⟩
    have F14' := F13'.trans B14.fr
    simp (disch := first | omega | (simp only [VH.n_push, VH.n_set]; done) | (simp only [VH.n_push, VH.n_set]; omega)) [-BitVec.toNat_or, -BitVec.toNat_xor, -BitVec.toNat_add, -BitVec.toNat_and, -BitVec.toNat_not, -BitVec.toNat_shiftLeft, -BitVec.toNat_ushiftRight]
    refine (rall_ok (num := num) (hv.fr (Fb.trans F14')) (by omega)).mono ?_
    rintro u g15 ⟨a15, n15, c15, rfl, B15⟩
    have F15' := F14'.trans B15.fr
    simp (disch := first | omega | (simp only [VH.n_push, VH.n_set]; done) | (simp only [VH.n_push, VH.n_set]; omega)) [-BitVec.toNat_or, -BitVec.toNat_xor, -BitVec.toNat_add, -BitVec.toNat_and, -BitVec.toNat_not, -BitVec.toNat_shiftLeft, -BitVec.toNat_ushiftRight]
    refine (same_ok (B14.is.fr B15.fr) B15.is (by have := allF_len fs num; omega)).mono ?_
    rintro u g16 ⟨rfl, hf16⟩
    rw [sameL_refl]
    simp (disch := first | omega | (simp only [VH.n_push, VH.n_set]; done) | (simp only [VH.n_push, VH.n_set]; omega)) [-BitVec.toNat_or, -BitVec.toNat_xor, -BitVec.toNat_add, -BitVec.toNat_and, -BitVec.toNat_not, -BitVec.toNat_shiftLeft, -BitVec.toNat_ushiftRight]
    exact tail _ _ (F15'.trans hf16) (by simp [upd_apply, s0_apply]) (by simp [upd_apply, s0_apply]) (by simp [upd_apply]) (by simp [upd_apply]) (by simp [upd_apply])
  · have hFa : Fr g11 (g11.push L9) [] := Fr_push (Fr.refl _ _)
    obtain ⟨ga, hga⟩ : ∃ ga, ga = g11.push L9 := ⟨_, rfl⟩
    have hgan : ga.n = g11.n + 1 := by rw [hga]; rfl
    obtain ⟨gb, hgb⟩ : ∃ gb, gb = ga.push L7 := ⟨_, rfl⟩
    rw [← hL7, ← hL9, ← hga, ← hgb]
    have hFb : Fr ga gb [] := by rw [hgb]; exact Fr_push (Fr.refl _ _)
    rw [← hga] at hFa
    have F12 := hFa.trans hFb
    have hi9 : IsFds gb (.slice (some ⟨g11.n, 0, none⟩) 1 1) [F] := by
      have := fds_one (g := g11) (F := F) (p := p9) (q := q9) (r := r9) (isB_fr (by rw [← hL9, ← hga]; exact hFa) hb9')
      rw [← hL9, ← hga] at this
      exact this.fr hFb
    have hi7 : IsFds gb (.slice (some ⟨ga.n, 0, none⟩) 1 1) [F] := by
      have := fds_one (g := ga) (F := F) (p := p7) (q := q7) (r := r7) (isB_fr (by rw [← hL7, ← hgb]; exact F12) hb7')
      rw [← hL7, ← hgb] at this
      exact this
    rw [hgan] at hi7
    refine (taken_ok hi7 (by simp)).mono ?_
    rintro u g12 ⟨a12, n12, c12, rfl, B12⟩
    have F12b := F12.trans B12.fr
    have x7 : g12.get g7.n = .cells (fdL F (.slice p7 q7 r7)) true 1 := (F12b.get _ lt7 (by simp)).trans hg11p
    have x9 : g12.get g9.n = .cells (fdL F (.slice p9 q9 r9)) true 1 := (F12b.get _ lt9 (by simp)).trans hg11q
    simp (disch := first | omega | (simp only [VH.n_push, VH.n_set]; done) | (simp only [VH.n_push, VH.n_set]; omega)) [-BitVec.toNat_or, -BitVec.toNat_xor, -BitVec.toNat_add, -BitVec.toNat_and, -BitVec.toNat_not, -BitVec.toNat_shiftLeft, -BitVec.toNat_ushiftRight, x7, x9, hl7, hl9, hfl7, hone7]
    refine (same_ok B12.is (hi9.fr B12.fr) (by simp)).mono ?_
    rintro u g13 ⟨rfl, hf13⟩
    rw [sameL_refl]
    have F13' := F12b.trans hf13
    simp (disch := first | omega | (simp only [VH.n_push, VH.n_set]; done) | (simp only [VH.n_push, VH.n_set]; omega)) [-BitVec.toNat_or, -BitVec.toNat_xor, -BitVec.toNat_add, -BitVec.toNat_and, -BitVec.toNat_not, -BitVec.toNat_shiftLeft, -BitVec.toNat_ushiftRight, hbb]
    refine (taken_ok (B11.fbuf.is.fr F13') (by have := allF_len fs num; omega)).mono ?_
    rintro u g14 ⟨a14, n14, c14, rfl, B14⟩
    have F14' := F13'.trans B14.fr
    simp (disch := first | omega | (simp only [VH.n_push, VH.n_set]; done) | (simp only [VH.n_push, VH.n_set]; omega)) [-BitVec.toNat_or, -BitVec.toNat_xor, -BitVec.toNat_add, -BitVec.toNat_and, -BitVec.toNat_not, -BitVec.toNat_shiftLeft, -BitVec.toNat_ushiftRight]
    refine (rall_ok (num := num) (hv.fr (Fb.trans F14')) (by omega)).mono ?_
    rintro u g15 ⟨a15, n15, c15, rfl, B15⟩
    have F15' := F14'.trans B15.fr
    simp (disch := first | omega | (simp only [VH.n_push, VH.n_set]; done) | (simp only [VH.n_push, VH.n_set]; omega)) [-BitVec.toNat_or, -BitVec.toNat_xor, -BitVec.toNat_add, -BitVec.toNat_and, -BitVec.toNat_not, -BitVec.toNat_shiftLeft, -BitVec.toNat_ushiftRight]
    refine (same_ok (B14.is.fr B15.fr) B15.is (by have := allF_len fs num; omega)).mono ?_
    rintro u g16 ⟨rfl, hf16⟩
    rw [sameL_refl]
    simp (disch := first | omega | (simp only [VH.n_push, VH.n_set]; done) | (simp only [VH.n_push, VH.n_set]; omega)) [-BitVec.toNat_or, -BitVec.toNat_xor, -BitVec.toNat_add, -BitVec.toNat_and, -BitVec.toNat_not, -BitVec.toNat_shiftLeft, -BitVec.toNat_ushiftRight]
    exact tail _ _ (F15'.trans hf16) (by simp [upd_apply, s0_apply]) (by simp [upd_apply, s0_apply]) (by simp [upd_apply]) (by simp [upd_apply]) (by simp [upd_apply])
theorem writes_law {h : VH} {us : List Value} {k : Nat} (H : ShA h [.sl 4 fdT, .sl 4 fdT, .int .i64] us k) (hk : k ≤ 1048576) :
    PCalls Try.prog f_law02_WireWrites us h (fun u h' => u = .bool true ∧ h' = h) := by
  obtain ⟨v, r, k1, k2, rfl, h1, ⟨v2, r2, k3, k4, rfl, h2, ⟨v3, r3, k5, k6, rfl, h3, ⟨rfl, _⟩, _⟩, _⟩, h6⟩ := H
  obtain ⟨fs, a1, a2, a3⟩ := Sh.fds h1
  obtain ⟨gs, b1, b2, b3⟩ := Sh.fds h2
  obtain ⟨n, hn, n1, n2, _⟩ := Sh.i64 (h := h) h3
  injection hn with hn _
  subst hn
  exact ((writes_ok' a1.ro b1.ro (fun f hf => ⟨(a2 f hf).1, by have := (a2 f hf).2; omega⟩) (fun f hf => ⟨(b2 f hf).1, by have := (b2 f hf).2; omega⟩) (by omega) (by omega)).mono fun u _ e => by subst e; exact ⟨rfl, rfl⟩).drop
end Go.Proofs.Ytgkokffmblphnaa.Wr
