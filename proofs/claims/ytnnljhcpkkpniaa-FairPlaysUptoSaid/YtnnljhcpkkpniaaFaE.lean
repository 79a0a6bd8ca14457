/- fair, part E: Step. -/
import Derived.Test.YtnnljhcpkkpniaaFaD
import Derived.Test.YtnnljhcpkkpniaaFaP
set_option linter.unusedVariables false
set_option linter.unusedSimpArgs false
set_option maxRecDepth 100000
namespace Go.Proofs.Ytnnljhcpkkpniaa.Fa
open Go Go.RowKit Go.Proofs.Ytnnljhcpkkpniaa.Pm Go.Proofs.Ytnnljhcpkkpniaa.Fs
attribute [local simp] pw_skip pw_ops pw_quiet pw_seq pw_cond pw_block pw_exit pw_ret pw_scope pw_label kSeq_normal kSeq_ret kSeq_exit kBlock_normal kBlock_ret kBlock_exit kScope_normal kScope_ret kScope_exit kLoop_normal kLoop_ret kLoop_exit kCond_true kCond_false kCond_dec pwOps_nil pwOps_call pwOps_guard kStep_some kCall_at pwQ_nil pwQ_call pwQ_guard kQ_some putS_some putS_none upd_apply ev_t ev_k isB_bool isB_undef s0_apply pstep pwO_mov pwO_pick pwO_nilck pwO_bin pwO_binB pwO_eqNil pwO_un pwO_convI pwO_convS pwO_alloc pwO_build pwO_load pwO_store pwO_fieldAddr pwO_field pwO_idxS pwO_idxA pwO_idxV pwO_strAt pwO_lenStr pwO_lenS pwO_lenC pwO_slS pwO_slA pwO_slStr pwO_extract pwO_mkFunc pwO_mkIface pwO_append pwO_appendStr pwO_toBytes pwO_ofB pwO_box pwO_row pwO_minmax pwO_eqV pwO_sameB pwR_mov pwR_pick pwR_nilck pwR_bin pwR_binB pwR_eqNil pwR_un pwR_convI pwR_convS pwR_build pwR_load pwR_fieldAddr pwR_field pwR_idxS pwR_idxA pwR_idxV pwR_strAt pwR_lenStr pwR_lenS pwR_lenC pwR_slS pwR_slA pwR_slStr pwR_extract pwR_mkFunc pwR_mkIface pwR_ofB pwR_minmax pwR_eqV ret_r ret_n kRet_some resV0 resV1 resV2 resV3 resV4 VH.get_push_new VH.get_set_same VH.n_push VH.n_set cellsL_agg cellsL_int cellsL_bool cellsL_string cellsL_slice cellsL_pointer cellsL_map pw_draw pwD_nil pwD_cons kD_nil kD_cons evalOK_plain evalOK_guard kEv_some dstIs_some dstIs_none pw_goto pw_scopeL kSeq_goto kBlock_goto kLoop_goto kScopeL_normal kScopeL_ret kScopeL_exit kScopeL_goto pwOps_callv kCallv_fn kCallv_yld pwOps_nextM pwO_makeMap pwO_lookup pwR_lookup pwO_mapSet pwO_mapDel pwO_lenM pwR_lenM pwO_mapEntry pwO_entrySet pwO_rangeS pwO_nextS pwO_rangeM pwO_entryM pwR_entryM pwO_copyV pwO_makeSl pwO_asrt pwR_asrt kStep_if kStep_dif kQ_if kQ_dif kEv_if bound_none bound_some toNat_add' toNat_sub' toNat_mul' kLoopN_normal kLoopN_ret kLoopN_exit kLoopN_goto Option.map_some Option.map_none loadAt_obj storeAt_obj rowOf_obj eszIs_obj eszObj_cells loadObj_tab storeObj_tab_int VH.get_set_ne VH.get_push_lt VH.set_set tab_length List.getElem?_cons_zero List.getElem?_cons_succ List.length_cons List.length_nil oneC_int oneC_bool oneC_string oneC_slice oneC_pointer oneC_map srcCells_at srcCells_nil VH.get_push_at isNilV pw_drawT pwT_nil pwT_step pwT_alt kT_nil kT_cons pun pbinS pbin pbinI i64_small IntKind.bits resV resL resOne gI gM gT gF gN gNT gNF dI dM dT dF

def outV (o : Out) : Value := .tuple #[.string (strB o.nm), jbV o.j, .bool o.dn, .bool o.ok]
theorem Rep.len {g : VH} {i j : Nat} {rs : List Rt} {S : Sc} (k : Rep g i j rs S) : rs.length = S.ts.length := by have := k.perm.length_eq; simpa using this
theorem Rep.nonempty {g : VH} {i j : Nat} {rs : List Rt} {S : Sc} (k : Rep g i j rs S) (h : idleS S.ts = false) : 0 < rs.length := by
  rw [k.len]
  obtain ⟨t, _, _, ht, _⟩ := idle_false h
  exact List.length_pos_of_mem ht

set_option maxHeartbeats 4000000 in
theorem step_ok (hso : SortsS Try.prog f_slices_Sort_string_string) {h : VH} {i : Nat} {S : Sc} {X : List Nat} {b : Int} (K : Sch h i S X) (ok : OkS b S) :
    PCalls Try.prog f_fair_Sched_Step [.pointer (some ⟨i, 0, none⟩)] h (fun u h' => u = outV (stepS S).1 ∧ SchP h i X (stepS S).2 h') := by
  refine PCalls_of_pw st_fair_Sched_Step (by simp [n_fair_Sched_Step]) ?_
  rw [b_fair_Sched_Step]
  have ho := ok.ord
  obtain ⟨j, rs, rfl, k⟩ := K
  have K0 : Sch h i S (fpS i j rs) := ⟨j, rs, rfl, k⟩
  have hlj := k.ltj
  have hli := k.lti
  obtain ⟨g0, hg0⟩ : ∃ g0, g0 = h.push (.cells [.int .i64 0, .int .i64 0] true 1) := ⟨_, rfl⟩
  have F0 : Fr h g0 [] := by rw [hg0]; exact Fr_push (Fr.refl _ _)
  have n0 : g0.n = h.n + 1 := by rw [hg0]; rfl
  have c0 : g0.get h.n = .cells [.int .i64 0, .int .i64 0] true 1 := by rw [hg0, VH.get_push_new]
  have k0 := k.fr0 F0
  have hfi2 : fillC [.int .i64 0, .int .i64 0] [] = some [.int .i64 0, .int .i64 0] := rfl
  have hst2 : ∀ a b z, storeObj (.cells [a, b] true z) 0 2 (.agg #[.int .i64 0, .int .i64 0]) = some (.cells [.int .i64 0, .int .i64 0] true z) := fun _ _ _ => rfl
  simp (disch := first | omega | (simp only [VH.n_push, VH.n_set]; done) | (simp only [VH.n_push, VH.n_set]; omega)) [B_fair_Sched_Step, ← hg0]
  refine (idle_ok k0.r).mono ?_
  rintro u g ⟨rfl, rfl⟩
  by_cases hid : idleS S.ts = true
  · have hs : stepS S = (⟨[], job0, false, false⟩, S) := by simp [stepS, hid]
    simp (disch := first | omega | (simp only [VH.n_push, VH.n_set]; done) | (simp only [VH.n_push, VH.n_set]; omega)) [r_fair_Sched_Step, hid, c0, hfi2, hst2, l2_A, hs]
    exact ⟨rfl, SchP.same K0 (Fr_set F0 (Nat.le_refl _))⟩
  have hid : idleS S.ts = false := by simpa using hid
  have hs : stepS S = servedS (begunS S) := by simp [stepS, hid]
  obtain ⟨t, w, r0, hfd, hl, hts, okb, hhd, hhw, hbh, hn1, hn2⟩ := begun_spec ok hid
  obtain ⟨B, hB⟩ : ∃ B, B = begunS S := ⟨_, rfl⟩
  rw [← hB] at hs hfd hts okb hhw hhd hbh hn1 hn2
  have i0 := k0.rec_
  obtain ⟨clk, hj0, hlt⟩ := k0.map_
  obtain ⟨es, hes⟩ : ∃ es, es = rs.map entT := ⟨_, rfl⟩
  rw [← hes] at hj0
  have hkf : keysFit .s es = true := by rw [hes]; exact keysFit_rs rs
  have hfk : ∀ nm, fitK .s (.string (strB nm)) = true := fun _ => rfl
  simp (disch := first | omega | (simp only [VH.n_push, VH.n_set]; done) | (simp only [VH.n_push, VH.n_set]; omega)) [hid, i0, ls_3]
  generalize hKK : kSeq Try.prog _ _ = KK
  have tail : ∀ (s : Slots) (g2 : VH), Rep g2 i j rs B → Fr h g2 [i] → h.n < g2.n → g2.get h.n = .cells [.int .i64 0, .int .i64 0] true 1 → s 0 = .pointer (some ⟨i, 0, none⟩) → s 3 = .pointer (some ⟨h.n, 0, none⟩) → KK .normal s g2 := by
    clear hn1 hn2 i0 hj0
    intro s g2 kb F n2 c2 e0 e3
    rw [← hKK]
    have hoB := okb.ord
    obtain ⟨clk2, hj2, _⟩ := kb.map_
    have i2 := kb.rec_
    rw [← hts] at hfd hhw
    obtain ⟨a, r, c, hrs, hrt, hget⟩ := kb.getS hoB.uni hfd
    rw [← hes] at hget hj2
    subst hrs
    have T := kb.ten r (by simp)
    have hit := T.rec_
    have hmv : mval false (.pointer none) (some (.pointer (some ⟨r.it, 0, none⟩))) = .pointer (some ⟨r.it, 0, none⟩) := rfl
    have hpk : peekV r.t.l = .tuple #[.agg #[.int .i64 w.j.id, .int .i64 w.j.cost, .int .i64 w.st], .bool true] := by rw [hrt, hl]; rfl
    have okw := (okb.ten t (findT_some hfd).1).wk w (by rw [hl]; simp)
    have hb0 := okb.had0
    have hadd : IntKind.i64.wrap (B.had + 1) = B.had + 1 := i64_small (by omega) (by omega)
    simp (disch := first | omega | (simp only [VH.n_push, VH.n_set]; done) | (simp only [VH.n_push, VH.n_set]; omega)) [e0, i2, ls_0, ls_2, hj2, hkf, hfk, hget, hmv, hit, lt_2]
    refine (qpeek_ok T.r).mono ?_
    rintro u g2 ⟨rfl, rfl⟩
    rw [hpk]
    obtain ⟨p, hp⟩ : ∃ p, p = g2.n := ⟨_, rfl⟩
    obtain ⟨g3, hg3⟩ : ∃ g3, g3 = (g2.push (.cells [.int .i64 0, .int .i64 0, .int .i64 0] true 1)).set p (.cells [.int .i64 w.j.id, .int .i64 w.j.cost, .int .i64 w.st] true 1) := ⟨_, rfl⟩
    have F3 : Fr g2 g3 [] := by rw [hg3]; exact Fr_set (Fr_push (Fr.refl _ _)) (by omega)
    have n3 : g3.n = p + 1 := by rw [hg3, hp]; simp
    have o3 : g3.get p = .cells [.int .i64 w.j.id, .int .i64 w.j.cost, .int .i64 w.st] true 1 := by rw [hg3, VH.get_set_same]
    have z3 : ∀ o, (g2.push o).get p = o := fun o => by rw [hp]; exact VH.get_push_new _ _
    have k3 := kb.fr0 F3
    have i3 := k3.rec_
    obtain ⟨B1, hB1⟩ : ∃ B1 : Sc, B1 = { B with had := B.had + 1 } := ⟨_, rfl⟩
    obtain ⟨g4, hg4⟩ : ∃ g4, g4 = g3.set i (.cells (scL B1 j) true 1) := ⟨_, rfl⟩
    have F4 : Fr g3 g4 [i] := by rw [hg4]; exact Fr.set _ _ (by simp)
    have k4 : Rep g4 i j (a ++ r :: c) B1 := by rw [hg4]; exact k3.upd (by rw [hB1])
    have i4 := k4.rec_
    have n4 : g4.n = p + 1 := by rw [hg4]; exact n3
    have hip : i ≠ p := by omega
    have o4 : g4.get p = .cells [.int .i64 w.j.id, .int .i64 w.j.cost, .int .i64 w.st] true 1 := (F4.get _ (by omega) (by simp; omega)).trans o3
    have hsB : ∀ z, storeObj (.cells (scL B j) true z) 3 1 (.int .i64 (B.had + 1)) = some (.cells (scL B1 j) true z) := fun z => by rw [hB1]; rfl
    have hB1h : B1.had = B.had + 1 := by rw [hB1]
    have F34 : Fr h g4 [i] := (F.trans (F3.sub (by simp))).trans F4
    have c4 : g4.get h.n = .cells [.int .i64 0, .int .i64 0] true 1 := (F4.get _ (by omega) (by simp; omega)).trans ((F3.get _ n2 (by simp)).trans c2)
    have hsj : ∀ a b z, storeObj (.cells [a, b] true z) 0 2 (.agg #[.int .i64 w.j.id, .int .i64 w.j.cost]) = some (.cells [.int .i64 w.j.id, .int .i64 w.j.cost] true z) := fun _ _ _ => rfl
    have hsv1 : B1.sv = B.sv := by rw [hB1]
    have hfix : i ∈ fpS i j (a ++ r :: c) := Rep.fset
    by_cases hlt : B.had + 1 < w.j.cost
    · have hsv : servedS B = (⟨B.sv, w.j, false, true⟩, B1) := by rw [hB1]; simp [servedS, hhw, hlt]
      simp (disch := first | omega | (simp only [VH.n_push, VH.n_set]; done) | (simp only [VH.n_push, VH.n_set]; omega)) [r_fair_Sched_Step, e0, e3, ← hp, z3, s3_A, ← hg3, i3, ls_3, hadd, hsB, ← hg4, i4, hB1h, o4, l3_1, hlt, ls_2, l3_J, c4, hsj, l2_A]
      rw [hs, hsv]
      have F5 : Fr h (g4.set h.n (.cells [.int .i64 w.j.id, .int .i64 w.j.cost] true 1)) [i] := F34.trans' (Fr.set _ _ (X := [h.n]) (by simp)) (by simp)
      refine ⟨by rw [hsv1]; rfl, fpS i j (a ++ r :: c), ⟨j, _, rfl, ?_⟩, F5.sub (by simp [hfix]), fun x hx => .inl hx⟩
      refine k4.fr (Fr.set _ _ (X := [h.n]) (by simp)) (fun x hx hxn => ?_)
      have := K0.lt x hx
      simp at hxn
      omega
    · simp (disch := first | omega | (simp only [VH.n_push, VH.n_set]; done) | (simp only [VH.n_push, VH.n_set]; omega)) [e0, e3, ← hp, z3, s3_A, ← hg3, i3, ls_3, hadd, hsB, ← hg4, i4, hB1h, o4, l3_1, hlt]
      have T4 := k4.ten r (by simp)
      refine (qpop_ok T4 (by rw [hrt, hl]; simp)).mono ?_
      rintro u g5 ⟨v, T5, F5, hidv⟩
      have hfl := K0.lt
      have hriq : r.iq < h.n := hfl _ (fp_mem _ (by simp [fpT]))
      obtain ⟨P, hP⟩ : ∃ P, P = popT B.sv B.ts := ⟨_, rfl⟩
      have hP2 : P = putT (popW r v).t B1.ts := by rw [hP, popT_of hfd, hB1]; simp [popW, hrt]
      have hB1t : B1.ts = B.ts := by rw [hB1]
      have hfpv : ∀ x ∈ fpT (popW r v), x ∈ fpT r := fun x hx => by
        simp only [fpT, popW, List.mem_cons] at hx ⊢
        rcases hx with hx | hx | hx
        · exact .inl hx
        · exact .inr (.inl hx)
        · exact .inr (.inr (hidv x hx))
      have k5 := k4.one (r' := popW r v) (by rw [hB1t]; exact hoB.uni) (F5.sub (by simp [fpT])) T5 rfl rfl rfl (fun x hx => .inl (hfpv x hx))
      rw [← hP2] at k5
      have i5 := k5.rec_
      have n5 := F5.n
      have o5 : g5.get p = .cells [.int .i64 w.j.id, .int .i64 w.j.cost, .int .i64 w.st] true 1 := (F5.get _ (by omega) (by simp; omega)).trans o4
      have c5 : g5.get h.n = .cells [.int .i64 0, .int .i64 0] true 1 := (F5.get _ (by omega) (by simp; omega)).trans c4
      obtain ⟨B3, hB3⟩ : ∃ B3 : Sc, B3 = { B1 with ts := P, had := 0 } := ⟨_, rfl⟩
      obtain ⟨g6, hg6⟩ : ∃ g6, g6 = g5.set i (.cells (scL B3 j) true 1) := ⟨_, rfl⟩
      have F6 : Fr g5 g6 [i] := by rw [hg6]; exact Fr.set _ _ (by simp)
      have k6 : Rep g6 i j (a ++ popW r v :: c) B3 := by rw [hg6]; exact k5.upd (by rw [hB3])
      have hs6 : ∀ z, storeObj (.cells (scL { B1 with ts := P } j) true z) 3 1 (.int .i64 0) = some (.cells (scL B3 j) true z) := fun z => by rw [hB3]; rfl
      have n6 : g6.n = g5.n := by rw [hg6]; rfl
      have o6 : g6.get p = .cells [.int .i64 w.j.id, .int .i64 w.j.cost, .int .i64 w.st] true 1 := (F6.get _ (by omega) (by simp; omega)).trans o5
      have c6 : g6.get h.n = .cells [.int .i64 0, .int .i64 0] true 1 := (F6.get _ (by omega) (by simp; omega)).trans c5
      have hB3t : B3.ts = P := by rw [hB3]
      have fpsub : ∀ x ∈ fpS i j (a ++ popW r v :: c), x ∈ fpS i j (a ++ r :: c) := fun x hx => by
        rcases Rep.fp_one (n := h.n) (fun y hy => .inl (hfpv y hy)) x hx with h1 | h1
        · exact h1
        · have := (show Sch g6 i B3 (fpS i j (a ++ popW r v :: c)) from ⟨j, _, rfl, k6⟩).lt x hx
          simp only [fpS, List.mem_cons, List.flatMap_append, List.flatMap_cons, List.mem_append] at hx ⊢
          rcases hx with hx | hx | hx | hx | hx
          · exact .inl hx
          · exact .inr (.inl hx)
          · exact .inr (.inr (.inl hx))
          · exact .inr (.inr (.inr (.inl (hfpv x hx))))
          · exact .inr (.inr (.inr (.inr hx)))
      have FX : Fr h g6 (fpS i j (a ++ r :: c)) := ((F34.sub (by simp [hfix])).trans (F5.sub (fun x hx => by simp at hx; subst hx; exact fp_mem _ (by simp [fpT])))).trans (F6.sub (by simp [hfix]))
      simp (disch := first | omega | (simp only [VH.n_push, VH.n_set]; done) | (simp only [VH.n_push, VH.n_set]; omega)) [e0, e3, i5, hs6, ← hg6]
      refine (idle_ok k6.r).mono ?_
      rintro u g6 ⟨rfl, rfl⟩
      rw [hB3t]
      by_cases hip2 : idleS P = true
      · have hsv : servedS B = (⟨B.sv, w.j, true, true⟩, { B3 with ts := restS B3.ts, ck := 0, had := 0 }) := by
          rw [hP] at hip2
          rw [hB3t, hP, hB3, hB1]; simp [servedS, hhw, hlt, hip2]
        simp (disch := first | omega | (simp only [VH.n_push, VH.n_set]; done) | (simp only [VH.n_push, VH.n_set]; omega)) [hip2, e0, e3]
        refine (rest_ok k6).mono ?_
        rintro u g7 ⟨k7, F7⟩
        have i7 := k7.rec_
        have n7 := F7.n
        have hnp : ∀ x, h.n ≤ x → x ∉ fpS i j (a ++ popW r v :: c) := fun x hx hxf => by have := hfl x (fpsub x hxf); omega
        have o7 := (F7.get _ (by omega) (hnp p (by omega))).trans o6
        have c7 := (F7.get _ (by omega) (hnp h.n (by omega))).trans c6
        simp (disch := first | omega | (simp only [VH.n_push, VH.n_set]; done) | (simp only [VH.n_push, VH.n_set]; omega)) [r_fair_Sched_Step, e0, e3, i7, ls_2, o7, l3_J, c7, hsj, l2_A]
        rw [hs, hsv]
        refine ⟨by rw [hB3, hB1]; rfl, fpS i j ((a ++ popW r v :: c).map zeroR), ⟨j, _, rfl, ?_⟩, ?_, fun x hx => .inl (fpsub x ?_)⟩
        · refine k7.fr (Fr.set _ _ (X := [h.n]) (by simp)) (fun x hx hxn => ?_)
          simp at hxn
          subst hxn
          refine hnp _ (Nat.le_refl _) ?_
          simpa [fpS, List.flatMap_map, fp_zero] using hx
        · refine (FX.trans (F7.sub fpsub)).trans' (Fr.set _ _ (X := [h.n]) (by simp)) (by simp)
        · simpa [fpS, List.flatMap_map, fp_zero] using hx
      · have hip2 : idleS P = false := by simpa using hip2
        have hsv : servedS B = (⟨B.sv, w.j, true, true⟩, B3) := by
          rw [hP] at hip2
          rw [hB3, hB1, hP]; simp [servedS, hhw, hlt, hip2]
        have i6 := k6.rec_
        simp (disch := first | omega | (simp only [VH.n_push, VH.n_set]; done) | (simp only [VH.n_push, VH.n_set]; omega)) [r_fair_Sched_Step, hip2, e0, e3, i6, ls_2, o6, l3_J, c6, hsj, l2_A]
        rw [hs, hsv]
        refine ⟨by rw [hB3, hB1]; rfl, fpS i j (a ++ popW r v :: c), ⟨j, _, rfl, ?_⟩, ?_, fun x hx => .inl (fpsub x hx)⟩
        · refine k6.fr (Fr.set _ _ (X := [h.n]) (by simp)) (fun x hx hxn => ?_)
          simp at hxn
          subst hxn
          have := hfl _ (fpsub _ hx)
          omega
        · exact FX.trans' (Fr.set _ _ (X := [h.n]) (by simp)) (by simp)
  by_cases hh : S.had = 0
  · obtain ⟨N, hck⟩ := hn1 hh
    have hhb : (S.had == 0) = true := by simp [hh]
    simp (disch := first | omega | (simp only [VH.n_push, VH.n_set]; done) | (simp only [VH.n_push, VH.n_set]; omega)) [hhb, hh]
    refine (next_ok hso k0.r ho (by rw [k0.len]; have := ok.len; omega) (k0.nonempty hid)).mono ?_
    rintro u g2 ⟨rfl, rfl⟩
    have hbs : B = { S with sv := (nextS S.ts).1, ck := B.ck } := by simp [hB, begunS, hh]
    obtain ⟨nm, hnm⟩ : ∃ nm, nm = (nextS S.ts).1 := ⟨_, rfl⟩
    rw [← hnm] at hbs ⊢
    have hsv : B.sv = nm := by rw [hbs]
    rw [hsv] at hfd
    obtain ⟨r, hr, hrt, T, hget⟩ := TenR.at_ k0.r ho.uni hfd
    rw [← hes] at hget
    have hmv : mval false (.pointer none) (some (.pointer (some ⟨r.it, 0, none⟩))) = .pointer (some ⟨r.it, 0, none⟩) := rfl
    obtain ⟨g3, hg3⟩ : ∃ g3, g3 = g2.set i (.cells (scL { S with sv := nm } j) true 1) := ⟨_, rfl⟩
    have F3 : Fr g2 g3 [i] := by rw [hg3]; exact Fr.set _ _ (by simp)
    have k3 : Rep g3 i j rs { S with sv := nm } := by rw [hg3]; exact k0.upd rfl
    have i3 := k3.rec_
    have j3 : g3.get j = .map es clk true := (F3.get _ k0.ltj (by simp; exact fun e => k0.nij e.symm)).trans hj0
    have T3 := k3.r.ten r hr
    obtain ⟨ow3, hit3⟩ := T3.rec_
    have hpk : peekV r.t.l = .tuple #[.agg #[.int .i64 w.j.id, .int .i64 w.j.cost, .int .i64 w.st], .bool true] := by rw [hrt, hl]; rfl
    have n3 : g3.n = h.n + 1 := by rw [hg3]; exact n0
    have hri := T3.lt
    have hlj3 := k3.ltj
    have hli3 := k3.lti
    have P3 : Fr g3 (g3.push (.cells [.int .i64 0, .int .i64 0, .int .i64 0] true 1)) [] := Fr.push _ _ _
    obtain ⟨g4, hg4⟩ : ∃ g4, g4 = (g3.push (.cells [.int .i64 0, .int .i64 0, .int .i64 0] true 1)).set (h.n + 1) (.cells [.int .i64 w.j.id, .int .i64 w.j.cost, .int .i64 w.st] true 1) := ⟨_, rfl⟩
    have F4 : Fr g3 g4 [] := by rw [hg4]; exact Fr_set P3 (by omega)
    have n4 : g4.n = h.n + 2 := by rw [hg4]; simp; omega
    have o4 : g4.get (h.n + 1) = .cells [.int .i64 w.j.id, .int .i64 w.j.cost, .int .i64 w.st] true 1 := by rw [hg4, VH.get_set_same]
    have z4 : ∀ o, (g3.push o).get (h.n + 1) = o := fun o => by rw [← n3]; exact VH.get_push_new _ _
    have i4 : g4.get i = .cells (scL { S with sv := nm } j) true 1 := (F4.get _ hli3 (by simp)).trans i3
    have k4 := k3.fr0 F4
    have k5 : Rep (g4.set i (.cells (scL { S with sv := nm, ck := w.st } j) true 1)) i j rs B := by
      rw [hbs, hck]
      exact k4.upd rfl
    have F5 : Fr h (g4.set i (.cells (scL { S with sv := nm, ck := w.st } j) true 1)) [i] := (((F0.sub (by simp)).trans F3).trans (F4.sub (by simp))).trans (Fr.set _ _ (by simp))
    have hin : i ≠ h.n := by omega
    have c5 : (g4.set i (.cells (scL { S with sv := nm, ck := w.st } j) true 1)).get h.n = .cells [.int .i64 0, .int .i64 0] true 1 := by
      rw [VH.get_set_ne _ _ (fun e => hin e.symm), F4.get _ (by omega) (by simp), F3.get _ (by omega) (by simp; omega)]; exact c0
    simp (disch := first | omega | (simp only [VH.n_push, VH.n_set]; done) | (simp only [VH.n_push, VH.n_set]; omega)) [i0, ss_2, ← hg3, i3, ls_0, ls_2, j3, hkf, hfk, hget, hmv, hit3, lt_2]
    refine ⟨(qpeek_ok T3).mono ?_, (qpeek_ok (T3.fr0 P3)).mono ?_⟩
    · rintro u g3 ⟨rfl, rfl⟩
      rw [hpk]
      simp (disch := first | omega | (simp only [VH.n_push, VH.n_set]; done) | (simp only [VH.n_push, VH.n_set]; omega)) [hit3, lt_2, i3, ls_0, ls_2, j3, hkf, hfk, hget, hmv, n3, z4, s3_A, ← hg4, o4, l3_2, i4, ss_1]
      refine tail _ _ k5 F5 ?_ c5 ?_ ?_
      · show h.n < g4.n; omega
      · simp [upd_apply, s0_apply]
      · simp [upd_apply, s0_apply]
    · rintro u g' ⟨rfl, rfl⟩
      rw [hpk]
      simp (disch := first | omega | (simp only [VH.n_push, VH.n_set]; done) | (simp only [VH.n_push, VH.n_set]; omega)) [hit3, lt_2, i3, ls_0, ls_2, j3, hkf, hfk, hget, hmv, n3, z4, s3_A, ← hg4, o4, l3_2, i4, ss_1]
      refine tail _ _ k5 F5 ?_ c5 ?_ ?_
      · show h.n < g4.n; omega
      · simp [upd_apply, s0_apply]
      · simp [upd_apply, s0_apply]
  · have hhb : (S.had == 0) = false := by simp [hh]
    have hBS := hn2 hh
    simp (disch := first | omega | (simp only [VH.n_push, VH.n_set]; done) | (simp only [VH.n_push, VH.n_set]; omega)) [hhb, hh]
    refine tail _ _ (by rw [hBS]; exact k0) (F0.sub (by simp)) ?_ c0 ?_ ?_
    · omega
    · simp [upd_apply, s0_apply]
    · simp [upd_apply, s0_apply]
end Go.Proofs.Ytnnljhcpkkpniaa.Fa
