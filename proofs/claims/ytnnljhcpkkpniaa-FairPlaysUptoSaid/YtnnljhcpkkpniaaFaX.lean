/- fair, part X: Waiting, Ahead, Weights, Drop. -/
import Derived.Test.YtnnljhcpkkpniaaFaM
set_option linter.unusedVariables false
set_option linter.unusedSimpArgs false
set_option maxRecDepth 100000
namespace Go.Proofs.Ytnnljhcpkkpniaa.Fa
open Go Go.RowKit Go.Proofs.Ytnnljhcpkkpniaa.Pm Go.Proofs.Ytnnljhcpkkpniaa.Fs
attribute [local simp] pw_skip pw_ops pw_quiet pw_seq pw_cond pw_block pw_exit pw_ret pw_scope pw_label kSeq_normal kSeq_ret kSeq_exit kBlock_normal kBlock_ret kBlock_exit kScope_normal kScope_ret kScope_exit kLoop_normal kLoop_ret kLoop_exit kCond_true kCond_false kCond_dec pwOps_nil pwOps_call pwOps_guard kStep_some kCall_at pwQ_nil pwQ_call pwQ_guard kQ_some putS_some putS_none upd_apply ev_t ev_k isB_bool isB_undef s0_apply pstep pwO_mov pwO_pick pwO_nilck pwO_bin pwO_binB pwO_eqNil pwO_un pwO_convI pwO_convS pwO_alloc pwO_build pwO_load pwO_store pwO_fieldAddr pwO_field pwO_idxS pwO_idxA pwO_idxV pwO_strAt pwO_lenStr pwO_lenS pwO_lenC pwO_slS pwO_slA pwO_slStr pwO_extract pwO_mkFunc pwO_mkIface pwO_append pwO_appendStr pwO_toBytes pwO_ofB pwO_box pwO_row pwO_minmax pwO_eqV pwO_sameB pwR_mov pwR_pick pwR_nilck pwR_bin pwR_binB pwR_eqNil pwR_un pwR_convI pwR_convS pwR_build pwR_load pwR_fieldAddr pwR_field pwR_idxS pwR_idxA pwR_idxV pwR_strAt pwR_lenStr pwR_lenS pwR_lenC pwR_slS pwR_slA pwR_slStr pwR_extract pwR_mkFunc pwR_mkIface pwR_ofB pwR_minmax pwR_eqV ret_r ret_n kRet_some resV0 resV1 resV2 resV3 resV4 VH.get_push_new VH.get_set_same VH.n_push VH.n_set cellsL_agg cellsL_int cellsL_bool cellsL_string cellsL_slice cellsL_pointer cellsL_map pw_draw pwD_nil pwD_cons kD_nil kD_cons evalOK_plain evalOK_guard kEv_some dstIs_some dstIs_none pw_goto pw_scopeL kSeq_goto kBlock_goto kLoop_goto kScopeL_normal kScopeL_ret kScopeL_exit kScopeL_goto pwOps_callv kCallv_fn kCallv_yld pwOps_nextM pwO_makeMap pwO_lookup pwR_lookup pwO_mapSet pwO_mapDel pwO_lenM pwR_lenM pwO_mapEntry pwO_entrySet pwO_rangeS pwO_nextS pwO_rangeM pwO_entryM pwR_entryM pwO_copyV pwO_makeSl pwO_asrt pwR_asrt kStep_if kStep_dif kQ_if kQ_dif kEv_if bound_none bound_some toNat_add' toNat_sub' toNat_mul' kLoopN_normal kLoopN_ret kLoopN_exit kLoopN_goto Option.map_some Option.map_none loadAt_obj storeAt_obj rowOf_obj eszIs_obj eszObj_cells loadObj_tab storeObj_tab_int VH.get_set_ne VH.get_push_lt VH.set_set tab_length List.getElem?_cons_zero List.getElem?_cons_succ List.length_cons List.length_nil oneC_int oneC_bool oneC_string oneC_slice oneC_pointer oneC_map srcCells_at srcCells_nil VH.get_push_at isNilV pw_drawT pwT_nil pwT_step pwT_alt kT_nil kT_cons pun pbinS pbin pbinI i64_small IntKind.bits resV resL resOne gI gM gT gF gN gNT gNF dI dM dT dF

theorem RepR.none_ {g : VH} {i j : Nat} {rs : List Rt} {S : Sc} (k : RepR g i j rs S) (hu : Uni S.ts) {nm : List UInt8} (h : findT nm S.ts = none) : mget (.string (strB nm)) (rs.map entT) = none := by
  have h' : findT nm (rs.map (·.t)) = none := by rw [findT_perm k.perm hu]; exact h
  rw [← find_rs, Option.map_eq_none_iff] at h'
  rw [mget_rs, h']; rfl
theorem waiting_ok' {h : VH} {i j : Nat} {rs : List Rt} {S : Sc} (k : RepR h i j rs S) (ho : Ord S.ts) {nm : List UInt8} :
    PCalls Try.prog f_fair_Sched_Waiting [.pointer (some ⟨i, 0, none⟩), .string (strB nm)] h (fun u h' => u = .int .i64 (waitS S nm : Int) ∧ h' = h) := by
  refine PCalls_of_pw st_fair_Sched_Waiting (by simp [n_fair_Sched_Waiting]) ?_
  rw [b_fair_Sched_Waiting]
  obtain ⟨clk, ow, hj, hlt⟩ := k.map_
  obtain ⟨ow2, hi⟩ := k.rec_
  obtain ⟨es, hes⟩ : ∃ es, es = rs.map entT := ⟨_, rfl⟩
  rw [← hes] at hj
  have hkf : keysFit .s es = true := by rw [hes]; exact keysFit_rs rs
  have hfk : fitK .s (.string (strB nm)) = true := rfl
  cases hfd : findT nm S.ts with
  | none =>
    have hget := k.none_ ho.uni hfd
    rw [← hes] at hget
    have hmv : mval false (.pointer none) none = .pointer none := rfl
    have hw : waitS S nm = 0 := by simp [waitS, hfd]
    simp (disch := first | omega | (simp only [VH.n_push, VH.n_set]; done) | (simp only [VH.n_push, VH.n_set]; omega)) [r_fair_Sched_Waiting, B_fair_Sched_Waiting, hi, ls_0, hj, hkf, hfk, hget, hmv, hw]
  | some t =>
    obtain ⟨r, hr, hrt, T, hget⟩ := TenR.at_ k ho.uni hfd
    rw [← hes] at hget
    have hmv : mval false (.pointer none) (some (.pointer (some ⟨r.it, 0, none⟩))) = .pointer (some ⟨r.it, 0, none⟩) := rfl
    obtain ⟨ow3, hit⟩ := T.rec_
    have hw : waitS S nm = r.t.l.length := by simp [waitS, hfd, hrt]
    simp (disch := first | omega | (simp only [VH.n_push, VH.n_set]; done) | (simp only [VH.n_push, VH.n_set]; omega)) [B_fair_Sched_Waiting, hi, ls_0, hj, hkf, hfk, hget, hmv, hit, lt_2]
    refine (qlen_ok T).mono ?_
    rintro u g ⟨rfl, rfl⟩
    simp (disch := first | omega | (simp only [VH.n_push, VH.n_set]; done) | (simp only [VH.n_push, VH.n_set]; omega)) [r_fair_Sched_Waiting, hw]
theorem waiting_ok {h : VH} {i : Nat} {S : Sc} {X : List Nat} (K : Sch h i S X) (ho : Ord S.ts) {nm : List UInt8} :
    PCalls Try.prog f_fair_Sched_Waiting [.pointer (some ⟨i, 0, none⟩), .string (strB nm)] h (fun u h' => u = .int .i64 (waitS S nm : Int) ∧ h' = h) := by
  obtain ⟨j, rs, _, k⟩ := K
  exact waiting_ok' k.r ho

theorem SeqAt.src {h : VH} {v : Value} {cs : List Value} {n : Nat} (k : SeqAt h 3 v cs n) : srcCells h 3 v = some cs := by
  rcases k with ⟨rfl, rfl, _⟩ | ⟨i, o, c, ds, ow, h1, h2, rfl, h4, h5, h6, h7⟩
  · rfl
  · have hl := congrArg List.length h5
    rw [List.length_drop] at hl
    simp only [srcCells, if_true, rowOf_obj, h4, rowObj]
    rw [if_pos (by omega), h5, List.take_of_length_le (by omega)]
theorem wclone_ok {h : VH} {v : Value} {l : List Wk} (k : SeqAt h 3 v (wksL l) l.length) (hb : l.length ≤ 1000) :
    PCalls Try.prog f_slices_Clone_fair_work_fair_work [v] h (fun u h' => OwnSl h' 3 u (wksL l) l.length ∧ Fr h h' [] ∧ ∀ y ∈ idOf u, h.n ≤ y) := by
  refine PCalls_of_pw st_slices_Clone_fair_work_fair_work (by simp [n_slices_Clone_fair_work_fair_work]) ?_
  rw [b_slices_Clone_fair_work_fair_work]
  rcases k with ⟨rfl, h1, h2⟩ | ⟨i, o, c, ds, ow, h1, h2, rfl, h4, h5, h6, h7⟩
  · simp (disch := first | omega | (simp only [VH.n_push, VH.n_set]; done) | (simp only [VH.n_push, VH.n_set]; omega)) [r_slices_Clone_fair_work_fair_work, B_slices_Clone_fair_work_fair_work]
    have : l = [] := List.eq_nil_of_length_eq_zero h2
    subst this
    exact ⟨OwnSl.nil _ _, Fr.refl _ _, by simp [idOf]⟩
  · obtain ⟨n, hn⟩ : ∃ n, n = l.length := ⟨_, rfl⟩
    rw [← hn] at h2 hb h6
    rw [← hn]
    obtain ⟨g1, hg1⟩ : ∃ g1, g1 = h.push (.cells [] true 3) := ⟨_, rfl⟩
    have F1 : Fr h g1 [] := by rw [hg1]; exact Fr_push (Fr.refl _ _)
    have n1 : g1.n = h.n + 1 := by rw [hg1]; rfl
    have ow1 : OwnSl g1 3 (.slice (some ⟨h.n, 0, none⟩) 0 0) [] 0 := .inr ⟨h.n, 0, 0, [], by omega, Nat.le_refl _, rfl, by rw [hg1, VH.get_push_new], rfl, rfl, Nat.le_refl _⟩
    obtain ⟨v', g2, hap, ho2, hf2, hid⟩ := ow1.append (bytes := 24) (ys := wksL l) (k := n) (by rw [wksL_len, hn]) (by omega)
    have hi1 : g1.get i = .cells ds ow 3 := (F1.get i h1 (by simp)).trans h4
    have hro : rowObj (.cells ds ow 3) o (n * 3) = some (wksL l) := by
      have h8 := congrArg List.length h5
      rw [List.length_drop] at h8
      simp only [rowObj]
      rw [if_pos (by omega), h5, List.take_of_length_le (by omega)]
    simp (disch := first | omega | (simp only [VH.n_push, VH.n_set]; done) | (simp only [VH.n_push, VH.n_set]; omega)) [r_slices_Clone_fair_work_fair_work, B_slices_Clone_fair_work_fair_work, fillC, ← hg1, hi1, hro, Option.bind_some, hap]
    rw [List.nil_append, Nat.zero_add] at ho2
    refine ⟨ho2, F1.trans' hf2 (fun y hy => by simp [idOf] at hy; omega), fun y hy => ?_⟩
    rcases hid y hy with h1 | h1
    · simp [idOf] at h1; omega
    · omega
theorem qall_ok {h : VH} {r : Rt} (k : TenR h r) (hb : r.t.l.length ≤ 1000) :
    PCalls Try.prog f_fair_Queue_fair_work_All [.pointer (some ⟨r.iq, 0, none⟩)] h (fun u h' => OwnSl h' 3 u (wksL r.t.l) r.t.l.length ∧ Fr h h' [] ∧ ∀ y ∈ idOf u, h.n ≤ y) := by
  refine PCalls_of_pw st_fair_Queue_fair_work_All (by simp [n_fair_Queue_fair_work_All]) ?_
  rw [b_fair_Queue_fair_work_All]
  obtain ⟨ow, hq⟩ := k.qu
  simp (disch := first | omega | (simp only [VH.n_push, VH.n_set]; done) | (simp only [VH.n_push, VH.n_set]; omega)) [B_fair_Queue_fair_work_All, hq, l2_1]
  refine (wclone_ok k.own hb).mono ?_
  rintro u h' ⟨h1, h2, h3⟩
  simp (disch := first | omega | (simp only [VH.n_push, VH.n_set]; done) | (simp only [VH.n_push, VH.n_set]; omega)) [r_fair_Queue_fair_work_All]
  exact ⟨h1, h2, h3⟩
theorem wks_at {l : List Wk} {k : Nat} (hk : k < l.length) : ((wksL l).drop (k * 3)).take 3 = wkL l[k] := by
  have h1 : l = l.take k ++ l[k] :: l.drop (k + 1) := by rw [← List.drop_eq_getElem_cons hk, List.take_append_drop]
  have h2 : wksL l = wksL (l.take k) ++ (wkL l[k] ++ wksL (l.drop (k + 1))) := by
    have h3 : l[k] :: l.drop (k + 1) = [l[k]] ++ l.drop (k + 1) := rfl
    have h4 := congrArg wksL h1
    rw [wksL_append, h3, wksL_append] at h4
    exact h4
  rw [h2, List.drop_left' (by rw [wksL_len, List.length_take, Nat.min_eq_left (by omega)])]
  rfl
theorem OwnSl.wk {h : VH} {v : Value} {l : List Wk} {n : Nat} (k : OwnSl h 3 v (wksL l) n) {j : Nat} (hj : j < l.length) :
    ∃ i o c ds, v = .slice (some ⟨i, o, none⟩) n c ∧ j < n ∧ i < h.n ∧ h.get i = .cells ds true 3 ∧ loadObj (.cells ds true 3) (o + j * 3) (some 3) = some (wkV l[j]) := by
  rcases k with ⟨_, h1, h2⟩ | ⟨i, o, c, ds, h1, h2, h3, h4, h5, h6, h7⟩
  · have := congrArg List.length h1
    rw [wksL_len, List.length_nil] at this
    omega
  · rw [wksL_len] at h6
    have h8 := congrArg List.length h5
    rw [List.length_drop, wksL_len] at h8
    refine ⟨i, o, c, ds, h3, by omega, h1, h4, ?_⟩
    simp only [loadObj]
    rw [if_pos (by omega), ← List.drop_drop, h5, wks_at hj]
    rfl
theorem sumC_take {l : List Wk} {k : Nat} (hk : k < l.length) : sumC (l.take (k + 1)) = sumC (l.take k) + l[k].j.cost := by
  unfold sumC
  rw [List.take_succ_eq_append_getElem hk, List.map_append, List.sum_append]
  simp
theorem sumC_bd : ∀ {l : List Wk}, (∀ w ∈ l, 1 ≤ w.j.cost ∧ w.j.cost ≤ 1000) → 0 ≤ sumC l ∧ sumC l ≤ 1000 * (l.length : Int)
  | [], _ => by simp [sumC]
  | w :: l, h => by
    have h1 := h w (List.mem_cons_self ..)
    have h2 := sumC_bd (l := l) (fun x hx => h x (List.mem_cons_of_mem _ hx))
    simp only [sumC, List.map_cons, List.sum_cons, List.length_cons] at h2 ⊢
    omega
set_option maxHeartbeats 2000000 in
theorem ahead_ok' {h : VH} {i j : Nat} {rs : List Rt} {S : Sc} {b : Int} (k : RepR h i j rs S) (ok : OkS b S) {nm : List UInt8} :
    PCalls Try.prog f_fair_Sched_Ahead [.pointer (some ⟨i, 0, none⟩), .string (strB nm)] h (fun u _ => u = .int .i64 (aheadS S nm)) := by
  refine PCalls_of_pw st_fair_Sched_Ahead (by simp [n_fair_Sched_Ahead]) ?_
  rw [b_fair_Sched_Ahead]
  have ho := ok.ord
  have hli := k.lti
  obtain ⟨clk, ow, hj, hlt⟩ := k.map_
  obtain ⟨ow2, hi⟩ := k.rec_
  obtain ⟨es, hes⟩ : ∃ es, es = rs.map entT := ⟨_, rfl⟩
  rw [← hes] at hj
  have hkf : keysFit .s es = true := by rw [hes]; exact keysFit_rs rs
  have hfk : fitK .s (.string (strB nm)) = true := rfl
  cases hfd : findT nm S.ts with
  | none =>
    have hget := k.none_ ho.uni hfd
    rw [← hes] at hget
    have hmv : mval false (.pointer none) none = .pointer none := rfl
    have hw : aheadS S nm = 0 := by simp [aheadS, hfd]
    simp (disch := first | omega | (simp only [VH.n_push, VH.n_set]; done) | (simp only [VH.n_push, VH.n_set]; omega)) [r_fair_Sched_Ahead, B_fair_Sched_Ahead, hi, ls_0, hj, hkf, hfk, hget, hmv, hw]
  | some t =>
    obtain ⟨r, hr, hrt, T, hget⟩ := TenR.at_ k ho.uni hfd
    rw [← hes] at hget
    have hmv : mval false (.pointer none) (some (.pointer (some ⟨r.it, 0, none⟩))) = .pointer (some ⟨r.it, 0, none⟩) := rfl
    obtain ⟨ow3, hit⟩ := T.rec_
    have okt := ok.ten t (findT_some hfd).1
    have hlen : r.t.l.length ≤ 16 := by rw [hrt]; exact okt.len
    simp (disch := first | omega | (simp only [VH.n_push, VH.n_set]; done) | (simp only [VH.n_push, VH.n_set]; omega)) [B_fair_Sched_Ahead, hi, ls_0, hj, hkf, hfk, hget, hmv, hit, lt_2]
    refine (qall_ok T (by omega)).mono ?_
    rintro u g1 ⟨O, F1, id1⟩
    obtain ⟨l, hl⟩ : ∃ l, l = r.t.l := ⟨_, rfl⟩
    rw [← hl] at O hlen
    have hwk : ∀ w ∈ l, 1 ≤ w.j.cost ∧ w.j.cost ≤ 1000 := fun w hw => by
      have := okt.wk w (by rw [← hrt, ← hl]; exact hw)
      exact ⟨this.1, this.2.1⟩
    obtain ⟨a, c, rfl⟩ := O.shapeN
    obtain ⟨N, hN⟩ : ∃ N, N = l.length := ⟨_, rfl⟩
    rw [← hN]
    rw [← hN] at O id1
    simp (disch := first | omega | (simp only [VH.n_push, VH.n_set]; done) | (simp only [VH.n_push, VH.n_set]; omega)) []
    refine pw_loopN (fun n s g => Fr g1 g [] ∧ s 0 = .pointer (some ⟨i, 0, none⟩) ∧ s 1 = .string (strB nm) ∧ s 28 = .slice a N c ∧ s 29 = .int .i64 (N : Int) ∧ s 30 = .int .i64 (n : Int) ∧ s 5 = .int .i64 (sumC (l.take n))) N ?_ ?_
    · exact ⟨Fr.refl _ _, by simp [upd_apply, s0_apply], by simp [upd_apply, s0_apply], by simp [upd_apply], by simp [upd_apply], by simp [upd_apply], by simp [upd_apply, sumC]⟩
    rintro n s g hn ⟨F, e0, e1, e28, e29, e30, e5⟩
    by_cases hlt' : n < N
    · have hltI : (n : Int) < (N : Int) := by omega
      obtain ⟨i1, o1, c1, ds, hv, hn1, hi1, hg, hld⟩ := OwnSl.wk (O.fr F (fun _ _ => by simp)) (j := n) (by omega)
      injection hv with hv _ hvc
      subst hv
      subst hvc
      have hez : eszObj (.cells ds true 3) 3 = true := rfl
      obtain ⟨w, hw⟩ : ∃ w, w = l[n]'(by omega) := ⟨_, rfl⟩
      rw [← hw] at hld
      have hst : sumC (l.take (n + 1)) = sumC (l.take n) + w.j.cost := by rw [hw]; exact sumC_take (by omega)
      have hw1 := hwk w (by rw [hw]; exact List.getElem_mem _)
      have hbd := sumC_bd (l := l.take n) (fun x hx => hwk x (List.mem_of_mem_take hx))
      rw [List.length_take] at hbd
      have hadd : IntKind.i64.wrap (sumC (l.take n) + w.j.cost) = sumC (l.take (n + 1)) := by rw [hst]; exact i64_small (by omega) (by omega)
      have hkk : IntKind.i64.wrap ((n : Int) + 1) = ((n + 1 : Nat) : Int) := by rw [i64_small (by omega) (by omega)]; omega
      simp (disch := first | omega | (simp only [VH.n_push, VH.n_set]; done) | (simp only [VH.n_push, VH.n_set]; omega)) [e28, e29, e30, hlt', hltI, hg, hez, hld, wkV, s3_A, e5, l3_1, hadd, hkk]
      exact ⟨Fr_set (Fr_push F) (by have := F.n; omega), e0, e1⟩
    · obtain rfl : n = N := by omega
      have gi : g.get i = .cells (scL S j) ow2 1 := ((F1.trans F).get i hli (by simp)).trans hi
      have ht : l.take n = l := List.take_of_length_le (by omega)
      rw [ht] at e5
      have hbd := sumC_bd hwk
      have hh0 := ok.had0
      have hhad : S.had ≤ 1000 := by
        by_cases hz : 0 < S.had
        · obtain ⟨t, w, r, ht, _, hl, hc⟩ := ok.bsy hz
          have := (ok.ten t ht).wk w (by rw [hl]; simp)
          omega
        · omega
      have hah : aheadS S nm = sumC l - (if S.sv = nm then S.had else 0) := by simp [aheadS, hfd, hl, hrt]
      by_cases hnm : S.sv = nm
      · have hb : ((strB S.sv).toList == (strB nm).toList) = true := by rw [hnm]; simp
        rw [if_pos hnm] at hah
        have hsub : IntKind.i64.wrap (sumC l - S.had) = sumC l - S.had := i64_small (by omega) (by omega)
        simp (disch := first | omega | (simp only [VH.n_push, VH.n_set]; done) | (simp only [VH.n_push, VH.n_set]; omega)) [r_fair_Sched_Ahead, e0, e1, e29, e30, gi, ls_2, hb, e5, ls_3, hsub, hah]
      · have hb : ((strB S.sv).toList == (strB nm).toList) = false := by
          rw [strB_toList, strB_toList]; simpa using hnm
        rw [if_neg hnm] at hah
        simp (disch := first | omega | (simp only [VH.n_push, VH.n_set]; done) | (simp only [VH.n_push, VH.n_set]; omega)) [r_fair_Sched_Ahead, e0, e1, e29, e30, gi, ls_2, hb, e5, hah]
theorem ahead_ok {h : VH} {i : Nat} {S : Sc} {X : List Nat} {b : Int} (K : Sch h i S X) (ok : OkS b S) {nm : List UInt8} :
    PCalls Try.prog f_fair_Sched_Ahead [.pointer (some ⟨i, 0, none⟩), .string (strB nm)] h (fun u h' => u = .int .i64 (aheadS S nm) ∧ h' = h) := by
  obtain ⟨j, rs, _, k⟩ := K
  exact ((ahead_ok' k.r.ro ok).mono fun u _ e => by subst e; exact ⟨rfl, rfl⟩).drop
def sumWt (ts : List Tn) : Int := (ts.map fun t => (t.w : Int)).sum
theorem sumInt_perm {a b : List Int} (h : a.Perm b) : a.sum = b.sum := by
  induction h with
  | nil => rfl
  | cons x _ ih => simp [ih]
  | swap x y l => simp; omega
  | trans _ _ ih1 ih2 => exact ih1.trans ih2
theorem sumWt_perm {a b : List Tn} (h : a.Perm b) : sumWt a = sumWt b := sumInt_perm (h.map _)
theorem sumWt_bd {b : Int} : ∀ {ts : List Tn}, (∀ t ∈ ts, OkT b t) → 0 ≤ sumWt ts ∧ sumWt ts ≤ 16 * (ts.length : Int)
  | [], _ => by simp [sumWt]
  | t :: ts, h => by
    have h1 := h t (List.mem_cons_self ..)
    have h2 := sumWt_bd (ts := ts) (fun x hx => h x (List.mem_cons_of_mem _ hx))
    have h3 := h1.w16
    simp only [sumWt, List.map_cons, List.sum_cons, List.length_cons] at h2 ⊢
    omega
set_option maxHeartbeats 2000000 in
theorem weights_ok' {h : VH} {i j : Nat} {rs : List Rt} {S : Sc} {b : Int} (k : RepR h i j rs S) (ok : OkS b S) :
    PCalls Try.prog f_fair_Sched_Weights [.pointer (some ⟨i, 0, none⟩)] h (fun u _ => u = .tuple #[.int .i64 (sumWt S.ts), .int .i64 (S.ts.length : Int)]) := by
  refine PCalls_of_pw st_fair_Sched_Weights (by simp [n_fair_Sched_Weights]) ?_
  rw [b_fair_Sched_Weights]
  obtain ⟨clk, ow, hj, hlt⟩ := k.map_
  obtain ⟨ow2, hi⟩ := k.rec_
  have hlj := k.ltj
  have hli := k.lti
  have hlen : rs.length = S.ts.length := by have := k.perm.length_eq; simpa using this
  have hl16 := ok.len
  obtain ⟨es, hes⟩ : ∃ es, es = rs.map entT := ⟨_, rfl⟩
  have hel : es.length = S.ts.length := by rw [hes]; simpa using hlen
  rw [← hes] at hj
  have okr : ∀ r ∈ rs, OkT b r.t := fun r hr => ok.ten _ (k.perm.mem_iff.1 (List.mem_map_of_mem hr))
  simp (disch := first | omega | (simp only [VH.n_push, VH.n_set]; done) | (simp only [VH.n_push, VH.n_set]; omega)) [B_fair_Sched_Weights, hi, ls_0, hj]
  refine pw_loop (fun n s g => ∃ dn td : List Rt, n = td.length ∧ Rng h g j clk rs dn td ∧ s 0 = .pointer (some ⟨i, 0, none⟩) ∧ s 13 = .pointer (some ⟨h.n, 0, none⟩) ∧ s 4 = .int .i64 (sumWt (dn.map (·.t)))) rs.length ?_ ?_
  · exact ⟨[], rs, rfl, ⟨Fr.push _ _ _, by simp, List.Perm.refl _, VH.get_push_new _ _⟩, by simp [upd_apply, s0_apply], by simp [upd_apply], by simp [upd_apply, sumWt]⟩
  rintro n s g ⟨dn, td, rfl, R, e0, e13, e4⟩
  have hjg : g.get j = .map es clk ow := (R.fr.get j hlj (by simp)).trans hj
  have hig : g.get i = .cells (scL S j) ow2 1 := (R.fr.get i hli (by simp)).trans hi
  have hlq := R.lt
  simp (disch := first | omega | (simp only [VH.n_push, VH.n_set]; done) | (simp only [VH.n_push, VH.n_set]; omega)) [e13]
  refine range_next hes R.perm k.bnd hlt R.iter hjg ?_ ?_
  · rintro rfl
    rw [sumWt_perm (R.ts k.perm)] at e4
    simp (disch := first | omega | (simp only [VH.n_push, VH.n_set]; done) | (simp only [VH.n_push, VH.n_set]; omega)) [r_fair_Sched_Weights, e0, e4, hig, ls_0, hjg, hel]
  · intro x a c sn htd hsn hlast
    have hx := R.at_ htd
    obtain ⟨g1, hg1⟩ : ∃ g1, g1 = g.set h.n (.miter (some j) clk sn clk) := ⟨_, rfl⟩
    have F1 : Fr h g1 [] := by rw [hg1]; exact Fr_set R.fr (Nat.le_refl _)
    have q1 : g1.get h.n = .miter (some j) clk sn clk := by rw [hg1, VH.get_set_same]
    have n1 : h.n < g1.n := by rw [hg1]; exact hlq
    have j1 : g1.get j = .map es clk ow := (F1.get j hlj (by simp)).trans hj
    have T := (k.ten x hx).fr0 F1
    obtain ⟨ow3, hit⟩ := T.rec_
    have hR := R.next htd hsn q1 F1 n1
    have hdl : dn.length ≤ 16 := by
      have := R.perm.length_eq
      rw [List.length_append] at this
      omega
    have hbd := sumWt_bd (b := b) (ts := dn.map (·.t)) (fun t ht => by
      obtain ⟨r, hr, rfl⟩ := List.mem_map.1 ht
      exact okr r (R.perm.mem_iff.1 (List.mem_append_left _ hr)))
    rw [List.length_map] at hbd
    have hw16 := (okr x hx).w16
    have hadd : IntKind.i64.wrap (sumWt (dn.map (·.t)) + (x.t.w : Int)) = sumWt ((dn ++ [x]).map (·.t)) := by
      rw [i64_small (by omega) (by omega)]
      simp [sumWt]
    simp (disch := first | omega | (simp only [VH.n_push, VH.n_set]; done) | (simp only [VH.n_push, VH.n_set]; omega)) [e0, e13, ← hg1, q1, j1, hlast, entT, hit, lt_0, e4, hadd]
    exact ⟨_, by have := (perm_step R.perm htd).2; exact this, dn ++ [x], a ++ c, rfl, hR, by simp⟩
theorem weights_ok {h : VH} {i : Nat} {S : Sc} {X : List Nat} {b : Int} (K : Sch h i S X) (ok : OkS b S) :
    PCalls Try.prog f_fair_Sched_Weights [.pointer (some ⟨i, 0, none⟩)] h (fun u h' => u = .tuple #[.int .i64 (sumWt S.ts), .int .i64 (S.ts.length : Int)] ∧ h' = h) := by
  obtain ⟨j, rs, _, k⟩ := K
  exact ((weights_ok' k.r.ro ok).mono fun u _ e => by subst e; exact ⟨rfl, rfl⟩).drop

/-! ### Drop -/
def dropR (r : Rt) : Rt := { r with t := { r.t with l := [] }, v := if r.t.l = [] then r.v else .slice none 0 0 }
theorem qdrop_ok {h : VH} {r : Rt} (k : TenAt h r) : PCalls Try.prog f_fair_Queue_fair_work_Drop [.pointer (some ⟨r.iq, 0, none⟩)] h (fun u h' => u = .int .i64 (r.t.l.length : Int) ∧ TenAt h' (dropR r) ∧ Fr h h' [r.iq]) := by
  refine PCalls_of_pw st_fair_Queue_fair_work_Drop (by simp [n_fair_Queue_fair_work_Drop]) ?_
  rw [b_fair_Queue_fair_work_Drop]
  simp (disch := first | omega | (simp only [VH.n_push, VH.n_set]; done) | (simp only [VH.n_push, VH.n_set]; omega)) [B_fair_Queue_fair_work_Drop]
  refine (qlen_ok k.r).mono ?_
  rintro u h' ⟨rfl, rfl⟩
  cases hl : r.t.l with
  | nil =>
    simp (disch := first | omega | (simp only [VH.n_push, VH.n_set]; done) | (simp only [VH.n_push, VH.n_set]; omega)) [r_fair_Queue_fair_work_Drop]
    have hr : dropR r = r := by
      have : { r.t with l := [] } = r.t := by rw [← hl]
      unfold dropR
      rw [this, if_pos hl]
    rw [hr]
    exact ⟨k, Fr.refl _ _⟩
  | cons w l =>
    obtain ⟨n, hn⟩ : ∃ n, n = (w :: l).length := ⟨_, rfl⟩
    rw [← hn]
    have hp : 0 < n := by rw [hn]; simp
    have hpI : (0 : Int) < (n : Int) := by omega
    have hq := k.qu
    obtain ⟨a, c, hv⟩ := k.own.shapeN
    rw [hv] at hq
    simp (disch := first | omega | (simp only [VH.n_push, VH.n_set]; done) | (simp only [VH.n_push, VH.n_set]; omega)) [r_fair_Queue_fair_work_Drop, hp, hpI, hq, sq_1]
    have F : Fr h' (h'.set r.iq (.cells (quL (.slice none 0 0)) true 1)) [r.iq] := Fr.set _ _ (by simp)
    have hvr : (dropR r).v = .slice none 0 0 := by unfold dropR; simp [hl]
    refine ⟨⟨k.lt, k.lq, ?_, ?_, ?_⟩, F⟩
    · show (h'.set r.iq _).get r.it = _
      rw [F.get r.it k.lt (by simpa using k.nq)]
      exact k.rec_
    · show (h'.set r.iq _).get r.iq = _
      rw [VH.get_set_same, hvr]
    · rw [hvr]; exact OwnSl.nil _ _
theorem fp_drop {r : Rt} : ∀ x ∈ fpT (dropR r), x ∈ fpT r := by
  intro x hx
  simp only [fpT, dropR, List.mem_cons] at hx ⊢
  rcases hx with hx | hx | hx
  · exact .inl hx
  · exact .inr (.inl hx)
  · split at hx
    · exact .inr (.inr hx)
    · simp [idOf] at hx
def lenSum (ts : List Tn) : Int := (ts.map fun t => (t.l.length : Int)).sum
theorem lenSum_perm {a b : List Tn} (h : a.Perm b) : lenSum a = lenSum b := sumInt_perm (h.map _)
theorem lenSum_bd {b : Int} : ∀ {ts : List Tn}, (∀ t ∈ ts, OkT b t) → 0 ≤ lenSum ts ∧ lenSum ts ≤ 16 * (ts.length : Int)
  | [], _ => by simp [lenSum]
  | t :: ts, h => by
    have h1 := h t (List.mem_cons_self ..)
    have h2 := lenSum_bd (ts := ts) (fun x hx => h x (List.mem_cons_of_mem _ hx))
    have h3 := h1.len
    simp only [lenSum, List.map_cons, List.sum_cons, List.length_cons] at h2 ⊢
    omega
set_option maxHeartbeats 4000000 in
theorem drop_ok {h : VH} {i : Nat} {S : Sc} {X : List Nat} {b : Int} (K : Sch h i S X) (ok : OkS b S) :
    PCalls Try.prog f_fair_Sched_Drop [.pointer (some ⟨i, 0, none⟩)] h (fun u h' => u = .int .i64 (dropS S).1 ∧ SchP h i X (dropS S).2 h') := by
  refine PCalls_of_pw st_fair_Sched_Drop (by simp [n_fair_Sched_Drop]) ?_
  rw [b_fair_Sched_Drop]
  obtain ⟨j, rs, rfl, k⟩ := K
  obtain ⟨clk, hj, hlt⟩ := k.map_
  have hi := k.rec_
  have hlj := k.ltj
  have hli := k.lti
  have hij := k.nij
  have hlen := k.len
  have hl16 := ok.len
  have okr : ∀ r ∈ rs, OkT b r.t := fun r hr => ok.ten _ (k.perm.mem_iff.1 (List.mem_map_of_mem hr))
  obtain ⟨es, hes⟩ : ∃ es, es = rs.map entT := ⟨_, rfl⟩
  rw [← hes] at hj
  simp (disch := first | omega | (simp only [VH.n_push, VH.n_set]; done) | (simp only [VH.n_push, VH.n_set]; omega)) [B_fair_Sched_Drop, hi, ls_0, hj]
  refine pw_loop (fun n s g => ∃ dn td : List Rt, n = td.length ∧ Fr h g (fpS i j rs) ∧ h.n < g.n ∧ (dn ++ td).Perm rs ∧ g.get h.n = .miter (some j) clk (dn.map fun r => (entT r).2.2) clk ∧ g.get i = h.get i ∧ g.get j = h.get j ∧
    (∀ r ∈ dn, TenAt g (dropR r)) ∧ (∀ r ∈ td, TenAt g r) ∧ s 0 = .pointer (some ⟨i, 0, none⟩) ∧ s 12 = .pointer (some ⟨h.n, 0, none⟩) ∧ s 3 = .int .i64 (lenSum (dn.map (·.t)))) rs.length ?_ ?_
  · have F1 : Fr h (h.push (.miter (some j) clk [] clk)) [] := Fr.push _ _ _
    refine ⟨[], rs, rfl, F1.sub (by simp), by simp, List.Perm.refl _, VH.get_push_new _ _, F1.get _ hli (by simp), F1.get _ hlj (by simp), by simp, fun r hr => (k.ten r hr).fr F1 (fun _ _ => by simp), by simp [upd_apply, s0_apply], by simp [upd_apply], by simp [upd_apply, lenSum]⟩
  rintro n s g ⟨dn, td, rfl, F, hn, hp, hit, hgi, hgj, hd, ht, e0, e12, e3⟩
  simp (disch := first | omega | (simp only [VH.n_push, VH.n_set]; done) | (simp only [VH.n_push, VH.n_set]; omega)) [e12]
  refine range_next hes hp k.bnd (fun r hr => hlt r hr) hit (hgj.trans hj) ?_ ?_
  · rintro rfl
    rw [List.append_nil] at hp
    have hsum : lenSum (dn.map (·.t)) = lenSum S.ts := lenSum_perm ((hp.map _).trans k.perm)
    have kd : Rep g i j (rs.map dropR) { S with ts := S.ts.map fun t => { t with l := [] } } := by
      refine ⟨by omega, by omega, ?_, ⟨clk, ?_, ?_⟩, ?_, ?_, ?_, ?_⟩
      · rw [hgi, hi]; rfl
      · rw [hgj, hj, hes, List.map_map]; rfl
      · intro r hr
        obtain ⟨x, hx, rfl⟩ := List.mem_map.1 hr
        exact hlt x hx
      · have := k.bnd
        rw [List.map_map]
        exact this
      · intro r hr
        obtain ⟨x, hx, rfl⟩ := List.mem_map.1 hr
        exact hd x (hp.mem_iff.2 hx)
      · rw [List.pairwise_map]
        exact k.sep.imp (fun hab x hx hxb => hab x (fp_drop x hx) (fp_drop x hxb))
      · have := k.perm.map (fun t : Tn => { t with l := [] })
        rw [List.map_map] at this ⊢
        exact this
    simp (disch := first | omega | (simp only [VH.n_push, VH.n_set]; done) | (simp only [VH.n_push, VH.n_set]; omega)) [e0]
    refine (rest_ok kd).mono ?_
    rintro u g2 ⟨k2, F2⟩
    simp (disch := first | omega | (simp only [VH.n_push, VH.n_set]; done) | (simp only [VH.n_push, VH.n_set]; omega)) [r_fair_Sched_Drop, e3]
    have hfp : ∀ x ∈ fpS i j (rs.map dropR), x ∈ fpS i j rs := by
      intro x hx
      simp only [fpS, List.mem_cons, List.mem_flatMap, List.mem_map] at hx ⊢
      rcases hx with hx | hx | ⟨r, ⟨y, hy, rfl⟩, hx⟩
      · exact .inl hx
      · exact .inr (.inl hx)
      · exact .inr (.inr ⟨y, hy, fp_drop x hx⟩)
    refine ⟨by rw [hsum]; rfl, fpS i j ((rs.map dropR).map zeroR), ⟨j, _, rfl, ?_⟩, F.trans (F2.sub hfp), fun x hx => .inl (hfp x ?_)⟩
    · refine k2.of_perm rfl ?_
      unfold restS dropS
      rw [List.map_map]
      exact List.Perm.refl _
    · simpa [fpS, List.flatMap_map, fp_zero] using hx
  · intro x a c sn htd hsn hlast
    have hx : x ∈ rs := hp.mem_iff.1 (by rw [htd]; simp)
    obtain ⟨g1, hg1⟩ : ∃ g1, g1 = g.set h.n (.miter (some j) clk sn clk) := ⟨_, rfl⟩
    have F1 : Fr g g1 [h.n] := by rw [hg1]; exact Fr.set _ _ (by simp)
    have q1 : g1.get h.n = .miter (some j) clk sn clk := by rw [hg1, VH.get_set_same]
    have n1 : g1.n = g.n := by rw [hg1]; rfl
    have j1 : g1.get j = .map es clk true := (F1.get j (by omega) (by simp; omega)).trans (hgj.trans hj)
    have kl : ∀ r ∈ rs, ∀ y ∈ fpT r, y < h.n := fun r hr => (k.ten r hr).lts
    have T := (ht x (by rw [htd]; simp)).fr F1 (fun y hy => by have := kl x hx y hy; simp; omega)
    have hit1 := T.rec_
    have hxiq := kl x hx x.iq (by simp [fpT])
    have hni := k.ni x hx
    have hnj := k.nj x hx
    simp (disch := first | omega | (simp only [VH.n_push, VH.n_set]; done) | (simp only [VH.n_push, VH.n_set]; omega)) [e12, ← hg1, q1, j1, hlast, entT, hit1, lt_2]
    refine (qdrop_ok T).mono ?_
    rintro u g2 ⟨rfl, T2, F2⟩
    have n2 := F2.n
    have F12 : Fr g g2 [h.n, x.iq] := (F1.sub (by simp)).trans (F2.sub (by simp))
    have hdl : dn.length ≤ 16 := by
      have := hp.length_eq
      rw [List.length_append] at this
      omega
    have hbd := lenSum_bd (b := b) (ts := dn.map (·.t)) (fun t ht => by
      obtain ⟨r, hr, rfl⟩ := List.mem_map.1 ht
      exact okr r (hp.mem_iff.1 (List.mem_append_left _ hr)))
    rw [List.length_map] at hbd
    have hxl := (okr x hx).len
    have hadd : IntKind.i64.wrap (lenSum (dn.map (·.t)) + (x.t.l.length : Int)) = lenSum ((dn ++ [x]).map (·.t)) := by
      rw [i64_small (by omega) (by omega)]
      simp [lenSum]
    have hbn : ((dn ++ td).map fun r => r.bn).Nodup := (hp.map _).nodup_iff.2 k.bnd
    rw [htd] at hbn
    have hbx : ∀ r, r ∈ dn ∨ r ∈ a ++ c → r.bn ≠ x.bn := by
      have h2 : ((x :: (dn ++ (a ++ c))).map fun r => r.bn).Nodup := by
        refine (List.Perm.nodup_iff ?_).1 hbn
        refine List.Perm.map _ ?_
        rw [← List.append_assoc, ← List.append_assoc]
        exact List.perm_middle
      rw [List.map_cons, List.nodup_cons] at h2
      intro r hr e
      refine h2.1 (e ▸ List.mem_map_of_mem (f := fun r : Rt => r.bn) ?_)
      exact List.mem_append.2 hr
    have keep : ∀ r, r ∈ rs → r.bn ≠ x.bn → ∀ y ∈ fpT r, y ∉ [h.n, x.iq] := by
      intro r hr hne y hy hyx
      simp at hyx
      rcases hyx with rfl | rfl
      · have := kl r hr _ hy; omega
      · exact sep_ne k.sep hr hx hne _ hy (by simp [fpT])
    simp (disch := first | omega | (simp only [VH.n_push, VH.n_set]; done) | (simp only [VH.n_push, VH.n_set]; omega)) [e3, hadd]
    refine ⟨_, by have := (perm_step hp htd).2; exact this, dn ++ [x], a ++ c, rfl, ?_, by omega, (perm_step hp htd).1, ?_, ?_, ?_, ?_, ?_, e0, e12, ?_⟩
    · refine (F.trans' F12 (fun y hy => ?_))
      simp at hy
      rcases hy with rfl | rfl
      · exact .inr (Nat.le_refl _)
      · refine .inl ?_
        simp only [fpS, List.mem_cons, List.mem_flatMap]
        exact .inr (.inr ⟨x, hx, by simp [fpT]⟩)
    · rw [F2.get _ (by omega) (by simp; omega), q1, hsn]; rfl
    · rw [F12.get _ (by omega) (by simp; exact ⟨by omega, fun e => hni (by simp [fpT, e])⟩)]; exact hgi
    · rw [F12.get _ (by omega) (by simp; exact ⟨by omega, fun e => hnj (by simp [fpT, e])⟩)]; exact hgj
    · intro r hr
      rcases List.mem_append.1 hr with hr | hr
      · have hrs : r ∈ rs := hp.mem_iff.1 (List.mem_append_left _ hr)
        exact (hd r hr).fr F12 (fun y hy => keep r hrs (hbx r (.inl hr)) y (fp_drop y hy))
      · simp at hr
        subst hr
        exact T2
    · intro r hr
      have hrs : r ∈ rs := hp.mem_iff.1 (List.mem_append_right _ (by rw [htd]; simp at hr ⊢; rcases hr with hr | hr <;> simp [hr]))
      exact (ht r (by rw [htd]; simp at hr ⊢; rcases hr with hr | hr <;> simp [hr])).fr F12 (keep r hrs (hbx r (.inr hr)))
    · simp
end Go.Proofs.Ytnnljhcpkkpniaa.Fa
