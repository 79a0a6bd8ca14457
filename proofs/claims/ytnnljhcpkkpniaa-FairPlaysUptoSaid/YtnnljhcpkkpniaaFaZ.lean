/- fair, part Z: FairPlays: both, side by side. -/
import Derived.Test.YtnnljhcpkkpniaaFaO
import Derived.Test.YtnnljhcpkkpniaaFaY
set_option linter.unusedVariables false
set_option linter.unusedSimpArgs false
set_option maxRecDepth 100000
namespace Go.Proofs.Ytnnljhcpkkpniaa.Fa
open Go Go.RowKit Go.Proofs.Ytnnljhcpkkpniaa.Pm Go.Proofs.Ytnnljhcpkkpniaa.Fs
attribute [local simp] pw_skip pw_ops pw_quiet pw_seq pw_cond pw_block pw_exit pw_ret pw_scope pw_label kSeq_normal kSeq_ret kSeq_exit kBlock_normal kBlock_ret kBlock_exit kScope_normal kScope_ret kScope_exit kLoop_normal kLoop_ret kLoop_exit kCond_true kCond_false kCond_dec pwOps_nil pwOps_call pwOps_guard kStep_some kCall_at pwQ_nil pwQ_call pwQ_guard kQ_some putS_some putS_none upd_apply ev_t ev_k isB_bool isB_undef s0_apply pstep pwO_mov pwO_pick pwO_nilck pwO_bin pwO_binB pwO_eqNil pwO_un pwO_convI pwO_convS pwO_alloc pwO_build pwO_load pwO_store pwO_fieldAddr pwO_field pwO_idxS pwO_idxA pwO_idxV pwO_strAt pwO_lenStr pwO_lenS pwO_lenC pwO_slS pwO_slA pwO_slStr pwO_extract pwO_mkFunc pwO_mkIface pwO_append pwO_appendStr pwO_toBytes pwO_ofB pwO_box pwO_row pwO_minmax pwO_eqV pwO_sameB pwR_mov pwR_pick pwR_nilck pwR_bin pwR_binB pwR_eqNil pwR_un pwR_convI pwR_convS pwR_build pwR_load pwR_fieldAddr pwR_field pwR_idxS pwR_idxA pwR_idxV pwR_strAt pwR_lenStr pwR_lenS pwR_lenC pwR_slS pwR_slA pwR_slStr pwR_extract pwR_mkFunc pwR_mkIface pwR_ofB pwR_minmax pwR_eqV ret_r ret_n kRet_some resV0 resV1 resV2 resV3 resV4 VH.get_push_new VH.get_set_same VH.n_push VH.n_set cellsL_agg cellsL_int cellsL_bool cellsL_string cellsL_slice cellsL_pointer cellsL_map pw_draw pwD_nil pwD_cons kD_nil kD_cons evalOK_plain evalOK_guard kEv_some dstIs_some dstIs_none pw_goto pw_scopeL kSeq_goto kBlock_goto kLoop_goto kScopeL_normal kScopeL_ret kScopeL_exit kScopeL_goto pwOps_callv kCallv_fn kCallv_yld pwOps_nextM pwO_makeMap pwO_lookup pwR_lookup pwO_mapSet pwO_mapDel pwO_lenM pwR_lenM pwO_mapEntry pwO_entrySet pwO_rangeS pwO_nextS pwO_rangeM pwO_entryM pwR_entryM pwO_copyV pwO_makeSl pwO_asrt pwR_asrt kStep_if kStep_dif kQ_if kQ_dif kEv_if bound_none bound_some toNat_add' toNat_sub' toNat_mul' kLoopN_normal kLoopN_ret kLoopN_exit kLoopN_goto Option.map_some Option.map_none loadAt_obj storeAt_obj rowOf_obj eszIs_obj eszObj_cells loadObj_tab storeObj_tab_int VH.get_set_ne VH.get_push_lt VH.set_set tab_length List.getElem?_cons_zero List.getElem?_cons_succ List.length_cons List.length_nil oneC_int oneC_bool oneC_string oneC_slice oneC_pointer oneC_map srcCells_at srcCells_nil VH.get_push_at isNilV pw_drawT pwT_nil pwT_step pwT_alt kT_nil kT_cons pun pbinS pbin pbinI i64_small IntKind.bits resV resL resOne gI gM gT gF gN gNT gNF dI dM dT dF

structure PB (h g : VH) (i r : Nat) (X : List Nat) (sl : Value) (rs : List (Tn × Value)) (S T : Sc) : Prop where
  fr : Fr h g []
  sch : Sch g i S X
  rr : RR g r sl rs T
  dis : ∀ x ∈ X, x ∉ fpR r sl rs
  xs : ∀ x ∈ X, h.n ≤ x
  fs : ∀ x ∈ fpR r sl rs, h.n ≤ x
theorem PB.fr0 {h g g' : VH} {i r : Nat} {X : List Nat} {sl : Value} {rs : List (Tn × Value)} {S T : Sc} (k : PB h g i r X sl rs S T) (hf : Fr g g' []) : PB h g' i r X sl rs S T :=
  ⟨k.fr.trans hf, k.sch.fr0 hf, k.rr.fr0 hf, k.dis, k.xs, k.fs⟩
theorem PB.prog {h g g' : VH} {i r : Nat} {X : List Nat} {sl : Value} {rs : List (Tn × Value)} {S S' T : Sc} (k : PB h g i r X sl rs S T) (hp : SchP g i X S' g') : ∃ X', PB h g' i r X' sl rs S' T ∧ Fr g g' X := by
  obtain ⟨X', K', M⟩ := hp
  have hn := k.fr.n
  refine ⟨X', ⟨k.fr.trans' M.fr (fun y hy => .inr (k.xs y hy)), K', k.rr.fr M.fr (fun x hx hx' => k.dis x hx' hx), fun y hy hyx => ?_, fun x hx => ?_, k.fs⟩, M.fr⟩
  · rcases M.ids y hy with h1 | h1
    · exact k.dis y h1 hyx
    · have := k.rr.fp_lt y hyx; omega
  · rcases M.ids x hx with h1 | h1
    · exact k.xs x h1
    · omega
theorem PB.ref {h g g' : VH} {i r : Nat} {X : List Nat} {sl : Value} {rs : List (Tn × Value)} {S T T' : Sc} (k : PB h g i r X sl rs S T) (hp : RP g r (fpR r sl rs) T' g') : ∃ sl' rs', PB h g' i r X sl' rs' S T' ∧ Fr g g' (fpR r sl rs) := by
  obtain ⟨sl', rs', K', F, hid⟩ := hp
  have hn := k.fr.n
  refine ⟨sl', rs', ⟨k.fr.trans' F (fun y hy => .inr (k.fs y hy)), k.sch.fr F (fun x hx hx' => k.dis x hx hx'), K', fun y hy hyx => ?_, k.xs, fun x hx => ?_⟩, F⟩
  · rcases hid y hyx with h1 | h1
    · exact k.dis y hy h1
    · have := k.sch.lt y hy; omega
  · rcases hid x hx with h1 | h1
    · exact k.fs x h1
    · omega
def PBB (h g : VH) (i r : Nat) (S : Sc) : Prop := ∃ X sl rs, PB h g i r X sl rs S S
/-- a call. -/
def actS (S : Sc) (o : OpS) : Sc := if o.k = 0 then (setS S o.nm o.w).2 else if 1 ≤ o.k ∧ o.k ≤ 3 then (pushS S o.nm o.j).2 else if o.k = 4 then (dropS S).2 else (stepS S).2
theorem actS_ok {b : Int} {S : Sc} (ok : OkS b S) (o : OpS) : OkS (b + 720720000) (actS S o) := by
  have hb : b ≤ b + 720720000 := by omega
  unfold actS
  split
  · exact (setS_ok ok _ _).mono hb
  · split
    · exact pushS_ok ok _ _
    · split
      · exact (dropS_ok ok).mono hb
      · exact (stepS_ok ok).mono hb
theorem lstep_ok {h g : VH} {i r : Nat} {S : Sc} (H : PBB h g i r S) {b : Int} (ok : OkS b S) (hb : b ≤ 1000000000000000000) {o : OpS} :
    PCalls Try.prog f_law20_step [.pointer (some ⟨i, 0, none⟩), .pointer (some ⟨r, 0, none⟩), .agg (opC o).toArray] g (fun u g' => u = .bool true ∧ PBB h g' i r (actS S o)) := by
  refine PCalls_of_pw st_law20_step (by simp [n_law20_step]) ?_
  rw [b_law20_step]
  obtain ⟨X, sl, rs, K⟩ := H
  obtain ⟨p, hp⟩ : ∃ p, p = g.n := ⟨_, rfl⟩
  obtain ⟨g0, hg0⟩ : ∃ g0, g0 = g.push (.cells (opC o) true 1) := ⟨_, rfl⟩
  have F0 : Fr g g0 [] := by rw [hg0]; exact Fr_push (Fr.refl _ _)
  have n0 : g0.n = p + 1 := by rw [hg0, hp]; rfl
  have o0 : g0.get p = .cells (opC o) true 1 := by rw [hg0, hp, VH.get_push_new]
  have hone : (opC o).all Value.oneCell' = true := rfl
  have hpX : p ∉ X := fun hx => by have := K.sch.lt p hx; omega
  have K0 := K.fr0 F0
  by_cases h0 : o.k = 0
  · have hk : (o.k == 0) = true := by simp [h0]
    have hact : actS S o = (setS S o.nm o.w).2 := by simp [actS, h0]
    rw [hact]
    simp (disch := first | omega | (simp only [VH.n_push, VH.n_set]; done) | (simp only [VH.n_push, VH.n_set]; omega)) [B_law20_step, hone, ← hp, ← hg0, o0, lo_0, hk, lo_1, lo_2]
    refine (set_ok K0.sch ok.ord (nm := o.nm) (w := o.w)).mono ?_
    rintro u g1 ⟨rfl, hp1⟩
    obtain ⟨X1, K1, F1⟩ := K0.prog hp1
    have o1 := (F1.get p (by omega) hpX).trans o0
    simp (disch := first | omega | (simp only [VH.n_push, VH.n_set]; done) | (simp only [VH.n_push, VH.n_set]; omega)) [o1, lo_1, lo_2]
    refine (rset_ok K1.rr ok (nm := o.nm) (w := o.w)).mono ?_
    rintro u g2 ⟨rfl, hp2⟩
    obtain ⟨sl2, rs2, K2, F2⟩ := K1.ref hp2
    simp (disch := first | omega | (simp only [VH.n_push, VH.n_set]; done) | (simp only [VH.n_push, VH.n_set]; omega)) [r_law20_step]
    exact ⟨X1, sl2, rs2, K2⟩
  have hk0 : (o.k == 0) = false := by simp [h0]
  by_cases h13 : 1 ≤ o.k ∧ o.k ≤ 3
  · have hact : actS S o = (pushS S o.nm o.j).2 := by simp [actS, h0, h13]
    rw [hact]
    have hfin : ∀ g1, SchP g0 i X (pushS S o.nm o.j).2 g1 → g1.get p = .cells (opC o) true 1 ∧ ∃ X1, PB h g1 i r X1 sl rs (pushS S o.nm o.j).2 S := by
      intro g1 hp1
      obtain ⟨X1, K1, F1⟩ := K0.prog hp1
      exact ⟨(F1.get p (by omega) hpX).trans o0, X1, K1⟩
    have hk : o.k = 1 ∨ o.k = 2 ∨ o.k = 3 := by omega
    rcases hk with hk | hk | hk
    · have b1 : (o.k == 1) = true := by simp [hk]
      simp (disch := first | omega | (simp only [VH.n_push, VH.n_set]; done) | (simp only [VH.n_push, VH.n_set]; omega)) [B_law20_step, hone, ← hp, ← hg0, o0, lo_0, hk0, b1, lo_1, lo_J]
      refine (push_ok K0.sch ok hb (nm := o.nm) (q := o.j)).mono ?_
      rintro u g1 ⟨rfl, hp1⟩
      obtain ⟨o1, X1, K1⟩ := hfin g1 hp1
      simp (disch := first | omega | (simp only [VH.n_push, VH.n_set]; done) | (simp only [VH.n_push, VH.n_set]; omega)) [o1, lo_1, lo_J]
      refine (rpush_ok K1.rr ok hb (nm := o.nm) (q := o.j)).mono ?_
      rintro u g2 ⟨rfl, hp2⟩
      obtain ⟨sl2, rs2, K2, F2⟩ := K1.ref hp2
      simp (disch := first | omega | (simp only [VH.n_push, VH.n_set]; done) | (simp only [VH.n_push, VH.n_set]; omega)) [r_law20_step]
      exact ⟨X1, sl2, rs2, K2⟩
    · have b1 : (o.k == 1) = false := by simp [hk]
      have b2 : (o.k == 2) = true := by simp [hk]
      simp (disch := first | omega | (simp only [VH.n_push, VH.n_set]; done) | (simp only [VH.n_push, VH.n_set]; omega)) [B_law20_step, hone, ← hp, ← hg0, o0, lo_0, hk0, b1, b2, lo_1, lo_J]
      refine (push_ok K0.sch ok hb (nm := o.nm) (q := o.j)).mono ?_
      rintro u g1 ⟨rfl, hp1⟩
      obtain ⟨o1, X1, K1⟩ := hfin g1 hp1
      simp (disch := first | omega | (simp only [VH.n_push, VH.n_set]; done) | (simp only [VH.n_push, VH.n_set]; omega)) [o1, lo_1, lo_J]
      refine (rpush_ok K1.rr ok hb (nm := o.nm) (q := o.j)).mono ?_
      rintro u g2 ⟨rfl, hp2⟩
      obtain ⟨sl2, rs2, K2, F2⟩ := K1.ref hp2
      simp (disch := first | omega | (simp only [VH.n_push, VH.n_set]; done) | (simp only [VH.n_push, VH.n_set]; omega)) [r_law20_step]
      exact ⟨X1, sl2, rs2, K2⟩
    · have b1 : (o.k == 1) = false := by simp [hk]
      have b2 : (o.k == 2) = false := by simp [hk]
      have b3 : (o.k == 3) = true := by simp [hk]
      simp (disch := first | omega | (simp only [VH.n_push, VH.n_set]; done) | (simp only [VH.n_push, VH.n_set]; omega)) [B_law20_step, hone, ← hp, ← hg0, o0, lo_0, hk0, b1, b2, b3, lo_1, lo_J]
      refine (push_ok K0.sch ok hb (nm := o.nm) (q := o.j)).mono ?_
      rintro u g1 ⟨rfl, hp1⟩
      obtain ⟨o1, X1, K1⟩ := hfin g1 hp1
      simp (disch := first | omega | (simp only [VH.n_push, VH.n_set]; done) | (simp only [VH.n_push, VH.n_set]; omega)) [o1, lo_1, lo_J]
      refine (rpush_ok K1.rr ok hb (nm := o.nm) (q := o.j)).mono ?_
      rintro u g2 ⟨rfl, hp2⟩
      obtain ⟨sl2, rs2, K2, F2⟩ := K1.ref hp2
      simp (disch := first | omega | (simp only [VH.n_push, VH.n_set]; done) | (simp only [VH.n_push, VH.n_set]; omega)) [r_law20_step]
      exact ⟨X1, sl2, rs2, K2⟩
  have b1 : (o.k == 1) = false := by rw [beq_eq_false_iff_ne]; omega
  have b2 : (o.k == 2) = false := by rw [beq_eq_false_iff_ne]; omega
  have b3 : (o.k == 3) = false := by rw [beq_eq_false_iff_ne]; omega
  by_cases h4 : o.k = 4
  · have b4 : (o.k == 4) = true := by simp [h4]
    have hact : actS S o = (dropS S).2 := by simp [actS, h4]
    rw [hact]
    simp (disch := first | omega | (simp only [VH.n_push, VH.n_set]; done) | (simp only [VH.n_push, VH.n_set]; omega)) [B_law20_step, hone, ← hp, ← hg0, o0, lo_0, hk0, b1, b2, b3, b4]
    refine (drop_ok K0.sch ok).mono ?_
    rintro u g1 ⟨rfl, hp1⟩
    obtain ⟨X1, K1, F1⟩ := K0.prog hp1
    simp (disch := first | omega | (simp only [VH.n_push, VH.n_set]; done) | (simp only [VH.n_push, VH.n_set]; omega)) []
    refine (rdrop_ok K1.rr ok).mono ?_
    rintro u g2 ⟨rfl, hp2⟩
    obtain ⟨sl2, rs2, K2, F2⟩ := K1.ref hp2
    simp (disch := first | omega | (simp only [VH.n_push, VH.n_set]; done) | (simp only [VH.n_push, VH.n_set]; omega)) [r_law20_step]
    exact ⟨X1, sl2, rs2, K2⟩
  · have b4 : (o.k == 4) = false := by simp [h4]
    have hact : actS S o = (stepS S).2 := by simp [actS, h0, h13, h4]
    rw [hact]
    simp (disch := first | omega | (simp only [VH.n_push, VH.n_set]; done) | (simp only [VH.n_push, VH.n_set]; omega)) [B_law20_step, hone, ← hp, ← hg0, o0, lo_0, hk0, b1, b2, b3, b4]
    refine (step_ok hso K0.sch ok).mono ?_
    rintro u g1 ⟨rfl, hp1⟩
    obtain ⟨X1, K1, F1⟩ := K0.prog hp1
    obtain ⟨O, hO⟩ : ∃ O, O = (stepS S).1 := ⟨_, rfl⟩
    rw [← hO]
    obtain ⟨p2, hp2⟩ : ∃ p2, p2 = g1.n := ⟨_, rfl⟩
    obtain ⟨g2, hg2⟩ : ∃ g2, g2 = (g1.push (.cells [.int .i64 0, .int .i64 0] true 1)).set p2 (.cells [.int .i64 O.j.id, .int .i64 O.j.cost] true 1) := ⟨_, rfl⟩
    have hz2 : ∀ x, (g1.push x).get p2 = x := fun x => by rw [hp2]; exact VH.get_push_new _ _
    have hsj : storeObj (.cells [.int .i64 0, .int .i64 0] true 1) 0 2 (.agg #[.int .i64 O.j.id, .int .i64 O.j.cost]) = some (.cells [.int .i64 O.j.id, .int .i64 O.j.cost] true 1) := rfl
    have F2 : Fr g1 g2 [] := by rw [hg2]; exact Fr_set (Fr_push (Fr.refl _ _)) (by omega)
    have o2 : g2.get p2 = .cells [.int .i64 O.j.id, .int .i64 O.j.cost] true 1 := by rw [hg2, VH.get_set_same]
    have n2 : g2.n = p2 + 1 := by rw [hg2, hp2]; simp
    have K2 := K1.fr0 F2
    simp (disch := first | omega | (simp only [VH.n_push, VH.n_set]; done) | (simp only [VH.n_push, VH.n_set]; omega)) [outV, jbV, ← hp2, hz2, hsj, ← hg2]
    refine (rstep_ok K2.rr ok).mono ?_
    rintro u g3 ⟨rfl, hp3⟩
    rw [← hO]
    have hfp := K1.rr.fp_lt
    obtain ⟨sl3, rs3, K3, F3⟩ := K2.ref hp3
    have o3 := (F3.get p2 (by omega) (fun hx => by have := hfp p2 hx; omega)).trans o2
    have n3 := F3.n
    obtain ⟨p4, hp4⟩ : ∃ p4, p4 = g3.n := ⟨_, rfl⟩
    obtain ⟨g4, hg4⟩ : ∃ g4, g4 = (g3.push (.cells [.int .i64 0, .int .i64 0] true 1)).set p4 (.cells [.int .i64 O.j.id, .int .i64 O.j.cost] true 1) := ⟨_, rfl⟩
    have hz4 : ∀ x, (g3.push x).get p4 = x := fun x => by rw [hp4]; exact VH.get_push_new _ _
    have F4 : Fr g3 g4 [] := by rw [hg4]; exact Fr_set (Fr_push (Fr.refl _ _)) (by omega)
    have o4 : g4.get p4 = .cells [.int .i64 O.j.id, .int .i64 O.j.cost] true 1 := by rw [hg4, VH.get_set_same]
    have o4' : g4.get p2 = .cells [.int .i64 O.j.id, .int .i64 O.j.cost] true 1 := (F4.get p2 (by omega) (by simp)).trans o3
    have hfk : fitsK [.i .i64, .i .i64] [.int .i64 O.j.id, .int .i64 O.j.cost] = true := rfl
    have hcB : cellsB [.int .i64 O.j.id, .int .i64 O.j.cost] [.int .i64 O.j.id, .int .i64 O.j.cost] = true := by simp [cellsB, cellB]
    simp (disch := first | omega | (simp only [VH.n_push, VH.n_set]; done) | (simp only [VH.n_push, VH.n_set]; omega)) [r_law20_step, outV, jbV, ← hp4, hz4, hsj, ← hg4, o4', o4, l2_A, hfk, hcB]
    exact ⟨X1, sl3, rs3, K3.fr0 F4⟩
theorem alike_ok {h g : VH} {i r : Nat} {S : Sc} (H : PBB h g i r S) {b : Int} (ok : OkS b S) {nm : List UInt8} :
    PCalls Try.prog f_law20_alike [.pointer (some ⟨i, 0, none⟩), .pointer (some ⟨r, 0, none⟩), .string (strB nm)] g (fun u g' => u = .bool true ∧ g' = g) := by
  refine PCalls_of_pw st_law20_alike (by simp [n_law20_alike]) ?_
  rw [b_law20_alike]
  obtain ⟨X, sl, rs, K⟩ := H
  have hlen := ok.len
  simp (disch := first | omega | (simp only [VH.n_push, VH.n_set]; done) | (simp only [VH.n_push, VH.n_set]; omega)) [B_law20_alike]
  refine (weights_ok K.sch ok).mono ?_
  rintro u gx ⟨rfl, hgx⟩
  rw [hgx]
  clear hgx gx
  obtain ⟨al, hal⟩ : ∃ al, al = sumWt S.ts := ⟨_, rfl⟩
  obtain ⟨ln, hln⟩ : ∃ ln : Int, ln = (S.ts.length : Int) := ⟨_, rfl⟩
  rw [← hal, ← hln]
  simp (disch := first | omega | (simp only [VH.n_push, VH.n_set]; done) | (simp only [VH.n_push, VH.n_set]; omega)) []
  refine (rweights_ok K.rr ok).mono ?_
  rintro u gx ⟨rfl, hgx⟩
  rw [hgx]
  clear hgx gx
  rw [← hal, ← hln]
  simp (disch := first | omega | (simp only [VH.n_push, VH.n_set]; done) | (simp only [VH.n_push, VH.n_set]; omega)) []
  refine (waiting_ok K.sch ok.ord (nm := nm)).mono ?_
  rintro u gx ⟨rfl, hgx⟩
  rw [hgx]
  clear hgx gx
  obtain ⟨wn, hwn⟩ : ∃ wn : Int, wn = (waitS S nm : Int) := ⟨_, rfl⟩
  rw [← hwn]
  simp (disch := first | omega | (simp only [VH.n_push, VH.n_set]; done) | (simp only [VH.n_push, VH.n_set]; omega)) []
  refine (rwaiting_ok K.rr ok (nm := nm)).mono ?_
  rintro u gx ⟨rfl, hgx⟩
  rw [hgx]
  clear hgx gx
  rw [← hwn]
  simp (disch := first | omega | (simp only [VH.n_push, VH.n_set]; done) | (simp only [VH.n_push, VH.n_set]; omega)) []
  refine (ahead_ok K.sch ok (nm := nm)).mono ?_
  rintro u gx ⟨rfl, hgx⟩
  rw [hgx]
  clear hgx gx
  simp (disch := first | omega | (simp only [VH.n_push, VH.n_set]; done) | (simp only [VH.n_push, VH.n_set]; omega)) []
  refine (rahead_ok K.rr ok (nm := nm)).mono ?_
  rintro u gx ⟨rfl, hgx⟩
  rw [hgx]
  clear hgx gx
  simp (disch := first | omega | (simp only [VH.n_push, VH.n_set]; done) | (simp only [VH.n_push, VH.n_set]; omega)) [r_law20_alike]
def PL (h : VH) (va : Option Addr) (L vc i r n : Nat) (s : Slots) (g : VH) : Prop := ∃ S : Sc, (s 0 = .slice va L vc ∧ s 3 = .pointer (some ⟨i, 0, none⟩) ∧ s 4 = .pointer (some ⟨r, 0, none⟩) ∧ s 5 = .int .i64 (n : Int)) ∧ PBB h g i r S ∧ OkS (bnd n) S
theorem plays_ok' {h : VH} {v0 : Value} {sc : List OpS} (hv : RowsAt h 5 v0 (sc.map opC)) (hlen : sc.length ≤ 1048576) :
    PCalls Try.prog f_law20_FairPlays [v0] h (fun u _ => u = .bool true) := by
  refine PCalls_of_pw st_law20_FairPlays (by simp [n_law20_FairPlays]) ?_
  rw [b_law20_FairPlays]
  simp (disch := first | omega | (simp only [VH.n_push, VH.n_set]; done) | (simp only [VH.n_push, VH.n_set]; omega)) [B_law20_FairPlays]
  refine new_ok.mono ?_
  rintro u g0 ⟨i, X0, rfl, K0, M0⟩
  obtain ⟨va, vc, rfl⟩ := hv.shape
  obtain ⟨L, hL⟩ : ∃ L, L = (sc.map opC).length := ⟨_, rfl⟩
  have hLs : L = sc.length := by rw [hL]; simp
  rw [← hL] at hv ⊢
  obtain ⟨r, hr⟩ : ∃ r, r = g0.n := ⟨_, rfl⟩
  obtain ⟨g1, hg1⟩ : ∃ g1, g1 = g0.push (.cells [.slice none 0 0, .int .i64 0, .string ⟨#[]⟩, .bool false] true 1) := ⟨_, rfl⟩
  have F1 : Fr g0 g1 [] := by rw [hg1]; exact Fr_push (Fr.refl _ _)
  have r1 : g1.get r = .cells [.slice none 0 0, .int .i64 0, .string ⟨#[]⟩, .bool false] true 1 := by rw [hg1, hr, VH.get_push_new]
  have n1 : g1.n = r + 1 := by rw [hg1, hr]; rfl
  have hone : [Value.slice none 0 0, .int .i64 0, .string ⟨#[]⟩, .bool false].all Value.oneCell' = true := rfl
  have hfi : fillC [.slice none 0 0, .int .i64 0, .string ⟨#[]⟩, .bool false] [] = some [.slice none 0 0, .int .i64 0, .string ⟨#[]⟩, .bool false] := rfl
  have hn0 := M0.fr.n
  have P1 : PBB h g1 i r sc0 := by
    refine ⟨X0, .slice none 0 0, [], M0.fr.trans F1, K0.fr0 F1, ⟨by omega, r1, OwnSl.nil _ _, rfl, by simp, by simp [idOf], by simp, by simp, List.Pairwise.nil⟩, fun x hx hx' => ?_, fun x hx => (M0.ids x hx).elim (by simp) id, fun x hx => ?_⟩
    · have := K0.lt x hx
      simp [fpR, idOf] at hx'
      omega
    · simp [fpR, idOf] at hx
      omega
  simp (disch := first | omega | (simp only [VH.n_push, VH.n_set]; done) | (simp only [VH.n_push, VH.n_set]; omega)) [hfi, hone, ← hr, ← hg1]
  refine pw_loopN (PL h va L vc i r) (min L 300) ?_ ?_
  · exact ⟨sc0, by simp [upd_apply, s0_apply], P1, sc0_ok.mono (by simp [bnd])⟩
  rintro n s g hn ⟨S, ⟨e0, e3, e4, e5⟩, P, ok⟩
  by_cases hlt : n < L ∧ n < 300
  case neg =>
    by_cases h1 : n < L
    · have h2 : ¬ n < 300 := fun h2 => hlt ⟨h1, h2⟩
      have h1I : (n : Int) < (L : Int) := by omega
      have h2I : ¬ (n : Int) < 300 := by omega
      simp (disch := first | omega | (simp only [VH.n_push, VH.n_set]; done) | (simp only [VH.n_push, VH.n_set]; omega)) [e0, e5, h1, h1I, h2, h2I]
      refine (known_ok _).mono ?_
      rintro u g ⟨rfl, rfl⟩
      simp (disch := first | omega | (simp only [VH.n_push, VH.n_set]; done) | (simp only [VH.n_push, VH.n_set]; omega)) [r_law20_FairPlays]
    · have h1I : ¬ (n : Int) < (L : Int) := by omega
      simp (disch := first | omega | (simp only [VH.n_push, VH.n_set]; done) | (simp only [VH.n_push, VH.n_set]; omega)) [e0, e5, h1, h1I]
      refine (known_ok _).mono ?_
      rintro u g ⟨rfl, rfl⟩
      simp (disch := first | omega | (simp only [VH.n_push, VH.n_set]; done) | (simp only [VH.n_push, VH.n_set]; omega)) [r_law20_FairPlays]
  obtain ⟨hn1, hn2⟩ := hlt
  have hn1I : (n : Int) < (L : Int) := by omega
  have hn2I : (n : Int) < 300 := by omega
  have hrow : n < min L 300 := by omega
  have hkk : IntKind.i64.wrap ((n : Int) + 1) = ((n + 1 : Nat) : Int) := by rw [i64_small (by omega) (by omega)]; omega
  have Pfr : Fr h g [] := by obtain ⟨_, _, _, K⟩ := P; exact K.fr
  obtain ⟨i1, q1, hv1, hi1, hez, hla, _⟩ := (hv.fr0 Pfr).at_ (k := n) (by simp; omega)
  subst hv1
  obtain ⟨o, ho⟩ : ∃ o, o = sc[n]'(by omega) := ⟨_, rfl⟩
  rw [List.getElem_map, ← ho] at hla
  simp (disch := first | omega | (simp only [VH.n_push, VH.n_set]; done) | (simp only [VH.n_push, VH.n_set]; omega)) [e0, e3, e4, e5, hn1, hn1I, hn2, hn2I, hez, hla]
  refine (lstep_ok P ok (by unfold bnd; omega) (o := o)).mono ?_
  rintro u g2 ⟨rfl, P2⟩
  have ok2 : OkS (bnd (n + 1)) (actS S o) := (actS_ok ok o).mono (by unfold bnd; omega)
  have Pfr2 : Fr h g2 [] := by obtain ⟨_, _, _, K⟩ := P2; exact K.fr
  obtain ⟨i2, q2, hv2, hi2, hez2, hla2, _⟩ := (hv.fr0 Pfr2).at_ (k := n) (by simp; omega)
  injection hv2 with hv2
  injection hv2 with hv2 hv2o _
  subst hv2
  subst hv2o
  rw [List.getElem_map, ← ho] at hla2
  have hnm : loadObj (g2.get i1) (q1 + n * 5 + 1) none = some (.string (strB o.nm)) := field_load hla2 (by omega)
  simp (disch := first | omega | (simp only [VH.n_push, VH.n_set]; done) | (simp only [VH.n_push, VH.n_set]; omega)) [e0, e3, e4, e5, hn1, hn1I, hez2, hnm]
  refine (alike_ok P2 ok2 (nm := o.nm)).mono ?_
  rintro u g3 ⟨rfl, hg3⟩
  rw [hg3]
  simp (disch := first | omega | (simp only [VH.n_push, VH.n_set]; done) | (simp only [VH.n_push, VH.n_set]; omega)) [e5, hkk]
  exact ⟨hrow, actS S o, by simp [upd_apply, e0, e3, e4], P2, ok2⟩
theorem plays_law {h : VH} {us : List Value} {k : Nat} (H : ShA h [.sl 5 opT] us k) (hk : k ≤ 1048576) :
    PCalls Try.prog f_law20_FairPlays us h (fun u h' => u = .bool true ∧ h' = h) := by
  obtain ⟨v, r, k1, k2, rfl, h1, ⟨rfl, _⟩, h6⟩ := H
  obtain ⟨sc, s1, s2, s3⟩ := Sh.ops (h := h) h1
  exact ((plays_ok' s1.ro (by omega)).mono fun u _ e => by subst e; exact ⟨rfl, rfl⟩).drop
end Go.Proofs.Ytnnljhcpkkpniaa.Fa
