/- audit, part R: two lists of entries and their heads (AuditHeads). -/
import Derived.Test.YtdnkpgbggpbgaaaAuO
set_option linter.unusedVariables false
set_option linter.unusedSimpArgs false
set_option maxRecDepth 100000
namespace Go.Proofs.Ytdnkpgbggpbgaaa.Au
open Go Go.RowKit Go.Proofs.Ytdnkpgbggpbgaaa.Pm Go.Proofs.Ytdnkpgbggpbgaaa.Fs Go.Proofs.Ytdnkpgbggpbgaaa.Wr Go.Proofs.Ytdnkpgbggpbgaaa.Sha
attribute [local simp] pw_skip pw_ops pw_quiet pw_seq pw_cond pw_block pw_exit pw_ret pw_scope pw_label kSeq_normal kSeq_ret kSeq_exit kBlock_normal kBlock_ret kBlock_exit kScope_normal kScope_ret kScope_exit kLoop_normal kLoop_ret kLoop_exit kCond_true kCond_false kCond_dec pwOps_nil pwOps_call pwOps_guard kStep_some kCall_at pwQ_nil pwQ_call pwQ_guard kQ_some putS_some putS_none upd_apply ev_t ev_k isB_bool isB_undef s0_apply pstep pwO_mov pwO_pick pwO_nilck pwO_bin pwO_binB pwO_eqNil pwO_un pwO_convI pwO_convS pwO_alloc pwO_build pwO_load pwO_store pwO_fieldAddr pwO_field pwO_idxS pwO_idxA pwO_idxV pwO_strAt pwO_lenStr pwO_lenS pwO_lenC pwO_slS pwO_slA pwO_slStr pwO_extract pwO_mkFunc pwO_mkIface pwO_append pwO_appendStr pwO_toBytes pwO_ofB pwO_box pwO_row pwO_minmax pwO_eqV pwO_sameB pwR_mov pwR_pick pwR_nilck pwR_bin pwR_binB pwR_eqNil pwR_un pwR_convI pwR_convS pwR_build pwR_load pwR_fieldAddr pwR_field pwR_idxS pwR_idxA pwR_idxV pwR_strAt pwR_lenStr pwR_lenS pwR_lenC pwR_slS pwR_slA pwR_slStr pwR_extract pwR_mkFunc pwR_mkIface pwR_ofB pwR_minmax pwR_eqV ret_r ret_n kRet_some resV0 resV1 resV2 resV3 resV4 VH.get_push_new VH.get_set_same VH.n_push VH.n_set cellsL_agg cellsL_int cellsL_bool cellsL_string cellsL_slice cellsL_pointer cellsL_map pw_draw pwD_nil pwD_cons kD_nil kD_cons evalOK_plain evalOK_guard kEv_some dstIs_some dstIs_none pw_goto pw_scopeL kSeq_goto kBlock_goto kLoop_goto kScopeL_normal kScopeL_ret kScopeL_exit kScopeL_goto pwOps_callv kCallv_fn kCallv_yld pwOps_nextM pwO_makeMap pwO_lookup pwR_lookup pwO_mapSet pwO_mapDel pwO_lenM pwR_lenM pwO_mapEntry pwO_entrySet pwO_rangeS pwO_nextS pwO_rangeM pwO_entryM pwR_entryM pwO_copyV pwO_makeSl pwO_asrt pwR_asrt kStep_if kStep_dif kQ_if kQ_dif kEv_if bound_none bound_some toNat_add' toNat_sub' toNat_mul' kLoopN_normal kLoopN_ret kLoopN_exit kLoopN_goto Option.map_some Option.map_none loadAt_obj storeAt_obj rowOf_obj eszIs_obj eszObj_cells loadObj_tab storeObj_tab_int VH.get_set_ne VH.get_push_lt VH.set_set tab_length List.getElem?_cons_zero List.getElem?_cons_succ List.length_cons List.length_nil oneC_int oneC_bool oneC_string oneC_slice oneC_pointer oneC_map srcCells_at srcCells_nil VH.get_push_at isNilV pw_drawT pwT_nil pwT_step pwT_alt kT_nil kT_cons pun pbinS pbin pbinI i64_small IntKind.bits resV resL resOne gI gM gT gF gN gNT gNF dI dM dT dF

instance : DecidableEq En := fun x y => decidable_of_iff (x.t = y.t ∧ x.at_ = y.at_ ∧ x.w = y.w ∧ x.b = y.b) (by cases x; cases y; simp)
/-- a list of entries, to be read. -/
def SameAt (g : VH) (v : Value) (xs : List En) : Prop := ∃ rows : List (En × Value), rows.map Prod.fst = xs ∧ OwnSl g 4 v (rows.flatMap fun p => enL p.1 p.2) xs.length ∧ ∀ p ∈ rows, IsBytes g p.2 p.1.b
theorem InsAt.same {h g : VH} {v : Value} {xs : List En} (H : InsAt h g v xs) (F : Fr h g []) : SameAt g v xs := by
  obtain ⟨rows, h1, h2, h3⟩ := H
  exact ⟨rows, h1, h2, fun p hp => let ⟨_, _, _, _, hb⟩ := h3 p hp; isB_fr F hb⟩
theorem SameAt.fr {g g' : VH} {v : Value} {xs : List En} (H : SameAt g v xs) (F : Fr g g' []) : SameAt g' v xs := by
  obtain ⟨rows, h1, h2, h3⟩ := H
  exact ⟨rows, h1, h2.fr F (by simp), fun p hp => isB_fr F (h3 p hp)⟩
theorem SameAt.shape {g : VH} {v : Value} {xs : List En} (H : SameAt g v xs) : ∃ a c, v = .slice a xs.length c := by
  obtain ⟨rows, h1, h2, h3⟩ := H
  exact h2.shapeN
theorem SameAt.at_ {g : VH} {v : Value} {xs : List En} (H : SameAt g v xs) {k : Nat} (hk : k < xs.length) :
    ∃ i o c ds p m d, v = .slice (some ⟨i, o, none⟩) xs.length c ∧ g.get i = .cells ds true 4 ∧ loadObj (.cells ds true 4) (o + k * 4) none = some (.string (strB xs[k].t)) ∧ loadObj (.cells ds true 4) (o + k * 4 + 1) none = some (.int .i64 xs[k].at_) ∧
      loadObj (.cells ds true 4) (o + k * 4 + 2) none = some (.string (strB xs[k].w)) ∧ loadObj (.cells ds true 4) (o + k * 4 + 3) none = some (.slice p m d) ∧ IsBytes g (.slice p m d) xs[k].b := by
  obtain ⟨rows, h1, h2, h3⟩ := H
  have hrl : rows.length = xs.length := by rw [← h1]; simp
  have hkr : k < rows.length := by omega
  rcases h2 with ⟨_, _, h0⟩ | ⟨i, o, c, ds, a1, a2, rfl, a3, a4, a5, a6⟩
  · omega
  have hfl : ∀ x ∈ rows.map (fun p : En × Value => enL p.1 p.2), x.length = 4 := fun x hx => by
    obtain ⟨t, ht, rfl⟩ := List.mem_map.1 hx
    rfl
  have hch := flat_chunk hfl (k := k) (by simpa using hkr)
  rw [← List.flatMap_def, ← a4, List.getElem_map, List.drop_drop] at hch
  obtain ⟨p, d, hs⟩ := (h3 rows[k] (List.getElem_mem hkr)).shape
  have hx : rows[k].1 = xs[k] := by subst h1; simp
  obtain ⟨q0, q1, q2, q3⟩ := getElem_of_take4 hch
  rw [hs] at q3
  rw [hx] at q0 q1 q2 hs q3
  have hb := h3 rows[k] (List.getElem_mem hkr)
  rw [hs, hx] at hb
  exact ⟨i, o, c, ds, p, _, d, rfl, a3, q0, q1, q2, q3, hb⟩

set_option maxHeartbeats 4000000 in
theorem same_ok {g : VH} {v w : Value} {xs ys : List En} (hx : SameAt g v xs) (hy : SameAt g w ys) (hl : xs.length ≤ 1000000 ∧ ys.length ≤ 1000000) : PCalls Try.prog f_ref09_Same [v, w] g (fun u g' => u = .bool (decide (xs = ys)) ∧ g' = g) := by
  refine PCalls_of_pw st_ref09_Same (by simp [n_ref09_Same]) ?_
  rw [b_ref09_Same]
  obtain ⟨va, vc, rfl⟩ := hx.shape
  obtain ⟨wa, wc, rfl⟩ := hy.shape
  obtain ⟨N, hN⟩ : ∃ N, N = xs.length := ⟨_, rfl⟩
  obtain ⟨M, hM⟩ : ∃ M, M = ys.length := ⟨_, rfl⟩
  obtain ⟨D, hD⟩ : ∃ D, D = decide (xs = ys) := ⟨_, rfl⟩
  rw [← hN] at hx ⊢
  rw [← hM] at hy ⊢
  rw [← hD]
  by_cases hNM : N = M
  case neg =>
    have hb : ((N : Int) == (M : Int)) = false := by rw [beq_eq_false_iff_ne]; omega
    have hbn : ((N : Int) != (M : Int)) = true := by rw [bne, hb]; rfl
    have hres : D = false := by
      rw [hD, decide_eq_false_iff_not]
      rintro rfl
      omega
    simp (disch := first | omega | (simp only [VH.n_push, VH.n_set]; done) | (simp only [VH.n_push, VH.n_set]; omega)) [r_ref09_Same, B_ref09_Same, hbn, hres]
  subst hNM
  have hbn : ((N : Int) != (N : Int)) = false := by simp
  simp (disch := first | omega | (simp only [VH.n_push, VH.n_set]; done) | (simp only [VH.n_push, VH.n_set]; omega)) [B_ref09_Same, hbn]
  refine pw_loopN (fun k s g' => g' = g ∧ xs.take k = ys.take k ∧ s 0 = .slice va N vc ∧ s 1 = .slice wa N wc ∧ s 5 = .int .i64 (k : Int)) N ?_ ?_
  · exact ⟨rfl, rfl, by simp [upd_apply, s0_apply], by simp [upd_apply, s0_apply], by simp [upd_apply]⟩
  rintro k s g' hk ⟨rfl, htk, e0, e1, e5⟩
  by_cases hlt : k < N
  case neg =>
    have hltI : ¬ (k : Int) < (N : Int) := by omega
    have hres : D = true := by
      rw [hD, decide_eq_true_eq]
      rw [List.take_of_length_le (by omega), List.take_of_length_le (by omega)] at htk
      exact htk
    simp (disch := first | omega | (simp only [VH.n_push, VH.n_set]; done) | (simp only [VH.n_push, VH.n_set]; omega)) [r_ref09_Same, e0, e1, e5, hlt, hltI, hres]
  have hltI : (k : Int) < (N : Int) := by omega
  obtain ⟨i, o, c, ds, p, m, d, hv, hg, l0, l1, l2, l3, hb⟩ := hx.at_ (k := k) (by omega)
  obtain ⟨i', o', c', ds', p', m', d', hv', hg', l0', l1', l2', l3', hb'⟩ := hy.at_ (k := k) (by omega)
  injection hv with h1 h2 h3
  injection hv' with h1' h2' h3'
  subst h1 h1'
  have o1 := ofB_eq hb
  have o2 := ofB_eq hb'
  obtain ⟨x, hxe⟩ : ∃ x, x = xs[k]'(by omega) := ⟨_, rfl⟩
  obtain ⟨y, hye⟩ : ∃ y, y = ys[k]'(by omega) := ⟨_, rfl⟩
  rw [← hxe] at l0 l1 l2 o1
  rw [← hye] at l0' l1' l2' o2
  have hno : x ≠ y → D = false := by
    intro hne
    rw [hD, decide_eq_false_iff_not]
    rintro rfl
    exact hne (by rw [hxe, hye])
  have hkk : IntKind.i64.wrap ((k : Int) + 1) = ((k + 1 : Nat) : Int) := by rw [i64_small (by omega) (by omega)]; omega
  obtain ⟨xt, xa, xw, xb⟩ := x
  obtain ⟨yt, ya, yw, yb⟩ := y
  simp only at l0 l1 l2 o1 l0' l1' l2' o2
  by_cases ht : xt = yt
  case neg =>
    have hb : (xt == yt) = false := by simpa using ht
    have := hno (fun e => ht (by injection e))
    simp (disch := first | omega | (simp only [VH.n_push, VH.n_set]; done) | (simp only [VH.n_push, VH.n_set]; omega)) [r_ref09_Same, e0, e1, e5, hlt, hltI, hg, hg', l0, l0', strB_toList, hb, this]
  have hb1 : (xt == yt) = true := by simpa using ht
  by_cases ha : xa = ya
  case neg =>
    have hb : (xa == ya) = false := by simpa using ha
    have hbn : (xa != ya) = true := by rw [bne, hb]; rfl
    have := hno (fun e => ha (by injection e))
    simp (disch := first | omega | (simp only [VH.n_push, VH.n_set]; done) | (simp only [VH.n_push, VH.n_set]; omega)) [r_ref09_Same, e0, e1, e5, hlt, hltI, hg, hg', l0, l0', l1, l1', strB_toList, hb1, hbn, this]
  have hb2 : (xa != ya) = false := by simpa using ha
  by_cases hw : xw = yw
  case neg =>
    have hb : (xw == yw) = false := by simpa using hw
    have := hno (fun e => hw (by injection e))
    simp (disch := first | omega | (simp only [VH.n_push, VH.n_set]; done) | (simp only [VH.n_push, VH.n_set]; omega)) [r_ref09_Same, e0, e1, e5, hlt, hltI, hg, hg', l0, l0', l1, l1', l2, l2', strB_toList, hb1, hb2, hb, this]
  have hb3 : (xw == yw) = true := by simpa using hw
  by_cases hbb : xb = yb
  case neg =>
    have hb : (xb == yb) = false := by simpa using hbb
    have := hno (fun e => hbb (by injection e))
    simp (disch := first | omega | (simp only [VH.n_push, VH.n_set]; done) | (simp only [VH.n_push, VH.n_set]; omega)) [r_ref09_Same, e0, e1, e5, hlt, hltI, hg, hg', l0, l0', l1, l1', l2, l2', l3, l3', o1, o2, strB_toList, hb1, hb2, hb3, hb, this]
  have hb4 : (xb == yb) = true := by simpa using hbb
  simp (disch := first | omega | (simp only [VH.n_push, VH.n_set]; done) | (simp only [VH.n_push, VH.n_set]; omega)) [e0, e1, e5, hlt, hltI, hg, hg', l0, l0', l1, l1', l2, l2', l3, l3', o1, o2, strB_toList, hb1, hb2, hb3, hb4, hkk]
  rw [List.take_succ_eq_append_getElem (by omega), List.take_succ_eq_append_getElem (by omega), htk, ← hxe, ← hye, ht, ha, hw, hbb]

theorem IsEns.fr {h h' : VH} {v : Value} {es : List En} (F : Fr h h' []) (H : IsEns h v es) : IsEns h' v es := by
  obtain ⟨a, c, rfl, hat⟩ := H
  refine ⟨a, c, rfl, fun h0 => ?_⟩
  obtain ⟨i, o, rfl, hi, he, hk⟩ := hat h0
  have hg := F.get i hi (by simp)
  have hn := F.n
  refine ⟨i, o, rfl, by omega, by rw [hg]; exact he, fun k hk' => ?_⟩
  obtain ⟨p, m, d, l1, l2, l3⟩ := hk k hk'
  exact ⟨p, m, d, by rw [hg]; exact l1, by rw [hg]; exact l2, isB_fr F l3⟩
/-- all that stands behind two lists. -/
structure HS (g : VH) (S T : MS) (i j i2 j2 ir ir2 : Nat) (v v2 x y p q : Value) : Prop where
  k1 : Chain g i j S.n S.l S.subs
  k2 : Chain g i2 j2 T.n T.l T.subs
  r1 : RCh g ir S.n S.l S.subs v
  r2 : RCh g ir2 T.n T.l T.subs v2
  x : IsBytes g x S.log
  y : IsBytes g y T.log
  p : SameAt g p S.ins
  q : SameAt g q T.ins
theorem HS.fr {g g' : VH} {S T : MS} {i j i2 j2 ir ir2 : Nat} {v v2 x y p q : Value} (H : HS g S T i j i2 j2 ir ir2 v v2 x y p q) (F : Fr g g' []) : HS g' S T i j i2 j2 ir ir2 v v2 x y p q :=
  ⟨H.k1.fr F, H.k2.fr F, H.r1.fr F (by simp) (by simp), H.r2.fr F (by simp) (by simp), isB_fr F H.x, isB_fr F H.y, H.p.fr F, H.q.fr F⟩
theorem made_small (es : List En) : (madeS es).ins.length ≤ 40 := by
  have h := (fold_ins (es.take 40) ms0).2
  have e : madeS es = (es.take 40).foldl stepM ms0 := rfl
  rw [e, h]
  have h2 := List.length_filter_le (fun e => decide (wrongS e = 0)) (es.take 40)
  have h3 : (es.take 40).length ≤ 40 := by simp; omega
  simp [ms0]
  simp at h2 h3
  omega
theorem step_log (S : MS) (e : En) : (stepM S e).log.length ≤ S.log.length + 1048586 := by
  unfold stepM
  have := fr_le (n := S.n) (l := S.l) (subs := S.subs) (e := e)
  by_cases h : wrongS e = 0
  · simp only [if_pos h, List.length_append]; omega
  · simp only [if_neg h]; omega
theorem fold_log : ∀ (es : List En) (S : MS), (es.foldl stepM S).log.length ≤ S.log.length + es.length * 1048586
  | [], S => by simp
  | e :: es, S => by
    have h1 := fold_log es (stepM S e)
    have h2 := step_log S e
    rw [List.foldl_cons, List.length_cons, Nat.succ_mul]
    omega
theorem made_log (es : List En) : (madeS es).log.length ≤ 100000000 := by
  have h := fold_log (es.take 40) ms0
  have e : madeS es = (es.take 40).foldl stepM ms0 := rfl
  have h3 : (es.take 40).length ≤ 40 := by simp; omega
  have h4 : (es.take 40).length * 1048586 ≤ 40 * 1048586 := Nat.mul_le_mul_right _ h3
  rw [e]
  have h5 : ms0.log.length = 0 := rfl
  omega

set_option maxHeartbeats 16000000 in
theorem heads_ok' {h : VH} {v0 w0 : Value} {es fs : List En} (hv : IsEns h v0 es) (hw : IsEns h w0 fs) (hes : ∀ e ∈ es, e.t.length ≤ 1048576 ∧ e.w.length ≤ 1048576 ∧ e.b.length ≤ 1048576) (hlen : es.length ≤ 1048576)
    (hfs : ∀ e ∈ fs, e.t.length ≤ 1048576 ∧ e.w.length ≤ 1048576 ∧ e.b.length ≤ 1048576) (hlen2 : fs.length ≤ 1048576) :
    PCalls Try.prog f_law09_AuditHeads [v0, w0] h (fun u _ => u = .bool true) := by
  refine PCalls_of_pw st_law09_AuditHeads (by simp [n_law09_AuditHeads]) ?_
  rw [b_law09_AuditHeads]
  simp (disch := first | omega | (simp only [VH.n_push, VH.n_set]; done) | (simp only [VH.n_push, VH.n_set]; omega)) [B_law09_AuditHeads]
  refine (made_ok hv hes hlen).mono ?_
  rintro u g1 ⟨ir, v, al, cl, ai, ci, rfl, F1, R1, O1, I1, hir, hiv, hil, hii⟩
  simp (disch := first | omega | (simp only [VH.n_push, VH.n_set]; done) | (simp only [VH.n_push, VH.n_set]; omega)) []
  refine (made_ok (IsEns.fr F1 hw) hfs hlen2).mono ?_
  rintro u g2 ⟨ir2, v2, al2, cl2, ai2, ci2, rfl, F2, R2, O2, I2, hir2, hiv2, hil2, hii2⟩
  have GS := made_good es
  have GT := made_good fs
  have mi := @made_ins es fs
  have ls1 := made_log es
  have ls2 := made_log fs
  have ss1 := made_small es
  have ss2 := made_small fs
  obtain ⟨S, hS⟩ : ∃ S, S = madeS es := ⟨_, rfl⟩
  obtain ⟨T, hT⟩ : ∃ T, T = madeS fs := ⟨_, rfl⟩
  rw [← hS] at R1 O1 I1 GS mi ls1 ss1 ⊢
  rw [← hT] at R2 O2 I2 GT mi ls2 ss2 ⊢
  have lx := OwnSl.bytes (bs := S.log) O1
  have ly := OwnSl.bytes (bs := T.log) O2
  have nS : S.n ≤ 40 := by rw [GS.n]; exact ss1
  have nT : T.n ≤ 40 := by rw [GT.n]; exact ss2
  have wS := GS.walkS
  have wT := GT.walkS
  simp (disch := first | omega | (simp only [VH.n_push, VH.n_set]; done) | (simp only [VH.n_push, VH.n_set]; omega)) []
  refine (resume_ok (isB_fr F2 lx) (by omega)).mono ?_
  rintro u g3 ⟨i, j, rfl, K1, F3, hs1, hi, hj, _⟩
  rw [wS] at K1 ⊢
  simp (disch := first | omega | (simp only [VH.n_push, VH.n_set]; done) | (simp only [VH.n_push, VH.n_set]; omega)) []
  refine (resume_ok (isB_fr F3 ly) (by omega)).mono ?_
  rintro u g4 ⟨i2, j2, rfl, K2, F4, hs2, hi2, hj2, _⟩
  rw [wT] at K2 ⊢
  have F24 := F3.trans F4
  have F14 := F2.trans F24
  have H4 : HS g4 S T i j i2 j2 ir ir2 v v2 (.slice al S.log.length cl) (.slice al2 T.log.length cl2) (.slice ai S.ins.length ci) (.slice ai2 T.ins.length ci2) :=
    ⟨K1.fr F4, K2, R1.fr F14 (by simp) (by simp), R2.fr F24 (by simp) (by simp), isB_fr F14 lx, isB_fr F24 ly, (I1.same F1).fr F14, (I2.same F2).fr F24⟩
  obtain ⟨LS, hLS⟩ : ∃ L, L = S.log.length := ⟨_, rfl⟩
  obtain ⟨LT, hLT⟩ : ∃ L, L = T.log.length := ⟨_, rfl⟩
  simp only [← hLS, ← hLT] at H4 ⊢
  have hh1 := headS_len S
  have hh2 := headS_len T
  have hsd : ∀ X : MS, shaS (be8 X.n ++ X.l) = headS X := fun _ => rfl
  have hagg : ∀ X : List UInt8, digV X = .agg (u8s X).toArray := fun _ => rfl
  have hb1 : ((LS : Int) != (LS : Int)) = false := by simp
  have hb2 : ((LT : Int) != (LT : Int)) = false := by simp
  obtain ⟨A, hA⟩ : ∃ A, A = headS S := ⟨_, rfl⟩
  obtain ⟨B, hB⟩ : ∃ B, B = headS T := ⟨_, rfl⟩
  rw [← hA] at hh1
  rw [← hB] at hh2
  have fA := fits32 hh1
  have fB := fits32 hh2
  have cAA := cellsB_u8s A A rfl
  have cBB := cellsB_u8s B B rfl
  rw [beq_self_eq_true] at cAA cBB
  simp (disch := first | omega | (simp only [VH.n_push, VH.n_set]; done) | (simp only [VH.n_push, VH.n_set]; omega)) [hb1, hb2]
  refine (head_ok H4.k1).mono ?_
  rintro u g5 ⟨rfl, F5⟩
  have H5 := H4.fr F5
  simp (disch := first | omega | (simp only [VH.n_push, VH.n_set]; done) | (simp only [VH.n_push, VH.n_set]; omega)) [hsd, ← hA]
  refine (rhead_ok H5.r1 (by omega)).mono ?_
  rintro u g6 ⟨rfl, F6⟩
  have H6 := H5.fr F6
  simp (disch := first | omega | (simp only [VH.n_push, VH.n_set]; done) | (simp only [VH.n_push, VH.n_set]; omega)) [hsd, ← hA, hagg, fA, cAA]
  refine (head_ok H6.k2).mono ?_
  rintro u g7 ⟨rfl, F7⟩
  have H7 := H6.fr F7
  simp (disch := first | omega | (simp only [VH.n_push, VH.n_set]; done) | (simp only [VH.n_push, VH.n_set]; omega)) [hsd, ← hB]
  refine (rhead_ok H7.r2 (by omega)).mono ?_
  rintro u g8 ⟨rfl, F8⟩
  have H8 := H7.fr F8
  simp (disch := first | omega | (simp only [VH.n_push, VH.n_set]; done) | (simp only [VH.n_push, VH.n_set]; omega)) [hsd, ← hB, hagg, fB, cBB]
  refine (head_ok H8.k1).mono ?_
  rintro u g9 ⟨rfl, F9⟩
  have H9 := H8.fr F9
  simp (disch := first | omega | (simp only [VH.n_push, VH.n_set]; done) | (simp only [VH.n_push, VH.n_set]; omega)) [hsd, ← hA]
  refine (collide_ok H9.x H9.y (by omega) (by omega) hh1).mono ?_
  rintro u g10 ⟨F10, p, pn, pc, q, qn, qc, rfl, bp, bq⟩
  have H10 := H9.fr F10
  obtain ⟨c1, c2⟩ := collS_len S.log T.log A
  have law1 := heads_law GS GT (by omega) (by omega)
  have law2 := @heads_other S T GT
  rw [← hA, ← hB] at law1 law2
  have law3 : S = T → collS S.log T.log A = ([], [], false) := by rintro rfl; exact coll_self _ _
  obtain ⟨C, hC⟩ : ∃ C, C = collS S.log T.log A := ⟨_, rfl⟩
  rw [← hC] at bp bq c1 c2 law1 law2 law3 ⊢
  obtain ⟨cp, cq, ct⟩ := C
  simp only at bp bq c1 c2 law1 law2 law3 ⊢
  have hsp := H10.p
  have hsq := H10.q
  obtain ⟨N, hN⟩ : ∃ N, N = S.ins.length := ⟨_, rfl⟩
  obtain ⟨M, hM⟩ : ∃ M, M = T.ins.length := ⟨_, rfl⟩
  simp only [← hN, ← hM] at hsp hsq ⊢
  simp (disch := first | omega | (simp only [VH.n_push, VH.n_set]; done) | (simp only [VH.n_push, VH.n_set]; omega)) []
  refine (same_ok hsp hsq ⟨by omega, by omega⟩).mono ?_
  rintro u g11 ⟨rfl, rfl⟩
  have op := ofB_eq bp
  have oq := ofB_eq bq
  have ox := ofB_eq H10.x
  have oy := ofB_eq H10.y
  by_cases hsame : S.ins = T.ins
  · have hST := mi hsame
    have h3 := law3 hST
    injection h3 with h4 h5
    injection h5 with h5 h6
    subst h4 h5 h6
    have hd : decide (S.ins = T.ins) = true := decide_eq_true hsame
    have hxy : (S.log == T.log) = true := by rw [hST]; simp
    have hAB : A = B := by rw [hA, hB, hST]
    simp (disch := first | omega | (simp only [VH.n_push, VH.n_set]; done) | (simp only [VH.n_push, VH.n_set]; omega)) [hd, ox, oy, strB_toList, hxy]
    refine (head_ok H10.k1).mono ?_
    rintro u g12 ⟨rfl, F12⟩
    have H12 := H10.fr F12
    simp (disch := first | omega | (simp only [VH.n_push, VH.n_set]; done) | (simp only [VH.n_push, VH.n_set]; omega)) [hsd, ← hA]
    refine (head_ok H12.k2).mono ?_
    rintro u g13 ⟨rfl, F13⟩
    simp (disch := first | omega | (simp only [VH.n_push, VH.n_set]; done) | (simp only [VH.n_push, VH.n_set]; omega)) [hsd, ← hB, ← hAB, hagg, fA, cAA]
    refine (known_ok _).mono ?_
    rintro u g14 ⟨rfl, rfl⟩
    simp (disch := first | omega | (simp only [VH.n_push, VH.n_set]; done) | (simp only [VH.n_push, VH.n_set]; omega)) [r_law09_AuditHeads]
  have hd : decide (S.ins = T.ins) = false := decide_eq_false hsame
  simp (disch := first | omega | (simp only [VH.n_push, VH.n_set]; done) | (simp only [VH.n_push, VH.n_set]; omega)) [hd]
  refine (head_ok H10.k1).mono ?_
  rintro u g12 ⟨rfl, F12⟩
  have H12 := H10.fr F12
  simp (disch := first | omega | (simp only [VH.n_push, VH.n_set]; done) | (simp only [VH.n_push, VH.n_set]; omega)) [hsd, ← hA]
  refine (head_ok H12.k2).mono ?_
  rintro u g13 ⟨rfl, F13⟩
  have H13 := H12.fr F13
  by_cases hAB : A = B
  case neg =>
    have h3 := law2 hAB
    injection h3 with h4 h5
    injection h5 with h5 h6
    subst h4 h5 h6
    have cAB := cellsB_u8s A B (by omega)
    rw [show (A == B) = false by simpa using hAB] at cAB
    simp (disch := first | omega | (simp only [VH.n_push, VH.n_set]; done) | (simp only [VH.n_push, VH.n_set]; omega)) [hsd, ← hB, hagg, fA, fB, cAB]
    refine (known_ok _).mono ?_
    rintro u g14 ⟨rfl, rfl⟩
    simp (disch := first | omega | (simp only [VH.n_push, VH.n_set]; done) | (simp only [VH.n_push, VH.n_set]; omega)) [r_law09_AuditHeads]
  obtain ⟨rfl, hne, hsh⟩ := law1 hAB hsame
  have hpq : (cp == cq) = false := by simpa using hne
  have hss : (shaS cp).length = 32 := shaS_len _
  have hf1 := fits32 hss
  have hcb := cellsB_u8s (shaS cp) (shaS cp) rfl
  rw [beq_self_eq_true] at hcb
  have F1013 := F12.trans F13
  have op := ofB_eq (isB_fr F1013 bp)
  have oq := ofB_eq (isB_fr F1013 bq)
  simp (disch := first | omega | (simp only [VH.n_push, VH.n_set]; done) | (simp only [VH.n_push, VH.n_set]; omega)) [hsd, ← hB, ← hAB, hagg, fA, cAA, op, oq, strB_toList, hpq]
  refine (rsum_ok (isB_fr F1013 bp) (by omega)).mono ?_
  rintro u g14 ⟨rfl, rfl⟩
  simp (disch := first | omega | (simp only [VH.n_push, VH.n_set]; done) | (simp only [VH.n_push, VH.n_set]; omega)) []
  refine (rsum_ok (isB_fr F1013 bq) (by omega)).mono ?_
  rintro u g15 ⟨rfl, rfl⟩
  rw [← hsh]
  simp (disch := first | omega | (simp only [VH.n_push, VH.n_set]; done) | (simp only [VH.n_push, VH.n_set]; omega)) [hagg, hf1, hcb]
  refine (known_ok _).mono ?_
  rintro u g16 ⟨rfl, rfl⟩
  simp (disch := first | omega | (simp only [VH.n_push, VH.n_set]; done) | (simp only [VH.n_push, VH.n_set]; omega)) [r_law09_AuditHeads]
theorem heads_ok_law {h : VH} {us : List Value} {k : Nat} (H : ShA h [.sl 4 enT, .sl 4 enT] us k) (hk : k ≤ 1048576) :
    PCalls Try.prog f_law09_AuditHeads us h (fun u h' => u = .bool true ∧ h' = h) := by
  obtain ⟨v, r, k1, k2, rfl, h1, ⟨v2, r2, k3, k4, rfl, h2, ⟨rfl, _⟩, e2⟩, e1⟩ := H
  obtain ⟨es, a1, a2, a3⟩ := Sh.ens h1
  obtain ⟨fs, b1, b2, b3⟩ := Sh.ens h2
  exact ((heads_ok' a1.ro b1.ro (fun e he => by have := a2 e he; omega) (by omega) (fun e he => by have := b2 e he; omega) (by omega)).mono fun u _ e => by subst e; exact ⟨rfl, rfl⟩).drop
end Go.Proofs.Ytdnkpgbggpbgaaa.Au
