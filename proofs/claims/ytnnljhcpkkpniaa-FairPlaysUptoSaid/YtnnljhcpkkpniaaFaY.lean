/- fair, part Y: FairTurns: the walk. -/
import Derived.Test.YtnnljhcpkkpniaaFaW
import Derived.Test.YtnnljhcpkkpniaaFaX
set_option linter.unusedVariables false
set_option linter.unusedSimpArgs false
set_option maxRecDepth 100000
namespace Go.Proofs.Ytnnljhcpkkpniaa.Fa
open Go Go.RowKit Go.Proofs.Ytnnljhcpkkpniaa.Pm Go.Proofs.Ytnnljhcpkkpniaa.Fs
attribute [local simp] pw_skip pw_ops pw_quiet pw_seq pw_cond pw_block pw_exit pw_ret pw_scope pw_label kSeq_normal kSeq_ret kSeq_exit kBlock_normal kBlock_ret kBlock_exit kScope_normal kScope_ret kScope_exit kLoop_normal kLoop_ret kLoop_exit kCond_true kCond_false kCond_dec pwOps_nil pwOps_call pwOps_guard kStep_some kCall_at pwQ_nil pwQ_call pwQ_guard kQ_some putS_some putS_none upd_apply ev_t ev_k isB_bool isB_undef s0_apply pstep pwO_mov pwO_pick pwO_nilck pwO_bin pwO_binB pwO_eqNil pwO_un pwO_convI pwO_convS pwO_alloc pwO_build pwO_load pwO_store pwO_fieldAddr pwO_field pwO_idxS pwO_idxA pwO_idxV pwO_strAt pwO_lenStr pwO_lenS pwO_lenC pwO_slS pwO_slA pwO_slStr pwO_extract pwO_mkFunc pwO_mkIface pwO_append pwO_appendStr pwO_toBytes pwO_ofB pwO_box pwO_row pwO_minmax pwO_eqV pwO_sameB pwR_mov pwR_pick pwR_nilck pwR_bin pwR_binB pwR_eqNil pwR_un pwR_convI pwR_convS pwR_build pwR_load pwR_fieldAddr pwR_field pwR_idxS pwR_idxA pwR_idxV pwR_strAt pwR_lenStr pwR_lenS pwR_lenC pwR_slS pwR_slA pwR_slStr pwR_extract pwR_mkFunc pwR_mkIface pwR_ofB pwR_minmax pwR_eqV ret_r ret_n kRet_some resV0 resV1 resV2 resV3 resV4 VH.get_push_new VH.get_set_same VH.n_push VH.n_set cellsL_agg cellsL_int cellsL_bool cellsL_string cellsL_slice cellsL_pointer cellsL_map pw_draw pwD_nil pwD_cons kD_nil kD_cons evalOK_plain evalOK_guard kEv_some dstIs_some dstIs_none pw_goto pw_scopeL kSeq_goto kBlock_goto kLoop_goto kScopeL_normal kScopeL_ret kScopeL_exit kScopeL_goto pwOps_callv kCallv_fn kCallv_yld pwOps_nextM pwO_makeMap pwO_lookup pwR_lookup pwO_mapSet pwO_mapDel pwO_lenM pwR_lenM pwO_mapEntry pwO_entrySet pwO_rangeS pwO_nextS pwO_rangeM pwO_entryM pwR_entryM pwO_copyV pwO_makeSl pwO_asrt pwR_asrt kStep_if kStep_dif kQ_if kQ_dif kEv_if bound_none bound_some toNat_add' toNat_sub' toNat_mul' kLoopN_normal kLoopN_ret kLoopN_exit kLoopN_goto Option.map_some Option.map_none loadAt_obj storeAt_obj rowOf_obj eszIs_obj eszObj_cells loadObj_tab storeObj_tab_int VH.get_set_ne VH.get_push_lt VH.set_set tab_length List.getElem?_cons_zero List.getElem?_cons_succ List.length_cons List.length_nil oneC_int oneC_bool oneC_string oneC_slice oneC_pointer oneC_map srcCells_at srcCells_nil VH.get_push_at isNilV pw_drawT pwT_nil pwT_step pwT_alt kT_nil kT_cons pun pbinS pbin pbinI i64_small IntKind.bits resV resL resOne gI gM gT gF gN gNT gNF dI dM dT dF

def nmsC : List Value := [.string (strB [97]), .string (strB [98]), .string (strB [99]), .string (strB [100])]
theorem nms_at {k : Nat} (hk : k < 4) {ow : Bool} {z : Nat} : loadObj (.cells nmsC ow z) k none = some (.string (strB (nmK k))) := by
  have : k = 0 ∨ k = 1 ∨ k = 2 ∨ k = 3 := by omega
  rcases this with rfl | rfl | rfl | rfl <;> rfl
/-- what every part holds on to. -/
def TF (vw vb vl : Value) (p0 i p1 : Nat) (s : Slots) : Prop := s 0 = vw ∧ s 1 = vb ∧ s 3 = vl ∧ s 6 = .pointer (some ⟨p0, 0, none⟩) ∧ s 9 = .pointer (some ⟨i, 0, none⟩) ∧ s 10 = .slice (some ⟨p1, 0, none⟩) 4 4
def T1 (h : VH) (vw vb vl : Value) (p0 i p1 : Nat) (E : List (Nat × List Value)) (wts : List Int) (n : Nat) (s : Slots) (g : VH) : Prop := ∃ (S : Sc) (X : List Nat), (TF vw vb vl p0 i p1 s ∧ s 11 = .int .i64 (n : Int)) ∧ SA h g i S X ∧ Env g X E ∧ OkS 0 S ∧ TmS S 0 ∧ S.had = 0 ∧ Wts wts n (nw S.ts)
def T2 (h : VH) (vw vb vl : Value) (p0 i p1 : Nat) (E : List (Nat × List Value)) (wts : List Int) (m n : Nat) (s : Slots) (g : VH) : Prop := ∃ (S : Sc) (X : List Nat) (c : Int), (TF vw vb vl p0 i p1 s ∧ s 12 = .int .i64 c ∧ s 13 = .int .i64 (n : Int)) ∧ SA h g i S X ∧ Env g X E ∧ OkS (bnd n) S ∧ TmS S c ∧ c ≤ 1000 ∧ Wts wts m (nw S.ts)
def T4 (vw vb vl : Value) (p0 i p1 pm : Nat) (q : Int) (later : List OpS) (M : Jb) (c0 : Int) (g4 : VH) (n : Nat) (s : Slots) (g : VH) : Prop := ∃ c : Int, g = g4 ∧ (TF vw vb vl p0 i p1 s ∧ s 12 = .int .i64 c ∧ s 15 = .int .i64 q ∧ s 16 = .pointer (some ⟨pm, 0, none⟩) ∧ s 17 = .int .i64 (n : Int)) ∧ c0 ≤ c ∧ M.cost ≤ c ∧ c ≤ 1000 ∧ ∀ j (hj : j < later.length), j < n → later[j].j.cost ≤ 1000 → later[j].j.cost ≤ c
def T5 (vw vb vl : Value) (p0 i p1 pm : Nat) (q c : Int) (wts : List Int) (k0 : Nat) (g4 : VH) (n : Nat) (s : Slots) (g : VH) : Prop := ∃ w : Int, g = g4 ∧ (TF vw vb vl p0 i p1 s ∧ s 12 = .int .i64 c ∧ s 15 = .int .i64 q ∧ s 16 = .pointer (some ⟨pm, 0, none⟩) ∧ s 18 = .int .i64 w ∧ s 19 = .int .i64 (n : Int)) ∧ (k0 < n → w = wts.getD k0 0)
def T7 (h : VH) (vw vb vl : Value) (p0 i p1 pm : Nat) (E : List (Nat × List Value)) (B c v st : Int) (f : List UInt8) (M : Jb) (nw0 : List (List UInt8 × Nat)) (n : Nat) (s : Slots) (g : VH) : Prop := ∃ (S : Sc) (X : List Nat) (x : List UInt8 → Int), (TF vw vb vl p0 i p1 s ∧ s 16 = .pointer (some ⟨pm, 0, none⟩) ∧ s 22 = .int .i64 B ∧ s 23 = .int .i64 (n : Int)) ∧ SA h g i S X ∧ Env g X E ∧ OkS (bnd (200 + n)) S ∧ Wai S c v st f M x n ∧ nw S.ts = nw0
def opZ : List Value := [.int .i64 0, .string ⟨#[]⟩, .int .i64 0, .int .i64 0, .int .i64 0]
theorem opZ_ : [Value.int .i64 0, .string ⟨#[]⟩, .int .i64 0, .int .i64 0, .int .i64 0] = opZ := rfl
theorem lo_3 {o : OpS} {ow : Bool} {z : Nat} : loadObj (.cells (opC o) ow z) 3 none = some (.int .i64 o.j.id) := rfl
theorem opZ_st {o : OpS} : storeObj (.cells opZ true 1) 0 5 (.agg (opC o).toArray) = some (.cells (opC o) true 1) := rfl
theorem Env.add {g : VH} {X : List Nat} {E : List (Nat × List Value)} (k : Env g X E) {p : Nat} {cs : List Value} (h1 : p < g.n) (h2 : p ∉ X) (h3 : g.get p = .cells cs true 1) : Env g X ((p, cs) :: E) := fun e he => by
  rcases List.mem_cons.1 he with rfl | he
  · exact ⟨h1, h2, h3⟩
  · exact k e he
theorem Env.drop {g : VH} {X : List Nat} {E : List (Nat × List Value)} {e : Nat × List Value} (k : Env g X (e :: E)) : Env g X E := fun x hx => k x (List.mem_cons_of_mem _ hx)
theorem field_load {ob : VObj} {o n j : Nat} {l : List Value} (h : loadObj ob o (some n) = some (.agg l.toArray)) (hj : j < n) : loadObj ob (o + j) none = l[j]? := by
  cases ob with
  | cells cs ow z =>
    simp only [loadObj] at h ⊢
    split at h
    · injection h with h
      injection h with h
      have h := congrArg Array.toList h
      simp only at h
      rw [← h, List.getElem?_take, if_pos hj, List.getElem?_drop]
    · cases h
  | _ => simp [loadObj] at h
theorem nmK_inj : ∀ a, a < 4 → ∀ b, b < 4 → nmK a = nmK b → a = b := by decide
theorem ahead_nn {b : Int} {S : Sc} (ok : OkS b S) (nm : List UInt8) : 0 ≤ aheadS S nm ∧ aheadS S nm ≤ 16000 := by
  have hh := ok.had0
  unfold aheadS
  cases hf : findT nm S.ts with
  | none => simp
  | some t =>
    obtain ⟨htm, htn⟩ := findT_some hf
    have k := ok.ten t htm
    have h1 := sumC_bd (l := t.l) (fun w hw => ⟨(k.wk w hw).1, (k.wk w hw).2.1⟩)
    have h2 := k.len
    simp only
    split
    · rename_i hs
      by_cases hz : S.had = 0
      · omega
      obtain ⟨t', w, r, ht', hn', hl', hc⟩ := ok.bsy (by omega)
      have : t' = t := by
        have h3 := findT_mem ok.ord.uni ht'
        rw [hn', hs, hf] at h3
        injection h3 with h3
        exact h3.symm
      subst this
      have h4 := sumC_bd (l := r) (fun w hw => ⟨(k.wk w (by rw [hl']; exact List.mem_cons_of_mem _ hw)).1, (k.wk w (by rw [hl']; exact List.mem_cons_of_mem _ hw)).2.1⟩)
      have h5 : sumC t'.l = w.j.cost + sumC r := by rw [hl']; simp [sumC]
      omega
    · omega
set_option maxHeartbeats 8000000 in
theorem turns_ok' {h : VH} {vw vb vl : Value} {wts : List Int} {bef later : List OpS} {own : OpS} {K : Nat} (hw : RowsAt h 1 vw (wts.map fun x => [.int .i64 x])) (hb : RowsAt h 5 vb (bef.map opC)) (hl : RowsAt h 5 vl (later.map opC)) (hwb : ∀ x ∈ wts, i64B x)
    (fb : ∀ o ∈ bef, o.Fit K) (fl : ∀ o ∈ later, o.Fit K) (fo : own.Fit K) (hK : K ≤ 1048576) (l1 : wts.length ≤ 1048576) (l2 : bef.length ≤ 1048576) (l3 : later.length ≤ 1048576) :
    PCalls Try.prog f_law20_FairTurns [vw, vb, .agg (opC own).toArray, vl] h (fun u _ => u = .bool true) := by
  refine PCalls_of_pw st_law20_FairTurns (by simp [n_law20_FairTurns]) ?_
  rw [b_law20_FairTurns]
  obtain ⟨wa, wc, rfl⟩ := hw.shape
  obtain ⟨ba, bc, rfl⟩ := hb.shape
  obtain ⟨la, lc, rfl⟩ := hl.shape
  obtain ⟨Lw, hLw⟩ : ∃ L, L = (wts.map fun x => [Value.int .i64 x]).length := ⟨_, rfl⟩
  obtain ⟨Lb, hLb⟩ : ∃ L, L = (bef.map opC).length := ⟨_, rfl⟩
  obtain ⟨Ll, hLl⟩ : ∃ L, L = (later.map opC).length := ⟨_, rfl⟩
  have hLw' : Lw = wts.length := by rw [hLw]; simp
  have hLb' : Lb = bef.length := by rw [hLb]; simp
  have hLl' : Ll = later.length := by rw [hLl]; simp
  rw [← hLw] at hw ⊢
  rw [← hLb] at hb ⊢
  rw [← hLl] at hl ⊢
  obtain ⟨vw, hvw⟩ : ∃ v, v = Value.slice wa Lw wc := ⟨_, rfl⟩
  obtain ⟨vb, hvb⟩ : ∃ v, v = Value.slice ba Lb bc := ⟨_, rfl⟩
  obtain ⟨vl, hvl⟩ : ∃ v, v = Value.slice la Ll lc := ⟨_, rfl⟩
  obtain ⟨p0, hp0⟩ : ∃ p, p = h.n := ⟨_, rfl⟩
  obtain ⟨g0, hg0⟩ : ∃ g0, g0 = h.push (.cells (opC own) true 1) := ⟨_, rfl⟩
  have F0 : Fr h g0 [] := by rw [hg0]; exact Fr_push (Fr.refl _ _)
  have n0 : g0.n = p0 + 1 := by rw [hg0, hp0]; rfl
  have o0 : g0.get p0 = .cells (opC own) true 1 := by rw [hg0, hp0, VH.get_push_new]
  have hone : (opC own).all Value.oneCell' = true := rfl
  simp (disch := first | omega | (simp only [VH.n_push, VH.n_set]; done) | (simp only [VH.n_push, VH.n_set]; omega)) [B_law20_FairTurns, hone, ← hp0, ← hg0]
  refine new_ok.mono ?_
  rintro u g1 ⟨i, X0, rfl, K0, M0⟩
  have n1 := M0.fr.n
  obtain ⟨p1, hp1⟩ : ∃ p, p = g1.n := ⟨_, rfl⟩
  have hfi : fillC [.string ⟨#[]⟩, .string ⟨#[]⟩, .string ⟨#[]⟩, .string ⟨#[]⟩] [(0, 1, .string ⟨#[97]⟩), (1, 1, .string ⟨#[98]⟩), (2, 1, .string ⟨#[99]⟩), (3, 1, .string ⟨#[100]⟩)] = some nmsC := rfl
  have hone2 : nmsC.all Value.oneCell' = true := rfl
  obtain ⟨g2, hg2⟩ : ∃ g2, g2 = g1.push (.cells nmsC true 1) := ⟨_, rfl⟩
  have F2 : Fr g1 g2 [] := by rw [hg2]; exact Fr_push (Fr.refl _ _)
  have o2 : g2.get p1 = .cells nmsC true 1 := by rw [hg2, hp1, VH.get_push_new]
  have n2 : g2.n = p1 + 1 := by rw [hg2, hp1]; rfl
  have A2 : SA h g2 i sc0 X0 := ⟨(F0.trans M0.fr).trans F2, K0.fr0 F2, OwnSl.nil _ _, by simp [idOf], fun x hx => (M0.ids x hx).elim (by simp) (by omega), by simp [idOf]⟩
  have hX0 : ∀ x ∈ X0, g0.n ≤ x := fun x hx => (M0.ids x hx).elim (by simp) id
  have hX0' := K0.lt
  have E2 : Env g2 X0 [(p0, opC own), (p1, nmsC)] := by
    intro e he
    simp only [List.mem_cons, List.not_mem_nil, or_false] at he
    rcases he with rfl | rfl
    · exact ⟨by show p0 < g2.n; omega, fun hx => by have := hX0 _ hx; omega, (F2.get p0 (by omega) (by simp)).trans ((M0.fr.get p0 (by omega) (by simp)).trans o0)⟩
    · exact ⟨by show p1 < g2.n; omega, fun hx => by have := hX0' _ hx; omega, o2⟩
  obtain ⟨m, hm⟩ : ∃ m, m = min 4 Lw := ⟨_, rfl⟩
  simp (disch := first | omega | (simp only [VH.n_push, VH.n_set]; done) | (simp only [VH.n_push, VH.n_set]; omega)) [hfi, hone2, ← hp1, ← hg2]
  refine pw_loopN (T1 h vw vb vl p0 i p1 [(p0, opC own), (p1, nmsC)] wts) m ?_ ?_
  · refine ⟨sc0, X0, ?_, A2, E2, sc0_ok, sc0_tm, rfl, fun q hq => by simp [sc0, nw] at hq⟩
    simp [TF, upd_apply, s0_apply, hvw, hvb, hvl]
  rintro n s g hn ⟨S, X, ⟨⟨e0, e1, e3, e6, e9, e10⟩, e11⟩, A, En, ok, tm, hh, wt⟩
  rw [hvw] at e0
  by_cases hlt : n < 4 ∧ n < Lw
  · obtain ⟨h4, hL⟩ := hlt
    have h4I : (n : Int) < 4 := by omega
    have hLI : (n : Int) < (Lw : Int) := by omega
    have hkk : IntKind.i64.wrap ((n : Int) + 1) = ((n + 1 : Nat) : Int) := by rw [i64_small (by omega) (by omega)]; omega
    obtain ⟨_, _, og1⟩ := En (p1, nmsC) (by simp)
    have hez1 : eszObj (.cells nmsC true 1) 1 = true := rfl
    have hnm := nms_at (ow := true) (z := 1) h4
    obtain ⟨i3, o3, hv3, hi3, hez3, _, hld3⟩ := (hw.fr0 A.fr).at_ (k := n) (by simp; omega)
    subst hv3
    have hld3 := hld3 (.int .i64 (wts[n]'(by omega))) (by simp)
    rw [Nat.mul_one] at hld3
    obtain ⟨x, hx⟩ : ∃ x, x = wts[n]'(by omega) := ⟨_, rfl⟩
    rw [← hx] at hld3
    simp (disch := first | omega | (simp only [VH.n_push, VH.n_set]; done) | (simp only [VH.n_push, VH.n_set]; omega)) [e0, e9, e10, e11, h4, h4I, hL, hLI, og1, hez1, hnm, hez3, hld3]
    refine (set_ok A.sch ok.ord (nm := (nmK n)) (w := x)).mono ?_
    rintro u g3 ⟨rfl, hp3⟩
    obtain ⟨X3, A3, E3⟩ := SA.turn A En hp3
    by_cases hr : (setS S (nmK n) x).1 = 0
    · have hrb : ((setS S (nmK n) x).1 != 0) = false := by simp [hr]
      obtain ⟨tm3, hh3⟩ := tm.set hh (nmK n) x
      have wt3 := wt.set (by omega) (by rw [← hx]; exact hr)
      rw [← hx] at wt3
      simp (disch := first | omega | (simp only [VH.n_push, VH.n_set]; done) | (simp only [VH.n_push, VH.n_set]; omega)) [hrb, e11, hkk]
      refine ⟨by omega, _, X3, ?_, A3, E3, setS_ok ok _ _, tm3, hh3, wt3⟩
      simp [TF, upd_apply, e0, e1, e3, e6, e9, e10, hvw]
    · have hrb : ((setS S (nmK n) x).1 != 0) = true := by simpa using hr
      simp (disch := first | omega | (simp only [VH.n_push, VH.n_set]; done) | (simp only [VH.n_push, VH.n_set]; omega)) [hrb]
      refine (known_ok _).mono ?_
      rintro u g ⟨rfl, rfl⟩
      simp (disch := first | omega | (simp only [VH.n_push, VH.n_set]; done) | (simp only [VH.n_push, VH.n_set]; omega)) [r_law20_FairTurns]
  have hnm : n = m := by omega
  subst hnm
  generalize hR : PC.seq (PC.ops (⟨some 12, none, _⟩ :: _)) _ = R
  have tail : ∀ (s : Slots), TF vw vb vl p0 i p1 s → pw Try.prog R s g (F_law20_FairTurns.ret fun u _ => u = .bool true) := by
    clear e0 e1 e3 e6 e9 e10 e11
    rintro s ⟨e0, e1, e3, e6, e9, e10⟩
    rw [← hR]
    simp (disch := first | omega | (simp only [VH.n_push, VH.n_set]; done) | (simp only [VH.n_push, VH.n_set]; omega)) []
    refine pw_loopN (T2 h vw vb vl p0 i p1 [(p0, opC own), (p1, nmsC)] wts n) (min Lb 100) ?_ ?_
    · refine ⟨S, X, 0, ?_, A, En, by simpa [bnd] using ok, tm, by decide, wt⟩
      simp [TF, upd_apply, e0, e1, e3, e6, e9, e10]
    clear e0 e1 e3 e6 e9 e10 A En ok tm hh wt
    rintro k s g hk ⟨S, X, c, ⟨⟨e0, e1, e3, e6, e9, e10⟩, e12, e13⟩, A, En, ok, tm, hc1000, wt⟩
    rw [hvb] at e1
    by_cases hlt : k < Lb ∧ k < 100
    · obtain ⟨hL, h100⟩ := hlt
      have hLI : (k : Int) < (Lb : Int) := by omega
      have h100I : (k : Int) < 100 := by omega
      have hkk : IntKind.i64.wrap ((k : Int) + 1) = ((k + 1 : Nat) : Int) := by rw [i64_small (by omega) (by omega)]; omega
      have hmin : k < min Lb 100 := by omega
      obtain ⟨i1, q1, hv1, hi1, hez, hla, _⟩ := (hb.fr0 A.fr).at_ (k := k) (by simp; omega)
      subst hv1
      obtain ⟨o, ho⟩ : ∃ o, o = bef[k]'(by omega) := ⟨_, rfl⟩
      rw [List.getElem_map, ← ho] at hla
      obtain ⟨p, hp⟩ : ∃ p, p = g.n := ⟨_, rfl⟩
      obtain ⟨g3, hg3⟩ : ∃ g3, g3 = (g.push (.cells opZ true 1)).set p (.cells (opC o) true 1) := ⟨_, rfl⟩
      have hzp : ∀ x, (g.push x).get p = x := fun x => by rw [hp]; exact VH.get_push_new _ _
      have F3 : Fr g g3 [] := by rw [hg3]; exact Fr_set (Fr_push (Fr.refl _ _)) (by omega)
      have o3 : g3.get p = .cells (opC o) true 1 := by rw [hg3, VH.get_set_same]
      have n3 : g3.n = p + 1 := by rw [hg3, hp]; simp
      have A3 := A.fr0 F3
      have hXl := A.sch.lt
      have E3 := (En.fr0 F3).add (p := p) (cs := opC o) (by omega) (fun hx => by have := hXl p hx; omega) o3
      have hbn : bnd k ≤ bnd (k + 1) := by unfold bnd; omega
      have hbn' : bnd k + 720720000 ≤ bnd (k + 1) := by unfold bnd; omega
      have hbz : bnd k ≤ 1000000000000000000 := by unfold bnd; omega
      simp (disch := first | omega | (simp only [VH.n_push, VH.n_set]; done) | (simp only [VH.n_push, VH.n_set]; omega)) [e1, e13, hL, hLI, h100, h100I, hez, hla, opZ_, ← hp, hzp, opZ_st, ← hg3]
      by_cases h13 : 1 ≤ o.k ∧ o.k ≤ 3
      · obtain ⟨h1, h3⟩ := h13
        simp (disch := first | omega | (simp only [VH.n_push, VH.n_set]; done) | (simp only [VH.n_push, VH.n_set]; omega)) [o3, lo_0, h1, h3, e9, lo_1, lo_J]
        refine (push_ok A3.sch ok hbz (nm := o.nm) (q := o.j)).mono ?_
        rintro u g4 ⟨rfl, hp4⟩
        obtain ⟨X4, A4, E4⟩ := SA.turn A3 E3 hp4
        obtain ⟨_, _, o4⟩ := E4 (p, opC o) (by simp)
        have ok4 := (pushS_ok ok o.nm o.j).mono hbn'
        have wt4 := wt
        rw [← push_nw (S := S) (nm := o.nm) (q := o.j)] at wt4
        by_cases h0 : (pushS S o.nm o.j).1 = 0
        · have h0b : ((pushS S o.nm o.j).1 == 0) = true := by simp [h0]
          have hc1 : o.j.cost ≤ 1000 := by
            rcases pushS_def (S := S) (nm := o.nm) (q := o.j) with ⟨_, _, _, h, _⟩ | ⟨h, _⟩
            · exact h
            · exact absurd h0 h
          by_cases hcc : c < o.j.cost
          · simp (disch := first | omega | (simp only [VH.n_push, VH.n_set]; done) | (simp only [VH.n_push, VH.n_set]; omega)) [h0b, o4, lo_4, e12, hcc, e13, hkk]
            refine ⟨hmin, _, X4, o.j.cost, ?_, A4, E4.drop, ok4, (tm.mono (by omega)).push ok (fun _ => Int.le_refl _), hc1, wt4⟩
            simp [TF, upd_apply, e0, e1, e3, e6, e9, e10, hvb]
          · simp (disch := first | omega | (simp only [VH.n_push, VH.n_set]; done) | (simp only [VH.n_push, VH.n_set]; omega)) [h0b, o4, lo_4, e12, hcc, e13, hkk]
            refine ⟨hmin, _, X4, c, ?_, A4, E4.drop, ok4, tm.push ok (fun _ => by omega), hc1000, wt4⟩
            simp [TF, upd_apply, e0, e1, e3, e6, e9, e10, hvb, e12]
        · have h0b : ((pushS S o.nm o.j).1 == 0) = false := by simp [h0]
          simp (disch := first | omega | (simp only [VH.n_push, VH.n_set]; done) | (simp only [VH.n_push, VH.n_set]; omega)) [h0b, e13, hkk]
          refine ⟨hmin, _, X4, c, ?_, A4, E4.drop, ok4, tm.push ok (fun h => absurd h h0), hc1000, wt4⟩
          simp [TF, upd_apply, e0, e1, e3, e6, e9, e10, hvb, e12]
      · have okS := (stepS_ok ok).mono hbn
        have tmS := tm.step ok
        have wtS := wt
        rw [← step_nw ok] at wtS
        by_cases h1 : 1 ≤ o.k
        · have h3 : ¬ o.k ≤ 3 := fun h3 => h13 ⟨h1, h3⟩
          simp (disch := first | omega | (simp only [VH.n_push, VH.n_set]; done) | (simp only [VH.n_push, VH.n_set]; omega)) [o3, lo_0, h1, h3, e9]
          refine (step_ok hso A3.sch ok).mono ?_
          rintro u g4 ⟨rfl, hp4⟩
          obtain ⟨X4, A4, E4⟩ := SA.turn A3 E3 hp4
          simp (disch := first | omega | (simp only [VH.n_push, VH.n_set]; done) | (simp only [VH.n_push, VH.n_set]; omega)) [outV, e13, hkk]
          refine ⟨hmin, _, X4, c, ?_, A4, E4.drop, okS, tmS, hc1000, wtS⟩
          simp [TF, upd_apply, e0, e1, e3, e6, e9, e10, hvb, e12]
        · simp (disch := first | omega | (simp only [VH.n_push, VH.n_set]; done) | (simp only [VH.n_push, VH.n_set]; omega)) [o3, lo_0, h1, e9]
          refine (step_ok hso A3.sch ok).mono ?_
          rintro u g4 ⟨rfl, hp4⟩
          obtain ⟨X4, A4, E4⟩ := SA.turn A3 E3 hp4
          simp (disch := first | omega | (simp only [VH.n_push, VH.n_set]; done) | (simp only [VH.n_push, VH.n_set]; omega)) [outV, e13, hkk]
          refine ⟨hmin, _, X4, c, ?_, A4, E4.drop, okS, tmS, hc1000, wtS⟩
          simp [TF, upd_apply, e0, e1, e3, e6, e9, e10, hvb, e12]
    generalize hR2 : PC.seq (PC.ops (⟨some 96, none, _⟩ :: _)) _ = R2
    have tail2 : ∀ (s : Slots), TF vw vb vl p0 i p1 s → s 12 = .int .i64 c → pw Try.prog R2 s g (F_law20_FairTurns.ret fun u _ => u = .bool true) := by
      have hbz : bnd k ≤ 1000000000000000000 := by unfold bnd; omega
      have hbn' : bnd k + 720720000 ≤ bnd 200 := by unfold bnd; omega
      clear e0 e1 e3 e6 e9 e10 e12 e13 hlt
      rintro s ⟨e0, e1, e3, e6, e9, e10⟩ e12
      rw [← hR2]
      obtain ⟨_, _, og0⟩ := En (p0, opC own) (by simp)
      simp (disch := first | omega | (simp only [VH.n_push, VH.n_set]; done) | (simp only [VH.n_push, VH.n_set]; omega)) [e6, og0, lo_1, e9]
      refine (ahead_ok A.sch ok (nm := own.nm)).mono ?_
      rintro u gx ⟨rfl, hgx⟩
      rw [hgx]
      clear hgx gx
      obtain ⟨q0, q1⟩ := ahead_nn ok own.nm
      obtain ⟨q, hq⟩ : ∃ q, q = aheadS S own.nm := ⟨_, rfl⟩
      rw [← hq] at q0 q1 ⊢
      obtain ⟨M, hM⟩ : ∃ M : Jb, M = ⟨-77, own.j.cost⟩ := ⟨_, rfl⟩
      obtain ⟨pm, hpm⟩ : ∃ p, p = g.n := ⟨_, rfl⟩
      obtain ⟨g3, hg3⟩ : ∃ g3, g3 = (g.push (.cells [.int .i64 0, .int .i64 0] true 1)).set pm (.cells [.int .i64 (-77), .int .i64 own.j.cost] true 1) := ⟨_, rfl⟩
      have hzp : ∀ x, (g.push x).get pm = x := fun x => by rw [hpm]; exact VH.get_push_new _ _
      have F3 : Fr g g3 [] := by rw [hg3]; exact Fr_set (Fr_push (Fr.refl _ _)) (by omega)
      have o3 : g3.get pm = .cells [.int .i64 (-77), .int .i64 own.j.cost] true 1 := by rw [hg3, VH.get_set_same]
      have n3 : g3.n = pm + 1 := by rw [hg3, hpm]; simp
      have A3 := A.fr0 F3
      have hXl := A.sch.lt
      have E3 := (En.fr0 F3).add (p := pm) (cs := [.int .i64 (-77), .int .i64 own.j.cost]) (by omega) (fun hx => by have := hXl pm hx; omega) o3
      have fq : fillC [.int .i64 0, .int .i64 0] [(0, 1, .int .i64 (-77)), (1, 1, .int .i64 own.j.cost)] = some [.int .i64 (-77), .int .i64 own.j.cost] := rfl
      have hsj : storeObj (.cells [.int .i64 0, .int .i64 0] true 1) 0 2 (.agg #[.int .i64 (-77), .int .i64 own.j.cost]) = some (.cells [.int .i64 (-77), .int .i64 own.j.cost] true 1) := rfl
      obtain ⟨_, _, og3⟩ := E3 (p0, opC own) (by simp)
      simp (disch := first | omega | (simp only [VH.n_push, VH.n_set]; done) | (simp only [VH.n_push, VH.n_set]; omega)) [e6, og0, lo_1, lo_4, fq, ← hpm, hzp, hsj, ← hg3, e9, og3, o3, l2_A]
      refine (push_ok A3.sch ok hbz (nm := own.nm) (q := ⟨-77, own.j.cost⟩)).mono ?_
      rintro u g4 ⟨rfl, hp4⟩
      rw [← hM] at hp4 ⊢
      obtain ⟨X4, A4, E4⟩ := SA.turn A3 E3 hp4
      obtain ⟨_, _, o4⟩ := E4 (pm, _) (List.mem_cons_self ..)
      have ok4 := (pushS_ok ok own.nm M).mono hbn'
      have wt4 := wt
      rw [← push_nw (S := S) (nm := own.nm) (q := M)] at wt4
      by_cases h0 : (pushS S own.nm M).1 = 0
      case neg =>
        have h0b : ((pushS S own.nm M).1 != 0) = true := by simpa using h0
        simp (disch := first | omega | (simp only [VH.n_push, VH.n_set]; done) | (simp only [VH.n_push, VH.n_set]; omega)) [h0b]
        refine (known_ok _).mono ?_
        rintro u g ⟨rfl, rfl⟩
        simp (disch := first | omega | (simp only [VH.n_push, VH.n_set]; done) | (simp only [VH.n_push, VH.n_set]; omega)) [r_law20_FairTurns]
      have h0b : ((pushS S own.nm M).1 != 0) = false := by simp [h0]
      have hM1 : 1 ≤ M.cost ∧ M.cost ≤ 1000 := by
        rcases pushS_def (S := S) (nm := own.nm) (q := M) with ⟨_, _, h, h', _⟩ | ⟨h, _⟩
        · exact ⟨h, h'⟩
        · exact absurd h0 h
      have hMc : M.cost = own.j.cost := by rw [hM]
      generalize hR3 : PC.seq (PC.seq (PC.ops (⟨some 17, none, _⟩ :: _)) _) _ = R3
      have tail3 : ∀ (s : Slots) (c0 : Int), TF vw vb vl p0 i p1 s → s 12 = .int .i64 c0 → s 15 = .int .i64 q → s 16 = .pointer (some ⟨pm, 0, none⟩) → c ≤ c0 → M.cost ≤ c0 → c0 ≤ 1000 → pw Try.prog R3 s g4 (F_law20_FairTurns.ret fun u _ => u = .bool true) := by
        clear e0 e1 e3 e6 e9 e10 e12
        rintro s c0 ⟨e0, e1, e3, e6, e9, e10⟩ e12 e15 e16 hcc0 hMc0 hc0
        rw [← hR3]
        simp (disch := first | omega | (simp only [VH.n_push, VH.n_set]; done) | (simp only [VH.n_push, VH.n_set]; omega)) []
        refine pw_loopN (T4 vw vb vl p0 i p1 pm q later M c0 g4) (min Ll 100) ?_ ?_
        · refine ⟨c0, rfl, ?_, Int.le_refl _, hMc0, hc0, fun j hj h => by omega⟩
          simp [TF, upd_apply, e0, e1, e3, e6, e9, e10, e12, e15, e16]
        clear e0 e1 e3 e6 e9 e10 e12 e15 e16
        rintro j s gx hj ⟨c1, rfl, ⟨⟨e0, e1, e3, e6, e9, e10⟩, e12, e15, e16, e17⟩, hc01, hMc1, hc1, hlat⟩
        rw [hvl] at e3
        by_cases hlt : j < Ll ∧ j < 100
        · obtain ⟨hL, h100⟩ := hlt
          have hLI : (j : Int) < (Ll : Int) := by omega
          have h100I : (j : Int) < 100 := by omega
          have hkk : IntKind.i64.wrap ((j : Int) + 1) = ((j + 1 : Nat) : Int) := by rw [i64_small (by omega) (by omega)]; omega
          have hmin : j < min Ll 100 := by omega
          obtain ⟨i1, q1, hv1, hi1, hez, hla, _⟩ := (hl.fr0 A4.fr).at_ (k := j) (by simp; omega)
          subst hv1
          obtain ⟨o, ho⟩ : ∃ o, o = later[j]'(by omega) := ⟨_, rfl⟩
          rw [List.getElem_map, ← ho] at hla
          have hco : loadObj (gx.get i1) (q1 + j * 5 + 4) none = some (.int .i64 o.j.cost) := field_load hla (by omega)
          have hla' : ∀ cf : Int, c1 ≤ cf → (o.j.cost ≤ 1000 → o.j.cost ≤ cf) → ∀ x (hx : x < later.length), x < j + 1 → later[x].j.cost ≤ 1000 → later[x].j.cost ≤ cf := fun cf h1 h2 x hx hxj h3 => by
            by_cases hxe : x = j
            · subst hxe
              rw [← ho] at h3 ⊢
              exact h2 h3
            · exact Int.le_trans (hlat x hx (by omega) h3) h1
          by_cases hg : c1 < o.j.cost
          · by_cases hm : o.j.cost ≤ 1000
            · simp (disch := first | omega | (simp only [VH.n_push, VH.n_set]; done) | (simp only [VH.n_push, VH.n_set]; omega)) [e3, e17, hL, hLI, h100, h100I, hez, hco, e12, hg, hm, hkk]
              refine ⟨hmin, o.j.cost, rfl, ?_, by omega, by omega, hm, hla' _ (by omega) (fun _ => Int.le_refl _)⟩
              simp [TF, upd_apply, e0, e1, e3, e6, e9, e10, e12, e15, e16, hvl]
            · simp (disch := first | omega | (simp only [VH.n_push, VH.n_set]; done) | (simp only [VH.n_push, VH.n_set]; omega)) [e3, e17, hL, hLI, h100, h100I, hez, hco, e12, hg, hm, hkk]
              refine ⟨hmin, c1, rfl, ?_, by omega, by omega, hc1, hla' _ (by omega) (fun h => absurd h hm)⟩
              simp [TF, upd_apply, e0, e1, e3, e6, e9, e10, e12, e15, e16, hvl]
          · simp (disch := first | omega | (simp only [VH.n_push, VH.n_set]; done) | (simp only [VH.n_push, VH.n_set]; omega)) [e3, e17, hL, hLI, h100, h100I, hez, hco, e12, hg, hkk]
            refine ⟨hmin, c1, rfl, ?_, by omega, by omega, hc1, hla' _ (by omega) (fun h => by omega)⟩
            simp [TF, upd_apply, e0, e1, e3, e6, e9, e10, e12, e15, e16, hvl]
        generalize hR4 : PC.seq (PC.ops (⟨some 18, none, _⟩ :: _)) _ = R4
        have tail4 : ∀ (s : Slots), TF vw vb vl p0 i p1 s → s 12 = .int .i64 c1 → s 15 = .int .i64 q → s 16 = .pointer (some ⟨pm, 0, none⟩) → j = min Ll 100 → pw Try.prog R4 s gx (F_law20_FairTurns.ret fun u _ => u = .bool true) := by
          clear e0 e1 e3 e6 e9 e10 e12 e15 e16 e17 hlt
          rintro s ⟨e0, e1, e3, e6, e9, e10⟩ e12 e15 e16 hje
          rw [← hR4]
          obtain ⟨st, t, hfd, W0, hst⟩ := Wai.start (tm.mono (show c ≤ c1 by omega)) ok h0 hMc1
          obtain ⟨htm, htn⟩ := findT_some hfd
          obtain ⟨k0, hk0, hk0l, hkn, hkw⟩ := wt (t.nm, t.w) (List.mem_map.2 ⟨t, htm, rfl⟩)
          simp only at hkn hkw
          obtain ⟨v0, hv0⟩ : ∃ v, v = S.ck := ⟨_, rfl⟩
          obtain ⟨S4, hS4⟩ : ∃ S4, S4 = (pushS S own.nm M).2 := ⟨_, rfl⟩
          rw [← hq, ← hv0] at hst
          rw [← hS4, ← hv0] at W0
          rw [← hS4] at A4 ok4 wt4
          have kwt := kw_w (ok.ten t htm)
          obtain ⟨w1, w16, _, _, _, _⟩ := ok.ten t htm
          simp (disch := first | omega | (simp only [VH.n_push, VH.n_set]; done) | (simp only [VH.n_push, VH.n_set]; omega)) []
          refine pw_loopN (T5 vw vb vl p0 i p1 pm q c1 wts k0 gx) (min 4 Lw) ?_ ?_
          · refine ⟨0, rfl, ?_, fun h => by omega⟩
            simp [TF, upd_apply, e0, e1, e3, e6, e9, e10, e12, e15, e16]
          clear e0 e1 e3 e6 e9 e10 e12 e15 e16
          rintro j2 s gy hj2 ⟨w, rfl, ⟨⟨e0, e1, e3, e6, e9, e10⟩, e12, e15, e16, e18, e19⟩, hw0⟩
          obtain ⟨_, _, og0⟩ := E4 (p0, opC own) (by simp)
          obtain ⟨_, _, og1⟩ := E4 (p1, nmsC) (by simp)
          rw [hvw] at e0
          by_cases hlt : j2 < 4 ∧ j2 < Lw
          · obtain ⟨h4, hL⟩ := hlt
            have h4I : (j2 : Int) < 4 := by omega
            have hLI : (j2 : Int) < (Lw : Int) := by omega
            have hkk : IntKind.i64.wrap ((j2 : Int) + 1) = ((j2 + 1 : Nat) : Int) := by rw [i64_small (by omega) (by omega)]; omega
            have hez1 : eszObj (.cells nmsC true 1) 1 = true := rfl
            have hnm := nms_at (ow := true) (z := 1) h4
            obtain ⟨i3, o3, hv3, hi3, hez3, _, hld3⟩ := (hw.fr0 A4.fr).at_ (k := j2) (by simp; omega)
            subst hv3
            have hld3 := hld3 (.int .i64 (wts[j2]'(by omega))) (by simp)
            rw [Nat.mul_one] at hld3
            by_cases hnn : j2 = k0
            · have hnb : ((strB (nmK j2)).toList == (strB own.nm).toList) = true := by rw [hnn, ← hkn, htn]; simp
              simp (disch := first | omega | (simp only [VH.n_push, VH.n_set]; done) | (simp only [VH.n_push, VH.n_set]; omega)) [e0, e19, e10, e6, og0, lo_1, hnb, h4, h4I, hL, hLI, og1, hez1, hnm, hez3, hld3, hkk]
              refine ⟨by omega, wts[j2]'(by omega), rfl, ?_, fun h => ?_⟩
              · simp [TF, upd_apply, e0, e1, e3, e6, e9, e10, e12, e15, e16, hvw]
              · subst hnn
                simp [hk0l]
            · have hnb : ((strB (nmK j2)).toList == (strB own.nm).toList) = false := by
                rw [strB_toList, strB_toList, beq_eq_false_iff_ne]
                intro he
                rw [← htn, hkn] at he
                exact hnn (nmK_inj j2 h4 k0 (by omega) he)
              simp (disch := first | omega | (simp only [VH.n_push, VH.n_set]; done) | (simp only [VH.n_push, VH.n_set]; omega)) [e0, e19, e10, e6, og0, lo_1, hnb, h4, h4I, hL, hLI, og1, hez1, hnm, hkk]
              refine ⟨by omega, w, rfl, ?_, fun h => hw0 (by omega)⟩
              simp [TF, upd_apply, e0, e1, e3, e6, e9, e10, e12, e15, e16, e18, hvw]
          have hwt : w = (t.w : Int) := by
            rw [hw0 (by omega), hkw]
            simp [hk0l]
          subst hwt
          generalize hR5 : PC.seq (PC.ops (⟨some 172, none, _⟩ :: _)) _ = R5
          have tail5 : ∀ (s : Slots), TF vw vb vl p0 i p1 s → s 12 = .int .i64 c1 → s 15 = .int .i64 q → s 16 = .pointer (some ⟨pm, 0, none⟩) → s 18 = .int .i64 (t.w : Int) → pw Try.prog R5 s gy (F_law20_FairTurns.ret fun u _ => u = .bool true) := by
            clear e0 e1 e3 e6 e9 e10 e12 e15 e16 e18 e19 hlt hw0
            rintro s ⟨e0, e1, e3, e6, e9, e10⟩ e12 e15 e16 e18
            rw [← hR5]
            simp (disch := first | omega | (simp only [VH.n_push, VH.n_set]; done) | (simp only [VH.n_push, VH.n_set]; omega)) [e9]
            refine (weights_ok A4.sch ok4).mono ?_
            rintro u gz ⟨rfl, hgz⟩
            rw [hgz]
            clear hgz gz
            obtain ⟨a0, a1⟩ := sumWt_bd ok4.ten
            have hlen := ok4.len
            obtain ⟨al, hal⟩ : ∃ al, al = sumWt S4.ts := ⟨_, rfl⟩
            obtain ⟨ln, hln⟩ : ∃ ln : Int, ln = (S4.ts.length : Int) := ⟨_, rfl⟩
            rw [← hal] at a0 a1 ⊢
            rw [← hln] at a1 ⊢
            have hln0 : 0 ≤ ln ∧ ln ≤ 16 := by omega
            obtain ⟨Q, hQ⟩ : ∃ Q, Q = q + c1 := ⟨_, rfl⟩
            have hc10 : 0 ≤ c1 := by have := tm.c0; omega
            have hQ0 : 0 ≤ Q ∧ Q ≤ 17000 := by omega
            have x1 : IntKind.i64.wrap (q + c1) = Q := by rw [i64_small (by omega) (by omega), hQ]
            obtain ⟨P, hP⟩ : ∃ P, P = Q * al := ⟨_, rfl⟩
            have hP0 : 0 ≤ P := by rw [hP]; exact Int.mul_nonneg hQ0.1 a0
            have hP1 : P ≤ 17000 * 256 := by rw [hP]; exact Int.mul_le_mul hQ0.2 (by omega) a0 (by decide)
            have x2 : IntKind.i64.wrap (Q * al) = P := by rw [← hP]; exact i64_small (by omega) (by omega)
            have hwz : ¬ (t.w : Int) = 0 := by omega
            obtain ⟨d, hd⟩ : ∃ d, d = P / (t.w : Int) := ⟨_, rfl⟩
            have hd0 : 0 ≤ d := by rw [hd]; exact Int.ediv_nonneg hP0 (by omega)
            have hd1 : d ≤ P := by rw [hd]; exact Int.ediv_le_self _ hP0
            have x3 : IntKind.i64.wrap (P.tdiv (t.w : Int)) = d := by rw [Int.tdiv_eq_ediv_of_nonneg hP0, ← hd]; exact i64_small (by omega) (by omega)
            obtain ⟨cl, hcl⟩ : ∃ cl, cl = c1 * ln := ⟨_, rfl⟩
            have hcl0 : 0 ≤ cl := by rw [hcl]; exact Int.mul_nonneg hc10 hln0.1
            have hcl1 : cl ≤ 1000 * 16 := by rw [hcl]; exact Int.mul_le_mul hc1 hln0.2 hln0.1 (by decide)
            have x4 : IntKind.i64.wrap (c1 * ln) = cl := by rw [← hcl]; exact i64_small (by omega) (by omega)
            have x5 : IntKind.i64.wrap (d + cl) = d + cl := i64_small (by omega) (by omega)
            obtain ⟨B, hB⟩ : ∃ B, B = d + cl + 1 := ⟨_, rfl⟩
            have x6 : IntKind.i64.wrap (d + cl + 1) = B := by rw [← hB]; exact i64_small (by omega) (by omega)
            have hwz' : ¬ t.w = 0 := by omega
            simp (disch := first | omega | (simp only [VH.n_push, VH.n_set]; done) | (simp only [VH.n_push, VH.n_set]; omega)) [e15, e12, e18, x1, x2, hwz, hwz', x3, x4, x5, x6]
            refine pw_loopN (T7 h vw vb vl p0 i p1 pm [(pm, [.int .i64 (-77), .int .i64 own.j.cost]), (p0, opC own), (p1, nmsC)] B c1 v0 st own.nm M (nw S4.ts)) B.toNat ?_ ?_
            · refine ⟨S4, X4, fun _ => 0, ?_, A4, E4, ok4, W0, rfl⟩
              simp [TF, upd_apply, e0, e1, e3, e6, e9, e10, e16]
            clear e0 e1 e3 e6 e9 e10 e12 e15 e16 e18
            rintro n2 s gz hn2 ⟨S5, X5, x, ⟨⟨e0, e1, e3, e6, e9, e10⟩, e16, e22, e23⟩, A5, E5, ok5, W5, hnw⟩
            rw [hvl] at e3
            by_cases hlB : (n2 : Int) < B
            case neg =>
              exfalso
              have z1 := W5.bound ok5 kwt (Q := Q) (by rw [hQ]; exact hst)
              rw [nw_sum, nw_len S5.ts, hnw, ← nw_sum, ← nw_len, ← hal, ← hln, ← hP, ← hcl] at z1
              have z2 : P < (d + 1) * (t.w : Int) := by rw [hd]; exact Int.lt_ediv_add_one_mul_self P (by omega)
              have z3 := mul_mono (show B ≤ (n2 : Int) by omega) (show 0 ≤ (t.w : Int) by omega)
              rw [hB, show d + cl + 1 = (d + 1) + cl by omega, Int.add_mul] at z3
              omega
            have hn2B : n2 < B.toNat := by omega
            have hkk : IntKind.i64.wrap ((n2 : Int) + 1) = ((n2 + 1 : Nat) : Int) := by rw [i64_small (by omega) (by omega)]; omega
            have hbz : bnd (200 + n2) ≤ 1000000000000000000 := by unfold bnd; omega
            have hbn : bnd (200 + n2) ≤ bnd (200 + (n2 + 1)) := by unfold bnd; omega
            have hbn' : bnd (200 + n2) + 720720000 ≤ bnd (200 + (n2 + 1)) := by unfold bnd; omega
            simp (disch := first | omega | (simp only [VH.n_push, VH.n_set]; done) | (simp only [VH.n_push, VH.n_set]; omega)) [e23, e22, hlB]
            generalize hR6 : PC.seq (PC.ops (⟨some 218, none, _⟩ :: _)) _ = R6
            generalize hK : kBlock 9 _ = K9
            have tail6 : ∀ (S5 : Sc) (X5 : List Nat) (s : Slots) (g' : VH), TF vw vb vl p0 i p1 s → s 16 = .pointer (some ⟨pm, 0, none⟩) → s 22 = .int .i64 B → s 23 = .int .i64 (n2 : Int) → SA h g' i S5 X5 → Env g' X5 [(pm, [.int .i64 (-77), .int .i64 own.j.cost]), (p0, opC own), (p1, nmsC)] → OkS (bnd (200 + (n2 + 1))) S5 → Wai S5 c1 v0 st own.nm M x (n2 : Int) → nw S5.ts = nw S4.ts → pw Try.prog R6 s g' K9 := by
              clear e0 e1 e3 e6 e9 e10 e16 e22 e23 A5 E5 ok5 W5 hnw
              clear S5 X5
              rintro S5 X5 s g' ⟨e0, e1, e3, e6, e9, e10⟩ e16 e22 e23 A5 E5 ok5 W5 hnw
              rw [← hR6, ← hK]
              simp (disch := first | omega | (simp only [VH.n_push, VH.n_set]; done) | (simp only [VH.n_push, VH.n_set]; omega)) [e9]
              refine (step_ok hso A5.sch ok5).mono ?_
              rintro u g6 ⟨rfl, hp6⟩
              obtain ⟨X6, A6, E6⟩ := SA.turn A5 E5 hp6
              have ok6 := stepS_ok ok5
              have nw6 := (step_nw ok5).trans hnw
              obtain ⟨hok, hor⟩ := W5.step ok5
              obtain ⟨O, hO⟩ : ∃ O, O = (stepS S5).1 := ⟨_, rfl⟩
              obtain ⟨S6, hS6⟩ : ∃ S6, S6 = (stepS S5).2 := ⟨_, rfl⟩
              rw [← hO] at hok hor
              rw [← hS6] at A6 ok6 nw6 hor
              rw [← hO]
              obtain ⟨pj, hpj⟩ : ∃ p, p = g6.n := ⟨_, rfl⟩
              obtain ⟨g7, hg7⟩ : ∃ g7, g7 = (g6.push (.cells [.int .i64 0, .int .i64 0] true 1)).set pj (.cells [.int .i64 O.j.id, .int .i64 O.j.cost] true 1) := ⟨_, rfl⟩
              have hzp : ∀ x, (g6.push x).get pj = x := fun x => by rw [hpj]; exact VH.get_push_new _ _
              have F7 : Fr g6 g7 [] := by rw [hg7]; exact Fr_set (Fr_push (Fr.refl _ _)) (by omega)
              have o7 : g7.get pj = .cells [.int .i64 O.j.id, .int .i64 O.j.cost] true 1 := by rw [hg7, VH.get_set_same]
              have A7 := A6.fr0 F7
              have E7 := E6.fr0 F7
              obtain ⟨_, _, om7⟩ := E7 (pm, _) (List.mem_cons_self ..)
              have hsj : storeObj (.cells [.int .i64 0, .int .i64 0] true 1) 0 2 (.agg #[.int .i64 O.j.id, .int .i64 O.j.cost]) = some (.cells [.int .i64 O.j.id, .int .i64 O.j.cost] true 1) := rfl
              have hMi : M.id = -77 := by rw [hM]
              by_cases hd1 : O.dn = true
              · by_cases hi : O.j.id = -77
                · have hib : (O.j.id == -77) = true := by simp [hi]
                  simp (disch := first | omega | (simp only [VH.n_push, VH.n_set]; done) | (simp only [VH.n_push, VH.n_set]; omega)) [outV, jbV, hok, hd1, ← hpj, hzp, hsj, ← hg7, o7, lA_0, e16, om7, hib]
                  refine (known_ok _).mono ?_
                  rintro u g ⟨rfl, rfl⟩
                  simp (disch := first | omega | (simp only [VH.n_push, VH.n_set]; done) | (simp only [VH.n_push, VH.n_set]; omega)) [r_law20_FairTurns]
                · have hib : (O.j.id == -77) = false := by simp [hi]
                  obtain ⟨x', W6⟩ : ∃ x', Wai S6 c1 v0 st own.nm M x' ((n2 : Int) + 1) := by
                    rcases hor with ⟨_, h2⟩ | h2
                    · rw [hMi] at h2; exact absurd h2 hi
                    · exact h2
                  simp (disch := first | omega | (simp only [VH.n_push, VH.n_set]; done) | (simp only [VH.n_push, VH.n_set]; omega)) [outV, jbV, hok, hd1, ← hpj, hzp, hsj, ← hg7, o7, lA_0, e16, om7, hib, e23, hkk]
                  refine ⟨hlB, S6, X6, x', ?_, A7, E7, ok6, by rw [Int.natCast_add]; exact W6, nw6⟩
                  simp [TF, upd_apply, e0, e1, e3, e6, e9, e10, e16, e22]
              · have hd1 : O.dn = false := by simpa using hd1
                obtain ⟨x', W6⟩ : ∃ x', Wai S6 c1 v0 st own.nm M x' ((n2 : Int) + 1) := by
                  rcases hor with ⟨h1, _⟩ | h2
                  · rw [hd1] at h1; cases h1
                  · exact h2
                simp (disch := first | omega | (simp only [VH.n_push, VH.n_set]; done) | (simp only [VH.n_push, VH.n_set]; omega)) [outV, jbV, hok, hd1, ← hpj, hzp, hsj, ← hg7, e23, hkk]
                refine ⟨hlB, S6, X6, x', ?_, A7, E7, ok6, by rw [Int.natCast_add]; exact W6, nw6⟩
                simp [TF, upd_apply, e0, e1, e3, e6, e9, e10, e16, e22]
            by_cases hlt : n2 < Ll ∧ n2 < 100
            · obtain ⟨hL, h100⟩ := hlt
              have hLI : (n2 : Int) < (Ll : Int) := by omega
              have h100I : (n2 : Int) < 100 := by omega
              obtain ⟨i1, q1, hv1, hi1, hez, hla, _⟩ := (hl.fr0 A5.fr).at_ (k := n2) (by simp; omega)
              subst hv1
              obtain ⟨o, ho⟩ : ∃ o, o = later[n2]'(by omega) := ⟨_, rfl⟩
              rw [List.getElem_map, ← ho] at hla
              obtain ⟨p, hp⟩ : ∃ p, p = gz.n := ⟨_, rfl⟩
              obtain ⟨g3, hg3⟩ : ∃ g3, g3 = (gz.push (.cells opZ true 1)).set p (.cells (opC o) true 1) := ⟨_, rfl⟩
              have hzp : ∀ x, (gz.push x).get p = x := fun x => by rw [hp]; exact VH.get_push_new _ _
              have F3 : Fr gz g3 [] := by rw [hg3]; exact Fr_set (Fr_push (Fr.refl _ _)) (by omega)
              have o3 : g3.get p = .cells (opC o) true 1 := by rw [hg3, VH.get_set_same]
              have n3 : g3.n = p + 1 := by rw [hg3, hp]; simp
              have A3 := A5.fr0 F3
              have E3 := E5.fr0 F3
              obtain ⟨_, _, om3⟩ := E3 (pm, _) (List.mem_cons_self ..)
              by_cases hi : o.j.id = -77
              · have hib : (o.j.id != -77) = false := by simp [hi]
                simp (disch := first | omega | (simp only [VH.n_push, VH.n_set]; done) | (simp only [VH.n_push, VH.n_set]; omega)) [e3, e23, hL, hLI, h100, h100I, hez, hla, opZ_, ← hp, hzp, opZ_st, ← hg3, o3, lo_3, e16, om3, lA_0, hib]
                refine tail6 S5 X5 _ _ ?_ ?_ ?_ ?_ A3 E3 (ok5.mono hbn) W5 hnw
                all_goals simp [TF, upd_apply, e0, e1, e3, e6, e9, e10, e16, e22, e23, hvl]
              · have hib : (o.j.id != -77) = true := by simp [hi]
                simp (disch := first | omega | (simp only [VH.n_push, VH.n_set]; done) | (simp only [VH.n_push, VH.n_set]; omega)) [e3, e23, hL, hLI, h100, h100I, hez, hla, opZ_, ← hp, hzp, opZ_st, ← hg3, o3, lo_3, e16, om3, lA_0, hib, e9, lo_1, lo_J]
                refine (push_ok A3.sch ok5 hbz (nm := o.nm) (q := o.j)).mono ?_
                rintro u g5 ⟨rfl, hp5⟩
                obtain ⟨X8, A8, E8⟩ := SA.turn A3 E3 hp5
                simp (disch := first | omega | (simp only [VH.n_push, VH.n_set]; done) | (simp only [VH.n_push, VH.n_set]; omega)) []
                refine tail6 _ X8 _ _ ?_ ?_ ?_ ?_ A8 E8 ((pushS_ok ok5 o.nm o.j).mono hbn') (W5.push ok5 (fun h0 => ?_)) (push_nw.trans hnw)
                rotate_right
                · rcases pushS_def (S := S5) (nm := o.nm) (q := o.j) with ⟨_, _, _, h', _⟩ | ⟨h, _⟩
                  · have := hlat n2 (by omega) (by omega) (by rw [← ho]; exact h')
                    rw [← ho] at this
                    exact this
                  · exact absurd h0 h
                all_goals simp [TF, upd_apply, e0, e1, e3, e6, e9, e10, e16, e22, e23, hvl]
            · by_cases hL : n2 < Ll
              · have h100 : ¬ n2 < 100 := fun h => hlt ⟨hL, h⟩
                have hLI : (n2 : Int) < (Ll : Int) := by omega
                have h100I : ¬ (n2 : Int) < 100 := by omega
                simp (disch := first | omega | (simp only [VH.n_push, VH.n_set]; done) | (simp only [VH.n_push, VH.n_set]; omega)) [e3, e23, hL, hLI, h100, h100I]
                refine tail6 S5 X5 _ _ ?_ ?_ ?_ ?_ A5 E5 (ok5.mono hbn) W5 hnw
                all_goals simp [TF, upd_apply, e0, e1, e3, e6, e9, e10, e16, e22, e23, hvl]
              · have hLI : ¬ (n2 : Int) < (Ll : Int) := by omega
                simp (disch := first | omega | (simp only [VH.n_push, VH.n_set]; done) | (simp only [VH.n_push, VH.n_set]; omega)) [e3, e23, hL, hLI]
                refine tail6 S5 X5 _ _ ?_ ?_ ?_ ?_ A5 E5 (ok5.mono hbn) W5 hnw
                all_goals simp [TF, upd_apply, e0, e1, e3, e6, e9, e10, e16, e22, e23, hvl]
          clear hR5
          by_cases h4 : j2 < 4
          · have hL : ¬ j2 < Lw := fun h => hlt ⟨h4, h⟩
            have h4I : (j2 : Int) < 4 := by omega
            have hLI : ¬ (j2 : Int) < (Lw : Int) := by omega
            simp (disch := first | omega | (simp only [VH.n_push, VH.n_set]; done) | (simp only [VH.n_push, VH.n_set]; omega)) [e0, e19, h4, h4I, hL, hLI]
            refine tail5 _ ?_ ?_ ?_ ?_ ?_
            all_goals simp [TF, upd_apply, e0, e1, e3, e6, e9, e10, e12, e15, e16, e18, hvw]
          · have h4I : ¬ (j2 : Int) < 4 := by omega
            simp (disch := first | omega | (simp only [VH.n_push, VH.n_set]; done) | (simp only [VH.n_push, VH.n_set]; omega)) [e19, h4, h4I]
            refine tail5 _ ?_ ?_ ?_ ?_ ?_
            all_goals simp [TF, upd_apply, e0, e1, e3, e6, e9, e10, e12, e15, e16, e18, hvw]
        clear hR4
        by_cases hL : j < Ll
        · have h100 : ¬ j < 100 := fun h => hlt ⟨hL, h⟩
          have hLI : (j : Int) < (Ll : Int) := by omega
          have h100I : ¬ (j : Int) < 100 := by omega
          simp (disch := first | omega | (simp only [VH.n_push, VH.n_set]; done) | (simp only [VH.n_push, VH.n_set]; omega)) [e3, e17, hL, hLI, h100, h100I]
          refine tail4 _ ?_ ?_ ?_ ?_ (by omega)
          all_goals simp [TF, upd_apply, e0, e1, e3, e6, e9, e10, e12, e15, e16, hvl]
        · have hLI : ¬ (j : Int) < (Ll : Int) := by omega
          simp (disch := first | omega | (simp only [VH.n_push, VH.n_set]; done) | (simp only [VH.n_push, VH.n_set]; omega)) [e3, e17, hL, hLI]
          refine tail4 _ ?_ ?_ ?_ ?_ (by omega)
          all_goals simp [TF, upd_apply, e0, e1, e3, e6, e9, e10, e12, e15, e16, hvl]
      clear hR3
      by_cases hcm : c < own.j.cost
      · simp (disch := first | omega | (simp only [VH.n_push, VH.n_set]; done) | (simp only [VH.n_push, VH.n_set]; omega)) [h0b, o4, lA_1, e12, hcm]
        refine tail3 _ own.j.cost ?_ ?_ ?_ ?_ (by omega) (by omega) (by omega)
        all_goals simp [TF, upd_apply, e0, e1, e3, e6, e9, e10]
      · simp (disch := first | omega | (simp only [VH.n_push, VH.n_set]; done) | (simp only [VH.n_push, VH.n_set]; omega)) [h0b, o4, lA_1, e12, hcm]
        refine tail3 _ c ?_ ?_ ?_ ?_ (by omega) (by omega) (by omega)
        all_goals simp [TF, upd_apply, e0, e1, e3, e6, e9, e10, e12]
    clear hR2
    by_cases hL : k < Lb
    · have h100 : ¬ k < 100 := fun h => hlt ⟨hL, h⟩
      have hLI : (k : Int) < (Lb : Int) := by omega
      have h100I : ¬ (k : Int) < 100 := by omega
      simp (disch := first | omega | (simp only [VH.n_push, VH.n_set]; done) | (simp only [VH.n_push, VH.n_set]; omega)) [e1, e13, hL, hLI, h100, h100I]
      refine tail2 _ ?_ ?_
      · simp [TF, upd_apply, e0, e1, e3, e6, e9, e10, hvb]
      · simp [upd_apply, e12]
    · have hLI : ¬ (k : Int) < (Lb : Int) := by omega
      simp (disch := first | omega | (simp only [VH.n_push, VH.n_set]; done) | (simp only [VH.n_push, VH.n_set]; omega)) [e1, e13, hL, hLI]
      refine tail2 _ ?_ ?_
      · simp [TF, upd_apply, e0, e1, e3, e6, e9, e10, hvb]
      · simp [upd_apply, e12]
  clear hR
  by_cases h4 : n < 4
  · have hL : ¬ n < Lw := fun h => hlt ⟨h4, h⟩
    have h4I : (n : Int) < 4 := by omega
    have hLI : ¬ (n : Int) < (Lw : Int) := by omega
    simp (disch := first | omega | (simp only [VH.n_push, VH.n_set]; done) | (simp only [VH.n_push, VH.n_set]; omega)) [e0, e11, h4, h4I, hL, hLI]
    refine tail _ ?_
    simp [TF, upd_apply, e0, e1, e3, e6, e9, e10, hvw]
  · have h4I : ¬ (n : Int) < 4 := by omega
    simp (disch := first | omega | (simp only [VH.n_push, VH.n_set]; done) | (simp only [VH.n_push, VH.n_set]; omega)) [e11, h4, h4I]
    refine tail _ ?_
    simp [TF, upd_apply, e0, e1, e3, e6, e9, e10, hvw]
theorem turns_law {h : VH} {us : List Value} {k : Nat} (H : ShA h [.sl 1 (.int .i64), .sl 5 opT, opT, .sl 5 opT] us k) (hk : k ≤ 1048576) :
    PCalls Try.prog f_law20_FairTurns us h (fun u h' => u = .bool true ∧ h' = h) := by
  obtain ⟨v1, r1, k1, k2, rfl, h1, ⟨v2, r2, k3, k4, rfl, h2, ⟨v3, r3, k5, k6, rfl, ⟨cs, rfl, hcs⟩, ⟨v4, r4, k7, k8, rfl, h4, ⟨rfl, _⟩, h5⟩, h6⟩, h7⟩, h8⟩ := H
  obtain ⟨ws, w1, w2, w3⟩ := Sh.ints (h := h) h1
  obtain ⟨bf, b1, b2, b3⟩ := Sh.ops (h := h) h2
  obtain ⟨o, rfl, o1, _⟩ := Sh.op hcs
  obtain ⟨lt, l1, l2, l3⟩ := Sh.ops (h := h) h4
  exact ((turns_ok' (K := k) w1.ro b1.ro l1.ro (fun x hx => w2 x hx) (fun o ho => (b2 o ho).mono (by omega)) (fun o ho => (l2 o ho).mono (by omega)) (o1.mono (by omega)) (by omega) (by omega) (by omega) (by omega)).mono fun u _ e => by subst e; exact ⟨rfl, rfl⟩).drop
end Go.Proofs.Ytnnljhcpkkpniaa.Fa
