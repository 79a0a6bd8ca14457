/- fair, part T: FairServes. -/
import Derived.Test.YtnnljhcpkkpniaaFaS
set_option linter.unusedVariables false
set_option linter.unusedSimpArgs false
set_option maxRecDepth 100000
namespace Go.Proofs.Ytnnljhcpkkpniaa.Fa
open Go Go.RowKit Go.Proofs.Ytnnljhcpkkpniaa.Pm Go.Proofs.Ytnnljhcpkkpniaa.Fs
attribute [local simp] pw_skip pw_ops pw_quiet pw_seq pw_cond pw_block pw_exit pw_ret pw_scope pw_label kSeq_normal kSeq_ret kSeq_exit kBlock_normal kBlock_ret kBlock_exit kScope_normal kScope_ret kScope_exit kLoop_normal kLoop_ret kLoop_exit kCond_true kCond_false kCond_dec pwOps_nil pwOps_call pwOps_guard kStep_some kCall_at pwQ_nil pwQ_call pwQ_guard kQ_some putS_some putS_none upd_apply ev_t ev_k isB_bool isB_undef s0_apply pstep pwO_mov pwO_pick pwO_nilck pwO_bin pwO_binB pwO_eqNil pwO_un pwO_convI pwO_convS pwO_alloc pwO_build pwO_load pwO_store pwO_fieldAddr pwO_field pwO_idxS pwO_idxA pwO_idxV pwO_strAt pwO_lenStr pwO_lenS pwO_lenC pwO_slS pwO_slA pwO_slStr pwO_extract pwO_mkFunc pwO_mkIface pwO_append pwO_appendStr pwO_toBytes pwO_ofB pwO_box pwO_row pwO_minmax pwO_eqV pwO_sameB pwR_mov pwR_pick pwR_nilck pwR_bin pwR_binB pwR_eqNil pwR_un pwR_convI pwR_convS pwR_build pwR_load pwR_fieldAddr pwR_field pwR_idxS pwR_idxA pwR_idxV pwR_strAt pwR_lenStr pwR_lenS pwR_lenC pwR_slS pwR_slA pwR_slStr pwR_extract pwR_mkFunc pwR_mkIface pwR_ofB pwR_minmax pwR_eqV ret_r ret_n kRet_some resV0 resV1 resV2 resV3 resV4 VH.get_push_new VH.get_set_same VH.n_push VH.n_set cellsL_agg cellsL_int cellsL_bool cellsL_string cellsL_slice cellsL_pointer cellsL_map pw_draw pwD_nil pwD_cons kD_nil kD_cons evalOK_plain evalOK_guard kEv_some dstIs_some dstIs_none pw_goto pw_scopeL kSeq_goto kBlock_goto kLoop_goto kScopeL_normal kScopeL_ret kScopeL_exit kScopeL_goto pwOps_callv kCallv_fn kCallv_yld pwOps_nextM pwO_makeMap pwO_lookup pwR_lookup pwO_mapSet pwO_mapDel pwO_lenM pwR_lenM pwO_mapEntry pwO_entrySet pwO_rangeS pwO_nextS pwO_rangeM pwO_entryM pwR_entryM pwO_copyV pwO_makeSl pwO_asrt pwR_asrt kStep_if kStep_dif kQ_if kQ_dif kEv_if bound_none bound_some toNat_add' toNat_sub' toNat_mul' kLoopN_normal kLoopN_ret kLoopN_exit kLoopN_goto Option.map_some Option.map_none loadAt_obj storeAt_obj rowOf_obj eszIs_obj eszObj_cells loadObj_tab storeObj_tab_int VH.get_set_ne VH.get_push_lt VH.set_set tab_length List.getElem?_cons_zero List.getElem?_cons_succ List.length_cons List.length_nil oneC_int oneC_bool oneC_string oneC_slice oneC_pointer oneC_map srcCells_at srcCells_nil VH.get_push_at isNilV pw_drawT pwT_nil pwT_step pwT_alt kT_nil kT_cons pun pbinS pbin pbinI i64_small IntKind.bits resV resL resOne gI gM gT gF gN gNT gNF dI dM dT dF

section
variable {o : OpS} {ow : Bool} {z : Nat}
theorem lo_0 : loadObj (.cells (opC o) ow z) 0 none = some (.int .i64 o.k) := rfl
theorem lo_1 : loadObj (.cells (opC o) ow z) 1 none = some (.string (strB o.nm)) := rfl
theorem lo_2 : loadObj (.cells (opC o) ow z) 2 none = some (.int .i64 o.w) := rfl
theorem lo_4 : loadObj (.cells (opC o) ow z) 4 none = some (.int .i64 o.j.cost) := rfl
theorem lo_J : loadObj (.cells (opC o) ow z) 3 (some 2) = some (jbV o.j) := rfl
theorem lo_A : loadObj (.cells (opC o) ow z) 0 (some 5) = some (.agg (opC o).toArray) := rfl
theorem so_3 {x : Int} : storeObj (.cells (opC o) true z) 3 1 (.int .i64 x) = some (.cells (opC { o with j := { o.j with id := x } }) true z) := rfl
theorem so_A {o' : OpS} : storeObj (.cells (opC o) true z) 0 5 (.agg (opC o').toArray) = some (.cells (opC o') true z) := rfl
end
def opsV (W : List OpS) : List Value := W.flatMap opC
theorem opsV_append (a b : List OpS) : opsV (a ++ b) = opsV a ++ opsV b := by simp [opsV]
theorem opsV_len : ∀ (W : List OpS), (opsV W).length = W.length * 5
  | [] => rfl
  | o :: W => by
    rw [show opsV (o :: W) = opC o ++ opsV W from rfl, List.length_append, opsV_len W]
    simp [opC, opL]; omega
theorem opsV_chunk (A B : List OpS) (o : OpS) : ((opsV (A ++ o :: B)).drop (A.length * 5)).take 5 = opC o := by
  rw [opsV_append, List.drop_left' (opsV_len A)]
  rfl
theorem OwnSl.op {h : VH} {v : Value} {W A B : List OpS} {o : OpS} {n : Nat} (k : OwnSl h 5 v (opsV W) n) (e : W = A ++ o :: B) :
    ∃ i q c ds, v = .slice (some ⟨i, q, none⟩) n c ∧ n = W.length ∧ n ≤ c ∧ i < h.n ∧ h.get i = .cells ds true 5 ∧ q + n * 5 = ds.length ∧ ds.drop q = opsV W ∧ (ds.drop (q + A.length * 5)).take 5 = opC o := by
  have hl := k.len
  rw [opsV_len] at hl
  have hn : n = W.length := by omega
  have hpos : 0 < W.length := by rw [e]; simp; omega
  rcases k with ⟨_, h1, h2⟩ | ⟨i, q, c, ds, h1, h2, h3, h4, h5, h6, h7⟩
  · omega
  · have h8 := congrArg List.length h5
    rw [List.length_drop] at h8
    refine ⟨i, q, c, ds, h3, hn, h2, h1, h4, by rw [h6] at h8; omega, h5, ?_⟩
    rw [← List.drop_drop, h5, e]
    exact opsV_chunk A B o
theorem chunk_load {ds : List Value} {q : Nat} {o : OpS} {ow : Bool} {z : Nat} (h : (ds.drop q).take 5 = opC o) : loadObj (.cells ds ow z) (q + 1) none = some (.string (strB o.nm)) ∧ loadObj (.cells ds ow z) (q + 3) (some 2) = some (jbV o.j) := by
  have h1 : ∀ j, j < 5 → ds[q + j]? = (opC o)[j]? := fun j hj => by
    rw [← h, List.getElem?_take, if_pos hj, List.getElem?_drop]
  have hl : q + 5 ≤ ds.length := by
    have := congrArg List.length h
    simp [opC, opL] at this
    omega
  refine ⟨h1 1 (by omega), ?_⟩
  simp only [loadObj]
  rw [if_pos (by omega)]
  have h2 : (ds.drop (q + 3)).take 2 = [.int .i64 o.j.id, .int .i64 o.j.cost] := by
    have : ((ds.drop q).take 5).drop 3 = [.int .i64 o.j.id, .int .i64 o.j.cost] := by rw [h]; rfl
    rw [List.drop_take, List.drop_drop] at this
    exact this
  rw [h2]
  rfl
/-- the scheduler, and what is wanted, lie beside one another behind h. -/
structure SJ (h g : VH) (i : Nat) (S : Sc) (X : List Nat) (W : List OpS) (w : Value) : Prop where
  fr : Fr h g []
  sch : Sch g i S X
  own : OwnSl g 5 w (opsV W) W.length
  dis : ∀ y ∈ idOf w, y ∉ X
  xs : ∀ x ∈ X, h.n ≤ x
  ws : ∀ y ∈ idOf w, h.n ≤ y
theorem SJ.fr0 {h g g' : VH} {i : Nat} {S : Sc} {X : List Nat} {W : List OpS} {w : Value} (k : SJ h g i S X W w) (hf : Fr g g' []) : SJ h g' i S X W w :=
  ⟨k.fr.trans hf, k.sch.fr0 hf, k.own.fr hf (fun _ _ => by simp), k.dis, k.xs, k.ws⟩
/-- an object of one's own turns. -/
theorem SJ.mine {h g g' : VH} {i : Nat} {S : Sc} {X : List Nat} {W : List OpS} {w : Value} (k : SJ h g i S X W w) {p : Nat} (hf : Fr g g' [p]) (h1 : h.n ≤ p) (h2 : p ∉ X) (h3 : p ∉ idOf w) : SJ h g' i S X W w :=
  ⟨k.fr.trans' hf (fun y hy => by simp at hy; omega), k.sch.fr hf (fun x hx hxp => by simp at hxp; subst hxp; exact h2 hx), k.own.fr hf (fun y hy hyp => by simp at hyp; subst hyp; exact h3 hy), k.dis, k.xs, k.ws⟩
theorem SJ.turn {h g g' : VH} {i : Nat} {S S' : Sc} {X : List Nat} {W : List OpS} {w : Value} (k : SJ h g i S X W w) (hp : SchP g i X S' g') : ∃ X', SJ h g' i S' X' W w ∧ Fr g g' X ∧ ∀ x ∈ X', x ∈ X ∨ g.n ≤ x := by
  obtain ⟨X', K', M⟩ := hp
  have hn := k.fr.n
  refine ⟨X', ⟨k.fr.trans' M.fr (fun y hy => .inr (k.xs y hy)), K', k.own.fr M.fr k.dis, fun y hy hyx => ?_, fun x hx => ?_, k.ws⟩, M.fr, M.ids⟩
  · rcases M.ids y hyx with h1 | h1
    · exact k.dis y hy h1
    · have := k.own.lt y hy; omega
  · rcases M.ids x hx with h1 | h1
    · exact k.xs x h1
    · omega
theorem SJ.want {h g g' : VH} {i : Nat} {S : Sc} {X : List Nat} {W W' : List OpS} {w w' : Value} (k : SJ h g i S X W w) (hf : Fr g g' (idOf w)) (ho : OwnSl g' 5 w' (opsV W') W'.length) (hid : ∀ y ∈ idOf w', y ∈ idOf w ∨ g.n ≤ y) : SJ h g' i S X W' w' := by
  have hn := k.fr.n
  refine ⟨k.fr.trans' hf (fun y hy => .inr (k.ws y hy)), k.sch.fr hf (fun x hx hxw => k.dis x hxw hx), ho, fun y hy hyx => ?_, k.xs, fun y hy => ?_⟩
  · rcases hid y hy with h1 | h1
    · exact k.dis y h1 hyx
    · have := k.sch.lt y hyx; omega
  · rcases hid y hy with h1 | h1
    · exact k.ws y h1
    · omega
theorem sumW_le : ∀ {W : List OpS}, (∀ o ∈ W, 1 ≤ o.j.cost ∧ o.j.cost ≤ 1000) → sumW W ≤ 1000 * (W.length : Int)
  | [], _ => by simp [sumW]
  | o :: W, h => by
    have h1 := h o (List.mem_cons_self ..)
    have h2 := sumW_le (W := W) (fun x hx => h x (List.mem_cons_of_mem _ hx))
    simp only [sumW, List.map_cons, List.sum_cons, List.length_cons] at h2 ⊢
    omega

def op9 : OpS := ⟨9, [], 0, ⟨0, 0⟩⟩
theorem op9_fit (K : Nat) : op9.Fit K := ⟨⟨by decide, by decide⟩, by simp [op9], ⟨by decide, by decide⟩, ⟨by decide, by decide⟩, ⟨by decide, by decide⟩⟩
def bnd (n : Nat) : Int := 720720000 * (n : Int)
def SLoop (h : VH) (va : Option Addr) (L vc i n : Nat) (s : Slots) (g : VH) : Prop := ∃ (S : Sc) (X : List Nat) (W : List OpS) (a : Option Addr) (c : Nat) (l sv la id : Int), (s 0 = .slice va L vc ∧ s 3 = .pointer (some ⟨i, 0, none⟩) ∧ s 4 = .slice a W.length c ∧ s 5 = .int .i64 l ∧ s 6 = .int .i64 id ∧ s 7 = .int .i64 sv ∧ s 8 = .int .i64 la ∧ s 9 = .int .i64 (n : Int)) ∧
    SJ h g i S X W (.slice a W.length c) ∧ OkS (bnd n) S ∧ Srv S W l sv la ∧ W.length ≤ n ∧ 0 ≤ id ∧ id ≤ (n : Int)
set_option maxHeartbeats 8000000 in
theorem serves_ok' {h : VH} {v0 : Value} {sc : List OpS} {K : Nat} (hv : RowsAt h 5 v0 (sc.map opC)) (hx : ∀ o ∈ sc, o.Fit K) (hK : K ≤ 1048576) (hlen : sc.length ≤ 1048576) :
    PCalls Try.prog f_law20_FairServes [v0] h (fun u _ => u = .bool true) := by
  refine PCalls_of_pw st_law20_FairServes (by simp [n_law20_FairServes]) ?_
  rw [b_law20_FairServes]
  simp (disch := first | omega | (simp only [VH.n_push, VH.n_set]; done) | (simp only [VH.n_push, VH.n_set]; omega)) [B_law20_FairServes]
  refine new_ok.mono ?_
  rintro u g0 ⟨i, X0, rfl, K0, M0⟩
  obtain ⟨va, vc, rfl⟩ := hv.shape
  obtain ⟨L, hL⟩ : ∃ L, L = (sc.map opC).length := ⟨_, rfl⟩
  have hLs : L = sc.length := by rw [hL]; simp
  rw [← hL] at hv ⊢
  have hL3 : IntKind.i64.wrap ((L : Int) + 3000) = (L : Int) + 3000 := i64_small (by omega) (by omega)
  simp (disch := first | omega | (simp only [VH.n_push, VH.n_set]; done) | (simp only [VH.n_push, VH.n_set]; omega)) []
  refine pw_loopN (SLoop h va L vc i) (min (L + 3000) 20000) ?_ ?_
  · refine ⟨sc0, X0, [], none, 0, 0, 0, 0, 0, by simp [upd_apply, s0_apply], ⟨M0.fr, K0, OwnSl.nil _ _, by simp [idOf], fun x hx => (M0.ids x hx).elim (by simp) id, by simp [idOf]⟩, sc0_ok, ⟨by simp [sc0], by simp, by simp [sumW, sc0], by simp [sc0], by simp [sc0]⟩, by simp, by simp, by simp⟩
  rintro n s g hn ⟨S, X, W, a, c, l, sv, la, id, ⟨e0, e3, e4, e5, e6, e7, e8, e9⟩, J, ok, srv, hWn, hid0, hidn⟩
  by_cases hlt : n < L + 3000 ∧ n < 20000
  case neg =>
    by_cases h1 : n < L + 3000
    · have h2 : ¬ n < 20000 := fun h2 => hlt ⟨h1, h2⟩
      have h1I : (n : Int) < (L : Int) + 3000 := by omega
      have h2I : ¬ (n : Int) < 20000 := by omega
      simp (disch := first | omega | (simp only [VH.n_push, VH.n_set]; done) | (simp only [VH.n_push, VH.n_set]; omega)) [e0, e9, hL3, h1, h1I, h2, h2I]
      refine (known_ok _).mono ?_
      rintro u g ⟨rfl, rfl⟩
      simp (disch := first | omega | (simp only [VH.n_push, VH.n_set]; done) | (simp only [VH.n_push, VH.n_set]; omega)) [r_law20_FairServes]
    · have h1I : ¬ (n : Int) < (L : Int) + 3000 := by omega
      simp (disch := first | omega | (simp only [VH.n_push, VH.n_set]; done) | (simp only [VH.n_push, VH.n_set]; omega)) [e0, e9, hL3, h1, h1I]
      refine (known_ok _).mono ?_
      rintro u g ⟨rfl, rfl⟩
      simp (disch := first | omega | (simp only [VH.n_push, VH.n_set]; done) | (simp only [VH.n_push, VH.n_set]; omega)) [r_law20_FairServes]
  obtain ⟨hn1, hn2⟩ := hlt
  have hn1I : (n : Int) < (L : Int) + 3000 := by omega
  have hn2I : (n : Int) < 20000 := by omega
  have hrow : n < min (L + 3000) 20000 := by omega
  have hkk : IntKind.i64.wrap ((n : Int) + 1) = ((n + 1 : Nat) : Int) := by rw [i64_small (by omega) (by omega)]; omega
  obtain ⟨p, hp⟩ : ∃ p, p = g.n := ⟨_, rfl⟩
  obtain ⟨g1, hg1⟩ : ∃ g1, g1 = (g.push (.cells [.int .i64 0, .string ⟨#[]⟩, .int .i64 0, .int .i64 0, .int .i64 0] true 1)).set p (.cells (opC op9) true 1) := ⟨_, rfl⟩
  have F1 : Fr g g1 [] := by rw [hg1]; exact Fr_set (Fr_push (Fr.refl _ _)) (by omega)
  have n1 : g1.n = p + 1 := by rw [hg1, hp]; simp
  have o1 : g1.get p = .cells (opC op9) true 1 := by rw [hg1, VH.get_set_same]
  have hXl := J.sch.lt
  have hWl := J.own.lt
  have hpX : p ∉ X := fun hx => by have := hXl p hx; omega
  have hpW : p ∉ idOf (.slice a W.length c) := fun hx => by have := hWl p hx; omega
  have hph : h.n ≤ p := by have := J.fr.n; omega
  have hst0 : storeObj (.cells [.int .i64 0, .string ⟨#[]⟩, .int .i64 0, .int .i64 0, .int .i64 0] true 1) 0 5 (.agg (opC op9).toArray) = some (.cells (opC op9) true 1) := rfl
  have hfi : fillC [.int .i64 0, .string ⟨#[]⟩, .int .i64 0, .int .i64 0, .int .i64 0] [(0, 1, .int .i64 9)] = some (opC op9) := rfl
  have hzp : ∀ x, (g.push x).get p = x := fun x => by rw [hp]; exact VH.get_push_new _ _
  have J1 := J.fr0 F1
  have n0 : p < g1.n := by omega
  simp (disch := first | omega | (simp only [VH.n_push, VH.n_set]; done) | (simp only [VH.n_push, VH.n_set]; omega)) [e0, e9, hL3, hn1, hn1I, hn2, hn2I, hfi]
  generalize hR : PC.seq (PC.seq (PC.ops (⟨some 45, none, _⟩ :: _)) _) _ = R
  generalize hQ : kBlock 1 _ = Q
  have tail : ∀ (o : OpS) (s' : Slots) (g' : VH), o.Fit K → g'.get p = .cells (opC o) true 1 → p < g'.n → SJ h g' i S X W (.slice a W.length c) → (s' 0 = .slice va L vc ∧ s' 3 = .pointer (some ⟨i, 0, none⟩) ∧ s' 4 = .slice a W.length c ∧ s' 5 = .int .i64 l ∧ s' 6 = .int .i64 id ∧ s' 7 = .int .i64 sv ∧ s' 8 = .int .i64 la ∧ s' 9 = .int .i64 (n : Int) ∧ s' 10 = .pointer (some ⟨p, 0, none⟩)) → pw Try.prog R s' g' Q := by
    clear o1 J1 n0 n1 F1 hg1 hzp
    rintro o s' g' fit og hpn J' ⟨f0, f3, f4, f5, f6, f7, f8, f9, f10⟩
    rw [← hR, ← hQ]
    have hbn : bnd n ≤ bnd (n + 1) := by unfold bnd; omega
    have hbz : bnd n ≤ 1000000000000000000 := by unfold bnd; omega
    have hcosts := srv.costs ok
    have hsum := sumW_le hcosts
    have hsum0 := sumW_pos (fun o ho => (hcosts o ho).1)
    have hlft := srv.lft
    have hh0 := ok.had0
    have hX'l := J'.sch.lt
    have hhad : S.had ≤ 1000 := by
      by_cases hz : 0 < S.had
      · obtain ⟨t, w, r, ht, _, hl, hc⟩ := ok.bsy hz
        have := (ok.ten t ht).wk w (by rw [hl]; simp)
        omega
      · omega
    by_cases h0 : o.k = 0
    · have h0b : (o.k == 0) = true := by simp [h0]
      simp (disch := first | omega | (simp only [VH.n_push, VH.n_set]; done) | (simp only [VH.n_push, VH.n_set]; omega)) [f10, og, lo_0, h0b, f3, lo_1, lo_2]
      refine (set_ok J'.sch ok.ord (nm := o.nm) (w := o.w)).mono ?_
      rintro u g2 ⟨rfl, hp2⟩
      obtain ⟨X', J2, _, _⟩ := J'.turn hp2
      simp (disch := first | omega | (simp only [VH.n_push, VH.n_set]; done) | (simp only [VH.n_push, VH.n_set]; omega)) [f9, hkk]
      refine ⟨hrow, _, X', W, a, c, l, sv, la, id, ?_, J2, (setS_ok ok _ _).mono hbn, srv.set ok _ _, by omega, hid0, by omega⟩
      simp [upd_apply, f0, f3, f4, f5, f6, f7, f8]
    have h0b : (o.k == 0) = false := by simp [h0]
    by_cases h13 : 1 ≤ o.k ∧ o.k ≤ 3
    · obtain ⟨h1, h3⟩ := h13
      have hid1 : IntKind.i64.wrap (id + 1) = id + 1 := i64_small (by omega) (by omega)
      obtain ⟨o', ho'⟩ : ∃ o' : OpS, o' = { o with j := { o.j with id := id + 1 } } := ⟨_, rfl⟩
      have hso : storeObj (.cells (opC o) true 1) 3 1 (.int .i64 (id + 1)) = some (.cells (opC o') true 1) := by rw [ho']; exact so_3
      obtain ⟨g2, hg2⟩ : ∃ g2, g2 = g'.set p (.cells (opC o') true 1) := ⟨_, rfl⟩
      have J2 : SJ h g2 i S X W (.slice a W.length c) := by rw [hg2]; exact J'.mine (Fr.set _ _ (by simp)) hph hpX hpW
      have o2 : g2.get p = .cells (opC o') true 1 := by rw [hg2, VH.get_set_same]
      have hnm : o'.nm = o.nm := by rw [ho']
      have n2 : g2.n = g'.n := by rw [hg2]; rfl
      simp (disch := first | omega | (simp only [VH.n_push, VH.n_set]; done) | (simp only [VH.n_push, VH.n_set]; omega)) [f3, f6, f10, og, lo_0, h0b, h1, h3, hid1, hso, ← hg2, o2, lo_1, lo_J]
      refine (push_ok J2.sch ok hbz (nm := o'.nm) (q := o'.j)).mono ?_
      rintro u g3 ⟨rfl, hp3⟩
      obtain ⟨X', J3, FX, _⟩ := J2.turn hp3
      have o3 : g3.get p = .cells (opC o') true 1 := (FX.get p (by omega) hpX).trans o2
      obtain ⟨P1, P2⟩ := srv.push ok o'
      have hokp := pushS_ok ok o'.nm o'.j
      have hbe : bnd n + 720720000 = bnd (n + 1) := by unfold bnd; omega
      rw [hbe] at hokp
      by_cases hr : (pushS S o'.nm o'.j).1 = 0
      · obtain ⟨srv', hc1, hc2⟩ := P1 hr
        have hrb : ((pushS S o'.nm o'.j).1 == 0) = true := by simp [hr]
        have hll : IntKind.i64.wrap (l + o'.j.cost) = l + o'.j.cost := by
          refine i64_small (by omega) (by omega)
        obtain ⟨g4, hg4⟩ : ∃ g4, g4 = g3.push (.cells (opC o') true 5) := ⟨_, rfl⟩
        have F4 : Fr g3 g4 [] := by rw [hg4]; exact Fr_push (Fr.refl _ _)
        have J4 := J3.fr0 F4
        have r4 : g4.get g3.n = .cells (opC o') true 5 := by rw [hg4, VH.get_push_new]
        have o4 : g4.get p = .cells (opC o') true 1 := by
          have := FX.n
          exact (F4.get p (by omega) (by simp)).trans o3
        obtain ⟨w', g5, hap, O5, F5, id5⟩ := J4.own.append (bytes := 48) (ys := opC o') (k := 1) rfl (by omega)
        obtain ⟨q, c5, rfl⟩ := O5.shapeN
        have J5 := J4.want (W' := W ++ [o']) F5 (by rw [opsV_append, List.length_append]; exact O5) id5
        have hfi' : fillC [.int .i64 0, .string ⟨#[]⟩, .int .i64 0, .int .i64 0, .int .i64 0] [(0, 5, .agg (opC o').toArray)] = some (opC o') := rfl
        have hone : (opC o').all Value.oneCell' = true := rfl
        have hro : rowObj (.cells (opC o') true 5) 0 5 = some (opC o') := rfl
        have o5 : g5.get p = .cells (opC o') true 1 := by
          have := FX.n; have := F4.n
          exact (F5.get p (by omega) hpW).trans o4
        obtain ⟨M, hM⟩ : ∃ M, M = W.length := ⟨_, rfl⟩
        rw [← hM] at hap f4
        simp (disch := first | omega | (simp only [VH.n_push, VH.n_set]; done) | (simp only [VH.n_push, VH.n_set]; omega)) [hrb, f4, f10, o3, lo_A, hfi', hone, ← hg4, hro, r4, Option.bind_some, hap, o5, lo_4, f5, hll, f9, hkk]
        refine ⟨hrow, _, X', W ++ [o'], q, c5, l + o'.j.cost, sv, la, id + 1, ?_, ?_, hokp, srv', by simp; omega, by omega, by omega⟩
        · simp [upd_apply, f0, f3, f7, f8, hM]
        · rw [List.length_append]; exact J5
      · have hrb : ((pushS S o'.nm o'.j).1 == 0) = false := by simp [hr]
        simp (disch := first | omega | (simp only [VH.n_push, VH.n_set]; done) | (simp only [VH.n_push, VH.n_set]; omega)) [hrb, f9, hkk]
        refine ⟨hrow, _, X', W, a, c, l, sv, la, id + 1, ?_, J3, hokp, P2 hr, by omega, by omega, by omega⟩
        simp [upd_apply, f0, f3, f4, f5, f7, f8]
    -- a slot
    have hsp := stepS_ok ok
    have hstep : ∀ (KK : Value → VH → Prop), (∀ (X' : List Nat) (g2 : VH), SJ h g2 i (stepS S).2 X' W (.slice a W.length c) → g2.get p = .cells (opC o) true 1 → p < g2.n → KK (outV (stepS S).1) g2) → PCalls Try.prog f_fair_Sched_Step [.pointer (some ⟨i, 0, none⟩)] g' KK := by
      intro KK hk
      refine (step_ok hso J'.sch ok).mono ?_
      rintro u g2 ⟨rfl, hp2⟩
      obtain ⟨X', J2, FX, _⟩ := J'.turn hp2
      exact hk X' g2 J2 ((FX.get p hpn hpX).trans og) (by have := FX.n; omega)
    generalize hR2 : PC.seq (PC.ops (⟨some 84, none, _⟩ :: _)) _ = R2
    have tail2 : ∀ s2 : Slots, (s2 0 = .slice va L vc ∧ s2 3 = .pointer (some ⟨i, 0, none⟩) ∧ s2 4 = .slice a W.length c ∧ s2 5 = .int .i64 l ∧ s2 6 = .int .i64 id ∧ s2 7 = .int .i64 sv ∧ s2 8 = .int .i64 la ∧ s2 9 = .int .i64 (n : Int)) → pw Try.prog R2 s2 g' Q := by
      rintro s2 ⟨x0, x3, x4, x5, x6, x7, x8, x9⟩
      rw [← hR2, ← hQ]
      simp (disch := first | omega | (simp only [VH.n_push, VH.n_set]; done) | (simp only [VH.n_push, VH.n_set]; omega)) [x3]
      refine hstep _ ?_
      intro X' g2 J2 og2 hp2
      have hn2' := J2.sch.lt
      obtain ⟨O, hO⟩ : ∃ O, O = (stepS S).1 := ⟨_, rfl⟩
      obtain ⟨S2, hS2⟩ : ∃ S2, S2 = (stepS S).2 := ⟨_, rfl⟩
      rw [← hS2] at J2 hsp
      rw [← hO]
      obtain ⟨d, hd⟩ : ∃ d, d = g2.n := ⟨_, rfl⟩
      have hsj : storeObj (.cells [.int .i64 0, .int .i64 0] true 1) 0 2 (jbV O.j) = some (.cells [.int .i64 O.j.id, .int .i64 O.j.cost] true 1) := rfl
      obtain ⟨g3, hg3⟩ : ∃ g3, g3 = (g2.push (.cells [.int .i64 0, .int .i64 0] true 1)).set d (.cells [.int .i64 O.j.id, .int .i64 O.j.cost] true 1) := ⟨_, rfl⟩
      have hz2 : ∀ x, (g2.push x).get d = x := fun x => by rw [hd]; exact VH.get_push_new _ _
      have F3 : Fr g2 g3 [] := by rw [hg3]; exact Fr_set (Fr_push (Fr.refl _ _)) (by omega)
      have J3 := J2.fr0 F3
      have d3 : g3.get d = .cells [.int .i64 O.j.id, .int .i64 O.j.cost] true 1 := by rw [hg3, VH.get_set_same]
      have hWl3 := J3.own.lt
      by_cases hid : idleS S.ts = true
      · have hst : stepS S = (⟨[], job0, false, false⟩, S) := by simp [stepS, hid]
        have hl0 : ¬ 0 < l := by
          have h1 := (srv.idle ok).1 hid
          have h2 := srv.had0 ok hid
          rw [h1, h2] at hlft
          simp [sumW] at hlft
          omega
        have hok : O.ok = false := by rw [hO, hst]
        have hS2' : S2 = S := by rw [hS2, hst]
        rw [hS2'] at J3 hsp
        simp (disch := first | omega | (simp only [VH.n_push, VH.n_set]; done) | (simp only [VH.n_push, VH.n_set]; omega)) [outV, hok, ← hd, hz2, hsj, ← hg3, x5, hl0, x9, hkk]
        refine ⟨hrow, S, X', W, a, c, l, sv, la, id, ?_, J3, hsp.mono hbn, srv, by omega, hid0, by omega⟩
        simp [upd_apply, x0, x3, x4, x5, x6, x7, x8]
      have hid : idleS S.ts = false := by simpa using hid
      obtain ⟨s1, s2', s3, s4, s5, s6⟩ := srv.step ok hid
      rw [← hO, ← hS2] at s5 s6
      rw [← hO] at s2' s3 s4
      have hsv := srv.srv
      have hl1 : IntKind.i64.wrap (l - 1) = l - 1 := i64_small (by omega) (by omega)
      have hv1 : IntKind.i64.wrap (sv + 1) = sv + 1 := i64_small (by omega) (by omega)
      have hlast : (la != 0) = false ∨ ((la != 0) = true ∧ (la != O.j.id) = false) := by
        by_cases hz : la = 0
        · exact .inl (by simp [hz])
        · exact .inr ⟨by simpa using hz, by rw [s2' hz]; simp⟩
      by_cases hdn : sv + 1 = O.j.cost
      case neg =>
        have hdf : O.dn = false := by rw [s4, decide_eq_false hdn]
        have hcb : (sv + 1 == O.j.cost) = false := by simpa using hdn
        have srv' := s5 hdf
        rcases hlast with hla | ⟨hla, hla2⟩
        · simp (disch := first | omega | (simp only [VH.n_push, VH.n_set]; done) | (simp only [VH.n_push, VH.n_set]; omega)) [outV, s3, hdf, ← hd, hz2, hsj, ← hg3, x5, s1, hl1, x8, hla, d3, lA_0, lA_1, x7, hv1, hcb, x9, hkk]
          refine ⟨hrow, S2, X', W, a, c, l - 1, sv + 1, O.j.id, id, ?_, J3, hsp.mono hbn, srv', by omega, hid0, by omega⟩
          simp [upd_apply, x0, x3, x4, x6]
        · simp (disch := first | omega | (simp only [VH.n_push, VH.n_set]; done) | (simp only [VH.n_push, VH.n_set]; omega)) [outV, s3, hdf, ← hd, hz2, hsj, ← hg3, x5, s1, hl1, x8, hla, hla2, d3, lA_0, lA_1, x7, hv1, hcb, x9, hkk]
          refine ⟨hrow, S2, X', W, a, c, l - 1, sv + 1, O.j.id, id, ?_, J3, hsp.mono hbn, srv', by omega, hid0, by omega⟩
          simp [upd_apply, x0, x3, x4, x6]
      have hdt : O.dn = true := by rw [s4, decide_eq_true hdn]
      have hcb : (sv + 1 == O.j.cost) = true := by simpa using hdn
      obtain ⟨A, w1, B, hW, hA, hw1, hw1j, srv'⟩ := s6 hdt
      generalize hR3 : PC.seq (PC.ops (⟨some 8, none, I.mov (Ref.k (Value.int IntKind.i64 0))⟩ :: _)) _ = R3
      have tail3 : ∀ s3 : Slots, (s3 0 = .slice va L vc ∧ s3 3 = .pointer (some ⟨i, 0, none⟩) ∧ s3 4 = .slice a W.length c ∧ s3 5 = .int .i64 (l - 1) ∧ s3 6 = .int .i64 id ∧ s3 9 = .int .i64 (n : Int) ∧ s3 11 = .string (strB O.nm) ∧ s3 12 = .pointer (some ⟨d, 0, none⟩)) → pw Try.prog R3 s3 g3 Q := by
        rintro s3 ⟨y0, y3, y4, y5, y6, y9, y11, y12⟩
        rw [← hR3, ← hQ]
        obtain ⟨M, hM⟩ : ∃ M, M = W.length := ⟨_, rfl⟩
        rw [← hM] at y4
        have hM1 : IntKind.i64.wrap ((M : Int) - 1) = (M : Int) - 1 := i64_small (by omega) (by omega)
        simp (disch := first | omega | (simp only [VH.n_push, VH.n_set]; done) | (simp only [VH.n_push, VH.n_set]; omega)) [y4, hM1]
        have hAM : A.length < M := by rw [hM, hW]; simp
        have hJo := J3.own
        rw [← hM] at hJo
        obtain ⟨iw, qw, cw, dw, hva, _, hMc, hiw, hgw, hqw, hdw, hchA⟩ := OwnSl.op hJo hW
        injection hva with hva _ hvc
        subst hva
        subst hvc
        have hezw : eszObj (.cells dw true 5) 5 = true := rfl
        refine pw_loopN (fun m s4 g4 => g4 = g3 ∧ s4 0 = .slice va L vc ∧ s4 3 = .pointer (some ⟨i, 0, none⟩) ∧ s4 4 = .slice (some ⟨iw, qw, none⟩) M c ∧ s4 5 = .int .i64 (l - 1) ∧ s4 6 = .int .i64 id ∧ s4 7 = .int .i64 0 ∧ s4 8 = .int .i64 0 ∧ s4 9 = .int .i64 (n : Int) ∧ s4 11 = .string (strB O.nm) ∧ s4 12 = .pointer (some ⟨d, 0, none⟩) ∧ s4 16 = .int .i64 ((M : Int) - 1 - (m : Int)) ∧ ∃ v : Int, s4 15 = .int .i64 v ∧ (M - m ≤ A.length → v = (A.length : Int))) M ?_ ?_
        · refine ⟨rfl, by simp [upd_apply, y0], by simp [upd_apply, y3], by simp [upd_apply, y4], by simp [upd_apply, y5], by simp [upd_apply, y6], by simp [upd_apply], by simp [upd_apply], by simp [upd_apply, y9], by simp [upd_apply, y11], by simp [upd_apply, y12], by simp [upd_apply], -1, by simp [upd_apply], fun h => by omega⟩
        rintro m s4 g4 hm ⟨rfl, z0, z3, z4, z5, z6, z7, z8, z9, z11, z12, z16, v, z15, hv15⟩
        by_cases hmM : m < M
        · obtain ⟨k, hk⟩ : ∃ k, k = M - 1 - m := ⟨_, rfl⟩
          have hkI : (M : Int) - 1 - (m : Int) = (k : Int) := by omega
          rw [hkI] at z16
          have hkM : k < W.length := by omega
          have hk0 : (0 : Int) ≤ (k : Int) := by omega
          have hkMI : (k : Int) < (M : Int) := by omega
          have hkM' : k < M := by omega
          have hWk : W = W.take k ++ W[k] :: W.drop (k + 1) := by
            rw [← List.drop_eq_getElem_cons hkM, List.take_append_drop]
          have hchk : (dw.drop (qw + k * 5)).take 5 = opC W[k] := by
            rw [← List.drop_drop, hdw]
            have := opsV_chunk (W.take k) (W.drop (k + 1)) W[k]
            rw [List.length_take, Nat.min_eq_left (by omega), ← hWk] at this
            exact this
          obtain ⟨hlk, _⟩ := chunk_load (ow := true) (z := 5) hchk
          have hsub : IntKind.i64.wrap ((k : Int) - 1) = (M : Int) - 1 - ((m + 1 : Nat) : Int) := by rw [i64_small (by omega) (by omega)]; omega
          by_cases hnm : W[k].nm = O.nm
          · have hnb : ((strB W[k].nm).toList == (strB O.nm).toList) = true := by rw [hnm]; simp
            simp (disch := first | omega | (simp only [VH.n_push, VH.n_set]; done) | (simp only [VH.n_push, VH.n_set]; omega)) [z16, z4, hk0, hkMI, hkM', hgw, hezw, hlk, z11, hnb, hsub]
            refine ⟨hmM, z0, z3, z5, z6, z7, z8, z9, z12, fun h => ?_⟩
            have h1 : ¬ k < A.length := fun h1 => by
              have h2 : W[k] = A[k] := by
                have := congrArg (fun l : List OpS => l[k]?) hW
                simp only [List.getElem?_append_left h1] at this
                rw [List.getElem?_eq_getElem hkM, List.getElem?_eq_getElem h1] at this
                injection this
              exact hA _ (List.getElem_mem h1) (by rw [← h2]; exact hnm)
            omega
          · have hnb : ((strB W[k].nm).toList == (strB O.nm).toList) = false := by
              rw [strB_toList, strB_toList]
              simpa using hnm
            simp (disch := first | omega | (simp only [VH.n_push, VH.n_set]; done) | (simp only [VH.n_push, VH.n_set]; omega)) [z16, z4, hk0, hkMI, hkM', hgw, hezw, hlk, z11, hnb, hsub]
            refine ⟨hmM, z0, z3, z5, z6, z7, z8, z9, z12, v, z15, fun h => ?_⟩
            refine hv15 ?_
            by_cases h1 : k = A.length
            · exfalso
              have h2 : W[k] = w1 := by
                have := congrArg (fun l : List OpS => l[k]?) hW
                simp only [h1] at this
                rw [List.getElem?_append_right (Nat.le_refl _), Nat.sub_self, List.getElem?_cons_zero] at this
                rw [List.getElem?_eq_getElem (by omega)] at this
                injection this with this
                simpa [h1] using this
              exact hnm (by rw [h2]; exact hw1)
            · omega
        · obtain rfl : m = M := by omega
          have hneg : (m : Int) - 1 - (m : Int) = -1 := by omega
          rw [hneg] at z16
          have hv := hv15 (by omega)
          subst hv
          obtain ⟨at_, hat⟩ : ∃ at_, at_ = A.length := ⟨_, rfl⟩
          rw [← hat] at z15 hchA hAM
          have hat0 : ¬ (at_ : Int) < 0 := by omega
          have hatI : (at_ : Int) < (m : Int) := by omega
          obtain ⟨_, hlA⟩ := chunk_load (ow := true) (z := 5) hchA
          rw [hw1j] at hlA
          have hfk : fitsK [.i .i64, .i .i64] [.int .i64 O.j.id, .int .i64 O.j.cost] = true := rfl
          have hcB : cellsB [.int .i64 O.j.id, .int .i64 O.j.cost] [.int .i64 O.j.id, .int .i64 O.j.cost] = true := by simp [cellsB, cellB]
          have hBl : W.length = at_ + 1 + B.length := by rw [hW, hat]; simp; omega
          have hdl := congrArg List.length hdw
          rw [List.length_drop, opsV_len] at hdl
          have hro1 : rowObj (.cells dw true 5) qw (at_ * 5) = some (opsV A) := by
            simp only [rowObj]
            rw [if_pos (by omega), hdw, hW, opsV_append, hat, List.take_left' (opsV_len A)]
          have hro2 : rowObj (.cells dw true 5) (qw + (at_ + 1) * 5) ((m - (at_ + 1)) * 5) = some (opsV B) := by
            have h2 : m - (at_ + 1) = B.length := by omega
            simp only [rowObj]
            rw [if_pos (by omega), ← List.drop_drop, hdw, hW, h2]
            have h3 : opsV (A ++ w1 :: B) = opsV (A ++ [w1]) ++ opsV B := by rw [← opsV_append]; simp
            rw [h3, List.drop_left' (by rw [opsV_len]; simp [hat]), List.take_of_length_le (by rw [opsV_len]; exact Nat.le_refl _)]
          obtain ⟨w4, g5, hap4, O4, F4, id4⟩ := (OwnSl.nil g4 5).append (bytes := 48) (ys := opsV A) (k := at_) (by rw [opsV_len, hat]) (by omega)
          obtain ⟨p4, c4, rfl⟩ := O4.shapeN
          rw [List.nil_append, Nat.zero_add] at O4
          rw [Nat.zero_add] at hap4 id4
          have F4' : Fr g4 g5 [] := F4.sub (fun x hx => by simp [idOf] at hx)
          have gw5 : g5.get iw = .cells dw true 5 := (F4'.get iw hiw (by simp)).trans hgw
          obtain ⟨w5, g6, hap5, O5, F5, id5⟩ := O4.append (bytes := 48) (ys := opsV B) (k := m - (at_ + 1)) (by rw [opsV_len]; congr 1; omega) (by omega)
          obtain ⟨p5, c5, rfl⟩ := O5.shapeN
          have hlen5 : at_ + (m - (at_ + 1)) = (A ++ B).length := by rw [List.length_append, ← hat]; omega
          rw [hlen5, ← opsV_append] at O5
          rw [hlen5] at hap5 id5
          have n4 := F4.n
          have F6 : Fr g4 g6 [] := F4'.trans' F5 (fun y hy => .inr ((id4 y hy).elim (fun h => by simp [idOf] at h) (fun h => h)))
          have hi4 : (at_ : Int) ≤ (c : Int) := by omega
          have hi4' : at_ ≤ c := by omega
          have hadd : IntKind.i64.wrap ((at_ : Int) + 1) = ((at_ + 1 : Nat) : Int) := by rw [i64_small (by omega) (by omega)]; omega
          obtain ⟨bt, hbt⟩ : ∃ bt, bt = at_ + 1 := ⟨_, rfl⟩
          rw [← hbt] at hadd hro2 hap5
          have hbm : (bt : Int) ≤ (m : Int) := by omega
          have hbm' : bt ≤ m := by omega
          have J6 := J3.want (W' := A ++ B) (F6.sub (by simp)) O5 (fun y hy => .inr (by
            rcases id5 y hy with h1 | h1
            · rcases id4 y h1 with h2 | h2
              · simp [idOf] at h2
              · omega
            · omega))
          simp (disch := first | omega | (simp only [VH.n_push, VH.n_set]; done) | (simp only [VH.n_push, VH.n_set]; omega)) [z16, z4, z15, hat0, hatI, hAM, hgw, hezw, hlA, jbV, z12, d3, l2_A, hfk, hcB, hi4, hi4', hro1, Option.bind_some, hap4, hadd, gw5, hbm, hbm', hMc, hro2, hap5, z9, hkk]
          refine ⟨hrow, S2, X', A ++ B, p5, c5, l - 1, 0, 0, id, ?_, J6, hsp.mono hbn, srv', by omega, hid0, by omega⟩
          simp [upd_apply, z0, z3, z5, z6, z7, z8]
      clear hR3
      rcases hlast with hla | ⟨hla, hla2⟩
      · simp (disch := first | omega | (simp only [VH.n_push, VH.n_set]; done) | (simp only [VH.n_push, VH.n_set]; omega)) [outV, s3, hdt, ← hd, hz2, hsj, ← hg3, x5, s1, hl1, x8, hla, d3, lA_0, lA_1, x7, hv1, hcb]
        rw [hQ]
        refine tail3 _ ?_
        simp [upd_apply, x0, x3, x4, x6, x9]
      · simp (disch := first | omega | (simp only [VH.n_push, VH.n_set]; done) | (simp only [VH.n_push, VH.n_set]; omega)) [outV, s3, hdt, ← hd, hz2, hsj, ← hg3, x5, s1, hl1, x8, hla, hla2, d3, lA_0, lA_1, x7, hv1, hcb]
        rw [hQ]
        refine tail3 _ ?_
        simp [upd_apply, x0, x3, x4, x6, x9]
    clear hR2
    by_cases h1 : 1 ≤ o.k
    · have h3 : ¬ o.k ≤ 3 := fun h3 => h13 ⟨h1, h3⟩
      simp (disch := first | omega | (simp only [VH.n_push, VH.n_set]; done) | (simp only [VH.n_push, VH.n_set]; omega)) [f3, f10, og, lo_0, h0b, h1, h3]
      rw [hQ]
      refine tail2 _ ?_
      simp [upd_apply, f0, f3, f4, f5, f6, f7, f8, f9]
    · simp (disch := first | omega | (simp only [VH.n_push, VH.n_set]; done) | (simp only [VH.n_push, VH.n_set]; omega)) [f3, f10, og, lo_0, h0b, h1]
      rw [hQ]
      refine tail2 _ ?_
      simp [upd_apply, f0, f3, f4, f5, f6, f7, f8, f9]
  · clear hR hQ
    by_cases hb : n < L ∧ n < 200
    · obtain ⟨hb1, hb2⟩ := hb
      have hb1I : (n : Int) < (L : Int) := by omega
      have hb2I : (n : Int) < 200 := by omega
      obtain ⟨i1, q1, rfl, hi1, hez, hla, _⟩ := (hv.fr0 J1.fr).at_ (k := n) (by simp; omega)
      obtain ⟨o, ho⟩ : ∃ o, o = sc[n]'(by omega) := ⟨_, rfl⟩
      rw [List.getElem_map, ← ho] at hla
      have F2 : Fr g1 (g1.set p (.cells (opC o) true 1)) [p] := Fr.set _ _ (by simp)
      simp (disch := first | omega | (simp only [VH.n_push, VH.n_set]; done) | (simp only [VH.n_push, VH.n_set]; omega)) [e0, e9, hst0, ← hp, hzp, ← hg1, hb1, hb1I, hb2, hb2I, hez, hla, o1, so_A]
      refine tail o _ _ (hx o (by rw [ho]; exact List.getElem_mem _)) (VH.get_set_same ..) n0 (J1.mine F2 hph hpX hpW) ?_
      simp [upd_apply, e0, e3, e4, e5, e6, e7, e8, e9]
    · by_cases hb1 : n < L
      · have hb2 : ¬ n < 200 := fun h2 => hb ⟨hb1, h2⟩
        have hb1I : (n : Int) < (L : Int) := by omega
        have hb2I : ¬ (n : Int) < 200 := by omega
        simp (disch := first | omega | (simp only [VH.n_push, VH.n_set]; done) | (simp only [VH.n_push, VH.n_set]; omega)) [e0, e9, hst0, ← hp, hzp, ← hg1, hb1, hb1I, hb2, hb2I]
        refine tail op9 _ _ (op9_fit K) o1 n0 J1 ?_
        simp [upd_apply, e0, e3, e4, e5, e6, e7, e8, e9]
      · have hb1I : ¬ (n : Int) < (L : Int) := by omega
        simp (disch := first | omega | (simp only [VH.n_push, VH.n_set]; done) | (simp only [VH.n_push, VH.n_set]; omega)) [e0, e9, hst0, ← hp, hzp, ← hg1, hb1, hb1I]
        refine tail op9 _ _ (op9_fit K) o1 n0 J1 ?_
        simp [upd_apply, e0, e3, e4, e5, e6, e7, e8, e9]
theorem serves_law {h : VH} {us : List Value} {k : Nat} (H : ShA h [.sl 5 opT] us k) (hk : k ≤ 1048576) :
    PCalls Try.prog f_law20_FairServes us h (fun u h' => u = .bool true ∧ h' = h) := by
  obtain ⟨v, r, k1, k2, rfl, h1, ⟨rfl, _⟩, h6⟩ := H
  obtain ⟨sc, s1, s2, s3⟩ := Sh.ops (h := h) h1
  exact ((serves_ok' s1.ro s2 (by omega) (by omega)).mono fun u _ e => by subst e; exact ⟨rfl, rfl⟩).drop
end Go.Proofs.Ytnnljhcpkkpniaa.Fa
