/- fair, part N: FairPlays: the reference in the heap; what it tells. -/
import Derived.Test.YtnnljhcpkkpniaaFaX
import Derived.Test.YtnnljhcpkkpniaaFaW
import Derived.Test.YtnnljhcpkkpniaaFsC
set_option linter.unusedVariables false
set_option linter.unusedSimpArgs false
set_option maxRecDepth 100000
namespace Go.Proofs.Ytnnljhcpkkpniaa.Fa
open Go Go.RowKit Go.Proofs.Ytnnljhcpkkpniaa.Pm Go.Proofs.Ytnnljhcpkkpniaa.Fs
attribute [local simp] pw_skip pw_ops pw_quiet pw_seq pw_cond pw_block pw_exit pw_ret pw_scope pw_label kSeq_normal kSeq_ret kSeq_exit kBlock_normal kBlock_ret kBlock_exit kScope_normal kScope_ret kScope_exit kLoop_normal kLoop_ret kLoop_exit kCond_true kCond_false kCond_dec pwOps_nil pwOps_call pwOps_guard kStep_some kCall_at pwQ_nil pwQ_call pwQ_guard kQ_some putS_some putS_none upd_apply ev_t ev_k isB_bool isB_undef s0_apply pstep pwO_mov pwO_pick pwO_nilck pwO_bin pwO_binB pwO_eqNil pwO_un pwO_convI pwO_convS pwO_alloc pwO_build pwO_load pwO_store pwO_fieldAddr pwO_field pwO_idxS pwO_idxA pwO_idxV pwO_strAt pwO_lenStr pwO_lenS pwO_lenC pwO_slS pwO_slA pwO_slStr pwO_extract pwO_mkFunc pwO_mkIface pwO_append pwO_appendStr pwO_toBytes pwO_ofB pwO_box pwO_row pwO_minmax pwO_eqV pwO_sameB pwR_mov pwR_pick pwR_nilck pwR_bin pwR_binB pwR_eqNil pwR_un pwR_convI pwR_convS pwR_build pwR_load pwR_fieldAddr pwR_field pwR_idxS pwR_idxA pwR_idxV pwR_strAt pwR_lenStr pwR_lenS pwR_lenC pwR_slS pwR_slA pwR_slStr pwR_extract pwR_mkFunc pwR_mkIface pwR_ofB pwR_minmax pwR_eqV ret_r ret_n kRet_some resV0 resV1 resV2 resV3 resV4 VH.get_push_new VH.get_set_same VH.n_push VH.n_set cellsL_agg cellsL_int cellsL_bool cellsL_string cellsL_slice cellsL_pointer cellsL_map pw_draw pwD_nil pwD_cons kD_nil kD_cons evalOK_plain evalOK_guard kEv_some dstIs_some dstIs_none pw_goto pw_scopeL kSeq_goto kBlock_goto kLoop_goto kScopeL_normal kScopeL_ret kScopeL_exit kScopeL_goto pwOps_callv kCallv_fn kCallv_yld pwOps_nextM pwO_makeMap pwO_lookup pwR_lookup pwO_mapSet pwO_mapDel pwO_lenM pwR_lenM pwO_mapEntry pwO_entrySet pwO_rangeS pwO_nextS pwO_rangeM pwO_entryM pwR_entryM pwO_copyV pwO_makeSl pwO_asrt pwR_asrt kStep_if kStep_dif kQ_if kQ_dif kEv_if bound_none bound_some toNat_add' toNat_sub' toNat_mul' kLoopN_normal kLoopN_ret kLoopN_exit kLoopN_goto Option.map_some Option.map_none loadAt_obj storeAt_obj rowOf_obj eszIs_obj eszObj_cells loadObj_tab storeObj_tab_int VH.get_set_ne VH.get_push_lt VH.set_set tab_length List.getElem?_cons_zero List.getElem?_cons_succ List.length_cons List.length_nil oneC_int oneC_bool oneC_string oneC_slice oneC_pointer oneC_map srcCells_at srcCells_nil VH.get_push_at isNilV pw_drawT pwT_nil pwT_step pwT_alt kT_nil kT_cons pun pbinS pbin pbinI i64_small IntKind.bits resV resL resOne gI gM gT gF gN gNT gNF dI dM dT dF

/-! ### elements of an owned slice -/
theorem wr_mid {A R B x : List Value} {f : Nat} (hf : f + x.length ≤ R.length) : wr (A ++ (R ++ B)) (A.length + f) x = A ++ (wr R f x ++ B) := by
  unfold wr
  rw [List.take_append, List.drop_append, List.take_of_length_le (l := A) (by omega), List.drop_eq_nil_of_le (show A.length ≤ A.length + f + x.length by omega), show A.length + f - A.length = f by omega, show A.length + f + x.length - A.length = f + x.length by omega,
    List.take_append_of_le_length (by omega), List.drop_append_of_le_length hf]
  simp
theorem wr_whole {R x : List Value} (h : x.length = R.length) : wr R 0 x = x := by simp [wr, h]
theorem flat_len {α : Type} {C : α → List Value} {z : Nat} (hC : ∀ a, (C a).length = z) : ∀ (l : List α), (l.flatMap C).length = l.length * z
  | [] => by simp
  | a :: l => by rw [List.flatMap_cons, List.length_append, flat_len hC l, hC, List.length_cons, Nat.succ_mul]; omega
theorem OwnSl.el {α : Type} {C : α → List Value} {z : Nat} (hC : ∀ a, (C a).length = z) (hz : 0 < z) {h : VH} {v : Value} {l A B : List α} {a : α} {n : Nat} (k : OwnSl h z v (l.flatMap C) n) (e : l = A ++ a :: B) :
    ∃ i o c ds, v = .slice (some ⟨i, o, none⟩) n c ∧ A.length < n ∧ n ≤ c ∧ i < h.n ∧ h.get i = .cells ds true z ∧ (ds.drop (o + A.length * z)).take z = C a ∧ o + A.length * z + z ≤ ds.length ∧
      ∀ (a' : α) (g' : VH), h.n ≤ g'.n → g'.get i = .cells (wr ds (o + A.length * z) (C a')) true z → OwnSl g' z v ((A ++ a' :: B).flatMap C) n := by
  have hl := flat_len hC l
  have hll : l.length = A.length + 1 + B.length := by rw [e]; simp; omega
  rcases k with ⟨_, h1, _⟩ | ⟨i, o, c, ds, h1, h2, h3, h4, h5, h6, h7⟩
  · rw [h1, hll] at hl
    have : z ≤ (A.length + 1 + B.length) * z := Nat.le_mul_of_pos_left z (by omega)
    simp at hl
    omega
  · have hn : n = l.length := by
      rw [hl] at h6
      exact (Nat.eq_of_mul_eq_mul_right hz h6).symm
    have hA := flat_len hC A
    have hB := flat_len hC B
    have hfl : l.flatMap C = A.flatMap C ++ (C a ++ B.flatMap C) := by rw [e]; simp
    have hdl := congrArg List.length h5
    rw [List.length_drop, hl, hll, Nat.add_mul, Nat.add_mul, Nat.one_mul] at hdl
    refine ⟨i, o, c, ds, h3, by omega, h2, h1, h4, ?_, by omega, fun a' g' hg hgi => .inr ⟨i, o, c, _, by omega, h2, h3, hgi, ?_, ?_, ?_⟩⟩
    · rw [← List.drop_drop, h5, hfl, List.drop_left' hA, List.take_left' (hC a)]
    · have h8 : ds = ds.take o ++ (A.flatMap C ++ (C a ++ B.flatMap C)) := by rw [← hfl, ← h5, List.take_append_drop]
      have h9 : (ds.take o).length = o := by simp; omega
      have h10 : wr ds (o + A.length * z) (C a') = (ds.take o ++ A.flatMap C) ++ (wr (C a) 0 (C a') ++ B.flatMap C) := by
        rw [← wr_mid (by rw [hC, hC]; omega), List.append_assoc, ← h8, List.length_append, h9, hA, Nat.add_zero]
      rw [h10, List.append_assoc, List.drop_left' h9, wr_whole (by rw [hC, hC])]
      simp
    · rw [flat_len hC, hn, hll]; congr 1; simp; omega
    · rw [wr_length (by rw [hC]; omega)]; omega
theorem el_load {ds R : List Value} {q z : Nat} {ow : Bool} {zz : Nat} (hR : (ds.drop q).take z = R) (hq : q + z ≤ ds.length) : loadObj (.cells ds ow zz) q (some z) = some (.agg R.toArray) := by
  simp only [loadObj]
  rw [if_pos hq, hR]
theorem el_field {ds R : List Value} {q z f : Nat} {ow : Bool} {zz : Nat} (hR : (ds.drop q).take z = R) (hq : q + z ≤ ds.length) (hf : f < z) : loadObj (.cells ds ow zz) (q + f) none = R[f]? := by
  rw [loadObj_one, ← hR, List.getElem?_take, if_pos hf, List.getElem?_drop]
theorem el_back {ds R : List Value} {q : Nat} (hq : q + R.length ≤ ds.length) : ((wr ds q R).drop q).take R.length = R := by
  unfold wr
  rw [List.append_assoc, List.drop_left' (by simp; omega), List.take_left']
  rfl
theorem el_again {ds R R' : List Value} {q : Nat} (hq : q + R.length ≤ ds.length) (hl : R'.length = R.length) : wr (wr ds q R) q R' = wr ds q R' := by
  have h1 : (ds.take q).length = q := by simp; omega
  have h2 : wr ds q R = ds.take q ++ (R ++ ds.drop (q + R.length)) := by simp [wr]
  rw [h2]
  have h3 := wr_mid (A := ds.take q) (R := R) (B := ds.drop (q + R.length)) (f := 0) (x := R') (by omega)
  rw [h1, Nat.add_zero] at h3
  rw [h3, wr_whole hl]
  simp [wr, hl]
theorem el_put {ds R : List Value} {q z f : Nat} {x : Value} (hR : (ds.drop q).take z = R) (hq : q + z ≤ ds.length) (hf : f < z) (hx : cellsL x = [x]) (h1 : Value.oneCell' x = true) {zz : Nat} : storeObj (.cells ds true zz) (q + f) 1 x = some (.cells (wr ds q (R.set f x)) true zz) := by
  have hRl : R.length = z := by rw [← hR]; simp; omega
  simp only [storeObj]
  rw [hx, if_pos ⟨rfl, by omega, by simp [h1]⟩]
  congr 2
  have h8 : ds = ds.take q ++ (R ++ ds.drop (q + z)) := by
    rw [← hR, ← List.drop_drop, List.take_append_drop, List.take_append_drop]
  have h9 : (ds.take q).length = q := by simp; omega
  have h2 := wr_mid (A := ds.take q) (R := R) (B := ds.drop (q + z)) (f := f) (x := [x]) (by simp; omega)
  have h3 := wr_mid (A := ds.take q) (R := R) (B := ds.drop (q + z)) (f := 0) (x := R.set f x) (by simp)
  rw [h9, ← h8] at h2 h3
  rw [h2]
  rw [Nat.add_zero] at h3
  rw [h3, wr_whole (by simp), wr_one (by omega)]
theorem el_putN {ds R : List Value} {q z : Nat} (hq : q + z ≤ ds.length) (hl : R.length = z) (h1 : R.all Value.oneCell' = true) {zz : Nat} : storeObj (.cells ds true zz) q z (.agg R.toArray) = some (.cells (wr ds q R) true zz) := by
  simp only [storeObj]
  rw [cellsL_agg, if_pos ⟨hl, hq, h1⟩]
theorem OwnSl.atj {α : Type} {C : α → List Value} {z : Nat} (hC : ∀ a, (C a).length = z) (hz : 0 < z) {h : VH} {v : Value} {l : List α} {n : Nat} (k : OwnSl h z v (l.flatMap C) n) {j : Nat} (hj : j < l.length) :
    ∃ i o c ds, v = .slice (some ⟨i, o, none⟩) n c ∧ j < n ∧ n ≤ c ∧ i < h.n ∧ h.get i = .cells ds true z ∧ (ds.drop (o + j * z)).take z = C l[j] ∧ o + j * z + z ≤ ds.length ∧
      ∀ (a' : α) (g' : VH), h.n ≤ g'.n → g'.get i = .cells (wr ds (o + j * z) (C a')) true z → OwnSl g' z v ((l.set j a').flatMap C) n := by
  have e : l = l.take j ++ l[j] :: l.drop (j + 1) := by rw [← List.drop_eq_getElem_cons hj, List.take_append_drop]
  have h1 := OwnSl.el hC hz k e
  have h2 : (l.take j).length = j := by simp; omega
  rw [h2] at h1
  obtain ⟨i, o, c, ds, h3, h4, h5, h6, h7, h8, h9, h10⟩ := h1
  refine ⟨i, o, c, ds, h3, h4, h5, h6, h7, h8, h9, fun a' g' hg hgi => ?_⟩
  rw [List.set_eq_take_append_cons_drop, if_pos hj]
  exact h10 a' g' hg hgi

/-! ### the reference's scheduler in the heap -/
/-- a tenant's jobs and how many slots each one needs still. -/
def lfW (S : Sc) (t : Tn) : List (Wk × Int) := match t.l with
  | [] => []
  | w :: r => (w, w.j.cost - (if S.sv = t.nm then S.had else 0)) :: r.map fun x => (x, x.j.cost)
theorem lfW_len (S : Sc) (t : Tn) : (lfW S t).length = t.l.length := by
  unfold lfW
  split <;> simp_all
theorem lfW_fst (S : Sc) (t : Tn) : (lfW S t).map Prod.fst = t.l := by
  unfold lfW
  split
  · rename_i h; simp [h]
  · rename_i h; simp [h, Function.comp_def]
def rwC (p : Wk × Int) : List Value := [.int .i64 p.1.j.id, .int .i64 p.1.j.cost, .int .i64 p.1.st, .int .i64 p.2]
def rnC (p : Tn × Value) : List Value := [.string (strB p.1.nm), .int .i64 (p.1.w : Int), .int .i64 p.1.en, p.2]
theorem rwC_len (p : Wk × Int) : (rwC p).length = 4 := rfl
theorem rnC_len (p : Tn × Value) : (rnC p).length = 4 := rfl
abbrev Sep (a b : Value) : Prop := ∀ x ∈ idOf a, x ∉ idOf b
def rfL (sl : Value) (S : Sc) : List Value := [sl, .int .i64 S.ck, .string (strB S.sv), .bool (decide (0 < S.had))]
structure RR (g : VH) (r : Nat) (sl : Value) (rs : List (Tn × Value)) (S : Sc) : Prop where
  lt : r < g.n
  rec_ : g.get r = .cells (rfL sl S) true 1
  own : OwnSl g 4 sl (rs.flatMap rnC) rs.length
  ts : rs.map Prod.fst = S.ts
  wk : ∀ p ∈ rs, OwnSl g 4 p.2 ((lfW S p.1).flatMap rwC) p.1.l.length
  nr : r ∉ idOf sl
  nrv : ∀ p ∈ rs, r ∉ idOf p.2
  ns : ∀ p ∈ rs, Sep sl p.2
  dj : rs.Pairwise fun a b => Sep a.2 b.2
def fpR (r : Nat) (sl : Value) (rs : List (Tn × Value)) : List Nat := r :: (idOf sl ++ rs.flatMap fun p => idOf p.2)
theorem RR.fr {g g' : VH} {X : List Nat} {r : Nat} {sl : Value} {rs : List (Tn × Value)} {S : Sc} (k : RR g r sl rs S) (hf : Fr g g' X) (hx : ∀ x ∈ fpR r sl rs, x ∉ X) : RR g' r sl rs S :=
  ⟨by have := hf.n; have := k.lt; omega, by rw [hf.get r k.lt (hx r (by simp [fpR]))]; exact k.rec_, k.own.fr hf (fun x h => hx x (by simp [fpR, h])), k.ts,
    fun p hp => (k.wk p hp).fr hf (fun x h => hx x (List.mem_cons_of_mem _ (List.mem_append_right _ (List.mem_flatMap.2 ⟨p, hp, h⟩)))), k.nr, k.nrv, k.ns, k.dj⟩
theorem RR.fr0 {g g' : VH} {r : Nat} {sl : Value} {rs : List (Tn × Value)} {S : Sc} (k : RR g r sl rs S) (hf : Fr g g' []) : RR g' r sl rs S := k.fr hf (fun _ _ => by simp)
theorem RR.len {g : VH} {r : Nat} {sl : Value} {rs : List (Tn × Value)} {S : Sc} (k : RR g r sl rs S) : rs.length = S.ts.length := by rw [← k.ts]; simp
theorem RR.fp_lt {g : VH} {r : Nat} {sl : Value} {rs : List (Tn × Value)} {S : Sc} (k : RR g r sl rs S) : ∀ x ∈ fpR r sl rs, x < g.n := by
  intro x hx
  simp only [fpR, List.mem_cons, List.mem_append, List.mem_flatMap] at hx
  rcases hx with rfl | hx | ⟨p, hp, hx⟩
  · exact k.lt
  · exact k.own.lt x hx
  · exact (k.wk p hp).lt x hx
section
variable {sl : Value} {S : Sc} {ow : Bool} {z : Nat}
theorem rl_0 : loadObj (.cells (rfL sl S) ow z) 0 none = some sl := rfl
theorem rl_1 : loadObj (.cells (rfL sl S) ow z) 1 none = some (.int .i64 S.ck) := rfl
theorem rl_2 : loadObj (.cells (rfL sl S) ow z) 2 none = some (.string (strB S.sv)) := rfl
theorem rl_3 : loadObj (.cells (rfL sl S) ow z) 3 none = some (.bool (decide (0 < S.had))) := rfl
end
/-- a tenant's row. -/
theorem RR.row {g : VH} {r : Nat} {sl : Value} {rs : List (Tn × Value)} {S : Sc} (k : RR g r sl rs S) {j : Nat} (hj : j < rs.length) :
    ∃ i o c ds, sl = .slice (some ⟨i, o, none⟩) rs.length c ∧ rs.length ≤ c ∧ i < g.n ∧ g.get i = .cells ds true 4 ∧ eszObj (.cells ds true 4) 4 = true ∧ (ds.drop (o + j * 4)).take 4 = rnC rs[j] ∧ o + j * 4 + 4 ≤ ds.length ∧
      loadObj (.cells ds true 4) (o + j * 4) none = some (.string (strB rs[j].1.nm)) ∧ loadObj (.cells ds true 4) (o + j * 4 + 1) none = some (.int .i64 (rs[j].1.w : Int)) ∧ loadObj (.cells ds true 4) (o + j * 4 + 2) none = some (.int .i64 rs[j].1.en) ∧
      loadObj (.cells ds true 4) (o + j * 4 + 3) none = some rs[j].2 ∧ loadObj (.cells ds true 4) (o + j * 4) (some 4) = some (.agg (rnC rs[j]).toArray) ∧
      ∀ (a' : Tn × Value) (g' : VH), g.n ≤ g'.n → g'.get i = .cells (wr ds (o + j * 4) (rnC a')) true 4 → OwnSl g' 4 sl ((rs.set j a').flatMap rnC) rs.length := by
  obtain ⟨i, o, c, ds, h1, h2, h3, h4, h5, h6, h7, h8⟩ := OwnSl.atj rnC_len (by decide) k.own hj
  refine ⟨i, o, c, ds, h1, h3, h4, h5, rfl, h6, h7, ?_, ?_, ?_, ?_, el_load h6 h7, h8⟩
  · exact el_field (f := 0) h6 h7 (by decide)
  · exact el_field (f := 1) h6 h7 (by decide)
  · exact el_field (f := 2) h6 h7 (by decide)
  · exact el_field (f := 3) h6 h7 (by decide)
/-- where a name stands. -/
def At (nm : List UInt8) (rs : List (Tn × Value)) (u : Value) : Prop := (∃ j, ∃ hj : j < rs.length, rs[j].1.nm = nm ∧ u = .int .i64 (j : Int)) ∨ (u = .int .i64 (-1) ∧ ∀ p ∈ rs, p.1.nm ≠ nm)
theorem rfind_ok {h : VH} {r : Nat} {sl : Value} {rs : List (Tn × Value)} {S : Sc} (k : RR h r sl rs S) (hn : rs.length ≤ 16) {nm : List UInt8} :
    PCalls Try.prog f_ref20_Sched_find [.pointer (some ⟨r, 0, none⟩), .string (strB nm)] h (fun u h' => At nm rs u ∧ h' = h) := by
  refine PCalls_of_pw st_ref20_Sched_find (by simp [n_ref20_Sched_find]) ?_
  rw [b_ref20_Sched_find]
  have hr := k.rec_
  obtain ⟨a, c, rfl⟩ := k.own.shapeN
  obtain ⟨N, hN⟩ : ∃ N, N = rs.length := ⟨_, rfl⟩
  rw [← hN] at hr hn
  simp (disch := first | omega | (simp only [VH.n_push, VH.n_set]; done) | (simp only [VH.n_push, VH.n_set]; omega)) [B_ref20_Sched_find]
  refine pw_loopN (fun n s g => g = h ∧ s 0 = .pointer (some ⟨r, 0, none⟩) ∧ s 1 = .string (strB nm) ∧ s 5 = .int .i64 (n : Int) ∧ ∀ j (hj : j < rs.length), j < n → rs[j].1.nm ≠ nm) N ?_ ?_
  · exact ⟨rfl, by simp [upd_apply, s0_apply], by simp [upd_apply, s0_apply], by simp [upd_apply], fun j _ h => by omega⟩
  rintro n s g hnN ⟨rfl, e0, e1, e5, hnot⟩
  by_cases hlt : n < N
  · have hltI : (n : Int) < (N : Int) := by omega
    have hkk : IntKind.i64.wrap ((n : Int) + 1) = ((n + 1 : Nat) : Int) := by rw [i64_small (by omega) (by omega)]; omega
    obtain ⟨i, o, c', ds, hv, hc, hi, hg, hez, _, _, hl0, _⟩ := k.row (j := n) (by omega)
    injection hv with hv _ hvc
    subst hv
    subst hvc
    by_cases hnm : rs[n].1.nm = nm
    · have hb : ((strB rs[n].1.nm).toList == (strB nm).toList) = true := by rw [hnm]; simp
      simp (disch := first | omega | (simp only [VH.n_push, VH.n_set]; done) | (simp only [VH.n_push, VH.n_set]; omega)) [r_ref20_Sched_find, e0, e1, e5, hr, rl_0, hlt, hltI, hg, hez, hl0, hb]
      exact .inl ⟨n, by omega, hnm, rfl⟩
    · have hb : ((strB rs[n].1.nm).toList == (strB nm).toList) = false := by rw [strB_toList, strB_toList]; simpa using hnm
      simp (disch := first | omega | (simp only [VH.n_push, VH.n_set]; done) | (simp only [VH.n_push, VH.n_set]; omega)) [e0, e1, e5, hr, rl_0, hlt, hltI, hg, hez, hl0, hb, hkk]
      refine fun j hj hjn => ?_
      by_cases hjn' : j = n
      · subst hjn'; exact hnm
      · exact hnot j hj (by omega)
  · have hltI : ¬ (n : Int) < (N : Int) := by omega
    simp (disch := first | omega | (simp only [VH.n_push, VH.n_set]; done) | (simp only [VH.n_push, VH.n_set]; omega)) [r_ref20_Sched_find, e0, e5, hr, rl_0, hlt, hltI]
    refine .inr ⟨rfl, fun p hp => ?_⟩
    obtain ⟨j, hj, rfl⟩ := List.getElem_of_mem hp
    exact hnot j hj (by omega)
theorem findT_at {nm : List UInt8} {rs : List (Tn × Value)} {S : Sc} (ht : rs.map Prod.fst = S.ts) (hu : Uni S.ts) {j : Nat} (hj : j < rs.length) (h : rs[j].1.nm = nm) : findT nm S.ts = some rs[j].1 := by
  rw [← h]
  refine findT_mem hu ?_
  rw [← ht]
  exact List.mem_map_of_mem (List.getElem_mem hj)
theorem findT_not {nm : List UInt8} {rs : List (Tn × Value)} {S : Sc} (ht : rs.map Prod.fst = S.ts) (h : ∀ p ∈ rs, p.1.nm ≠ nm) : findT nm S.ts = none := by
  cases hf : findT nm S.ts with
  | none => rfl
  | some t =>
    obtain ⟨h1, h2⟩ := findT_some hf
    rw [← ht] at h1
    obtain ⟨p, hp, rfl⟩ := List.mem_map.1 h1
    exact absurd h2 (h p hp)
theorem take_fst {rs : List (Tn × Value)} {n : Nat} (hn : n < rs.length) : (rs.take (n + 1)).map Prod.fst = (rs.take n).map Prod.fst ++ [rs[n].1] := by
  rw [List.take_succ_eq_append_getElem hn, List.map_append]; rfl
theorem lenSum_le : ∀ {ts : List Tn}, (∀ t ∈ ts, t.l.length ≤ 16) → 0 ≤ lenSum ts ∧ lenSum ts ≤ 16 * (ts.length : Int)
  | [], _ => by simp [lenSum]
  | t :: ts, h => by
    have h1 := h t (List.mem_cons_self ..)
    have h2 := lenSum_le (ts := ts) (fun x hx => h x (List.mem_cons_of_mem _ hx))
    simp only [lenSum, List.map_cons, List.sum_cons, List.length_cons] at h2 ⊢
    omega
theorem rleft_ok {h : VH} {r : Nat} {sl : Value} {rs : List (Tn × Value)} {S : Sc} (k : RR h r sl rs S) (hn : rs.length ≤ 16) (hl16 : ∀ t ∈ S.ts, t.l.length ≤ 16) :
    PCalls Try.prog f_ref20_Sched_left [.pointer (some ⟨r, 0, none⟩)] h (fun u h' => u = .int .i64 (lenSum S.ts) ∧ h' = h) := by
  refine PCalls_of_pw st_ref20_Sched_left (by simp [n_ref20_Sched_left]) ?_
  rw [b_ref20_Sched_left]
  have hr := k.rec_
  obtain ⟨a, c, rfl⟩ := k.own.shapeN
  obtain ⟨N, hN⟩ : ∃ N, N = rs.length := ⟨_, rfl⟩
  rw [← hN] at hr hn
  obtain ⟨F, hF⟩ : ∃ F : Nat → Int, F = fun n => lenSum ((rs.take n).map Prod.fst) := ⟨_, rfl⟩
  simp (disch := first | omega | (simp only [VH.n_push, VH.n_set]; done) | (simp only [VH.n_push, VH.n_set]; omega)) [B_ref20_Sched_left]
  refine pw_loopN (fun n s g => g = h ∧ s 0 = .pointer (some ⟨r, 0, none⟩) ∧ s 4 = .int .i64 (n : Int) ∧ s 3 = .int .i64 (F n)) N ?_ ?_
  · exact ⟨rfl, by simp [upd_apply, s0_apply], by simp [upd_apply], by simp [upd_apply, hF, lenSum]⟩
  rintro n s g hnN ⟨rfl, e0, e4, e3⟩
  by_cases hlt : n < N
  · have hltI : (n : Int) < (N : Int) := by omega
    have hkk : IntKind.i64.wrap ((n : Int) + 1) = ((n + 1 : Nat) : Int) := by rw [i64_small (by omega) (by omega)]; omega
    obtain ⟨i, o, c', ds, hv, hc, hi, hg, hez, _, _, _, _, _, hl3, _⟩ := k.row (j := n) (by omega)
    injection hv with hv _ hvc
    subst hv
    subst hvc
    obtain ⟨a2, c2, hsh⟩ := (k.wk rs[n] (List.getElem_mem _)).shapeN
    rw [hsh] at hl3
    have hst : lenSum ((rs.take (n + 1)).map Prod.fst) = lenSum ((rs.take n).map Prod.fst) + (rs[n].1.l.length : Int) := by
      rw [take_fst (by omega)]
      simp [lenSum, List.sum_append, -List.map_take]
    have hbd := lenSum_le (ts := (rs.take n).map Prod.fst) (fun t ht => hl16 t (by rw [← k.ts]; exact List.map_subset _ (List.take_subset _ _) ht))
    have hb1 := hl16 rs[n].1 (by rw [← k.ts]; exact List.mem_map_of_mem (List.getElem_mem _))
    rw [List.length_map, List.length_take] at hbd
    have hadd : IntKind.i64.wrap (F n + (rs[n].1.l.length : Int)) = F (n + 1) := by rw [hF]; simp only; rw [hst]; exact i64_small (by omega) (by omega)
    simp (disch := first | omega | (simp only [VH.n_push, VH.n_set]; done) | (simp only [VH.n_push, VH.n_set]; omega)) [e0, e4, e3, hr, rl_0, hlt, hltI, hg, hez, hl3, hadd, hkk]
  · obtain rfl : n = N := by omega
    rw [hF] at e3
    simp only at e3
    rw [List.take_of_length_le (by omega), k.ts] at e3
    simp (disch := first | omega | (simp only [VH.n_push, VH.n_set]; done) | (simp only [VH.n_push, VH.n_set]; omega)) [r_ref20_Sched_left, e0, e4, e3, hr, rl_0]
theorem rweights_ok {h : VH} {r : Nat} {sl : Value} {rs : List (Tn × Value)} {S : Sc} (k : RR h r sl rs S) {b : Int} (ok : OkS b S) :
    PCalls Try.prog f_ref20_Sched_Weights [.pointer (some ⟨r, 0, none⟩)] h (fun u h' => u = .tuple #[.int .i64 (sumWt S.ts), .int .i64 (S.ts.length : Int)] ∧ h' = h) := by
  refine PCalls_of_pw st_ref20_Sched_Weights (by simp [n_ref20_Sched_Weights]) ?_
  rw [b_ref20_Sched_Weights]
  have hr := k.rec_
  have hkl := k.len
  have hn : rs.length ≤ 16 := by rw [k.len]; exact ok.len
  obtain ⟨a, c, rfl⟩ := k.own.shapeN
  obtain ⟨N, hN⟩ : ∃ N, N = rs.length := ⟨_, rfl⟩
  rw [← hN] at hr hn hkl
  obtain ⟨F, hF⟩ : ∃ F : Nat → Int, F = fun n => sumWt ((rs.take n).map Prod.fst) := ⟨_, rfl⟩
  simp (disch := first | omega | (simp only [VH.n_push, VH.n_set]; done) | (simp only [VH.n_push, VH.n_set]; omega)) [B_ref20_Sched_Weights]
  refine pw_loopN (fun n s g => g = h ∧ s 0 = .pointer (some ⟨r, 0, none⟩) ∧ s 5 = .int .i64 (n : Int) ∧ s 4 = .int .i64 (F n)) N ?_ ?_
  · exact ⟨rfl, by simp [upd_apply, s0_apply], by simp [upd_apply], by simp [upd_apply, hF, sumWt]⟩
  rintro n s g hnN ⟨rfl, e0, e4, e3⟩
  by_cases hlt : n < N
  · have hltI : (n : Int) < (N : Int) := by omega
    have hkk : IntKind.i64.wrap ((n : Int) + 1) = ((n + 1 : Nat) : Int) := by rw [i64_small (by omega) (by omega)]; omega
    obtain ⟨i, o, c', ds, hv, hc, hi, hg, hez, _, _, _, hl1, _⟩ := k.row (j := n) (by omega)
    injection hv with hv _ hvc
    subst hv
    subst hvc
    have hst : sumWt ((rs.take (n + 1)).map Prod.fst) = sumWt ((rs.take n).map Prod.fst) + (rs[n].1.w : Int) := by
      rw [take_fst (by omega)]
      simp [sumWt, List.sum_append, -List.map_take]
    have hbd := sumWt_bd (b := b) (ts := (rs.take n).map Prod.fst) (fun t ht => ok.ten t (by rw [← k.ts]; exact List.map_subset _ (List.take_subset _ _) ht))
    have hb1 := (ok.ten rs[n].1 (by rw [← k.ts]; exact List.mem_map_of_mem (List.getElem_mem _))).w16
    rw [List.length_map, List.length_take] at hbd
    have hadd : IntKind.i64.wrap (F n + (rs[n].1.w : Int)) = F (n + 1) := by rw [hF]; simp only; rw [hst]; exact i64_small (by omega) (by omega)
    simp (disch := first | omega | (simp only [VH.n_push, VH.n_set]; done) | (simp only [VH.n_push, VH.n_set]; omega)) [e0, e4, e3, hr, rl_0, hlt, hltI, hg, hez, hl1, hadd, hkk]
  · obtain rfl : n = N := by omega
    rw [hF] at e3
    simp only at e3
    rw [List.take_of_length_le (by omega), k.ts] at e3
    rw [← hkl]
    simp (disch := first | omega | (simp only [VH.n_push, VH.n_set]; done) | (simp only [VH.n_push, VH.n_set]; omega)) [r_ref20_Sched_Weights, e0, e4, e3, hr, rl_0]
theorem rwaiting_ok {h : VH} {r : Nat} {sl : Value} {rs : List (Tn × Value)} {S : Sc} (k : RR h r sl rs S) {b : Int} (ok : OkS b S) {nm : List UInt8} :
    PCalls Try.prog f_ref20_Sched_Waiting [.pointer (some ⟨r, 0, none⟩), .string (strB nm)] h (fun u h' => u = .int .i64 (waitS S nm : Int) ∧ h' = h) := by
  refine PCalls_of_pw st_ref20_Sched_Waiting (by simp [n_ref20_Sched_Waiting]) ?_
  rw [b_ref20_Sched_Waiting]
  have hr := k.rec_
  have hn : rs.length ≤ 16 := by rw [k.len]; exact ok.len
  simp (disch := first | omega | (simp only [VH.n_push, VH.n_set]; done) | (simp only [VH.n_push, VH.n_set]; omega)) [B_ref20_Sched_Waiting]
  refine (rfind_ok k hn (nm := nm)).mono ?_
  rintro u g ⟨hat, hg⟩
  subst hg
  rcases hat with ⟨j, hj, hnm, rfl⟩ | ⟨rfl, hno⟩
  · obtain ⟨i, o, c, ds, rfl, hc, hi, hg, hez, _, _, _, _, _, hl3, _⟩ := k.row hj
    obtain ⟨a2, c2, hsh⟩ := (k.wk rs[j] (List.getElem_mem _)).shapeN
    rw [hsh] at hl3
    have hw : waitS S nm = rs[j].1.l.length := by simp [waitS, findT_at k.ts ok.ord.uni hj hnm]
    have hj0 : ¬ (j : Int) < 0 := by omega
    have hjI : (j : Int) < (rs.length : Int) := by omega
    simp (disch := first | omega | (simp only [VH.n_push, VH.n_set]; done) | (simp only [VH.n_push, VH.n_set]; omega)) [r_ref20_Sched_Waiting, hj0, hr, rl_0, hj, hjI, hg, hez, hl3, hw]
  · have hw : waitS S nm = 0 := by simp [waitS, findT_not k.ts hno]
    simp (disch := first | omega | (simp only [VH.n_push, VH.n_set]; done) | (simp only [VH.n_push, VH.n_set]; omega)) [r_ref20_Sched_Waiting, hw]
/-- a job in a tenant's row. -/
theorem RR.work {g : VH} {r : Nat} {sl : Value} {rs : List (Tn × Value)} {S : Sc} (k : RR g r sl rs S) {j : Nat} (hj : j < rs.length) {m : Nat} (hm : m < (lfW S rs[j].1).length) :
    ∃ i o c ds, rs[j].2 = .slice (some ⟨i, o, none⟩) rs[j].1.l.length c ∧ m < rs[j].1.l.length ∧ rs[j].1.l.length ≤ c ∧ i < g.n ∧ g.get i = .cells ds true 4 ∧ eszObj (.cells ds true 4) 4 = true ∧ (ds.drop (o + m * 4)).take 4 = rwC (lfW S rs[j].1)[m] ∧ o + m * 4 + 4 ≤ ds.length ∧
      (∀ f, f < 4 → loadObj (.cells ds true 4) (o + m * 4 + f) none = (rwC (lfW S rs[j].1)[m])[f]?) ∧ loadObj (.cells ds true 4) (o + m * 4) (some 4) = some (.agg (rwC (lfW S rs[j].1)[m]).toArray) ∧
      ∀ (a' : Wk × Int) (g' : VH), g.n ≤ g'.n → g'.get i = .cells (wr ds (o + m * 4) (rwC a')) true 4 → OwnSl g' 4 rs[j].2 (((lfW S rs[j].1).set m a').flatMap rwC) rs[j].1.l.length := by
  obtain ⟨i, o, c, ds, h1, h2, h3, h4, h5, h6, h7, h8⟩ := OwnSl.atj rwC_len (by decide) (k.wk rs[j] (List.getElem_mem hj)) hm
  exact ⟨i, o, c, ds, h1, h2, h3, h4, h5, rfl, h6, h7, fun f hf => el_field h6 h7 hf, el_load h6 h7, h8⟩
def sumL (l : List (Wk × Int)) : Int := (l.map Prod.snd).sum
theorem sumL_le : ∀ {l : List (Wk × Int)}, (∀ p ∈ l, 0 ≤ p.2 ∧ p.2 ≤ 1000) → 0 ≤ sumL l ∧ sumL l ≤ 1000 * (l.length : Int)
  | [], _ => by simp [sumL]
  | p :: l, h => by
    have h1 := h p (List.mem_cons_self ..)
    have h2 := sumL_le (l := l) (fun x hx => h x (List.mem_cons_of_mem _ hx))
    simp only [sumL, List.map_cons, List.sum_cons, List.length_cons] at h2 ⊢
    omega
theorem sumL_take {l : List (Wk × Int)} {k : Nat} (hk : k < l.length) : sumL (l.take (k + 1)) = sumL (l.take k) + l[k].2 := by
  unfold sumL
  rw [List.take_succ_eq_append_getElem hk, List.map_append, List.sum_append]
  simp
theorem lfW_sum {b : Int} {S : Sc} (ok : OkS b S) {nm : List UInt8} {t : Tn} (h : findT nm S.ts = some t) : sumL (lfW S t) = aheadS S nm := by
  obtain ⟨htm, htn⟩ := findT_some h
  subst htn
  have h1 : aheadS S t.nm = sumC t.l - (if S.sv = t.nm then S.had else 0) := by simp [aheadS, h]
  rw [h1]
  unfold lfW
  split
  · rename_i hl
    have h2 := had_zero ok htm hl
    unfold hadOf at h2
    rw [hl]
    simp only [sumC, sumL, List.map_nil, List.sum_nil]
    by_cases he : S.sv = t.nm
    · rw [if_pos he.symm] at h2; rw [if_pos he]; omega
    · rw [if_neg he]; omega
  · rename_i w r hl
    rw [hl]
    simp [sumL, sumC, Function.comp_def]
    omega
theorem lfW_bd {b : Int} {S : Sc} (ok : OkS b S) {t : Tn} (ht : t ∈ S.ts) : ∀ p ∈ lfW S t, p.1 ∈ t.l ∧ 1 ≤ p.2 ∧ p.2 ≤ 1000 := by
  have k := (ok.ten t ht).wk
  intro p hp
  unfold lfW at hp
  split at hp
  · cases hp
  · rename_i w r hl
    rw [hl] at k ⊢
    have hw := k w (List.mem_cons_self ..)
    rcases List.mem_cons.1 hp with rfl | hp
    · refine ⟨List.mem_cons_self .., ?_⟩
      have hh := ok.had0
      simp only
      split
      · rename_i he
        by_cases hz : 0 < S.had
        · obtain ⟨t', w', r', ht', hn', hl', hc⟩ := ok.bsy hz
          have : t' = t := by
            have h3 := findT_mem ok.ord.uni ht'
            have h4 := findT_mem ok.ord.uni ht
            rw [hn', he, h4] at h3
            injection h3 with h3
            exact h3.symm
          subst this
          rw [hl] at hl'
          injection hl' with h5 _
          subst h5
          omega
        · omega
      · omega
    · obtain ⟨x, hx, rfl⟩ := List.mem_map.1 hp
      exact ⟨List.mem_cons_of_mem _ hx, (k x (List.mem_cons_of_mem _ hx)).1, (k x (List.mem_cons_of_mem _ hx)).2.1⟩
theorem rahead_ok {h : VH} {r : Nat} {sl : Value} {rs : List (Tn × Value)} {S : Sc} (k : RR h r sl rs S) {b : Int} (ok : OkS b S) {nm : List UInt8} :
    PCalls Try.prog f_ref20_Sched_Ahead [.pointer (some ⟨r, 0, none⟩), .string (strB nm)] h (fun u h' => u = .int .i64 (aheadS S nm) ∧ h' = h) := by
  refine PCalls_of_pw st_ref20_Sched_Ahead (by simp [n_ref20_Sched_Ahead]) ?_
  rw [b_ref20_Sched_Ahead]
  have hr := k.rec_
  have hn : rs.length ≤ 16 := by rw [k.len]; exact ok.len
  simp (disch := first | omega | (simp only [VH.n_push, VH.n_set]; done) | (simp only [VH.n_push, VH.n_set]; omega)) [B_ref20_Sched_Ahead]
  refine (rfind_ok k hn (nm := nm)).mono ?_
  rintro u g ⟨hat, hg⟩
  subst hg
  rcases hat with ⟨j, hj, hnm, rfl⟩ | ⟨rfl, hno⟩
  · obtain ⟨i, o, c, ds, rfl, hc, hi, hg, hez, _, _, _, _, _, hl3, _⟩ := k.row hj
    obtain ⟨a2, c2, hsh⟩ := (k.wk rs[j] (List.getElem_mem _)).shapeN
    rw [hsh] at hl3
    have hfd := findT_at k.ts ok.ord.uni hj hnm
    have hw := lfW_sum ok hfd
    have hbd := lfW_bd ok (findT_some hfd).1
    have hlen := (ok.ten _ (findT_some hfd).1).len
    have hll := lfW_len S rs[j].1
    have hj0 : (0 : Int) ≤ (j : Int) := by omega
    have hjI : (j : Int) < (rs.length : Int) := by omega
    obtain ⟨N, hN⟩ : ∃ N, N = rs[j].1.l.length := ⟨_, rfl⟩
    rw [← hN] at hl3 hlen hll hsh
    obtain ⟨F, hF⟩ : ∃ F : Nat → Int, F = fun n => sumL ((lfW S rs[j].1).take n) := ⟨_, rfl⟩
    simp (disch := first | omega | (simp only [VH.n_push, VH.n_set]; done) | (simp only [VH.n_push, VH.n_set]; omega)) []
    refine pw_loopN (fun n s g' => g' = g ∧ s 0 = .pointer (some ⟨r, 0, none⟩) ∧ s 5 = .int .i64 (j : Int) ∧ s 7 = .int .i64 (n : Int) ∧ s 6 = .int .i64 (F n)) N ?_ ?_
    · exact ⟨rfl, by simp [upd_apply, s0_apply], by simp [upd_apply], by simp [upd_apply], by simp [upd_apply, hF, sumL]⟩
    rintro n s g' hnN ⟨rfl, e0, e5, e7, e6⟩
    by_cases hlt : n < N
    · have hltI : (n : Int) < (N : Int) := by omega
      have hkk : IntKind.i64.wrap ((n : Int) + 1) = ((n + 1 : Nat) : Int) := by rw [i64_small (by omega) (by omega)]; omega
      obtain ⟨i3, o3, c3, ds3, hv3, _, _, _, hg3, hez3, _, _, hld, _⟩ := k.work hj (m := n) (by omega)
      rw [hsh, ← hN] at hv3
      injection hv3 with hv3 _ hvc
      subst hv3
      subst hvc
      have hld3 := hld 3 (by decide)
      have hst : F (n + 1) = F n + (lfW S rs[j].1)[n].2 := by rw [hF]; exact sumL_take (by omega)
      have hb1 := hbd _ (List.getElem_mem (show n < (lfW S rs[j].1).length by omega))
      have hb2 := sumL_le (l := (lfW S rs[j].1).take n) (fun p hp => by have := hbd p (List.mem_of_mem_take hp); omega)
      rw [List.length_take] at hb2
      have hFn : F n = sumL ((lfW S rs[j].1).take n) := by rw [hF]
      have hld3' : loadObj (.cells ds3 true 4) (o3 + n * 4 + 3) none = some (.int .i64 (lfW S rs[j].1)[n].2) := hld3
      have hadd : IntKind.i64.wrap (F n + (lfW S rs[j].1)[n].2) = F (n + 1) := by rw [hst]; exact i64_small (by omega) (by omega)
      simp (disch := first | omega | (simp only [VH.n_push, VH.n_set]; done) | (simp only [VH.n_push, VH.n_set]; omega)) [e0, e5, e7, e6, hj0, hr, rl_0, hj, hjI, hg, hez, hl3, hlt, hltI, hg3, hez3, hld3', hadd, hkk]
    · obtain rfl : n = N := by omega
      have hFn : F n = aheadS S nm := by rw [hF]; simp only; rw [List.take_of_length_le (by omega), hw]
      simp (disch := first | omega | (simp only [VH.n_push, VH.n_set]; done) | (simp only [VH.n_push, VH.n_set]; omega)) [r_ref20_Sched_Ahead, e0, e5, e7, e6, hj0, hr, rl_0, hj, hjI, hg, hez, hl3, hFn]
  · have hw : aheadS S nm = 0 := by simp [aheadS, findT_not k.ts hno]
    simp (disch := first | omega | (simp only [VH.n_push, VH.n_set]; done) | (simp only [VH.n_push, VH.n_set]; omega)) []
    refine pw_loopN (fun n s g' => g' = g ∧ s 5 = .int .i64 (-1) ∧ s 6 = .int .i64 0) 0 ?_ ?_
    · exact ⟨rfl, by simp [upd_apply], by simp [upd_apply]⟩
    rintro n s g' _ ⟨rfl, e5, e6⟩
    simp (disch := first | omega | (simp only [VH.n_push, VH.n_set]; done) | (simp only [VH.n_push, VH.n_set]; omega)) [r_ref20_Sched_Ahead, e5, e6, hw]
/-- who is told as the next one. -/
def NxA (rs : List (Tn × Value)) (f : List UInt8 × Int × Bool) (u : Value) : Prop := (u = .int .i64 (-1) ∧ f.2.2 = false) ∨ ∃ j, ∃ hj : j < rs.length, ∃ w q, u = .int .i64 (j : Int) ∧ rs[j].1.l = w :: q ∧ f = (rs[j].1.nm, w.st, true)
theorem rnext_ok {h : VH} {r : Nat} {sl : Value} {rs : List (Tn × Value)} {S : Sc} (k : RR h r sl rs S) {b : Int} (ok : OkS b S) :
    PCalls Try.prog f_ref20_Sched_next [.pointer (some ⟨r, 0, none⟩)] h (fun u h' => NxA rs (nextS S.ts) u ∧ h' = h) := by
  refine PCalls_of_pw st_ref20_Sched_next (by simp [n_ref20_Sched_next]) ?_
  rw [b_ref20_Sched_next]
  have hr := k.rec_
  have hn : rs.length ≤ 16 := by rw [k.len]; exact ok.len
  obtain ⟨a, c, rfl⟩ := k.own.shapeN
  obtain ⟨N, hN⟩ : ∃ N, N = rs.length := ⟨_, rfl⟩
  rw [← hN] at hr hn
  obtain ⟨F, hF⟩ : ∃ F : Nat → List UInt8 × Int × Bool, F = fun n => ((rs.take n).map Prod.fst).foldl nextF ([], 0, false) := ⟨_, rfl⟩
  simp (disch := first | omega | (simp only [VH.n_push, VH.n_set]; done) | (simp only [VH.n_push, VH.n_set]; omega)) [B_ref20_Sched_next]
  refine pw_loopN (fun n s g => g = h ∧ s 0 = .pointer (some ⟨r, 0, none⟩) ∧ s 4 = .int .i64 (n : Int) ∧ NxA rs (F n) (s 3)) N ?_ ?_
  · exact ⟨rfl, by simp [upd_apply, s0_apply], by simp [upd_apply], .inl ⟨by simp [upd_apply], by simp [hF]⟩⟩
  rintro n s g hnN ⟨rfl, e0, e4, e3⟩
  by_cases hlt : n < N
  · have hltI : (n : Int) < (N : Int) := by omega
    have hkk : IntKind.i64.wrap ((n : Int) + 1) = ((n + 1 : Nat) : Int) := by rw [i64_small (by omega) (by omega)]; omega
    obtain ⟨i, o, c', ds, hv, hc, hi, hg, hez, _, _, _, _, _, hl3, _⟩ := k.row (j := n) (by omega)
    injection hv with hv _ hvc
    subst hv
    subst hvc
    obtain ⟨a2, c2, hsh⟩ := (k.wk rs[n] (List.getElem_mem _)).shapeN
    rw [hsh] at hl3
    have hst : F (n + 1) = nextF (F n) rs[n].1 := by rw [hF]; simp only; rw [take_fst (by omega), List.foldl_append]; rfl
    obtain ⟨M, hM⟩ : ∃ M, M = rs[n].1.l.length := ⟨_, rfl⟩
    rw [← hM] at hl3 hsh
    cases hl : rs[n].1.l with
    | nil =>
      have hM0 : M = 0 := by rw [hM, hl]; rfl
      have hn0 : ¬ 0 < M := by omega
      have hn0I : ¬ (0 : Int) < (M : Int) := by omega
      have hF1 : F (n + 1) = F n := by rw [hst]; simp [nextF, hl]
      simp (disch := first | omega | (simp only [VH.n_push, VH.n_set]; done) | (simp only [VH.n_push, VH.n_set]; omega)) [e0, e4, hr, rl_0, hlt, hltI, hg, hez, hl3, hn0, hn0I, hkk]
      rw [hF1]
      exact e3
    | cons w q =>
      have hM0 : M = q.length + 1 := by rw [hM, hl]; rfl
      have hn0 : 0 < M := by omega
      have hn0I : (0 : Int) < (M : Int) := by omega
      rcases e3 with ⟨e3, hf⟩ | ⟨j, hj, w', q', e3, hl', hf⟩
      · have hF1 : F (n + 1) = (rs[n].1.nm, w.st, true) := by rw [hst]; simp [nextF, hl, hf]
        simp (disch := first | omega | (simp only [VH.n_push, VH.n_set]; done) | (simp only [VH.n_push, VH.n_set]; omega)) [e0, e4, e3, hr, rl_0, hlt, hltI, hg, hez, hl3, hn0, hn0I, hkk]
        exact .inr ⟨n, by omega, w, q, rfl, hl, hF1⟩
      · have hj0 : ¬ (j : Int) < 0 := by omega
        have hjI : (j : Int) < (N : Int) := by omega
        have hjN : j < N := by omega
        obtain ⟨i5, o5, c5, ds5, hv5, _, _, hg5, hez5, _, _, _, _, _, hl5, _⟩ := k.row (j := j) hj
        injection hv5 with hv5 _ hvc5
        injection hv5 with hv5
        injection hv5 with hv5 hv5o _
        subst hv5
        subst hv5o
        rw [hg] at hg5
        injection hg5 with hg5 _ _
        subst hg5
        have hlf1 : lfW S rs[n].1 = (w, w.j.cost - (if S.sv = rs[n].1.nm then S.had else 0)) :: q.map fun x => (x, x.j.cost) := by simp [lfW, hl]
        have hlf2 : lfW S rs[j].1 = (w', w'.j.cost - (if S.sv = rs[j].1.nm then S.had else 0)) :: q'.map fun x => (x, x.j.cost) := by simp [lfW, hl']
        obtain ⟨i6, o6, c6, ds6, hv6, hm6, _, _, hg6, hez6, _, _, hld6, _⟩ := k.work (j := n) (by omega) (m := 0) (by rw [hlf1]; simp)
        obtain ⟨i7, o7, c7, ds7, hv7, hm7, _, _, hg7, hez7, _, _, hld7, _⟩ := k.work (j := j) hj (m := 0) (by rw [hlf2]; simp)
        rw [hsh, ← hM] at hv6
        injection hv6 with hv6 _ hvc6
        subst hv6
        subst hvc6
        rw [hv7] at hl5
        have x6 : loadObj (.cells ds6 true 4) (o6 + 2) none = some (.int .i64 w.st) := by
          have := hld6 2 (by decide)
          simp only [hlf1] at this
          simpa [rwC] using this
        have x7 : loadObj (.cells ds7 true 4) (o7 + 2) none = some (.int .i64 w'.st) := by
          have := hld7 2 (by decide)
          simp only [hlf2] at this
          simpa [rwC] using this
        obtain ⟨M', hM'⟩ : ∃ M', M' = rs[j].1.l.length := ⟨_, rfl⟩
        rw [← hM'] at hl5 hm7
        have hm7I : (0 : Int) < (M' : Int) := by omega
        by_cases hcmp : w.st < w'.st
        · have hF1 : F (n + 1) = (rs[n].1.nm, w.st, true) := by rw [hst]; simp [nextF, hl, hf, hcmp]
          simp (disch := first | omega | (simp only [VH.n_push, VH.n_set]; done) | (simp only [VH.n_push, VH.n_set]; omega)) [e0, e4, e3, hr, rl_0, hlt, hltI, hg, hez, hl3, hn0, hn0I, hj0, hjI, hjN, hl5, hg6, hez6, x6, hg7, hez7, x7, hm7, hm7I, hcmp, hkk]
          exact .inr ⟨n, by omega, w, q, rfl, hl, hF1⟩
        · have hF1 : F (n + 1) = (rs[j].1.nm, w'.st, true) := by rw [hst]; simp [nextF, hl, hf, hcmp]
          simp (disch := first | omega | (simp only [VH.n_push, VH.n_set]; done) | (simp only [VH.n_push, VH.n_set]; omega)) [e0, e4, e3, hr, rl_0, hlt, hltI, hg, hez, hl3, hn0, hn0I, hj0, hjI, hjN, hl5, hg6, hez6, x6, hg7, hez7, x7, hm7, hm7I, hcmp, hkk]
          exact .inr ⟨j, hj, w', q', rfl, hl', hF1⟩
  · obtain rfl : n = N := by omega
    have hFn : F n = nextS S.ts := by rw [hF]; simp only; rw [List.take_of_length_le (by omega), k.ts]; rfl
    rw [hFn] at e3
    have e3' := e3
    rcases e3 with ⟨e3, hf⟩ | ⟨j, hj, w', q', e3, hl', hf⟩
    · simp (disch := first | omega | (simp only [VH.n_push, VH.n_set]; done) | (simp only [VH.n_push, VH.n_set]; omega)) [r_ref20_Sched_next, e0, e4, e3, hr, rl_0]
      exact .inl ⟨rfl, hf⟩
    · simp (disch := first | omega | (simp only [VH.n_push, VH.n_set]; done) | (simp only [VH.n_push, VH.n_set]; omega)) [r_ref20_Sched_next, e0, e4, e3, hr, rl_0]
      exact .inr ⟨j, hj, w', q', rfl, hl', hf⟩
end Go.Proofs.Ytnnljhcpkkpniaa.Fa
