/- fair, part Q: queues of numbers. -/
import Derived.Test.YtnnljhcpkkpniaaFaM
set_option linter.unusedVariables false
set_option linter.unusedSimpArgs false
set_option maxRecDepth 100000
namespace Go.Proofs.Ytnnljhcpkkpniaa.Fa
open Go Go.RowKit Go.Proofs.Ytnnljhcpkkpniaa.Pm Go.Proofs.Ytnnljhcpkkpniaa.Fs
attribute [local simp] pw_skip pw_ops pw_quiet pw_seq pw_cond pw_block pw_exit pw_ret pw_scope pw_label kSeq_normal kSeq_ret kSeq_exit kBlock_normal kBlock_ret kBlock_exit kScope_normal kScope_ret kScope_exit kLoop_normal kLoop_ret kLoop_exit kCond_true kCond_false kCond_dec pwOps_nil pwOps_call pwOps_guard kStep_some kCall_at pwQ_nil pwQ_call pwQ_guard kQ_some putS_some putS_none upd_apply ev_t ev_k isB_bool isB_undef s0_apply pstep pwO_mov pwO_pick pwO_nilck pwO_bin pwO_binB pwO_eqNil pwO_un pwO_convI pwO_convS pwO_alloc pwO_build pwO_load pwO_store pwO_fieldAddr pwO_field pwO_idxS pwO_idxA pwO_idxV pwO_strAt pwO_lenStr pwO_lenS pwO_lenC pwO_slS pwO_slA pwO_slStr pwO_extract pwO_mkFunc pwO_mkIface pwO_append pwO_appendStr pwO_toBytes pwO_ofB pwO_box pwO_row pwO_minmax pwO_eqV pwO_sameB pwR_mov pwR_pick pwR_nilck pwR_bin pwR_binB pwR_eqNil pwR_un pwR_convI pwR_convS pwR_build pwR_load pwR_fieldAddr pwR_field pwR_idxS pwR_idxA pwR_idxV pwR_strAt pwR_lenStr pwR_lenS pwR_lenC pwR_slS pwR_slA pwR_slStr pwR_extract pwR_mkFunc pwR_mkIface pwR_ofB pwR_minmax pwR_eqV ret_r ret_n kRet_some resV0 resV1 resV2 resV3 resV4 VH.get_push_new VH.get_set_same VH.n_push VH.n_set cellsL_agg cellsL_int cellsL_bool cellsL_string cellsL_slice cellsL_pointer cellsL_map pw_draw pwD_nil pwD_cons kD_nil kD_cons evalOK_plain evalOK_guard kEv_some dstIs_some dstIs_none pw_goto pw_scopeL kSeq_goto kBlock_goto kLoop_goto kScopeL_normal kScopeL_ret kScopeL_exit kScopeL_goto pwOps_callv kCallv_fn kCallv_yld pwOps_nextM pwO_makeMap pwO_lookup pwR_lookup pwO_mapSet pwO_mapDel pwO_lenM pwR_lenM pwO_mapEntry pwO_entrySet pwO_rangeS pwO_nextS pwO_rangeM pwO_entryM pwR_entryM pwO_copyV pwO_makeSl pwO_asrt pwR_asrt kStep_if kStep_dif kQ_if kQ_dif kEv_if bound_none bound_some toNat_add' toNat_sub' toNat_mul' kLoopN_normal kLoopN_ret kLoopN_exit kLoopN_goto Option.map_some Option.map_none loadAt_obj storeAt_obj rowOf_obj eszIs_obj eszObj_cells loadObj_tab storeObj_tab_int VH.get_set_ne VH.get_push_lt VH.set_set tab_length List.getElem?_cons_zero List.getElem?_cons_succ List.length_cons List.length_nil oneC_int oneC_bool oneC_string oneC_slice oneC_pointer oneC_map srcCells_at srcCells_nil VH.get_push_at isNilV pw_drawT pwT_nil pwT_step pwT_alt kT_nil kT_cons pun pbinS pbin pbinI i64_small IntKind.bits resV resL resOne gI gM gT gF gN gNT gNF dI dM dT dF

def intsV (l : List Int) : List Value := l.map fun x => .int .i64 x
@[simp] theorem intsV_length (l : List Int) : (intsV l).length = l.length := by simp [intsV]
theorem intsV_append (a b : List Int) : intsV (a ++ b) = intsV a ++ intsV b := by simp [intsV]
theorem intsV_at {l : List Int} {k : Nat} (hk : k < l.length) : (intsV l)[k]? = some (.int .i64 l[k]) := by simp [intsV, hk]
structure QI (g : VH) (q : Nat) (most : Int) (v : Value) (l : List Int) : Prop where
  lt : q < g.n
  rec_ : g.get q = .cells [.int .i64 most, v] true 1
  own : OwnSl g 1 v (intsV l) l.length
  nq : q ∉ idOf v
theorem QI.fr {g g' : VH} {X : List Nat} (hf : Fr g g' X) {q : Nat} {most : Int} {v : Value} {l : List Int} (k : QI g q most v l) (h1 : q ∉ X) (h2 : ∀ x ∈ idOf v, x ∉ X) : QI g' q most v l :=
  ⟨by have := hf.n; have := k.lt; omega, by rw [hf.get _ k.lt h1]; exact k.rec_, k.own.fr hf h2, k.nq⟩
theorem QI.fr0 {g g' : VH} (hf : Fr g g' []) {q : Nat} {most : Int} {v : Value} {l : List Int} (k : QI g q most v l) : QI g' q most v l := k.fr hf (by simp) (fun _ _ => by simp)
section
variable {a b : Value} {ow : Bool} {z : Nat}
theorem li_0 : loadObj (.cells [a, b] ow z) 0 none = some a := rfl
theorem li_1 : loadObj (.cells [a, b] ow z) 1 none = some b := rfl
theorem si_1 {p : Option Addr} {q r : Nat} : storeObj (.cells [a, b] true z) 1 1 (.slice p q r) = some (.cells [a, .slice p q r] true z) := rfl
end
theorem inew_ok {h : VH} {most : Int} (hm : 1 ≤ most) : PCalls Try.prog f_fair_NewQueue_int [.int .i64 most] h (fun u h' => u = .pointer (some ⟨h.n, 0, none⟩) ∧ QI h' h.n most (.slice none 0 0) [] ∧ Fr h h' []) := by
  refine PCalls_of_pw st_fair_NewQueue_int (by simp [n_fair_NewQueue_int]) ?_
  rw [b_fair_NewQueue_int]
  have hlt : ¬ most < 1 := by omega
  have hfi : fillC [.int .i64 0, .slice none 0 0] [(0, 1, .int .i64 most)] = some [.int .i64 most, .slice none 0 0] := rfl
  have hone : [Value.int .i64 most, .slice none 0 0].all Value.oneCell' = true := rfl
  simp (disch := first | omega | (simp only [VH.n_push, VH.n_set]; done) | (simp only [VH.n_push, VH.n_set]; omega)) [r_fair_NewQueue_int, B_fair_NewQueue_int, hlt, hfi, hone]
  exact ⟨⟨by simp, VH.get_push_new _ _, OwnSl.nil _ _, by simp [idOf]⟩, Fr_push (Fr.refl _ _)⟩
theorem inew_nil {h : VH} {most : Int} (hm : most < 1) : PCalls Try.prog f_fair_NewQueue_int [.int .i64 most] h (fun u h' => u = .pointer none ∧ h' = h) := by
  refine PCalls_of_pw st_fair_NewQueue_int (by simp [n_fair_NewQueue_int]) ?_
  rw [b_fair_NewQueue_int]
  simp (disch := first | omega | (simp only [VH.n_push, VH.n_set]; done) | (simp only [VH.n_push, VH.n_set]; omega)) [r_fair_NewQueue_int, B_fair_NewQueue_int, hm]
theorem ilen_ok {h : VH} {q : Nat} {most : Int} {v : Value} {l : List Int} (k : QI h q most v l) : PCalls Try.prog f_fair_Queue_int_Len [.pointer (some ⟨q, 0, none⟩)] h (fun u h' => u = .int .i64 (l.length : Int) ∧ h' = h) := by
  refine PCalls_of_pw st_fair_Queue_int_Len (by simp [n_fair_Queue_int_Len]) ?_
  rw [b_fair_Queue_int_Len]
  obtain ⟨a, c, rfl⟩ := k.own.shapeN
  have hq := k.rec_
  simp (disch := first | omega | (simp only [VH.n_push, VH.n_set]; done) | (simp only [VH.n_push, VH.n_set]; omega)) [r_fair_Queue_int_Len, B_fair_Queue_int_Len, hq, li_1]
theorem OwnSl.at1 {h : VH} {v : Value} {l : List Int} {n : Nat} (k : OwnSl h 1 v (intsV l) n) {j : Nat} (hj : j < l.length) : ∃ i o c ds, v = .slice (some ⟨i, o, none⟩) n c ∧ j < n ∧ n ≤ c ∧ i < h.n ∧ h.get i = .cells ds true 1 ∧ loadObj (.cells ds true 1) (o + j) none = some (.int .i64 l[j]) ∧ o + j < ds.length := by
  rcases k with ⟨_, h1, _⟩ | ⟨i, o, c, ds, h1, h2, h3, h4, h5, h6, h7⟩
  · have := congrArg List.length h1
    rw [intsV_length, List.length_nil] at this
    omega
  · simp at h6
    have h8 := congrArg List.length h5
    simp at h8
    refine ⟨i, o, c, ds, h3, by omega, h2, h1, h4, ?_, by omega⟩
    have := intsV_at hj
    rw [← h5, List.getElem?_drop] at this
    exact this
theorem ipeek_ok {h : VH} {q : Nat} {most : Int} {v : Value} {l : List Int} (k : QI h q most v l) : PCalls Try.prog f_fair_Queue_int_Peek [.pointer (some ⟨q, 0, none⟩)] h (fun u h' => u = .tuple #[.int .i64 (l.head?.getD 0), .bool (!l.isEmpty)] ∧ h' = h) := by
  refine PCalls_of_pw st_fair_Queue_int_Peek (by simp [n_fair_Queue_int_Peek]) ?_
  rw [b_fair_Queue_int_Peek]
  have hq := k.rec_
  cases l with
  | nil =>
    obtain ⟨a, c, rfl⟩ := k.own.shapeN
    simp (disch := first | omega | (simp only [VH.n_push, VH.n_set]; done) | (simp only [VH.n_push, VH.n_set]; omega)) [r_fair_Queue_int_Peek, B_fair_Queue_int_Peek, hq, li_1]
  | cons x l =>
    obtain ⟨i, o, c, ds, rfl, h1, h2, h3, h4, h5, h6⟩ := OwnSl.at1 k.own (j := 0) (by simp)
    obtain ⟨n, hn⟩ : ∃ n, n = (x :: l).length := ⟨_, rfl⟩
    rw [← hn] at hq h1 h2
    have h0 : ((n : Int) == 0) = false := by rw [beq_eq_false_iff_ne]; omega
    have hez : eszObj (.cells ds true 1) 1 = true := rfl
    have hld : loadObj (.cells ds true 1) o none = some (.int .i64 x) := h5
    simp (disch := first | omega | (simp only [VH.n_push, VH.n_set]; done) | (simp only [VH.n_push, VH.n_set]; omega)) [r_fair_Queue_int_Peek, B_fair_Queue_int_Peek, hq, li_1, h0, h1, h4, hez, hld]
theorem ipush_full {h : VH} {q : Nat} {most : Int} {v : Value} {l : List Int} (k : QI h q most v l) {x : Int} (hl : most ≤ (l.length : Int)) :
    PCalls Try.prog f_fair_Queue_int_Push [.pointer (some ⟨q, 0, none⟩), .int .i64 x] h (fun u h' => u = .int .i64 200 ∧ h' = h) := by
  refine PCalls_of_pw st_fair_Queue_int_Push (by simp [n_fair_Queue_int_Push]) ?_
  rw [b_fair_Queue_int_Push]
  have hq := k.rec_
  obtain ⟨a, c, rfl⟩ := k.own.shapeN
  obtain ⟨n, hn⟩ : ∃ n, n = l.length := ⟨_, rfl⟩
  rw [← hn] at hq hl
  simp (disch := first | omega | (simp only [VH.n_push, VH.n_set]; done) | (simp only [VH.n_push, VH.n_set]; omega)) [r_fair_Queue_int_Push, B_fair_Queue_int_Push, hq, li_1, li_0, hl]
theorem ipush_ok {h : VH} {q : Nat} {most : Int} {v : Value} {l : List Int} (k : QI h q most v l) {x : Int} (hl : (l.length : Int) < most) (hb : l.length ≤ 1000) :
    PCalls Try.prog f_fair_Queue_int_Push [.pointer (some ⟨q, 0, none⟩), .int .i64 x] h (fun u h' => u = .int .i64 0 ∧ ∃ v', QI h' q most v' (l ++ [x]) ∧ Fr h h' (q :: idOf v) ∧ ∀ y ∈ idOf v', y ∈ idOf v ∨ h.n ≤ y) := by
  refine PCalls_of_pw st_fair_Queue_int_Push (by simp [n_fair_Queue_int_Push]) ?_
  rw [b_fair_Queue_int_Push]
  have hq := k.rec_
  have hlq := k.lt
  have hnq := k.nq
  have ho := k.own
  obtain ⟨a, c, rfl⟩ := k.own.shapeN
  obtain ⟨n, hn⟩ : ∃ n, n = l.length := ⟨_, rfl⟩
  rw [← hn] at hq hl ho hnq hb
  rw [← hn]
  have hl' : ¬ most ≤ (n : Int) := by omega
  obtain ⟨g1, hg1⟩ : ∃ g1, g1 = h.push (.cells [.int .i64 x] true 1) := ⟨_, rfl⟩
  have F1 : Fr h g1 [] := by rw [hg1]; exact Fr_push (Fr.refl _ _)
  have n1 : g1.n = h.n + 1 := by rw [hg1]; rfl
  have r1 : g1.get h.n = .cells [.int .i64 x] true 1 := by rw [hg1, VH.get_push_new]
  have q1 := (F1.get q hlq (by simp)).trans hq
  obtain ⟨v', g2, hap, ho2, hf2, hid⟩ := (ho.fr F1 (fun _ _ => by simp)).append (bytes := 8) (ys := [.int .i64 x]) (k := 1) rfl (by omega)
  obtain ⟨p, c2, rfl⟩ := ho2.shapeN
  have q2 := (hf2.get q (by omega) hnq).trans q1
  have n2 := hf2.n
  have hfi : fillC [.int .i64 0] [(0, 1, .int .i64 x)] = some [.int .i64 x] := rfl
  have hone : [Value.int .i64 x].all Value.oneCell' = true := rfl
  have hro : rowObj (.cells [.int .i64 x] true 1) 0 1 = some [.int .i64 x] := rfl
  simp (disch := first | omega | (simp only [VH.n_push, VH.n_set]; done) | (simp only [VH.n_push, VH.n_set]; omega)) [r_fair_Queue_int_Push, B_fair_Queue_int_Push, hq, li_1, li_0, hl', hfi, hone, ← hg1, hro, r1, Option.bind_some, hap, q1, q2, si_1]
  have F3 : Fr g2 (g2.set q (.cells [.int .i64 most, .slice p (n + 1) c2] true 1)) [q] := Fr.set _ _ (by simp)
  have hid' : ∀ y ∈ idOf (.slice p (n + 1) c2), y ∈ idOf (.slice a n c) ∨ h.n ≤ y := fun y hy => (hid y hy).imp id (fun h1 => by omega)
  have hnq' : q ∉ idOf (.slice p (n + 1) c2) := fun hx => (hid' q hx).elim hnq (fun h1 => by omega)
  refine ⟨.slice p (n + 1) c2, ⟨by show q < g2.n; omega, VH.get_set_same .., ?_, hnq'⟩, ?_, hid'⟩
  · rw [intsV_append, List.length_append, ← hn]
    exact ho2.fr F3 (fun y hy hyq => by simp at hyq; subst hyq; exact hnq' hy)
  · exact ((F1.sub (by simp)).trans (hf2.sub (fun x hx => List.mem_cons_of_mem _ hx))).trans (F3.sub (by simp))
theorem OwnSl.tail1 {h : VH} {v : Value} {x : Int} {l : List Int} {n : Nat} (k : OwnSl h 1 v (intsV (x :: l)) n) : ∃ i o c, v = .slice (some ⟨i, o, none⟩) n c ∧ 0 < n ∧ n ≤ c ∧ i < h.n ∧ eszObj (h.get i) 1 = true ∧ OwnSl h 1 (.slice (some ⟨i, o + 1, none⟩) (n - 1) (c - 1)) (intsV l) (n - 1) := by
  rcases k with ⟨_, h1, _⟩ | ⟨i, o, c, ds, h1, h2, h3, h4, h5, h6, h7⟩
  · cases h1
  · have h8 := congrArg List.length h5
    simp at h6 h8
    refine ⟨i, o, c, h3, by omega, h2, h1, by rw [h4]; rfl, .inr ⟨i, o + 1, c - 1, ds, h1, by omega, rfl, h4, ?_, by simp; omega, by omega⟩⟩
    rw [← List.drop_drop, h5]
    rfl
theorem ipop_ok {h : VH} {q : Nat} {most : Int} {v : Value} {l : List Int} (k : QI h q most v l) :
    PCalls Try.prog f_fair_Queue_int_Pop [.pointer (some ⟨q, 0, none⟩)] h (fun u h' => u = .tuple #[.int .i64 (l.head?.getD 0), .bool (!l.isEmpty)] ∧ ∃ v', QI h' q most v' l.tail ∧ Fr h h' [q] ∧ ∀ y ∈ idOf v', y ∈ idOf v) := by
  refine PCalls_of_pw st_fair_Queue_int_Pop (by simp [n_fair_Queue_int_Pop]) ?_
  rw [b_fair_Queue_int_Pop]
  have hq := k.rec_
  have hlq := k.lt
  simp (disch := first | omega | (simp only [VH.n_push, VH.n_set]; done) | (simp only [VH.n_push, VH.n_set]; omega)) [B_fair_Queue_int_Pop]
  refine (ipeek_ok k).mono ?_
  rintro u h' ⟨rfl, rfl⟩
  cases l with
  | nil =>
    simp (disch := first | omega | (simp only [VH.n_push, VH.n_set]; done) | (simp only [VH.n_push, VH.n_set]; omega)) [r_fair_Queue_int_Pop]
    exact ⟨v, k, Fr.refl _ _, fun y hy => hy⟩
  | cons x l =>
    have hnq := k.nq
    obtain ⟨i, o, c, rfl, h0, hc, hil, hez, ho⟩ := OwnSl.tail1 k.own
    obtain ⟨n, hn⟩ : ∃ n, n = (x :: l).length := ⟨_, rfl⟩
    rw [← hn] at hq h0 hc ho hnq
    rw [← hn]
    have hnI : (1 : Int) ≤ (n : Int) := by omega
    simp (disch := first | omega | (simp only [VH.n_push, VH.n_set]; done) | (simp only [VH.n_push, VH.n_set]; omega)) [r_fair_Queue_int_Pop, hq, li_1, hez, h0, hnI, hc, si_1]
    have F1 : Fr h' (h'.set q (.cells [.int .i64 most, .slice (some ⟨i, o + 1, none⟩) (n - 1) (c - 1)] true 1)) [q] := Fr.set _ _ (by simp)
    refine ⟨.slice (some ⟨i, o + 1, none⟩) (n - 1) (c - 1), ⟨hlq, VH.get_set_same .., ?_, hnq⟩, F1, fun y hy => hy⟩
    have e1 : l.length = n - 1 := by rw [hn]; simp
    rw [e1]
    exact ho.fr F1 (fun y hy hyq => by simp at hyq; subst hyq; exact hnq hy)
theorem idrop_ok {h : VH} {q : Nat} {most : Int} {v : Value} {l : List Int} (k : QI h q most v l) :
    PCalls Try.prog f_fair_Queue_int_Drop [.pointer (some ⟨q, 0, none⟩)] h (fun u h' => u = .int .i64 (l.length : Int) ∧ ∃ v', QI h' q most v' [] ∧ Fr h h' [q] ∧ ∀ y ∈ idOf v', y ∈ idOf v) := by
  refine PCalls_of_pw st_fair_Queue_int_Drop (by simp [n_fair_Queue_int_Drop]) ?_
  rw [b_fair_Queue_int_Drop]
  have hq := k.rec_
  have hlq := k.lt
  simp (disch := first | omega | (simp only [VH.n_push, VH.n_set]; done) | (simp only [VH.n_push, VH.n_set]; omega)) [B_fair_Queue_int_Drop]
  refine (ilen_ok k).mono ?_
  rintro u h' ⟨rfl, rfl⟩
  cases l with
  | nil =>
    simp (disch := first | omega | (simp only [VH.n_push, VH.n_set]; done) | (simp only [VH.n_push, VH.n_set]; omega)) [r_fair_Queue_int_Drop]
    exact ⟨v, k, Fr.refl _ _, fun y hy => hy⟩
  | cons x l =>
    obtain ⟨n, hn⟩ : ∃ n, n = (x :: l).length := ⟨_, rfl⟩
    rw [← hn]
    have hp : 0 < n := by rw [hn]; simp
    have hpI : (0 : Int) < (n : Int) := by omega
    obtain ⟨a, c, rfl⟩ := k.own.shapeN
    simp (disch := first | omega | (simp only [VH.n_push, VH.n_set]; done) | (simp only [VH.n_push, VH.n_set]; omega)) [r_fair_Queue_int_Drop, hp, hpI, hq, si_1]
    exact ⟨.slice none 0 0, ⟨hlq, VH.get_set_same .., OwnSl.nil _ _, by simp [idOf]⟩, Fr.set _ _ (by simp), by simp [idOf]⟩
theorem iclone_ok {h : VH} {v : Value} {l : List Int} (k : OwnSl h 1 v (intsV l) l.length) (hb : l.length ≤ 1000) :
    PCalls Try.prog f_slices_Clone_int_int [v] h (fun u h' => OwnSl h' 1 u (intsV l) l.length ∧ Fr h h' [] ∧ ∀ y ∈ idOf u, h.n ≤ y) := by
  refine PCalls_of_pw st_slices_Clone_int_int (by simp [n_slices_Clone_int_int]) ?_
  rw [b_slices_Clone_int_int]
  have hsrc := k.src
  rcases k with ⟨rfl, h1, h2⟩ | ⟨i, o, c, ds, h1, h2, rfl, h4, h5, h6, h7⟩
  · simp (disch := first | omega | (simp only [VH.n_push, VH.n_set]; done) | (simp only [VH.n_push, VH.n_set]; omega)) [r_slices_Clone_int_int, B_slices_Clone_int_int]
    have : l = [] := List.eq_nil_of_length_eq_zero h2
    subst this
    exact ⟨OwnSl.nil _ _, Fr.refl _ _, by simp [idOf]⟩
  · obtain ⟨n, hn⟩ : ∃ n, n = l.length := ⟨_, rfl⟩
    rw [← hn] at h2 hsrc hb
    rw [← hn]
    obtain ⟨g1, hg1⟩ : ∃ g1, g1 = h.push (.cells [] true 1) := ⟨_, rfl⟩
    have F1 : Fr h g1 [] := by rw [hg1]; exact Fr_push (Fr.refl _ _)
    have n1 : g1.n = h.n + 1 := by rw [hg1]; rfl
    have ow1 : OwnSl g1 1 (.slice (some ⟨h.n, 0, none⟩) 0 0) [] 0 := .inr ⟨h.n, 0, 0, [], by omega, Nat.le_refl _, rfl, by rw [hg1, VH.get_push_new], rfl, rfl, Nat.le_refl _⟩
    obtain ⟨v', g2, hap, ho2, hf2, hid⟩ := ow1.append (bytes := 8) (ys := intsV l) (k := n) (by simp [hn]) (by omega)
    have hi1 : g1.get i = .cells ds true 1 := (F1.get i h1 (by simp)).trans h4
    have hro : rowObj (.cells ds true 1) o n = some (intsV l) := by
      have h8 := congrArg List.length h5
      simp at h8
      simp only [rowObj]
      rw [if_pos (by omega), h5, List.take_of_length_le (by simp; omega)]
    simp (disch := first | omega | (simp only [VH.n_push, VH.n_set]; done) | (simp only [VH.n_push, VH.n_set]; omega)) [r_slices_Clone_int_int, B_slices_Clone_int_int, fillC, ← hg1, hi1, hro, Option.bind_some, hap]
    rw [List.nil_append, Nat.zero_add] at ho2
    refine ⟨ho2, F1.trans' hf2 (fun y hy => by simp [idOf] at hy; omega), fun y hy => ?_⟩
    rcases hid y hy with h1 | h1
    · simp [idOf] at h1; omega
    · omega
theorem iall_ok {h : VH} {q : Nat} {most : Int} {v : Value} {l : List Int} (k : QI h q most v l) (hb : l.length ≤ 1000) :
    PCalls Try.prog f_fair_Queue_int_All [.pointer (some ⟨q, 0, none⟩)] h (fun u h' => OwnSl h' 1 u (intsV l) l.length ∧ Fr h h' [] ∧ ∀ y ∈ idOf u, h.n ≤ y) := by
  refine PCalls_of_pw st_fair_Queue_int_All (by simp [n_fair_Queue_int_All]) ?_
  rw [b_fair_Queue_int_All]
  have hq := k.rec_
  simp (disch := first | omega | (simp only [VH.n_push, VH.n_set]; done) | (simp only [VH.n_push, VH.n_set]; omega)) [B_fair_Queue_int_All, hq, li_1]
  refine (iclone_ok k.own hb).mono ?_
  rintro u h' ⟨h1, h2, h3⟩
  simp (disch := first | omega | (simp only [VH.n_push, VH.n_set]; done) | (simp only [VH.n_push, VH.n_set]; omega)) [r_fair_Queue_int_All]
  exact ⟨h1, h2, h3⟩
/-- a place of an owned row is written. -/
theorem OwnSl.put1 {h : VH} {v : Value} {l : List Int} {n : Nat} (k : OwnSl h 1 v (intsV l) n) {j : Nat} (hj : j < l.length) (x : Int) :
    ∃ i o c ds, v = .slice (some ⟨i, o, none⟩) n c ∧ i < h.n ∧ h.get i = .cells ds true 1 ∧ loadObj (.cells ds true 1) (o + j) none = some (.int .i64 l[j]) ∧ storeObj (.cells ds true 1) (o + j) 1 (.int .i64 x) = some (.cells (wr ds (o + j) [.int .i64 x]) true 1) ∧
      ∀ g, g.n = h.n → (∀ y ∈ idOf v, g.get y = .cells (wr ds (o + j) [.int .i64 x]) true 1) → OwnSl g 1 v (intsV (l.set j x)) n := by
  obtain ⟨i, o, c, ds, h1, h2, h3, h4, h5, h6, h7⟩ := OwnSl.at1 k hj
  refine ⟨i, o, c, ds, h1, h4, h5, h6, ?_, fun g hn hg => ?_⟩
  · simp only [storeObj, cellsL_int]
    rw [if_pos ⟨rfl, by omega, rfl⟩]
  · rcases k with ⟨e, _, _⟩ | ⟨i', o', c', ds', k1, k2, k3, k4, k5, k6, k7⟩
    · rw [h1] at e; cases e
    · rw [h1] at k3
      injection k3 with k3 _ k3c
      injection k3 with k3
      injection k3 with k3a k3b
      subst k3a k3b k3c
      rw [h5] at k4
      injection k4 with k4
      subst k4
      have hg' := hg i (by rw [h1]; simp [idOf])
      refine .inr ⟨i, o, c, wr ds (o + j) [.int .i64 x], by omega, k2, h1, hg', ?_, ?_, ?_⟩
      · rw [wr_one h7]
        rw [List.drop_set, if_neg (by omega), k5, show o + j - o = j by omega]
        simp [intsV, List.map_set]
      · simp at k6 ⊢; exact k6
      · rw [wr_one h7]; simp; exact k7

/-- the queue at h.n, and a list of one's own, hold the same. -/
structure QJ (h : VH) (most : Int) (l : List Int) (v w : Value) (g : VH) : Prop where
  fr : Fr h g []
  q : QI g h.n most v l
  own : OwnSl g 1 w (intsV l) l.length
  q1 : h.n ∉ idOf w
  q2 : ∀ y ∈ idOf v, h.n < y ∧ y ∉ idOf w
  q3 : ∀ y ∈ idOf w, h.n < y
theorem QJ.fr0 {h g g' : VH} {most : Int} {l : List Int} {v w : Value} (k : QJ h most l v w g) (hf : Fr g g' []) : QJ h most l v w g' :=
  ⟨k.fr.trans hf, k.q.fr0 hf, k.own.fr hf (fun _ _ => by simp), k.q1, k.q2, k.q3⟩
theorem QJ.other {h g g' : VH} {most : Int} {l : List Int} {v w : Value} (k : QJ h most l v w g) {i : Nat} (hf : Fr g g' [i]) (h1 : h.n < i) (h2 : i ∉ idOf v) (h3 : i ∉ idOf w) : QJ h most l v w g' :=
  ⟨k.fr.trans' hf (fun y hy => by simp at hy; omega), k.q.fr hf (by simp; omega) (fun y hy hyi => by simp at hyi; subst hyi; exact h2 hy), k.own.fr hf (fun y hy hyi => by simp at hyi; subst hyi; exact h3 hy), k.q1, k.q2, k.q3⟩
def rep99 (l : List Int) (k : Nat) : List Int := List.replicate k 99 ++ l.drop k
theorem rep99_len {l : List Int} {k : Nat} (hk : k ≤ l.length) : (rep99 l k).length = l.length := by simp [rep99]; omega
theorem rep99_at {l : List Int} {k : Nat} (hk : k < l.length) : ∃ h, (rep99 l k)[k]'h = l[k] := by
  refine ⟨by rw [rep99_len (by omega)]; exact hk, ?_⟩
  simp [rep99, List.getElem_append_right]
theorem rep99_set {l : List Int} {k : Nat} (hk : k < l.length) : (rep99 l k).set k 99 = rep99 l (k + 1) := by
  unfold rep99
  rw [List.set_append_right _ _ (by simp), List.length_replicate, Nat.sub_self, List.drop_eq_getElem_cons hk, List.set_cons_zero, List.replicate_succ']
  simp
set_option maxHeartbeats 4000000 in
theorem queues_ok' {h : VH} {most : Int} {v0 : Value} {sc : List Int} (hv : RowsAt h 1 v0 (sc.map fun x => [.int .i64 x])) (hx : ∀ x ∈ sc, i64B x) (hlen : sc.length ≤ 1048576) :
    PCalls Try.prog f_law20_FairQueues [.int .i64 most, v0] h (fun u _ => u = .bool true) := by
  refine PCalls_of_pw st_law20_FairQueues (by simp [n_law20_FairQueues]) ?_
  rw [b_law20_FairQueues]
  by_cases hm : most < 1
  · simp (disch := first | omega | (simp only [VH.n_push, VH.n_set]; done) | (simp only [VH.n_push, VH.n_set]; omega)) [B_law20_FairQueues]
    refine (inew_nil hm).mono ?_
    rintro u g ⟨rfl, rfl⟩
    simp (disch := first | omega | (simp only [VH.n_push, VH.n_set]; done) | (simp only [VH.n_push, VH.n_set]; omega)) [hm]
    refine (known_ok _).mono ?_
    rintro u g ⟨rfl, rfl⟩
    simp (disch := first | omega | (simp only [VH.n_push, VH.n_set]; done) | (simp only [VH.n_push, VH.n_set]; omega)) [r_law20_FairQueues]
  simp (disch := first | omega | (simp only [VH.n_push, VH.n_set]; done) | (simp only [VH.n_push, VH.n_set]; omega)) [B_law20_FairQueues]
  refine (inew_ok (by omega)).mono ?_
  rintro u g0 ⟨rfl, Q0, F0⟩
  obtain ⟨va, vc, rfl⟩ := hv.shape
  obtain ⟨L, hL⟩ : ∃ L, L = (sc.map fun x => [Value.int .i64 x]).length := ⟨_, rfl⟩
  have hLs : L = sc.length := by rw [hL]; simp
  rw [← hL] at hv ⊢
  simp (disch := first | omega | (simp only [VH.n_push, VH.n_set]; done) | (simp only [VH.n_push, VH.n_set]; omega)) [hm]
  refine pw_loopN (fun n s g => ∃ l v a c, s 0 = .int .i64 most ∧ s 1 = .slice va L vc ∧ s 5 = .pointer (some ⟨h.n, 0, none⟩) ∧ s 6 = .slice a l.length c ∧ s 7 = .int .i64 (n : Int) ∧ l.length ≤ n ∧
    QJ h most l v (.slice a l.length c) g) (min L 200) ?_ ?_
  · exact ⟨[], .slice none 0 0, none, 0, by simp [upd_apply, s0_apply], by simp [upd_apply, s0_apply], by simp [upd_apply], by simp [upd_apply], by simp [upd_apply], by simp, F0, Q0, OwnSl.nil _ _, by simp [idOf], by simp [idOf], by simp [idOf]⟩
  rintro n s g hn ⟨l, v, a, c, e0, e1, e5, e6, e7, hln, J⟩
  have F := J.fr
  have hsz : sc.length = L := hLs.symm
  by_cases hlt : n < L ∧ n < 200
  case neg =>
    by_cases hnL : n < L
    · have h2 : ¬ n < 200 := fun h2 => hlt ⟨hnL, h2⟩
      have hnLI : (n : Int) < (L : Int) := by omega
      have h2I : ¬ (n : Int) < 200 := by omega
      simp (disch := first | omega | (simp only [VH.n_push, VH.n_set]; done) | (simp only [VH.n_push, VH.n_set]; omega)) [e1, e7, hnL, hnLI, h2, h2I]
      refine (known_ok _).mono ?_
      rintro u g ⟨rfl, rfl⟩
      simp (disch := first | omega | (simp only [VH.n_push, VH.n_set]; done) | (simp only [VH.n_push, VH.n_set]; omega)) [r_law20_FairQueues]
    · have hnLI : ¬ (n : Int) < (L : Int) := by omega
      simp (disch := first | omega | (simp only [VH.n_push, VH.n_set]; done) | (simp only [VH.n_push, VH.n_set]; omega)) [e1, e7, hnL, hnLI]
      refine (known_ok _).mono ?_
      rintro u g ⟨rfl, rfl⟩
      simp (disch := first | omega | (simp only [VH.n_push, VH.n_set]; done) | (simp only [VH.n_push, VH.n_set]; omega)) [r_law20_FairQueues]
  obtain ⟨hnL, h200⟩ := hlt
  have hnLI : (n : Int) < (L : Int) := by omega
  have h200I : (n : Int) < 200 := by omega
  obtain ⟨i1, o1, rfl, hi1, hez, hla, hl1⟩ := (hv.fr0 F).at_ (k := n) (by simp; omega)
  obtain ⟨x, hxd⟩ : ∃ x, x = sc[n]'(by omega) := ⟨_, rfl⟩
  have hld := hl1 (.int .i64 x) (by rw [hxd]; simp)
  rw [Nat.mul_one] at hld
  have hrow : n < min L 200 := by omega
  have hkk : IntKind.i64.wrap ((n : Int) + 1) = ((n + 1 : Nat) : Int) := by rw [i64_small (by omega) (by omega)]; omega
  obtain ⟨N, hN⟩ : ∃ N, N = l.length := ⟨_, rfl⟩
  simp (disch := first | omega | (simp only [VH.n_push, VH.n_set]; done) | (simp only [VH.n_push, VH.n_set]; omega)) [e0, e1, e5, e6, e7, hnL, hnLI, h200, h200I, hez, hld]
  generalize hKK : kBlock 2 _ = KK
  have tail : ∀ (l' : List Int) (v' : Value) (a' : Option Addr) (c' : Nat) (s' : Slots) (g' : VH), s' 0 = .int .i64 most → s' 1 = .slice (some ⟨i1, o1, none⟩) L vc → s' 5 = .pointer (some ⟨h.n, 0, none⟩) → s' 6 = .slice a' l'.length c' → s' 7 = .int .i64 (n : Int) → l'.length ≤ n + 1 →
      QJ h most l' v' (.slice a' l'.length c') g' → KK .normal s' g' := by
    intro l' v' a' c' s' g' f0 f1 f5 f6 f7 hl' J'
    rw [← hKK]
    simp (disch := first | omega | (simp only [VH.n_push, VH.n_set]; done) | (simp only [VH.n_push, VH.n_set]; omega)) [f5]
    refine (iall_ok J'.q (by omega)).mono ?_
    rintro u g1 ⟨O1, F1, id1⟩
    have J1 := J'.fr0 F1
    obtain ⟨b, d, rfl⟩ := O1.shapeN
    simp (disch := first | omega | (simp only [VH.n_push, VH.n_set]; done) | (simp only [VH.n_push, VH.n_set]; omega)) [f5]
    refine (ilen_ok J1.q).mono ?_
    rintro u g1 ⟨rfl, rfl⟩
    obtain ⟨M, hM⟩ : ∃ M, M = l'.length := ⟨_, rfl⟩
    rw [← hM] at O1 J1 f6 id1 hl' ⊢
    have hne : ((M : Int) != (M : Int)) = false := by simp
    simp (disch := first | omega | (simp only [VH.n_push, VH.n_set]; done) | (simp only [VH.n_push, VH.n_set]; omega)) [f6, hne]
    refine pw_loopN (fun k s2 g2 => s2 0 = .int .i64 most ∧ s2 1 = .slice (some ⟨i1, o1, none⟩) L vc ∧ s2 5 = .pointer (some ⟨h.n, 0, none⟩) ∧ s2 6 = .slice a' M c' ∧ s2 7 = .int .i64 (n : Int) ∧ s2 14 = .slice b M d ∧ s2 15 = .int .i64 (k : Int) ∧
      QJ h most l' v' (.slice a' M c') g2 ∧ OwnSl g2 1 (.slice b M d) (intsV (rep99 l' k)) M ∧ g'.n ≤ g2.n) M ?_ ?_
    · refine ⟨by simp [upd_apply, f0], by simp [upd_apply, f1], by simp [upd_apply, f5], by simp [upd_apply, f6], by simp [upd_apply, f7], by simp [upd_apply], by simp [upd_apply], J1, by simpa [rep99] using O1, F1.n⟩
    rintro k s2 g2 hk ⟨x0, x1, x5, x6, x7, x14, x15, J2, O2, n2⟩
    by_cases hkM : k < M
    · have hkI : (k : Int) < (M : Int) := by omega
      obtain ⟨hkl, hre⟩ := rep99_at (l := l') (k := k) (by omega)
      obtain ⟨i2, o2, c2, ds2, hv2, hi2, hg2, hl2, hs2, hput⟩ := OwnSl.put1 O2 (j := k) hkl 99
      injection hv2 with hv2 _ hv2c
      subst hv2
      subst hv2c
      have O3 := J2.own
      rw [← hM] at O3
      obtain ⟨i3, o3, c3, ds3, hv3, hk3, _, hi3, hg3, hl3, _⟩ := OwnSl.at1 O3 (j := k) (by omega)
      injection hv3 with hv3 _ hv3c
      subst hv3
      subst hv3c
      rw [hre] at hl2
      have hez2 : eszObj (.cells ds2 true 1) 1 = true := rfl
      have hez3 : eszObj (.cells ds3 true 1) 1 = true := rfl
      have hnn : (l'[k]'(by omega) != l'[k]'(by omega)) = false := by simp
      have hk2 : IntKind.i64.wrap ((k : Int) + 1) = ((k + 1 : Nat) : Int) := by rw [i64_small (by omega) (by omega)]; omega
      simp (disch := first | omega | (simp only [VH.n_push, VH.n_set]; done) | (simp only [VH.n_push, VH.n_set]; omega)) [x6, x14, x15, hkM, hkI, hg2, hez2, hl2, hg3, hez3, hl3, hnn, hs2, hk2]
      have hi2n := id1 i2 (by simp [idOf])
      refine ⟨x0, x1, x5, x7, ?_, ?_⟩
      · refine J2.other (i := i2) (Fr.set _ _ (by simp)) ?_ (fun hy => ?_) (fun hy => ?_)
        · have := J'.q.lt; omega
        · have := J'.q.own.lt _ hy; omega
        · have := J'.own.lt _ hy; omega
      · rw [rep99_set (by omega)] at hput
        exact ⟨hput _ rfl (fun y hy => by simp [idOf] at hy; subst hy; exact VH.get_set_same ..), n2⟩
    · have hkI : ¬ (k : Int) < (M : Int) := by omega
      simp (disch := first | omega | (simp only [VH.n_push, VH.n_set]; done) | (simp only [VH.n_push, VH.n_set]; omega)) [x6, x7, x15, hkM, hkI, hkk]
      exact ⟨hrow, x0, x1, x5, l', v', a', c', ⟨rfl, hM, rfl⟩, by omega, by rw [← hM]; exact J2⟩
  clear hKK
  rw [← hN] at e6 hln
  have hNl : l.length = N := hN.symm
  have h1000 : l.length ≤ 1000 := by omega
  refine ⟨fun hp => ?_, fun hp => ?_⟩
  · by_cases hfl : most ≤ (N : Int)
    · refine (ipush_full J.q (x := x) (by rw [← hN]; exact hfl)).mono ?_
      rintro u g ⟨rfl, rfl⟩
      simp (disch := first | omega | (simp only [VH.n_push, VH.n_set]; done) | (simp only [VH.n_push, VH.n_set]; omega)) [e0, e6, hfl]
      exact tail l v a c _ _ (by simp [upd_apply, e0]) (by simp [upd_apply, e1]) (by simp [upd_apply, e5]) (by simp [upd_apply, e6, hNl]) (by simp [upd_apply, e7]) (by omega) J
    · refine (ipush_ok J.q (x := x) (by rw [← hN]; omega) h1000).mono ?_
      rintro u g1 ⟨rfl, v', Q1, F1, id1⟩
      have hlq := J.q.lt
      have hvl := J.q.own.lt
      have hwl := J.own.lt
      obtain ⟨g2, hg2⟩ : ∃ g2, g2 = g1.push (.cells [.int .i64 x] true 1) := ⟨_, rfl⟩
      have F2 : Fr g1 g2 [] := by rw [hg2]; exact Fr_push (Fr.refl _ _)
      have n1 := F1.n
      have n2 : g2.n = g1.n + 1 := by rw [hg2]; rfl
      have r2 : g2.get g1.n = .cells [.int .i64 x] true 1 := by rw [hg2, VH.get_push_new]
      have hq1 := J.q1
      have hq2 := J.q2
      have hq3 := J.q3
      have O1 : OwnSl g1 1 (.slice a l.length c) (intsV l) l.length := J.own.fr F1 (fun y hy hyx => by
        simp at hyx
        rcases hyx with rfl | hyx
        · exact hq1 hy
        · exact (hq2 y hyx).2 hy)
      obtain ⟨w', g3, hap, O3, F3, id3⟩ := (O1.fr F2 (fun _ _ => by simp)).append (bytes := 8) (ys := [.int .i64 x]) (k := 1) rfl (by omega)
      obtain ⟨p, c3, rfl⟩ := O3.shapeN
      rw [hNl] at hap O3 id3
      have hfi : fillC [.int .i64 0] [(0, 1, .int .i64 x)] = some [.int .i64 x] := rfl
      have hone : [Value.int .i64 x].all Value.oneCell' = true := rfl
      have hro : rowObj (.cells [.int .i64 x] true 1) 0 1 = some [.int .i64 x] := rfl
      simp (disch := first | omega | (simp only [VH.n_push, VH.n_set]; done) | (simp only [VH.n_push, VH.n_set]; omega)) [e0, e6, hfl, hfi, hone, ← hg2, hro, r2, Option.bind_some, hap]
      have n3 := F3.n
      have hw3 : ∀ y ∈ idOf (.slice p (N + 1) c3), y ∈ idOf (.slice a l.length c) ∨ g1.n ≤ y := fun y hy => (id3 y hy).imp (fun h => by rw [hNl]; exact h) (fun h => by omega)
      have hv' : ∀ y ∈ idOf v', h.n < y ∧ y ∉ idOf (.slice a l.length c) ∧ y < g1.n := fun y hy => by
        have := Q1.own.lt y hy
        rcases id1 y hy with h1 | h1
        · exact ⟨(hq2 y h1).1, (hq2 y h1).2, this⟩
        · exact ⟨by omega, fun hx => by have := hwl y hx; omega, this⟩
      refine tail (l ++ [x]) v' p c3 _ _ (by simp [upd_apply, e0]) (by simp [upd_apply, e1]) (by simp [upd_apply, e5]) (by simp [upd_apply, hNl]) (by simp [upd_apply, e7]) (by simp; omega) ?_
      have hll : (l ++ [x]).length = N + 1 := by simp [hNl]
      rw [hll]
      have Q3 : QI g3 h.n most v' (l ++ [x]) := by
        refine (Q1.fr0 F2).fr (X := idOf (.slice a l.length c)) F3 hq1 (fun y hy => (hv' y hy).2.1)
      refine ⟨?_, Q3, ?_, ?_, ?_, ?_⟩
      · refine ((J.fr.trans' F1 (fun y hy => ?_)).trans F2).trans' F3 (fun y hy => ?_)
        · simp at hy
          rcases hy with rfl | hy
          · exact .inr (Nat.le_refl _)
          · exact .inr (by have := (hq2 y hy).1; omega)
        · exact .inr (by have := hq3 y hy; omega)
      · rw [intsV_append, hll]; exact O3
      · intro hx
        rcases hw3 _ hx with h1 | h1
        · exact hq1 h1
        · omega
      · intro y hy
        refine ⟨(hv' y hy).1, fun hx => ?_⟩
        rcases hw3 y hx with h1 | h1
        · exact (hv' y hy).2.1 h1
        · have := (hv' y hy).2.2; omega
      · intro y hy
        rcases hw3 y hy with h1 | h1
        · exact hq3 y h1
        · omega
  · by_cases h7 : x = -7
    · have h7b : (x == -7) = true := by simp [h7]
      simp (disch := first | omega | (simp only [VH.n_push, VH.n_set]; done) | (simp only [VH.n_push, VH.n_set]; omega)) [h7b, e5]
      refine (idrop_ok J.q).mono ?_
      rintro u g1 ⟨rfl, v', Q1, F1, id1⟩
      have hne : ((N : Int) != (N : Int)) = false := by simp
      rw [hNl]
      simp (disch := first | omega | (simp only [VH.n_push, VH.n_set]; done) | (simp only [VH.n_push, VH.n_set]; omega)) [e6, hne]
      have F01 : Fr h g1 [] := J.fr.trans' F1 (fun y hy => by simp at hy; omega)
      exact tail [] v' none 0 _ _ (by simp [upd_apply, e0]) (by simp [upd_apply, e1]) (by simp [upd_apply, e5]) (by simp [upd_apply]) (by simp [upd_apply, e7]) (by simp) ⟨F01, Q1, OwnSl.nil _ _, by simp [idOf], fun y hy => ⟨(J.q2 y (id1 y hy)).1, by simp [idOf]⟩, by simp [idOf]⟩
    · have h7b : (x == -7) = false := by simp [h7]
      simp (disch := first | omega | (simp only [VH.n_push, VH.n_set]; done) | (simp only [VH.n_push, VH.n_set]; omega)) [h7b, e5]
      refine (ipeek_ok J.q).mono ?_
      rintro u g ⟨rfl, rfl⟩
      simp (disch := first | omega | (simp only [VH.n_push, VH.n_set]; done) | (simp only [VH.n_push, VH.n_set]; omega)) [e5]
      refine (ipop_ok J.q).mono ?_
      rintro u g1 ⟨rfl, v', Q1, F1, id1⟩
      have F01 : Fr h g1 [] := J.fr.trans' F1 (fun y hy => by simp at hy; omega)
      have O1 := J.own.fr F1 (fun y hy hyx => by simp at hyx; subst hyx; exact J.q1 hy)
      cases l with
      | nil =>
        have hN0 : N = 0 := by rw [hN]; rfl
        subst hN0
        simp (disch := first | omega | (simp only [VH.n_push, VH.n_set]; done) | (simp only [VH.n_push, VH.n_set]; omega)) [e6]
        exact tail [] v' a c _ _ (by simp [upd_apply, e0]) (by simp [upd_apply, e1]) (by simp [upd_apply, e5]) (by simp [upd_apply, e6]) (by simp [upd_apply, e7]) (by simp) ⟨F01, Q1, O1, J.q1, fun y hy => ⟨(J.q2 y (id1 y hy)).1, (J.q2 y (id1 y hy)).2⟩, J.q3⟩
      | cons y l =>
        have hN0 : (0 : Int) < (N : Int) := by rw [hN]; simp
        have hN0' : 0 < N := by omega
        have hN1 : (1 : Int) ≤ (N : Int) := by omega
        have hN1' : 1 ≤ N := by omega
        obtain ⟨i3, o3, c3, hv3, _, hc3, hi3, hez3, O3⟩ := OwnSl.tail1 O1
        obtain ⟨i4, o4, c4, ds4, hv4, _, _, _, hg4, hl4, _⟩ := OwnSl.at1 O1 (j := 0) (by simp)
        injection hv3 with hv3 _ hv3c
        subst hv3
        subst hv3c
        injection hv4 with hv4 _ _
        injection hv4 with hv4
        injection hv4 with hv4a hv4b
        subst hv4a
        subst hv4b
        rw [hNl] at hc3 O3
        have hld4 : loadObj (g1.get i3) o3 none = some (.int .i64 y) := by rw [hg4]; exact hl4
        have hyy : (y != y) = false := by simp
        simp (disch := first | omega | (simp only [VH.n_push, VH.n_set]; done) | (simp only [VH.n_push, VH.n_set]; omega)) [e6, hN0, hN0', hN1, hN1', hez3, hld4, hyy, hc3]
        have e1' : l.length = N - 1 := by rw [hN]; simp
        refine tail l v' (some ⟨i3, o3 + 1, none⟩) (c - 1) _ _ (by simp [upd_apply, e0]) (by simp [upd_apply, e1]) (by simp [upd_apply, e5]) (by simp [upd_apply, e1']) (by simp [upd_apply, e7]) (by omega) ?_
        rw [e1']
        exact ⟨F01, Q1, by rw [e1']; exact O3, J.q1, fun z hz => ⟨(J.q2 z (id1 z hz)).1, (J.q2 z (id1 z hz)).2⟩, J.q3⟩
theorem queues_law {h : VH} {us : List Value} {k : Nat} (H : ShA h [.int .i64, .sl 1 (.int .i64)] us k) (hk : k ≤ 1048576) :
    PCalls Try.prog f_law20_FairQueues us h (fun u h' => u = .bool true ∧ h' = h) := by
  obtain ⟨v, r, k1, k2, rfl, h1, ⟨v2, r2, k3, k4, rfl, h2, ⟨rfl, _⟩, h6⟩, h7⟩ := H
  obtain ⟨m, hm, _⟩ := Sh.i64 (h := h) h1
  injection hm with hm _
  subst hm
  obtain ⟨sc, s1, s2, s3⟩ := Sh.ints (h := h) h2
  exact ((queues_ok' s1.ro s2 (by omega)).mono fun u _ e => by subst e; exact ⟨rfl, rfl⟩).drop
end Go.Proofs.Ytnnljhcpkkpniaa.Fa
