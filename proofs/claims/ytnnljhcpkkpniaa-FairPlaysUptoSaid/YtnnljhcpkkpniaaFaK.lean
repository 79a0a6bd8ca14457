/- fair, part K: fixed calls; what there is not. -/
import Derived.Test.YtnnljhcpkkpniaaFaE
import Derived.Test.YtnnljhcpkkpniaaPmLs
import Derived.Test.YtnnljhcpkkpniaaFsB
import Derived.Test.YtnnljhcpkkpniaaPmSa
set_option linter.unusedVariables false
set_option linter.unusedSimpArgs false
set_option maxRecDepth 100000
namespace Go.Proofs.Ytnnljhcpkkpniaa.Fa
open Go Go.RowKit Go.Proofs.Ytnnljhcpkkpniaa.Pm Go.Proofs.Ytnnljhcpkkpniaa.Fs
attribute [local simp] pw_skip pw_ops pw_quiet pw_seq pw_cond pw_block pw_exit pw_ret pw_scope pw_label kSeq_normal kSeq_ret kSeq_exit kBlock_normal kBlock_ret kBlock_exit kScope_normal kScope_ret kScope_exit kLoop_normal kLoop_ret kLoop_exit kCond_true kCond_false kCond_dec pwOps_nil pwOps_call pwOps_guard kStep_some kCall_at pwQ_nil pwQ_call pwQ_guard kQ_some putS_some putS_none upd_apply ev_t ev_k isB_bool isB_undef s0_apply pstep pwO_mov pwO_pick pwO_nilck pwO_bin pwO_binB pwO_eqNil pwO_un pwO_convI pwO_convS pwO_alloc pwO_build pwO_load pwO_store pwO_fieldAddr pwO_field pwO_idxS pwO_idxA pwO_idxV pwO_strAt pwO_lenStr pwO_lenS pwO_lenC pwO_slS pwO_slA pwO_slStr pwO_extract pwO_mkFunc pwO_mkIface pwO_append pwO_appendStr pwO_toBytes pwO_ofB pwO_box pwO_row pwO_minmax pwO_eqV pwO_sameB pwR_mov pwR_pick pwR_nilck pwR_bin pwR_binB pwR_eqNil pwR_un pwR_convI pwR_convS pwR_build pwR_load pwR_fieldAddr pwR_field pwR_idxS pwR_idxA pwR_idxV pwR_strAt pwR_lenStr pwR_lenS pwR_lenC pwR_slS pwR_slA pwR_slStr pwR_extract pwR_mkFunc pwR_mkIface pwR_ofB pwR_minmax pwR_eqV ret_r ret_n kRet_some resV0 resV1 resV2 resV3 resV4 VH.get_push_new VH.get_set_same VH.n_push VH.n_set cellsL_agg cellsL_int cellsL_bool cellsL_string cellsL_slice cellsL_pointer cellsL_map pw_draw pwD_nil pwD_cons kD_nil kD_cons evalOK_plain evalOK_guard kEv_some dstIs_some dstIs_none pw_goto pw_scopeL kSeq_goto kBlock_goto kLoop_goto kScopeL_normal kScopeL_ret kScopeL_exit kScopeL_goto pwOps_callv kCallv_fn kCallv_yld pwOps_nextM pwO_makeMap pwO_lookup pwR_lookup pwO_mapSet pwO_mapDel pwO_lenM pwR_lenM pwO_mapEntry pwO_entrySet pwO_rangeS pwO_nextS pwO_rangeM pwO_entryM pwR_entryM pwO_copyV pwO_makeSl pwO_asrt pwR_asrt kStep_if kStep_dif kQ_if kQ_dif kEv_if bound_none bound_some toNat_add' toNat_sub' toNat_mul' kLoopN_normal kLoopN_ret kLoopN_exit kLoopN_goto Option.map_some Option.map_none loadAt_obj storeAt_obj rowOf_obj eszIs_obj eszObj_cells loadObj_tab storeObj_tab_int VH.get_set_ne VH.get_push_lt VH.set_set tab_length List.getElem?_cons_zero List.getElem?_cons_succ List.length_cons List.length_nil oneC_int oneC_bool oneC_string oneC_slice oneC_pointer oneC_map srcCells_at srcCells_nil VH.get_push_at isNilV pw_drawT pwT_nil pwT_step pwT_alt kT_nil kT_cons pun pbinS pbin pbinI i64_small IntKind.bits resV resL resOne gI gM gT gF gN gNT gNF dI dM dT dF

theorem hso : SortsS Try.prog f_slices_Sort_string_string := sortsS
/-! ### fixed calls -/
def kA : Sc := (setS (setS sc0 [97] 1).2 [98] 2).2
def kP : Sc := (pushS (pushS (pushS kA [97] ⟨1, 2⟩).2 [98] ⟨2, 2⟩).2 [98] ⟨3, 2⟩).2
def kS : Nat → Sc
  | 0 => kP
  | n + 1 => (stepS (kS n)).2
def kN : Nat → Int
  | 0 => 0 | 1 => 0 | 2 => 1 | 3 => 1 | 4 => 12 | 5 => 12 | _ => 123
theorem kA_ok : OkS 0 kA := setS_ok (setS_ok sc0_ok _ _) _ _
theorem kP_ok : OkS 2162160000 kP := by
  have h1 := pushS_ok kA_ok [97] ⟨1, 2⟩
  have h2 := pushS_ok h1 [98] ⟨2, 2⟩
  have h3 := pushS_ok h2 [98] ⟨3, 2⟩
  exact h3.mono (by decide)
theorem kS_ok : ∀ n, OkS 2162160000 (kS n)
  | 0 => kP_ok
  | n + 1 => stepS_ok (kS_ok n)
theorem kO : (stepS (kS 0)).1 = ⟨[97], ⟨1, 2⟩, false, true⟩ ∧ (stepS (kS 1)).1 = ⟨[97], ⟨1, 2⟩, true, true⟩ ∧ (stepS (kS 2)).1 = ⟨[98], ⟨2, 2⟩, false, true⟩ ∧ (stepS (kS 3)).1 = ⟨[98], ⟨2, 2⟩, true, true⟩ ∧
    (stepS (kS 4)).1 = ⟨[98], ⟨3, 2⟩, false, true⟩ ∧ (stepS (kS 5)).1 = ⟨[98], ⟨3, 2⟩, true, true⟩ := by decide +kernel
theorem SchP.sch {h h' : VH} {i : Nat} {S : Sc} {X : List Nat} (k : SchP h i X S h') : ∃ X', Sch h' i S X' ∧ Mv h h' X X' := k

set_option maxHeartbeats 4000000 in
theorem known_ok' {h : VH} : PCalls Try.prog f_law20_known [] h (fun u _ => u = .bool true) := by
  refine PCalls_of_pw st_law20_known (by simp [n_law20_known]) ?_
  rw [b_law20_known]
  simp (disch := first | omega | (simp only [VH.n_push, VH.n_set]; done) | (simp only [VH.n_push, VH.n_set]; omega)) [B_law20_known]
  refine new_ok.mono ?_
  rintro u h1 ⟨i, X0, rfl, K0, M0⟩
  have ea : (⟨#[97]⟩ : ByteArray) = strB [97] := rfl
  have eb : (⟨#[98]⟩ : ByteArray) = strB [98] := rfl
  simp (disch := first | omega | (simp only [VH.n_push, VH.n_set]; done) | (simp only [VH.n_push, VH.n_set]; omega)) []
  refine (set_ok K0 sc0_ok.ord (nm := [97]) (w := 1)).mono ?_
  rintro u h2 ⟨rfl, X1, K1, M1⟩
  simp (disch := first | omega | (simp only [VH.n_push, VH.n_set]; done) | (simp only [VH.n_push, VH.n_set]; omega)) []
  refine (set_ok K1 (setS_ok sc0_ok _ _).ord (nm := [98]) (w := 2)).mono ?_
  rintro u h3 ⟨rfl, X2, K2, M2⟩
  have f1 : fillC [.int .i64 0, .int .i64 0] [(0, 1, .int .i64 1), (1, 1, .int .i64 2)] = some [.int .i64 1, .int .i64 2] := rfl
  have f2 : fillC [.int .i64 0, .int .i64 0] [(0, 1, .int .i64 2), (1, 1, .int .i64 2)] = some [.int .i64 2, .int .i64 2] := rfl
  have f3 : fillC [.int .i64 0, .int .i64 0] [(0, 1, .int .i64 3), (1, 1, .int .i64 2)] = some [.int .i64 3, .int .i64 2] := rfl
  simp (disch := first | omega | (simp only [VH.n_push, VH.n_set]; done) | (simp only [VH.n_push, VH.n_set]; omega)) [f1]
  refine (push_ok K2 kA_ok (by decide) (nm := [97]) (q := ⟨1, 2⟩)).mono ?_
  rintro u h4 ⟨rfl, X3, K3, M3⟩
  simp (disch := first | omega | (simp only [VH.n_push, VH.n_set]; done) | (simp only [VH.n_push, VH.n_set]; omega)) [f2]
  refine (push_ok K3 (pushS_ok kA_ok [97] ⟨1, 2⟩) (by decide) (nm := [98]) (q := ⟨2, 2⟩)).mono ?_
  rintro u h5 ⟨rfl, X4, K4, M4⟩
  simp (disch := first | omega | (simp only [VH.n_push, VH.n_set]; done) | (simp only [VH.n_push, VH.n_set]; omega)) [f3]
  refine (push_ok K4 (pushS_ok (pushS_ok kA_ok [97] ⟨1, 2⟩) [98] ⟨2, 2⟩) (by decide) (nm := [98]) (q := ⟨3, 2⟩)).mono ?_
  rintro u h6 ⟨rfl, X5, K5, M5⟩
  have K5' : Sch h6 i (kS 0) X5 := K5
  simp (disch := first | omega | (simp only [VH.n_push, VH.n_set]; done) | (simp only [VH.n_push, VH.n_set]; omega)) []
  refine pw_loopN (fun n s g => (∃ X, Sch g i (kS n) X) ∧ s 1 = .pointer (some ⟨i, 0, none⟩) ∧ s 2 = .int .i64 (kN n) ∧ s 3 = .int .i64 ((n + 1 : Nat) : Int)) 6 ?_ ?_
  · exact ⟨⟨_, K5'⟩, by simp [upd_apply, s0_apply], by simp [upd_apply, s0_apply]; rfl, by simp [upd_apply, s0_apply]⟩
  rintro n s g hn ⟨⟨X, K⟩, e1, e2, e3⟩
  obtain ⟨o0, o1, o2, o3, o4, o5⟩ := kO
  have sA : ∀ (q : Jb), storeObj (.cells [.int .i64 0, .int .i64 0] true 1) 0 2 (jbV q) = some (.cells [.int .i64 q.id, .int .i64 q.cost] true 1) := fun q => rfl
  by_cases h6 : n = 6
  · subst h6
    have hk : kN 6 = 123 := rfl
    simp (disch := first | omega | (simp only [VH.n_push, VH.n_set]; done) | (simp only [VH.n_push, VH.n_set]; omega)) [r_law20_known, e1, e2, e3, hk]
  have hlt : (n : Int) + 1 ≤ 6 := by omega
  have hlt2 : n + 1 ≤ 6 := by omega
  have hkk : IntKind.i64.wrap ((n : Int) + 1 + 1) = ((n : Int) + 1 + 1) := by rw [i64_small (by omega) (by omega)]
  simp (disch := first | omega | (simp only [VH.n_push, VH.n_set]; done) | (simp only [VH.n_push, VH.n_set]; omega)) [e1, e3, hlt, hlt2]
  refine (step_ok hso K (kS_ok n)).mono ?_
  rintro u g' ⟨rfl, X', K', M'⟩
  have K6 : ∃ X, Sch g' i (kS (n + 1)) X := ⟨X', K'⟩
  have K7 : ∀ x y, ∃ X, Sch ((g'.push x).set g'.n y) i (kS (n + 1)) X := fun x y => ⟨X', K'.fr0 (Fr_set (Fr_push (Fr.refl _ _)) (Nat.le_refl _))⟩
  have hn6 : n < 6 := by omega
  have hc : n = 0 ∨ n = 1 ∨ n = 2 ∨ n = 3 ∨ n = 4 ∨ n = 5 := by omega
  rcases hc with rfl | rfl | rfl | rfl | rfl | rfl
  · rw [o0]
    simp (disch := first | omega | (simp only [VH.n_push, VH.n_set]; done) | (simp only [VH.n_push, VH.n_set]; omega)) [outV, sA, e1, e2, e3, lA_0, kN]
    exact K7 _ _
  · rw [o1]
    simp (disch := first | omega | (simp only [VH.n_push, VH.n_set]; done) | (simp only [VH.n_push, VH.n_set]; omega)) [outV, sA, e1, e2, e3, lA_0, kN]
    exact K7 _ _
  · rw [o2]
    simp (disch := first | omega | (simp only [VH.n_push, VH.n_set]; done) | (simp only [VH.n_push, VH.n_set]; omega)) [outV, sA, e1, e2, e3, lA_0, kN]
    exact K7 _ _
  · rw [o3]
    simp (disch := first | omega | (simp only [VH.n_push, VH.n_set]; done) | (simp only [VH.n_push, VH.n_set]; omega)) [outV, sA, e1, e2, e3, lA_0, kN]
    exact K7 _ _
  · rw [o4]
    simp (disch := first | omega | (simp only [VH.n_push, VH.n_set]; done) | (simp only [VH.n_push, VH.n_set]; omega)) [outV, sA, e1, e2, e3, lA_0, kN]
    exact K7 _ _
  · rw [o5]
    simp (disch := first | omega | (simp only [VH.n_push, VH.n_set]; done) | (simp only [VH.n_push, VH.n_set]; omega)) [outV, sA, e1, e2, e3, lA_0, kN]
    exact K7 _ _
theorem known_ok (h : VH) : PCalls Try.prog f_law20_known [] h (fun u h' => u = .bool true ∧ h' = h) :=
  (known_ok'.mono fun u _ e => by subst e; exact ⟨rfl, rfl⟩).drop

/-! ### what there is not -/
theorem qpushNil {h : VH} {x : Int} : PCalls Try.prog f_fair_Queue_int_Push [.pointer none, .int .i64 x] h (fun u h' => u = .int .i64 2 ∧ h' = h) := by
  refine PCalls_of_pw st_fair_Queue_int_Push (by simp [n_fair_Queue_int_Push]) ?_
  rw [b_fair_Queue_int_Push]
  simp (disch := first | omega | (simp only [VH.n_push, VH.n_set]; done) | (simp only [VH.n_push, VH.n_set]; omega)) [r_fair_Queue_int_Push, B_fair_Queue_int_Push]
theorem qlenNil {h : VH} : PCalls Try.prog f_fair_Queue_int_Len [.pointer none] h (fun u h' => u = .int .i64 0 ∧ h' = h) := by
  refine PCalls_of_pw st_fair_Queue_int_Len (by simp [n_fair_Queue_int_Len]) ?_
  rw [b_fair_Queue_int_Len]
  simp (disch := first | omega | (simp only [VH.n_push, VH.n_set]; done) | (simp only [VH.n_push, VH.n_set]; omega)) [r_fair_Queue_int_Len, B_fair_Queue_int_Len]
theorem qpeekNil {h : VH} : PCalls Try.prog f_fair_Queue_int_Peek [.pointer none] h (fun u h' => u = .tuple #[.int .i64 0, .bool false] ∧ h' = h) := by
  refine PCalls_of_pw st_fair_Queue_int_Peek (by simp [n_fair_Queue_int_Peek]) ?_
  rw [b_fair_Queue_int_Peek]
  simp (disch := first | omega | (simp only [VH.n_push, VH.n_set]; done) | (simp only [VH.n_push, VH.n_set]; omega)) [r_fair_Queue_int_Peek, B_fair_Queue_int_Peek]
theorem qpopNil {h : VH} : PCalls Try.prog f_fair_Queue_int_Pop [.pointer none] h (fun u h' => u = .tuple #[.int .i64 0, .bool false] ∧ h' = h) := by
  refine PCalls_of_pw st_fair_Queue_int_Pop (by simp [n_fair_Queue_int_Pop]) ?_
  rw [b_fair_Queue_int_Pop]
  simp (disch := first | omega | (simp only [VH.n_push, VH.n_set]; done) | (simp only [VH.n_push, VH.n_set]; omega)) [B_fair_Queue_int_Pop]
  refine qpeekNil.mono ?_
  rintro u h' ⟨rfl, rfl⟩
  simp (disch := first | omega | (simp only [VH.n_push, VH.n_set]; done) | (simp only [VH.n_push, VH.n_set]; omega)) [r_fair_Queue_int_Pop]
theorem qallNil {h : VH} : PCalls Try.prog f_fair_Queue_int_All [.pointer none] h (fun u h' => u = .slice none 0 0 ∧ h' = h) := by
  refine PCalls_of_pw st_fair_Queue_int_All (by simp [n_fair_Queue_int_All]) ?_
  rw [b_fair_Queue_int_All]
  simp (disch := first | omega | (simp only [VH.n_push, VH.n_set]; done) | (simp only [VH.n_push, VH.n_set]; omega)) [r_fair_Queue_int_All, B_fair_Queue_int_All]
theorem qdropNil {h : VH} : PCalls Try.prog f_fair_Queue_int_Drop [.pointer none] h (fun u h' => u = .int .i64 0 ∧ h' = h) := by
  refine PCalls_of_pw st_fair_Queue_int_Drop (by simp [n_fair_Queue_int_Drop]) ?_
  rw [b_fair_Queue_int_Drop]
  simp (disch := first | omega | (simp only [VH.n_push, VH.n_set]; done) | (simp only [VH.n_push, VH.n_set]; omega)) [B_fair_Queue_int_Drop]
  refine qlenNil.mono ?_
  rintro u h' ⟨rfl, rfl⟩
  simp (disch := first | omega | (simp only [VH.n_push, VH.n_set]; done) | (simp only [VH.n_push, VH.n_set]; omega)) [r_fair_Queue_int_Drop]
theorem setNil {h : VH} {nm : ByteArray} {w : Int} : PCalls Try.prog f_fair_Sched_Set [.pointer none, .string nm, .int .i64 w] h (fun u h' => u = .int .i64 2 ∧ h' = h) := by
  refine PCalls_of_pw st_fair_Sched_Set (by simp [n_fair_Sched_Set]) ?_
  rw [b_fair_Sched_Set]
  simp (disch := first | omega | (simp only [VH.n_push, VH.n_set]; done) | (simp only [VH.n_push, VH.n_set]; omega)) [r_fair_Sched_Set, B_fair_Sched_Set]
theorem pushNil' {h : VH} {nm : ByteArray} {a b : Int} : PCalls Try.prog f_fair_Sched_Push [.pointer none, .string nm, .agg #[.int .i64 a, .int .i64 b]] h (fun u h' => u = .int .i64 2) := by
  refine PCalls_of_pw st_fair_Sched_Push (by simp [n_fair_Sched_Push]) ?_
  rw [b_fair_Sched_Push]
  simp (disch := first | omega | (simp only [VH.n_push, VH.n_set]; done) | (simp only [VH.n_push, VH.n_set]; omega)) [r_fair_Sched_Push, B_fair_Sched_Push]
theorem pushNil {h : VH} {nm : ByteArray} {a b : Int} : PCalls Try.prog f_fair_Sched_Push [.pointer none, .string nm, .agg #[.int .i64 a, .int .i64 b]] h (fun u h' => u = .int .i64 2 ∧ h' = h) :=
  (pushNil'.mono fun u _ e => by subst e; exact ⟨rfl, rfl⟩).drop
theorem stepNil {h : VH} : PCalls Try.prog f_fair_Sched_Step [.pointer none] h (fun u h' => u = .tuple #[.string ⟨#[]⟩, .agg #[.int .i64 0, .int .i64 0], .bool false, .bool false] ∧ h' = h) := by
  refine PCalls.drop ?_
  refine PCalls_of_pw st_fair_Sched_Step (by simp [n_fair_Sched_Step]) ?_
  rw [b_fair_Sched_Step]
  have hfi2 : fillC [.int .i64 0, .int .i64 0] [] = some [.int .i64 0, .int .i64 0] := rfl
  have hst2 : ∀ a b z, storeObj (.cells [a, b] true z) 0 2 (.agg #[.int .i64 0, .int .i64 0]) = some (.cells [.int .i64 0, .int .i64 0] true z) := fun _ _ _ => rfl
  simp (disch := first | omega | (simp only [VH.n_push, VH.n_set]; done) | (simp only [VH.n_push, VH.n_set]; omega)) [r_fair_Sched_Step, B_fair_Sched_Step, hfi2, hst2, l2_A]
  rfl
theorem weightsNil {h : VH} : PCalls Try.prog f_fair_Sched_Weights [.pointer none] h (fun u h' => u = .tuple #[.int .i64 0, .int .i64 0] ∧ h' = h) := by
  refine PCalls_of_pw st_fair_Sched_Weights (by simp [n_fair_Sched_Weights]) ?_
  rw [b_fair_Sched_Weights]
  simp (disch := first | omega | (simp only [VH.n_push, VH.n_set]; done) | (simp only [VH.n_push, VH.n_set]; omega)) [r_fair_Sched_Weights, B_fair_Sched_Weights]
theorem waitingNil {h : VH} {nm : ByteArray} : PCalls Try.prog f_fair_Sched_Waiting [.pointer none, .string nm] h (fun u h' => u = .int .i64 0 ∧ h' = h) := by
  refine PCalls_of_pw st_fair_Sched_Waiting (by simp [n_fair_Sched_Waiting]) ?_
  rw [b_fair_Sched_Waiting]
  simp (disch := first | omega | (simp only [VH.n_push, VH.n_set]; done) | (simp only [VH.n_push, VH.n_set]; omega)) [r_fair_Sched_Waiting, B_fair_Sched_Waiting]
theorem aheadNil {h : VH} {nm : ByteArray} : PCalls Try.prog f_fair_Sched_Ahead [.pointer none, .string nm] h (fun u h' => u = .int .i64 0 ∧ h' = h) := by
  refine PCalls_of_pw st_fair_Sched_Ahead (by simp [n_fair_Sched_Ahead]) ?_
  rw [b_fair_Sched_Ahead]
  simp (disch := first | omega | (simp only [VH.n_push, VH.n_set]; done) | (simp only [VH.n_push, VH.n_set]; omega)) [r_fair_Sched_Ahead, B_fair_Sched_Ahead]
theorem dropNil {h : VH} : PCalls Try.prog f_fair_Sched_Drop [.pointer none] h (fun u h' => u = .int .i64 0 ∧ h' = h) := by
  refine PCalls_of_pw st_fair_Sched_Drop (by simp [n_fair_Sched_Drop]) ?_
  rw [b_fair_Sched_Drop]
  simp (disch := first | omega | (simp only [VH.n_push, VH.n_set]; done) | (simp only [VH.n_push, VH.n_set]; omega)) [r_fair_Sched_Drop, B_fair_Sched_Drop]
/-- Op: Kind, Tenant, Weight, J. -/
def opL (k : Int) (nm : ByteArray) (w a b : Int) : List Value := [.int .i64 k, .string nm, .int .i64 w, .int .i64 a, .int .i64 b]
set_option maxHeartbeats 4000000 in
theorem nil_ok' {h : VH} {k w a b : Int} {nm : ByteArray} : PCalls Try.prog f_law20_FairNil [.agg (opL k nm w a b).toArray] h (fun u _ => u = .bool true) := by
  refine PCalls_of_pw st_law20_FairNil (by simp [n_law20_FairNil]) ?_
  rw [b_law20_FairNil]
  have hone : (opL k nm w a b).all Value.oneCell' = true := rfl
  obtain ⟨g0, hg0⟩ : ∃ g0, g0 = h.push (.cells (opL k nm w a b) true 1) := ⟨_, rfl⟩
  have o0 : g0.get h.n = .cells (opL k nm w a b) true 1 := by rw [hg0, VH.get_push_new]
  have n0 : g0.n = h.n + 1 := by rw [hg0]; rfl
  have l1 : loadObj (.cells (opL k nm w a b) true 1) 1 none = some (.string nm) := rfl
  have l3 : loadObj (.cells (opL k nm w a b) true 1) 3 (some 2) = some (.agg #[.int .i64 a, .int .i64 b]) := rfl
  simp (disch := first | omega | (simp only [VH.n_push, VH.n_set]; done) | (simp only [VH.n_push, VH.n_set]; omega)) [B_law20_FairNil, hone, ← hg0]
  refine qpopNil.mono ?_
  rintro u g ⟨rfl, rfl⟩
  simp (disch := first | omega | (simp only [VH.n_push, VH.n_set]; done) | (simp only [VH.n_push, VH.n_set]; omega)) []
  refine qpeekNil.mono ?_
  rintro u g ⟨rfl, rfl⟩
  simp (disch := first | omega | (simp only [VH.n_push, VH.n_set]; done) | (simp only [VH.n_push, VH.n_set]; omega)) []
  refine stepNil.mono ?_
  rintro u g ⟨rfl, rfl⟩
  have hst2 : ∀ a b z, storeObj (.cells [a, b] true z) 0 2 (.agg #[.int .i64 0, .int .i64 0]) = some (.cells [.int .i64 0, .int .i64 0] true z) := fun _ _ _ => rfl
  obtain ⟨g1, hg1⟩ : ∃ g1, g1 = (g.push (.cells [.int .i64 0, .int .i64 0] true 1)).set g.n (.cells [.int .i64 0, .int .i64 0] true 1) := ⟨_, rfl⟩
  have o1 : g1.get g.n = .cells [.int .i64 0, .int .i64 0] true 1 := by rw [hg1, VH.get_set_same]
  have p1 : g1.get h.n = .cells (opL k nm w a b) true 1 := by rw [hg1, VH.get_set_ne _ _ (by omega), VH.get_push_lt _ _ (by omega)]; exact o0
  have hge : g.n = h.n + 1 := n0
  simp (disch := first | omega | (simp only [VH.n_push, VH.n_set]; done) | (simp only [VH.n_push, VH.n_set]; omega)) [hst2, ← hg1]
  refine weightsNil.mono ?_
  rintro u g1 ⟨rfl, rfl⟩
  simp (disch := first | omega | (simp only [VH.n_push, VH.n_set]; done) | (simp only [VH.n_push, VH.n_set]; omega)) []
  refine qpushNil.mono ?_
  rintro u g1 ⟨rfl, rfl⟩
  simp (disch := first | omega | (simp only [VH.n_push, VH.n_set]; done) | (simp only [VH.n_push, VH.n_set]; omega)) []
  refine qlenNil.mono ?_
  rintro u g1 ⟨rfl, rfl⟩
  simp (disch := first | omega | (simp only [VH.n_push, VH.n_set]; done) | (simp only [VH.n_push, VH.n_set]; omega)) []
  refine qallNil.mono ?_
  rintro u g1 ⟨rfl, rfl⟩
  simp (disch := first | omega | (simp only [VH.n_push, VH.n_set]; done) | (simp only [VH.n_push, VH.n_set]; omega)) []
  refine qdropNil.mono ?_
  rintro u g1 ⟨rfl, rfl⟩
  simp (disch := first | omega | (simp only [VH.n_push, VH.n_set]; done) | (simp only [VH.n_push, VH.n_set]; omega)) [p1, l1]
  refine setNil.mono ?_
  rintro u g1 ⟨rfl, rfl⟩
  simp (disch := first | omega | (simp only [VH.n_push, VH.n_set]; done) | (simp only [VH.n_push, VH.n_set]; omega)) [p1, l1, l3]
  refine pushNil.mono ?_
  rintro u g1 ⟨rfl, rfl⟩
  have hsz : ((ByteArray.mk #[]).toList == (ByteArray.mk #[]).toList) = true := by rw [show (ByteArray.mk #[]) = strB [] from rfl, strB_toList]; rfl
  have hf0 : fillC [.int .i64 0, .int .i64 0] [] = some [.int .i64 0, .int .i64 0] := rfl
  have hfk : fitsK [.i .i64, .i .i64] [.int .i64 0, .int .i64 0] = true := rfl
  have hcb : cellsB [.int .i64 0, .int .i64 0] [.int .i64 0, .int .i64 0] = true := rfl
  simp (disch := first | omega | (simp only [VH.n_push, VH.n_set]; done) | (simp only [VH.n_push, VH.n_set]; omega)) [hsz, o1, l2_A, hf0, hfk, hcb, p1, l1]
  refine waitingNil.mono ?_
  rintro u g1 ⟨rfl, rfl⟩
  simp (disch := first | omega | (simp only [VH.n_push, VH.n_set]; done) | (simp only [VH.n_push, VH.n_set]; omega)) [p1, l1]
  refine aheadNil.mono ?_
  rintro u g1 ⟨rfl, rfl⟩
  simp (disch := first | omega | (simp only [VH.n_push, VH.n_set]; done) | (simp only [VH.n_push, VH.n_set]; omega)) []
  refine dropNil.mono ?_
  rintro u g1 ⟨rfl, rfl⟩
  simp (disch := first | omega | (simp only [VH.n_push, VH.n_set]; done) | (simp only [VH.n_push, VH.n_set]; omega)) []
  refine (known_ok _).mono ?_
  rintro u g1 ⟨rfl, rfl⟩
  simp (disch := first | omega | (simp only [VH.n_push, VH.n_set]; done) | (simp only [VH.n_push, VH.n_set]; omega)) [r_law20_FairNil]
end Go.Proofs.Ytnnljhcpkkpniaa.Fa
