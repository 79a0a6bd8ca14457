/- slots, part M: fixed calls; what there is not. -/
import Derived.Test.YtoenamablkkocaaSlL
import Derived.Test.YtoenamablkkocaaPmSa
import Derived.Test.YtoenamablkkocaaPmSb
set_option linter.unusedVariables false
set_option linter.unusedSimpArgs false
set_option maxRecDepth 100000
namespace Go.Proofs.Ytoenamablkkocaa.Sl
open Go Go.RowKit Go.Proofs.Ytoenamablkkocaa.Pm Go.Proofs.Ytoenamablkkocaa.Fs Go.Proofs.Ytoenamablkkocaa.Fa
attribute [-simp] BitVec.toNat_or BitVec.toNat_xor BitVec.toNat_add BitVec.toNat_and BitVec.toNat_not BitVec.toNat_shiftLeft BitVec.toNat_ushiftRight

theorem twithin_known {h : VH} {i : Nat} {T : Tb} {Z : List Nat} (K : TbAt h i T Z) (ok : OkTb T) (hnm : namesT T = [[97], [98]]) (hsl : T.sl = 0) (hah : aheadT T [98] = 0) :
    PCalls Try.prog f_slots_Table_Within [.pointer (some ⟨i, 0, none⟩), .string (strB [98]), .int .i64 2] h (fun u h' => u = .tuple #[.int .i64 4, .int .i64 0] ∧ Fr h h' []) := by
  refine PCalls_of_pw st_slots_Table_Within (by simp [n_slots_Table_Within]) ?_
  rw [b_slots_Table_Within]
  have K0 := K
  obtain ⟨s, jr, jw, v, rs, X, rfl, k⟩ := K
  have hi := k.rec_
  have hli := k.lti
  have hns := k.nms
  have hlen : T.ts.length = 2 := by
    have := congrArg List.length hnm
    simpa [namesT] using this
  rw [hnm, hlen] at hns
  have hslI : ((T.sl : Nat) : Int) = 0 := by omega
  obtain ⟨va, vc, rfl⟩ := hns.shapeN
  simp (disch := first|omega|(simp only [np,ns];try omega)) [B_slots_Table_Within, hi, ta_2]
  refine (bsearch_ok hns rfl (by omega) (by decide) (x := [98])).mono ?_
  rintro u g ⟨rfl, hg⟩
  rw [hg]
  have hlow : ((lowS [98] [[97], [98]] : Nat) : Int) = 1 := by decide
  have hmem : decide (([98] : List UInt8) ∈ [[97], [98]]) = true := by decide
  rw [hlow, hmem]
  simp (disch := first|omega|(simp only [np,ns];try omega)) [hi, ta_2]
  refine (tahead_ok K0 ok (by omega) (nm := [98])).mono ?_
  rintro u g2 ⟨rfl, F⟩
  rw [hah]
  have hi2 := (F.get i hli (by simp)).trans hi
  have hr : ((0 : Int).tmod 2) = 0 := by decide
  have hr2 : ((3 : Int).tmod 2) = 1 := by decide
  have hd2 : ((2 : Int) == 0) = false := by decide
  simp (disch := first|omega|(simp only [np,ns];try omega)) [r_slots_Table_Within, hi2, ta_0, ta_2, ta_5, hslI, hr, hr2, hd2]
  exact F
def kA : Tb := (setT tb0 [97] 1).2
def kB : Tb := (setT kA [98] 1).2
def kT : Nat → Tb
  | 0 => (pushT kB [98] ⟨7, 2⟩).2
  | n + 1 => (stepT (kT n)).2
theorem kA_ok : OkTb kA := setT_ok tb0_ok _ _
theorem kB_ok : OkTb kB := setT_ok kA_ok _ _
theorem kT_ok : ∀ n, OkTb (kT n)
  | 0 => pushT_ok kB_ok _ _
  | n + 1 => stepT_ok (kT_ok n)
theorem kT_sl : ∀ n, (kT n).sl = n
  | 0 => by decide +kernel
  | n + 1 => by show (stepT (kT n)).2.sl = _; rw [stepT_sl, kT_sl n]
theorem kO : (stepT (kT 0)).1 = ⟨0, [97], job0, false, false⟩ ∧ (stepT (kT 1)).1 = ⟨1, [98], ⟨7, 2⟩, false, true⟩ ∧ (stepT (kT 2)).1 = ⟨2, [97], job0, false, false⟩ ∧ (stepT (kT 3)).1 = ⟨3, [98], ⟨7, 2⟩, true, true⟩ :=
  ⟨rfl, rfl, rfl, rfl⟩
set_option maxHeartbeats 4000000 in
theorem known_ok' {h : VH} : PCalls Try.prog f_law21_known [] h (fun u _ => u = .bool true) := by
  refine PCalls_of_pw st_law21_known (by simp [n_law21_known]) ?_
  rw [b_law21_known]
  simp (disch := first|omega|(simp only [np,ns];try omega)) [B_law21_known]
  refine tnew_ok.mono ?_
  rintro u h1 ⟨i, Z0, rfl, K0, M0⟩
  have ea : (⟨#[97]⟩ : ByteArray) = strB [97] := rfl
  have eb : (⟨#[98]⟩ : ByteArray) = strB [98] := rfl
  rw [eb, ea]
  simp (disch := first|omega|(simp only [np,ns];try omega)) []
  refine (tset_ok K0 tb0_ok rfl (nm := [97]) (w := 1)).mono ?_
  rintro u h2 ⟨rfl, Z1, K1, M1⟩
  simp (disch := first|omega|(simp only [np,ns];try omega)) []
  refine (tset_ok K1 kA_ok rfl (nm := [98]) (w := 1)).mono ?_
  rintro u h3 ⟨rfl, Z2, K2, M2⟩
  simp (disch := first|omega|(simp only [np,ns];try omega)) []
  refine (twithin_known K2 kB_ok rfl rfl rfl).mono ?_
  rintro u h4 ⟨rfl, F4⟩
  have K4 : TbAt h4 i kB Z2 := TbAt.fr0 K2 F4
  have f1 : fillC [.int .i64 0, .int .i64 0] [(0, 1, .int .i64 7), (1, 1, .int .i64 2)] = some [.int .i64 7, .int .i64 2] := rfl
  simp (disch := first|omega|(simp only [np,ns];try omega)) [f1]
  refine (tpush_ok K4 kB_ok (nm := [98]) (q := ⟨7, 2⟩)).mono ?_
  rintro u h5 ⟨rfl, Z3, K5, M5⟩
  have K5' : TbAt h5 i (kT 0) Z3 := K5
  simp (disch := first|omega|(simp only [np,ns];try omega)) []
  refine pw_loopN (fun n s g => (∃ Z, TbAt g i (kT n) Z) ∧ s 1 = .pointer (some ⟨i, 0, none⟩) ∧ s 2 = .int .i64 4 ∧ s 3 = .int .i64 0 ∧ s 4 = .int .i64 (n : Int)) 4 ?_ ?_
  · exact ⟨⟨_, K5'⟩, by simp [upd_apply, s0_apply], by simp [upd_apply, s0_apply], by simp [upd_apply, s0_apply], by simp [upd_apply, s0_apply]⟩
  rintro n s g hn ⟨⟨Z, K⟩, e1, e2, e3, e4⟩
  obtain ⟨o0, o1, o2, o3⟩ := kO
  by_cases h4 : n = 4
  · subst h4
    simp (disch := first|omega|(simp only [np,ns];try omega)) [e1, e2, e3, e4]
    refine (twait_ok K (kT_ok 4) (nm := [98])).mono ?_
    rintro u g' ⟨rfl, hg⟩
    have hw0 : ((waitT (kT 4) [98] : Nat) : Int) = 0 := rfl
    rw [hw0]
    simp (disch := first|omega|(simp only [np,ns];try omega)) [r_law21_known]
  have hlt : (n : Int) < 4 := by omega
  have hlt2 : n < 4 := by omega
  have hkk : IntKind.i64.wrap ((n : Int) + 1) = ((n : Int) + 1) := by rw [i64_small (by omega) (by omega)]
  simp (disch := first|omega|(simp only [np,ns];try omega)) [e1, e4, hlt, hlt2]
  refine (tstep_ok K (kT_ok n) (by rw [kT_sl]; omega)).mono ?_
  rintro u g' ⟨rfl, Z', K', M'⟩
  have K6 : ∀ o, ∃ Z, TbAt ((g'.push (.cells zS true 1)).set g'.n o) i (kT (n + 1)) Z := fun o => ⟨Z', TbAt.fr0 K' (Fr_set (Fr_push (Fr.refl _ _)) (Nat.le_refl _))⟩
  have hc : n = 0 ∨ n = 1 ∨ n = 2 ∨ n = 3 := by omega
  have r0 : ((0 : Int).tmod 2) = 0 := by decide
  have r1 : ((1 : Int).tmod 2) = 1 := by decide
  have r2 : ((2 : Int).tmod 2) = 0 := by decide
  have r3 : ((3 : Int).tmod 2) = 1 := by decide
  have hd2 : ((2 : Int) == 0) = false := by decide
  have l0 : ∀ o : Sv, loadObj (.cells (svL o) true 1) 0 none = some (.int .i64 (o.slot : Int)) := fun o => rfl
  have l4 : ∀ o : Sv, loadObj (.cells (svL o) true 1) 4 none = some (.bool o.done) := fun o => rfl
  rcases hc with rfl | rfl | rfl | rfl
  · rw [o0]
    simp (disch := first|omega|(simp only [np,ns];try omega)) [zs_A, e1, e2, e3, e4, sv_5, l0, l4, r0, r1, r2, r3, hd2]
    exact K6 _
  · rw [o1]
    simp (disch := first|omega|(simp only [np,ns];try omega)) [zs_A, e1, e2, e3, e4, sv_5, l0, l4, r0, r1, r2, r3, hd2]
    exact K6 _
  · rw [o2]
    simp (disch := first|omega|(simp only [np,ns];try omega)) [zs_A, e1, e2, e3, e4, sv_5, l0, l4, r0, r1, r2, r3, hd2]
    exact K6 _
  · rw [o3]
    simp (disch := first|omega|(simp only [np,ns];try omega)) [zs_A, e1, e2, e3, e4, sv_5, l0, l4, r0, r1, r2, r3, hd2]
    exact K6 _
theorem known_ok (h : VH) : PCalls Try.prog f_law21_known [] h (fun u h' => u = .bool true ∧ h' = h) :=
  (known_ok'.mono fun u _ e => by subst e; exact ⟨rfl, rfl⟩).drop

/-! ### what there is not -/
section
variable {h : VH} {nm : ByteArray} {w a b c : Int}
theorem n_within : PCalls Try.prog f_slots_Table_Within [.pointer none, .string nm, .int .i64 c] h (fun u h' => u = .tuple #[.int .i64 0, .int .i64 2] ∧ h' = h) := by
  refine PCalls_of_pw st_slots_Table_Within (by simp [n_slots_Table_Within]) ?_
  rw [b_slots_Table_Within]
  simp (disch := first|omega|(simp only [np,ns];try omega)) [r_slots_Table_Within, B_slots_Table_Within]
theorem n_set : PCalls Try.prog f_slots_Table_Set [.pointer none, .string nm, .int .i64 w] h (fun u h' => u = .int .i64 2 ∧ h' = h) := by
  refine PCalls_of_pw st_slots_Table_Set (by simp [n_slots_Table_Set]) ?_
  rw [b_slots_Table_Set]
  simp (disch := first|omega|(simp only [np,ns];try omega)) [r_slots_Table_Set, B_slots_Table_Set]
theorem n_push' : PCalls Try.prog f_slots_Table_Push [.pointer none, .string nm, .agg #[.int .i64 a, .int .i64 b]] h (fun u h' => u = .int .i64 2) := by
  refine PCalls_of_pw st_slots_Table_Push (by simp [n_slots_Table_Push]) ?_
  rw [b_slots_Table_Push]
  simp (disch := first|omega|(simp only [np,ns];try omega)) [r_slots_Table_Push, B_slots_Table_Push]
theorem n_push : PCalls Try.prog f_slots_Table_Push [.pointer none, .string nm, .agg #[.int .i64 a, .int .i64 b]] h (fun u h' => u = .int .i64 2 ∧ h' = h) :=
  (n_push'.mono fun u _ e => by subst e; exact ⟨rfl, rfl⟩).drop
theorem n_turn : PCalls Try.prog f_slots_Table_Turn [.pointer none] h (fun u h' => u = .string ⟨#[]⟩ ∧ h' = h) := by
  refine PCalls_of_pw st_slots_Table_Turn (by simp [n_slots_Table_Turn]) ?_
  rw [b_slots_Table_Turn]
  simp (disch := first|omega|(simp only [np,ns];try omega)) [r_slots_Table_Turn, B_slots_Table_Turn]
theorem n_slot : PCalls Try.prog f_slots_Table_Slot [.pointer none] h (fun u h' => u = .int .i64 0 ∧ h' = h) := by
  refine PCalls_of_pw st_slots_Table_Slot (by simp [n_slots_Table_Slot]) ?_
  rw [b_slots_Table_Slot]
  simp (disch := first|omega|(simp only [np,ns];try omega)) [r_slots_Table_Slot, B_slots_Table_Slot]
theorem n_wait : PCalls Try.prog f_slots_Table_Waiting [.pointer none, .string nm] h (fun u h' => u = .int .i64 0 ∧ h' = h) := by
  refine PCalls_of_pw st_slots_Table_Waiting (by simp [n_slots_Table_Waiting]) ?_
  rw [b_slots_Table_Waiting]
  simp (disch := first|omega|(simp only [np,ns];try omega)) [r_slots_Table_Waiting, B_slots_Table_Waiting]
theorem n_ahead : PCalls Try.prog f_slots_Table_Ahead [.pointer none, .string nm] h (fun u h' => u = .int .i64 0 ∧ h' = h) := by
  refine PCalls_of_pw st_slots_Table_Ahead (by simp [n_slots_Table_Ahead]) ?_
  rw [b_slots_Table_Ahead]
  simp (disch := first|omega|(simp only [np,ns];try omega)) [r_slots_Table_Ahead, B_slots_Table_Ahead]
theorem n_tenants : PCalls Try.prog f_slots_Table_Tenants [.pointer none] h (fun u h' => u = .slice none 0 0 ∧ h' = h) := by
  refine PCalls_of_pw st_slots_Table_Tenants (by simp [n_slots_Table_Tenants]) ?_
  rw [b_slots_Table_Tenants]
  simp (disch := first|omega|(simp only [np,ns];try omega)) [r_slots_Table_Tenants, B_slots_Table_Tenants]
theorem n_drop : PCalls Try.prog f_slots_Table_Drop [.pointer none] h (fun u h' => u = .int .i64 0 ∧ h' = h) := by
  refine PCalls_of_pw st_slots_Table_Drop (by simp [n_slots_Table_Drop]) ?_
  rw [b_slots_Table_Drop]
  simp (disch := first|omega|(simp only [np,ns];try omega)) [r_slots_Table_Drop, B_slots_Table_Drop]
theorem n_step' : PCalls Try.prog f_slots_Table_Step [.pointer none] h (fun u h' => u = .agg zS.toArray) := by
  refine PCalls_of_pw st_slots_Table_Step (by simp [n_slots_Table_Step]) ?_
  rw [b_slots_Table_Step]
  have hfi : fillC zS [] = some zS := rfl
  have hst : ∀ z, storeObj (.cells zS true z) 0 6 (.agg zS.toArray) = some (.cells zS true z) := fun _ => rfl
  have hld : ∀ z, loadObj (.cells zS true z) 0 (some 6) = some (.agg zS.toArray) := fun _ => rfl
  simp (disch := first|omega|(simp only [np,ns];try omega)) [r_slots_Table_Step, B_slots_Table_Step, hfi, hst, hld]
theorem n_step : PCalls Try.prog f_slots_Table_Step [.pointer none] h (fun u h' => u = .agg zS.toArray ∧ h' = h) :=
  (n_step'.mono fun u _ e => by subst e; exact ⟨rfl, rfl⟩).drop
theorem n_same' : PCalls Try.prog f_law21_same [.agg zS.toArray, .agg zS.toArray] h (fun u h' => u = .bool true) := by
  refine PCalls_of_pw st_law21_same (by simp [n_law21_same]) ?_
  rw [b_law21_same]
  have hone : zS.all Value.oneCell' = true := rfl
  have hone2 : zS.all Value.oneCell' = true := rfl
  have l0 : ∀ z, loadObj (.cells zS true z) 0 none = some (.int .i64 0) := fun _ => rfl
  have l1 : ∀ z, loadObj (.cells zS true z) 1 none = some (.string ⟨#[]⟩) := fun _ => rfl
  have l2 : ∀ z, loadObj (.cells zS true z) 2 (some 2) = some (.agg #[.int .i64 0, .int .i64 0]) := fun _ => rfl
  have l4 : ∀ z, loadObj (.cells zS true z) 4 none = some (.bool false) := fun _ => rfl
  have l5 : ∀ z, loadObj (.cells zS true z) 5 none = some (.bool false) := fun _ => rfl
  have hsz : ((ByteArray.mk #[]).toList == (ByteArray.mk #[]).toList) = true := by rw [show (ByteArray.mk #[]) = strB [] from rfl, strB_toList]; rfl
  have hfk : fitsK [.i .i64, .i .i64] [.int .i64 0, .int .i64 0] = true := rfl
  have hcb : cellsB [.int .i64 0, .int .i64 0] [.int .i64 0, .int .i64 0] = true := rfl
  simp (disch := first|omega|(simp only [np,ns];try omega)) [r_law21_same, B_law21_same, hone, l0, l1, l2, l4, l5, hsz, hfk, hcb]
theorem n_same : PCalls Try.prog f_law21_same [.agg zS.toArray, .agg zS.toArray] h (fun u h' => u = .bool true ∧ h' = h) :=
  (n_same'.mono fun u _ e => by subst e; exact ⟨rfl, rfl⟩).drop
end
/-- Op: Kind, Tenant, Weight, J. -/
def opL (k : Int) (nm : ByteArray) (w a b : Int) : List Value := [.int .i64 k, .string nm, .int .i64 w, .int .i64 a, .int .i64 b]
set_option maxHeartbeats 4000000 in
theorem nil_ok' {h : VH} {k w a b : Int} {nm : ByteArray} : PCalls Try.prog f_law21_SlotsNil [.agg (opL k nm w a b).toArray] h (fun u _ => u = .bool true) := by
  refine PCalls_of_pw st_law21_SlotsNil (by simp [n_law21_SlotsNil]) ?_
  rw [b_law21_SlotsNil]
  have hone : (opL k nm w a b).all Value.oneCell' = true := rfl
  obtain ⟨g0, hg0⟩ : ∃ g0, g0 = h.push (.cells (opL k nm w a b) true 1) := ⟨_, rfl⟩
  have o0 : g0.get h.n = .cells (opL k nm w a b) true 1 := by rw [hg0, VH.get_push_new]
  have l1 : loadObj (.cells (opL k nm w a b) true 1) 1 none = some (.string nm) := rfl
  have l3 : loadObj (.cells (opL k nm w a b) true 1) 3 (some 2) = some (.agg #[.int .i64 a, .int .i64 b]) := rfl
  have l4 : loadObj (.cells (opL k nm w a b) true 1) 4 none = some (.int .i64 b) := rfl
  have hfi : fillC zS [] = some zS := rfl
  simp (disch := first|omega|(simp only [np,ns];try omega)) [B_law21_SlotsNil, hone, ← hg0, o0, l1, l4]
  refine n_within.mono ?_
  rintro u g ⟨rfl, rfl⟩
  simp (disch := first|omega|(simp only [np,ns];try omega)) [o0, l1]
  refine n_set.mono ?_
  rintro u g ⟨rfl, rfl⟩
  simp (disch := first|omega|(simp only [np,ns];try omega)) [o0, l1, l3]
  refine n_push.mono ?_
  rintro u g ⟨rfl, rfl⟩
  simp (disch := first|omega|(simp only [np,ns];try omega)) []
  refine n_step.mono ?_
  rintro u g ⟨rfl, rfl⟩
  simp (disch := first|omega|(simp only [np,ns];try omega)) [hfi]
  refine n_same.mono ?_
  rintro u g ⟨rfl, rfl⟩
  simp (disch := first|omega|(simp only [np,ns];try omega)) []
  refine n_turn.mono ?_
  rintro u g ⟨rfl, rfl⟩
  have hsz : ((ByteArray.mk #[]).toList == (ByteArray.mk #[]).toList) = true := by rw [show (ByteArray.mk #[]) = strB [] from rfl, strB_toList]; rfl
  simp (disch := first|omega|(simp only [np,ns];try omega)) [hsz]
  refine n_slot.mono ?_
  rintro u g ⟨rfl, rfl⟩
  simp (disch := first|omega|(simp only [np,ns];try omega)) [o0, l1]
  refine n_wait.mono ?_
  rintro u g ⟨rfl, rfl⟩
  simp (disch := first|omega|(simp only [np,ns];try omega)) [o0, l1]
  refine n_ahead.mono ?_
  rintro u g ⟨rfl, rfl⟩
  simp (disch := first|omega|(simp only [np,ns];try omega)) []
  refine n_tenants.mono ?_
  rintro u g ⟨rfl, rfl⟩
  simp (disch := first|omega|(simp only [np,ns];try omega)) []
  refine n_drop.mono ?_
  rintro u g ⟨rfl, rfl⟩
  simp (disch := first|omega|(simp only [np,ns];try omega)) []
  refine (known_ok _).mono ?_
  rintro u g ⟨rfl, rfl⟩
  simp (disch := first|omega|(simp only [np,ns];try omega)) [r_law21_SlotsNil]
end Go.Proofs.Ytoenamablkkocaa.Sl
