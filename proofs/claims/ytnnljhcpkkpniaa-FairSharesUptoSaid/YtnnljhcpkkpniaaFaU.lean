/- fair, part U: FairShares. -/
import Derived.Test.YtnnljhcpkkpniaaFaM
set_option linter.unusedVariables false
set_option linter.unusedSimpArgs false
set_option maxRecDepth 100000
namespace Go.Proofs.Ytnnljhcpkkpniaa.Fa
open Go Go.RowKit Go.Proofs.Ytnnljhcpkkpniaa.Pm Go.Proofs.Ytnnljhcpkkpniaa.Fs
attribute [local simp] pw_skip pw_ops pw_quiet pw_seq pw_cond pw_block pw_exit pw_ret pw_scope pw_label kSeq_normal kSeq_ret kSeq_exit kBlock_normal kBlock_ret kBlock_exit kScope_normal kScope_ret kScope_exit kLoop_normal kLoop_ret kLoop_exit kCond_true kCond_false kCond_dec pwOps_nil pwOps_call pwOps_guard kStep_some kCall_at pwQ_nil pwQ_call pwQ_guard kQ_some putS_some putS_none upd_apply ev_t ev_k isB_bool isB_undef s0_apply pstep pwO_mov pwO_pick pwO_nilck pwO_bin pwO_binB pwO_eqNil pwO_un pwO_convI pwO_convS pwO_alloc pwO_build pwO_load pwO_store pwO_fieldAddr pwO_field pwO_idxS pwO_idxA pwO_idxV pwO_strAt pwO_lenStr pwO_lenS pwO_lenC pwO_slS pwO_slA pwO_slStr pwO_extract pwO_mkFunc pwO_mkIface pwO_append pwO_appendStr pwO_toBytes pwO_ofB pwO_box pwO_row pwO_minmax pwO_eqV pwO_sameB pwR_mov pwR_pick pwR_nilck pwR_bin pwR_binB pwR_eqNil pwR_un pwR_convI pwR_convS pwR_build pwR_load pwR_fieldAddr pwR_field pwR_idxS pwR_idxA pwR_idxV pwR_strAt pwR_lenStr pwR_lenS pwR_lenC pwR_slS pwR_slA pwR_slStr pwR_extract pwR_mkFunc pwR_mkIface pwR_ofB pwR_minmax pwR_eqV ret_r ret_n kRet_some resV0 resV1 resV2 resV3 resV4 VH.get_push_new VH.get_set_same VH.n_push VH.n_set cellsL_agg cellsL_int cellsL_bool cellsL_string cellsL_slice cellsL_pointer cellsL_map pw_draw pwD_nil pwD_cons kD_nil kD_cons evalOK_plain evalOK_guard kEv_some dstIs_some dstIs_none pw_goto pw_scopeL kSeq_goto kBlock_goto kLoop_goto kScopeL_normal kScopeL_ret kScopeL_exit kScopeL_goto pwOps_callv kCallv_fn kCallv_yld pwOps_nextM pwO_makeMap pwO_lookup pwR_lookup pwO_mapSet pwO_mapDel pwO_lenM pwR_lenM pwO_mapEntry pwO_entrySet pwO_rangeS pwO_nextS pwO_rangeM pwO_entryM pwR_entryM pwO_copyV pwO_makeSl pwO_asrt pwR_asrt kStep_if kStep_dif kQ_if kQ_dif kEv_if bound_none bound_some toNat_add' toNat_sub' toNat_mul' kLoopN_normal kLoopN_ret kLoopN_exit kLoopN_goto Option.map_some Option.map_none loadAt_obj storeAt_obj rowOf_obj eszIs_obj eszObj_cells loadObj_tab storeObj_tab_int VH.get_set_ne VH.get_push_lt VH.set_set tab_length List.getElem?_cons_zero List.getElem?_cons_succ List.length_cons List.length_nil oneC_int oneC_bool oneC_string oneC_slice oneC_pointer oneC_map srcCells_at srcCells_nil VH.get_push_at isNilV pw_drawT pwT_nil pwT_step pwT_alt kT_nil kT_cons pun pbinS pbin pbinI i64_small IntKind.bits resV resL resOne gI gM gT gF gN gNT gNF dI dM dT dF

/-- a tenant that always waits: jobs of cost 1 from the x-th on, m of them. -/
def tK (nm : List UInt8) (wt : Nat) (id : Int) (x m : Nat) : Tn :=
  ⟨nm, wt, ((x + m : Nat) : Int) * ((720720 / wt : Nat) : Int), (List.range m).map fun k => ⟨⟨id, 1⟩, ((x + k : Nat) : Int) * ((720720 / wt : Nat) : Int)⟩⟩
theorem tK_cons (nm : List UInt8) (wt : Nat) (id : Int) (x m : Nat) : (tK nm wt id x (m + 1)).l = ⟨⟨id, 1⟩, (x : Int) * ((720720 / wt : Nat) : Int)⟩ :: (tK nm wt id (x + 1) m).l := by
  simp only [tK, List.range_succ_eq_map, List.map_cons, Nat.add_zero, List.map_map]
  congr 1
  refine List.map_congr_left fun k _ => ?_
  simp only [Function.comp_apply, Nat.succ_eq_add_one]
  congr 2
  omega
theorem tK_push (nm : List UInt8) (wt : Nat) (id : Int) (x m : Nat) : { tK nm wt id x m with l := (tK nm wt id x m).l ++ [⟨⟨id, 1⟩, (tK nm wt id x m).en⟩], en := (tK nm wt id x m).en + 1 * ((720720 / wt : Nat) : Int) } = tK nm wt id x (m + 1) := by
  have h1 : ((x + m : Nat) : Int) * ((720720 / wt : Nat) : Int) + 1 * ((720720 / wt : Nat) : Int) = ((x + (m + 1) : Nat) : Int) * ((720720 / wt : Nat) : Int) := by
    rw [← Int.add_mul]; congr 1
  simp only [tK, List.range_succ, List.map_append, List.map_cons, List.map_nil, h1]
theorem tK_pop (nm : List UInt8) (wt : Nat) (id : Int) (x m : Nat) : { tK nm wt id x (m + 1) with l := (tK nm wt id (x + 1) m).l } = tK nm wt id (x + 1) m := by
  simp only [tK]
  congr 2
  omega
def shS (v w x mx y my : Nat) (ck : Int) (sv : List UInt8) : Sc := ⟨[tK [97] v 1 x mx, tK [98] w 2 y my], ck, sv, 0⟩
section
variable {v w x mx y my : Nat} {ck : Int} {sv : List UInt8}
theorem sh_findA : findT [97] (shS v w x mx y my ck sv).ts = some (tK [97] v 1 x mx) := rfl
theorem sh_findB : findT [98] (shS v w x mx y my ck sv).ts = some (tK [98] w 2 y my) := rfl
theorem sh_pushA (hm : mx < 16) (hck : ck ≤ ((x + mx : Nat) : Int) * ((720720 / v : Nat) : Int)) : pushS (shS v w x mx y my ck sv) [97] ⟨1, 1⟩ = (0, shS v w x (mx + 1) y my ck sv) := by
  have hst : startS (shS v w x mx y my ck sv) (tK [97] v 1 x mx) = (tK [97] v 1 x mx).en := by
    unfold startS
    show (if ck < (tK [97] v 1 x mx).en then (tK [97] v 1 x mx).en else ck) = (tK [97] v 1 x mx).en
    split
    · rfl
    · rename_i h
      have : ck ≤ (tK [97] v 1 x mx).en := hck
      omega
  have hl : (tK [97] v 1 x mx).l.length = mx := by simp [tK]
  simp only [pushS, sh_findA, hst, hl]
  rw [if_neg (by decide), if_neg (by omega)]
  have key : ∀ T, T = tK [97] v 1 x (mx + 1) → ((0, { (shS v w x mx y my ck sv) with ts := putT T (shS v w x mx y my ck sv).ts }) : Int × Sc) = (0, shS v w x (mx + 1) y my ck sv) := by
    rintro T rfl; rfl
  exact key _ (tK_push [97] v 1 x mx)
theorem sh_pushB (hm : my < 16) (hck : ck ≤ ((y + my : Nat) : Int) * ((720720 / w : Nat) : Int)) : pushS (shS v w x mx y my ck sv) [98] ⟨2, 1⟩ = (0, shS v w x mx y (my + 1) ck sv) := by
  have hst : startS (shS v w x mx y my ck sv) (tK [98] w 2 y my) = (tK [98] w 2 y my).en := by
    unfold startS
    show (if ck < (tK [98] w 2 y my).en then (tK [98] w 2 y my).en else ck) = (tK [98] w 2 y my).en
    split
    · rfl
    · rename_i h
      have : ck ≤ (tK [98] w 2 y my).en := hck
      omega
  have hl : (tK [98] w 2 y my).l.length = my := by simp [tK]
  simp only [pushS, sh_findB, hst, hl]
  rw [if_neg (by decide), if_neg (by omega)]
  have key : ∀ T, T = tK [98] w 2 y (my + 1) → ((0, { (shS v w x mx y my ck sv) with ts := putT T (shS v w x mx y my ck sv).ts }) : Int × Sc) = (0, shS v w x mx y (my + 1) ck sv) := by
    rintro T rfl; rfl
  exact key _ (tK_push [98] w 2 y my)
theorem sh_next : nextS (shS v w x (mx + 1) y (my + 1) ck sv).ts = if (y : Int) * ((720720 / w : Nat) : Int) < (x : Int) * ((720720 / v : Nat) : Int) then ([98], (y : Int) * ((720720 / w : Nat) : Int), true) else ([97], (x : Int) * ((720720 / v : Nat) : Int), true) := by
  have h1 : nextF ([], 0, false) (tK [97] v 1 x (mx + 1)) = ([97], (x : Int) * ((720720 / v : Nat) : Int), true) := by
    simp only [nextF, tK_cons]
    rfl
  have h2 : ∀ a, nextF a (tK [98] w 2 y (my + 1)) = if a.2.2 = false ∨ (y : Int) * ((720720 / w : Nat) : Int) < a.2.1 then ([98], (y : Int) * ((720720 / w : Nat) : Int), true) else a := fun a => by
    simp only [nextF, tK_cons]
    rfl
  show nextF (nextF ([], 0, false) (tK [97] v 1 x (mx + 1))) (tK [98] w 2 y (my + 1)) = _
  rw [h1, h2]
  simp
theorem sh_idle : idleS (shS v w x (mx + 1) y (my + 1) ck sv).ts = false := by
  refine idle_not (t := tK [97] v 1 x (mx + 1)) (List.mem_cons_self ..) ?_
  rw [tK_cons]; simp
theorem sh_stepA (h : ¬ (y : Int) * ((720720 / w : Nat) : Int) < (x : Int) * ((720720 / v : Nat) : Int)) : stepS (shS v w x (mx + 1) y (my + 1) ck sv) = (⟨[97], ⟨1, 1⟩, true, true⟩, shS v w (x + 1) mx y (my + 1) ((x : Int) * ((720720 / v : Nat) : Int)) [97]) := by
  have hb : begunS (shS v w x (mx + 1) y (my + 1) ck sv) = shS v w x (mx + 1) y (my + 1) ((x : Int) * ((720720 / v : Nat) : Int)) [97] := by
    have hn := sh_next (v := v) (w := w) (x := x) (mx := mx) (y := y) (my := my) (ck := ck) (sv := sv)
    rw [if_neg h] at hn
    unfold begunS
    rw [if_pos (show (shS v w x (mx + 1) y (my + 1) ck sv).had = 0 from rfl), hn]
    simp only
    rw [headW_of sh_findA (tK_cons ..)]
    rfl
  unfold stepS
  rw [if_neg (by rw [sh_idle]; simp), hb]
  have hh : headW (shS v w x (mx + 1) y (my + 1) ((x : Int) * ((720720 / v : Nat) : Int)) [97]).sv (shS v w x (mx + 1) y (my + 1) ((x : Int) * ((720720 / v : Nat) : Int)) [97]).ts = ⟨⟨1, 1⟩, (x : Int) * ((720720 / v : Nat) : Int)⟩ := headW_of sh_findA (tK_cons ..)
  have hp : popT (shS v w x (mx + 1) y (my + 1) ((x : Int) * ((720720 / v : Nat) : Int)) [97]).sv (shS v w x (mx + 1) y (my + 1) ((x : Int) * ((720720 / v : Nat) : Int)) [97]).ts = [tK [97] v 1 (x + 1) mx, tK [98] w 2 y (my + 1)] := by
    refine (popT_of sh_findA).trans ?_
    rw [tK_cons, List.tail_cons, tK_pop]
    rfl
  have hi : idleS [tK [97] v 1 (x + 1) mx, tK [98] w 2 y (my + 1)] = false := by
    refine idle_not (t := tK [98] w 2 y (my + 1)) (by simp) ?_
    rw [tK_cons]; simp
  unfold servedS
  rw [hh, if_neg (by show ¬ ((0 : Int) + 1 < 1); decide)]
  rw [hp, if_neg (by rw [hi]; simp)]
  rfl
theorem sh_stepB (h : (y : Int) * ((720720 / w : Nat) : Int) < (x : Int) * ((720720 / v : Nat) : Int)) : stepS (shS v w x (mx + 1) y (my + 1) ck sv) = (⟨[98], ⟨2, 1⟩, true, true⟩, shS v w x (mx + 1) (y + 1) my ((y : Int) * ((720720 / w : Nat) : Int)) [98]) := by
  have hb : begunS (shS v w x (mx + 1) y (my + 1) ck sv) = shS v w x (mx + 1) y (my + 1) ((y : Int) * ((720720 / w : Nat) : Int)) [98] := by
    have hn := sh_next (v := v) (w := w) (x := x) (mx := mx) (y := y) (my := my) (ck := ck) (sv := sv)
    rw [if_pos h] at hn
    unfold begunS
    rw [if_pos (show (shS v w x (mx + 1) y (my + 1) ck sv).had = 0 from rfl), hn]
    simp only
    rw [headW_of sh_findB (tK_cons ..)]
    rfl
  unfold stepS
  rw [if_neg (by rw [sh_idle]; simp), hb]
  have hh : headW (shS v w x (mx + 1) y (my + 1) ((y : Int) * ((720720 / w : Nat) : Int)) [98]).sv (shS v w x (mx + 1) y (my + 1) ((y : Int) * ((720720 / w : Nat) : Int)) [98]).ts = ⟨⟨2, 1⟩, (y : Int) * ((720720 / w : Nat) : Int)⟩ := headW_of sh_findB (tK_cons ..)
  have hp : popT (shS v w x (mx + 1) y (my + 1) ((y : Int) * ((720720 / w : Nat) : Int)) [98]).sv (shS v w x (mx + 1) y (my + 1) ((y : Int) * ((720720 / w : Nat) : Int)) [98]).ts = [tK [97] v 1 x (mx + 1), tK [98] w 2 (y + 1) my] := by
    refine (popT_of sh_findB).trans ?_
    rw [tK_cons, List.tail_cons, tK_pop]
    rfl
  have hi : idleS [tK [97] v 1 x (mx + 1), tK [98] w 2 (y + 1) my] = false := by
    refine idle_not (t := tK [97] v 1 x (mx + 1)) (by simp) ?_
    rw [tK_cons]; simp
  unfold servedS
  rw [hh, if_neg (by show ¬ ((0 : Int) + 1 < 1); decide)]
  rw [hp, if_neg (by rw [hi]; simp)]
  rfl
end
theorem scale_w {w : Nat} (h1 : 1 ≤ w) (h2 : w ≤ 16) : ((720720 / w : Nat) : Int) * (w : Int) = 720720 := by
  have h : w = 1 ∨ w = 2 ∨ w = 3 ∨ w = 4 ∨ w = 5 ∨ w = 6 ∨ w = 7 ∨ w = 8 ∨ w = 9 ∨ w = 10 ∨ w = 11 ∨ w = 12 ∨ w = 13 ∨ w = 14 ∨ w = 15 ∨ w = 16 := by omega
  rcases h with h | h | h | h | h | h | h | h | h | h | h | h | h | h | h | h <;> subst h <;> decide
/-- whoever was served was not behind. -/
structure Fairly (v w x y : Nat) : Prop where
  a : ((x : Int) - 1) * ((720720 / v : Nat) : Int) ≤ (y : Int) * ((720720 / w : Nat) : Int)
  b : ((y : Int) - 1) * ((720720 / w : Nat) : Int) ≤ (x : Int) * ((720720 / v : Nat) : Int)
theorem fairly_le {A B v w x y : Int} (hA : A * v = 720720) (hB : B * w = 720720) (hv : 0 ≤ v) (hw : 0 ≤ w) (h : (x - 1) * A ≤ y * B) : x * w - y * v ≤ w := by
  have h1 : (x - 1) * A * (v * w) ≤ y * B * (v * w) := Int.mul_le_mul_of_nonneg_right h (Int.mul_nonneg hv hw)
  have h2 : (x - 1) * A * (v * w) = 720720 * ((x - 1) * w) := by rw [← hA]; simp only [Int.mul_assoc, Int.mul_comm, Int.mul_left_comm]
  have h3 : y * B * (v * w) = 720720 * (y * v) := by rw [← hB]; simp only [Int.mul_assoc, Int.mul_comm, Int.mul_left_comm]
  rw [h2, h3] at h1
  have h4 : (x - 1) * w = x * w - w := by rw [Int.sub_mul, Int.one_mul]
  rw [h4] at h1
  omega
theorem Fairly.bound {v w x y : Nat} (k : Fairly v w x y) (h1 : 1 ≤ v) (h2 : v ≤ 16) (h3 : 1 ≤ w) (h4 : w ≤ 16) : (x : Int) * w - (y : Int) * v ≤ w ∧ (y : Int) * v - (x : Int) * w ≤ v :=
  ⟨fairly_le (scale_w h1 h2) (scale_w h3 h4) (by omega) (by omega) k.a, fairly_le (scale_w h3 h4) (scale_w h1 h2) (by omega) (by omega) k.b⟩
theorem fairly_step {A B x y : Int} (hA : 0 ≤ A) (hb : (y - 1) * B ≤ x * A) (h : ¬ y * B < x * A) : ((x + 1) - 1) * A ≤ y * B ∧ (y - 1) * B ≤ (x + 1) * A := by
  rw [show x + 1 - 1 = x by omega, Int.add_mul, Int.one_mul]
  omega
theorem Fairly.stepA {v w x y : Nat} (k : Fairly v w x y) (h : ¬ (y : Int) * ((720720 / w : Nat) : Int) < (x : Int) * ((720720 / v : Nat) : Int)) : Fairly v w (x + 1) y := by
  obtain ⟨h1, h2⟩ := fairly_step (Int.natCast_nonneg (720720 / v)) k.b h
  exact ⟨h1, h2⟩
theorem Fairly.stepB {v w x y : Nat} (k : Fairly v w x y) (h : (y : Int) * ((720720 / w : Nat) : Int) < (x : Int) * ((720720 / v : Nat) : Int)) : Fairly v w x (y + 1) := by
  obtain ⟨h1, h2⟩ := fairly_step (Int.natCast_nonneg (720720 / w)) k.a (Int.not_lt.2 (Int.le_of_lt h))
  exact ⟨h2, h1⟩
theorem neg_le0 {B : Int} (h : 0 ≤ B) : ((0 : Int) - 1) * B ≤ (0 : Int) * B := by
  rw [Int.zero_mul, Int.zero_sub, Int.neg_mul, Int.one_mul]; omega
theorem fairly0 (v w : Nat) : Fairly v w 0 0 := by
  refine ⟨?_, ?_⟩
  · have := neg_le0 (Int.natCast_nonneg (720720 / v))
    rw [Int.zero_mul] at this
    show ((0 : Int) - 1) * _ ≤ (0 : Int) * _
    rw [Int.zero_mul]; exact this
  · have := neg_le0 (Int.natCast_nonneg (720720 / w))
    rw [Int.zero_mul] at this
    show ((0 : Int) - 1) * _ ≤ (0 : Int) * _
    rw [Int.zero_mul]; exact this

/-! ### the walk -/
theorem count400 {h : VH} {n : Int} (h1 : i64B n) : PCalls Try.prog f_ref02_Count [.int .i64 n, .int .i64 400] h (fun u h' => (∃ m : Nat, m < 400 ∧ u = .int .i64 (m : Int)) ∧ h' = h) := by
  refine PCalls.drop (R := fun u => ∃ m : Nat, m < 400 ∧ u = .int .i64 (m : Int)) ?_
  refine PCalls_of_pw st_ref02_Count (by simp [n_ref02_Count]) ?_
  rw [b_ref02_Count]
  obtain ⟨r, hr⟩ : ∃ r, r = Int.tmod n 400 := ⟨_, rfl⟩
  have hb : -400 < r ∧ r < 400 := by
    have h2 := Int.tmod_lt_of_pos n (show (0 : Int) < 400 by decide)
    have h3 := Int.lt_tmod_of_pos n (show (0 : Int) < 400 by decide)
    rw [← hr] at h2 h3
    omega
  by_cases hneg : r < 0
  · have hadd : IntKind.i64.wrap (r + 400) = r + 400 := i64_small (by omega) (by omega)
    simp (disch := first | omega | (simp only [VH.n_push, VH.n_set]; done) | (simp only [VH.n_push, VH.n_set]; omega)) [r_ref02_Count, B_ref02_Count, ← hr, hneg, hadd]
    exact ⟨rfl, (r + 400).toNat, by omega, by congr 1; omega⟩
  · simp (disch := first | omega | (simp only [VH.n_push, VH.n_set]; done) | (simp only [VH.n_push, VH.n_set]; omega)) [r_ref02_Count, B_ref02_Count, ← hr, hneg]
    exact ⟨rfl, r.toNat, by omega, by congr 1; omega⟩
theorem tK0 (nm : List UInt8) (wt : Nat) (id : Int) : tK nm wt id 0 0 = ⟨nm, wt, 0, []⟩ := by simp [tK]
theorem sh_set {v w : Int} (h1 : ¬ (v < 1 ∨ 16 < v)) (h2 : ¬ (w < 1 ∨ 16 < w)) : setS sc0 [97] v = (0, ⟨[⟨[97], v.toNat, 0, []⟩], 0, [], 0⟩) ∧ setS ⟨[⟨[97], v.toNat, 0, []⟩], 0, [], 0⟩ [98] w = (0, shS v.toNat w.toNat 0 0 0 0 0 []) := by
  constructor
  · simp only [setS, if_neg h1]
    rfl
  · simp only [setS, if_neg h2]
    unfold shS
    rw [tK0, tK0]
    rfl
def bndS (n : Nat) : Int := 720720000 * ((n : Int) + 8)
theorem scale_le {x wt : Nat} (m : Nat) : (x : Int) * ((720720 / wt : Nat) : Int) ≤ ((x + m : Nat) : Int) * ((720720 / wt : Nat) : Int) :=
  Int.mul_le_mul_of_nonneg_right (by omega) (Int.natCast_nonneg _)
def ShLoop (h : VH) (v w i p N n : Nat) (s : Slots) (g : VH) : Prop := ∃ (x y : Nat) (ck : Int) (sv : List UInt8) (X : List Nat), (s 0 = .int .i64 (v : Int) ∧ s 1 = .int .i64 (w : Int) ∧ s 2 = .int .i64 (N : Int) ∧ s 7 = .pointer (some ⟨i, 0, none⟩) ∧ s 8 = .pointer (some ⟨p, 0, none⟩) ∧ s 10 = .int .i64 (n : Int)) ∧
  x + y = n ∧ Sch g i (shS v w x 4 y 4 ck sv) X ∧ OkS (bndS n) (shS v w x 4 y 4 ck sv) ∧ g.get p = .cells [.int .i64 (x : Int), .int .i64 (y : Int)] true 1 ∧ p < g.n ∧ p ∉ X ∧ Fairly v w x y ∧ ck ≤ (x : Int) * ((720720 / v : Nat) : Int) ∧ ck ≤ (y : Int) * ((720720 / w : Nat) : Int)
def ShPush (h : VH) (v w i p N n : Nat) (s : Slots) (g : VH) : Prop := ∃ (X : List Nat), (s 0 = .int .i64 (v : Int) ∧ s 1 = .int .i64 (w : Int) ∧ s 2 = .int .i64 (N : Int) ∧ s 7 = .pointer (some ⟨i, 0, none⟩) ∧ s 8 = .pointer (some ⟨p, 0, none⟩) ∧ s 9 = .int .i64 (n : Int)) ∧
  Sch g i (shS v w 0 n 0 n 0 []) X ∧ OkS (720720000 * (2 * (n : Int))) (shS v w 0 n 0 n 0 []) ∧ g.get p = .cells [.int .i64 0, .int .i64 0] true 1 ∧ p < g.n ∧ p ∉ X
/-- an object that is not the scheduler's. -/
theorem SchP.away {g g' : VH} {i p : Nat} {X : List Nat} {S : Sc} (k : SchP g i X S g') (hp : p < g.n) (hx : p ∉ X) : ∃ X', Sch g' i S X' ∧ g'.get p = g.get p ∧ p < g'.n ∧ p ∉ X' := by
  obtain ⟨X', K, M⟩ := k
  refine ⟨X', K, M.fr.get p hp hx, by have := M.fr.n; omega, fun h => ?_⟩
  rcases M.ids p h with h1 | h1
  · exact hx h1
  · omega
set_option maxHeartbeats 8000000 in
theorem shares_ok' {h : VH} {vi wi sl : Int} (hs : i64B sl) : PCalls Try.prog f_law20_FairShares [.int .i64 vi, .int .i64 wi, .int .i64 sl] h (fun u _ => u = .bool true) := by
  refine PCalls_of_pw st_law20_FairShares (by simp [n_law20_FairShares]) ?_
  rw [b_law20_FairShares]
  simp (disch := first | omega | (simp only [VH.n_push, VH.n_set]; done) | (simp only [VH.n_push, VH.n_set]; omega)) [B_law20_FairShares]
  refine new_ok.mono ?_
  rintro u g0 ⟨i, X0, rfl, K0, M0⟩
  simp (disch := first | omega | (simp only [VH.n_push, VH.n_set]; done) | (simp only [VH.n_push, VH.n_set]; omega)) []
  refine (set_ok K0 sc0_ok.ord (nm := [97]) (w := vi)).mono ?_
  rintro u g1 ⟨rfl, X1, K1, M1⟩
  by_cases hv : vi < 1 ∨ 16 < vi
  · have he : (setS sc0 [97] vi).1 = 1 := by simp [setS, hv]
    rw [he]
    simp (disch := first | omega | (simp only [VH.n_push, VH.n_set]; done) | (simp only [VH.n_push, VH.n_set]; omega)) []
    refine (known_ok _).mono ?_
    rintro u g ⟨rfl, rfl⟩
    simp (disch := first | omega | (simp only [VH.n_push, VH.n_set]; done) | (simp only [VH.n_push, VH.n_set]; omega)) [r_law20_FairShares]
  have he1 : (setS sc0 [97] vi).1 = 0 := by
    simp only [setS, if_neg hv]; rfl
  rw [he1]
  simp (disch := first | omega | (simp only [VH.n_push, VH.n_set]; done) | (simp only [VH.n_push, VH.n_set]; omega)) []
  refine (set_ok K1 (setS_ok sc0_ok _ _).ord (nm := [98]) (w := wi)).mono ?_
  rintro u g2 ⟨rfl, X2, K2, M2⟩
  by_cases hw : wi < 1 ∨ 16 < wi
  · have he : (setS (setS sc0 [97] vi).2 [98] wi).1 = 1 := by
      unfold setS
      rw [if_pos hw]
    rw [he]
    simp (disch := first | omega | (simp only [VH.n_push, VH.n_set]; done) | (simp only [VH.n_push, VH.n_set]; omega)) []
    refine (known_ok _).mono ?_
    rintro u g ⟨rfl, rfl⟩
    simp (disch := first | omega | (simp only [VH.n_push, VH.n_set]; done) | (simp only [VH.n_push, VH.n_set]; omega)) [r_law20_FairShares]
  obtain ⟨e1, e2⟩ := sh_set hv hw
  have ok2 : OkS 0 (setS (setS sc0 [97] vi).2 [98] wi).2 := setS_ok (setS_ok sc0_ok _ _) _ _
  rw [e1] at K2 ok2 ⊢
  simp only at K2 ok2 ⊢
  rw [e2] at K2 ok2 ⊢
  simp only at K2 ok2 ⊢
  obtain ⟨v, hve⟩ : ∃ v : Nat, vi = (v : Int) := ⟨vi.toNat, by omega⟩
  obtain ⟨w, hwe⟩ : ∃ w : Nat, wi = (w : Int) := ⟨wi.toNat, by omega⟩
  subst hve hwe
  rw [Int.toNat_natCast, Int.toNat_natCast] at K2 ok2
  have hv1 : 1 ≤ v ∧ v ≤ 16 := by omega
  have hw1 : 1 ≤ w ∧ w ≤ 16 := by omega
  simp (disch := first | omega | (simp only [VH.n_push, VH.n_set]; done) | (simp only [VH.n_push, VH.n_set]; omega)) []
  refine (count400 hs).mono ?_
  rintro u g3 ⟨⟨N, hN, rfl⟩, rfl⟩
  obtain ⟨p, hp⟩ : ∃ p, p = g3.n := ⟨_, rfl⟩
  have F4 : Fr g3 (g3.push (.cells [.int .i64 0, .int .i64 0] true 1)) [] := Fr.push _ _ _
  have K4 := K2.fr0 F4
  have hpX : p ∉ X2 := fun hx => by have := K2.lt p hx; omega
  simp (disch := first | omega | (simp only [VH.n_push, VH.n_set]; done) | (simp only [VH.n_push, VH.n_set]; omega)) [← hp]
  refine pw_loopN (ShPush h v w i p N) 4 ?_ ?_
  · refine ⟨X2, ?_, K4, by simpa using ok2, by rw [hp]; exact VH.get_push_new _ _, by simp; omega, hpX⟩
    simp [upd_apply, s0_apply]
  · rintro n s g hn ⟨X, ⟨f0, f1, f2, f7, f8, f9⟩, K, ok, hpg, hpn, hpX⟩
    have hab : ((strB [97]).toList == ([98] : List UInt8)) = false := by rw [strB_toList]; rfl
    have hbb : ((strB [98]).toList == ([98] : List UInt8)) = true := by rw [strB_toList]; rfl
    have fa : fillC [.int .i64 0, .int .i64 0] [(0, 1, .int .i64 1), (1, 1, .int .i64 1)] = some [.int .i64 1, .int .i64 1] := rfl
    have fb : fillC [.int .i64 0, .int .i64 0] [(0, 1, .int .i64 2), (1, 1, .int .i64 1)] = some [.int .i64 2, .int .i64 1] := rfl
    by_cases h4 : n < 4
    · have h4I : (n : Int) < 4 := by omega
      have hkk : IntKind.i64.wrap ((n : Int) + 1) = ((n + 1 : Nat) : Int) := by rw [i64_small (by omega) (by omega)]; omega
      simp (disch := first | omega | (simp only [VH.n_push, VH.n_set]; done) | (simp only [VH.n_push, VH.n_set]; omega)) [f9, h4, h4I, f7, fa]
      refine (push_ok K ok (by omega) (nm := [97]) (q := ⟨1, 1⟩)).mono ?_
      rintro u g4 ⟨rfl, hp4⟩
      obtain ⟨X4, K4, r4, n4, x4⟩ := hp4.away hpn hpX
      have hA := sh_pushA (v := v) (w := w) (x := 0) (mx := n) (y := 0) (my := n) (ck := 0) (sv := []) (by omega) (Int.mul_nonneg (by omega) (Int.natCast_nonneg _))
      have ok4 := pushS_ok ok [97] ⟨1, 1⟩
      rw [hA] at K4 ok4
      simp (disch := first | omega | (simp only [VH.n_push, VH.n_set]; done) | (simp only [VH.n_push, VH.n_set]; omega)) [f7, fb]
      refine (push_ok K4 ok4 (by omega) (nm := [98]) (q := ⟨2, 1⟩)).mono ?_
      rintro u g5 ⟨rfl, hp5⟩
      obtain ⟨X5, K5, r5, n5, x5⟩ := hp5.away n4 x4
      have hB := sh_pushB (v := v) (w := w) (x := 0) (mx := n + 1) (y := 0) (my := n) (ck := 0) (sv := []) (by omega) (Int.mul_nonneg (by omega) (Int.natCast_nonneg _))
      have ok5 := pushS_ok ok4 [98] ⟨2, 1⟩
      rw [hB] at K5 ok5
      simp (disch := first | omega | (simp only [VH.n_push, VH.n_set]; done) | (simp only [VH.n_push, VH.n_set]; omega)) [f9, hkk]
      refine ⟨by omega, X5, ?_, K5, ok5.mono (by omega), by rw [r5, r4]; exact hpg, n5, x5⟩
      simp [upd_apply, f0, f1, f2, f7, f8]
    obtain rfl : n = 4 := by omega
    simp (disch := first | omega | (simp only [VH.n_push, VH.n_set]; done) | (simp only [VH.n_push, VH.n_set]; omega)) [f9]
    refine pw_loopN (ShLoop h v w i p N) N ?_ ?_
    · refine ⟨0, 0, 0, [], X, ?_, rfl, K, ok.mono (by unfold bndS; omega), hpg, hpn, hpX, fairly0 v w, by simp, by simp⟩
      simp [upd_apply, f0, f1, f2, f7, f8]
    clear f0 f1 f2 f7 f8 f9 K ok hpg hpn hpX
    rintro n s g hn ⟨x, y, ck, sv, X, ⟨f0, f1, f2, f7, f8, f10⟩, hxy, K, ok, hpg, hpn, hpX, fy, hc1, hc2⟩
    by_cases hlt : n < N
    case neg =>
      have hltI : ¬ (n : Int) < (N : Int) := by omega
      simp (disch := first | omega | (simp only [VH.n_push, VH.n_set]; done) | (simp only [VH.n_push, VH.n_set]; omega)) [f10, f2, hlt, hltI]
      refine (known_ok _).mono ?_
      rintro u g ⟨rfl, rfl⟩
      simp (disch := first | omega | (simp only [VH.n_push, VH.n_set]; done) | (simp only [VH.n_push, VH.n_set]; omega)) [r_law20_FairShares]
    have hltI : (n : Int) < (N : Int) := by omega
    have hkk : IntKind.i64.wrap ((n : Int) + 1) = ((n + 1 : Nat) : Int) := by rw [i64_small (by omega) (by omega)]; omega
    have hbz : bndS n ≤ 1000000000000000000 := by unfold bndS; omega
    have hbn : bndS n + 720720000 ≤ bndS (n + 1) := by unfold bndS; omega
    have hsj : ∀ a b, storeObj (.cells [.int .i64 0, .int .i64 0] true 1) 0 2 (.agg #[.int .i64 a, .int .i64 b]) = some (.cells [.int .i64 a, .int .i64 b] true 1) := fun _ _ => rfl
    simp (disch := first | omega | (simp only [VH.n_push, VH.n_set]; done) | (simp only [VH.n_push, VH.n_set]; omega)) [f10, f2, hlt, hltI, f7]
    refine (step_ok hso K ok).mono ?_
    rintro u g4 ⟨rfl, hp4⟩
    obtain ⟨X4, K4, r4, n4, x4⟩ := hp4.away hpn hpX
    rw [hpg] at r4
    have ok4 := stepS_ok ok
    by_cases hcmp : (y : Int) * ((720720 / w : Nat) : Int) < (x : Int) * ((720720 / v : Nat) : Int)
    · rw [sh_stepB hcmp] at K4 ok4 ⊢
      obtain ⟨z, hz⟩ : ∃ z : Nat, z = y + 1 := ⟨_, rfl⟩
      have hzw : IntKind.i64.wrap ((y : Int) + 1) = (z : Int) := by rw [i64_small (by omega) (by omega)]; omega
      obtain ⟨g5, hg5⟩ : ∃ g5, g5 = (g4.push (.cells [.int .i64 0, .int .i64 0] true 1)).set g4.n (.cells [.int .i64 2, .int .i64 1] true 1) := ⟨_, rfl⟩
      have F5 : Fr g4 g5 [] := by rw [hg5]; exact Fr_set (Fr_push (Fr.refl _ _)) (Nat.le_refl _)
      have r5 := (F5.get p n4 (by simp)).trans r4
      obtain ⟨g6, hg6⟩ : ∃ g6, g6 = g5.set p (.cells [.int .i64 (x : Int), .int .i64 (z : Int)] true 1) := ⟨_, rfl⟩
      have F6 : Fr g5 g6 [p] := by rw [hg6]; exact Fr.set _ _ (by simp)
      have K6 := (K4.fr0 F5).fr F6 (fun q hq hqp => by simp at hqp; subst hqp; exact x4 hq)
      have r6 : g6.get p = .cells [.int .i64 (x : Int), .int .i64 (z : Int)] true 1 := by rw [hg6, VH.get_set_same]
      have n6 : p < g6.n := by have := F5.n; have := F6.n; omega
      have hst6 : ∀ a b, storeObj (.cells [a, b] true 1) 1 1 (.int .i64 (z : Int)) = some (.cells [a, .int .i64 (z : Int)] true 1) := fun _ _ => rfl
      have fq : fillC [.int .i64 0, .int .i64 0] [(0, 1, .int .i64 2), (1, 1, .int .i64 1)] = some [.int .i64 2, .int .i64 1] := rfl
      simp (disch := first | omega | (simp only [VH.n_push, VH.n_set]; done) | (simp only [VH.n_push, VH.n_set]; omega)) [outV, jbV, hsj, ← hg5, f7, f8, hbb, r5, lA_0, lA_1, hzw, hst6, ← hg6, fq]
      refine (push_ok K6 ok4 hbz (nm := [98]) (q := ⟨2, 1⟩)).mono ?_
      rintro u g7 ⟨rfl, hp7⟩
      obtain ⟨X7, K7, r7, n7, x7⟩ := hp7.away n6 x4
      rw [r6] at r7
      have ok7 := (pushS_ok ok4 [98] ⟨2, 1⟩).mono hbn
      have hps := sh_pushB (v := v) (w := w) (x := x) (mx := 4) (y := y + 1) (my := 3) (ck := (y : Int) * ((720720 / w : Nat) : Int)) (sv := [98]) (by omega) (by
        have h1 := scale_le (x := y) (wt := w) 4
        have h2 : y + 1 + 3 = y + 4 := by omega
        rw [h2]; exact h1)
      rw [hps, ← hz] at K7 ok7
      have fy' := fy.stepB hcmp
      rw [← hz] at fy'
      obtain ⟨b1, b2⟩ := fy'.bound hv1.1 hv1.2 hw1.1 hw1.2
      have q1 : x * w ≤ 401 * 16 := Nat.mul_le_mul (by omega) hw1.2
      have q2 : z * v ≤ 401 * 16 := Nat.mul_le_mul (by omega) hv1.2
      obtain ⟨P1, hP1⟩ : ∃ P1 : Nat, P1 = x * w := ⟨_, rfl⟩
      obtain ⟨P2, hP2⟩ : ∃ P2 : Nat, P2 = z * v := ⟨_, rfl⟩
      have w1 : IntKind.i64.wrap ((x : Int) * (w : Int)) = (P1 : Int) := by rw [← Int.natCast_mul, ← hP1]; exact i64_small (by omega) (by omega)
      have w2 : IntKind.i64.wrap ((z : Int) * (v : Int)) = (P2 : Int) := by rw [← Int.natCast_mul, ← hP2]; exact i64_small (by omega) (by omega)
      have w3 : IntKind.i64.wrap ((P1 : Int) - (P2 : Int)) = (P1 : Int) - (P2 : Int) := i64_small (by omega) (by omega)
      rw [← Int.natCast_mul, ← Int.natCast_mul, ← hP1, ← hP2] at b1 b2
      obtain ⟨d, hd⟩ : ∃ d, d = (P1 : Int) - (P2 : Int) := ⟨_, rfl⟩
      have w4 : IntKind.i64.wrap ((v : Int) + (w : Int)) = (v : Int) + (w : Int) := i64_small (by omega) (by omega)
      have w5 : IntKind.i64.wrap (0 - d) = -d := by rw [i64_small (by omega) (by omega)]; omega
      have w6 : IntKind.i64.wrap (-d) = -d := i64_small (by omega) (by omega)
      have c1 : ¬ (v : Int) + (w : Int) < d := by omega
      have c2 : ¬ (v : Int) + (w : Int) < -d := by omega
      simp (disch := first | omega | (simp only [VH.n_push, VH.n_set]; done) | (simp only [VH.n_push, VH.n_set]; omega)) [f0, f1, f7, f8, r7, lA_0, lA_1, w1, w2, w3, ← hd, w4, w5, w6, c1, c2, f10, hkk]
      refine ⟨hlt, x, z, _, _, X7, ?_, by omega, K7, ok7, r7, n7, x7, fy', ?_, ?_⟩
      · simp [upd_apply, f0, f1, f2, f7, f8]
      · exact Int.le_of_lt hcmp
      · have h1 := scale_le (x := y) (wt := w) 1
        rw [hz]; exact h1
    · rw [sh_stepA hcmp] at K4 ok4 ⊢
      obtain ⟨z, hz⟩ : ∃ z : Nat, z = x + 1 := ⟨_, rfl⟩
      have hzw : IntKind.i64.wrap ((x : Int) + 1) = (z : Int) := by rw [i64_small (by omega) (by omega)]; omega
      obtain ⟨g5, hg5⟩ : ∃ g5, g5 = (g4.push (.cells [.int .i64 0, .int .i64 0] true 1)).set g4.n (.cells [.int .i64 1, .int .i64 1] true 1) := ⟨_, rfl⟩
      have F5 : Fr g4 g5 [] := by rw [hg5]; exact Fr_set (Fr_push (Fr.refl _ _)) (Nat.le_refl _)
      have r5 := (F5.get p n4 (by simp)).trans r4
      obtain ⟨g6, hg6⟩ : ∃ g6, g6 = g5.set p (.cells [.int .i64 (z : Int), .int .i64 (y : Int)] true 1) := ⟨_, rfl⟩
      have F6 : Fr g5 g6 [p] := by rw [hg6]; exact Fr.set _ _ (by simp)
      have K6 := (K4.fr0 F5).fr F6 (fun q hq hqp => by simp at hqp; subst hqp; exact x4 hq)
      have r6 : g6.get p = .cells [.int .i64 (z : Int), .int .i64 (y : Int)] true 1 := by rw [hg6, VH.get_set_same]
      have n6 : p < g6.n := by have := F5.n; have := F6.n; omega
      have hst6 : ∀ a b, storeObj (.cells [a, b] true 1) 0 1 (.int .i64 (z : Int)) = some (.cells [.int .i64 (z : Int), b] true 1) := fun _ _ => rfl
      have fq : fillC [.int .i64 0, .int .i64 0] [(0, 1, .int .i64 1), (1, 1, .int .i64 1)] = some [.int .i64 1, .int .i64 1] := rfl
      simp (disch := first | omega | (simp only [VH.n_push, VH.n_set]; done) | (simp only [VH.n_push, VH.n_set]; omega)) [outV, jbV, hsj, ← hg5, f7, f8, hab, r5, lA_0, lA_1, hzw, hst6, ← hg6, fq]
      refine (push_ok K6 ok4 hbz (nm := [97]) (q := ⟨1, 1⟩)).mono ?_
      rintro u g7 ⟨rfl, hp7⟩
      obtain ⟨X7, K7, r7, n7, x7⟩ := hp7.away n6 x4
      rw [r6] at r7
      have ok7 := (pushS_ok ok4 [97] ⟨1, 1⟩).mono hbn
      have hps := sh_pushA (v := v) (w := w) (x := x + 1) (mx := 3) (y := y) (my := 4) (ck := (x : Int) * ((720720 / v : Nat) : Int)) (sv := [97]) (by omega) (by
        have h1 := scale_le (x := x) (wt := v) 4
        have h2 : x + 1 + 3 = x + 4 := by omega
        rw [h2]; exact h1)
      rw [hps, ← hz] at K7 ok7
      have fy' := fy.stepA hcmp
      rw [← hz] at fy'
      obtain ⟨b1, b2⟩ := fy'.bound hv1.1 hv1.2 hw1.1 hw1.2
      have q1 : z * w ≤ 401 * 16 := Nat.mul_le_mul (by omega) hw1.2
      have q2 : y * v ≤ 401 * 16 := Nat.mul_le_mul (by omega) hv1.2
      obtain ⟨P1, hP1⟩ : ∃ P1 : Nat, P1 = z * w := ⟨_, rfl⟩
      obtain ⟨P2, hP2⟩ : ∃ P2 : Nat, P2 = y * v := ⟨_, rfl⟩
      have w1 : IntKind.i64.wrap ((z : Int) * (w : Int)) = (P1 : Int) := by rw [← Int.natCast_mul, ← hP1]; exact i64_small (by omega) (by omega)
      have w2 : IntKind.i64.wrap ((y : Int) * (v : Int)) = (P2 : Int) := by rw [← Int.natCast_mul, ← hP2]; exact i64_small (by omega) (by omega)
      have w3 : IntKind.i64.wrap ((P1 : Int) - (P2 : Int)) = (P1 : Int) - (P2 : Int) := i64_small (by omega) (by omega)
      rw [← Int.natCast_mul, ← Int.natCast_mul, ← hP1, ← hP2] at b1 b2
      obtain ⟨d, hd⟩ : ∃ d, d = (P1 : Int) - (P2 : Int) := ⟨_, rfl⟩
      have w4 : IntKind.i64.wrap ((v : Int) + (w : Int)) = (v : Int) + (w : Int) := i64_small (by omega) (by omega)
      have w5 : IntKind.i64.wrap (0 - d) = -d := by rw [i64_small (by omega) (by omega)]; omega
      have w6 : IntKind.i64.wrap (-d) = -d := i64_small (by omega) (by omega)
      have c1 : ¬ (v : Int) + (w : Int) < d := by omega
      have c2 : ¬ (v : Int) + (w : Int) < -d := by omega
      simp (disch := first | omega | (simp only [VH.n_push, VH.n_set]; done) | (simp only [VH.n_push, VH.n_set]; omega)) [f0, f1, f7, f8, r7, lA_0, lA_1, w1, w2, w3, ← hd, w4, w5, w6, c1, c2, f10, hkk]
      refine ⟨hlt, z, y, _, _, X7, ?_, by omega, K7, ok7, r7, n7, x7, fy', ?_, ?_⟩
      · simp [upd_apply, f0, f1, f2, f7, f8]
      · have h1 := scale_le (x := x) (wt := v) 1
        rw [hz]; exact h1
      · exact Int.not_lt.1 hcmp
theorem shares_law {h : VH} {us : List Value} {k : Nat} (H : ShA h [.int .i64, .int .i64, .int .i64] us k) (hk : k ≤ 1048576) :
    PCalls Try.prog f_law20_FairShares us h (fun u h' => u = .bool true ∧ h' = h) := by
  obtain ⟨v, r, k1, k2, rfl, h1, ⟨v2, r2, k3, k4, rfl, h2, ⟨v3, r3, k5, k6, rfl, h3, ⟨rfl, _⟩, _⟩, _⟩, h6⟩ := H
  obtain ⟨a, ha, _⟩ := Sh.i64 (h := h) h1
  obtain ⟨b, hb, _⟩ := Sh.i64 (h := h) h2
  obtain ⟨c, hc, c1, c2, _⟩ := Sh.i64 (h := h) h3
  injection ha with ha _
  injection hb with hb _
  injection hc with hc _
  subst ha; subst hb; subst hc
  exact ((shares_ok' ⟨c1, c2⟩).mono fun u _ e => by subst e; exact ⟨rfl, rfl⟩).drop
end Go.Proofs.Ytnnljhcpkkpniaa.Fa
