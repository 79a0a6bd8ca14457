/- fair, part O: FairPlays: what the reference does. -/
import Derived.Test.YtnnljhcpkkpniaaFaN
set_option linter.unusedVariables false
set_option linter.unusedSimpArgs false
set_option maxRecDepth 100000
namespace Go.Proofs.Ytnnljhcpkkpniaa.Fa
open Go Go.RowKit Go.Proofs.Ytnnljhcpkkpniaa.Pm Go.Proofs.Ytnnljhcpkkpniaa.Fs
attribute [local simp] pw_skip pw_ops pw_quiet pw_seq pw_cond pw_block pw_exit pw_ret pw_scope pw_label kSeq_normal kSeq_ret kSeq_exit kBlock_normal kBlock_ret kBlock_exit kScope_normal kScope_ret kScope_exit kLoop_normal kLoop_ret kLoop_exit kCond_true kCond_false kCond_dec pwOps_nil pwOps_call pwOps_guard kStep_some kCall_at pwQ_nil pwQ_call pwQ_guard kQ_some putS_some putS_none upd_apply ev_t ev_k isB_bool isB_undef s0_apply pstep pwO_mov pwO_pick pwO_nilck pwO_bin pwO_binB pwO_eqNil pwO_un pwO_convI pwO_convS pwO_alloc pwO_build pwO_load pwO_store pwO_fieldAddr pwO_field pwO_idxS pwO_idxA pwO_idxV pwO_strAt pwO_lenStr pwO_lenS pwO_lenC pwO_slS pwO_slA pwO_slStr pwO_extract pwO_mkFunc pwO_mkIface pwO_append pwO_appendStr pwO_toBytes pwO_ofB pwO_box pwO_row pwO_minmax pwO_eqV pwO_sameB pwR_mov pwR_pick pwR_nilck pwR_bin pwR_binB pwR_eqNil pwR_un pwR_convI pwR_convS pwR_build pwR_load pwR_fieldAddr pwR_field pwR_idxS pwR_idxA pwR_idxV pwR_strAt pwR_lenStr pwR_lenS pwR_lenC pwR_slS pwR_slA pwR_slStr pwR_extract pwR_mkFunc pwR_mkIface pwR_ofB pwR_minmax pwR_eqV ret_r ret_n kRet_some resV0 resV1 resV2 resV3 resV4 VH.get_push_new VH.get_set_same VH.n_push VH.n_set cellsL_agg cellsL_int cellsL_bool cellsL_string cellsL_slice cellsL_pointer cellsL_map pw_draw pwD_nil pwD_cons kD_nil kD_cons evalOK_plain evalOK_guard kEv_some dstIs_some dstIs_none pw_goto pw_scopeL kSeq_goto kBlock_goto kLoop_goto kScopeL_normal kScopeL_ret kScopeL_exit kScopeL_goto pwOps_callv kCallv_fn kCallv_yld pwOps_nextM pwO_makeMap pwO_lookup pwR_lookup pwO_mapSet pwO_mapDel pwO_lenM pwR_lenM pwO_mapEntry pwO_entrySet pwO_rangeS pwO_nextS pwO_rangeM pwO_entryM pwR_entryM pwO_copyV pwO_makeSl pwO_asrt pwR_asrt kStep_if kStep_dif kQ_if kQ_dif kEv_if bound_none bound_some toNat_add' toNat_sub' toNat_mul' kLoopN_normal kLoopN_ret kLoopN_exit kLoopN_goto Option.map_some Option.map_none loadAt_obj storeAt_obj rowOf_obj eszIs_obj eszObj_cells loadObj_tab storeObj_tab_int VH.get_set_ne VH.get_push_lt VH.set_set tab_length List.getElem?_cons_zero List.getElem?_cons_succ List.length_cons List.length_nil oneC_int oneC_bool oneC_string oneC_slice oneC_pointer oneC_map srcCells_at srcCells_nil VH.get_push_at isNilV pw_drawT pwT_nil pwT_step pwT_alt kT_nil kT_cons pun pbinS pbin pbinI i64_small IntKind.bits resV resL resOne gI gM gT gF gN gNT gNF dI dM dT dF


theorem RR.old {g : VH} {r : Nat} {sl : Value} {rs : List (Tn × Value)} {S : Sc} (k : RR g r sl rs S) {p : Tn × Value} (hp : p ∈ rs) : ∀ x ∈ idOf p.2, x < g.n := (k.wk p hp).lt
/-- one tenant is another one now. -/
theorem RR.upd {g g' : VH} {X : List Nat} {r : Nat} {sl : Value} {rs : List (Tn × Value)} {S S' : Sc} (k : RR g r sl rs S) {j : Nat} (hj : j < rs.length) (hf : Fr g g' X) (hX : ∀ x ∈ X, x = r ∨ x ∈ idOf sl ∨ x ∈ idOf rs[j].2) {t' : Tn} {v' : Value}
    (hr : g'.get r = .cells (rfL sl S') true 1) (ho : OwnSl g' 4 sl ((rs.set j (t', v')).flatMap rnC) rs.length) (hts : S'.ts = S.ts.set j t') (hw : OwnSl g' 4 v' ((lfW S' t').flatMap rwC) t'.l.length)
    (hlf : ∀ m (hm : m < rs.length), m ≠ j → lfW S' rs[m].1 = lfW S rs[m].1) (hid : ∀ x ∈ idOf v', x ∈ idOf rs[j].2 ∨ g.n ≤ x) :
    RR g' r sl (rs.set j (t', v')) S' ∧ (∀ x ∈ fpR r sl (rs.set j (t', v')), x ∈ fpR r sl rs ∨ g.n ≤ x) ∧ ∀ x ∈ X, x ∈ fpR r sl rs := by
  have hn := hf.n
  have hlt := k.lt
  have hmem : ∀ p ∈ rs.set j (t', v'), p = (t', v') ∨ ∃ m, ∃ hm : m < rs.length, m ≠ j ∧ p = rs[m] := by
    intro p hp
    obtain ⟨m, hm, rfl⟩ := List.getElem_of_mem hp
    rw [List.length_set] at hm
    by_cases he : j = m
    · subst he; exact .inl (by simp)
    · exact .inr ⟨m, hm, fun h => he h.symm, by rw [List.getElem_set_ne he]⟩
  have hsep : ∀ m (hm : m < rs.length), m ≠ j → (∀ x ∈ idOf rs[m].2, x ∉ idOf rs[j].2) := by
    intro m hm hne x hx hx'
    have hd := k.dj
    rw [List.pairwise_iff_getElem] at hd
    rcases Nat.lt_or_gt_of_ne hne with h | h
    · exact hd m j hm hj h x hx hx'
    · exact hd j m hj hm h x hx' hx
  refine ⟨⟨by omega, hr, by rw [List.length_set]; exact ho, by rw [List.map_set, k.ts, hts], fun p hp => ?_, k.nr, fun p hp => ?_, fun p hp => ?_, ?_⟩, fun x hx => ?_, fun x hx => ?_⟩
  · rcases hmem p hp with rfl | ⟨m, hm, hne, rfl⟩
    · exact hw
    · rw [hlf m hm hne]
      refine (k.wk rs[m] (List.getElem_mem hm)).fr hf (fun x hx hxX => ?_)
      rcases hX x hxX with h | h | h
      · subst h; exact k.nrv _ (List.getElem_mem hm) hx
      · exact k.ns _ (List.getElem_mem hm) x h hx
      · exact hsep m hm hne x hx h
  · rcases hmem p hp with rfl | ⟨m, hm, hne, rfl⟩
    · intro hx
      rcases hid r hx with h | h
      · exact k.nrv _ (List.getElem_mem hj) h
      · omega
    · exact k.nrv _ (List.getElem_mem hm)
  · rcases hmem p hp with rfl | ⟨m, hm, hne, rfl⟩
    · intro x hx hx'
      rcases hid x hx' with h | h
      · exact k.ns _ (List.getElem_mem hj) x hx h
      · have := k.own.lt x hx; omega
    · exact k.ns _ (List.getElem_mem hm)
  · rw [List.pairwise_iff_getElem]
    intro a b ha hb hab x hx hx'
    rw [List.length_set] at ha hb
    by_cases hja : j = a
    · subst hja
      rw [List.getElem_set_self] at hx
      rw [List.getElem_set_ne (by omega)] at hx'
      rcases hid x hx with h | h
      · exact hsep b hb (by omega) x hx' h
      · have := k.old (List.getElem_mem hb) x hx'; omega
    · rw [List.getElem_set_ne hja] at hx
      by_cases hjb : j = b
      · subst hjb
        rw [List.getElem_set_self] at hx'
        rcases hid x hx' with h | h
        · exact hsep a ha (by omega) x hx h
        · have := k.old (List.getElem_mem ha) x hx; omega
      · rw [List.getElem_set_ne hjb] at hx'
        have hd := k.dj
        rw [List.pairwise_iff_getElem] at hd
        exact hd a b ha hb hab x hx hx'
  · simp only [fpR, List.mem_cons, List.mem_append, List.mem_flatMap] at hx ⊢
    rcases hx with h | h | ⟨p, hp, hx⟩
    · exact .inl (.inl h)
    · exact .inl (.inr (.inl h))
    · rcases hmem p hp with rfl | ⟨m, hm, hne, rfl⟩
      · rcases hid x hx with h | h
        · exact .inl (.inr (.inr ⟨_, List.getElem_mem hj, h⟩))
        · exact .inr h
      · exact .inl (.inr (.inr ⟨_, List.getElem_mem hm, hx⟩))
  · simp only [fpR, List.mem_cons, List.mem_append, List.mem_flatMap]
    rcases hX x hx with h | h | h
    · exact .inl h
    · exact .inr (.inl h)
    · exact .inr (.inr ⟨_, List.getElem_mem hj, h⟩)
/-- what a call leaves. -/
def RP (h : VH) (r : Nat) (F : List Nat) (S' : Sc) (h' : VH) : Prop := ∃ sl' rs', RR h' r sl' rs' S' ∧ Fr h h' F ∧ ∀ x ∈ fpR r sl' rs', x ∈ F ∨ h.n ≤ x
section
variable {sl x y z : Value} {e : Nat}
theorem sr_0 {n m : Nat} {a : Option Addr} : storeObj (.cells [sl, x, y, z] true e) 0 1 (.slice a n m) = some (.cells [.slice a n m, x, y, z] true e) := rfl
theorem sr_1 {v : Int} : storeObj (.cells [sl, x, y, z] true e) 1 1 (.int .i64 v) = some (.cells [sl, .int .i64 v, y, z] true e) := rfl
theorem sr_2 {v : ByteArray} : storeObj (.cells [sl, x, y, z] true e) 2 1 (.string v) = some (.cells [sl, x, .string v, z] true e) := rfl
theorem sr_3 {v : Bool} : storeObj (.cells [sl, x, y, z] true e) 3 1 (.bool v) = some (.cells [sl, x, y, .bool v] true e) := rfl
end
def z0 (p : Tn × Value) : Tn × Value := ({ p.1 with en := 0 }, p.2)
def rsn (rs : List (Tn × Value)) (n : Nat) : List (Tn × Value) := (rs.take n).map z0 ++ rs.drop n
theorem rsn_len {rs : List (Tn × Value)} {n : Nat} (hn : n ≤ rs.length) : (rsn rs n).length = rs.length := by simp [rsn]; omega
theorem rsn_at {rs : List (Tn × Value)} {n : Nat} (hn : n < rs.length) : (rsn rs n)[n]'(by rw [rsn_len (by omega)]; exact hn) = rs[n] := by
  unfold rsn
  rw [List.getElem_append_right (by rw [List.length_map, List.length_take]; omega)]
  simp [Nat.min_eq_left (Nat.le_of_lt hn)]
theorem rsn_set {rs : List (Tn × Value)} {n : Nat} (hn : n < rs.length) : (rsn rs n).set n (z0 rs[n]) = rsn rs (n + 1) := by
  unfold rsn
  have h1 : ((rs.take n).map z0).length = n := by simp; omega
  rw [List.set_append_right _ _ (by omega), h1, Nat.sub_self, List.drop_eq_getElem_cons hn, List.set_cons_zero, List.take_succ_eq_append_getElem hn, List.map_append]
  simp
theorem fpR_z0 {r : Nat} {sl : Value} {rs : List (Tn × Value)} {n : Nat} : fpR r sl (rsn rs n) = fpR r sl rs := by
  have h1 : ∀ l : List (Tn × Value), (l.map z0).flatMap (fun p => idOf p.2) = l.flatMap fun p => idOf p.2 := by
    intro l
    induction l with
    | nil => rfl
    | cons p l ih => simp only [List.map_cons, List.flatMap_cons, ih]; rfl
  unfold fpR rsn
  rw [List.flatMap_append, h1, ← List.flatMap_append, List.take_append_drop]
theorem rrest_ok {h : VH} {r : Nat} {sl : Value} {rs : List (Tn × Value)} {S : Sc} (k : RR h r sl rs S) (hn : rs.length ≤ 16) :
    PCalls Try.prog f_ref20_Sched_rest [.pointer (some ⟨r, 0, none⟩)] h (fun u h' => u = .tuple #[] ∧ RP h r (fpR r sl rs) { S with ts := restS S.ts, ck := 0 } h') := by
  refine PCalls_of_pw st_ref20_Sched_rest (by simp [n_ref20_Sched_rest]) ?_
  rw [b_ref20_Sched_rest]
  have hr := k.rec_
  have hown := k.own
  have hnr := k.nr
  have hlt0 := k.lt
  obtain ⟨a, c, rfl⟩ := k.own.shapeN
  obtain ⟨N, hN⟩ : ∃ N, N = rs.length := ⟨_, rfl⟩
  obtain ⟨g1, hg1⟩ : ∃ g1, g1 = h.set r (.cells (rfL (.slice a rs.length c) { S with ck := 0 }) true 1) := ⟨_, rfl⟩
  have F1 : Fr h g1 [r] := by rw [hg1]; exact Fr.set _ _ (by simp)
  have r1 : g1.get r = .cells (rfL (.slice a rs.length c) { S with ck := 0 }) true 1 := by rw [hg1, VH.get_set_same]
  have k1 : RR g1 r (.slice a rs.length c) rs { S with ck := 0 } := ⟨by have := F1.n; omega, r1, k.own.fr F1 (fun x hx hx' => by simp at hx'; subst hx'; exact k.nr hx), k.ts, fun p hp => (k.wk p hp).fr F1 (fun x hx hx' => by simp at hx'; subst hx'; exact k.nrv p hp hx), k.nr, k.nrv, k.ns, k.dj⟩
  have hst1 : storeObj (.cells (rfL (.slice a rs.length c) S) true 1) 1 1 (.int .i64 0) = some (.cells (rfL (.slice a rs.length c) { S with ck := 0 }) true 1) := rfl
  obtain ⟨sl, hsl⟩ : ∃ s, s = Value.slice a rs.length c := ⟨_, rfl⟩
  rw [← hsl] at k k1 hst1 hg1 hr
  simp (disch := first | omega | (simp only [VH.n_push, VH.n_set]; done) | (simp only [VH.n_push, VH.n_set]; omega)) [B_ref20_Sched_rest, hr, hst1, ← hg1]
  refine pw_loopN (fun n s g => s 0 = .pointer (some ⟨r, 0, none⟩) ∧ s 2 = .int .i64 (n : Int) ∧ RR g r sl (rsn rs n) { S with ts := (rsn rs n).map Prod.fst, ck := 0 } ∧ Fr h g (fpR r sl rs)) N ?_ ?_
  · refine ⟨by simp [upd_apply, s0_apply], by simp [upd_apply], ?_, F1.sub (fun x hx => by simp at hx; subst hx; simp [fpR])⟩
    have : rsn rs 0 = rs := by simp [rsn]
    rw [this, k.ts]
    exact k1
  rintro n s g hnN ⟨e0, e2, kn, F⟩
  have hgr := kn.rec_
  rw [hsl, hN.symm] at hgr
  have hrl : (rsn rs n).length = N := by rw [rsn_len (by omega), hN]
  by_cases hlt : n < N
  · have hltI : (n : Int) < (N : Int) := by omega
    have hkk : IntKind.i64.wrap ((n : Int) + 1) = ((n + 1 : Nat) : Int) := by rw [i64_small (by omega) (by omega)]; omega
    have hj : n < (rsn rs n).length := by omega
    obtain ⟨i, o, c', ds, hv, hc, hi, hg, hez, htk, hq, _, _, _, _, _, hput⟩ := kn.row hj
    rw [hrl] at hv hput
    have hv2 := hv
    rw [hsl, ← hN] at hv
    injection hv with hv _ hvc
    subst hv
    subst hvc
    have hst := el_put (zz := 4) (f := 2) (x := .int .i64 0) htk hq (by decide) rfl rfl
    have hz0 : (rnC (rsn rs n)[n]).set 2 (.int .i64 0) = rnC (z0 rs[n]) := by rw [rsn_at (by omega)]; rfl
    rw [hz0] at hst
    obtain ⟨g2, hg2⟩ : ∃ g2, g2 = g.set i (.cells (wr ds (o + n * 4) (rnC (z0 rs[n]))) true 4) := ⟨_, rfl⟩
    have F2 : Fr g g2 [i] := by rw [hg2]; exact Fr.set _ _ (by simp)
    have i2 : g2.get i = .cells (wr ds (o + n * 4) (rnC (z0 rs[n]))) true 4 := by rw [hg2, VH.get_set_same]
    have hisl : i ∈ idOf sl := by rw [hv2]; simp [idOf]
    have hir : r ≠ i := fun h => kn.nr (h ▸ hisl)
    have hrn : rs[n] ∈ rs := List.getElem_mem _
    obtain ⟨u1, u2, u3⟩ := kn.upd hj F2 (fun x hx => .inr (.inl (by simp at hx; subst hx; exact hisl))) (t' := (z0 rs[n]).1) (v' := rs[n].2) (S' := { S with ts := (rsn rs (n + 1)).map Prod.fst, ck := 0 })
      (by rw [F2.get r kn.lt (by simpa using hir)]; exact kn.rec_)
      (by rw [hrl]; exact hput (z0 rs[n]) g2 (F2.n) i2)
      (by show _ = ((rsn rs n).map Prod.fst).set n _; rw [← List.map_set (f := Prod.fst) (a := z0 rs[n]), rsn_set (by omega)])
      (by
        have h1 := (kn.wk (rsn rs n)[n] (List.getElem_mem _)).fr F2 (fun x hx hx' => by simp at hx'; subst hx'; exact kn.ns _ (List.getElem_mem _) x hisl hx)
        rw [rsn_at (by omega)] at h1
        exact h1)
      (fun m hm hne => rfl) (fun x hx => .inl (by rw [rsn_at (by omega)]; exact hx))
    have hzz : ((z0 rs[n]).1, rs[n].2) = z0 rs[n] := rfl
    rw [hzz, rsn_set (by omega)] at u1
    simp (disch := first | omega | (simp only [VH.n_push, VH.n_set]; done) | (simp only [VH.n_push, VH.n_set]; omega)) [e0, e2, hgr, rl_0, hlt, hltI, hg, hez, hst, ← hg2, hkk]
    exact ⟨u1, F.trans' F2 (fun x hx => .inl (by rw [← fpR_z0 (n := n)]; exact u3 x hx))⟩
  · obtain rfl : n = N := by omega
    simp (disch := first | omega | (simp only [VH.n_push, VH.n_set]; done) | (simp only [VH.n_push, VH.n_set]; omega)) [r_ref20_Sched_rest, e0, e2, hgr, rl_0]
    have h1 : rsn rs n = rs.map z0 := by unfold rsn; rw [List.take_of_length_le (by omega), List.drop_eq_nil_of_le (by omega), List.append_nil]
    rw [← hsl]
    refine ⟨sl, rsn rs n, ?_, F, fun x hx => .inl (by rw [fpR_z0] at hx; exact hx)⟩
    have h2 : (rsn rs n).map Prod.fst = restS S.ts := by rw [h1, ← k.ts]; simp [restS, z0, Function.comp_def]
    rw [← h2]
    exact kn

/- fair, part O2: FairPlays: the reference's Set. -/

theorem bytesLess_eq : ∀ (a b : List UInt8), Op.bytesLess a b = decide (a < b)
  | [], [] => by simp [Op.bytesLess]
  | a :: x, [] => by simp [Op.bytesLess]
  | [], b :: y => by simp [Op.bytesLess]
  | a :: x, b :: y => by
    rw [Op.bytesLess, bytesLess_eq x y]
    by_cases h1 : a < b
    · simp [h1, List.cons_lt_cons_iff]
    · by_cases h2 : a = b
      · subst h2; simp [h1, List.cons_lt_cons_iff]
      · simp [h1, h2, List.cons_lt_cons_iff]
theorem putT_set {x : Tn} : ∀ {ts : List Tn} {j : Nat} (hj : j < ts.length), Uni ts → ts[j].nm = x.nm → putT x ts = ts.set j x
  | [], j, hj, _, _ => by simp at hj
  | t :: ts, 0, hj, hu, h => by simp only [List.getElem_cons_zero] at h; simp [putT, h]
  | t :: ts, j + 1, hj, hu, h => by
    simp only [List.getElem_cons_succ] at h
    have hu' := hu
    unfold Uni at hu'
    rw [List.map_cons, List.nodup_cons] at hu'
    have hne : t.nm ≠ x.nm := fun e => hu'.1 (by rw [e, ← h]; exact List.mem_map_of_mem (List.getElem_mem _))
    simp only [putT, if_neg hne, List.set_cons_succ]
    rw [putT_set (by simpa using hj) hu'.2 h]
theorem insT_take {x : Tn} : ∀ {ts : List Tn} {n : Nat}, n ≤ ts.length → (∀ j (hj : j < ts.length), j < n → ts[j].nm < x.nm) → (∀ (hn : n < ts.length), ¬ ts[n].nm < x.nm) → insT x ts = ts.take n ++ x :: ts.drop n
  | [], n, hn, _, _ => by simp [insT]
  | t :: ts, 0, _, _, h => by
    have h1 : ¬ t.nm < x.nm := h (by simp)
    simp [insT, h1]
  | t :: ts, n + 1, hn, h1, h2 => by
    have h3 : t.nm < x.nm := h1 0 (by simp) (by omega)
    simp only [insT, if_pos h3, List.take_succ_cons, List.drop_succ_cons, List.cons_append]
    rw [insT_take (n := n) (by simpa using hn) (fun j hj hjn => h1 (j + 1) (by simpa using hj) (by omega)) (fun hn' => h2 (by simpa using hn'))]
theorem RP.refl {h : VH} {r : Nat} {sl : Value} {rs : List (Tn × Value)} {S : Sc} (k : RR h r sl rs S) : RP h r (fpR r sl rs) S h := ⟨sl, rs, k, Fr.refl _ _, fun _ hx => .inl hx⟩
theorem Uni.rs {rs : List (Tn × Value)} {S : Sc} (ht : rs.map Prod.fst = S.ts) (hu : Uni S.ts) {m j : Nat} (hm : m < rs.length) (hj : j < rs.length) (hne : m ≠ j) : rs[m].1.nm ≠ rs[j].1.nm := by
  intro e
  have h1 := findT_at ht hu hm rfl
  unfold Uni at hu
  rw [← ht, List.map_map] at hu
  rw [List.nodup_iff_pairwise_ne, List.pairwise_map, List.pairwise_iff_getElem] at hu
  rcases Nat.lt_or_gt_of_ne hne with h | h
  · exact hu m j hm hj h e
  · exact hu j m hj hm h e.symm
def RSet (r : Nat) (nm : List UInt8) (w : Int) (rs : List (Tn × Value)) (g : VH) (n : Nat) (s : Slots) (g' : VH) : Prop := ∃ (a : Option Addr) (c : Nat), (s 0 = .pointer (some ⟨r, 0, none⟩) ∧ s 1 = .string (strB nm) ∧ s 2 = .int .i64 w ∧ s 9 = .int .i64 (n : Int) ∧ s 8 = .slice a n c) ∧
  OwnSl g' 4 (.slice a n c) ((rs.take n).flatMap rnC) n ∧ Fr g g' [] ∧ (∀ x ∈ idOf (.slice a n c), g.n ≤ x) ∧ ∀ j (hj : j < rs.length), j < n → rs[j].1.nm < nm
def zR : List Value := [.string ⟨#[]⟩, .int .i64 0, .int .i64 0, .slice none 0 0]
theorem zR_ : [Value.string ⟨#[]⟩, .int .i64 0, .int .i64 0, .slice none 0 0] = zR := rfl
theorem rset_ok {h : VH} {r : Nat} {sl : Value} {rs : List (Tn × Value)} {S : Sc} (k : RR h r sl rs S) {b : Int} (ok : OkS b S) {nm : List UInt8} {w : Int} :
    PCalls Try.prog f_ref20_Sched_Set [.pointer (some ⟨r, 0, none⟩), .string (strB nm), .int .i64 w] h (fun u h' => u = .int .i64 (setS S nm w).1 ∧ RP h r (fpR r sl rs) (setS S nm w).2 h') := by
  refine PCalls_of_pw st_ref20_Sched_Set (by simp [n_ref20_Sched_Set]) ?_
  rw [b_ref20_Sched_Set]
  have hr := k.rec_
  have hrl := k.len
  have hn : rs.length ≤ 16 := by rw [k.len]; exact ok.len
  by_cases hw1 : w < 1
  · have hs : setS S nm w = (1, S) := by simp [setS, hw1]
    rw [hs]
    simp (disch := first | omega | (simp only [VH.n_push, VH.n_set]; done) | (simp only [VH.n_push, VH.n_set]; omega)) [r_ref20_Sched_Set, B_ref20_Sched_Set, hw1]
    exact RP.refl k
  by_cases hw2 : 16 < w
  · have hs : setS S nm w = (1, S) := by simp [setS, hw2]
    rw [hs]
    simp (disch := first | omega | (simp only [VH.n_push, VH.n_set]; done) | (simp only [VH.n_push, VH.n_set]; omega)) [r_ref20_Sched_Set, B_ref20_Sched_Set, hw1, hw2]
    exact RP.refl k
  have hw : ¬ (w < 1 ∨ 16 < w) := by omega
  simp (disch := first | omega | (simp only [VH.n_push, VH.n_set]; done) | (simp only [VH.n_push, VH.n_set]; omega)) [B_ref20_Sched_Set, hw1, hw2]
  refine (rfind_ok k hn (nm := nm)).mono ?_
  rintro u g ⟨hat, hg⟩
  subst hg
  rcases hat with ⟨j, hj, hnm, rfl⟩ | ⟨rfl, hno⟩
  · obtain ⟨i, o, c, ds, hsl, hc, hi, hg, hez, htk, hq, _, _, _, hl3, _, hput⟩ := k.row hj
    obtain ⟨a2, c2, hsh⟩ := (k.wk rs[j] (List.getElem_mem _)).shapeN
    rw [hsh] at hl3
    have hfd := findT_at k.ts ok.ord.uni hj hnm
    have hj0 : (0 : Int) ≤ (j : Int) := by omega
    have hjI : (j : Int) < (rs.length : Int) := by omega
    obtain ⟨M, hM⟩ : ∃ M, M = rs[j].1.l.length := ⟨_, rfl⟩
    rw [← hM] at hl3
    have hgr := hr
    rw [hsl] at hgr
    by_cases hl : rs[j].1.l = []
    · have hM0 : M = 0 := by rw [hM, hl]; rfl
      have h1 : ¬ 0 < M := by omega
      have h1I : ¬ (0 : Int) < (M : Int) := by omega
      have hs : setS S nm w = (0, { S with ts := putT { rs[j].1 with w := w.toNat, en := S.ck } S.ts }) := by simp [setS, hw, hfd, hl]
      have hwI : ((w.toNat : Nat) : Int) = w := by omega
      have hp1 := el_put (zz := 4) (f := 1) (x := .int .i64 w) htk hq (by decide) rfl rfl
      have e1 : (rnC rs[j]).set 1 (.int .i64 w) = rnC ({ rs[j].1 with w := w.toNat }, rs[j].2) := by simp [rnC, hwI]
      rw [e1] at hp1
      obtain ⟨d1, hd1⟩ : ∃ d1, d1 = wr ds (o + j * 4) (rnC ({ rs[j].1 with w := w.toNat }, rs[j].2)) := ⟨_, rfl⟩
      have hdl : d1.length = ds.length := by rw [hd1, wr_length (by rw [rnC_len]; omega)]
      have htk1 : (d1.drop (o + j * 4)).take 4 = rnC ({ rs[j].1 with w := w.toNat }, rs[j].2) := by rw [hd1]; exact el_back (ds := ds) (R := rnC ({ rs[j].1 with w := w.toNat }, rs[j].2)) (q := o + j * 4) (by rw [rnC_len]; omega)
      have hp2 := el_put (zz := 4) (f := 2) (x := .int .i64 S.ck) htk1 (by omega) (by decide) rfl rfl
      have e2 : (rnC ({ rs[j].1 with w := w.toNat }, rs[j].2)).set 2 (.int .i64 S.ck) = rnC ({ rs[j].1 with w := w.toNat, en := S.ck }, rs[j].2) := rfl
      have e3 : wr d1 (o + j * 4) (rnC ({ rs[j].1 with w := w.toNat, en := S.ck }, rs[j].2)) = wr ds (o + j * 4) (rnC ({ rs[j].1 with w := w.toNat, en := S.ck }, rs[j].2)) := by rw [hd1]; exact el_again (by rw [rnC_len]; omega) (by rw [rnC_len, rnC_len])
      rw [e2, e3] at hp2
      rw [← hd1] at hp1
      obtain ⟨g1, hg1⟩ : ∃ g1, g1 = g.set i (.cells d1 true 4) := ⟨_, rfl⟩
      obtain ⟨d2, hd2⟩ : ∃ d2, d2 = wr ds (o + j * 4) (rnC ({ rs[j].1 with w := w.toNat, en := S.ck }, rs[j].2)) := ⟨_, rfl⟩
      rw [← hd2] at hp2
      obtain ⟨g2, hg2⟩ : ∃ g2, g2 = g1.set i (.cells d2 true 4) := ⟨_, rfl⟩
      have F1 : Fr g g1 [i] := by rw [hg1]; exact Fr.set _ _ (by simp)
      have F2 : Fr g1 g2 [i] := by rw [hg2]; exact Fr.set _ _ (by simp)
      have F12 : Fr g g2 [i] := F1.trans F2
      have i1 : g1.get i = .cells d1 true 4 := by rw [hg1, VH.get_set_same]
      have i2 : g2.get i = .cells d2 true 4 := by rw [hg2, VH.get_set_same]
      have hisl : i ∈ idOf sl := by rw [hsl]; simp [idOf]
      have hir : r ≠ i := fun h => k.nr (h ▸ hisl)
      have r1 := (F1.get r k.lt (by simpa using hir)).trans hgr
      have hez1 : eszObj (.cells d1 true 4) 4 = true := rfl
      obtain ⟨u1, u2, u3⟩ := k.upd hj F12 (fun x hx => .inr (.inl (by simp at hx; subst hx; exact hisl))) (t' := { rs[j].1 with w := w.toNat, en := S.ck }) (v' := rs[j].2) (S' := { S with ts := putT { rs[j].1 with w := w.toNat, en := S.ck } S.ts })
        (by rw [F12.get r k.lt (by simpa using hir)]; exact k.rec_)
        (hput _ g2 F12.n (by rw [i2, hd2]))
        (by
          refine putT_set (by rw [← hrl]; exact hj) ok.ord.uni ?_
          simp [← k.ts])
        (by
          have h1 := (k.wk rs[j] (List.getElem_mem _)).fr F12 (fun x hx hx' => by simp at hx'; subst hx'; exact k.ns _ (List.getElem_mem _) x hisl hx)
          have h2 : lfW { S with ts := putT { rs[j].1 with w := w.toNat, en := S.ck } S.ts } { rs[j].1 with w := w.toNat, en := S.ck } = lfW S rs[j].1 := rfl
          rw [h2]
          exact h1)
        (fun m hm hne => rfl) (fun x hx => .inl hx)
      rw [hs]
      simp (disch := first | omega | (simp only [VH.n_push, VH.n_set]; done) | (simp only [VH.n_push, VH.n_set]; omega)) [r_ref20_Sched_Set, hj0, hgr, rl_0, rl_1, hj, hjI, hg, hez, hl3, h1, h1I, hp1, ← hg1, r1, i1, hez1, hp2, ← hg2]
      exact ⟨sl, _, u1, F12.sub u3, u2⟩
    · have hM0 : 0 < M := by rw [hM]; exact List.length_pos_iff.2 hl
      have hM0I : (0 : Int) < (M : Int) := by omega
      have hs : setS S nm w = (200, S) := by simp [setS, hw, hfd, hl]
      rw [hs]
      simp (disch := first | omega | (simp only [VH.n_push, VH.n_set]; done) | (simp only [VH.n_push, VH.n_set]; omega)) [r_ref20_Sched_Set, hj0, hgr, rl_0, hj, hjI, hg, hez, hl3, hM0, hM0I]
      exact RP.refl k
  have hfd := findT_not k.ts hno
  obtain ⟨a, c, hsl⟩ := k.own.shapeN
  obtain ⟨N, hN⟩ : ∃ N, N = rs.length := ⟨_, rfl⟩
  rw [← hN] at hsl hrl hn
  have hgr := hr
  rw [hsl] at hgr
  by_cases h16 : 16 ≤ N
  · have h16I : (16 : Int) ≤ (N : Int) := by omega
    have hs : setS S nm w = (7, S) := by simp [setS, hw, hfd, show 16 ≤ S.ts.length by omega]
    rw [hs]
    simp (disch := first | omega | (simp only [VH.n_push, VH.n_set]; done) | (simp only [VH.n_push, VH.n_set]; omega)) [r_ref20_Sched_Set, hgr, rl_0, h16, h16I]
    exact RP.refl k
  have h16I : ¬ (16 : Int) ≤ (N : Int) := by omega
  obtain ⟨tn, htn⟩ : ∃ tn : Tn, tn = ⟨nm, w.toNat, S.ck, []⟩ := ⟨_, rfl⟩
  have hs : setS S nm w = (0, { S with ts := insT tn S.ts }) := by simp [setS, hw, hfd, show ¬ 16 ≤ S.ts.length by omega, htn]
  rw [hs]
  simp (disch := first | omega | (simp only [VH.n_push, VH.n_set]; done) | (simp only [VH.n_push, VH.n_set]; omega)) [hgr, rl_0, h16, h16I]
  refine pw_loopN (RSet r nm w rs g) N ?_ ?_
  · refine ⟨none, 0, ?_, OwnSl.nil _ _, Fr.refl _ _, by simp [idOf], fun j _ h => by omega⟩
    simp [upd_apply, s0_apply]
  rintro n s g' hnN ⟨a8, c8, ⟨e0, e1, e2, e9, e8⟩, O, F, id8, hlts⟩
  have k' := k.fr0 F
  have hgr' := k'.rec_
  rw [hsl] at hgr'
  by_cases hgo : ∃ hlt : n < rs.length, rs[n].1.nm < nm
  · obtain ⟨hlt, hless⟩ := hgo
    have hlt' : n < N := by omega
    have hltI : (n : Int) < (N : Int) := by omega
    have hkk : IntKind.i64.wrap ((n : Int) + 1) = ((n + 1 : Nat) : Int) := by rw [i64_small (by omega) (by omega)]; omega
    obtain ⟨i, o, c', ds, hv, hc, hi, hg, hez, htk, hq, hl0, _, _, _, hl4, _⟩ := k'.row hlt
    rw [hsl, ← hN] at hv
    injection hv with hv _ hvc
    subst hv
    subst hvc
    have hb : Op.bytesLess (strB rs[n].1.nm).toList (strB nm).toList = true := by rw [strB_toList, strB_toList, bytesLess_eq, decide_eq_true hless]
    obtain ⟨a2, c2, hsh⟩ := (k.wk rs[n] (List.getElem_mem _)).shapeN
    have hfi : fillC zR [(0, 4, .agg (rnC rs[n]).toArray)] = some (rnC rs[n]) := rfl
    have hone : (rnC rs[n]).all Value.oneCell' = true := by rw [rnC, hsh]; rfl
    have hro : rowObj (.cells (rnC rs[n]) true 4) 0 4 = some (rnC rs[n]) := rfl
    obtain ⟨g2, hg2⟩ : ∃ g2, g2 = g'.push (.cells (rnC rs[n]) true 4) := ⟨_, rfl⟩
    have F2 : Fr g' g2 [] := by rw [hg2]; exact Fr_push (Fr.refl _ _)
    have q2 : g2.get g'.n = .cells (rnC rs[n]) true 4 := by rw [hg2, VH.get_push_new]
    obtain ⟨v', g3, hap, O3, F3, id3⟩ := (O.fr F2 (fun _ _ => by simp)).append (bytes := 56) (ys := rnC rs[n]) (k := 1) rfl (by omega)
    obtain ⟨p3, c3, rfl⟩ := O3.shapeN
    have hflat : (rs.take n).flatMap rnC ++ rnC rs[n] = (rs.take (n + 1)).flatMap rnC := by rw [List.take_succ_eq_append_getElem hlt, List.flatMap_append, List.flatMap_singleton]
    rw [hflat] at O3
    have F1n := F.n
    have F2n := F2.n
    have hid : ∀ x ∈ idOf (.slice p3 (n + 1) c3), g.n ≤ x := fun x hx => by
      rcases id3 x hx with h1 | h1
      · exact id8 x h1
      · omega
    simp (disch := first | omega | (simp only [VH.n_push, VH.n_set]; done) | (simp only [VH.n_push, VH.n_set]; omega)) [e0, e1, e9, e8, hgr', rl_0, hlt', hltI, hg, hez, hl0, hb, hl4, zR_, hfi, hone, ← hg2, hro, q2, Option.bind_some, hap, hkk]
    refine ⟨p3, c3, ?_, O3, (F.trans F2).trans' F3 (fun x hx => .inr (id8 x hx)), hid, fun j hj hjn => ?_⟩
    · simp [upd_apply, e0, e1, e2]
    · by_cases hjn' : j = n
      · subst hjn'; exact hless
      · exact hlts j hj (by omega)
  generalize hR : PC.seq (PC.ops (⟨some 87, none, _⟩ :: _)) _ = R
  have tail : ∀ s : Slots, (s 0 = .pointer (some ⟨r, 0, none⟩) ∧ s 1 = .string (strB nm) ∧ s 2 = .int .i64 w ∧ s 9 = .int .i64 (n : Int) ∧ s 8 = .slice a8 n c8) → pw Try.prog R s g' (F_ref20_Sched_Set.ret fun u h' => u = .int .i64 0 ∧ RP g r (fpR r sl rs) { S with ts := insT tn S.ts } h') := by
    clear e0 e1 e2 e9 e8
    rintro s ⟨e0, e1, e2, e9, e8⟩
    rw [← hR]
    obtain ⟨R0, hR0⟩ : ∃ R0, R0 = rnC (tn, .slice none 0 0) := ⟨_, rfl⟩
    have hR0' : R0 = [.string (strB nm), .int .i64 w, .int .i64 S.ck, .slice none 0 0] := by rw [hR0, htn]; simp [rnC]; omega
    have hfi : fillC zR [(0, 1, .string (strB nm)), (1, 1, .int .i64 w), (2, 1, .int .i64 S.ck)] = some R0 := by rw [hR0']; rfl
    have hfi2 : fillC zR [(0, 4, .agg R0.toArray)] = some R0 := by rw [hR0']; rfl
    have hone : R0.all Value.oneCell' = true := by rw [hR0']; rfl
    have hl0 : R0.length = 4 := by rw [hR0']; rfl
    have hro : rowObj (.cells R0 true 4) 0 4 = some R0 := by rw [hR0']; rfl
    obtain ⟨g2, hg2⟩ : ∃ g2, g2 = g'.push (.cells R0 true 4) := ⟨_, rfl⟩
    have F2 : Fr g' g2 [] := by rw [hg2]; exact Fr_push (Fr.refl _ _)
    have q2 : g2.get g'.n = .cells R0 true 4 := by rw [hg2, VH.get_push_new]
    obtain ⟨v', g3, hap, O3, F3, id3⟩ := (O.fr F2 (fun _ _ => by simp)).append (bytes := 56) (ys := R0) (k := 1) hl0 (by omega)
    obtain ⟨p3, c3, rfl⟩ := O3.shapeN
    have F1n := F.n
    have F2n := F2.n
    have F3n := F3.n
    have hid3 : ∀ x ∈ idOf (.slice p3 (n + 1) c3), g.n ≤ x := fun x hx => by
      rcases id3 x hx with h1 | h1
      · exact id8 x h1
      · omega
    have F123 : Fr g g3 [] := (F.trans F2).trans' F3 (fun x hx => .inr (id8 x hx))
    have k3 := k.fr0 F123
    have hgr3 := k3.rec_
    rw [hsl] at hgr3
    have hY := O3.append (bytes := 56) (ys := (rs.drop n).flatMap rnC) (k := N - n) (by rw [flat_len rnC_len]; simp; omega) (by omega)
    obtain ⟨v5, g5, hap5, O5, F5, id5⟩ := hY
    have hN1 : n + 1 + (N - n) = N + 1 := by omega
    rw [hN1] at O5
    obtain ⟨p5, c5, rfl⟩ := O5.shapeN
    have hid5 : ∀ x ∈ idOf (.slice p5 (N + 1) c5), g.n ≤ x := fun x hx => by
      rcases id5 x hx with h1 | h1
      · exact hid3 x h1
      · omega
    have F5' : Fr g g5 [] := F123.trans' F5 (fun x hx => .inr (hid3 x hx))
    have k5 := k.fr0 F5'
    have hgr5 := k5.rec_
    rw [hsl] at hgr5
    obtain ⟨g6, hg6⟩ : ∃ g6, g6 = g5.set r (.cells (rfL (.slice p5 (N + 1) c5) S) true 1) := ⟨_, rfl⟩
    have hst6 : storeObj (.cells (rfL (.slice a N c) S) true 1) 0 1 (.slice p5 (N + 1) c5) = some (.cells (rfL (.slice p5 (N + 1) c5) S) true 1) := rfl
    have F6 : Fr g5 g6 [r] := by rw [hg6]; exact Fr.set _ _ (by simp)
    have hrlt := k.lt
    have hfinal : RP g r (fpR r sl rs) { S with ts := insT tn S.ts } g6 := by
      have hts : insT tn S.ts = S.ts.take n ++ tn :: S.ts.drop n := by
        have hnm0 : tn.nm = nm := by rw [htn]
        have hget : ∀ j (h1 : j < S.ts.length) (h2 : j < rs.length), S.ts[j] = rs[j].1 := fun j h1 h2 => by simp [← k.ts]
        refine insT_take (by omega) (fun j hj hjn => ?_) (fun hn' => ?_)
        · rw [hget j hj (by omega), hnm0]; exact hlts j (by omega) hjn
        · rw [hget n hn' (by omega), hnm0]; exact fun h => hgo ⟨by omega, h⟩
      have hmem : ∀ p ∈ rs.take n ++ (tn, Value.slice none 0 0) :: rs.drop n, p = (tn, Value.slice none 0 0) ∨ p ∈ rs := by
        intro p hp
        rcases List.mem_append.1 hp with h1 | h1
        · exact .inr (List.mem_of_mem_take h1)
        · rcases List.mem_cons.1 h1 with h1 | h1
          · exact .inl h1
          · exact .inr (List.mem_of_mem_drop h1)
      have hlfn : lfW { S with ts := insT tn S.ts } tn = [] := by rw [htn]; rfl
      have F6n := F6.n
      have F5n := F5'.n
      refine ⟨.slice p5 (N + 1) c5, rs.take n ++ (tn, .slice none 0 0) :: rs.drop n, ⟨by omega, by rw [hg6, VH.get_set_same]; rfl, ?_, ?_, fun p hp => ?_, fun hx => ?_, fun p hp => ?_, fun p hp => ?_, ?_⟩, (F5'.sub (by simp)).trans (F6.sub (fun x hx => by simp at hx; subst hx; simp [fpR])), fun x hx => ?_⟩
      · have h1 : (rs.take n ++ (tn, Value.slice none 0 0) :: rs.drop n).length = N + 1 := by simp; omega
        rw [h1]
        have h2 := O5.fr F6 (fun x hx hx' => by simp at hx'; subst hx'; have := hid5 _ hx; omega)
        rw [List.append_assoc, hR0] at h2
        rw [List.flatMap_append, List.flatMap_cons]
        exact h2
      · show _ = insT tn S.ts
        rw [hts, List.map_append, List.map_cons, List.map_take, List.map_drop, k.ts]
      · rcases hmem p hp with rfl | hp
        · show OwnSl g6 4 (.slice none 0 0) ((lfW _ tn).flatMap rwC) tn.l.length
          rw [hlfn, htn]
          exact OwnSl.nil _ _
        · exact (k5.wk p hp).fr F6 (fun x hx hx' => by simp at hx'; subst hx'; exact k.nrv p hp hx)
      · have := hid5 _ hx; omega
      · rcases hmem p hp with rfl | hp
        · simp [idOf]
        · exact k.nrv p hp
      · rcases hmem p hp with rfl | hp
        · intro x _; simp [idOf]
        · intro x hx hx'
          have h1 := hid5 x hx
          have h2 := k.old hp x hx'
          omega
      · have hd := k.dj
        rw [← List.take_append_drop n rs, List.pairwise_append] at hd
        obtain ⟨d1, d2, d3⟩ := hd
        rw [List.pairwise_append, List.pairwise_cons]
        refine ⟨d1, ⟨fun b _ x hx => by simp [idOf] at hx, d2⟩, fun a ha b hb => ?_⟩
        rcases List.mem_cons.1 hb with rfl | hb
        · intro x _; simp [idOf]
        · exact d3 a ha b hb
      · simp only [fpR, List.mem_cons, List.mem_append, List.mem_flatMap] at hx ⊢
        rcases hx with h | h | ⟨p, hp, hx⟩
        · exact .inl (.inl h)
        · exact .inr (hid5 x h)
        · rcases hmem p (by simpa using hp) with rfl | hp
          · simp [idOf] at hx
          · exact .inl (.inr (.inr ⟨p, hp, hx⟩))
    rcases k3.own with ⟨h1, h2, h3⟩ | ⟨i, o, c', ds, h1, h2, h3, h4, h5, h6, h7⟩
    · rw [hsl] at h1
      injection h1 with h1 h1' h1''
      have hn0 : n = 0 := by omega
      subst hn0
      subst h1
      subst h1'
      subst h1''
      have hd0 : (rs.drop 0).flatMap rnC = [] := by rw [List.drop_zero]; exact h2
      rw [hd0] at hap5
      simp (disch := first | omega | (simp only [VH.n_push, VH.n_set]; done) | (simp only [VH.n_push, VH.n_set]; omega)) [r_ref20_Sched_Set, e0, e1, e2, e9, e8, hgr', rl_1, zR_, hfi, hfi2, hone, ← hg2, q2, hro, Option.bind_some, hap, hgr3, rl_0, hap5, hgr5, hst6, ← hg6]
      exact hfinal
    · rw [hsl, ← hN] at h3
      injection h3 with h3 _ hcc
      subst h3
      subst hcc
      have hez : eszObj (.cells ds true 4) 4 = true := rfl
      have hnI : (n : Int) ≤ (N : Int) := by omega
      have hro5 : rowObj (.cells ds true 4) (o + n * 4) ((N - n) * 4) = some ((rs.drop n).flatMap rnC) := by
        have h8 := congrArg List.length h5
        rw [List.length_drop, h6, ← hN] at h8
        have h9 : n * 4 + (N - n) * 4 = N * 4 := by rw [← Nat.add_mul]; congr 1; omega
        simp only [rowObj]
        rw [if_pos (by omega), ← List.drop_drop, h5]
        have h10 : rs.flatMap rnC = (rs.take n).flatMap rnC ++ (rs.drop n).flatMap rnC := by rw [← List.flatMap_append, List.take_append_drop]
        have h11 : ((rs.take n).flatMap rnC).length = n * 4 := by rw [flat_len rnC_len]; congr 1; simp; omega
        have h12 : ((rs.drop n).flatMap rnC).length = (N - n) * 4 := by rw [flat_len rnC_len]; congr 1; simp; omega
        rw [h10, List.drop_left' h11, List.take_of_length_le (by omega)]
      simp (disch := first | omega | (simp only [VH.n_push, VH.n_set]; done) | (simp only [VH.n_push, VH.n_set]; omega)) [r_ref20_Sched_Set, e0, e1, e2, e9, e8, hgr', rl_1, zR_, hfi, hfi2, hone, ← hg2, q2, hro, Option.bind_some, hap, hgr3, rl_0, hez, h4, hnI, hnN, hro5, hap5, hgr5, hst6, ← hg6]
      exact hfinal
  clear hR
  by_cases hlt : n < N
  · have hltI : (n : Int) < (N : Int) := by omega
    have hless : ¬ (rs[n]'(by omega)).1.nm < nm := fun h => hgo ⟨by omega, h⟩
    obtain ⟨i, o, c', ds, hv, hc, hi, hg, hez, htk, hq, hl0, _, _, _, hl4, _⟩ := k'.row (j := n) (by omega)
    rw [hsl, ← hN] at hv
    injection hv with hv _ hvc
    subst hv
    subst hvc
    have hb : Op.bytesLess (strB (rs[n]'(by omega)).1.nm).toList (strB nm).toList = false := by rw [strB_toList, strB_toList, bytesLess_eq, decide_eq_false hless]
    simp (disch := first | omega | (simp only [VH.n_push, VH.n_set]; done) | (simp only [VH.n_push, VH.n_set]; omega)) [e0, e1, e9, e8, hgr', rl_0, hlt, hltI, hg, hez, hl0, hb]
    refine tail _ ?_
    simp [upd_apply, e0, e1, e2, e8, e9]
  · have hltI : ¬ (n : Int) < (N : Int) := by omega
    simp (disch := first | omega | (simp only [VH.n_push, VH.n_set]; done) | (simp only [VH.n_push, VH.n_set]; omega)) [e0, e1, e9, e8, hgr', rl_0, hlt, hltI]
    refine tail _ ?_
    simp [upd_apply, e0, e1, e2, e8, e9]

/- fair, part O3: FairPlays: the reference's Push and Drop. -/

section
variable {x y z v : Value} {ow : Bool} {e : Nat}
theorem lq_0 : loadObj (.cells [x, y, z, v] ow e) 0 none = some x := rfl
theorem lq_1 : loadObj (.cells [x, y, z, v] ow e) 1 none = some y := rfl
theorem lq_2 : loadObj (.cells [x, y, z, v] ow e) 2 none = some z := rfl
theorem lq_3 : loadObj (.cells [x, y, z, v] ow e) 3 none = some v := rfl
theorem lq_A : loadObj (.cells [x, y, z, v] ow e) 0 (some 4) = some (.agg #[x, y, z, v]) := rfl
theorem lq_J : loadObj (.cells [x, y, z, v] ow e) 0 (some 2) = some (.agg #[x, y]) := rfl
theorem sq_2 {n : Int} : storeObj (.cells [x, y, z, v] true e) 2 1 (.int .i64 n) = some (.cells [x, y, .int .i64 n, v] true e) := rfl
theorem sq_3 {a : Option Addr} {n c : Nat} : storeObj (.cells [x, y, z, v] true e) 3 1 (.slice a n c) = some (.cells [x, y, z, .slice a n c] true e) := rfl
theorem sq_3i {n : Int} : storeObj (.cells [x, y, z, v] true e) 3 1 (.int .i64 n) = some (.cells [x, y, z, .int .i64 n] true e) := rfl
end
theorem lfW_push {b : Int} {S : Sc} (ok : OkS b S) {t : Tn} (ht : t ∈ S.ts) {w : Wk} {en : Int} {S' : Sc} (h1 : S'.sv = S.sv) (h2 : S'.had = S.had) : lfW S' { t with l := t.l ++ [w], en := en } = lfW S t ++ [(w, w.j.cost)] := by
  unfold lfW
  cases hl : t.l with
  | nil =>
    have h := had_zero ok ht hl
    unfold hadOf at h
    simp only [List.nil_append, h1, h2]
    by_cases he : S.sv = t.nm
    · rw [if_pos he.symm] at h; rw [if_pos he, h]; simp
    · rw [if_neg he]; simp
  | cons x q => simp [h1, h2]
theorem rpush_ok {h : VH} {r : Nat} {sl : Value} {rs : List (Tn × Value)} {S : Sc} (k : RR h r sl rs S) {b : Int} (ok : OkS b S) (hb : b ≤ 1000000000000000000) {nm : List UInt8} {q : Jb} :
    PCalls Try.prog f_ref20_Sched_Push [.pointer (some ⟨r, 0, none⟩), .string (strB nm), jbV q] h (fun u h' => u = .int .i64 (pushS S nm q).1 ∧ RP h r (fpR r sl rs) (pushS S nm q).2 h') := by
  refine PCalls_of_pw st_ref20_Sched_Push (by simp [n_ref20_Sched_Push]) ?_
  rw [b_ref20_Sched_Push]
  have hn : rs.length ≤ 16 := by rw [k.len]; exact ok.len
  have hrlt := k.lt
  obtain ⟨p, hp⟩ : ∃ p, p = h.n := ⟨_, rfl⟩
  obtain ⟨g0, hg0⟩ : ∃ g0, g0 = h.push (.cells [.int .i64 q.id, .int .i64 q.cost] true 1) := ⟨_, rfl⟩
  have F0 : Fr h g0 [] := by rw [hg0]; exact Fr_push (Fr.refl _ _)
  have n0 : g0.n = p + 1 := by rw [hg0, hp]; rfl
  have p0 : g0.get p = .cells [.int .i64 q.id, .int .i64 q.cost] true 1 := by rw [hg0, hp, VH.get_push_new]
  have hone : [Value.int .i64 q.id, .int .i64 q.cost].all Value.oneCell' = true := rfl
  have k0 := k.fr0 F0
  have hr0 := k0.rec_
  have hRP : RP h r (fpR r sl rs) S g0 := ⟨sl, rs, k0, F0.sub (by simp), fun _ hx => .inl hx⟩
  simp (disch := first | omega | (simp only [VH.n_push, VH.n_set]; done) | (simp only [VH.n_push, VH.n_set]; omega)) [B_ref20_Sched_Push, jbV, hone, ← hp, ← hg0]
  refine (rfind_ok k0 hn (nm := nm)).mono ?_
  rintro u gx ⟨hat, hgx⟩
  rw [hgx]
  clear hgx gx
  rcases hat with ⟨j, hj, hnm, rfl⟩ | ⟨rfl, hno⟩
  rotate_left
  · have hs : pushS S nm q = (5, S) := by simp [pushS, findT_not k.ts hno]
    rw [hs]
    simp (disch := first | omega | (simp only [VH.n_push, VH.n_set]; done) | (simp only [VH.n_push, VH.n_set]; omega)) [r_ref20_Sched_Push]
    exact hRP
  have hfd := findT_at k.ts ok.ord.uni hj hnm
  have hj0 : ¬ (j : Int) < 0 := by omega
  by_cases hc1 : q.cost < 1
  · have hs : pushS S nm q = (1, S) := by simp [pushS, hfd, hc1]
    rw [hs]
    simp (disch := first | omega | (simp only [VH.n_push, VH.n_set]; done) | (simp only [VH.n_push, VH.n_set]; omega)) [r_ref20_Sched_Push, hj0, p0, lA_1, hc1]
    exact hRP
  by_cases hc2 : 1000 < q.cost
  · have hs : pushS S nm q = (1, S) := by simp [pushS, hfd, hc2]
    rw [hs]
    simp (disch := first | omega | (simp only [VH.n_push, VH.n_set]; done) | (simp only [VH.n_push, VH.n_set]; omega)) [r_ref20_Sched_Push, hj0, p0, lA_1, hc1, hc2]
    exact hRP
  have hc : ¬ (q.cost < 1 ∨ 1000 < q.cost) := by omega
  obtain ⟨i, o, c, ds, hsl, hcc, hi, hg, hez, htk, hq, _, _, _, _, hl4, hput⟩ := k0.row hj
  obtain ⟨a2, c2, hsh⟩ := (k0.wk rs[j] (List.getElem_mem _)).shapeN
  have hjI : (j : Int) < (rs.length : Int) := by omega
  have hgr := hr0
  rw [hsl] at hgr
  obtain ⟨M, hM⟩ : ∃ M, M = rs[j].1.l.length := ⟨_, rfl⟩
  rw [← hM] at hsh
  obtain ⟨t, ht⟩ : ∃ t, t = rs[j].1 := ⟨_, rfl⟩
  have htm : t ∈ S.ts := by rw [ht]; exact (findT_some hfd).1
  have okt := ok.ten t htm
  obtain ⟨L0, hL0⟩ : ∃ L0 : List Value, L0 = [.string (strB t.nm), .int .i64 (t.w : Int), .int .i64 t.en, .slice a2 M c2] := ⟨_, rfl⟩
  have hrn : rnC rs[j] = L0 := by rw [hL0, ht]; simp [rnC, hsh]
  rw [hrn, hL0] at hl4
  obtain ⟨tp, htp⟩ : ∃ tp, tp = g0.n := ⟨_, rfl⟩
  have hst1 : storeObj (.cells zR true 1) 0 4 (.agg #[.string (strB t.nm), .int .i64 (t.w : Int), .int .i64 t.en, .slice a2 M c2]) = some (.cells L0 true 1) := by rw [hL0]; rfl
  obtain ⟨g1, hg1⟩ : ∃ g1, g1 = (g0.push (.cells zR true 1)).set tp (.cells L0 true 1) := ⟨_, rfl⟩
  have hztp : ∀ x, (g0.push x).get tp = x := fun x => by rw [htp]; exact VH.get_push_new _ _
  have F1 : Fr g0 g1 [] := by rw [hg1]; exact Fr_set (Fr_push (Fr.refl _ _)) (by omega)
  have t1 : g1.get tp = .cells L0 true 1 := by rw [hg1, VH.get_set_same]
  have n1 : g1.n = tp + 1 := by rw [hg1, htp]; simp
  by_cases h16 : 16 ≤ M
  · have h16I : (16 : Int) ≤ (M : Int) := by omega
    have hs : pushS S nm q = (200, S) := by simp [pushS, hfd, hc, ← hM, h16]
    rw [hs]
    rw [hL0] at hst1 hg1 t1
    simp (disch := first | omega | (simp only [VH.n_push, VH.n_set]; done) | (simp only [VH.n_push, VH.n_set]; omega)) [r_ref20_Sched_Push, hj0, p0, lA_1, hc1, hc2, hgr, rl_0, hj, hjI, hg, hez, hl4, zR_, ← htp, hztp, hst1, ← hg1, t1, lq_3, h16, h16I]
    exact ⟨sl, rs, k0.fr0 F1, (F0.trans F1).sub (by simp), fun _ hx => .inl hx⟩
  have h16I : ¬ (16 : Int) ≤ (M : Int) := by omega
  obtain ⟨st, hst⟩ : ∃ st, st = startS S t := ⟨_, rfl⟩
  have hkw := kw_w okt
  have hkn := kw_nn t
  obtain ⟨kk, hkk⟩ : ∃ kk, kk = kw t := ⟨_, rfl⟩
  rw [← hkk] at hkw hkn
  have hw1 := okt.w1
  have hw16 := okt.w16
  have hkb : kk ≤ 720720 := by
    have h1 := mul_mono (show (1 : Int) ≤ (t.w : Int) by omega) hkn
    rw [Int.one_mul, Int.mul_comm, hkw] at h1
    exact h1
  obtain ⟨ec, hec⟩ : ∃ ec, ec = q.cost * kk := ⟨_, rfl⟩
  have hec0 : 0 ≤ ec := by rw [hec]; exact Int.mul_nonneg (by omega) hkn
  have hec1 : ec ≤ 1000 * 720720 := by rw [hec]; exact Int.mul_le_mul (by omega) hkb hkn (by decide)
  have y1 : IntKind.i64.wrap (q.cost * 720720) = q.cost * 720720 := i64_small (by omega) (by omega)
  have y2 : (q.cost * 720720).tdiv (t.w : Int) = ec := by
    rw [← hkw, ← Int.mul_assoc, ← hec]
    exact Int.mul_tdiv_cancel _ (by omega)
  have y2' : IntKind.i64.wrap ((q.cost * 720720).tdiv (t.w : Int)) = ec := by rw [y2]; exact i64_small (by omega) (by omega)
  have hwz : ¬ (t.w : Int) = 0 := by omega
  have hwz' : ¬ t.w = 0 := by omega
  have hst0 : 0 ≤ st ∧ st ≤ b := by
    rw [hst]
    have h1 := okt.en0
    have h2 := okt.enb
    have h3 := ok.ck0
    have h4 := ok.ckb
    unfold startS
    split <;> omega
  have y3 : IntKind.i64.wrap (st + ec) = st + ec := i64_small (by omega) (by omega)
  obtain ⟨L2, hL2⟩ : ∃ L2 : List Value, L2 = [.string (strB t.nm), .int .i64 (t.w : Int), .int .i64 (st + ec), .slice a2 M c2] := ⟨_, rfl⟩
  obtain ⟨g2, hg2⟩ : ∃ g2, g2 = g1.set tp (.cells L2 true 1) := ⟨_, rfl⟩
  have F2 : Fr g0 g2 [] := by rw [hg2]; exact Fr_set F1 (by omega)
  have t2 : g2.get tp = .cells L2 true 1 := by rw [hg2, VH.get_set_same]
  have n2 : g2.n = tp + 1 := by rw [hg2]; exact n1
  have p1 := (F1.get p (by omega) (by simp)).trans p0
  have p2 := (F2.get p (by omega) (by simp)).trans p0
  obtain ⟨W0, hW0⟩ : ∃ W0 : List Value, W0 = [.int .i64 q.id, .int .i64 q.cost, .int .i64 st, .int .i64 q.cost] := ⟨_, rfl⟩
  have hfi : fillC [.int .i64 0, .int .i64 0, .int .i64 0, .int .i64 0] [(0, 2, .agg #[.int .i64 q.id, .int .i64 q.cost]), (2, 1, .int .i64 st), (3, 1, .int .i64 q.cost)] = some W0 := by rw [hW0]; rfl
  have hfi2 : fillC [.int .i64 0, .int .i64 0, .int .i64 0, .int .i64 0] [(0, 4, .agg W0.toArray)] = some W0 := by rw [hW0]; rfl
  have hone2 : W0.all Value.oneCell' = true := by rw [hW0]; rfl
  have hro : rowObj (.cells W0 true 4) 0 4 = some W0 := by rw [hW0]; rfl
  obtain ⟨g3, hg3⟩ : ∃ g3, g3 = g2.push (.cells W0 true 4) := ⟨_, rfl⟩
  have F3 : Fr g0 g3 [] := by rw [hg3]; exact Fr_push F2
  have q3 : g3.get g2.n = .cells W0 true 4 := by rw [hg3, VH.get_push_new]
  have n3 : g3.n = tp + 2 := by rw [hg3]; simp [n2]
  have t3 : g3.get tp = .cells L2 true 1 := by rw [hg3, VH.get_push_lt _ _ (by omega)]; exact t2
  have O0 := (k0.wk rs[j] (List.getElem_mem _)).fr F3 (fun _ _ => by simp)
  have hvlt := (k0.wk rs[j] (List.getElem_mem _)).lt
  rw [hsh, ← hM] at O0
  rw [hsh] at hvlt
  obtain ⟨v', g4, hap, O4, F4, id4⟩ := O0.append (bytes := 32) (ys := W0) (k := 1) (by rw [hW0]; rfl) (by omega)
  obtain ⟨a4, c4, rfl⟩ := O4.shapeN
  have F04 : Fr g0 g4 (idOf (.slice a2 M c2)) := (F3.sub (by simp)).trans F4
  have n4 := F4.n
  have htpv : tp ∉ idOf (.slice a2 M c2) := fun hx => by have := hvlt _ hx; omega
  have t4 := (F4.get tp (by omega) htpv).trans t3
  obtain ⟨L5, hL5⟩ : ∃ L5 : List Value, L5 = [.string (strB t.nm), .int .i64 (t.w : Int), .int .i64 (st + ec), .slice a4 (M + 1) c4] := ⟨_, rfl⟩
  obtain ⟨g5, hg5⟩ : ∃ g5, g5 = g4.set tp (.cells L5 true 1) := ⟨_, rfl⟩
  have F05 : Fr g0 g5 (idOf (.slice a2 M c2)) := by rw [hg5]; exact F04.trans' (Fr.set g4 _ (i := tp) (X := [tp]) (by simp)) (fun y hy => .inr (by simp at hy; omega))
  have t5 : g5.get tp = .cells L5 true 1 := by rw [hg5, VH.get_set_same]
  have hid4 : ∀ x ∈ idOf (.slice a4 (M + 1) c4), x ∈ idOf rs[j].2 ∨ tp < x := fun x hx => by
    rcases id4 x hx with h1 | h1
    · rw [hsh]; exact .inl h1
    · exact .inr (by omega)
  have hisl : i ∈ idOf sl := by rw [hsl]; simp [idOf]
  have hiv : i ∉ idOf (.slice a2 M c2) := by rw [← hsh]; exact k.ns _ (List.getElem_mem _) i hisl
  have hrv : r ∉ idOf (.slice a2 M c2) := by rw [← hsh]; exact k.nrv _ (List.getElem_mem _)
  have hir : r ≠ i := fun h => k.nr (h ▸ hisl)
  have i5 : g5.get i = .cells ds true 4 := (F05.get i hi hiv).trans hg
  have r5 := (F05.get r k0.lt hrv).trans hgr
  obtain ⟨t', ht'⟩ : ∃ t' : Tn, t' = { t with l := t.l ++ [⟨q, st⟩], en := st + ec } := ⟨_, rfl⟩
  have hrn5 : rnC (t', .slice a4 (M + 1) c4) = L5 := by rw [hL5, ht']; rfl
  have hput5 := el_putN (ds := ds) (R := L5) (q := o + j * 4) (z := 4) hq (by rw [hL5]; rfl) (by rw [hL5]; rfl) (zz := 4)
  rw [hL5] at hput5
  obtain ⟨d6, hd6⟩ : ∃ d6, d6 = wr ds (o + j * 4) [.string (strB t.nm), .int .i64 (t.w : Int), .int .i64 (st + ec), .slice a4 (M + 1) c4] := ⟨_, rfl⟩
  rw [← hd6] at hput5
  obtain ⟨g6, hg6⟩ : ∃ g6, g6 = g5.set i (.cells d6 true 4) := ⟨_, rfl⟩
  have i6 : g6.get i = .cells d6 true 4 := by rw [hg6, VH.get_set_same]
  have F56 : Fr g5 g6 [i] := by rw [hg6]; exact Fr.set _ _ (by simp)
  have F06 : Fr g0 g6 (i :: idOf rs[j].2) := by
    rw [hsh]
    exact (F05.sub (fun x hx => List.mem_cons_of_mem _ hx)).trans (F56.sub (fun x hx => by simp at hx; subst hx; exact List.mem_cons_self ..))
  have hS : pushS S nm q = (0, { S with ts := putT t' S.ts }) := by
    have : (720720 / t.w : Nat) = kk := by rw [hkk]; rfl
    simp only [pushS, hfd]
    rw [if_neg hc, if_neg (by omega), ht', hec, hst, ← this, ht]
  have hlen : t.l.length = M := by rw [hM, ht]
  have hnm' : t'.nm = rs[j].1.nm := by rw [ht', ht]
  obtain ⟨u1, u2, u3⟩ := k0.upd hj F06 (fun x hx => (List.mem_cons.1 hx).elim (fun e => .inr (.inl (e ▸ hisl))) (fun h => .inr (.inr h))) (t' := t') (v' := .slice a4 (M + 1) c4) (S' := { S with ts := putT t' S.ts })
    (by rw [F06.get r k0.lt (by rw [hsh]; simp only [List.mem_cons, not_or]; exact ⟨hir, hrv⟩)]; exact hr0)
    (hput (t', .slice a4 (M + 1) c4) g6 F06.n (by rw [i6, hd6, hrn5, hL5]))
    (putT_set (by rw [← k.len]; exact hj) ok.ord.uni (by rw [hnm']; simp [← k.ts]))
    (by
      have h1 : lfW { S with ts := putT t' S.ts } t' = lfW S t ++ [(⟨q, st⟩, q.cost)] := by rw [ht']; exact lfW_push ok htm rfl rfl
      rw [h1, List.flatMap_append, List.flatMap_singleton]
      have h2 : t'.l.length = M + 1 := by rw [ht']; simp [hlen]
      rw [h2, ht]
      have h3 := O4.fr (Fr.set g4 (.cells L5 true 1) (i := tp) (X := [tp]) (by simp)) (fun x hx hx' => by
        simp at hx'; subst hx'
        rcases hid4 _ hx with h | h
        · rw [hsh] at h; exact htpv h
        · omega)
      rw [← hg5] at h3
      have h4 := h3.fr F56 (fun x hx hx' => by
        simp at hx'; subst hx'
        rcases hid4 _ hx with h | h
        · rw [hsh] at h; exact hiv h
        · omega)
      rw [hW0] at h4
      exact h4)
    (fun m hm hne => rfl) (fun x hx => (hid4 x hx).imp id (fun h => by omega))
  rw [hS]
  have hfin : RP h r (fpR r sl rs) { S with ts := putT t' S.ts } g6 := ⟨sl, _, u1, (F0.sub (by simp)).trans (F06.sub u3), fun x hx => (u2 x hx).imp id (fun h => by omega)⟩
  rw [hL0] at hst1 hg1 t1
  rw [hL2] at hg2 t2 t3 t4
  rw [hL5] at hg5 t5
  rw [hW0] at hfi hfi2 hone2 hro hg3 q3 hap
  by_cases hck : t.en < S.ck
  · have hsv : st = S.ck := by rw [hst]; unfold startS; split <;> omega
    rw [← hsv] at hck
    have hr1 : loadObj (.cells (rfL (.slice (some ⟨i, o, none⟩) rs.length c) S) true 1) 1 none = some (.int .i64 st) := by rw [hsv]; rfl
    have r1 := (F1.get r k0.lt (by simp)).trans hgr
    simp (disch := first | omega | (simp only [VH.n_push, VH.n_set]; done) | (simp only [VH.n_push, VH.n_set]; omega)) [r_ref20_Sched_Push, hj0, p0, lA_1, hc1, hc2, hgr, rl_0, hj, hjI, hg, hez, hl4, zR_, ← htp, hztp, hst1, ← hg1, t1, lq_3, h16, h16I, lq_2, r1, hr1, hck, p1, y1, lq_1, hwz, hwz', y2', y3, sq_2, ← hg2, t2, p2, l2_A, lA_0, hfi, hfi2, hone2, ← hg3, q3, hro, Option.bind_some, hap, t4, sq_3, ← hg5, r5, t5, lq_A, i5, hput5, ← hg6]
    exact hfin
  · have hsv : st = t.en := by rw [hst]; unfold startS; split <;> omega
    have r1 := (F1.get r k0.lt (by simp)).trans hgr
    rw [← hsv] at hck t1 hg1 hst1 hl4
    simp (disch := first | omega | (simp only [VH.n_push, VH.n_set]; done) | (simp only [VH.n_push, VH.n_set]; omega)) [r_ref20_Sched_Push, hj0, p0, lA_1, hc1, hc2, hgr, rl_0, rl_1, hj, hjI, hg, hez, hl4, zR_, ← htp, hztp, hst1, ← hg1, t1, lq_3, h16, h16I, lq_2, r1, hck, p1, y1, lq_1, hwz, hwz', y2', y3, sq_2, ← hg2, t2, p2, l2_A, lA_0, hfi, hfi2, hone2, ← hg3, q3, hro, Option.bind_some, hap, t4, sq_3, ← hg5, r5, t5, lq_A, i5, hput5, ← hg6]
    exact hfin

/- fair, part O4: FairPlays: the reference's Drop and Step. -/

/-! ### rows, changed one by one -/
def rsf (f : Tn × Value → Tn × Value) (rs : List (Tn × Value)) (n : Nat) : List (Tn × Value) := (rs.take n).map f ++ rs.drop n
theorem rsf_len {f : Tn × Value → Tn × Value} {rs : List (Tn × Value)} {n : Nat} (hn : n ≤ rs.length) : (rsf f rs n).length = rs.length := by simp [rsf]; omega
theorem rsf_at {f : Tn × Value → Tn × Value} {rs : List (Tn × Value)} {n : Nat} (hn : n < rs.length) : (rsf f rs n)[n]'(by rw [rsf_len (by omega)]; exact hn) = rs[n] := by
  unfold rsf
  rw [List.getElem_append_right (by rw [List.length_map, List.length_take]; omega)]
  simp [Nat.min_eq_left (Nat.le_of_lt hn)]
theorem rsf_set {f : Tn × Value → Tn × Value} {rs : List (Tn × Value)} {n : Nat} (hn : n < rs.length) : (rsf f rs n).set n (f rs[n]) = rsf f rs (n + 1) := by
  unfold rsf
  have h1 : ((rs.take n).map f).length = n := by simp; omega
  rw [List.set_append_right _ _ (by omega), h1, Nat.sub_self, List.drop_eq_getElem_cons hn, List.set_cons_zero, List.take_succ_eq_append_getElem hn, List.map_append]
  simp
theorem rsf_all {f : Tn × Value → Tn × Value} {rs : List (Tn × Value)} : rsf f rs rs.length = rs.map f := by simp [rsf]
def d0 (p : Tn × Value) : Tn × Value := ({ p.1 with l := [] }, .slice none 0 0)
theorem fpR_set {r : Nat} {sl : Value} {rs : List (Tn × Value)} {j : Nat} {p : Tn × Value} : ∀ x ∈ fpR r sl (rs.set j p), x ∈ fpR r sl rs ∨ x ∈ idOf p.2 := by
  intro x hx
  simp only [fpR, List.mem_cons, List.mem_append, List.mem_flatMap] at hx ⊢
  rcases hx with h | h | ⟨q, hq, hx⟩
  · exact .inl (.inl h)
  · exact .inl (.inr (.inl h))
  · rcases List.mem_or_eq_of_mem_set hq with h | h
    · exact .inl (.inr (.inr ⟨q, h, hx⟩))
    · subst h; exact .inr hx
/-- the record alone is another one. -/
theorem RR.record {g g' : VH} {r : Nat} {sl : Value} {rs : List (Tn × Value)} {S S' : Sc} (k : RR g r sl rs S) (hf : Fr g g' [r]) (hr : g'.get r = .cells (rfL sl S') true 1) (hts : S'.ts = S.ts) (hl : ∀ p ∈ rs, lfW S' p.1 = lfW S p.1) : RR g' r sl rs S' :=
  ⟨by have := hf.n; have := k.lt; omega, hr, k.own.fr hf (fun x hx hx' => by simp at hx'; subst hx'; exact k.nr hx), by rw [hts]; exact k.ts, fun p hp => by rw [hl p hp]; exact (k.wk p hp).fr hf (fun x hx hx' => by simp at hx'; subst hx'; exact k.nrv p hp hx), k.nr, k.nrv, k.ns, k.dj⟩
theorem rdrop_ok {h : VH} {r : Nat} {sl : Value} {rs : List (Tn × Value)} {S : Sc} (k : RR h r sl rs S) {b : Int} (ok : OkS b S) :
    PCalls Try.prog f_ref20_Sched_Drop [.pointer (some ⟨r, 0, none⟩)] h (fun u h' => u = .int .i64 (dropS S).1 ∧ RP h r (fpR r sl rs) (dropS S).2 h') := by
  refine PCalls_of_pw st_ref20_Sched_Drop (by simp [n_ref20_Sched_Drop]) ?_
  rw [b_ref20_Sched_Drop]
  have hn : rs.length ≤ 16 := by rw [k.len]; exact ok.len
  simp (disch := first | omega | (simp only [VH.n_push, VH.n_set]; done) | (simp only [VH.n_push, VH.n_set]; omega)) [B_ref20_Sched_Drop]
  refine (rleft_ok k hn (fun t ht => (ok.ten t ht).len)).mono ?_
  rintro u gx ⟨rfl, hgx⟩
  rw [hgx]
  clear hgx gx
  obtain ⟨a, c, hsl⟩ := k.own.shapeN
  obtain ⟨N, hN⟩ : ∃ N, N = rs.length := ⟨_, rfl⟩
  rw [← hN] at hsl hn
  obtain ⟨ls, hls⟩ : ∃ ls, ls = lenSum S.ts := ⟨_, rfl⟩
  rw [← hls]
  simp (disch := first | omega | (simp only [VH.n_push, VH.n_set]; done) | (simp only [VH.n_push, VH.n_set]; omega)) []
  refine pw_loopN (fun n s g => s 0 = .pointer (some ⟨r, 0, none⟩) ∧ s 3 = .int .i64 ls ∧ s 4 = .int .i64 (n : Int) ∧ RR g r sl (rsf d0 rs n) { S with ts := (rsf d0 rs n).map Prod.fst } ∧ Fr h g (fpR r sl rs) ∧ ∀ x ∈ fpR r sl (rsf d0 rs n), x ∈ fpR r sl rs) N ?_ ?_
  · have : rsf d0 rs 0 = rs := by simp [rsf]
    refine ⟨by simp [upd_apply, s0_apply], by simp [upd_apply], by simp [upd_apply], ?_, Fr.refl _ _, by rw [this]; exact fun x hx => hx⟩
    rw [this, k.ts]
    exact k
  rintro n s g hnN ⟨e0, e3, e4, kn, F, hfp⟩
  have hgr := kn.rec_
  rw [hsl] at hgr
  have hrl : (rsf d0 rs n).length = N := by rw [rsf_len (by omega), hN]
  by_cases hlt : n < N
  · have hltI : (n : Int) < (N : Int) := by omega
    have hkk : IntKind.i64.wrap ((n : Int) + 1) = ((n + 1 : Nat) : Int) := by rw [i64_small (by omega) (by omega)]; omega
    have hj : n < (rsf d0 rs n).length := by omega
    obtain ⟨i, o, c', ds, hv, hc, hi, hg, hez, htk, hq, _, _, _, _, _, hput⟩ := kn.row hj
    rw [hrl] at hv hput
    have hv2 := hv
    rw [hsl] at hv
    injection hv with hv _ hvc
    subst hv
    subst hvc
    have hst := el_put (zz := 4) (f := 3) (x := .slice none 0 0) htk hq (by decide) rfl rfl
    obtain ⟨d1, hd1⟩ : ∃ d1, d1 = wr ds (o + n * 4) ((rnC (rsf d0 rs n)[n]).set 3 (.slice none 0 0)) := ⟨_, rfl⟩
    rw [← hd1] at hst
    rw [rsf_at (by omega)] at hd1
    obtain ⟨g2, hg2⟩ : ∃ g2, g2 = g.set i (.cells d1 true 4) := ⟨_, rfl⟩
    have F2 : Fr g g2 [i] := by rw [hg2]; exact Fr.set _ _ (by simp)
    have i2 : g2.get i = .cells d1 true 4 := by rw [hg2, VH.get_set_same]
    have hisl : i ∈ idOf sl := by rw [hv2]; simp [idOf]
    have hir : r ≠ i := fun h => kn.nr (h ▸ hisl)
    obtain ⟨u1, u2, u3⟩ := kn.upd hj F2 (fun x hx => .inr (.inl (by simp at hx; subst hx; exact hisl))) (t' := (d0 rs[n]).1) (v' := (d0 rs[n]).2) (S' := { S with ts := (rsf d0 rs (n + 1)).map Prod.fst })
      (by rw [F2.get r kn.lt (by simpa using hir)]; exact kn.rec_)
      (by rw [hrl]; exact hput (d0 rs[n]) g2 (F2.n) (by rw [i2, hd1]; rfl))
      (by show _ = ((rsf d0 rs n).map Prod.fst).set n _; rw [← List.map_set (f := Prod.fst) (a := d0 rs[n]), rsf_set (by omega)])
      (OwnSl.nil _ _)
      (fun m hm hne => rfl) (fun x hx => by simp [d0, idOf] at hx)
    have hzz : ((d0 rs[n]).1, (d0 rs[n]).2) = d0 rs[n] := rfl
    rw [hzz, rsf_set (by omega)] at u1
    have hfp' : ∀ x ∈ fpR r sl (rsf d0 rs (n + 1)), x ∈ fpR r sl rs := fun x hx => by
      rw [← rsf_set (by omega)] at hx
      rcases fpR_set x hx with h | h
      · exact hfp x h
      · simp [d0, idOf] at h
    simp (disch := first | omega | (simp only [VH.n_push, VH.n_set]; done) | (simp only [VH.n_push, VH.n_set]; omega)) [e0, e4, hgr, rl_0, hlt, hltI, hg, hez, hst, ← hg2, hkk]
    exact ⟨e3, u1, F.trans' F2 (fun x hx => .inl (hfp x (u3 x hx))), hfp'⟩
  · obtain rfl : n = N := by omega
    rw [hN, rsf_all] at kn hfp
    have hmts : (rs.map d0).map Prod.fst = S.ts.map fun t => { t with l := [] } := by rw [← k.ts]; simp [d0, Function.comp_def]
    rw [hmts] at kn
    obtain ⟨S2, hS2⟩ : ∃ S2 : Sc, S2 = { S with ts := S.ts.map fun t => { t with l := [] }, had := 0 } := ⟨_, rfl⟩
    obtain ⟨g2, hg2⟩ : ∃ g2, g2 = g.set r (.cells (rfL sl S2) true 1) := ⟨_, rfl⟩
    have F2 : Fr g g2 [r] := by rw [hg2]; exact Fr.set _ _ (by simp)
    have k2 : RR g2 r sl (rs.map d0) S2 := kn.record F2 (by rw [hg2, VH.get_set_same]) (by rw [hS2]) (fun p hp => by
      obtain ⟨q, _, rfl⟩ := List.mem_map.1 hp
      rfl)
    have hst3 : storeObj (.cells (rfL (.slice a n c) { S with ts := S.ts.map fun t => { t with l := [] } }) true 1) 3 1 (.bool false) = some (.cells (rfL (.slice a n c) S2) true 1) := by rw [hS2]; rfl
    have hgr2 := kn.rec_
    rw [hsl] at hgr2 hg2
    simp (disch := first | omega | (simp only [VH.n_push, VH.n_set]; done) | (simp only [VH.n_push, VH.n_set]; omega)) [e0, e4, hgr2, rl_0, hst3, ← hg2]
    refine (rrest_ok k2 (by simp; omega)).mono ?_
    rintro u g3 ⟨rfl, sl', rs', k3, F3, hid3⟩
    simp (disch := first | omega | (simp only [VH.n_push, VH.n_set]; done) | (simp only [VH.n_push, VH.n_set]; omega)) [r_ref20_Sched_Drop, e3]
    have hd1 : (dropS S).1 = ls := by rw [hls]; rfl
    have hd2 : (dropS S).2 = { S2 with ts := restS S2.ts, ck := 0 } := by rw [hS2]; simp [dropS, restS, Function.comp_def]
    rw [hd1, hd2]
    have F2n := F2.n
    have Fn := F.n
    refine ⟨rfl, sl', rs', k3, (F.trans (F2.sub (fun x hx => by simp at hx; subst hx; simp [fpR]))).trans (F3.sub hfp), fun x hx => ?_⟩
    rcases hid3 x hx with h | h
    · exact .inl (hfp x h)
    · exact .inr (by omega)

/- fair, part O5: FairPlays: the reference's Step. -/

theorem lfW_eq {S S' : Sc} {t : Tn} (h : (if S'.sv = t.nm then S'.had else 0) = (if S.sv = t.nm then S.had else 0)) : lfW S' t = lfW S t := by
  unfold lfW
  rw [h]
theorem lenSum_idle {ts : List Tn} (h : idleS ts = true) : lenSum ts = 0 := by
  have h1 := idle_true h
  clear h
  induction ts with
  | nil => rfl
  | cons t ts ih =>
    have h2 := ih (fun x hx => h1 x (List.mem_cons_of_mem _ hx))
    have h3 := h1 t (List.mem_cons_self ..)
    simp only [lenSum, List.map_cons, List.sum_cons, h3, List.length_nil] at h2 ⊢
    omega
theorem lenSum_busy : ∀ {ts : List Tn}, idleS ts = false → 0 < lenSum ts
  | [], h => by simp [idleS] at h
  | t :: ts, h => by
    have hp : ∀ l : List Tn, 0 ≤ lenSum l := by
      intro l
      induction l with
      | nil => exact Int.le_refl _
      | cons x l ih => simp only [lenSum, List.map_cons, List.sum_cons] at ih ⊢; omega
    have h0 := hp ts
    by_cases hl : t.l = []
    · have h1 : idleS ts = false := by simpa [idleS, hl] using h
      have h2 := lenSum_busy h1
      simp only [lenSum, List.map_cons, List.sum_cons] at h2 ⊢
      omega
    · have h3 := List.length_pos_iff.2 hl
      simp only [lenSum, List.map_cons, List.sum_cons] at h0 ⊢
      omega
theorem lfW_had0 {S : Sc} {t : Tn} (h : S.had = 0) : lfW S t = t.l.map fun x => (x, x.j.cost) := by
  unfold lfW
  cases hl : t.l with
  | nil => rfl
  | cons w q => simp [h]
theorem outV_ : outV ⟨[], job0, false, false⟩ = .tuple #[.string ⟨#[]⟩, .agg #[.int .i64 0, .int .i64 0], .bool false, .bool false] := rfl
def zW : List Value := [.int .i64 0, .int .i64 0, .int .i64 0, .int .i64 0]
theorem zW_ : [Value.int .i64 0, .int .i64 0, .int .i64 0, .int .i64 0] = zW := rfl
theorem rstep_ok {h : VH} {r : Nat} {sl : Value} {rs : List (Tn × Value)} {S : Sc} (k : RR h r sl rs S) {b : Int} (ok : OkS b S) :
    PCalls Try.prog f_ref20_Sched_Step [.pointer (some ⟨r, 0, none⟩)] h (fun u h' => u = outV (stepS S).1 ∧ RP h r (fpR r sl rs) (stepS S).2 h') := by
  refine PCalls_of_pw st_ref20_Sched_Step (by simp [n_ref20_Sched_Step]) ?_
  rw [b_ref20_Sched_Step]
  have hn : rs.length ≤ 16 := by rw [k.len]; exact ok.len
  have hrlt := k.lt
  have hu := ok.ord.uni
  obtain ⟨cp, hcp⟩ : ∃ cp, cp = h.n := ⟨_, rfl⟩
  obtain ⟨g0, hg0⟩ : ∃ g0, g0 = h.push (.cells [.int .i64 0, .int .i64 0] true 1) := ⟨_, rfl⟩
  have F0 : Fr h g0 [] := by rw [hg0]; exact Fr_push (Fr.refl _ _)
  have n0 : g0.n = cp + 1 := by rw [hg0, hcp]; rfl
  have c0 : g0.get cp = .cells [.int .i64 0, .int .i64 0] true 1 := by rw [hg0, hcp, VH.get_push_new]
  have k0 := k.fr0 F0
  have hr0 := k0.rec_
  obtain ⟨a, c, hsl⟩ := k0.own.shapeN
  obtain ⟨N, hN⟩ : ∃ N, N = rs.length := ⟨_, rfl⟩
  rw [← hN] at hsl
  have hgr := hr0
  rw [hsl] at hgr
  simp (disch := first | omega | (simp only [VH.n_push, VH.n_set]; done) | (simp only [VH.n_push, VH.n_set]; omega)) [B_ref20_Sched_Step, ← hcp, ← hg0, hgr, rl_3]
  generalize hKK : kSeq Try.prog _ _ = KK
  have tail : ∀ (s : Slots) (g2 : VH) (j : Nat) (hj : j < rs.length) (w : Wk) (q : List Wk) (B : Sc), idleS S.ts = false → B = begunS S → B.sv = rs[j].1.nm → rs[j].1.l = w :: q → B.ts = S.ts → B.had = S.had → S.had < w.j.cost → (S.had ≠ 0 → S.sv = B.sv) → headW B.sv B.ts = w → OkS b B →
      g2.get r = .cells [sl, .int .i64 B.ck, .string (strB B.sv), .bool true] true 1 → Fr g0 g2 [r] → s 0 = .pointer (some ⟨r, 0, none⟩) → s 3 = .pointer (some ⟨cp, 0, none⟩) → s 6 = .int .i64 (j : Int) → KK .normal s g2 := by
    intro s g2 j hj w q B hid hB hsv hl hts hhad hcost hsvs hhd okb r2 F2 e0 e3 e6
    rw [← hKK]
    obtain ⟨i, o, c', ds, hv, hcc, hi, hg, hez, htk, hq, hl0, _, _, hl3, _, hput⟩ := k0.row hj
    have hisl : i ∈ idOf sl := by rw [hv]; simp [idOf]
    have hih := k.own.lt i hisl
    have hir : r ≠ i := fun h => k.nr (h ▸ hisl)
    have hv' := hv
    rw [hsl, ← hN] at hv
    injection hv with hv _ hvc
    subst hv
    subst hvc
    obtain ⟨Lh, hLh⟩ : ∃ Lh, Lh = w.j.cost - S.had := ⟨_, rfl⟩
    have hh0 := ok.had0
    have hlf : lfW S rs[j].1 = (w, Lh) :: q.map fun x => (x, x.j.cost) := by
      simp only [lfW, hl]
      congr 2
      rw [hLh]
      by_cases hz : S.had = 0
      · simp [hz]
      · rw [if_pos (by rw [hsvs hz, hsv])]
    obtain ⟨i2, o2, c2, ds2, hv2, hm2, hcc2, hi2, hg2, hez2, htk2, hq2, _, hlA2, hput2⟩ := k0.work hj (m := 0) (by rw [hlf]; simp)
    rw [Nat.zero_mul, Nat.add_zero] at htk2 hq2 hlA2 hput2
    simp only [hlf, List.getElem_cons_zero] at htk2 hlA2
    have hi2v : i2 ∈ idOf rs[j].2 := by rw [hv2]; simp [idOf]
    have hi2h := k.old (List.getElem_mem hj) i2 hi2v
    have hi2r : r ≠ i2 := fun h => k.nrv _ (List.getElem_mem hj) (h ▸ hi2v)
    have hi2i : i ≠ i2 := fun h => k.ns _ (List.getElem_mem hj) i hisl (h ▸ hi2v)
    obtain ⟨M, hM⟩ : ∃ M, M = rs[j].1.l.length := ⟨_, rfl⟩
    have hMq : M = q.length + 1 := by rw [hM, hl]; rfl
    rw [← hM] at hv2 hm2 hcc2 hput2
    rw [hv2] at hl3
    rw [← hsv] at hl0
    rw [hsl] at r2
    have hjN : j < N := by omega
    have hjI : (j : Int) < (N : Int) := by omega
    have hm2I : (0 : Int) < (M : Int) := by omega
    have hcs : w.j.cost ≤ 1000 := ((ok.ten rs[j].1 (by rw [← k.ts]; exact List.mem_map_of_mem (List.getElem_mem hj))).wk w (by rw [hl]; simp)).2.1
    have hF2n := F2.n
    obtain ⟨tp, htp⟩ : ∃ tp, tp = g2.n := ⟨_, rfl⟩
    have gi2 := (F2.get i hi (by simpa using fun e => hir e.symm)).trans hg
    have gj2 := (F2.get i2 hi2 (by simpa using fun e => hi2r e.symm)).trans hg2
    have cc2 := (F2.get cp (by omega) (by simp; omega)).trans c0
    have hlA2' : loadObj (.cells ds2 true 4) o2 (some 4) = some (.agg #[.int .i64 w.j.id, .int .i64 w.j.cost, .int .i64 w.st, .int .i64 Lh]) := hlA2
    have hst3 : storeObj (.cells zW true 1) 0 4 (.agg #[.int .i64 w.j.id, .int .i64 w.j.cost, .int .i64 w.st, .int .i64 Lh]) = some (.cells [.int .i64 w.j.id, .int .i64 w.j.cost, .int .i64 w.st, .int .i64 Lh] true 1) := rfl
    have hztp : ∀ x, (g2.push x).get tp = x := fun x => by rw [htp]; exact VH.get_push_new _ _
    obtain ⟨g3, hg3⟩ : ∃ g3, g3 = (g2.push (.cells zW true 1)).set tp (.cells [.int .i64 w.j.id, .int .i64 w.j.cost, .int .i64 w.st, .int .i64 Lh] true 1) := ⟨_, rfl⟩
    have t3 : g3.get tp = .cells [.int .i64 w.j.id, .int .i64 w.j.cost, .int .i64 w.st, .int .i64 Lh] true 1 := by rw [hg3, VH.get_set_same]
    obtain ⟨L1, hL1⟩ : ∃ L1, L1 = Lh - 1 := ⟨_, rfl⟩
    have hwrap : IntKind.i64.wrap (Lh - 1) = L1 := by rw [i64_small (by omega) (by omega), hL1]
    obtain ⟨g4, hg4⟩ : ∃ g4, g4 = g3.set tp (.cells [.int .i64 w.j.id, .int .i64 w.j.cost, .int .i64 w.st, .int .i64 L1] true 1) := ⟨_, rfl⟩
    have F24 : Fr g2 g4 [] := by rw [hg4, hg3]; exact Fr_set (Fr_set (Fr_push (Fr.refl _ _)) (by omega)) (by omega)
    have t4 : g4.get tp = .cells [.int .i64 w.j.id, .int .i64 w.j.cost, .int .i64 w.st, .int .i64 L1] true 1 := by rw [hg4, VH.get_set_same]
    have n4 : g4.n = tp + 1 := by rw [hg4, hg3, htp]; simp
    have r4 := (F24.get r (by have := k0.lt; omega) (by simp)).trans r2
    have gi4 := (F24.get i (by omega) (by simp)).trans gi2
    have gj4 := (F24.get i2 (by omega) (by simp)).trans gj2
    have cc4 := (F24.get cp (by omega) (by simp)).trans cc2
    have r3 : g3.get r = g4.get r := by rw [hg4, VH.get_set_ne _ _ (by have := k0.lt; omega)]
    have hput5 := el_putN (ds := ds2) (R := rwC (w, L1)) (q := o2) (z := 4) (by omega) rfl rfl (zz := 4)
    obtain ⟨d5, hd5⟩ : ∃ d5, d5 = wr ds2 o2 (rwC (w, L1)) := ⟨_, rfl⟩
    rw [← hd5] at hput5
    have hput5' : storeObj (.cells ds2 true 4) o2 4 (.agg #[.int .i64 w.j.id, .int .i64 w.j.cost, .int .i64 w.st, .int .i64 L1]) = some (.cells d5 true 4) := hput5
    obtain ⟨g5, hg5⟩ : ∃ g5, g5 = g4.set i2 (.cells d5 true 4) := ⟨_, rfl⟩
    have F45 : Fr g4 g5 [i2] := by rw [hg5]; exact Fr.set _ _ (by simp)
    have n5 : g5.n = tp + 1 := by rw [hg5]; exact n4
    have gj5 : g5.get i2 = .cells d5 true 4 := by rw [hg5, VH.get_set_same]
    have gi5 := (F45.get i (by omega) (by simpa using hi2i)).trans gi4
    have r5 := (F45.get r (by have := k0.lt; omega) (by simpa using hi2r)).trans r4
    have t5 := (F45.get tp (by omega) (by simp; omega)).trans t4
    have cc5 := (F45.get cp (by omega) (by simp; omega)).trans cc4
    have F05 : Fr h g5 [r, i2] := (((F0.sub (by simp)).trans (F2.sub (by simp))).trans (F24.sub (by simp))).trans (F45.sub (by simp))
    have hsj : ∀ a b z, storeObj (.cells [a, b] true z) 0 2 (.agg #[.int .i64 w.j.id, .int .i64 w.j.cost]) = some (.cells [.int .i64 w.j.id, .int .i64 w.j.cost] true z) := fun _ _ _ => rfl
    have hs : stepS S = servedS B := by simp [stepS, hid, hB]
    have hoth : ∀ m (hm : m < rs.length), m ≠ j → (if S.sv = rs[m].1.nm then S.had else 0) = 0 ∧ ¬ B.sv = rs[m].1.nm := by
      intro m hm hne
      have hnn := Uni.rs k.ts hu hm hj hne
      refine ⟨?_, fun e => hnn (by rw [← e, hsv])⟩
      by_cases hz : S.had = 0
      · simp [hz]
      · rw [if_neg (fun e => hnn (by rw [← e, hsvs hz, hsv]))]
    by_cases hd : 0 < L1
    · have hlt : B.had + 1 < w.j.cost := by omega
      have hsd : servedS B = (⟨B.sv, w.j, false, true⟩, { B with had := B.had + 1 }) := by
        unfold servedS
        rw [hts] at hhd ⊢
        rw [hhd, if_pos hlt]
      obtain ⟨g6, hg6⟩ : ∃ g6, g6 = g5.set cp (.cells [.int .i64 w.j.id, .int .i64 w.j.cost] true 1) := ⟨_, rfl⟩
      have c6 : g6.get cp = .cells [.int .i64 w.j.id, .int .i64 w.j.cost] true 1 := by rw [hg6, VH.get_set_same]
      have F56 : Fr g5 g6 [cp] := by rw [hg6]; exact Fr.set _ _ (by simp)
      have F06 : Fr h g6 [r, i2] := F05.trans' F56 (fun y hy => .inr (by simp at hy; omega))
      have hset : rs.set j (rs[j].1, rs[j].2) = rs := List.set_getElem_self hj
      obtain ⟨u1, u2, u3⟩ := k.upd hj F06 (fun x hx => by
          simp only [List.mem_cons, List.not_mem_nil, or_false] at hx
          rcases hx with rfl | rfl
          · exact .inl rfl
          · exact .inr (.inr hi2v)) (t' := rs[j].1) (v' := rs[j].2) (S' := { B with had := B.had + 1 })
        (by
          rw [F56.get r (by have := k0.lt; omega) (by simp; omega), r5, hsl]
          have : decide (0 < B.had + 1) = true := by simp; omega
          simp [rfL, this])
        (by rw [hset]; exact k.own.fr F06 (fun x hx hx' => by
          simp only [List.mem_cons, List.not_mem_nil, or_false] at hx'
          rcases hx' with rfl | rfl
          · exact k.nr hx
          · exact k.ns _ (List.getElem_mem hj) _ hx hi2v))
        (by
          show B.ts = _
          rw [hts]
          have : rs[j].1 = S.ts[j]'(by rw [← k.len]; exact hj) := by simp [← k.ts]
          rw [this, List.set_getElem_self])
        (by
          have h1 : lfW { B with had := B.had + 1 } rs[j].1 = (lfW S rs[j].1).set 0 (w, L1) := by
            rw [hlf, List.set_cons_zero]
            simp only [lfW, hl]
            rw [if_pos hsv]
            congr 2
            omega
          rw [h1, ← hM]
          exact hput2 (w, L1) g6 (by have := F56.n; omega) (by rw [F56.get i2 (by omega) (by simp; omega), gj5, hd5]))
        (fun m hm hne => by
          obtain ⟨x1, x2⟩ := hoth m hm hne
          refine lfW_eq ?_
          rw [x1]
          simp [x2])
        (fun x hx => .inl hx)
      rw [hset] at u1 u2
      simp (disch := first | omega | (simp only [VH.n_push, VH.n_set]; done) | (simp only [VH.n_push, VH.n_set]; omega)) [r_ref20_Sched_Step, e0, e3, e6, r2, lq_0, hjN, hjI, gi2, hez, hl3, hm2, hm2I, gj2, hez2, hlA2', zW_, ← htp, hztp, hst3, ← hg3, t3, lq_3, hwrap, sq_3i, ← hg4, r4, gi4, t4, lq_A, gj4, hput5', ← hg5, t5, hd, r5, gi5, hl0, lq_J, cc5, hsj, ← hg6, c6, l2_A]
      rw [hs, hsd]
      exact ⟨rfl, sl, rs, u1, F06.sub u3, u2⟩
    · have hlt : ¬ B.had + 1 < w.j.cost := by omega
      obtain ⟨T, hT⟩ : ∃ T : List Value, T = (q.map fun x => (x, x.j.cost)).flatMap rwC := ⟨_, rfl⟩
      have hTl : T.length = (M - 1) * 4 := by rw [hT, flat_len rwC_len, hMq]; simp
      have hd5T : (d5.drop (o2 + 4)).take ((M - 1) * 4) = T ∧ o2 + 4 + (M - 1) * 4 ≤ d5.length := by
        have h1 := hput2 (w, L1) g5 (by omega) (by rw [gj5, hd5])
        rw [hlf, List.set_cons_zero] at h1
        rw [hv2] at h1
        rcases h1 with ⟨h2, _⟩ | ⟨i9, o9, c9, ds9, _, _, h2, h3, h4, h5, h6⟩
        · cases h2
        · injection h2 with h2 _ _
          injection h2 with h2
          injection h2 with h2 h7 _
          subst h2
          subst h7
          rw [gj5] at h3
          injection h3 with h3 _ _
          subst h3
          have h8 := congrArg List.length h4
          rw [h5, List.length_drop, ] at h8
          rw [List.flatMap_cons] at h4
          refine ⟨?_, by omega⟩
          rw [← List.drop_drop, h4, List.drop_left' (rwC_len _), ← hT, List.take_of_length_le (by omega)]
      have hro : rowObj (.cells d5 true 4) (o2 + 4) ((M - 1) * 4) = some T := by
        simp only [rowObj]
        rw [if_pos hd5T.2, hd5T.1]
      obtain ⟨v6, g6, hap, O6, F6, id6⟩ := (OwnSl.nil g5 4).append (bytes := 32) (ys := T) (k := M - 1) hTl (by have := (ok.ten rs[j].1 (by rw [← k.ts]; exact List.mem_map_of_mem (List.getElem_mem hj))).len; omega)
      obtain ⟨a6, c6, rfl⟩ := O6.shapeN
      rw [List.nil_append, Nat.zero_add] at O6
      rw [Nat.zero_add] at hap id6
      have F56 : Fr g5 g6 [] := F6.sub (fun x hx => by simp [idOf] at hx)
      have hid6 : ∀ x ∈ idOf (.slice a6 (M - 1) c6), tp < x := fun x hx => by
        rcases id6 x hx with h1 | h1
        · simp [idOf] at h1
        · omega
      have n6 := F56.n
      have r6 := (F56.get r (by have := k0.lt; omega) (by simp)).trans r5
      have gi6 := (F56.get i (by omega) (by simp)).trans gi5
      have t6 := (F56.get tp (by omega) (by simp)).trans t5
      have cc6 := (F56.get cp (by omega) (by simp)).trans cc5
      obtain ⟨t', ht'⟩ : ∃ t' : Tn, t' = { rs[j].1 with l := q } := ⟨_, rfl⟩
      have hp7 := el_put (zz := 4) (f := 3) (x := .slice a6 (M - 1) c6) htk hq (by decide) rfl rfl
      have hp7e : (rnC rs[j]).set 3 (.slice a6 (M - 1) c6) = rnC (t', .slice a6 (M - 1) c6) := by rw [ht']; rfl
      rw [hp7e] at hp7
      obtain ⟨d7, hd7⟩ : ∃ d7, d7 = wr ds (o + j * 4) (rnC (t', .slice a6 (M - 1) c6)) := ⟨_, rfl⟩
      rw [← hd7] at hp7
      obtain ⟨g7, hg7⟩ : ∃ g7, g7 = g6.set i (.cells d7 true 4) := ⟨_, rfl⟩
      have F67 : Fr g6 g7 [i] := by rw [hg7]; exact Fr.set _ _ (by simp)
      have gi7 : g7.get i = .cells d7 true 4 := by rw [hg7, VH.get_set_same]
      have r7 := (F67.get r (by have := k0.lt; omega) (by simpa using hir)).trans r6
      have t7 := (F67.get tp (by omega) (by simp; omega)).trans t6
      have cc7 := (F67.get cp (by omega) (by simp; omega)).trans cc6
      have n7 := F67.n
      obtain ⟨S3, hS3⟩ : ∃ S3 : Sc, S3 = { B with ts := popT B.sv B.ts, had := 0 } := ⟨_, rfl⟩
      have hrf : rfL (.slice (some ⟨i, o, none⟩) N c) S3 = [.slice (some ⟨i, o, none⟩) N c, .int .i64 B.ck, .string (strB B.sv), .bool false] := by rw [hS3]; simp [rfL]
      obtain ⟨g8, hg8⟩ : ∃ g8, g8 = g7.set r (.cells [.slice (some ⟨i, o, none⟩) N c, .int .i64 B.ck, .string (strB B.sv), .bool false] true 1) := ⟨_, rfl⟩
      have F78 : Fr g7 g8 [r] := by rw [hg8]; exact Fr.set _ _ (by simp)
      have t8 := (F78.get tp (by omega) (by simp; omega)).trans t7
      have cc8 := (F78.get cp (by omega) (by simp; omega)).trans cc7
      have n8 := F78.n
      have F08 : Fr h g8 [r, i2, i] := (((F05.sub (fun x hx => by simp at hx ⊢; rcases hx with h | h; exact .inl h; exact .inr (.inl h))).trans (F56.sub (by simp))).trans (F67.sub (by simp))).trans (F78.sub (by simp))
      have hfd : findT B.sv B.ts = some rs[j].1 := by rw [hsv, hts]; exact findT_at k.ts hu hj rfl
      have hpop : popT B.sv B.ts = S.ts.set j t' := by
        rw [popT_of hfd, hts]
        have h1 : ({ rs[j].1 with l := rs[j].1.l.tail } : Tn) = t' := by rw [ht', hl]; rfl
        rw [h1]
        exact putT_set (by rw [← k.len]; exact hj) hu (by rw [ht']; simp [← k.ts])
      have ht'l : t'.l.length = M - 1 := by rw [ht', hMq]; simp
      obtain ⟨k8, u2, u3⟩ := k.upd hj F08 (fun x hx => by
          simp only [List.mem_cons, List.not_mem_nil, or_false] at hx
          rcases hx with rfl | rfl | rfl
          · exact .inl rfl
          · exact .inr (.inr hi2v)
          · exact .inr (.inl hisl)) (t' := t') (v' := .slice a6 (M - 1) c6) (S' := S3)
        (by rw [hg8, VH.get_set_same, hsl, hrf])
        (hput _ g8 (by omega) (by rw [F78.get i (by omega) (by simpa using fun e => hir e.symm), gi7, hd7]))
        (by rw [hS3]; exact hpop)
        (by
          rw [lfW_had0 (by rw [hS3]), ht'l]
          have h1 : t'.l = q := by rw [ht']
          rw [h1, ← hT]
          refine (O6.fr F67 (fun x hx hx' => ?_)).fr F78 (fun x hx hx' => ?_)
          · simp at hx'; subst hx'; have := hid6 _ hx; omega
          · simp at hx'; subst hx'; have := hid6 _ hx; omega)
        (fun m hm hne => by
          obtain ⟨x1, x2⟩ := hoth m hm hne
          refine lfW_eq ?_
          rw [x1, hS3]
          simp)
        (fun x hx => .inr (by have := hid6 x hx; omega))
      have hfpt : ∀ x, x = tp ∨ x = cp → x ∉ fpR r sl (rs.set j (t', .slice a6 (M - 1) c6)) := by
        intro x hx hm
        rcases fpR_set x hm with h1 | h1
        · have := k.fp_lt x h1
          rcases hx with rfl | rfl <;> omega
        · have := hid6 x h1
          rcases hx with rfl | rfl <;> omega
      have hlen8 : (rs.set j (t', Value.slice a6 (M - 1) c6)).length ≤ 16 := by simpa using hn
      have hl16 : ∀ t ∈ S3.ts, t.l.length ≤ 16 := by
        intro t ht
        rw [hS3] at ht
        simp only at ht
        rw [hpop] at ht
        rcases List.mem_or_eq_of_mem_set ht with h1 | h1
        · exact (ok.ten t h1).len
        · have := (ok.ten rs[j].1 (by rw [← k.ts]; exact List.mem_map_of_mem (List.getElem_mem hj))).len
          rw [h1, ht'l]
          omega
      have hm1 : (1 : Int) ≤ (M : Int) := by omega
      have hm1' : 1 ≤ M := by omega
      have hmc : M ≤ c2 := hcc2
      simp (disch := first | omega | (simp only [VH.n_push, VH.n_set]; done) | (simp only [VH.n_push, VH.n_set]; omega)) [e0, e3, e6, r2, lq_0, hjN, hjI, gi2, hez, hl3, hm2, hm2I, gj2, hez2, hlA2', zW_, ← htp, hztp, hst3, ← hg3, t3, lq_3, hwrap, sq_3i, ← hg4, r4, gi4, t4, lq_A, gj4, hput5', ← hg5, t5, hd, r5, gi5, gj5, hm1, hm1', hmc, hro, Option.bind_some, hap, r6, gi6, hp7, ← hg7, r7, sr_3, ← hg8]
      have k8r := k8.rec_
      refine (rleft_ok k8 hlen8 hl16).mono ?_
      rintro u gx ⟨rfl, hgx⟩
      rw [hgx]
      clear hgx gx
      obtain ⟨P, hP⟩ : ∃ P, P = popT B.sv B.ts := ⟨_, rfl⟩
      have hS3t : S3.ts = P := by rw [hS3, hP]
      rw [hS3t]
      have hfin : ∀ (g9 : VH) (sl9 : Value) (rs9 : List (Tn × Value)) (S9 : Sc), RR g9 r sl9 rs9 S9 → rs9.map (fun p => p.1.nm) = (rs.set j (t', Value.slice a6 (M - 1) c6)).map (fun p => p.1.nm) → ∃ (i9 : Nat) (o9 : Nat) (c9 : Nat) (ds9 : List Value), g9.get r = .cells (rfL (.slice (some ⟨i9, o9, none⟩) rs9.length c9) S9) true 1 ∧ j < rs9.length ∧ g9.get i9 = .cells ds9 true 4 ∧ eszObj (.cells ds9 true 4) 4 = true ∧ loadObj (.cells ds9 true 4) (o9 + j * 4) none = some (.string (strB B.sv)) := by
        intro g9 sl9 rs9 S9 k9 hnm9
        have hln := congrArg List.length hnm9
        rw [List.length_map, List.length_map, List.length_set] at hln
        have hj9 : j < rs9.length := by omega
        obtain ⟨i9, o9, c9, ds9, hv9, _, _, hg9, hez9, _, _, hl09, _⟩ := k9.row hj9
        have h1 : rs9[j].1.nm = B.sv := by
          have h2 := congrArg (fun l : List (List UInt8) => l[j]?) hnm9
          simp [hj9, hj] at h2
          rw [h2, ht', hsv]
        have h3 := k9.rec_
        rw [hv9] at h3
        rw [h1] at hl09
        exact ⟨i9, o9, c9, ds9, h3, hj9, hg9, hez9, hl09⟩
      by_cases hip2 : idleS P = true
      · have hsd : servedS B = (⟨B.sv, w.j, true, true⟩, { S3 with ts := restS S3.ts, ck := 0 }) := by
          rw [hP] at hip2
          rw [hS3]
          rw [hts] at hhd
          simp only [servedS, hts, hhd] at hip2 ⊢
          rw [if_neg hlt, if_pos hip2]
        have hz : (lenSum P == 0) = true := by simp [lenSum_idle hip2]
        simp (disch := first | omega | (simp only [VH.n_push, VH.n_set]; done) | (simp only [VH.n_push, VH.n_set]; omega)) [hz, e0]
        refine (rrest_ok k8 hlen8).mono ?_
        rintro u g9 ⟨rfl, sl9, rs9, k9, F9, hid9⟩
        have hnm9 : rs9.map (fun p => p.1.nm) = (rs.set j (t', Value.slice a6 (M - 1) c6)).map (fun p => p.1.nm) := by
          have h1 : rs9.map (fun p => p.1.nm) = (rs9.map Prod.fst).map (·.nm) := by simp [Function.comp_def]
          have h2 : ∀ l : List (Tn × Value), l.map (fun p => p.1.nm) = (l.map Prod.fst).map (·.nm) := fun l => by simp [Function.comp_def]
          rw [h1, k9.ts, h2, k8.ts]
          simp [restS, Function.comp_def]
        obtain ⟨i9, o9, c9, ds9, r9, hj9, gi9, hez9, hl09⟩ := hfin g9 sl9 rs9 _ k9 hnm9
        have hj9I : (j : Int) < (rs9.length : Int) := by omega
        have t9 := (F9.get tp (by omega) (hfpt tp (.inl rfl))).trans t8
        have cc9 := (F9.get cp (by omega) (hfpt cp (.inr rfl))).trans cc8
        have n9 := F9.n
        obtain ⟨g10, hg10⟩ : ∃ g10, g10 = g9.set cp (.cells [.int .i64 w.j.id, .int .i64 w.j.cost] true 1) := ⟨_, rfl⟩
        have c10 : g10.get cp = .cells [.int .i64 w.j.id, .int .i64 w.j.cost] true 1 := by rw [hg10, VH.get_set_same]
        have F910 : Fr g9 g10 [cp] := by rw [hg10]; exact Fr.set _ _ (by simp)
        have hcpf : ∀ x ∈ fpR r sl9 rs9, x ≠ cp := fun x hx e => by
          rcases hid9 x hx with h1 | h1
          · exact hfpt x (.inr e) h1
          · omega
        simp (disch := first | omega | (simp only [VH.n_push, VH.n_set]; done) | (simp only [VH.n_push, VH.n_set]; omega)) [r_ref20_Sched_Step, e0, e3, e6, r9, rl_0, hj9, hj9I, gi9, hez9, hl09, t9, lq_J, cc9, hsj, ← hg10, c10, l2_A]
        rw [hs, hsd]
        refine ⟨rfl, sl9, rs9, k9.fr F910 (fun x hx => by simpa using hcpf x hx), ((F08.sub u3).trans' F9 u2).trans' F910 (fun y hy => .inr (by simp at hy; omega)), fun x hx => ?_⟩
        rcases hid9 x hx with h1 | h1
        · exact u2 x h1
        · exact .inr (by have := F08.n; omega)
      · have hip2 : idleS P = false := by simpa using hip2
        have hsd : servedS B = (⟨B.sv, w.j, true, true⟩, S3) := by
          rw [hP] at hip2
          rw [hS3]
          rw [hts] at hhd
          simp only [servedS, hts, hhd] at hip2 ⊢
          rw [if_neg hlt, if_neg (by rw [hip2]; simp)]
        have hz : (lenSum P == 0) = false := by
          have := lenSum_busy hip2
          rw [beq_eq_false_iff_ne]
          omega
        obtain ⟨i9, o9, c9, ds9, r9, hj9, gi9, hez9, hl09⟩ := hfin g8 sl _ _ k8 rfl
        rw [List.length_set, ← hN] at r9 hj9
        have hj9I : (j : Int) < (N : Int) := by omega
        obtain ⟨g10, hg10⟩ : ∃ g10, g10 = g8.set cp (.cells [.int .i64 w.j.id, .int .i64 w.j.cost] true 1) := ⟨_, rfl⟩
        have c10 : g10.get cp = .cells [.int .i64 w.j.id, .int .i64 w.j.cost] true 1 := by rw [hg10, VH.get_set_same]
        have F910 : Fr g8 g10 [cp] := by rw [hg10]; exact Fr.set _ _ (by simp)
        simp (disch := first | omega | (simp only [VH.n_push, VH.n_set]; done) | (simp only [VH.n_push, VH.n_set]; omega)) [r_ref20_Sched_Step, hz, e0, e3, e6, r9, rl_0, hj9, hj9I, gi9, hez9, hl09, t8, lq_J, cc8, hsj, ← hg10, c10, l2_A]
        rw [hs, hsd]
        exact ⟨rfl, sl, _, k8.fr F910 (fun x hx hx' => by simp at hx'; exact hfpt x (.inr hx') hx), (F08.sub u3).trans' F910 (fun y hy => .inr (by simp at hy; omega)), u2⟩
  by_cases hh : 0 < S.had
  · have hid : idleS S.ts = false := by
      obtain ⟨t, w, q, ht, _, hl, _⟩ := ok.bsy hh
      exact idle_not ht (by rw [hl]; simp)
    obtain ⟨t, w, q, hfd, hl, hts, okb, hcost, hhd, hbh, hn1, hn2⟩ := begun_spec ok hid
    have hBS := hn2 (by omega)
    rw [hBS] at hfd hts okb hcost hhd hbh
    have r0 : g0.get r = .cells [sl, .int .i64 S.ck, .string (strB S.sv), .bool true] true 1 := by
      rw [hr0]
      simp [rfL, hh]
    simp (disch := first | omega | (simp only [VH.n_push, VH.n_set]; done) | (simp only [VH.n_push, VH.n_set]; omega)) [hh, hgr, rl_2]
    refine ⟨?_, fun h => absurd h (by omega)⟩
    refine (rfind_ok k0 hn (nm := S.sv)).mono ?_
    rintro u gx ⟨hat, hgx⟩
    rw [hgx]
    clear hgx gx
    rcases hat with ⟨j, hj, hnm, rfl⟩ | ⟨rfl, hno⟩
    · have hrt : rs[j].1 = t := by
        have := findT_at k.ts hu hj hnm
        rw [hfd] at this
        injection this with this
        exact this.symm
      simp (disch := first | omega | (simp only [VH.n_push, VH.n_set]; done) | (simp only [VH.n_push, VH.n_set]; omega)) []
      refine tail _ g0 j hj w q S hid hBS.symm hnm.symm (by rw [hrt, hl]) rfl rfl hcost (fun _ => rfl) hhd ok r0 (Fr.refl _ _) ?_ ?_ ?_
      all_goals simp [upd_apply, s0_apply]
    · rw [findT_not k.ts hno] at hfd
      cases hfd
  · have hh0 : S.had = 0 := by have := ok.had0; omega
    have hfi2 : fillC [.int .i64 0, .int .i64 0] [] = some [.int .i64 0, .int .i64 0] := rfl
    have hst2 : ∀ a b z, storeObj (.cells [a, b] true z) 0 2 (.agg #[.int .i64 0, .int .i64 0]) = some (.cells [.int .i64 0, .int .i64 0] true z) := fun _ _ _ => rfl
    simp (disch := first | omega | (simp only [VH.n_push, VH.n_set]; done) | (simp only [VH.n_push, VH.n_set]; omega)) [hh]
    intro _
    refine (rnext_ok k0 ok).mono ?_
    rintro u gx ⟨hat, hgx⟩
    rw [hgx]
    clear hgx gx
    rcases hat with ⟨rfl, hf⟩ | ⟨j, hj, w, q, rfl, hl, hf⟩
    · have hid : idleS S.ts = true := by
        by_cases hi : idleS S.ts = true
        · exact hi
        · obtain ⟨t, w, _, hx⟩ := next_spec (by simpa using hi)
          rw [hx] at hf
          cases hf
      have hs : stepS S = (⟨[], job0, false, false⟩, S) := by simp [stepS, hid]
      rw [← hKK]
      simp (disch := first | omega | (simp only [VH.n_push, VH.n_set]; done) | (simp only [VH.n_push, VH.n_set]; omega)) [r_ref20_Sched_Step, c0, hfi2, hst2, l2_A, hs]
      have F1 : Fr h (g0.set cp (.cells [.int .i64 0, .int .i64 0] true 1)) [] := Fr_set F0 (by omega)
      exact ⟨rfl, sl, rs, k.fr0 F1, F1.sub (by simp), fun _ hx => .inl hx⟩
    · have hid : idleS S.ts = false := idle_not (t := rs[j].1) (by rw [← k.ts]; exact List.mem_map_of_mem (List.getElem_mem hj)) (by rw [hl]; simp)
      obtain ⟨t, w', q', hfd, hl', hts, okb, hcost, hhd, hbh, hn1, hn2⟩ := begun_spec ok hid
      obtain ⟨hN1, hck⟩ := hn1 hh0
      obtain ⟨B, hB⟩ : ∃ B, B = begunS S := ⟨_, rfl⟩
      rw [← hB] at hfd hts okb hcost hhd hbh hck
      have hBsv : B.sv = rs[j].1.nm := by rw [hB]; simp [begunS, hh0, hf]
      have hrt : rs[j].1 = t := by
        have := findT_at k.ts hu hj hBsv.symm
        rw [hfd] at this
        injection this with this
        exact this.symm
      have hww : w' = w := by
        rw [← hrt, hl] at hl'
        injection hl' with h1 _
        exact h1.symm
      subst hww
      obtain ⟨i, o, c', ds, hv, hcc, hi, hg, hez, htk, hq, hl0, _, _, hl3, _, hput⟩ := k0.row hj
      have hisl : i ∈ idOf sl := by rw [hv]; simp [idOf]
      have hir : r ≠ i := fun h => k.nr (h ▸ hisl)
      have hv' := hv
      rw [hsl, ← hN] at hv
      injection hv with hv _ hvc
      subst hv
      subst hvc
      have hlf : ∃ Lh, lfW S rs[j].1 = (w', Lh) :: q.map fun x => (x, x.j.cost) := ⟨w'.j.cost - (if S.sv = rs[j].1.nm then S.had else 0), by simp only [lfW, hl]⟩
      obtain ⟨Lh, hlf⟩ := hlf
      obtain ⟨i2, o2, c2, ds2, hv2, hm2, hcc2, hi2, hg2, hez2, htk2, hq2, hld2, _, _⟩ := k0.work hj (m := 0) (by rw [hlf]; simp)
      have hi2v : i2 ∈ idOf rs[j].2 := by rw [hv2]; simp [idOf]
      have hi2r : r ≠ i2 := fun h => k.nrv _ (List.getElem_mem hj) (h ▸ hi2v)
      have x2 : loadObj (.cells ds2 true 4) (o2 + 2) none = some (.int .i64 w'.st) := by
        have := hld2 2 (by decide)
        simp only [hlf] at this
        simpa [rwC] using this
      obtain ⟨M, hM⟩ : ∃ M, M = rs[j].1.l.length := ⟨_, rfl⟩
      rw [← hM] at hv2 hm2
      rw [hv2] at hl3
      rw [← hBsv] at hl0
      have hj0 : ¬ (j : Int) < 0 := by omega
      have hjN : j < N := by omega
      have hjI : (j : Int) < (N : Int) := by omega
      have hm2I : (0 : Int) < (M : Int) := by omega
      obtain ⟨SL, hSL⟩ : ∃ SL, SL = Value.slice (some ⟨i, o, none⟩) N c := ⟨_, rfl⟩
      have hgr1 : g0.get r = .cells [.slice (some ⟨i, o, none⟩) N c, .int .i64 S.ck, .string (strB S.sv), .bool false] true 1 := by rw [hgr]; simp [rfL, hh]
      obtain ⟨g1, hg1⟩ : ∃ g1, g1 = g0.set r (.cells [.slice (some ⟨i, o, none⟩) N c, .int .i64 S.ck, .string (strB S.sv), .bool true] true 1) := ⟨_, rfl⟩
      have r1 : g1.get r = .cells [.slice (some ⟨i, o, none⟩) N c, .int .i64 S.ck, .string (strB S.sv), .bool true] true 1 := by rw [hg1, VH.get_set_same]
      have gi1 : g1.get i = .cells ds true 4 := by rw [hg1, VH.get_set_ne _ _ (fun e => hir e.symm)]; exact hg
      have gj1 : g1.get i2 = .cells ds2 true 4 := by rw [hg1, VH.get_set_ne _ _ (fun e => hi2r e.symm)]; exact hg2
      obtain ⟨g2, hgg2⟩ : ∃ g2, g2 = g1.set r (.cells [.slice (some ⟨i, o, none⟩) N c, .int .i64 S.ck, .string (strB B.sv), .bool true] true 1) := ⟨_, rfl⟩
      have r2 : g2.get r = .cells [.slice (some ⟨i, o, none⟩) N c, .int .i64 S.ck, .string (strB B.sv), .bool true] true 1 := by rw [hgg2, VH.get_set_same]
      have gi2 : g2.get i = .cells ds true 4 := by rw [hgg2, VH.get_set_ne _ _ (fun e => hir e.symm)]; exact gi1
      have gj2 : g2.get i2 = .cells ds2 true 4 := by rw [hgg2, VH.get_set_ne _ _ (fun e => hi2r e.symm)]; exact gj1
      obtain ⟨g3, hgg3⟩ : ∃ g3, g3 = g2.set r (.cells [.slice (some ⟨i, o, none⟩) N c, .int .i64 w'.st, .string (strB B.sv), .bool true] true 1) := ⟨_, rfl⟩
      have r3 : g3.get r = .cells [.slice (some ⟨i, o, none⟩) N c, .int .i64 w'.st, .string (strB B.sv), .bool true] true 1 := by rw [hgg3, VH.get_set_same]
      have F3 : Fr g0 g3 [r] := by
        rw [hgg3, hgg2, hg1]
        exact ((Fr.set _ _ (by simp)).trans (Fr.set _ _ (by simp))).trans (Fr.set _ _ (by simp))
      simp (disch := first | omega | (simp only [VH.n_push, VH.n_set]; done) | (simp only [VH.n_push, VH.n_set]; omega)) [hj0, hgr1, sr_3, ← hg1, r1, lq_0, hjN, hjI, gi1, hez, hl0, sr_2, ← hgg2, r2, gi2, hl3, hm2, hm2I, gj2, hez2, x2, sr_1, ← hgg3]
      refine tail _ g3 j hj w' q B hid hB hBsv hl hts hbh (by rw [← hbh]; exact hcost) (fun h => absurd hh0 h) (by rw [hts]; exact hhd) okb (by rw [r3, hck, hsl]) F3 ?_ ?_ ?_
      all_goals simp [upd_apply, s0_apply]
end Go.Proofs.Ytnnljhcpkkpniaa.Fa
