/- wire, part J: all fields of a number, the last one; bytes are spoilt; lists alike. -/
import Derived.Test.YtgkokffmblphnaaWrI
set_option linter.unusedVariables false
set_option linter.unusedSimpArgs false
set_option maxRecDepth 100000
namespace Go.Proofs.Ytgkokffmblphnaa.Wr
open Go Go.RowKit Go.Proofs.Ytgkokffmblphnaa.Pm Go.Proofs.Ytgkokffmblphnaa.Fs
attribute [local simp] pw_skip pw_ops pw_quiet pw_seq pw_cond pw_block pw_exit pw_ret pw_scope pw_label kSeq_normal kSeq_ret kSeq_exit kBlock_normal kBlock_ret kBlock_exit kScope_normal kScope_ret kScope_exit kLoop_normal kLoop_ret kLoop_exit kCond_true kCond_false kCond_dec pwOps_nil pwOps_call pwOps_guard kStep_some kCall_at pwQ_nil pwQ_call pwQ_guard kQ_some putS_some putS_none upd_apply ev_t ev_k isB_bool isB_undef s0_apply pstep pwO_mov pwO_pick pwO_nilck pwO_bin pwO_binB pwO_eqNil pwO_un pwO_convI pwO_convS pwO_alloc pwO_build pwO_load pwO_store pwO_fieldAddr pwO_field pwO_idxS pwO_idxA pwO_idxV pwO_strAt pwO_lenStr pwO_lenS pwO_lenC pwO_slS pwO_slA pwO_slStr pwO_extract pwO_mkFunc pwO_mkIface pwO_append pwO_appendStr pwO_toBytes pwO_ofB pwO_box pwO_row pwO_minmax pwO_eqV pwO_sameB pwR_mov pwR_pick pwR_nilck pwR_bin pwR_binB pwR_eqNil pwR_un pwR_convI pwR_convS pwR_build pwR_load pwR_fieldAddr pwR_field pwR_idxS pwR_idxA pwR_idxV pwR_strAt pwR_lenStr pwR_lenS pwR_lenC pwR_slS pwR_slA pwR_slStr pwR_extract pwR_mkFunc pwR_mkIface pwR_ofB pwR_minmax pwR_eqV ret_r ret_n kRet_some resV0 resV1 resV2 resV3 resV4 VH.get_push_new VH.get_set_same VH.n_push VH.n_set cellsL_agg cellsL_int cellsL_bool cellsL_string cellsL_slice cellsL_pointer cellsL_map pw_draw pwD_nil pwD_cons kD_nil kD_cons evalOK_plain evalOK_guard kEv_some dstIs_some dstIs_none pw_goto pw_scopeL kSeq_goto kBlock_goto kLoop_goto kScopeL_normal kScopeL_ret kScopeL_exit kScopeL_goto pwOps_callv kCallv_fn kCallv_yld pwOps_nextM pwO_makeMap pwO_lookup pwR_lookup pwO_mapSet pwO_mapDel pwO_lenM pwR_lenM pwO_mapEntry pwO_entrySet pwO_rangeS pwO_nextS pwO_rangeM pwO_entryM pwR_entryM pwO_copyV pwO_makeSl pwO_asrt pwR_asrt kStep_if kStep_dif kQ_if kQ_dif kEv_if bound_none bound_some toNat_add' toNat_sub' toNat_mul' kLoopN_normal kLoopN_ret kLoopN_exit kLoopN_goto Option.map_some Option.map_none loadAt_obj storeAt_obj rowOf_obj eszIs_obj eszObj_cells loadObj_tab storeObj_tab_int VH.get_set_ne VH.get_push_lt VH.set_set tab_length List.getElem?_cons_zero List.getElem?_cons_succ List.length_cons List.length_nil oneC_int oneC_bool oneC_string oneC_slice oneC_pointer oneC_map srcCells_at srcCells_nil VH.get_push_at isNilV pw_drawT pwT_nil pwT_step pwT_alt kT_nil kT_cons pun pbinS pbin pbinI i64_small IntKind.bits resV resL resOne

/-- each field's bytes are an owned row; ids: these rows. -/
def OwB (g : VH) : List Value → List Fd → List Nat → Prop
  | [], [], ids => ids = []
  | a :: b :: c :: w :: r, f :: fs, ids => ∃ rest, ids = idOf w ++ rest ∧ (a = .int .i64 f.num ∧ b = .int .i64 f.ty ∧ c = .int .u64 (f.n : Int)) ∧ OwnSl g 1 w (u8s f.b) f.b.length ∧ OwB g r fs rest
  | _, _, _ => False
theorem OwB.fr {g g' : VH} {X : List Nat} (hf : Fr g g' X) : ∀ {cs : List Value} {fs : List Fd} {ids : List Nat}, OwB g cs fs ids → (∀ i ∈ ids, i ∉ X) → OwB g' cs fs ids
  | [], [], _, h, _ => h
  | _ :: _ :: _ :: w :: r, f :: fs, _, ⟨rest, e, h1, h2, h3⟩, hx => ⟨rest, e, h1, h2.fr hf (fun i hi => hx i (by rw [e]; exact List.mem_append_left _ hi)), h3.fr hf (fun i hi => hx i (by rw [e]; exact List.mem_append_right _ hi))⟩
  | [], _ :: _, _, h, _ => h.elim
  | [_], [], _, h, _ => h.elim
  | [_], _ :: _, _, h, _ => h.elim
  | [_, _], [], _, h, _ => h.elim
  | [_, _], _ :: _, _, h, _ => h.elim
  | [_, _, _], [], _, h, _ => h.elim
  | [_, _, _], _ :: _, _, h, _ => h.elim
  | _ :: _ :: _ :: _ :: _, [], _, h, _ => h.elim
theorem OwB.cells {g : VH} : ∀ {cs : List Value} {fs : List Fd} {ids : List Nat}, OwB g cs fs ids → ∀ i ∈ ids, i < g.n ∧ ∃ ds, g.get i = .cells ds true 1
  | [], [], _, h, i, hi => by rw [show _ = _ from h] at hi; simp at hi
  | _ :: _ :: _ :: w :: r, f :: fs, _, ⟨rest, e, h1, h2, h3⟩, i, hi => by
    rw [e] at hi
    rcases List.mem_append.1 hi with hi | hi
    · exact ⟨h2.lt i hi, OwnSl.cells h2 i hi⟩
    · exact h3.cells i hi
  | [], _ :: _, _, h, _, _ => h.elim
  | [_], [], _, h, _, _ => h.elim
  | [_], _ :: _, _, h, _, _ => h.elim
  | [_, _], [], _, h, _, _ => h.elim
  | [_, _], _ :: _, _, h, _, _ => h.elim
  | [_, _, _], [], _, h, _, _ => h.elim
  | [_, _, _], _ :: _, _, h, _, _ => h.elim
  | _ :: _ :: _ :: _ :: _, [], _, h, _, _ => h.elim
theorem OwB.fdl {g : VH} : ∀ {cs : List Value} {fs : List Fd} {ids : List Nat}, OwB g cs fs ids → FdL g cs fs
  | [], [], _, _ => trivial
  | _ :: _ :: _ :: w :: r, f :: fs, _, ⟨rest, e, ⟨h1, h1', h1''⟩, h2, h3⟩ => ⟨h1, h1', h1'', h2.bytes, h3.fdl⟩
  | [], _ :: _, _, h => h.elim
  | [_], [], _, h => h.elim
  | [_], _ :: _, _, h => h.elim
  | [_, _], [], _, h => h.elim
  | [_, _], _ :: _, _, h => h.elim
  | [_, _, _], [], _, h => h.elim
  | [_, _, _], _ :: _, _, h => h.elim
  | _ :: _ :: _ :: _ :: _, [], _, h => h.elim
theorem OwB.snoc {g : VH} : ∀ {cs : List Value} {fs : List Fd} {ids : List Nat}, OwB g cs fs ids → ∀ {f : Fd} {u : Value}, OwnSl g 1 u (u8s f.b) f.b.length → OwB g (cs ++ fdL f u) (fs ++ [f]) (ids ++ idOf u)
  | [], [], _, h, f, u, hu => by
    rw [show _ = _ from h]
    exact ⟨[], by simp, ⟨rfl, rfl, rfl⟩, hu, rfl⟩
  | _ :: _ :: _ :: w :: r, x :: fs, _, ⟨rest, e, h1, h2, h3⟩, f, u, hu => ⟨rest ++ idOf u, by rw [e, List.append_assoc], h1, h2, h3.snoc hu⟩
  | [], _ :: _, _, h, _, _, _ => h.elim
  | [_], [], _, h, _, _, _ => h.elim
  | [_], _ :: _, _, h, _, _, _ => h.elim
  | [_, _], [], _, h, _, _, _ => h.elim
  | [_, _], _ :: _, _, h, _, _, _ => h.elim
  | [_, _, _], [], _, h, _, _, _ => h.elim
  | [_, _, _], _ :: _, _, h, _, _, _ => h.elim
  | _ :: _ :: _ :: _ :: _, [], _, h, _, _, _ => h.elim
/-- a list of fields whose bytes are rows of their own, all laid behind h0. -/
structure OBuf (h0 g : VH) (w : Value) (fs : List Fd) : Prop where
  own : ∃ cs ids, OwnSl g 4 w cs fs.length ∧ OwB g cs fs ids ∧ ids.Nodup ∧ ∀ i ∈ ids, h0.n ≤ i
  fr : Fr h0 g []
  ids : ∀ i ∈ idOf w, h0.n ≤ i
theorem OBuf.nil (h : VH) : OBuf h h (.slice none 0 0) [] := ⟨⟨[], [], OwnSl.nil _ _, rfl, List.nodup_nil, fun i hi => by simp at hi⟩, Fr.refl _ _, fun i hi => by simp [idOf] at hi⟩
theorem OBuf.fbuf {h0 g : VH} {w : Value} {fs : List Fd} (hb : OBuf h0 g w fs) : FBuf h0 g w fs :=
  let ⟨cs, ids, h1, h2, _⟩ := hb.own
  ⟨⟨cs, h1, h2.fdl⟩, hb.fr, hb.ids⟩
theorem OBuf.step {h0 g g' : VH} {w : Value} {fs : List Fd} (hb : OBuf h0 g w fs) (hf : Fr g g' []) : OBuf h0 g' w fs := by
  obtain ⟨cs, ids, h1, h2, h3, h4⟩ := hb.own
  exact ⟨⟨cs, ids, h1.fr hf (fun i _ => by simp), h2.fr hf (fun i _ => by simp), h3, h4⟩, hb.fr.trans hf, hb.ids⟩
/-- a field is appended, its bytes lie in a row that was laid behind g1. -/
theorem OBuf.append {h0 g1 g : VH} {w : Value} {fs : List Fd} (hb : OBuf h0 g1 w fs) (hg : Fr g1 g []) {f : Fd} {u : Value} (hu : OwnSl g 1 u (u8s f.b) f.b.length) (hid : ∀ i ∈ idOf u, g1.n ≤ i) (hl : fs.length < 1000000000000) :
    ∃ a n c g', appendV (g.push (.cells (fdL f u) true 4)) 4 48 w (fdL f u) 1 = some (.slice a n c, g') ∧ OBuf h0 g' (.slice a n c) (fs ++ [f]) := by
  obtain ⟨cs, ids, h1, h2, h3, h4⟩ := hb.own
  have hg2 := hg.trans (Fr.push g (.cells (fdL f u) true 4) [])
  have h1' := h1.fr hg2 (fun i _ => by simp)
  have h2' := h2.fr hg2 (fun i _ => by simp)
  have hu' := hu.fr (Fr.push g (.cells (fdL f u) true 4) []) (fun i _ => by simp)
  obtain ⟨w', g', hap, ho', hf, hidw⟩ := h1'.append (bytes := 48) (ys := fdL f u) (k := 1) (by simp [fdL]) (by omega)
  obtain ⟨a, c, rfl⟩ := ho'.shapeN
  have hx := OwnSl.cells h1'
  have hne : ∀ i ds, (g.push (.cells (fdL f u) true 4)).get i = .cells ds true 1 → i ∉ idOf w := fun i ds hi hX => by
    obtain ⟨c2, e2⟩ := hx i hX
    rw [hi] at e2
    injection e2 with _ _ e3
    exact absurd e3 (by decide)
  have hids : ∀ i ∈ ids, i ∉ idOf w := fun i hi => by
    obtain ⟨_, ds, e⟩ := h2'.cells i hi
    exact hne i ds e
  have hidu : ∀ i ∈ idOf u, i ∉ idOf w := fun i hi => by
    obtain ⟨ds, e⟩ := OwnSl.cells hu' i hi
    exact hne i ds e
  refine ⟨_, _, _, g', hap, ⟨⟨cs ++ fdL f u, ids ++ idOf u, by rw [List.length_append]; exact ho', (h2'.fr hf hids).snoc (hu'.fr hf hidu), ?_, ?_⟩, (hb.fr.trans hg2).trans' hf (fun y hy => .inr (hb.ids y hy)), fun i hi => ?_⟩⟩
  · rw [List.nodup_append]
    refine ⟨h3, ?_, fun i hi j hj e => ?_⟩
    · rcases hu with ⟨rfl, _⟩ | ⟨_, _, _, _, _, _, rfl, _⟩
      · simp [idOf]
      · simp [idOf]
    · have h5 := (h2.cells i hi).1
      have h6 := hid j hj
      omega
  · intro i hi
    rcases List.mem_append.1 hi with hi | hi
    · exact h4 i hi
    · exact Nat.le_trans hb.fr.n (hid i hi)
  · rcases hidw i hi with h5 | h5
    · exact hb.ids i h5
    · have := hb.fr.n; have := hg2.n; omega
def allF (fs : List Fd) (num : Int) : List Fd := fs.filter fun f => f.num == num
theorem allF_snoc (fs : List Fd) (f : Fd) (num : Int) : allF (fs ++ [f]) num = if f.num = num then allF fs num ++ [f] else allF fs num := by
  unfold allF
  rw [List.filter_append]
  by_cases h : f.num = num
  · simp [h]
  · simp [h]
theorem allF_len (fs : List Fd) (num : Int) : (allF fs num).length ≤ fs.length := List.length_filter_le _ _
theorem OBuf.sh {h0 g : VH} {w : Value} {fs : List Fd} (hb : OBuf h0 g w fs) : ∃ a n c, w = .slice a n c := by
  obtain ⟨a, c, rfl⟩ := hb.fbuf.shape
  exact ⟨_, _, _, rfl⟩

set_option maxHeartbeats 4000000 in
theorem all_ok {h : VH} {v : Value} {fs : List Fd} {num : Int} (hv : IsFds h v fs) (hbl : ∀ f ∈ fs, f.b.length ≤ 100000000) (hlen : fs.length ≤ 100000000) :
    PCalls Try.prog f_wire_All [v, .int .i64 num] h (fun u h' => ∃ a n c, u = .slice a n c ∧ OBuf h h' (.slice a n c) (allF fs num)) := by
  refine PCalls_of_pw st_wire_All (by simp [n_wire_All]) ?_
  rw [b_wire_All]
  obtain ⟨va, vc, rfl⟩ := hv.shape
  obtain ⟨L, hL⟩ : ∃ L, L = fs.length := ⟨_, rfl⟩
  rw [← hL]
  simp (disch := first | omega | (simp only [VH.n_push, VH.n_set]; done) | (simp only [VH.n_push, VH.n_set]; omega)) [-BitVec.toNat_or, -BitVec.toNat_xor, -BitVec.toNat_add, -BitVec.toNat_and, -BitVec.toNat_not, -BitVec.toNat_shiftLeft, -BitVec.toNat_ushiftRight, B_wire_All]
  refine pw_loopN (fun k s g => ∃ a n c, OBuf h g (.slice a n c) (allF (fs.take k) num) ∧ s 1 = .int .i64 num ∧ s 5 = .slice a n c ∧ s 8 = .slice va L vc ∧ s 9 = .int .i64 (L : Int) ∧ s 10 = .int .i64 (k : Int)) L ?_ ?_
  · exact ⟨none, 0, 0, by simpa [allF] using OBuf.nil h, by simp [upd_apply, s0_apply], by simp [upd_apply, s0_apply], by simp [upd_apply, s0_apply], by simp [upd_apply, s0_apply], by simp [upd_apply, s0_apply]⟩
  rintro k s g hk ⟨ba, bn, bc, hB, e1, e5, e8, e9, e10⟩
  by_cases hlt : k < L
  · have hltI : (k : Int) < (L : Int) := by omega
    have hkf : k < fs.length := by omega
    obtain ⟨i, o, c, hi, hc, hva, hez, hat⟩ := hv.at_ (by omega)
    rw [← hL] at hva hc
    injection hva with hva1 _ hva3
    subst hva1
    subst hva3
    obtain ⟨w, hA0⟩ := hat k hkf
    have hA := hA0.fr hB.fr hi
    have hmem : fs[k] ∈ fs := List.getElem_mem hkf
    have htk := take_one hkf
    have hsn := allF_snoc (fs.take k) fs[k] num
    rw [← htk] at hsn
    have hal := allF_len (fs.take k) num
    rw [List.length_take] at hal
    obtain ⟨f, hf⟩ : ∃ f, f = fs[k] := ⟨_, rfl⟩
    rw [← hf] at hA hmem hsn
    obtain ⟨FL, hFL⟩ : ∃ FL, FL = f.b.length := ⟨_, rfl⟩
    have hfb := hbl f hmem
    obtain ⟨wa, wc, hwv⟩ := hA.bytes.shape
    rw [← hFL] at hwv
    subst hwv
    have eW : IntKind.i64.wrap ((k : Int) + 1) = ((k + 1 : Nat) : Int) := by rw [i64_small (by omega) (by omega)]; omega
    have hAll := hA.all
    have hst : ∀ a b c d, storeObj (.cells [a, b, c, d] true 1) 0 4 (fdV f (.slice wa FL wc)) = some (.cells [.int .i64 f.num, .int .i64 f.ty, .int .u64 (f.n : Int), .slice wa FL wc] true 1) := fun _ _ _ _ => rfl
    obtain ⟨g1, hg1⟩ : ∃ g1, g1 = (g.push (.cells [.int .i64 0, .int .i64 0, .int .u64 0, .slice none 0 0] true 1)).set g.n (.cells [.int .i64 f.num, .int .i64 f.ty, .int .u64 (f.n : Int), .slice wa FL wc] true 1) := ⟨_, rfl⟩
    have hg1o : g1.get g.n = .cells [.int .i64 f.num, .int .i64 f.ty, .int .u64 (f.n : Int), .slice wa FL wc] true 1 := by rw [hg1, VH.get_set_same]
    have hf1 : Fr g g1 [] := by rw [hg1]; exact Fr_set (Fr_push (Fr.refl _ _)) (Nat.le_refl _)
    have hg1n : g1.n = g.n + 1 := by rw [hg1]; rfl
    by_cases hn : f.num = num
    · rw [if_pos hn] at hsn
      have hnb : (f.num == num) = true := by simpa using hn
      obtain ⟨w', g3, hap, hbuf⟩ := (Buf.nil g1).append f.b (by simp; omega)
      rw [List.nil_append] at hbuf
      rw [← hFL] at hap
      obtain ⟨xa, xn, xc, rfl⟩ : ∃ a n c, w' = .slice a n c := by
        obtain ⟨a, c, rfl⟩ := hbuf.shape
        exact ⟨_, _, _, rfl⟩
      have hsrc := (isB_fr hf1 hA.bytes).src
      have hg3o : g3.get g.n = .cells [.int .i64 f.num, .int .i64 f.ty, .int .u64 (f.n : Int), .slice wa FL wc] true 1 := (hbuf.fr.get _ (by omega) (by simp)).trans hg1o
      obtain ⟨g4, hg4⟩ : ∃ g4, g4 = g3.set g.n (.cells [.int .i64 f.num, .int .i64 f.ty, .int .u64 (f.n : Int), .slice xa xn xc] true 1) := ⟨_, rfl⟩
      have hg4o : g4.get g.n = .cells [.int .i64 f.num, .int .i64 f.ty, .int .u64 (f.n : Int), .slice xa xn xc] true 1 := by rw [hg4, VH.get_set_same]
      have hf4 : Fr g g4 [] := by rw [hg4]; exact Fr_set (hf1.trans hbuf.fr) (Nat.le_refl _)
      have hown : OwnSl g4 1 (.slice xa xn xc) (u8s f.b) f.b.length := by
        refine hbuf.own.fr (X := [g.n]) (by rw [hg4]; exact Fr.set _ _ (by simp)) fun j hj hx => ?_
        have := hbuf.ids j hj
        simp at hx
        omega
      obtain ⟨ya, yn, yc, g5, hap5, hB5⟩ := hB.append hf4 hown (fun j hj => by have := hbuf.ids j hj; omega) (by omega)
      rw [← hsn] at hB5
      have hfl : fillC [.int .i64 0, .int .i64 0, .int .u64 0, .slice none 0 0] [(0, 4, .agg #[.int .i64 f.num, .int .i64 f.ty, .int .u64 (f.n : Int), .slice xa xn xc])] = some (fdL f (.slice xa xn xc)) := rfl
      have hone : (fdL f (.slice xa xn xc)).all Value.oneCell' = true := rfl
      have hrow : rowObj (.cells (fdL f (.slice xa xn xc)) true 4) 0 4 = some (fdL f (.slice xa xn xc)) := rfl
      simp (disch := first | omega | (simp only [VH.n_push, VH.n_set]; done) | (simp only [VH.n_push, VH.n_set]; omega)) [-BitVec.toNat_or, -BitVec.toNat_xor, -BitVec.toNat_add, -BitVec.toNat_and, -BitVec.toNat_not, -BitVec.toNat_shiftLeft, -BitVec.toNat_ushiftRight, e1, e5, e8, e9, e10, hltI, hlt, hAll, hst, ← hg1, hg1o, ld4_0, ld4_3, hnb, hsrc, hap, hg3o, st4_3, ← hg4, hg4o, ld4_all, hfl, hone, hrow, hap5, eW]
      exact ⟨_, _, _, hB5, rfl, rfl, rfl⟩
    · rw [if_neg hn] at hsn
      have hnb : (f.num == num) = false := by simpa using hn
      simp (disch := first | omega | (simp only [VH.n_push, VH.n_set]; done) | (simp only [VH.n_push, VH.n_set]; omega)) [-BitVec.toNat_or, -BitVec.toNat_xor, -BitVec.toNat_add, -BitVec.toNat_and, -BitVec.toNat_not, -BitVec.toNat_shiftLeft, -BitVec.toNat_ushiftRight, e1, e5, e8, e9, e10, hltI, hlt, hAll, hst, ← hg1, hg1o, ld4_0, hnb, eW]
      exact ⟨_, _, _, by rw [hsn]; exact hB.step hf1, rfl, rfl, rfl⟩
  · obtain rfl : k = L := by omega
    simp (disch := first | omega | (simp only [VH.n_push, VH.n_set]; done) | (simp only [VH.n_push, VH.n_set]; omega)) [-BitVec.toNat_or, -BitVec.toNat_xor, -BitVec.toNat_add, -BitVec.toNat_and, -BitVec.toNat_not, -BitVec.toNat_shiftLeft, -BitVec.toNat_ushiftRight, r_wire_All, e1, e5, e8, e9, e10]
    have e : fs.take k = fs := by rw [hL]; exact List.take_length
    rw [e] at hB
    exact ⟨_, _, _, ⟨rfl, rfl, rfl⟩, hB⟩

set_option maxHeartbeats 4000000 in
theorem rall_ok {h : VH} {v : Value} {fs : List Fd} {num : Int} (hv : IsFds h v fs) (hlen : fs.length ≤ 100000000) :
    PCalls Try.prog f_ref02_All [v, .int .i64 num] h (fun u h' => ∃ a n c, u = .slice a n c ∧ FBuf h h' (.slice a n c) (allF fs num)) := by
  refine PCalls_of_pw st_ref02_All (by simp [n_ref02_All]) ?_
  rw [b_ref02_All]
  obtain ⟨va, vc, rfl⟩ := hv.shape
  obtain ⟨L, hL⟩ : ∃ L, L = fs.length := ⟨_, rfl⟩
  rw [← hL]
  simp (disch := first | omega | (simp only [VH.n_push, VH.n_set]; done) | (simp only [VH.n_push, VH.n_set]; omega)) [-BitVec.toNat_or, -BitVec.toNat_xor, -BitVec.toNat_add, -BitVec.toNat_and, -BitVec.toNat_not, -BitVec.toNat_shiftLeft, -BitVec.toNat_ushiftRight, B_ref02_All]
  refine pw_loopN (fun k s g => ∃ a n c, FBuf h g (.slice a n c) (allF (fs.take k) num) ∧ s 0 = .slice va L vc ∧ s 1 = .int .i64 num ∧ s 5 = .slice a n c ∧ s 6 = .int .i64 (k : Int)) L ?_ ?_
  · exact ⟨none, 0, 0, by simpa [allF] using FBuf.nil h, by simp [upd_apply, s0_apply], by simp [upd_apply, s0_apply], by simp [upd_apply, s0_apply], by simp [upd_apply, s0_apply]⟩
  rintro k s g hk ⟨ba, bn, bc, hB, e0, e1, e5, e6⟩
  by_cases hlt : k < L
  · have hltI : (k : Int) < (L : Int) := by omega
    have hkf : k < fs.length := by omega
    obtain ⟨i, o, c, hi, hc, hva, hez, hat⟩ := hv.at_ (by omega)
    rw [← hL] at hva hc
    injection hva with hva1 _ hva3
    subst hva1
    subst hva3
    obtain ⟨w, hA0⟩ := hat k hkf
    have hA := hA0.fr hB.fr hi
    have htk := take_one hkf
    have hsn := allF_snoc (fs.take k) fs[k] num
    rw [← htk] at hsn
    have hal := allF_len (fs.take k) num
    rw [List.length_take] at hal
    obtain ⟨f, hf⟩ : ∃ f, f = fs[k] := ⟨_, rfl⟩
    rw [← hf] at hA hsn
    obtain ⟨FL, hFL⟩ : ∃ FL, FL = f.b.length := ⟨_, rfl⟩
    obtain ⟨wa, wc, hwv⟩ := hA.bytes.shape
    rw [← hFL] at hwv
    subst hwv
    have eW : IntKind.i64.wrap ((k : Int) + 1) = ((k + 1 : Nat) : Int) := by rw [i64_small (by omega) (by omega)]; omega
    have hAll := hA.all
    have hl0 := hA.l0
    by_cases hn : f.num = num
    · rw [if_pos hn] at hsn
      have hnb : (f.num == num) = true := by simpa using hn
      obtain ⟨ya, yn, yc, g5, hap5, hB5⟩ := hB.append (f := f) hA.bytes (by omega)
      rw [← hsn] at hB5
      have hfl : fillC [.int .i64 0, .int .i64 0, .int .u64 0, .slice none 0 0] [(0, 4, fdV f (.slice wa FL wc))] = some (fdL f (.slice wa FL wc)) := rfl
      have hone : (fdL f (.slice wa FL wc)).all Value.oneCell' = true := rfl
      have hrow : rowObj (.cells (fdL f (.slice wa FL wc)) true 4) 0 4 = some (fdL f (.slice wa FL wc)) := rfl
      simp (disch := first | omega | (simp only [VH.n_push, VH.n_set]; done) | (simp only [VH.n_push, VH.n_set]; omega)) [-BitVec.toNat_or, -BitVec.toNat_xor, -BitVec.toNat_add, -BitVec.toNat_and, -BitVec.toNat_not, -BitVec.toNat_shiftLeft, -BitVec.toNat_ushiftRight, e0, e1, e5, e6, hltI, hlt, hAll, hl0, hnb, hfl, hone, hrow, hap5, eW]
      exact ⟨_, _, _, hB5, rfl, rfl, rfl⟩
    · rw [if_neg hn] at hsn
      have hnb : (f.num == num) = false := by simpa using hn
      simp (disch := first | omega | (simp only [VH.n_push, VH.n_set]; done) | (simp only [VH.n_push, VH.n_set]; omega)) [-BitVec.toNat_or, -BitVec.toNat_xor, -BitVec.toNat_add, -BitVec.toNat_and, -BitVec.toNat_not, -BitVec.toNat_shiftLeft, -BitVec.toNat_ushiftRight, e0, e1, e5, e6, hltI, hlt, hl0, hnb, eW]
      exact ⟨_, _, _, by rw [hsn]; exact hB, rfl, rfl, rfl⟩
  · obtain rfl : k = L := by omega
    simp (disch := first | omega | (simp only [VH.n_push, VH.n_set]; done) | (simp only [VH.n_push, VH.n_set]; omega)) [-BitVec.toNat_or, -BitVec.toNat_xor, -BitVec.toNat_add, -BitVec.toNat_and, -BitVec.toNat_not, -BitVec.toNat_shiftLeft, -BitVec.toNat_ushiftRight, r_ref02_All, e0, e1, e5, e6]
    have e : fs.take k = fs := by rw [hL]; exact List.take_length
    rw [e] at hB
    exact ⟨_, _, _, ⟨rfl, rfl, rfl⟩, hB⟩

def notU8 : Value → Bool
  | .int .u8 _ => false
  | _ => true
/-- a cell of a field is no byte. -/
theorem isB_set4 {g : VH} {v : Value} {bs : List UInt8} (hb : IsBytes g v bs) {i : Nat} {a b c d a' b' c' d' : Value} (hg : g.get i = .cells [a, b, c, d] true 1) (h1 : notU8 a = true) (h2 : notU8 b = true) (h3 : notU8 c = true) (h4 : notU8 d = true) :
    IsBytes (g.set i (.cells [a', b', c', d'] true 1)) v bs := by
  rcases hb with hb | ⟨j, o, cc, cs, own, hj, rfl, hcs, hfit, hrow⟩
  · exact .inl hb
  · by_cases hji : j = i
    · subst hji
      rw [hg] at hcs
      injection hcs with hcs1 hcs2
      subst hcs1
      subst hcs2
      have hnil : bs = [] := by
        cases bs with
        | nil => rfl
        | cons x r =>
          exfalso
          simp only [List.length_cons] at hfit hrow
          have h5 : ([a, b, c, d] : List Value)[o]? = some (.int .u8 x.toNat) := by
            have := congrArg (fun l : List Value => l[0]?) hrow
            simpa [u8s, List.getElem?_take, List.getElem?_drop] using this
          have : o < 4 := by simpa using (List.getElem?_eq_some_iff.1 h5).1
          have : o = 0 ∨ o = 1 ∨ o = 2 ∨ o = 3 := by omega
          rcases this with rfl | rfl | rfl | rfl <;> (simp at h5; subst h5; simp [notU8] at *)
      subst hnil
      exact .inr ⟨j, o, cc, _, true, hj, rfl, VH.get_set_same _ _ _, by simpa using hfit, by simp [u8s]⟩
    · exact .inr ⟨j, o, cc, cs, own, hj, rfl, by rw [VH.get_set_ne _ _ hji]; exact hcs, hfit, hrow⟩
/-- the last field of a number, and whether there is one. -/
def lastF (fs : List Fd) (num : Int) : Fd × Bool := match (allF fs num).getLast? with
  | some f => (f, true)
  | none => (zeroF, false)
theorem rlast_ok {h : VH} {v : Value} {fs : List Fd} {num : Int} (hv : IsFds h v fs) (hlen : fs.length ≤ 100000000) :
    PCalls Try.prog f_ref02_Last [v, .int .i64 num] h (fun u h' => ∃ p q r, u = .tuple #[fdV (lastF fs num).1 (.slice p q r), .bool (lastF fs num).2] ∧ Fr h h' [] ∧ IsBytes h' (.slice p q r) (lastF fs num).1.b) := by
  refine PCalls_of_pw st_ref02_Last (by simp [n_ref02_Last]) ?_
  rw [b_ref02_Last]
  simp (disch := first | omega | (simp only [VH.n_push, VH.n_set]; done) | (simp only [VH.n_push, VH.n_set]; omega)) [-BitVec.toNat_or, -BitVec.toNat_xor, -BitVec.toNat_add, -BitVec.toNat_and, -BitVec.toNat_not, -BitVec.toNat_shiftLeft, -BitVec.toNat_ushiftRight, B_ref02_Last]
  obtain ⟨H, hH⟩ : ∃ H, H = h.push (.cells [.int .i64 0, .int .i64 0, .int .u64 0, .slice none 0 0] true 1) := ⟨_, rfl⟩
  have hF : Fr h H [] := by rw [hH]; exact Fr_push (Fr.refl _ _)
  have hHo : H.get h.n = .cells [.int .i64 0, .int .i64 0, .int .u64 0, .slice none 0 0] true 1 := by rw [hH, VH.get_push_new]
  have hHn : H.n = h.n + 1 := by rw [hH]; rfl
  rw [← hH]
  refine (rall_ok (hv.fr hF) hlen).mono ?_
  rintro u g1 ⟨a, n, c, rfl, hB⟩
  have hBi := hB.is
  obtain ⟨A, hA⟩ : ∃ A, A = allF fs num := ⟨_, rfl⟩
  unfold lastF
  rw [← hA] at hB hBi ⊢
  have hn : n = A.length := by
    obtain ⟨a', c', h1⟩ := hB.shape
    injection h1
  have hg1o : g1.get h.n = .cells [.int .i64 0, .int .i64 0, .int .u64 0, .slice none 0 0] true 1 := (hB.fr.get _ (by omega) (by simp)).trans hHo
  have hFg : Fr h g1 [] := hF.trans hB.fr
  by_cases h0 : n = 0
  · have hnil : A = [] := List.eq_nil_of_length_eq_zero (by omega)
    have h0I : ((n : Int) == 0) = true := by simp [h0]
    subst hnil
    simp (disch := first | omega | (simp only [VH.n_push, VH.n_set]; done) | (simp only [VH.n_push, VH.n_set]; omega)) [-BitVec.toNat_or, -BitVec.toNat_xor, -BitVec.toNat_add, -BitVec.toNat_and, -BitVec.toNat_not, -BitVec.toNat_shiftLeft, -BitVec.toNat_ushiftRight, r_ref02_Last, h0I, hg1o, fill4_0, st4_all, ld4_all]
    exact ⟨_, _, _, rfl, Fr_set hFg (Nat.le_refl _), .inl ⟨rfl, rfl⟩⟩
  · have h0I : ((n : Int) == 0) = false := by simp [h0]
    obtain ⟨i, o, c', hi, hc, hva, hez, hat⟩ := hBi.at_ (by omega)
    rw [← hn] at hva hc
    injection hva with hva1 _ hva3
    subst hva1
    subst hva3
    obtain ⟨w, hAt⟩ := hat (n - 1) (by omega)
    have hgl : A.getLast? = some A[n - 1] := by
      simp only [hn]
      rw [List.getLast?_eq_getElem?, List.getElem?_eq_getElem (by omega)]
    rw [hgl]
    obtain ⟨f, hf⟩ : ∃ f, f = A[n - 1] := ⟨_, rfl⟩
    rw [← hf] at hAt ⊢
    obtain ⟨wa, wc, hwv⟩ := hAt.bytes.shape
    obtain ⟨FL, hFL⟩ : ∃ FL, FL = f.b.length := ⟨_, rfl⟩
    rw [← hFL] at hwv
    subst hwv
    have hal := allF_len fs num
    rw [← hA] at hal
    have e1 : IntKind.i64.wrap ((n : Int) - 1) = ((n - 1 : Nat) : Int) := by rw [i64_small (by omega) (by omega)]; omega
    have hAll := hAt.all
    have hlt : n - 1 < n := by omega
    have hst : ∀ a b c d, storeObj (.cells [a, b, c, d] true 1) 0 4 (fdV f (.slice wa FL wc)) = some (.cells [.int .i64 f.num, .int .i64 f.ty, .int .u64 (f.n : Int), .slice wa FL wc] true 1) := fun _ _ _ _ => rfl
    obtain ⟨m, hm⟩ : ∃ m, m = n - 1 := ⟨_, rfl⟩
    rw [← hm] at e1 hAll hlt
    have hltI : (m : Int) < (n : Int) := by omega
    simp (disch := first | omega | (simp only [VH.n_push, VH.n_set]; done) | (simp only [VH.n_push, VH.n_set]; omega)) [-BitVec.toNat_or, -BitVec.toNat_xor, -BitVec.toNat_add, -BitVec.toNat_and, -BitVec.toNat_not, -BitVec.toNat_shiftLeft, -BitVec.toNat_ushiftRight, r_ref02_Last, h0I, e1, hltI, hlt, hAll, hg1o, hst, ld4_all]
    exact ⟨_, _, _, rfl, Fr_set hFg (Nat.le_refl _), isB_set4 hAt.bytes hg1o rfl rfl rfl rfl⟩
theorem lastF_at {fs : List Fd} {num : Int} {j : Nat} (hj : j < fs.length) (hn : fs[j].num = num) (hno : ∀ x ∈ fs.drop (j + 1), x.num ≠ num) : lastF fs num = (fs[j], true) := by
  have h1 : allF fs num = allF (fs.take j) num ++ [fs[j]] := by
    have h2 : fs = fs.take (j + 1) ++ fs.drop (j + 1) := (List.take_append_drop _ _).symm
    have h3 : allF (fs.drop (j + 1)) num = [] := by
      unfold allF
      rw [List.filter_eq_nil_iff]
      intro x hx
      simpa using hno x hx
    have h4 : allF fs num = allF (fs.take (j + 1)) num ++ allF (fs.drop (j + 1)) num := by
      unfold allF
      rw [← List.filter_append, List.take_append_drop]
    rw [h4, h3, List.append_nil, take_one hj, allF_snoc, if_pos hn]
  unfold lastF
  rw [h1]
  simp
theorem lastF_none {fs : List Fd} {num : Int} (hno : ∀ x ∈ fs, x.num ≠ num) : lastF fs num = (zeroF, false) := by
  have h3 : allF fs num = [] := by
    unfold allF
    rw [List.filter_eq_nil_iff]
    intro x hx
    simpa using hno x hx
  unfold lastF
  rw [h3]
  rfl
set_option maxHeartbeats 4000000 in
theorem last_ok {h : VH} {v : Value} {fs : List Fd} {num : Int} (hv : IsFds h v fs) (hbl : ∀ f ∈ fs, f.b.length ≤ 100000000) (hlen : fs.length ≤ 100000000) :
    PCalls Try.prog f_wire_Last [v, .int .i64 num] h (fun u h' => ∃ p q r, u = .tuple #[fdV (lastF fs num).1 (.slice p q r), .bool (lastF fs num).2] ∧ Fr h h' [] ∧ IsBytes h' (.slice p q r) (lastF fs num).1.b) := by
  refine PCalls_of_pw st_wire_Last (by simp [n_wire_Last]) ?_
  rw [b_wire_Last]
  obtain ⟨va, vc, rfl⟩ := hv.shape
  obtain ⟨L, hL⟩ : ∃ L, L = fs.length := ⟨_, rfl⟩
  rw [← hL]
  obtain ⟨H, hH⟩ : ∃ H, H = h.push (.cells [.int .i64 0, .int .i64 0, .int .u64 0, .slice none 0 0] true 1) := ⟨_, rfl⟩
  have hF : Fr h H [] := by rw [hH]; exact Fr_push (Fr.refl _ _)
  have hHo : H.get h.n = .cells [.int .i64 0, .int .i64 0, .int .u64 0, .slice none 0 0] true 1 := by rw [hH, VH.get_push_new]
  have hHn : H.n = h.n + 1 := by rw [hH]; rfl
  have e0 : IntKind.i64.wrap ((L : Int) - 1) = (L : Int) - 1 := i64_small (by omega) (by omega)
  simp (disch := first | omega | (simp only [VH.n_push, VH.n_set]; done) | (simp only [VH.n_push, VH.n_set]; omega)) [-BitVec.toNat_or, -BitVec.toNat_xor, -BitVec.toNat_add, -BitVec.toNat_and, -BitVec.toNat_not, -BitVec.toNat_shiftLeft, -BitVec.toNat_ushiftRight, B_wire_Last, ← hH, e0]
  refine pw_loopN (fun k s g => g = H ∧ (∀ x ∈ fs.drop (L - k), x.num ≠ num) ∧ s 0 = .slice va L vc ∧ s 1 = .int .i64 num ∧ s 4 = .pointer (some ⟨h.n, 0, none⟩) ∧ s 6 = .int .i64 ((L : Int) - 1 - (k : Int))) L ?_ ?_
  · exact ⟨rfl, by rw [hL]; simp, by simp [upd_apply, s0_apply], by simp [upd_apply, s0_apply], by simp [upd_apply, s0_apply], by simp [upd_apply]⟩
  rintro k s g hk ⟨rfl, hno, e0, e1, e4, e6⟩
  by_cases hlt : k < L
  · obtain ⟨j, hj⟩ : ∃ j, j = L - 1 - k := ⟨_, rfl⟩
    have hjI : (L : Int) - 1 - (k : Int) = (j : Int) := by omega
    rw [hjI] at e6
    have hjf : j < fs.length := by omega
    obtain ⟨i, o, c, hi, hc, hva, hez, hat⟩ := hv.at_ (by omega)
    rw [← hL] at hva hc
    injection hva with hva1 _ hva3
    subst hva1
    subst hva3
    obtain ⟨w, hA0⟩ := hat j hjf
    have hA := hA0.fr hF hi
    have hmem : fs[j] ∈ fs := List.getElem_mem hjf
    rw [show L - k = j + 1 by omega] at hno
    have hla := lastF_at (num := num) hjf
    have hdr : fs.drop j = fs[j] :: fs.drop (j + 1) := List.drop_eq_getElem_cons hjf
    obtain ⟨f, hf⟩ : ∃ f, f = fs[j] := ⟨_, rfl⟩
    rw [← hf] at hA hmem hla hdr
    obtain ⟨FL, hFL⟩ : ∃ FL, FL = f.b.length := ⟨_, rfl⟩
    have hfb := hbl f hmem
    obtain ⟨wa, wc, hwv⟩ := hA.bytes.shape
    rw [← hFL] at hwv
    subst hwv
    have hjL : j < L := by omega
    have hjLI : (j : Int) < (L : Int) := by omega
    have eW : IntKind.i64.wrap ((j : Int) - 1) = (j : Int) - 1 := i64_small (by omega) (by omega)
    have hAll := hA.all
    have hl0 := hA.l0
    by_cases hn : f.num = num
    · have hnb : (f.num == num) = true := by simpa using hn
      have hlast := hla hn hno
      rw [hlast]
      have hst : ∀ a b c d, storeObj (.cells [a, b, c, d] true 1) 0 4 (fdV f (.slice wa FL wc)) = some (.cells [.int .i64 f.num, .int .i64 f.ty, .int .u64 (f.n : Int), .slice wa FL wc] true 1) := fun _ _ _ _ => rfl
      obtain ⟨g1, hg1⟩ : ∃ g1, g1 = (g.push (.cells [.int .i64 0, .int .i64 0, .int .u64 0, .slice none 0 0] true 1)).set g.n (.cells [.int .i64 f.num, .int .i64 f.ty, .int .u64 (f.n : Int), .slice wa FL wc] true 1) := ⟨_, rfl⟩
      have hg1o : g1.get g.n = .cells [.int .i64 f.num, .int .i64 f.ty, .int .u64 (f.n : Int), .slice wa FL wc] true 1 := by rw [hg1, VH.get_set_same]
      have hf1 : Fr g g1 [] := by rw [hg1]; exact Fr_set (Fr_push (Fr.refl _ _)) (Nat.le_refl _)
      have hg1n : g1.n = g.n + 1 := by rw [hg1]; rfl
      obtain ⟨w', g3, hap, hbuf⟩ := (Buf.nil g1).append f.b (by simp; omega)
      rw [List.nil_append] at hbuf
      rw [← hFL] at hap
      obtain ⟨xa, xn, xc, rfl⟩ : ∃ a n c, w' = .slice a n c := by
        obtain ⟨a, c, rfl⟩ := hbuf.shape
        exact ⟨_, _, _, rfl⟩
      have hsrc := (isB_fr hf1 hA.bytes).src
      have hg3o : g3.get g.n = .cells [.int .i64 f.num, .int .i64 f.ty, .int .u64 (f.n : Int), .slice wa FL wc] true 1 := (hbuf.fr.get _ (by omega) (by simp)).trans hg1o
      have hg3h : g3.get h.n = .cells [.int .i64 0, .int .i64 0, .int .u64 0, .slice none 0 0] true 1 := (hbuf.fr.get _ (by omega) (by simp)).trans ((hf1.get _ (by omega) (by simp)).trans hHo)
      obtain ⟨g4, hg4⟩ : ∃ g4, g4 = g3.set g.n (.cells [.int .i64 f.num, .int .i64 f.ty, .int .u64 (f.n : Int), .slice xa xn xc] true 1) := ⟨_, rfl⟩
      have hg4o : g4.get g.n = .cells [.int .i64 f.num, .int .i64 f.ty, .int .u64 (f.n : Int), .slice xa xn xc] true 1 := by rw [hg4, VH.get_set_same]
      have hg4h : g4.get h.n = .cells [.int .i64 0, .int .i64 0, .int .u64 0, .slice none 0 0] true 1 := by rw [hg4, VH.get_set_ne _ _ (by omega)]; exact hg3h
      have hf4 : Fr g g4 [] := by rw [hg4]; exact Fr_set (hf1.trans hbuf.fr) (Nat.le_refl _)
      have hby : IsBytes g4 (.slice xa xn xc) f.b := by
        refine hbuf.is.fr (X := [g.n]) (by rw [hg4]; exact Fr.set _ _ (by simp)) fun j hj hx => ?_
        have := hbuf.ids j hj
        simp at hx
        omega
      simp (disch := first | omega | (simp only [VH.n_push, VH.n_set]; done) | (simp only [VH.n_push, VH.n_set]; omega)) [-BitVec.toNat_or, -BitVec.toNat_xor, -BitVec.toNat_add, -BitVec.toNat_and, -BitVec.toNat_not, -BitVec.toNat_shiftLeft, -BitVec.toNat_ushiftRight, r_wire_Last, e0, e1, e4, e6, hjLI, hjL, hl0, hAll, hst, ← hg1, hg1o, ld4_3, hnb, hsrc, hap, hg3o, st4_3, ← hg4, hg4o, hg4h, ld4_all, st4_all]
      exact ⟨_, _, _, rfl, Fr_set (hF.trans hf4) (Nat.le_refl _), isB_set4 hby hg4h rfl rfl rfl rfl⟩
    · have hnb : (f.num == num) = false := by simpa using hn
      have e6' : (j : Int) - 1 = (L : Int) - 1 - ((k : Int) + 1) := by omega
      simp (disch := first | omega | (simp only [VH.n_push, VH.n_set]; done) | (simp only [VH.n_push, VH.n_set]; omega)) [-BitVec.toNat_or, -BitVec.toNat_xor, -BitVec.toNat_add, -BitVec.toNat_and, -BitVec.toNat_not, -BitVec.toNat_shiftLeft, -BitVec.toNat_ushiftRight, e0, e1, e4, e6, hjLI, hjL, hl0, hnb, eW]
      refine ⟨hlt, ?_, by omega⟩
      rw [show L - (k + 1) = j by omega, hdr]
      intro x hx
      rcases List.mem_cons.1 hx with rfl | hx
      · exact hn
      · exact hno x hx
  · obtain rfl : k = L := by omega
    rw [show (k : Int) - 1 - (k : Int) = -1 by omega] at e6
    have hno : ∀ x ∈ fs, x.num ≠ num := by simpa using hno
    rw [lastF_none hno]
    simp (disch := first | omega | (simp only [VH.n_push, VH.n_set]; done) | (simp only [VH.n_push, VH.n_set]; omega)) [-BitVec.toNat_or, -BitVec.toNat_xor, -BitVec.toNat_add, -BitVec.toNat_and, -BitVec.toNat_not, -BitVec.toNat_shiftLeft, -BitVec.toNat_ushiftRight, r_wire_Last, e0, e1, e4, e6, hHo, fill4_0, st4_all, ld4_all]
    exact ⟨none, 0, 0, rfl, Fr_set hF (Nat.le_refl _), .inl ⟨rfl, rfl⟩⟩
end Go.Proofs.Ytgkokffmblphnaa.Wr
