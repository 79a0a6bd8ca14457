/- wire, part N: messages are read, and what is told is new. -/
import Derived.Test.YtdnkpgbggpbgaaaWrE
set_option linter.unusedVariables false
set_option linter.unusedSimpArgs false
set_option maxRecDepth 100000
namespace Go.Proofs.Ytdnkpgbggpbgaaa.Wr
open Go Go.RowKit Go.Proofs.Ytdnkpgbggpbgaaa.Pm Go.Proofs.Ytdnkpgbggpbgaaa.Fs
attribute [local simp] pw_skip pw_ops pw_quiet pw_seq pw_cond pw_block pw_exit pw_ret pw_scope pw_label kSeq_normal kSeq_ret kSeq_exit kBlock_normal kBlock_ret kBlock_exit kScope_normal kScope_ret kScope_exit kLoop_normal kLoop_ret kLoop_exit kCond_true kCond_false kCond_dec pwOps_nil pwOps_call pwOps_guard kStep_some kCall_at pwQ_nil pwQ_call pwQ_guard kQ_some putS_some putS_none upd_apply ev_t ev_k isB_bool isB_undef s0_apply pstep pwO_mov pwO_pick pwO_nilck pwO_bin pwO_binB pwO_eqNil pwO_un pwO_convI pwO_convS pwO_alloc pwO_build pwO_load pwO_store pwO_fieldAddr pwO_field pwO_idxS pwO_idxA pwO_idxV pwO_strAt pwO_lenStr pwO_lenS pwO_lenC pwO_slS pwO_slA pwO_slStr pwO_extract pwO_mkFunc pwO_mkIface pwO_append pwO_appendStr pwO_toBytes pwO_ofB pwO_box pwO_row pwO_minmax pwO_eqV pwO_sameB pwR_mov pwR_pick pwR_nilck pwR_bin pwR_binB pwR_eqNil pwR_un pwR_convI pwR_convS pwR_build pwR_load pwR_fieldAddr pwR_field pwR_idxS pwR_idxA pwR_idxV pwR_strAt pwR_lenStr pwR_lenS pwR_lenC pwR_slS pwR_slA pwR_slStr pwR_extract pwR_mkFunc pwR_mkIface pwR_ofB pwR_minmax pwR_eqV ret_r ret_n kRet_some resV0 resV1 resV2 resV3 resV4 VH.get_push_new VH.get_set_same VH.n_push VH.n_set cellsL_agg cellsL_int cellsL_bool cellsL_string cellsL_slice cellsL_pointer cellsL_map pw_draw pwD_nil pwD_cons kD_nil kD_cons evalOK_plain evalOK_guard kEv_some dstIs_some dstIs_none pw_goto pw_scopeL kSeq_goto kBlock_goto kLoop_goto kScopeL_normal kScopeL_ret kScopeL_exit kScopeL_goto pwOps_callv kCallv_fn kCallv_yld pwOps_nextM pwO_makeMap pwO_lookup pwR_lookup pwO_mapSet pwO_mapDel pwO_lenM pwR_lenM pwO_mapEntry pwO_entrySet pwO_rangeS pwO_nextS pwO_rangeM pwO_entryM pwR_entryM pwO_copyV pwO_makeSl pwO_asrt pwR_asrt kStep_if kStep_dif kQ_if kQ_dif kEv_if bound_none bound_some toNat_add' toNat_sub' toNat_mul' kLoopN_normal kLoopN_ret kLoopN_exit kLoopN_goto Option.map_some Option.map_none loadAt_obj storeAt_obj rowOf_obj eszIs_obj eszObj_cells loadObj_tab storeObj_tab_int VH.get_set_ne VH.get_push_lt VH.set_set tab_length List.getElem?_cons_zero List.getElem?_cons_succ List.length_cons List.length_nil oneC_int oneC_bool oneC_string oneC_slice oneC_pointer oneC_map srcCells_at srcCells_nil VH.get_push_at isNilV pw_drawT pwT_nil pwT_step pwT_alt kT_nil kT_cons pun pbinS pbin pbinI i64_small IntKind.bits resV resL resOne

theorem FdOut.append {X : List Nat} : ∀ {cs : List Value} (k : Nat), cs.length = 4 * k → FdOut X cs → ∀ {ds : List Value}, FdOut X ds → FdOut X (cs ++ ds)
  | [], 0, _, _, _, h => h
  | _ :: _ :: _ :: w :: r, k + 1, hl, ⟨h1, h2⟩, ds, h => ⟨h1, FdOut.append k (by simp at hl; omega) h2 h⟩
  | [], k + 1, hl, _, _, _ => by simp at hl
  | [_], k, hl, _, _, _ => by simp at hl; omega
  | [_, _], k, hl, _, _, _ => by simp at hl; omega
  | [_, _, _], k, hl, _, _, _ => by simp at hl; omega
  | _ :: _ :: _ :: _ :: _, 0, hl, _, _, _ => by simp at hl
theorem FdL.atO {h : VH} {X : List Nat} : ∀ {cs : List Value} {fs : List Fd}, FdL h cs fs → FdOut X cs → ∀ (k : Nat) (hk : k < fs.length), ∃ w, (cs.drop (4 * k)).take 4 = fdL fs[k] w ∧ IsBytes h w fs[k].b ∧ ∀ i ∈ idOf w, i ∉ X
  | _ :: _ :: _ :: w :: r, f :: fs, ⟨h1, h2, h3, h4, h5⟩, ⟨k1, k2⟩, 0, _ => ⟨w, by subst h1 h2 h3; rfl, h4, k1⟩
  | _ :: _ :: _ :: w :: r, f :: fs, ⟨h1, h2, h3, h4, h5⟩, ⟨k1, k2⟩, k + 1, hk => by
    obtain ⟨w', e1, e2, e3⟩ := h5.atO k2 k (by simpa using hk)
    exact ⟨w', by rw [show 4 * (k + 1) = 4 * k + 4 by omega]; exact e1, e2, e3⟩
  | [], [], _, _, k, hk => by simp at hk
  | [], _ :: _, h, _, _, _ => h.elim
  | [_], [], h, _, _, _ => h.elim
  | [_], _ :: _, h, _, _, _ => h.elim
  | [_, _], [], h, _, _, _ => h.elim
  | [_, _], _ :: _, h, _, _, _ => h.elim
  | [_, _, _], [], h, _, _, _ => h.elim
  | [_, _, _], _ :: _, h, _, _, _ => h.elim
  | _ :: _ :: _ :: _ :: _, [], h, _, _, _ => h.elim

/-- a list of fields, gathered in a row that is owned; the fields' bytes are new too. -/
structure FBufN (h0 g : VH) (w : Value) (fs : List Fd) : Prop where
  own : ∃ cs, OwnSl g 4 w cs fs.length ∧ FdL g cs fs ∧ FdOut (List.range h0.n) cs
  fr : Fr h0 g []
  ids : ∀ i ∈ idOf w, h0.n ≤ i
theorem FBufN.nil (h : VH) : FBufN h h (.slice none 0 0) [] := ⟨⟨[], OwnSl.nil _ _, trivial, trivial⟩, Fr.refl _ _, fun i hi => by simp [idOf] at hi⟩
theorem FBufN.shape {h0 g : VH} {w : Value} {fs : List Fd} (hb : FBufN h0 g w fs) : ∃ a c, w = .slice a fs.length c := by
  obtain ⟨cs, ho, _⟩ := hb.own
  exact ho.shapeN
theorem FBufN.step {h0 g g' : VH} {w : Value} {fs : List Fd} (hb : FBufN h0 g w fs) (hf : Fr g g' []) : FBufN h0 g' w fs := by
  obtain ⟨cs, ho, hl, hx⟩ := hb.own
  exact ⟨⟨cs, ho.fr hf (fun i _ => by simp), hl.mono fun _ _ => isB_fr hf, hx⟩, hb.fr.trans hf, hb.ids⟩
theorem FBufN.append {h0 g : VH} {w : Value} {fs : List Fd} (hb : FBufN h0 g w fs) {f : Fd} {u : Value} (hu : IsBytes g u f.b) (hnew : ∀ x ∈ idOf u, h0.n ≤ x) (hl : fs.length < 1000000000000) :
    ∃ a n c g', appendV (g.push (.cells (fdL f u) true 4)) 4 48 w (fdL f u) 1 = some (.slice a n c, g') ∧ FBufN h0 g' (.slice a n c) (fs ++ [f]) := by
  have hb2 := hb.step (Fr.push g (.cells (fdL f u) true 4) [])
  have hu2 := isB_fr (Fr.push g (.cells (fdL f u) true 4) []) hu
  obtain ⟨cs, ho, hc, hxo⟩ := hb2.own
  obtain ⟨w', g', hap, ho', hf, hid⟩ := ho.append (bytes := 48) (ys := fdL f u) (k := 1) rfl (by omega)
  obtain ⟨a, c, rfl⟩ := ho'.shapeN
  have hcl := hc.length
  refine ⟨_, _, _, g', hap, ⟨⟨cs ++ fdL f u, by rw [List.length_append]; exact ho', ?_, ?_⟩, hb2.fr.trans' hf (fun y hy => .inr (hb2.ids y hy)), fun i hi => ?_⟩⟩
  · have hx := OwnSl.cells ho
    have h1 : FdL (g.push (.cells (fdL f u) true 4)) (fdL f u) [f] := FdL.one hu2
    exact (hc.fr hf (hc.out hx)).append (h1.fr hf (h1.out hx))
  · refine FdOut.append fs.length hcl hxo ⟨fun i hi => ?_, trivial⟩
    have := hnew i hi
    simp; omega
  · rcases hid i hi with h1 | h1
    · exact hb2.ids i h1
    · exact Nat.le_trans hb2.fr.n h1
theorem FBufN.at_ {h0 h : VH} {v : Value} {fs : List Fd} (hb : FBufN h0 h v fs) (hne : 0 < fs.length) : ∃ i o c, i < h.n ∧ h0.n ≤ i ∧ v = .slice (some ⟨i, o, none⟩) fs.length c ∧ eszObj (h.get i) 4 = true ∧ ∀ k (hk : k < fs.length), ∃ w, FdAt h i (o + k * 4) fs[k] w ∧ ∀ x ∈ idOf w, h0.n ≤ x := by
  obtain ⟨cs, ho, hl, hx⟩ := hb.own
  rcases ho with ⟨_, _, h0⟩ | ⟨i, o, c, ds, hi, hc, rfl, hg, hd, hln, hoo⟩
  · omega
  have hid := hb.ids i (by simp [idOf])
  have hdl : ds.length = o + 4 * fs.length := by
    have := congrArg List.length hd
    simp at this
    omega
  refine ⟨i, o, c, hi, hid, rfl, by rw [hg]; rfl, fun k hk => ?_⟩
  obtain ⟨w, h1, h2, h3⟩ := hl.atO hx k hk
  rw [← hd, List.drop_drop, Nat.mul_comm 4 k] at h1
  obtain ⟨e0, e1, e2, e3⟩ := getElem_of_take4 h1
  refine ⟨w, ⟨?_, by rw [hg]; exact e0, by rw [hg]; exact e1, by rw [hg]; exact e2, by rw [hg]; exact e3, h2⟩, fun x hx' => ?_⟩
  · rw [hg]
    simp only [loadObj]
    rw [if_pos (by omega), h1]
    rfl
  · have := h3 x hx'
    simp at this
    omega
/-- what Read tells. -/
def ReadN (h : VH) (bs : List UInt8) (u : Value) (h' : VH) : Prop :=
  ∃ a n c, u = .tuple #[.slice a n c, .int .i64 (readS bs).2.1, .int .i64 ((readS bs).2.2 : Int)] ∧ FBufN h h' (.slice a n c) (readS bs).1

set_option maxHeartbeats 4000000 in
theorem nread_ok {h : VH} {v : Value} {bs : List UInt8} (hb : IsBytes h v bs) (hlen : bs.length ≤ 1000000000) :
    PCalls Try.prog f_wire_Read [v] h (ReadN h bs) := by
  refine PCalls_of_pw st_wire_Read (by simp [n_wire_Read]) ?_
  rw [b_wire_Read]
  obtain ⟨va, vc, rfl⟩ := hb.shape
  obtain ⟨L, hL⟩ : ∃ L, L = bs.length := ⟨_, rfl⟩
  have hnil : ∀ g, Fr h g [] → FBufN h g (.slice none 0 0) [] := fun g hg => (FBufN.nil h).step hg
  have herr : ∀ (e : Int) (p : Nat) (g : VH), readS bs = ([], e, p) → Fr h g [] → ReadN h bs (.tuple #[.slice none 0 0, .int .i64 e, .int .i64 (p : Int)]) g := by
    intro e p g hr hf
    exact ⟨none, 0, 0, by rw [hr], by rw [hr]; exact hnil g hf⟩
  rw [← hL] at hb ⊢
  by_cases hbig : 1048576 < L
  · have hbigI : (1048576 : Int) < (L : Int) := by omega
    simp (disch := first | omega | (simp only [VH.n_push, VH.n_set]; done) | (simp only [VH.n_push, VH.n_set]; omega)) [-BitVec.toNat_or, -BitVec.toNat_xor, -BitVec.toNat_add, -BitVec.toNat_and, -BitVec.toNat_not, -BitVec.toNat_shiftLeft, -BitVec.toNat_ushiftRight, r_wire_Read, B_wire_Read, hbig, hbigI]
    exact herr 4 0 _ (by unfold readS; rw [if_pos (by omega)]) (Fr.refl _ _)
  have hbigI : ¬ (1048576 : Int) < (L : Int) := by omega
  obtain ⟨R, hR⟩ : ∃ R, R = readR (L + 1) 0 bs := ⟨_, rfl⟩
  have hrs : readS bs = if R.2.1 = 0 then (R.1, 0, 0) else ([], R.2.1, R.2.2) := by unfold readS; rw [if_neg (by omega), ← hL, ← hR]
  simp (disch := first | omega | (simp only [VH.n_push, VH.n_set]; done) | (simp only [VH.n_push, VH.n_set]; omega)) [-BitVec.toNat_or, -BitVec.toNat_xor, -BitVec.toNat_add, -BitVec.toNat_and, -BitVec.toNat_not, -BitVec.toNat_shiftLeft, -BitVec.toNat_ushiftRight, B_wire_Read, hbig, hbigI]
  refine pw_loopN (fun k s g => ∃ (at_ f : Nat) (fs : List Fd) (a : Option Addr) (n c : Nat), FBufN h g (.slice a n c) fs ∧ n = fs.length ∧ at_ ≤ L ∧ k ≤ at_ ∧ L ≤ f + at_ ∧ fs.length ≤ 4096 ∧ (∀ x ∈ fs, x.b.length ≤ L) ∧
    R = (fs ++ (readR (f + 1) fs.length (bs.drop at_)).1, (readR (f + 1) fs.length (bs.drop at_)).2.1, at_ + (readR (f + 1) fs.length (bs.drop at_)).2.2) ∧
    s 0 = .slice va L vc ∧ s 5 = .slice a n c ∧ s 6 = .int .i64 (at_ : Int)) L ?_ ?_
  · exact ⟨0, L, [], none, 0, 0, hnil _ (Fr.refl _ _), rfl, by omega, by omega, by omega, by simp, by simp, by rw [hR]; simp, by simp [upd_apply, s0_apply], by simp [upd_apply], by simp [upd_apply]⟩
  rintro k s g hk ⟨at_, f, fs, ba, bn, bc, hB, hbn, hat, hka, hfa, hfs, hfb, hRe, e0, e5, e6⟩
  by_cases hlt : at_ < L
  · have hltI : (at_ : Int) < (L : Int) := by omega
    have hl0 : (bs.drop at_).length ≠ 0 := by simp; omega
    rw [readR_succ, if_neg hl0] at hRe
    by_cases hfull : bn = 4096
    · have hfI : ((bn : Int) == 4096) = true := by simp; omega
      rw [if_pos (by omega)] at hRe
      simp (disch := first | omega | (simp only [VH.n_push, VH.n_set]; done) | (simp only [VH.n_push, VH.n_set]; omega)) [-BitVec.toNat_or, -BitVec.toNat_xor, -BitVec.toNat_add, -BitVec.toNat_and, -BitVec.toNat_not, -BitVec.toNat_shiftLeft, -BitVec.toNat_ushiftRight, r_wire_Read, e0, e5, e6, hltI, hlt, hfI]
      exact herr 7 at_ _ (by rw [hrs, hRe]; rfl) hB.fr
    have hfI : ((bn : Int) == 4096) = false := by simp; omega
    rw [if_neg (by omega)] at hRe
    simp (disch := first | omega | (simp only [VH.n_push, VH.n_set]; done) | (simp only [VH.n_push, VH.n_set]; omega)) [-BitVec.toNat_or, -BitVec.toNat_xor, -BitVec.toNat_add, -BitVec.toNat_and, -BitVec.toNat_not, -BitVec.toNat_shiftLeft, -BitVec.toNat_ushiftRight, e0, e5, e6, hltI, hlt, hfI]
    have hbg := isB_fr hB.fr hb
    rw [hL] at hbg
    rw [hL]
    refine (next_ok hbg (at_ := at_) (by omega) hlen).mono ?_
    rintro u g2 ⟨hf2, xa, xb, xc, p, q, r, e, rfl, hok⟩
    have hnn := hB.fr.n
    rw [← hL]
    obtain ⟨T, hT⟩ : ∃ T, T = bs.drop at_ := ⟨_, rfl⟩
    rw [← hT] at hRe hok ⊢
    have hsp := @nextS_spec T
    have hTl : T.length = L - at_ := by rw [hT, hL]; simp
    have hdd : ∀ j, T.drop j = bs.drop (at_ + j) := fun j => by rw [hT, List.drop_drop]
    generalize nextS T = q0 at hRe hok hsp ⊢
    obtain ⟨F, kk, e1⟩ := q0
    simp only at hRe hok hsp ⊢
    by_cases he : e1 = 0
    · subst he
      obtain ⟨rfl, rfl, rfl, rfl, hby, hid⟩ := hok rfl
      obtain ⟨k1, k2, k3, k4, k5, k6, k7, k8⟩ := hsp rfl
      rw [if_neg (by simp), hdd] at hRe
      have hst : ∀ a b c d, storeObj (.cells [a, b, c, d] true 1) 0 4 (.agg #[.int .i64 F.num, .int .i64 F.ty, .int .u64 (F.n : Int), .slice p q r]) = some (.cells [.int .i64 F.num, .int .i64 F.ty, .int .u64 (F.n : Int), .slice p q r] true 1) := fun _ _ _ _ => rfl
      obtain ⟨g3, hg3⟩ : ∃ g3, g3 = (g2.push (.cells [.int .i64 0, .int .i64 0, .int .u64 0, .slice none 0 0] true 1)).set g2.n (.cells [.int .i64 F.num, .int .i64 F.ty, .int .u64 (F.n : Int), .slice p q r] true 1) := ⟨_, rfl⟩
      have hf3 : Fr g2 g3 [] := by rw [hg3]; exact Fr_set (Fr_push (Fr.refl _ _)) (Nat.le_refl _)
      have hg3o : g3.get g2.n = .cells [.int .i64 F.num, .int .i64 F.ty, .int .u64 (F.n : Int), .slice p q r] true 1 := by rw [hg3, VH.get_set_same]
      have hB3 := (hB.step hf2).step hf3
      obtain ⟨wa, wn, wc, g4, hap, hB4⟩ := hB3.append (f := F) (isB_fr hf3 hby) (fun x hx => by have := hid x hx; omega) (by omega)
      have hfl : fillC [.int .i64 0, .int .i64 0, .int .u64 0, .slice none 0 0] [(0, 4, .agg #[.int .i64 F.num, .int .i64 F.ty, .int .u64 (F.n : Int), .slice p q r])] = some (fdL F (.slice p q r)) := rfl
      have hone : (fdL F (.slice p q r)).all Value.oneCell' = true := rfl
      have hrow : rowObj (.cells (fdL F (.slice p q r)) true 4) 0 4 = some (fdL F (.slice p q r)) := rfl
      have e1I : (at_ : Int) + (kk : Int) = ((at_ + kk : Nat) : Int) := by omega
      simp (disch := first | omega | (simp only [VH.n_push, VH.n_set]; done) | (simp only [VH.n_push, VH.n_set]; omega)) [-BitVec.toNat_or, -BitVec.toNat_xor, -BitVec.toNat_add, -BitVec.toNat_and, -BitVec.toNat_not, -BitVec.toNat_shiftLeft, -BitVec.toNat_ushiftRight, e0, e5, e6, ← hg3, hg3o, hst, ld4_all, hfl, hone, hrow, hap]
      have hwn : wn = (fs ++ [F]).length := by
        obtain ⟨a', c', h1⟩ := hB4.shape
        injection h1
      obtain ⟨f', rfl⟩ : ∃ f', f = f' + 1 := ⟨f - 1, by omega⟩
      refine ⟨by omega, at_ + kk, f', fs ++ [F], wa, wn, wc, hB4, hwn, by omega, by omega, by omega, by simp; omega, ?_, ?_, ⟨rfl, rfl, rfl⟩, by omega⟩
      · intro x hx
        rcases List.mem_append.1 hx with hx | hx
        · exact hfb x hx
        · rw [List.mem_singleton.1 hx]; omega
      · rw [hRe]
        simp [Nat.add_assoc]
    · have heb : (e1 != 0) = true := by simpa using he
      rw [if_pos he] at hRe
      have hst : ∀ a b c d, storeObj (.cells [a, b, c, d] true 1) 0 4 (.agg #[.int .i64 xa, .int .i64 xb, .int .u64 xc, .slice p q r]) = some (.cells [.int .i64 xa, .int .i64 xb, .int .u64 xc, .slice p q r] true 1) := fun _ _ _ _ => rfl
      simp (disch := first | omega | (simp only [VH.n_push, VH.n_set]; done) | (simp only [VH.n_push, VH.n_set]; omega)) [-BitVec.toNat_or, -BitVec.toNat_xor, -BitVec.toNat_add, -BitVec.toNat_and, -BitVec.toNat_not, -BitVec.toNat_shiftLeft, -BitVec.toNat_ushiftRight, r_wire_Read, e0, e5, e6, heb, hst]
      exact herr e1 at_ _ (by rw [hrs, hRe]; simp [he]) (Fr_set (Fr_push (hB.fr.trans hf2)) (by have := hB.fr.n; have := hf2.n; omega))
  · obtain rfl : at_ = L := by omega
    have hd : (bs.drop at_).length = 0 := by simp; omega
    rw [readR_succ, if_pos hd] at hRe
    simp (disch := first | omega | (simp only [VH.n_push, VH.n_set]; done) | (simp only [VH.n_push, VH.n_set]; omega)) [-BitVec.toNat_or, -BitVec.toNat_xor, -BitVec.toNat_add, -BitVec.toNat_and, -BitVec.toNat_not, -BitVec.toNat_shiftLeft, -BitVec.toNat_ushiftRight, r_wire_Read, e0, e5, e6]
    have hrs2 : readS bs = (fs, 0, 0) := by rw [hrs, hRe]; simp
    exact ⟨ba, bn, bc, by rw [hrs2]; rfl, by rw [hrs2]; exact hB⟩

end Go.Proofs.Ytdnkpgbggpbgaaa.Wr
