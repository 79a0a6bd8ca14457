/- SHA-256, part Y: the law of bytes in any pieces. -/
import Derived.Test.YtadkbkkfpajghaaShaX
set_option linter.unusedVariables false
set_option linter.unusedSimpArgs false
set_option maxRecDepth 100000
namespace Go.Proofs.Ytadkbkkfpajghaa.Sha
open Go Go.RowKit Go.Proofs.Ytadkbkkfpajghaa.Pm Go.Proofs.Ytadkbkkfpajghaa.Fs
attribute [local simp] pw_skip pw_ops pw_quiet pw_seq pw_cond pw_block pw_exit pw_ret pw_scope pw_label kSeq_normal kSeq_ret kSeq_exit kBlock_normal kBlock_ret kBlock_exit kScope_normal kScope_ret kScope_exit kLoop_normal kLoop_ret kLoop_exit kCond_true kCond_false kCond_dec pwOps_nil pwOps_call pwOps_guard kStep_some kCall_at pwQ_nil pwQ_call pwQ_guard kQ_some putS_some putS_none upd_apply ev_t ev_k isB_bool isB_undef s0_apply pstep pwO_mov pwO_pick pwO_nilck pwO_bin pwO_binB pwO_eqNil pwO_un pwO_convI pwO_convS pwO_alloc pwO_build pwO_load pwO_store pwO_fieldAddr pwO_field pwO_idxS pwO_idxA pwO_idxV pwO_strAt pwO_lenStr pwO_lenS pwO_lenC pwO_slS pwO_slA pwO_slStr pwO_extract pwO_mkFunc pwO_mkIface pwO_append pwO_appendStr pwO_toBytes pwO_ofB pwO_box pwO_row pwO_minmax pwO_eqV pwO_sameB pwR_mov pwR_pick pwR_nilck pwR_bin pwR_binB pwR_eqNil pwR_un pwR_convI pwR_convS pwR_build pwR_load pwR_fieldAddr pwR_field pwR_idxS pwR_idxA pwR_idxV pwR_strAt pwR_lenStr pwR_lenS pwR_lenC pwR_slS pwR_slA pwR_slStr pwR_extract pwR_mkFunc pwR_mkIface pwR_ofB pwR_minmax pwR_eqV ret_r ret_n kRet_some resV0 resV1 resV2 resV3 resV4 VH.get_push_new VH.get_set_same VH.n_push VH.n_set cellsL_agg cellsL_int cellsL_bool cellsL_string cellsL_slice cellsL_pointer cellsL_map pw_draw pwD_nil pwD_cons kD_nil kD_cons evalOK_plain evalOK_guard kEv_some dstIs_some dstIs_none pw_goto pw_scopeL kSeq_goto kBlock_goto kLoop_goto kScopeL_normal kScopeL_ret kScopeL_exit kScopeL_goto pwOps_callv kCallv_fn kCallv_yld pwOps_nextM pwO_makeMap pwO_lookup pwR_lookup pwO_mapSet pwO_mapDel pwO_lenM pwR_lenM pwO_mapEntry pwO_entrySet pwO_rangeS pwO_nextS pwO_rangeM pwO_entryM pwR_entryM pwO_copyV pwO_makeSl pwO_asrt pwR_asrt kStep_if kStep_dif kQ_if kQ_dif kEv_if bound_none bound_some toNat_add' toNat_sub' toNat_mul' kLoopN_normal kLoopN_ret kLoopN_exit kLoopN_goto Option.map_some Option.map_none loadAt_obj storeAt_obj rowOf_obj eszIs_obj eszObj_cells loadObj_tab storeObj_tab_int VH.get_set_ne VH.get_push_lt VH.set_set tab_length List.getElem?_cons_zero List.getElem?_cons_succ List.length_cons List.length_nil oneC_int oneC_bool oneC_string oneC_slice oneC_pointer oneC_map srcCells_at srcCells_nil VH.get_push_at isNilV pw_drawT pwT_nil pwT_step pwT_alt kT_nil kT_cons pun pbinS pbin pbinI i64_small IntKind.bits resV resL resOne

def OpL (h : VH) : List Value → List (Int × List UInt8) → Prop
  | [], [] => True
  | a :: w :: r, x :: xs => a = .int .i64 x.1 ∧ IsBytes h w x.2 ∧ OpL h r xs
  | _, _ => False
theorem OpL.length {h : VH} : ∀ {cs : List Value} {xs : List (Int × List UInt8)}, OpL h cs xs → cs.length = xs.length * 2
  | [], [], _ => rfl
  | _ :: _ :: r, x :: xs, hf => by have := hf.2.2.length; simp; omega
  | [], _ :: _, h => h.elim
  | [_], [], h => h.elim
  | [_], _ :: _, h => h.elim
  | _ :: _ :: _, [], h => h.elim
theorem OpL.at_ {h : VH} : ∀ {cs : List Value} {xs : List (Int × List UInt8)}, OpL h cs xs → ∀ (k : Nat) (hk : k < xs.length), ∃ w, (cs.drop (k * 2)).take 2 = [.int .i64 xs[k].1, w] ∧ IsBytes h w xs[k].2
  | a :: w :: r, x :: xs, hf, 0, _ => ⟨w, by obtain ⟨rfl, _, _⟩ := hf; rfl, hf.2.1⟩
  | a :: w :: r, x :: xs, hf, k + 1, hk => by
    obtain ⟨w', h1, h2⟩ := hf.2.2.at_ k (by simpa using hk)
    exact ⟨w', by rw [show (k + 1) * 2 = k * 2 + 2 by omega]; exact h1, h2⟩
  | [], [], _, _, hk => by simp at hk
  | [], _ :: _, h, _, _ => h.elim
  | [_], [], h, _, _ => h.elim
  | [_], _ :: _, h, _, _ => h.elim
  | _ :: _ :: _, [], h, _, _ => h.elim
theorem OpL.mono {h h' : VH} (hb : ∀ v bs, IsBytes h v bs → IsBytes h' v bs) : ∀ {cs : List Value} {xs : List (Int × List UInt8)}, OpL h cs xs → OpL h' cs xs
  | [], [], _ => trivial
  | _ :: _ :: r, x :: xs, ⟨h1, h2, h3⟩ => ⟨h1, hb _ _ h2, h3.mono hb⟩
  | [], _ :: _, h => h.elim
  | [_], [], h => h.elim
  | [_], _ :: _, h => h.elim
  | _ :: _ :: _, [], h => h.elim
theorem OpL.take {h : VH} : ∀ {cs : List Value} {xs : List (Int × List UInt8)}, OpL h cs xs → ∀ (n : Nat), OpL h (cs.take (n * 2)) (xs.take n)
  | [], [], _, n => by simp; trivial
  | a :: w :: r, x :: xs, ⟨h1, h2, h3⟩, 0 => trivial
  | a :: w :: r, x :: xs, ⟨h1, h2, h3⟩, n + 1 => by
    rw [show (n + 1) * 2 = n * 2 + 2 by omega]
    exact ⟨h1, h2, h3.take n⟩
  | [], _ :: _, h, _ => h.elim
  | [_], [], h, _ => h.elim
  | [_], _ :: _, h, _ => h.elim
  | _ :: _ :: _, [], h, _ => h.elim
/-- a script that came in. -/
def IsOps (h : VH) (v : Value) (xs : List (Int × List UInt8)) : Prop :=
  (v = .slice none 0 0 ∧ xs = []) ∨ ∃ i o c cs own, i < h.n ∧ xs.length ≤ c ∧ v = .slice (some ⟨i, o, none⟩) xs.length c ∧ h.get i = .cells cs own 2 ∧ o + xs.length * 2 ≤ cs.length ∧ OpL h ((cs.drop o).take (xs.length * 2)) xs
theorem IsOps.ro {h : VH} {v : Value} {xs : List (Int × List UInt8)} (hb : IsOps h v xs) : IsOps h.ro v xs := by
  rcases hb with hb | ⟨i, o, c, cs, own, hi, hc, rfl, hg, hl, hr⟩
  · exact .inl hb
  · exact .inr ⟨i, o, c, cs, false, hi, hc, rfl, by show (h.get i).ro = _; rw [hg]; rfl, hl, hr.mono fun _ _ => IsBytes.ro⟩
theorem IsOps.shape {h : VH} {v : Value} {xs : List (Int × List UInt8)} (hb : IsOps h v xs) : ∃ a c, v = .slice a xs.length c := by
  rcases hb with ⟨rfl, rfl⟩ | ⟨i, o, c, cs, own, hi, hc, rfl, hg, hl, hr⟩
  · exact ⟨none, 0, rfl⟩
  · exact ⟨_, _, rfl⟩
theorem IsOps.at_ {h : VH} {v : Value} {xs : List (Int × List UInt8)} (hb : IsOps h v xs) {k : Nat} (hk : k < xs.length) : ∃ i o c w, i < h.n ∧ xs.length ≤ c ∧ v = .slice (some ⟨i, o, none⟩) xs.length c ∧
    loadObj (h.get i) (o + k * 2) (some 2) = some (.agg #[.int .i64 xs[k].1, w]) ∧ IsBytes h w xs[k].2 := by
  rcases hb with ⟨rfl, rfl⟩ | ⟨i, o, c, cs, own, hi, hc, rfl, hg, hl, hr⟩
  · simp at hk
  · obtain ⟨w, h1, h2⟩ := hr.at_ k hk
    rw [List.drop_take, List.drop_drop, List.take_take, show min 2 (xs.length * 2 - k * 2) = 2 by omega] at h1
    refine ⟨i, o, c, w, hi, hc, rfl, ?_, h2⟩
    rw [hg]
    simp only [loadObj]
    rw [if_pos (by omega), h1]

theorem ld2_0 {a b : Value} {ow : Bool} {e : Nat} : loadObj (.cells [a, b] ow e) 0 none = some a := rfl
theorem ld2_1 {a b : Value} {ow : Bool} {e : Nat} : loadObj (.cells [a, b] ow e) 1 none = some b := rfl
theorem st2_all {a b : Value} {e : Nat} {k : IntKind} {x : Int} {p : Option Addr} {q r : Nat} : storeObj (.cells [a, b] true e) 0 2 (.agg #[.int k x, .slice p q r]) = some (.cells [.int k x, .slice p q r] true e) := rfl
theorem known_ok2 (h : VH) : PCalls Try.prog f_law03_known [] h (fun u h' => u = .bool true ∧ h' = h) := known_ok h

set_option maxHeartbeats 8000000 in
theorem streams_ok' {h : VH} {v : Value} {xs : List (Int × List UInt8)} (hv : IsOps h v xs) (hxl : ∀ x ∈ xs, x.2.length ≤ 1048576) (hlen : xs.length ≤ 1048576) :
    PCalls Try.prog f_law03_ShaStreams [v] h (fun u _ => u = .bool true) := by
  refine PCalls_of_pw st_law03_ShaStreams (by simp [n_law03_ShaStreams]) ?_
  rw [b_law03_ShaStreams]
  obtain ⟨va, vc, rfl⟩ := hv.shape
  obtain ⟨L, hL⟩ : ∃ L, L = xs.length := ⟨_, rfl⟩
  rw [← hL]
  simp (disch := first | omega | (simp only [VH.n_push, VH.n_set]; done) | (simp only [VH.n_push, VH.n_set]; omega)) [-BitVec.toNat_or, -BitVec.toNat_xor, -BitVec.toNat_add, -BitVec.toNat_and, -BitVec.toNat_not, -BitVec.toNat_shiftLeft, -BitVec.toNat_ushiftRight, B_law03_ShaStreams]
  refine (new_ok h).mono ?_
  rintro u g1 ⟨rfl, hg1⟩
  have s1 := new_stm h
  rw [← hg1] at s1
  have f1 : Fr h g1 [] := by rw [hg1]; exact Fr_push (Fr.refl _ _)
  simp (disch := first | omega | (simp only [VH.n_push, VH.n_set]; done) | (simp only [VH.n_push, VH.n_set]; omega)) [-BitVec.toNat_or, -BitVec.toNat_xor, -BitVec.toNat_add, -BitVec.toNat_and, -BitVec.toNat_not, -BitVec.toNat_shiftLeft, -BitVec.toNat_ushiftRight]
  refine pw_loopN (fun k s g => ∃ (T : List UInt8) (pv lv : Value) (a : Option Addr) (n c : Nat), IsStm g h.n T pv lv ∧ Buf h g (.slice a n c) T ∧ n = T.length ∧ (∀ j ∈ fpS h.n pv lv, h.n ≤ j) ∧ (∀ j ∈ fpS h.n pv lv, j ∉ idOf (.slice a n c)) ∧ T.length ≤ 1100000 ∧
    s 0 = .slice va L vc ∧ s 3 = .pointer (some ⟨h.n, 0, none⟩) ∧ s 4 = .slice a n c ∧ s 5 = .int .i64 (k : Int)) L ?_ ?_
  · exact ⟨[], _, _, none, 0, 0, s1, (Buf.nil h).step f1, rfl, by simp [fpS, idOf], by simp [idOf], by simp, by simp [upd_apply, s0_apply], by simp [upd_apply], by simp [upd_apply], by simp [upd_apply]⟩
  rintro k s g hk ⟨T, pv, lv, a, n, c, hs, hB, hn, hfp, hdis, hTl, e0, e3, e4, e5⟩
  -- what is said behind the loop, and at the end of each round
  have hBi := hB.is
  by_cases hgo : k < L ∧ k < 40 ∧ n < 5000
  · obtain ⟨hlt, h40, h5000⟩ := hgo
    have hltI : (k : Int) < (L : Int) := by omega
    have h40I : (k : Int) < 40 := by omega
    have h50I : (n : Int) < 5000 := by omega
    have hkf : k < xs.length := by omega
    obtain ⟨i, o, c', w, hi, hc, hva, hld, hwb⟩ := hv.at_ hkf
    rw [← hL] at hva hc
    injection hva with hva1 _ hva3
    subst hva1
    subst hva3
    have hmem : xs[k] ∈ xs := List.getElem_mem hkf
    have hxk := hxl _ hmem
    obtain ⟨⟨K, B⟩, hx⟩ : ∃ x, x = xs[k] := ⟨_, rfl⟩
    rw [← hx] at hld hwb hxk
    simp only at hld hwb hxk
    have hwlt := IsBytes.lt hwb
    obtain ⟨wa, wc, rfl⟩ := hwb.shape
    obtain ⟨BL, hBL⟩ : ∃ BL, BL = B.length := ⟨_, rfl⟩
    rw [← hBL] at hld hwb hwlt
    have hldg : loadObj (g.get i) (o + k * 2) (some 2) = some (.agg #[.int .i64 K, .slice wa BL wc]) := by rw [hB.old hi]; exact hld
    obtain ⟨g2, hg2⟩ : ∃ g2, g2 = (g.push (.cells [.int .i64 0, .slice none 0 0] true 1)).set g.n (.cells [.int .i64 K, .slice wa BL wc] true 1) := ⟨_, rfl⟩
    have f2 : Fr g g2 [] := by rw [hg2]; exact Fr_set (Fr_push (Fr.refl _ _)) (Nat.le_refl _)
    have g2n : g2.n = g.n + 1 := by rw [hg2]; rfl
    have g2o : g2.get g.n = .cells [.int .i64 K, .slice wa BL wc] true 1 := by rw [hg2, VH.get_set_same]
    have F2 : Fr h g2 [] := hB.fr.trans f2
    have hgn := hB.fr.n
    simp (disch := first | omega | (simp only [VH.n_push, VH.n_set]; done) | (simp only [VH.n_push, VH.n_set]; omega)) [-BitVec.toNat_or, -BitVec.toNat_xor, -BitVec.toNat_add, -BitVec.toNat_and, -BitVec.toNat_not, -BitVec.toNat_shiftLeft, -BitVec.toNat_ushiftRight, e0, e3, e4, e5, hltI, hlt, h40I, h40, h50I, h5000, hldg, st2_all, ← hg2, g2o, ld2_1]
    have hw2 : IsBytes g2 (.slice wa BL wc) B := hwb.fr F2 (fun _ _ => by simp)
    refine (lentO_ok hw2 (by omega)).mono ?_
    rintro u g3 ⟨hl3, f3, id3⟩
    have F3 : Fr h g3 [] := F2.trans f3
    have f23 : Fr g g3 [] := f2.trans f3
    have g3o : g3.get g.n = .cells [.int .i64 K, .slice wa BL wc] true 1 := (f3.get _ (by omega) (by simp)).trans g2o
    have n3 := f3.n
    have hs3 := IsStm.fr0 hs f23
    have hB3 := hB.step f23
    have hfl := fpS_lt hs
    have hw3 : IsBytes g3 (.slice wa BL wc) B := hwb.fr F3 (fun _ _ => by simp)
    have eW : IntKind.i64.wrap ((k : Int) + 1) = ((k + 1 : Nat) : Int) := by rw [i64_small (by omega) (by omega)]; omega
    simp (disch := first | omega | (simp only [VH.n_push, VH.n_set]; done) | (simp only [VH.n_push, VH.n_set]; omega)) [-BitVec.toNat_or, -BitVec.toNat_xor, -BitVec.toNat_add, -BitVec.toNat_and, -BitVec.toNat_not, -BitVec.toNat_shiftLeft, -BitVec.toNat_ushiftRight, g3o, ld2_0]
    generalize hKK : kBlock 2 _ = KK
    have tail : ∀ (s : Slots) (g : VH) (T : List UInt8) (pv lv : Value) (a : Option Addr) (n c : Nat), IsStm g h.n T pv lv → Buf h g (.slice a n c) T → (∀ j ∈ fpS h.n pv lv, h.n ≤ j) → (∀ j ∈ fpS h.n pv lv, j ∉ idOf (.slice a n c)) → T.length ≤ 1100000 →
        s 0 = .slice (some ⟨i, o, none⟩) L vc → s 3 = .pointer (some ⟨h.n, 0, none⟩) → s 4 = .slice a n c → s 5 = .int .i64 (k : Int) → KK .normal s g := by
      intro s g T pv lv a n c hs hB hfp hdis hTl e0 e3 e4 e5
      rw [← hKK]
      have hBi := hB.is
      have hn : n = T.length := by
        obtain ⟨a', c', h1⟩ := hBi.shape
        injection h1
      simp (disch := first | omega | (simp only [VH.n_push, VH.n_set]; done) | (simp only [VH.n_push, VH.n_set]; omega)) [-BitVec.toNat_or, -BitVec.toNat_xor, -BitVec.toNat_add, -BitVec.toNat_and, -BitVec.toNat_not, -BitVec.toNat_shiftLeft, -BitVec.toNat_ushiftRight, e3, e4]
      refine (alike_ok hs hBi (by omega)).mono ?_
      rintro u g' ⟨rfl, hf⟩
      simp (disch := first | omega | (simp only [VH.n_push, VH.n_set]; done) | (simp only [VH.n_push, VH.n_set]; omega)) [-BitVec.toNat_or, -BitVec.toNat_xor, -BitVec.toNat_add, -BitVec.toNat_and, -BitVec.toNat_not, -BitVec.toNat_shiftLeft, -BitVec.toNat_ushiftRight, e0, e3, e4, e5, eW]
      exact ⟨hlt, T, pv, lv, IsStm.fr0 hs hf, a, n, c, hB.step hf, hn, hfp, hdis, hTl, rfl, rfl, rfl⟩
    obtain ⟨ua, uc, hu⟩ := hl3.lent.bytes.shape
    have ult := IsBytes.lt hl3.lent.bytes
    have ufp : ∀ j ∈ idOf u, j ∉ fpS h.n pv lv := fun j hj hx => by have := id3 j hj; have := hfl j hx; omega
    by_cases hK0 : K = 0
    · have h0b : (K == 0) = true := by simpa using hK0
      simp (disch := first | omega | (simp only [VH.n_push, VH.n_set]; done) | (simp only [VH.n_push, VH.n_set]; omega)) [-BitVec.toNat_or, -BitVec.toNat_xor, -BitVec.toNat_add, -BitVec.toNat_and, -BitVec.toNat_not, -BitVec.toNat_shiftLeft, -BitVec.toNat_ushiftRight, h0b, e3]
      refine (write_ok hs3 hl3.lent.bytes ufp (by omega)).mono ?_
      rintro r g4 ⟨rfl, pv4, lv4, s4, f4, id4⟩
      have n4 := f4.n
      have nw : ∀ j, j < h.n → j ∉ fpS h.n pv lv := fun j hj hx => by have := hfp j hx; omega
      have hl4 := hl3.fr f4 ufp
      have hw4 : IsBytes g4 (.slice wa BL wc) B := hw3.fr f4 (fun j hj => nw j (hwlt j hj))
      have gfp : g.n ∉ fpS h.n pv lv := fun hx => by have := hfl _ hx; omega
      have g4o : g4.get g.n = .cells [.int .i64 K, .slice wa BL wc] true 1 := (f4.get _ (by omega) gfp).trans g3o
      simp (disch := first | omega | (simp only [VH.n_push, VH.n_set]; done) | (simp only [VH.n_push, VH.n_set]; omega)) [-BitVec.toNat_or, -BitVec.toNat_xor, -BitVec.toNat_add, -BitVec.toNat_and, -BitVec.toNat_not, -BitVec.toNat_shiftLeft, -BitVec.toNat_ushiftRight, g4o, ld2_1]
      refine (kept_ok hl4.lent hw4 (by omega)).mono ?_
      rintro r g5 ⟨rfl, rfl⟩
      simp (disch := first | omega | (simp only [VH.n_push, VH.n_set]; done) | (simp only [VH.n_push, VH.n_set]; omega)) [-BitVec.toNat_or, -BitVec.toNat_xor, -BitVec.toNat_add, -BitVec.toNat_and, -BitVec.toNat_not, -BitVec.toNat_shiftLeft, -BitVec.toNat_ushiftRight]
      refine (spoilL_ok hl4 (by omega)).mono ?_
      intro r g6 f6
      have n6 := f6.n
      have ulow : ∀ j, j < g2.n → j ∉ idOf u := fun j hj hx => by have := id3 j hx; omega
      have g6o : g6.get g.n = .cells [.int .i64 K, .slice wa BL wc] true 1 := (f6.get _ (by omega) (ulow _ (by omega))).trans g4o
      have hw6 : IsBytes g6 (.slice wa BL wc) B := hw4.fr f6 (fun j hj => ulow j (by have := hwlt j hj; omega))
      have s6 : IsStm g6 h.n (T ++ B) pv4 lv4 := IsStmK.fr f6 s4 (fun j hj hx => by
        rcases id4 j hj with h5 | h5
        · exact ufp j hx h5
        · have := ult j hx; omega)
      have hB6 : Buf h g6 (.slice a n c) T := by
        have o4 := hB3.own.fr f4 (fun j hj hx => hdis j hx hj)
        have o6 := o4.fr f6 (fun j hj hx => by have := hB.own.lt j hj; have := id3 j hx; omega)
        exact ⟨o6, (F3.trans' f4 (fun y hy => .inr (hfp y hy))).trans' f6 (fun y hy => .inr (by have := id3 y hy; omega)), hB.ids⟩
      have hsrc := hw6.src
      obtain ⟨w', g7, hap, G7⟩ : ∃ w' g7, appendV g6 1 1 (.slice a n c) (u8s B) BL = some (w', g7) ∧ (OwnSl g7 1 w' (u8s (T ++ B)) (T ++ B).length ∧ Fr g6 g7 (idOf (.slice a n c)) ∧ ∀ j ∈ idOf w', j ∈ idOf (.slice a n c) ∨ g6.n ≤ j) := by
        obtain ⟨w', g7, hap, o7, f7, id7⟩ := hB6.own.append (bytes := 1) (ys := u8s B) (k := BL) (by simp; omega) (by omega)
        exact ⟨w', g7, hap, by rw [u8s_append, List.length_append, ← hBL]; exact o7, f7, id7⟩
      obtain ⟨o7, f7, id7⟩ := G7
      obtain ⟨qa, qn, qc, rfl⟩ : ∃ a n c, w' = .slice a n c := by
        obtain ⟨a, c, rfl⟩ := o7.shapeN
        exact ⟨_, _, _, rfl⟩
      simp (disch := first | omega | (simp only [VH.n_push, VH.n_set]; done) | (simp only [VH.n_push, VH.n_set]; omega)) [-BitVec.toNat_or, -BitVec.toNat_xor, -BitVec.toNat_add, -BitVec.toNat_and, -BitVec.toNat_not, -BitVec.toNat_shiftLeft, -BitVec.toNat_ushiftRight, g6o, ld2_1, e4, hsrc, hap]
      have fl6 := fpS_lt s6
      have dis4 : ∀ j ∈ fpS h.n pv4 lv4, j ∉ idOf (.slice a n c) := fun j hj hx => by
        rcases id4 j hj with h5 | h5
        · exact hdis j h5 hx
        · have := hB.own.lt j hx; omega
      refine tail _ _ (T ++ B) pv4 lv4 qa qn qc (IsStmK.fr f7 s6 dis4) ⟨o7, hB6.fr.trans' f7 (fun y hy => .inr (hB.ids y hy)), fun j hj => ?_⟩ (fun j hj => ?_) (fun j hj hx => ?_) (by simp; omega) (by simp [upd_apply, e0]) (by simp [upd_apply, e3]) (by simp [upd_apply]) (by simp [upd_apply, e5])
      · rcases id7 j hj with h5 | h5
        · exact hB.ids j h5
        · have := hB6.fr.n; omega
      · rcases id4 j hj with h5 | h5
        · exact hfp j h5
        · have := F3.n; omega
      · rcases id7 j hx with h5 | h5
        · exact dis4 j hj h5
        · have := fl6 j hj; omega
    have h0b : (K == 0) = false := by simpa using hK0
    by_cases hK1 : K = 1
    · have h1b : (K == 1) = true := by simpa using hK1
      simp (disch := first | omega | (simp only [VH.n_push, VH.n_set]; done) | (simp only [VH.n_push, VH.n_set]; omega)) [-BitVec.toNat_or, -BitVec.toNat_xor, -BitVec.toNat_add, -BitVec.toNat_and, -BitVec.toNat_not, -BitVec.toNat_shiftLeft, -BitVec.toNat_ushiftRight, h0b, h1b, e3]
      refine (reset_ok hs3).mono ?_
      rintro r g4 ⟨s4, f4⟩
      simp (disch := first | omega | (simp only [VH.n_push, VH.n_set]; done) | (simp only [VH.n_push, VH.n_set]; omega)) [-BitVec.toNat_or, -BitVec.toNat_xor, -BitVec.toNat_add, -BitVec.toNat_and, -BitVec.toNat_not, -BitVec.toNat_shiftLeft, -BitVec.toNat_ushiftRight]
      exact tail _ _ [] _ _ none 0 0 s4 ((Buf.nil h).step (F3.trans' f4 (fun y hy => .inr (by simp at hy; omega)))) (by simp [fpS, idOf]) (by simp [idOf]) (by simp) (by simp [upd_apply, e0]) (by simp [upd_apply, e3]) (by simp [upd_apply]) (by simp [upd_apply, e5])
    have h1b : (K == 1) = false := by simpa using hK1
    by_cases hK2 : K = 2
    · have h2b : (K == 2) = true := by simpa using hK2
      simp (disch := first | omega | (simp only [VH.n_push, VH.n_set]; done) | (simp only [VH.n_push, VH.n_set]; omega)) [-BitVec.toNat_or, -BitVec.toNat_xor, -BitVec.toNat_add, -BitVec.toNat_and, -BitVec.toNat_not, -BitVec.toNat_shiftLeft, -BitVec.toNat_ushiftRight, h0b, h1b, h2b, e3]
      refine (copy_ok hs3 (by omega)).mono ?_
      rintro r g4 ⟨rfl, pv4, lv4, s4, f4, id4⟩
      have n4 := f4.n
      have hl4 := hl3.fr f4 (fun _ _ => by simp)
      simp (disch := first | omega | (simp only [VH.n_push, VH.n_set]; done) | (simp only [VH.n_push, VH.n_set]; omega)) [-BitVec.toNat_or, -BitVec.toNat_xor, -BitVec.toNat_add, -BitVec.toNat_and, -BitVec.toNat_not, -BitVec.toNat_shiftLeft, -BitVec.toNat_ushiftRight]
      refine (write_ok s4 hl4.lent.bytes (fun j hj hx => by have := ult j hj; have := id4 j hx; omega) (by omega)).mono ?_
      rintro r g5 ⟨rfl, pv5, lv5, s5, f5, id5⟩
      have n5 := f5.n
      have low : ∀ j, j < g3.n → j ∉ fpS g3.n pv4 lv4 := fun j hj hx => by have := id4 j hx; omega
      have F35 : Fr g3 g5 [] := f4.trans' f5 (fun y hy => .inr (id4 y hy))
      have g5o : g5.get g.n = .cells [.int .i64 K, .slice wa BL wc] true 1 := (F35.get _ (by omega) (by simp)).trans g3o
      have hB5 := hB3.step F35
      have hs5 := IsStm.fr0 hs3 F35
      have hw5 : IsBytes g5 (.slice wa BL wc) B := hw3.fr F35 (fun _ _ => by simp)
      have src1 := hB5.is.src
      obtain ⟨w1, g6, hap1, hX1⟩ := (Buf.nil g5).append T (by simp; omega)
      rw [List.nil_append] at hX1
      rw [← hn] at hap1
      obtain ⟨xa, xn, xc, rfl⟩ : ∃ a n c, w1 = .slice a n c := by
        obtain ⟨a, c, rfl⟩ := hX1.shape
        exact ⟨_, _, _, rfl⟩
      have src2 := (hw5.fr hX1.fr (fun _ _ => by simp)).src
      have g6o : g6.get g.n = .cells [.int .i64 K, .slice wa BL wc] true 1 := (hX1.fr.get _ (by omega) (by simp)).trans g5o
      obtain ⟨w2, g7, hap2, hX2⟩ := hX1.append B (by omega)
      rw [← hBL] at hap2
      obtain ⟨ya, yn, yc, rfl⟩ : ∃ a n c, w2 = .slice a n c := by
        obtain ⟨a, c, rfl⟩ := hX2.shape
        exact ⟨_, _, _, rfl⟩
      simp (disch := first | omega | (simp only [VH.n_push, VH.n_set]; done) | (simp only [VH.n_push, VH.n_set]; omega)) [-BitVec.toNat_or, -BitVec.toNat_xor, -BitVec.toNat_add, -BitVec.toNat_and, -BitVec.toNat_not, -BitVec.toNat_shiftLeft, -BitVec.toNat_ushiftRight, e4, src1, hap1, g6o, ld2_1, src2, hap2]
      refine (alike_ok (IsStm.fr0 s5 hX2.fr) hX2.is (by simp; omega)).mono ?_
      rintro r g8 ⟨rfl, f8⟩
      have F58 : Fr g5 g8 [] := hX2.fr.trans f8
      simp (disch := first | omega | (simp only [VH.n_push, VH.n_set]; done) | (simp only [VH.n_push, VH.n_set]; omega)) [-BitVec.toNat_or, -BitVec.toNat_xor, -BitVec.toNat_add, -BitVec.toNat_and, -BitVec.toNat_not, -BitVec.toNat_shiftLeft, -BitVec.toNat_ushiftRight]
      exact tail _ _ T pv lv a n c (IsStm.fr0 hs5 F58) (hB5.step F58) hfp hdis hTl (by simp [upd_apply, e0]) (by simp [upd_apply, e3]) (by simp [upd_apply, e4]) (by simp [upd_apply, e5])
    have h2b : (K == 2) = false := by simpa using hK2
    simp (disch := first | omega | (simp only [VH.n_push, VH.n_set]; done) | (simp only [VH.n_push, VH.n_set]; omega)) [-BitVec.toNat_or, -BitVec.toNat_xor, -BitVec.toNat_add, -BitVec.toNat_and, -BitVec.toNat_not, -BitVec.toNat_shiftLeft, -BitVec.toNat_ushiftRight, h0b, h1b, h2b]
    exact tail _ _ T pv lv a n c hs3 hB3 hfp hdis hTl (by simp [upd_apply, e0]) (by simp [upd_apply, e3]) (by simp [upd_apply, e4]) (by simp [upd_apply, e5])
  · have fin : ∀ (s' : Slots), True := fun _ => trivial
    by_cases h1 : k < L
    · have h1I : (k : Int) < (L : Int) := by omega
      by_cases h2 : k < 40
      · have h2I : (k : Int) < 40 := by omega
        have h3 : ¬ n < 5000 := fun e => hgo ⟨h1, h2, e⟩
        have h3I : ¬ (n : Int) < 5000 := by omega
        simp (disch := first | omega | (simp only [VH.n_push, VH.n_set]; done) | (simp only [VH.n_push, VH.n_set]; omega)) [-BitVec.toNat_or, -BitVec.toNat_xor, -BitVec.toNat_add, -BitVec.toNat_and, -BitVec.toNat_not, -BitVec.toNat_shiftLeft, -BitVec.toNat_ushiftRight, e0, e3, e4, e5, h1, h1I, h2, h2I, h3, h3I]
        refine (alike_ok hs hBi (by omega)).mono ?_
        rintro u g' ⟨rfl, hf⟩
        simp (disch := first | omega | (simp only [VH.n_push, VH.n_set]; done) | (simp only [VH.n_push, VH.n_set]; omega)) [-BitVec.toNat_or, -BitVec.toNat_xor, -BitVec.toNat_add, -BitVec.toNat_and, -BitVec.toNat_not, -BitVec.toNat_shiftLeft, -BitVec.toNat_ushiftRight]
        refine (known_ok _).mono ?_
        rintro u g'' ⟨rfl, rfl⟩
        simp (disch := first | omega | (simp only [VH.n_push, VH.n_set]; done) | (simp only [VH.n_push, VH.n_set]; omega)) [-BitVec.toNat_or, -BitVec.toNat_xor, -BitVec.toNat_add, -BitVec.toNat_and, -BitVec.toNat_not, -BitVec.toNat_shiftLeft, -BitVec.toNat_ushiftRight, r_law03_ShaStreams]
      · have h2I : ¬ (k : Int) < 40 := by omega
        simp (disch := first | omega | (simp only [VH.n_push, VH.n_set]; done) | (simp only [VH.n_push, VH.n_set]; omega)) [-BitVec.toNat_or, -BitVec.toNat_xor, -BitVec.toNat_add, -BitVec.toNat_and, -BitVec.toNat_not, -BitVec.toNat_shiftLeft, -BitVec.toNat_ushiftRight, e0, e3, e4, e5, h1, h1I, h2, h2I]
        refine (alike_ok hs hBi (by omega)).mono ?_
        rintro u g' ⟨rfl, hf⟩
        simp (disch := first | omega | (simp only [VH.n_push, VH.n_set]; done) | (simp only [VH.n_push, VH.n_set]; omega)) [-BitVec.toNat_or, -BitVec.toNat_xor, -BitVec.toNat_add, -BitVec.toNat_and, -BitVec.toNat_not, -BitVec.toNat_shiftLeft, -BitVec.toNat_ushiftRight]
        refine (known_ok _).mono ?_
        rintro u g'' ⟨rfl, rfl⟩
        simp (disch := first | omega | (simp only [VH.n_push, VH.n_set]; done) | (simp only [VH.n_push, VH.n_set]; omega)) [-BitVec.toNat_or, -BitVec.toNat_xor, -BitVec.toNat_add, -BitVec.toNat_and, -BitVec.toNat_not, -BitVec.toNat_shiftLeft, -BitVec.toNat_ushiftRight, r_law03_ShaStreams]
    · have h1I : ¬ (k : Int) < (L : Int) := by omega
      simp (disch := first | omega | (simp only [VH.n_push, VH.n_set]; done) | (simp only [VH.n_push, VH.n_set]; omega)) [-BitVec.toNat_or, -BitVec.toNat_xor, -BitVec.toNat_add, -BitVec.toNat_and, -BitVec.toNat_not, -BitVec.toNat_shiftLeft, -BitVec.toNat_ushiftRight, e0, e3, e4, e5, h1, h1I]
      refine (alike_ok hs hBi (by omega)).mono ?_
      rintro u g' ⟨rfl, hf⟩
      simp (disch := first | omega | (simp only [VH.n_push, VH.n_set]; done) | (simp only [VH.n_push, VH.n_set]; omega)) [-BitVec.toNat_or, -BitVec.toNat_xor, -BitVec.toNat_add, -BitVec.toNat_and, -BitVec.toNat_not, -BitVec.toNat_shiftLeft, -BitVec.toNat_ushiftRight]
      refine (known_ok _).mono ?_
      rintro u g'' ⟨rfl, rfl⟩
      simp (disch := first | omega | (simp only [VH.n_push, VH.n_set]; done) | (simp only [VH.n_push, VH.n_set]; omega)) [-BitVec.toNat_or, -BitVec.toNat_xor, -BitVec.toNat_add, -BitVec.toNat_and, -BitVec.toNat_not, -BitVec.toNat_shiftLeft, -BitVec.toNat_ushiftRight, r_law03_ShaStreams]
theorem op_rows {h : VH} : ∀ (es : List (List Value × Nat)), (∀ x ∈ es, x.1.length = 2 ∧ Sh h (.cons 1 (.int .i64) (.cons 1 (.sl 1 (.int .u8)) .nil)) x.1 x.2) → ∃ xs : List (Int × List UInt8), OpL h (es.map (·.1)).flatten xs ∧ xs.length = es.length ∧ (∀ x ∈ xs, x.2.length ≤ (es.map (·.2)).sum) ∧ es.length ≤ (es.map (·.2)).sum
  | [], _ => ⟨[], trivial, rfl, fun f hf => by simp at hf, by simp⟩
  | x :: es, hx => by
    obtain ⟨fs, h1, h2, h3, h4⟩ := op_rows es (fun y hy => hx y (List.mem_cons_of_mem _ hy))
    obtain ⟨hl, v1, v2, k1, k2, e1, l1, s1, ⟨v3, v4, k3, k4, e2, l2, s2, ⟨e5, ek0⟩, ek1⟩, ek⟩ := hx x (List.mem_cons_self ..)
    obtain ⟨a, rfl, a1, a2, _⟩ := s1.i64
    obtain ⟨w, rfl⟩ := list_one l2
    obtain ⟨bs, hb, hbl⟩ := Pm.Sh.bytes s2
    refine ⟨(a, bs) :: fs, ?_, by simp [h2], fun f hf => ?_, ?_⟩
    · rw [List.map_cons, List.flatten_cons, e1, e2, e5]
      exact ⟨rfl, hb, h1⟩
    · simp only [List.map_cons, List.sum_cons]
      rcases List.mem_cons.1 hf with rfl | hf
      · dsimp only; omega
      · have := h3 f hf; omega
    · simp only [List.map_cons, List.sum_cons, List.length_cons]
      omega
theorem Sh.ops {h : VH} {v : Value} {k : Nat} (H : Sh h (.sl 2 (.cons 1 (.int .i64) (.cons 1 (.sl 1 (.int .u8)) .nil))) [v] k) : ∃ xs, IsOps h v xs ∧ (∀ x ∈ xs, x.2.length ≤ k) ∧ xs.length ≤ k := by
  rcases H with ⟨h1, rfl⟩ | ⟨i, n, c, cs, ow, es, h1, h2, h3, h4, h5, h6, h7, h8⟩
  · injection h1 with h1 _
    subst h1
    exact ⟨[], .inl ⟨rfl, rfl⟩, fun f hf => by simp at hf, by simp⟩
  · injection h1 with h1 _
    subst h1
    obtain ⟨fs, b1, b2, b3, b4⟩ := op_rows es h7
    have hl : (fs.take n).length = n := by simp; omega
    have hcl := b1.length
    refine ⟨fs.take n, .inr ⟨i, 0, c, cs, ow, h3, by omega, by rw [hl], h4, ?_, ?_⟩, fun f hf => ?_, by omega⟩
    · rw [h6]; omega
    · rw [hl, h6, List.drop_zero]
      exact b1.take n
    · have := b3 f (List.mem_of_mem_take hf)
      omega
theorem streams_law {h : VH} {us : List Value} {k : Nat} (H : ShA h [.sl 2 (.cons 1 (.int .i64) (.cons 1 (.sl 1 (.int .u8)) .nil))] us k) (hk : k ≤ 1048576) :
    PCalls Try.prog f_law03_ShaStreams us h (fun u h' => u = .bool true ∧ h' = h) := by
  obtain ⟨v, r, k1, k2, rfl, h1, ⟨rfl, _⟩, h6⟩ := H
  obtain ⟨xs, a1, a2, a3⟩ := Sh.ops h1
  exact ((streams_ok' a1.ro (fun x hx => by have := a2 x hx; omega) (by omega)).mono fun u _ e => by subst e; exact ⟨rfl, rfl⟩).drop
end Go.Proofs.Ytadkbkkfpajghaa.Sha
