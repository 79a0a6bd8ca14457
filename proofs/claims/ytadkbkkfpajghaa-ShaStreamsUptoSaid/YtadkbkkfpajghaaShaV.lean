/- SHA-256, part V: the law of whole blocks. -/
import Derived.Test.YtadkbkkfpajghaaShaT
set_option linter.unusedVariables false
set_option linter.unusedSimpArgs false
set_option maxRecDepth 100000
namespace Go.Proofs.Ytadkbkkfpajghaa.Sha
open Go Go.RowKit Go.Proofs.Ytadkbkkfpajghaa.Pm Go.Proofs.Ytadkbkkfpajghaa.Fs
attribute [local simp] pw_skip pw_ops pw_quiet pw_seq pw_cond pw_block pw_exit pw_ret pw_scope pw_label kSeq_normal kSeq_ret kSeq_exit kBlock_normal kBlock_ret kBlock_exit kScope_normal kScope_ret kScope_exit kLoop_normal kLoop_ret kLoop_exit kCond_true kCond_false kCond_dec pwOps_nil pwOps_call pwOps_guard kStep_some kCall_at pwQ_nil pwQ_call pwQ_guard kQ_some putS_some putS_none upd_apply ev_t ev_k isB_bool isB_undef s0_apply pstep pwO_mov pwO_pick pwO_nilck pwO_bin pwO_binB pwO_eqNil pwO_un pwO_convI pwO_convS pwO_alloc pwO_build pwO_load pwO_store pwO_fieldAddr pwO_field pwO_idxS pwO_idxA pwO_idxV pwO_strAt pwO_lenStr pwO_lenS pwO_lenC pwO_slS pwO_slA pwO_slStr pwO_extract pwO_mkFunc pwO_mkIface pwO_append pwO_appendStr pwO_toBytes pwO_ofB pwO_box pwO_row pwO_minmax pwO_eqV pwO_sameB pwR_mov pwR_pick pwR_nilck pwR_bin pwR_binB pwR_eqNil pwR_un pwR_convI pwR_convS pwR_build pwR_load pwR_fieldAddr pwR_field pwR_idxS pwR_idxA pwR_idxV pwR_strAt pwR_lenStr pwR_lenS pwR_lenC pwR_slS pwR_slA pwR_slStr pwR_extract pwR_mkFunc pwR_mkIface pwR_ofB pwR_minmax pwR_eqV ret_r ret_n kRet_some resV0 resV1 resV2 resV3 resV4 VH.get_push_new VH.get_set_same VH.n_push VH.n_set cellsL_agg cellsL_int cellsL_bool cellsL_string cellsL_slice cellsL_pointer cellsL_map pw_draw pwD_nil pwD_cons kD_nil kD_cons evalOK_plain evalOK_guard kEv_some dstIs_some dstIs_none pw_goto pw_scopeL kSeq_goto kBlock_goto kLoop_goto kScopeL_normal kScopeL_ret kScopeL_exit kScopeL_goto pwOps_callv kCallv_fn kCallv_yld pwOps_nextM pwO_makeMap pwO_lookup pwR_lookup pwO_mapSet pwO_mapDel pwO_lenM pwR_lenM pwO_mapEntry pwO_entrySet pwO_rangeS pwO_nextS pwO_rangeM pwO_entryM pwR_entryM pwO_copyV pwO_makeSl pwO_asrt pwR_asrt kStep_if kStep_dif kQ_if kQ_dif kEv_if bound_none bound_some toNat_add' toNat_sub' toNat_mul' kLoopN_normal kLoopN_ret kLoopN_exit kLoopN_goto Option.map_some Option.map_none loadAt_obj storeAt_obj rowOf_obj eszIs_obj eszObj_cells loadObj_tab storeObj_tab_int VH.get_set_ne VH.get_push_lt VH.set_set tab_length List.getElem?_cons_zero List.getElem?_cons_succ List.length_cons List.length_nil oneC_int oneC_bool oneC_string oneC_slice oneC_pointer oneC_map srcCells_at srcCells_nil VH.get_push_at isNilV pw_drawT pwT_nil pwT_step pwT_alt kT_nil kT_cons pun pbinS pbin pbinI i64_small IntKind.bits resV resL resOne

def digC (T : List UInt8) : Nat → List Value
  | 0 => []
  | n + 1 => digC T n ++ u8s (blkB T n)
theorem digC_len (T : List UInt8) (n : Nat) : (digC T n).length = n * 32 := by
  induction n with
  | zero => rfl
  | succ n ih => simp [digC, ih, blkB_len]; omega
theorem digC_at (T : List UInt8) : ∀ (n k : Nat), k < n → ((digC T n).drop (k * 32)).take 32 = u8s (blkB T k)
  | n + 1, k, h => by
    have hl := digC_len T n
    by_cases hk : k < n
    · rw [digC, List.drop_append_of_le_length (by omega), List.take_append_of_le_length (by simp; omega)]
      exact digC_at T n k hk
    · obtain rfl : k = n := by omega
      rw [digC, List.drop_left' (by omega)]
      exact List.take_of_length_le (by simp [blkB_len])
theorem own_row_at {h : VH} {e : Nat} {v : Value} {cs : List Value} {n : Nat} (ho : OwnSl h e v cs n) {k : Nat} (hk : k < n) :
    ∃ i o c, v = .slice (some ⟨i, o, none⟩) n c ∧ i < h.n ∧ n ≤ c ∧ loadObj (h.get i) (o + k * e) (some e) = some (.agg ((cs.drop (k * e)).take e).toArray) := by
  rcases ho with ⟨_, _, h3⟩ | ⟨i, o, c, ds, hi, hc, hv, hg, hd, hdl, hole⟩
  · omega
  · refine ⟨i, o, c, hv, hi, hc, ?_⟩
    have h1 : k * e + e ≤ n * e := by
      have := Nat.mul_le_mul_right e (show k + 1 ≤ n by omega)
      rwa [Nat.add_mul, Nat.one_mul] at this
    have h2 : ds.length = o + n * e := by
      have := congrArg List.length hd
      simp at this
      omega
    rw [hg]
    simp only [loadObj]
    rw [if_pos (by omega), ← hd, List.drop_drop]
theorem zst {l : List UInt8} (hl : l.length = 32) : storeObj (.cells [.int .u8 0, .int .u8 0, .int .u8 0, .int .u8 0, .int .u8 0, .int .u8 0, .int .u8 0, .int .u8 0, .int .u8 0, .int .u8 0, .int .u8 0, .int .u8 0, .int .u8 0, .int .u8 0, .int .u8 0, .int .u8 0, .int .u8 0, .int .u8 0, .int .u8 0, .int .u8 0, .int .u8 0, .int .u8 0, .int .u8 0, .int .u8 0, .int .u8 0, .int .u8 0, .int .u8 0, .int .u8 0, .int .u8 0, .int .u8 0, .int .u8 0, .int .u8 0] true 1) 0 32 (digV l) = some (.cells (u8s l) true 1) := dig_store hl rfl
theorem zfl {l : List UInt8} (hl : l.length = 32) : fillC [.int .u8 0, .int .u8 0, .int .u8 0, .int .u8 0, .int .u8 0, .int .u8 0, .int .u8 0, .int .u8 0, .int .u8 0, .int .u8 0, .int .u8 0, .int .u8 0, .int .u8 0, .int .u8 0, .int .u8 0, .int .u8 0, .int .u8 0, .int .u8 0, .int .u8 0, .int .u8 0, .int .u8 0, .int .u8 0, .int .u8 0, .int .u8 0, .int .u8 0, .int .u8 0, .int .u8 0, .int .u8 0, .int .u8 0, .int .u8 0, .int .u8 0, .int .u8 0] [(0, 32, digV l)] = some (u8s l) := fillC_whole (by simp [digV, hl]) rfl
theorem zrow {l : List UInt8} (hl : l.length = 32) : rowObj (.cells (u8s l) true 32) 0 32 = some (u8s l) := by
  simp [rowObj, hl, List.take_of_length_le]
theorem ld_bool {b : Bool} {ow : Bool} : loadObj (.cells [.bool b] ow 1) 0 none = some (.bool b) := rfl
theorem st_bool {a : Value} {b : Bool} : storeObj (.cells [a] true 1) 0 1 (.bool b) = some (.cells [.bool b] true 1) := rfl
theorem ld_one {a : Value} {ow : Bool} : loadObj (.cells [a] ow 1) 0 none = some a := rfl
theorem st_sl {a : Value} {p : Option Addr} {q r : Nat} : storeObj (.cells [a] true 1) 0 1 (.slice p q r) = some (.cells [.slice p q r] true 1) := rfl
theorem st_int {a : Value} {k : IntKind} {n : Int} : storeObj (.cells [a] true 1) 0 1 (.int k n) = some (.cells [.int k n] true 1) := rfl
theorem IsStm.fr0 {h h' : VH} {i : Nat} {T : List UInt8} {pv lv : Value} (hs : IsStm h i T pv lv) (hf : Fr h h' []) : IsStm h' i T pv lv := IsStmK.fr hf hs (fun _ _ => by simp)
theorem tdiv64 (n : Nat) : Int.tdiv (n : Int) 64 = ((n / 64 : Nat) : Int) := tdivN n 64

set_option maxHeartbeats 8000000 in
theorem blocksL_ok' {h : VH} {v w : Value} {bs ms : List UInt8} (hb : IsBytes h v bs) (hm : IsBytes h w ms) (hlen : bs.length ≤ 1048576) (hml : ms.length ≤ 1048576) :
    PCalls Try.prog f_law03_ShaBlocks [v, w] h (fun u _ => u = .bool true) := by
  refine PCalls_of_pw st_law03_ShaBlocks (by simp [n_law03_ShaBlocks]) ?_
  rw [b_law03_ShaBlocks]
  obtain ⟨va, vc, hva⟩ := hb.shape
  obtain ⟨wa, wc, hwa⟩ := hm.shape
  obtain ⟨L', hL⟩ : ∃ L, L = bs.length := ⟨_, rfl⟩
  obtain ⟨M, hM⟩ : ∃ M, M = ms.length := ⟨_, rfl⟩
  rw [← hL] at hva
  rw [← hM] at hwa
  obtain ⟨g0, hg0⟩ : ∃ g0, g0 = h.push (.cells [.bool false] true 1) := ⟨_, rfl⟩
  have f0 : Fr h g0 [] := by rw [hg0]; exact Fr_push (Fr.refl _ _)
  have g0n : g0.n = h.n + 1 := by rw [hg0]; rfl
  have g0o : g0.get h.n = .cells [.bool false] true 1 := by rw [hg0, VH.get_push_new]
  by_cases hbig : (3000 : Int) < (L' : Int)
  · simp (disch := first | omega | (simp only [VH.n_push, VH.n_set]; done) | (simp only [VH.n_push, VH.n_set]; omega)) [-BitVec.toNat_or, -BitVec.toNat_xor, -BitVec.toNat_add, -BitVec.toNat_and, -BitVec.toNat_not, -BitVec.toNat_shiftLeft, -BitVec.toNat_ushiftRight, B_law03_ShaBlocks, ← hg0, hva, hwa, hbig]
    refine (known_ok _).mono ?_
    rintro u g1 ⟨rfl, rfl⟩
    simp (disch := first | omega | (simp only [VH.n_push, VH.n_set]; done) | (simp only [VH.n_push, VH.n_set]; omega)) [-BitVec.toNat_or, -BitVec.toNat_xor, -BitVec.toNat_add, -BitVec.toNat_and, -BitVec.toNat_not, -BitVec.toNat_shiftLeft, -BitVec.toNat_ushiftRight, r_law03_ShaBlocks, g0o, st_bool, ld_bool, ret_r, loadAt_obj]
  by_cases hbig2 : (3000 : Int) < (M : Int)
  · simp (disch := first | omega | (simp only [VH.n_push, VH.n_set]; done) | (simp only [VH.n_push, VH.n_set]; omega)) [-BitVec.toNat_or, -BitVec.toNat_xor, -BitVec.toNat_add, -BitVec.toNat_and, -BitVec.toNat_not, -BitVec.toNat_shiftLeft, -BitVec.toNat_ushiftRight, B_law03_ShaBlocks, ← hg0, hva, hwa, hbig, hbig2]
    refine (known_ok _).mono ?_
    rintro u g1 ⟨rfl, rfl⟩
    simp (disch := first | omega | (simp only [VH.n_push, VH.n_set]; done) | (simp only [VH.n_push, VH.n_set]; omega)) [-BitVec.toNat_or, -BitVec.toNat_xor, -BitVec.toNat_add, -BitVec.toNat_and, -BitVec.toNat_not, -BitVec.toNat_shiftLeft, -BitVec.toNat_ushiftRight, r_law03_ShaBlocks, g0o, st_bool, ld_bool, ret_r, loadAt_obj]
  simp (disch := first | omega | (simp only [VH.n_push, VH.n_set]; done) | (simp only [VH.n_push, VH.n_set]; omega)) [-BitVec.toNat_or, -BitVec.toNat_xor, -BitVec.toNat_add, -BitVec.toNat_and, -BitVec.toNat_not, -BitVec.toNat_shiftLeft, -BitVec.toNat_ushiftRight, B_law03_ShaBlocks, ← hg0, hva, hwa, hbig, hbig2]
  refine (new_ok g0).mono ?_
  rintro u g1 ⟨rfl, hg1⟩
  have s1 := new_stm g0
  rw [← hg1] at s1
  have f1 : Fr g0 g1 [] := by rw [hg1]; exact Fr_push (Fr.refl _ _)
  have g1n : g1.n = g0.n + 1 := by rw [hg1]; rfl
  simp (disch := first | omega | (simp only [VH.n_push, VH.n_set]; done) | (simp only [VH.n_push, VH.n_set]; omega)) [-BitVec.toNat_or, -BitVec.toNat_xor, -BitVec.toNat_add, -BitVec.toNat_and, -BitVec.toNat_not, -BitVec.toNat_shiftLeft, -BitVec.toNat_ushiftRight]
  refine (new_ok g1).mono ?_
  rintro u g2 ⟨rfl, hg2⟩
  have s2 := new_stm g1
  rw [← hg2] at s2
  have f2 : Fr g1 g2 [] := by rw [hg2]; exact Fr_push (Fr.refl _ _)
  have g2n : g2.n = g1.n + 1 := by rw [hg2]; rfl
  have s1 := s1.fr0 f2
  have F2 : Fr h g2 [] := f0.trans (f1.trans f2)
  have hb2 := hb.fr F2 (fun _ _ => by simp)
  have hblt := IsBytes.lt hb
  have hmlt := IsBytes.lt hm
  simp (disch := first | omega | (simp only [VH.n_push, VH.n_set]; done) | (simp only [VH.n_push, VH.n_set]; omega)) [-BitVec.toNat_or, -BitVec.toNat_xor, -BitVec.toNat_add, -BitVec.toNat_and, -BitVec.toNat_not, -BitVec.toNat_shiftLeft, -BitVec.toNat_ushiftRight]
  rw [← hva, ← hwa]
  refine (write_ok s1 hb2 (fun j hj hx => ?_) (by simp; omega)).mono ?_
  · have := hblt j hj
    simp [fpS, idOf] at hx
    omega
  rintro u g3 ⟨rfl, pv3, lv3, s3, f3, id3⟩
  rw [List.nil_append] at s3
  have id3' : ∀ j ∈ fpS g0.n pv3 lv3, j = g0.n ∨ g2.n ≤ j := fun j hj => by
    rcases id3 j hj with h5 | h5
    · simp [fpS, idOf] at h5; exact .inl h5
    · exact .inr h5
  have f3' : Fr g2 g3 [g0.n] := f3.sub (fun x hx => by simpa [fpS, idOf] using hx)
  have s2' : IsStm g3 g1.n [] (.slice none 0 0) (.slice none 0 0) := IsStmK.fr f3' s2 (fun j hj => by
    simp [fpS, idOf] at hj; simp; omega)
  have hb3 := hb2.fr f3' (fun j hj => by have := hblt j hj; simp; omega)
  simp (disch := first | omega | (simp only [VH.n_push, VH.n_set]; done) | (simp only [VH.n_push, VH.n_set]; omega)) [-BitVec.toNat_or, -BitVec.toNat_xor, -BitVec.toNat_add, -BitVec.toNat_and, -BitVec.toNat_not, -BitVec.toNat_shiftLeft, -BitVec.toNat_ushiftRight]
  refine (write_ok s2' hb3 (fun j hj hx => ?_) (by simp; omega)).mono ?_
  · have := hblt j hj
    simp [fpS, idOf] at hx
    omega
  rintro u g4 ⟨rfl, pv4, lv4, s4, f4, id4⟩
  rw [List.nil_append] at s4
  have id4' : ∀ j ∈ fpS g1.n pv4 lv4, j = g1.n ∨ g3.n ≤ j := fun j hj => by
    rcases id4 j hj with h5 | h5
    · simp [fpS, idOf] at h5; exact .inl h5
    · exact .inr h5
  have f4' : Fr g3 g4 [g1.n] := f4.sub (fun x hx => by simpa [fpS, idOf] using hx)
  have s3' : IsStm g4 g0.n bs pv3 lv3 := IsStmK.fr f4' s3 (fun j hj => by
    have h6 := fpS_lt s3 j hj
    rcases id3' j hj with h5 | h5 <;> (simp; omega))
  have hm4 : IsBytes g4 w ms := ((hm.fr F2 (fun _ _ => by simp)).fr f3' (fun j hj => by have := hmlt j hj; simp; omega)).fr f4' (fun j hj => by have := hmlt j hj; simp; omega)
  simp (disch := first | omega | (simp only [VH.n_push, VH.n_set]; done) | (simp only [VH.n_push, VH.n_set]; omega)) [-BitVec.toNat_or, -BitVec.toNat_xor, -BitVec.toNat_add, -BitVec.toNat_and, -BitVec.toNat_not, -BitVec.toNat_shiftLeft, -BitVec.toNat_ushiftRight]
  refine (write_ok s4 hm4 (fun j hj hx => ?_) (by omega)).mono ?_
  · have := hmlt j hj
    rcases id4' j hx with h5 | h5
    · omega
    · have := f3.n; omega
  rintro u g5 ⟨rfl, pv5, lv5, s5, f5, id5⟩
  have id5' : ∀ j ∈ fpS g1.n pv5 lv5, j = g1.n ∨ g3.n ≤ j := fun j hj => by
    rcases id5 j hj with h5 | h5
    · exact id4' j h5
    · have := f4.n; exact .inr (by omega)
  have s3'' : IsStm g5 g0.n bs pv3 lv3 := IsStmK.fr f5 s3' (fun j hj hx => by
    have h6 := fpS_lt s3 j hj
    rcases id3' j hj with h5 | h5 <;> rcases id4' j hx with h7 | h7 <;> omega)
  have g5o : g5.get h.n = .cells [.bool false] true 1 := by
    rw [f5.get _ (by have := f4.n; have := f3.n; omega) (fun hx => by have := f3.n; rcases id4' _ hx with h7 | h7 <;> omega), f4'.get _ (by have := f3.n; omega) (by simp; omega), f3'.get _ (by omega) (by simp; omega), f2.get _ (by omega) (by simp), f1.get _ (by omega) (by simp), g0o]
  have n5 : g3.n ≤ g5.n := Nat.le_trans f4.n f5.n
  have n3 := f3.n
  -- the first row of digests
  obtain ⟨g6, hg6⟩ : ∃ g6, g6 = g5.push (.cells [.slice none 0 0] true 1) := ⟨_, rfl⟩
  have f6 : Fr g5 g6 [] := by rw [hg6]; exact Fr_push (Fr.refl _ _)
  have g6n : g6.n = g5.n + 1 := by rw [hg6]; rfl
  have g6o : g6.get g5.n = .cells [.slice none 0 0] true 1 := by rw [hg6, VH.get_push_new]
  simp (disch := first | omega | (simp only [VH.n_push, VH.n_set]; done) | (simp only [VH.n_push, VH.n_set]; omega)) [-BitVec.toNat_or, -BitVec.toNat_xor, -BitVec.toNat_add, -BitVec.toNat_and, -BitVec.toNat_not, -BitVec.toNat_shiftLeft, -BitVec.toNat_ushiftRight, ← hg6]
  refine (blocks_ok (v := .pointer (some ⟨g0.n, 0, none⟩)) rfl rfl).mono ?_
  rintro u g7 ⟨rfl, hg7⟩
  have f7 : Fr g6 g7 [] := by rw [hg7]; exact Fr_push (Fr.refl _ _)
  have g7n : g7.n = g6.n + 1 := by rw [hg7]; rfl
  have g7o : g7.get g6.n = .cells [.pointer (some ⟨g0.n, 0, none⟩)] true 1 := by rw [hg7, VH.get_push_new]
  simp (disch := first | omega | (simp only [VH.n_push, VH.n_set]; done) | (simp only [VH.n_push, VH.n_set]; omega)) [-BitVec.toNat_or, -BitVec.toNat_xor, -BitVec.toNat_add, -BitVec.toNat_and, -BitVec.toNat_not, -BitVec.toNat_shiftLeft, -BitVec.toNat_ushiftRight]
  refine pw_rangeF_rule (by simp only [ev_t, upd_apply, if_true]; rfl) (by kernel_rfl) (fun L hY => ?_)
  obtain ⟨H, hH⟩ : ∃ H, H = g7.push (.loop L .ready none) := ⟨_, rfl⟩
  have fH : Fr g7 H [] := by rw [hH]; exact Fr_push (Fr.refl _ _)
  have Hn : H.n = g7.n + 1 := by rw [hH]; rfl
  have Hy : H.get g7.n = .loop L .ready none := by rw [hH, VH.get_push_new]
  have F5H : Fr g5 H [] := f6.trans (f7.trans fH)
  rw [← hH]
  have sH := IsStm.fr0 s3'' F5H
  refine PCalls.mono (seq_ok (y := g7.n) (bx := g6.n) (i := g0.n) (k := bs.length / 64) (T := bs) (pv := pv3) (lv := lv3)
    (fun n g => g.get g7.n = .loop L .ready none ∧ Fr H g [g5.n, g7.n] ∧ ∃ a m c, g.get g5.n = .cells [.slice a m c] true 1 ∧ OwnSl g 32 (.slice a m c) (digC bs n) n ∧ ∀ j ∈ idOf (.slice a m c), H.n ≤ j) (fun _ => False) ?_ ?_ ?_ (by omega) ?_) ?_
  · rintro n g g' ⟨a1, a2, a, m, c, a3, a4, a5⟩ hf
    have hn := a2.n
    exact ⟨(hf.get _ (by omega) (by simp)).trans a1, a2.trans (hf.sub (fun x hx => by simp at hx)), a, m, c, (hf.get _ (by omega) (by simp)).trans a3, a4.fr hf (fun _ _ => by simp), a5⟩
  · rintro n g ⟨a1, a2, a, m, c, a3, a4, a5⟩
    have hn := a2.n
    have hob := sH.obj
    have hpl := sH.past.lt
    refine ⟨by omega, by omega, ?_, ⟨foldB bs (bs.length / 64) begin0, bs.length, true, ?_⟩, ?_⟩
    · rw [a2.get _ (by omega) (by simp; omega), fH.get _ (by omega) (by simp)]; exact g7o
    · rw [a2.get _ (by omega) (by simp; omega)]; exact hob
    · refine sH.past.fr a2 (fun j hj hx => ?_)
      have h6 := fpS_lt s3 j (by simp [fpS, hj])
      simp at hx
      omega
  · exact ⟨Hy, Fr.refl _ _, none, 0, 0, by rw [(f7.trans fH).get g5.n (by omega) (by simp)]; exact g6o, OwnSl.nil _ _, by simp [idOf]⟩
  · rintro n g hn ⟨a1, a2, a, m, c, a3, a4, a5⟩
    refine hY _ _ g none _ a1 rfl ?_
    show pw _ _ _ _ (kRound Try.prog _ g7.n L _)
    have hbl := blkB_len bs n
    obtain ⟨D, hD⟩ : ∃ D, D = blkB bs n := ⟨_, rfl⟩
    rw [← hD] at hbl ⊢
    have h1 := zst hbl
    have hn2 := a2.n
    obtain ⟨G1, hG1⟩ : ∃ G1, G1 = (g.push (.cells [.int .u8 0, .int .u8 0, .int .u8 0, .int .u8 0, .int .u8 0, .int .u8 0, .int .u8 0, .int .u8 0, .int .u8 0, .int .u8 0, .int .u8 0, .int .u8 0, .int .u8 0, .int .u8 0, .int .u8 0, .int .u8 0, .int .u8 0, .int .u8 0, .int .u8 0, .int .u8 0, .int .u8 0, .int .u8 0, .int .u8 0, .int .u8 0, .int .u8 0, .int .u8 0, .int .u8 0, .int .u8 0, .int .u8 0, .int .u8 0, .int .u8 0, .int .u8 0] true 1)).set g.n (.cells (u8s D) true 1) := ⟨_, rfl⟩
    have fG1 : Fr g G1 [] := by rw [hG1]; exact Fr_set (Fr_push (Fr.refl _ _)) (Nat.le_refl _)
    have G1o : G1.get g.n = .cells (u8s D) true 1 := by rw [hG1, VH.get_set_same]
    have G1n : G1.n = g.n + 1 := by rw [hG1]; rfl
    simp (disch := first | omega | (simp only [VH.n_push, VH.n_set]; done) | (simp only [VH.n_push, VH.n_set]; omega)) [-BitVec.toNat_or, -BitVec.toNat_xor, -BitVec.toNat_add, -BitVec.toNat_and, -BitVec.toNat_not, -BitVec.toNat_shiftLeft, -BitVec.toNat_ushiftRight, putAll, h1, ← hG1]
    rw [kRound_normal]
    refine ⟨none, (fG1.get _ (by omega) (by simp)).trans a1, ?_⟩
    obtain ⟨G2, hG2⟩ : ∃ G2, G2 = G1.set g7.n (.loop L .busy none) := ⟨_, rfl⟩
    rw [← hG2]
    have fG2 : Fr G1 G2 [g7.n] := by rw [hG2]; exact Fr.set _ _ (by simp)
    have G2y : G2.get g7.n = .loop L .busy none := by rw [hG2, VH.get_set_same]
    have G2o : G2.get g.n = .cells (u8s D) true 1 := (fG2.get _ (by omega) (by simp; omega)).trans G1o
    have G2c : G2.get g5.n = .cells [.slice a m c] true 1 := (fG2.get _ (by omega) (by simp; omega)).trans ((fG1.get _ (by omega) (by simp)).trans a3)
    have hone : (u8s D).all Value.oneCell' = true := u8s_all D
    have hld := dig_load (l := D) (ow := true) (e := 1) hbl
    have hfl := zfl hbl
    have hrow := zrow hbl
    have G2n : G2.n = g.n + 1 := by rw [hG2]; exact G1n
    have F02 : Fr g G2 [g7.n] := (fG1.sub (fun x hx => by simp at hx)).trans fG2
    have oG2 := a4.fr F02 (fun j hj hx => by have := a5 j hj; simp at hx; omega)
    obtain ⟨G3, hG3⟩ : ∃ G3, G3 = G2.push (.cells (u8s D) true 32) := ⟨_, rfl⟩
    have fG3 : Fr G2 G3 [] := by rw [hG3]; exact Fr_push (Fr.refl _ _)
    have G3o : G3.get G2.n = .cells (u8s D) true 32 := by rw [hG3, VH.get_push_new]
    obtain ⟨w', G4, hap, oG4, fG4, idw⟩ := (oG2.fr fG3 (fun _ _ => by simp)).append (bytes := 32) (ys := u8s D) (k := 1) (by simp [hbl]) (by omega)
    obtain ⟨xa, xn, xc, rfl⟩ : ∃ a n c, w' = .slice a n c := by
      obtain ⟨a', c', rfl⟩ := oG4.shapeN
      exact ⟨_, _, _, rfl⟩
    have hnot : ∀ j, j < H.n → j ∉ idOf (.slice a m c) := fun j hj hx => by have := a5 j hx; omega
    have F24 : Fr G2 G4 (idOf (.slice a m c)) := (fG3.sub (fun x hx => by simp at hx)).trans fG4
    have G4y : G4.get g7.n = .loop L .busy none := (F24.get _ (by omega) (hnot _ (by omega))).trans G2y
    have G4c : G4.get g5.n = .cells [.slice a m c] true 1 := (F24.get _ (by omega) (hnot _ (by omega))).trans G2c
    simp (disch := first | omega | (simp only [VH.n_push, VH.n_set]; done) | (simp only [VH.n_push, VH.n_set]; omega)) [-BitVec.toNat_or, -BitVec.toNat_xor, -BitVec.toNat_add, -BitVec.toNat_and, -BitVec.toNat_not, -BitVec.toNat_shiftLeft, -BitVec.toNat_ushiftRight, G2c, ld_one, G2o, hld, hfl, hone, ← hG3, G3o, hrow, hap, G4c, st_sl]
    have n4 := F24.n
    refine rndEnd_normal (pe := none) ((VH.get_set_ne _ _ (by omega)).trans G4y) ⟨rfl, VH.get_set_same _ _ _, ?_, xa, xn, xc, ?_, ?_, ?_⟩
    · have F1 : Fr H G4 [g5.n, g7.n] := (a2.trans (F02.sub (fun x hx => by simp at hx; simp [hx]))).trans' F24 (fun y hy => .inr (a5 y hy))
      exact (F1.trans (Fr.set _ _ (by simp))).trans (Fr.set _ _ (by simp))
    · rw [VH.get_set_ne _ _ (by omega), VH.get_set_same]
    · have e : digC bs (n + 1) = digC bs n ++ u8s D := by rw [hD]; rfl
      rw [e]
      have F1 : Fr G4 ((G4.set g5.n (.cells [.slice xa xn xc] true 1)).set g7.n (.loop L .ready none)) [g5.n, g7.n] := (Fr.set _ _ (by simp)).trans (Fr.set _ _ (by simp))
      refine oG4.fr F1 (fun j hj hx => ?_)
      simp at hx
      rcases idw j hj with h5 | h5
      · have := a5 j h5; omega
      · have := fG3.n; omega
    · intro j hj
      rcases idw j hj with h5 | h5
      · exact a5 j h5
      · have := fG3.n; omega
  · rintro u g (⟨a1, a2, a, m, c, a3, a4, a5⟩ | hF)
    · refine ⟨.ready, none, a1, by simp, ?_⟩
      show kBlock 0 _ _ _ _
      have hn := a2.n
      have hmn : m = bs.length / 64 := by
        obtain ⟨a', c', h1⟩ := a4.shapeN
        injection h1
      have T2l : (bs ++ ms).length = L' + M := by rw [List.length_append, hL, hM]
      obtain ⟨K0, hK0⟩ : ∃ K0, K0 = g.set g7.n .dead := ⟨_, rfl⟩
      have fK0 : Fr g K0 [g7.n] := by rw [hK0]; exact Fr.set _ _ (by simp)
      have K0n : K0.n = g.n := by rw [hK0]; rfl
      obtain ⟨K1, hK1⟩ : ∃ K1, K1 = (K0.push (.cells [.int .i64 0] true 1)).set K0.n (.cells [.int .i64 0] true 1) := ⟨_, rfl⟩
      have fK1 : Fr K0 K1 [] := by rw [hK1]; exact Fr_set (Fr_push (Fr.refl _ _)) (Nat.le_refl _)
      have K1n : K1.n = K0.n + 1 := by rw [hK1]; rfl
      have K1o : K1.get K0.n = .cells [.int .i64 0] true 1 := by rw [hK1, VH.get_set_same]
      simp (disch := first | omega | (simp only [VH.n_push, VH.n_set]; done) | (simp only [VH.n_push, VH.n_set]; omega)) [-BitVec.toNat_or, -BitVec.toNat_xor, -BitVec.toNat_add, -BitVec.toNat_and, -BitVec.toNat_not, -BitVec.toNat_shiftLeft, -BitVec.toNat_ushiftRight, ← hK0, st_int, ← hK1]
      refine (blocks_ok (v := .pointer (some ⟨g1.n, 0, none⟩)) rfl rfl).mono ?_
      rintro u K2 ⟨rfl, hK2⟩
      have fK2 : Fr K1 K2 [] := by rw [hK2]; exact Fr_push (Fr.refl _ _)
      have K2n : K2.n = K1.n + 1 := by rw [hK2]; rfl
      have K2o : K2.get K1.n = .cells [.pointer (some ⟨g1.n, 0, none⟩)] true 1 := by rw [hK2, VH.get_push_new]
      simp (disch := first | omega | (simp only [VH.n_push, VH.n_set]; done) | (simp only [VH.n_push, VH.n_set]; omega)) [-BitVec.toNat_or, -BitVec.toNat_xor, -BitVec.toNat_add, -BitVec.toNat_and, -BitVec.toNat_not, -BitVec.toNat_shiftLeft, -BitVec.toNat_ushiftRight]
      refine pw_rangeF_rule (by simp only [ev_t, upd_apply, if_true]; rfl) (by kernel_rfl) (fun L2 hY2 => ?_)
      obtain ⟨H2, hH2⟩ : ∃ H2, H2 = K2.push (.loop L2 .ready none) := ⟨_, rfl⟩
      have fH2 : Fr K2 H2 [] := by rw [hH2]; exact Fr_push (Fr.refl _ _)
      have H2n : H2.n = K2.n + 1 := by rw [hH2]; rfl
      have H2y : H2.get K2.n = .loop L2 .ready none := by rw [hH2, VH.get_push_new]
      rw [← hH2]
      have F02 : Fr K0 H2 [] := fK1.trans (fK2.trans fH2)
      have FgH : Fr H H2 [g5.n, g7.n] := (a2.trans (fK0.sub (fun x hx => by simp at hx; simp [hx]))).trans (F02.sub (fun x hx => by simp at hx))
      have s5H : IsStm H2 g1.n (bs ++ ms) pv5 lv5 := IsStmK.fr FgH (IsStm.fr0 s5 F5H) (fun j hj => by
        have := fpS_lt s5 j hj
        simp; omega)
      have oH : OwnSl H2 32 (.slice a m c) (digC bs (bs.length / 64)) (bs.length / 64) := (a4.fr fK0 (fun j hj => by have := a5 j hj; simp; omega)).fr F02 (fun _ _ => by simp)
      have cH : H2.get g5.n = .cells [.slice a m c] true 1 := (F02.get _ (by omega) (by simp)).trans ((fK0.get _ (by omega) (by simp; omega)).trans a3)
      have rH : H2.get h.n = .cells [.bool false] true 1 := (FgH.get _ (by omega) (by simp; omega)).trans ((F5H.get _ (by omega) (by simp)).trans g5o)
      have iH : H2.get K0.n = .cells [.int .i64 0] true 1 := ((fK2.trans fH2).get _ (by omega) (by simp)).trans K1o
      have bH : H2.get K1.n = .cells [.pointer (some ⟨g1.n, 0, none⟩)] true 1 := (fH2.get _ (by omega) (by simp)).trans K2o
      have olt := oH.lt
      refine PCalls.mono (seq_ok (y := K2.n) (bx := K1.n) (i := g1.n) (k := (bs ++ ms).length / 64) (T := bs ++ ms) (pv := pv5) (lv := lv5)
        (fun n g' => g'.get K2.n = .loop L2 .ready none ∧ Fr H2 g' [K0.n, K2.n] ∧ g'.get K0.n = .cells [.int .i64 (n : Int)] true 1) (fun _ => False) ?_ ?_ ?_ (by omega) ?_) ?_
      · rintro n g' g'' ⟨b1, b2, b3⟩ hf
        have hn := b2.n
        exact ⟨(hf.get _ (by omega) (by simp)).trans b1, b2.trans (hf.sub (fun x hx => by simp at hx)), (hf.get _ (by omega) (by simp)).trans b3⟩
      · rintro n g' ⟨b1, b2, b3⟩
        have hn := b2.n
        have hob := s5H.obj
        refine ⟨by omega, by omega, ?_, ⟨foldB (bs ++ ms) ((bs ++ ms).length / 64) begin0, (bs ++ ms).length, true, ?_⟩, ?_⟩
        · rw [b2.get _ (by omega) (by simp; omega)]; exact bH
        · rw [b2.get _ (by omega) (by simp; omega)]; exact hob
        · refine s5H.past.fr b2 (fun j hj hx => ?_)
          have h6 := fpS_lt s5 j (by simp [fpS, hj])
          simp at hx
          omega
      · exact ⟨H2y, Fr.refl _ _, iH⟩
      · rintro n g' hn' ⟨b1, b2, b3⟩
        refine hY2 _ _ g' none _ b1 rfl ?_
        show pw _ _ _ _ (kRound Try.prog _ K2.n L2 _)
        have hbl := blkB_len (bs ++ ms) n
        have hsame : n < bs.length / 64 → blkB (bs ++ ms) n = blkB bs n := fun h1 => by
          unfold blkB
          rw [foldB_append ms begin0 (n + 1) (by omega)]
        obtain ⟨D, hD⟩ : ∃ D, D = blkB (bs ++ ms) n := ⟨_, rfl⟩
        rw [← hD] at hbl hsame ⊢
        have h1 := zst hbl
        have hn2 := b2.n
        obtain ⟨G1, hG1⟩ : ∃ G1, G1 = (g'.push (.cells [.int .u8 0, .int .u8 0, .int .u8 0, .int .u8 0, .int .u8 0, .int .u8 0, .int .u8 0, .int .u8 0, .int .u8 0, .int .u8 0, .int .u8 0, .int .u8 0, .int .u8 0, .int .u8 0, .int .u8 0, .int .u8 0, .int .u8 0, .int .u8 0, .int .u8 0, .int .u8 0, .int .u8 0, .int .u8 0, .int .u8 0, .int .u8 0, .int .u8 0, .int .u8 0, .int .u8 0, .int .u8 0, .int .u8 0, .int .u8 0, .int .u8 0, .int .u8 0] true 1)).set g'.n (.cells (u8s D) true 1) := ⟨_, rfl⟩
        have fG1 : Fr g' G1 [] := by rw [hG1]; exact Fr_set (Fr_push (Fr.refl _ _)) (Nat.le_refl _)
        have G1o : G1.get g'.n = .cells (u8s D) true 1 := by rw [hG1, VH.get_set_same]
        have G1n : G1.n = g'.n + 1 := by rw [hG1]; rfl
        simp (disch := first | omega | (simp only [VH.n_push, VH.n_set]; done) | (simp only [VH.n_push, VH.n_set]; omega)) [-BitVec.toNat_or, -BitVec.toNat_xor, -BitVec.toNat_add, -BitVec.toNat_and, -BitVec.toNat_not, -BitVec.toNat_shiftLeft, -BitVec.toNat_ushiftRight, putAll, h1, ← hG1]
        rw [kRound_normal]
        refine ⟨none, (fG1.get _ (by omega) (by simp)).trans b1, ?_⟩
        obtain ⟨G2, hG2⟩ : ∃ G2, G2 = G1.set K2.n (.loop L2 .busy none) := ⟨_, rfl⟩
        rw [← hG2]
        have fG2 : Fr G1 G2 [K2.n] := by rw [hG2]; exact Fr.set _ _ (by simp)
        have G2n : G2.n = g'.n + 1 := by rw [hG2]; exact G1n
        have G2y : G2.get K2.n = .loop L2 .busy none := by rw [hG2, VH.get_set_same]
        have G2o : G2.get g'.n = .cells (u8s D) true 1 := (fG2.get _ (by omega) (by simp; omega)).trans G1o
        have F12 : Fr H2 G2 [K0.n, K2.n] := (b2.trans (fG1.sub (fun x hx => by simp at hx))).trans (fG2.sub (fun x hx => by simp at hx; simp [hx]))
        have G2c : G2.get g5.n = .cells [.slice a m c] true 1 := (F12.get _ (by omega) (by simp; omega)).trans cH
        have G2i : G2.get K0.n = .cells [.int .i64 (n : Int)] true 1 := (fG2.get _ (by omega) (by simp; omega)).trans ((fG1.get _ (by omega) (by simp)).trans b3)
        have o2 := oH.fr F12 (fun j hj hx => by
          have h7 := a4.lt j hj
          have h8 := a5 j hj
          simp at hx
          omega)
        have hld := dig_load (l := D) (ow := true) (e := 1) hbl
        have eW : IntKind.i64.wrap ((n : Int) + 1) = ((n + 1 : Nat) : Int) := by rw [i64_small (by omega) (by omega)]; omega
        have fin : ∀ G, G = G2.set K0.n (.cells [.int .i64 ((n + 1 : Nat) : Int)] true 1) → (G.set K2.n (.loop L2 .ready none)).get K2.n = .loop L2 .ready none ∧ Fr H2 (G.set K2.n (.loop L2 .ready none)) [K0.n, K2.n] ∧ (G.set K2.n (.loop L2 .ready none)).get K0.n = .cells [.int .i64 ((n + 1 : Nat) : Int)] true 1 := by
          rintro G rfl
          exact ⟨VH.get_set_same _ _ _, (F12.trans (Fr.set _ _ (by simp))).trans (Fr.set _ _ (by simp)), by rw [VH.get_set_ne _ _ (by omega), VH.get_set_same]⟩
        by_cases hlt : n < m
        · have hltI : (n : Int) < (m : Int) := by omega
          have hDb := hsame (by omega)
          obtain ⟨qi, qo, qc, hv, hqi, hqc, hqld⟩ := own_row_at o2 (k := n) (by omega)
          rw [digC_at bs _ n (by omega), ← hDb] at hqld
          rw [← hmn] at hv
          injection hv with hv1 _ hv3
          subst hv1
          subst hv3
          have hqld : loadObj (G2.get qi) (qo + n * 32) (some 32) = some (digV D) := hqld
          have hft := fits32 hbl
          have hcb := cellsB_u8s D D rfl
          rw [beq_self_eq_true] at hcb
          simp (disch := first | omega | (simp only [VH.n_push, VH.n_set]; done) | (simp only [VH.n_push, VH.n_set]; omega)) [-BitVec.toNat_or, -BitVec.toNat_xor, -BitVec.toNat_add, -BitVec.toNat_and, -BitVec.toNat_not, -BitVec.toNat_shiftLeft, -BitVec.toNat_ushiftRight, G2i, ld_one, G2c, G2o, hld, hltI, hlt, hqld, digV, hft, hcb, eW, st_int]
          refine rndEnd_normal (pe := none) ((VH.get_set_ne _ _ (by omega)).trans G2y) ?_
          obtain ⟨q1, q2, q3⟩ := fin _ rfl
          exact ⟨rfl, q1, q2, q3⟩
        · have hltI : ¬ (n : Int) < (m : Int) := by omega
          simp (disch := first | omega | (simp only [VH.n_push, VH.n_set]; done) | (simp only [VH.n_push, VH.n_set]; omega)) [-BitVec.toNat_or, -BitVec.toNat_xor, -BitVec.toNat_add, -BitVec.toNat_and, -BitVec.toNat_not, -BitVec.toNat_shiftLeft, -BitVec.toNat_ushiftRight, G2i, ld_one, G2c, G2o, hltI, hlt, eW, st_int]
          refine rndEnd_normal (pe := none) ((VH.get_set_ne _ _ (by omega)).trans G2y) ?_
          obtain ⟨q1, q2, q3⟩ := fin _ rfl
          exact ⟨rfl, q1, q2, q3⟩
      · rintro u g' (⟨b1, b2, b3⟩ | hF)
        · refine ⟨.ready, none, b1, by simp, ?_⟩
          show kBlock 2 _ _ _ _
          have hn3 := b2.n
          obtain ⟨K, hK⟩ : ∃ K, K = g'.set K2.n .dead := ⟨_, rfl⟩
          have fK : Fr g' K [K2.n] := by rw [hK]; exact Fr.set _ _ (by simp)
          have Kc : K.get g5.n = .cells [.slice a m c] true 1 := (fK.get _ (by omega) (by simp; omega)).trans ((b2.get _ (by omega) (by simp; omega)).trans cH)
          have Ki : K.get K0.n = .cells [.int .i64 (((bs ++ ms).length / 64 : Nat) : Int)] true 1 := (fK.get _ (by omega) (by simp; omega)).trans b3
          have Kr : K.get h.n = .cells [.bool false] true 1 := (fK.get _ (by omega) (by simp; omega)).trans ((b2.get _ (by omega) (by simp; omega)).trans rH)
          have d1 := tdiv64 L'
          have d2 := tdiv64 (L' + M)
          have w1 : IntKind.i64.wrap ((L' : Int) + (M : Int)) = ((L' + M : Nat) : Int) := by rw [i64_small (by omega) (by omega)]; omega
          have e1 : m = L' / 64 := by rw [hmn, hL]
          have e2 : (bs ++ ms).length / 64 = (L' + M) / 64 := by rw [T2l]
          rw [e2] at Ki
          obtain ⟨Q1, hQ1⟩ : ∃ Q, Q = L' / 64 := ⟨_, rfl⟩
          obtain ⟨Q2, hQ2⟩ : ∃ Q, Q = (L' + M) / 64 := ⟨_, rfl⟩
          rw [← hQ1] at e1 d1
          rw [← hQ2] at Ki d2
          subst e1
          have w2 : IntKind.i64.wrap (m : Int) = (m : Int) := i64_small (by omega) (by omega)
          have w3 : IntKind.i64.wrap (Q2 : Int) = (Q2 : Int) := i64_small (by omega) (by omega)
          obtain ⟨LM, hLM⟩ : ∃ LM, LM = L' + M := ⟨_, rfl⟩
          rw [← hLM] at w1 d2
          simp (disch := first | omega | (simp only [VH.n_push, VH.n_set]; done) | (simp only [VH.n_push, VH.n_set]; omega)) [-BitVec.toNat_or, -BitVec.toNat_xor, -BitVec.toNat_add, -BitVec.toNat_and, -BitVec.toNat_not, -BitVec.toNat_shiftLeft, -BitVec.toNat_ushiftRight, ← hK, Kc, ld_one, Ki, hva, hwa, d1, w1, w2, d2, w3]
          refine (known_ok _).mono ?_
          rintro u g'' ⟨rfl, rfl⟩
          simp (disch := first | omega | (simp only [VH.n_push, VH.n_set]; done) | (simp only [VH.n_push, VH.n_set]; omega)) [-BitVec.toNat_or, -BitVec.toNat_xor, -BitVec.toNat_add, -BitVec.toNat_and, -BitVec.toNat_not, -BitVec.toNat_shiftLeft, -BitVec.toNat_ushiftRight, r_law03_ShaBlocks, Kr, st_bool, ld_bool, ret_r, loadAt_obj]
        · exact hF.elim
    · exact hF.elim
theorem blocks_law {h : VH} {us : List Value} {k : Nat} (H : ShA h [.sl 1 (.int .u8), .sl 1 (.int .u8)] us k) (hk : k ≤ 1048576) :
    PCalls Try.prog f_law03_ShaBlocks us h (fun u h' => u = .bool true ∧ h' = h) := by
  obtain ⟨v, r, k1, k2, rfl, h1, ⟨v2, r2, k3, k4, rfl, h2, ⟨rfl, _⟩, _⟩, h6⟩ := H
  obtain ⟨bs, hb, hl⟩ := Pm.Sh.bytes h1
  obtain ⟨ms, hm, hl2⟩ := Pm.Sh.bytes h2
  exact ((blocksL_ok' hb.ro hm.ro (by omega) (by omega)).mono fun u _ e => by subst e; exact ⟨rfl, rfl⟩).drop
end Go.Proofs.Ytadkbkkfpajghaa.Sha
