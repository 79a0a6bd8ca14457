/- SHA-256, part H: a stream's digest. -/
import Derived.Test.YtdnkpgbggpbgaaaShaG
set_option linter.unusedVariables false
set_option linter.unusedSimpArgs false
set_option maxRecDepth 100000
namespace Go.Proofs.Ytdnkpgbggpbgaaa.Sha
open Go Go.RowKit Go.Proofs.Ytdnkpgbggpbgaaa.Pm Go.Proofs.Ytdnkpgbggpbgaaa.Fs
attribute [local simp] pw_skip pw_ops pw_quiet pw_seq pw_cond pw_block pw_exit pw_ret pw_scope pw_label kSeq_normal kSeq_ret kSeq_exit kBlock_normal kBlock_ret kBlock_exit kScope_normal kScope_ret kScope_exit kLoop_normal kLoop_ret kLoop_exit kCond_true kCond_false kCond_dec pwOps_nil pwOps_call pwOps_guard kStep_some kCall_at pwQ_nil pwQ_call pwQ_guard kQ_some putS_some putS_none upd_apply ev_t ev_k isB_bool isB_undef s0_apply pstep pwO_mov pwO_pick pwO_nilck pwO_bin pwO_binB pwO_eqNil pwO_un pwO_convI pwO_convS pwO_alloc pwO_build pwO_load pwO_store pwO_fieldAddr pwO_field pwO_idxS pwO_idxA pwO_idxV pwO_strAt pwO_lenStr pwO_lenS pwO_lenC pwO_slS pwO_slA pwO_slStr pwO_extract pwO_mkFunc pwO_mkIface pwO_append pwO_appendStr pwO_toBytes pwO_ofB pwO_box pwO_row pwO_minmax pwO_eqV pwO_sameB pwR_mov pwR_pick pwR_nilck pwR_bin pwR_binB pwR_eqNil pwR_un pwR_convI pwR_convS pwR_build pwR_load pwR_fieldAddr pwR_field pwR_idxS pwR_idxA pwR_idxV pwR_strAt pwR_lenStr pwR_lenS pwR_lenC pwR_slS pwR_slA pwR_slStr pwR_extract pwR_mkFunc pwR_mkIface pwR_ofB pwR_minmax pwR_eqV ret_r ret_n kRet_some resV0 resV1 resV2 resV3 resV4 VH.get_push_new VH.get_set_same VH.n_push VH.n_set cellsL_agg cellsL_int cellsL_bool cellsL_string cellsL_slice cellsL_pointer cellsL_map pw_draw pwD_nil pwD_cons kD_nil kD_cons evalOK_plain evalOK_guard kEv_some dstIs_some dstIs_none pw_goto pw_scopeL kSeq_goto kBlock_goto kLoop_goto kScopeL_normal kScopeL_ret kScopeL_exit kScopeL_goto pwOps_callv kCallv_fn kCallv_yld pwOps_nextM pwO_makeMap pwO_lookup pwR_lookup pwO_mapSet pwO_mapDel pwO_lenM pwR_lenM pwO_mapEntry pwO_entrySet pwO_rangeS pwO_nextS pwO_rangeM pwO_entryM pwR_entryM pwO_copyV pwO_makeSl pwO_asrt pwR_asrt kStep_if kStep_dif kQ_if kQ_dif kEv_if bound_none bound_some toNat_add' toNat_sub' toNat_mul' kLoopN_normal kLoopN_ret kLoopN_exit kLoopN_goto Option.map_some Option.map_none loadAt_obj storeAt_obj rowOf_obj eszIs_obj eszObj_cells loadObj_tab storeObj_tab_int VH.get_set_ne VH.get_push_lt VH.set_set tab_length List.getElem?_cons_zero List.getElem?_cons_succ List.length_cons List.length_nil oneC_int oneC_bool oneC_string oneC_slice oneC_pointer oneC_map srcCells_at srcCells_nil VH.get_push_at isNilV pw_drawT pwT_nil pwT_step pwT_alt kT_nil kT_cons pun pbinS pbin pbinI i64_small IntKind.bits resV resL resOne gI gM gT gF gN gNT gNF dI dM dT dF

/-- a stream, to be read. -/
def RStm (h : VH) (i : Nat) (T : List UInt8) : Prop := ∃ ow pv lv, i < h.n ∧ h.get i = .cells (stmC (foldB T (T.length / 64) begin0) pv lv T.length) ow 1 ∧ IsBytes h lv (T.drop (64 * (T.length / 64)))
theorem IsStm.read {h : VH} {i : Nat} {T : List UInt8} {pv lv : Value} (hs : IsStm h i T pv lv) : RStm h i T :=
  ⟨true, pv, lv, hs.lt, hs.obj, OwnSl.bytes (by rw [List.length_drop]; exact hs.left)⟩
theorem RStm.ro {h : VH} {i : Nat} {T : List UInt8} (hs : RStm h i T) : RStm h.ro i T := by
  obtain ⟨ow, pv, lv, h1, h2, h3⟩ := hs
  exact ⟨false, pv, lv, h1, by simp [VH.ro, VObj.ro, h2], h3.ro⟩
theorem zc_mod64 (n : Nat) : zc (n - 64 * (n / 64)) = zc n := by unfold zc; omega

set_option maxHeartbeats 2000000 in
theorem ssum_ok' {h : VH} {i : Nat} {T : List UInt8} (hs : RStm h i T) (hlen : T.length ≤ 1099511627000) : PCalls Try.prog f_sha_Stream_Sum [.pointer (some ⟨i, 0, none⟩)] h (fun u _ => u = digV (shaS T)) := by
  refine PCalls_of_pw st_sha_Stream_Sum (by simp [n_sha_Stream_Sum]) ?_
  rw [b_sha_Stream_Sum]
  obtain ⟨ow, pv, lv, hi, hobj, hlb⟩ := hs
  obtain ⟨q, hq⟩ : ∃ q, q = T.length / 64 := ⟨_, rfl⟩
  rw [← hq] at hobj hlb
  obtain ⟨l, hl⟩ : ∃ l, l = T.drop (64 * q) := ⟨_, rfl⟩
  have hll : l.length = T.length - 64 * q := by rw [hl, List.length_drop]
  rw [← hl] at hlb
  obtain ⟨g0, hg0⟩ : ∃ g0, g0 = h.push (.cells (tab 32 (fun _ => .int .u8 0)) true 1) := ⟨_, rfl⟩
  have hb0 : IsBytes g0 lv l := by
    rw [hg0]; exact hlb.fr (Fr.push h _ []) (fun i _ => by simp)
  have h0z : g0.get h.n = .cells (tab 32 (fun _ => .int .u8 0)) true 1 := by rw [hg0]; exact VH.get_push_new _ _
  have h0n : g0.n = h.n + 1 := by rw [hg0]; simp
  have h0i : g0.get i = .cells (stmC (foldB T q begin0) pv lv T.length) ow 1 := by rw [hg0, VH.get_push_lt _ _ hi, hobj]
  obtain ⟨w1, g1, hap1, hB1⟩ := (Buf.nil g0).append l (by simp; omega)
  obtain ⟨w2, g2, hap2, hB2⟩ := hB1.byte 0x80 (by simp; omega)
  have hap2 : appendV (g1.push (.cells [.int .u8 128] true 1)) 1 1 w1 [.int .u8 128] 1 = some (w2, g2) := hap2
  obtain ⟨va, vc, hv⟩ := hb0.shape
  have hsrc := hb0.src
  rw [hv] at hsrc h0i
  simp (disch := first | omega | (simp only [VH.n_push, VH.n_set]; done) | (simp only [VH.n_push, VH.n_set]; omega)) [B_sha_Stream_Sum, pun, pbinS, -BitVec.toNat_or, -BitVec.toNat_xor, -BitVec.toNat_add, -BitVec.toNat_and, -BitVec.toNat_not, -BitVec.toNat_shiftLeft, -BitVec.toNat_ushiftRight, pbin, pbinI, i64_small, IntKind.bits, zeros32, ← hg0, h0i, stm_ld9, hsrc, hap1, fill_u8, rowObj_u8, hap2]
  refine pw_loopN (fun n s g => ∃ w3, s 3 = w3 ∧ Buf g0 g w3 (l ++ [0x80] ++ List.replicate n 0) ∧ s 0 = .pointer (some ⟨i, 0, none⟩) ∧ s 2 = .pointer (some ⟨h.n, 0, none⟩)) (zc l.length) ?_ ?_
  · exact ⟨w2, by simp [upd_apply], by simpa using hB2, by simp [upd_apply, s0_apply], by simp [upd_apply]⟩
  · rintro n s g hn ⟨w3, h3, hB3, h0, h2⟩
    have hz := zc_lt l.length
    have hl3 : (l ++ [0x80] ++ List.replicate n 0).length = l.length + 1 + n := by simp; omega
    obtain ⟨a3, c3, hw3⟩ := hB3.shape
    rw [hl3] at hw3
    have e1 : Int.tmod ((l.length : Int) + 1 + (n : Int)) 64 = (((l.length + 1 + n) % 64 : Nat) : Int) := by
      have := tmodN (l.length + 1 + n) 64
      simpa using this
    by_cases hlt : n < zc l.length
    · have hne := zc_first hlt
      have hne' : ((((l.length + 1 + n) % 64 : Nat) : Int) != 56) = true := by simp; omega
      obtain ⟨w4, g4, hap4, hB4⟩ := hB3.byte 0 (by rw [hl3]; omega)
      have hap4 : appendV (g.push (.cells [.int .u8 0] true 1)) 1 1 w3 [.int .u8 0] 1 = some (w4, g4) := hap4
      rw [hw3] at h3 hap4
      simp (disch := first | omega | (simp only [VH.n_push, VH.n_set]; done) | (simp only [VH.n_push, VH.n_set]; omega)) [-Int.natCast_emod, -bne_iff_ne, pun, pbinS, -BitVec.toNat_or, -BitVec.toNat_xor, -BitVec.toNat_add, -BitVec.toNat_and, -BitVec.toNat_not, -BitVec.toNat_shiftLeft, -BitVec.toNat_ushiftRight, pbin, pbinI, i64_small, IntKind.bits, h3, h0, h2, e1, hne', fill_u8, rowObj_u8, hap4]
      refine ⟨hlt, ?_⟩
      have : List.replicate n (0 : UInt8) ++ [0] = List.replicate (n + 1) 0 := by rw [List.replicate_succ']
      rw [List.append_assoc, this] at hB4
      simpa using hB4
    · obtain rfl : n = zc l.length := by omega
      have hm := zc_mod l.length
      have hne' : ((((l.length + 1 + zc l.length) % 64 : Nat) : Int) != 56) = false := by rw [hm]; rfl
      rw [hw3] at h3
      have hgi : g.get i = .cells (stmC (foldB T q begin0) pv (.slice va l.length vc) T.length) ow 1 := by rw [hB3.old (by omega), h0i]
      have e8 : IntKind.u64.wrap (IntKind.u64.wrap (T.length : Int) * 8) = ((8 * T.length : Nat) : Int) := by
        rw [u64_small (n := (T.length : Int)) (by omega) (by omega), u64_small (by omega) (by omega)]; omega
      simp (disch := first | omega | (simp only [VH.n_push, VH.n_set]; done) | (simp only [VH.n_push, VH.n_set]; omega)) [-Int.natCast_emod, -bne_iff_ne, pun, pbinS, -BitVec.toNat_or, -BitVec.toNat_xor, -BitVec.toNat_add, -BitVec.toNat_and, -BitVec.toNat_not, -BitVec.toNat_shiftLeft, -BitVec.toNat_ushiftRight, pbin, pbinI, i64_small, IntKind.bits, h3, h0, h2, e1, hne', hgi, stm_ld10, e8]
      refine pw_loopN (fun m s g => ∃ w3, s 3 = w3 ∧ Buf g0 g w3 (l ++ [0x80] ++ List.replicate (zc l.length) 0 ++ beN (8 * T.length) m) ∧ s 0 = .pointer (some ⟨i, 0, none⟩) ∧ s 2 = .pointer (some ⟨h.n, 0, none⟩) ∧ s 4 = .int .u64 (8 * T.length : Nat) ∧ s 5 = .int .i64 (56 - 8 * (m : Int))) 8 ?_ ?_
      · exact ⟨w3, by simp [upd_apply, h3, hw3], by simpa [beN] using hB3, by simp [upd_apply, h0], by simp [upd_apply, h2], by simp [upd_apply], by simp [upd_apply]⟩
      · rintro m s g hm8 ⟨w3, h3, hB3, h0, h2, h4, h5⟩
        have hl3 : (l ++ [0x80] ++ List.replicate (zc l.length) 0 ++ beN (8 * T.length) m).length = l.length + 1 + zc l.length + m := by simp [beN]; omega
        by_cases hlt : m < 8
        · have hge : (0 : Int) ≤ 56 - 8 * (m : Int) := by omega
          have hge2 : 8 * (m : Int) ≤ 56 := by omega
          have e9 : (56 - 8 * (m : Int)) = ((8 * (7 - m) : Nat) : Int) := by omega
          have e10 : ¬ ((8 * (7 - m) : Nat) : Int) < 0 := by omega
          have e11 : min (8 * (7 - m)) 64 = 8 * (7 - m) := by omega
          obtain ⟨w4, g4, hap4, hB4⟩ := hB3.byte (beB (8 * T.length) m) (by rw [hl3]; omega)
          have e12 : IntKind.u8.wrap (Int.fdiv ((8 * T.length : Nat) : Int) (2 ^ (8 * (7 - m)))) = ((beB (8 * T.length) m).toNat : Int) := by
            rw [fdivP, wrap_u8N]
            rfl
          rw [e9] at h5
          simp (disch := first | omega | (simp only [VH.n_push, VH.n_set]; done) | (simp only [VH.n_push, VH.n_set]; omega)) [-Int.natCast_emod, -bne_iff_ne, -Int.natCast_mul, pun, pbinS, -BitVec.toNat_or, -BitVec.toNat_xor, -BitVec.toNat_add, -BitVec.toNat_and, -BitVec.toNat_not, -BitVec.toNat_shiftLeft, -BitVec.toNat_ushiftRight, pbin, pbinI, i64_small, IntKind.bits, h3, h0, h2, h4, h5, e10, e11, e12, fill_u8, rowObj_u8, hap4]
          refine ⟨hlt, ?_, by omega⟩
          rw [beN_succ]
          simpa using hB4
        · obtain rfl : m = 8 := by omega
          have hz := zc_lt l.length
          obtain ⟨B, hB⟩ : ∃ B, B = l ++ tailS T.length := ⟨_, rfl⟩
          have hzz : zc l.length = zc T.length := by rw [hll, hq, zc_mod64]
          have hpad : l ++ [0x80] ++ List.replicate (zc l.length) 0 ++ beN (8 * T.length) 8 = B := by rw [hB, hzz]; simp [tailS, be8, beN]
          rw [hpad] at hB3
          have hBl : B.length = l.length + 9 + zc l.length := by rw [hB, hzz, List.length_append, tailS_len]; omega
          have hBm : B.length % 64 = 0 := by have := zc_mod l.length; omega
          have hgi : g.get i = .cells (stmC (foldB T q begin0) pv (.slice va l.length vc) T.length) ow 1 := by rw [hB3.old (by omega), h0i]
          have hgz : g.get h.n = .cells (tab 32 (fun _ => .int .u8 0)) true 1 := by rw [hB3.old (by omega), h0z]
          have hgn := hB3.fr.n
          simp (disch := first | omega | (simp only [VH.n_push, VH.n_set]; done) | (simp only [VH.n_push, VH.n_set]; omega)) [-Int.natCast_emod, -bne_iff_ne, -Int.natCast_mul, pun, pbinS, -BitVec.toNat_or, -BitVec.toNat_xor, -BitVec.toNat_add, -BitVec.toNat_and, -BitVec.toNat_not, -BitVec.toNat_shiftLeft, -BitVec.toNat_ushiftRight, pbin, pbinI, i64_small, IntKind.bits, h3, h0, h2, h4, h5, hgi, stm_ld0, hs8]
          obtain ⟨p, hp⟩ : ∃ p, p = g.n := ⟨_, rfl⟩
          obtain ⟨G, hG⟩ : ∃ G, G = (g.push (.cells [.int .u32 0, .int .u32 0, .int .u32 0, .int .u32 0, .int .u32 0, .int .u32 0, .int .u32 0, .int .u32 0] true 1)).set g.n (.cells (u32s (foldB T q begin0).list) true 1) := ⟨_, rfl⟩
          rw [← hG, ← hp]
          rcases hB3.own with ⟨_, _, h1⟩ | ⟨j, o, c, ds, hj, hc, hw3, hgj, hdj, hlj, hoj⟩
          · omega
          have hGp : G.get p = .cells (u32s (foldB T q begin0).list) true 1 := by rw [hG, hp, VH.get_set_same]
          have hGl : ∀ x, x < g.n → G.get x = g.get x := fun x hx => by rw [hG, VH.get_set_ne _ _ (by omega), VH.get_push_lt _ _ hx]
          have hat : BytesAt g j o B := ⟨ds, true, hgj, by have := congrArg List.length hdj; simp at this; omega, by rw [hdj, List.take_of_length_le (by simp)]⟩
          refine pw_loopN (fun n s g' => s 3 = .slice (some ⟨j, o + 64 * n, none⟩) (B.length - 64 * n) (c - 64 * n) ∧ s 2 = .pointer (some ⟨h.n, 0, none⟩) ∧ s 6 = .pointer (some ⟨p, 0, none⟩) ∧
            g' = G.set p (.cells (u32s (foldB B n (foldB T q begin0)).list) true 1)) (B.length / 64) ?_ ?_
          · exact ⟨by simp [upd_apply, h3, hw3], by simp [upd_apply, h2], by simp [upd_apply], (VH.set_self hGp).symm⟩
          · rintro n s g' hn ⟨h3, h2, h6, rfl⟩
            by_cases hlt : n < B.length / 64
            · have hgt : (0 : Int) < ((B.length - 64 * n : Nat) : Int) := by omega
              have hgt' : 0 < B.length - 64 * n := by omega
              have hat2 : BytesAt (G.set p (.cells (u32s (foldB B n (foldB T q begin0)).list) true 1)) j o B := hat.congr (by rw [VH.get_set_ne _ _ (by omega), hGl j hj])
              have hez := hat2.esz
              have hsub := hat2.sub (64 * n) (B.length - 64 * n) (by omega)
              have hdl : (B.drop (64 * n)).take (B.length - 64 * n) = B.drop (64 * n) := List.take_of_length_le (by simp)
              rw [hdl] at hsub
              have hGn : j < (G.set p (.cells (u32s (foldB B n (foldB T q begin0)).list) true 1)).n := by rw [hG]; simp; omega
              have hib := BytesAt.is (c := c - 64 * n) hGn (by simp; omega) hsub
              rw [List.length_drop] at hib
              simp (disch := first | omega | (simp only [VH.n_push, VH.n_set]; done) | (simp only [VH.n_push, VH.n_set]; omega)) [pun, pbinS, -BitVec.toNat_or, -BitVec.toNat_xor, -BitVec.toNat_add, -BitVec.toNat_and, -BitVec.toNat_not, -BitVec.toNat_shiftLeft, -BitVec.toNat_ushiftRight, pbin, pbinI, i64_small, IntKind.bits, h3, h2, h6, hgt, hgt', hl8]
              refine (behind_ok hib (by simp; omega) _).mono ?_
              rintro u g2 ⟨rfl, rfl⟩
              rw [VH.get_set_ne _ _ (show j ≠ p by omega)] at hez
              simp (disch := first | omega | (simp only [VH.n_push, VH.n_set]; done) | (simp only [VH.n_push, VH.n_set]; omega)) [pun, pbinS, -BitVec.toNat_or, -BitVec.toNat_xor, -BitVec.toNat_add, -BitVec.toNat_and, -BitVec.toNat_not, -BitVec.toNat_shiftLeft, -BitVec.toNat_ushiftRight, pbin, pbinI, i64_small, IntKind.bits, h3, h2, h6, hs8', hez]
              exact ⟨hlt, ⟨by omega, by omega⟩, rfl⟩
            · obtain rfl : n = B.length / 64 := by omega
              have hgt : ¬ ((0 : Int) < ((B.length - 64 * (B.length / 64) : Nat) : Int)) := by omega
              simp (disch := first | omega | (simp only [VH.n_push, VH.n_set]; done) | (simp only [VH.n_push, VH.n_set]; omega)) [pun, pbinS, -BitVec.toNat_or, -BitVec.toNat_xor, -BitVec.toNat_add, -BitVec.toNat_and, -BitVec.toNat_not, -BitVec.toNat_shiftLeft, -BitVec.toNat_ushiftRight, pbin, pbinI, i64_small, IntKind.bits, h3, h2, h6, hgt, hl8]
              refine (bytes_ok _ _).mono ?_
              rintro u g2 ⟨rfl, rfl⟩
              have hgzz : (G.set p (.cells (u32s (foldB B (B.length / 64) (foldB T q begin0)).list) true 1)).get h.n = .cells (tab 32 (fun _ => .int .u8 0)) true 1 := by
                rw [VH.get_set_ne _ _ (by omega), hGl _ (by omega), hgz]
              have hds : ∀ (f : Nat → Value) (st : St), storeObj (.cells (tab 32 f) true 1) 0 32 (digV (bytesS st)) = some (.cells (u8s (bytesS st)) true 1) := fun f st => dig_store (bytesS_len _) (by simp)
              have hdl : ∀ (st : St), loadObj (.cells (u8s (bytesS st)) true 1) 0 (some 32) = some (digV (bytesS st)) := fun st => dig_load (bytesS_len _)
              have hgG : G.get h.n = .cells (tab 32 (fun _ => .int .u8 0)) true 1 := by rw [hGl _ (by omega), hgz]
              simp (disch := first | omega | (simp only [VH.n_push, VH.n_set]; done) | (simp only [VH.n_push, VH.n_set]; omega)) [pun, pbinS, -BitVec.toNat_or, -BitVec.toNat_xor, -BitVec.toNat_add, -BitVec.toNat_and, -BitVec.toNat_not, -BitVec.toNat_shiftLeft, -BitVec.toNat_ushiftRight, pbin, pbinI, i64_small, IntKind.bits, h2, hgzz, hgG, hds, hdl, r_sha_Stream_Sum, ret_r, resV, resL, resOne]
              have hTB : (padS T).drop (64 * q) = B := by
                rw [padS, List.drop_append_of_le_length (by omega), ← hl, hB]
              have hPl : (padS T).length = 64 * q + B.length := by
                rw [← hTB, List.length_drop, padS, List.length_append]; omega
              unfold shaS
              rw [show (padS T).length / 64 = q + B.length / 64 by omega, foldB_add, hTB, padS, foldB_append (tailS T.length) begin0 q (by omega)]

theorem ssum_ok {h : VH} {i : Nat} {T : List UInt8} (hs : RStm h i T) (hlen : T.length ≤ 1099511627000) : PCalls Try.prog f_sha_Stream_Sum [.pointer (some ⟨i, 0, none⟩)] h (fun u h' => u = digV (shaS T) ∧ h' = h) :=
  ((ssum_ok' hs.ro hlen).mono fun u _ e => by subst e; exact ⟨digV_closed _, rfl⟩).drop
end Go.Proofs.Ytdnkpgbggpbgaaa.Sha
