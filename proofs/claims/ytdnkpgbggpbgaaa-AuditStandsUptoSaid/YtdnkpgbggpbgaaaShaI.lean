/- SHA-256, part H: a stream's digest. -/
import Derived.Test.YtdnkpgbggpbgaaaShaG
set_option linter.unusedVariables false
set_option linter.unusedSimpArgs false
set_option maxRecDepth 100000
namespace Go.Proofs.Ytdnkpgbggpbgaaa.Sha
open Go Go.RowKit Go.Proofs.Ytdnkpgbggpbgaaa.Pm Go.Proofs.Ytdnkpgbggpbgaaa.Fs



/-- a stream, to be read. -/
def RStm (h : VH) (i : Nat) (T : List UInt8) : Prop := ∃ ow pv lv, i < h.n ∧ h.get i = .cells (stmC (foldB T (T.length / 64) begin0) pv lv T.length) ow 1 ∧ IsBytes h lv (T.drop (64 * (T.length / 64)))
theorem IsStm.read {h : VH} {i : Nat} {T : List UInt8} {pv lv : Value} (hs : IsStm h i T pv lv) : RStm h i T :=
  ⟨true, pv, lv, hs.lt, hs.obj, OwnSl.bytes (by rw [List.length_drop]; exact hs.left)⟩
theorem RStm.ro {h : VH} {i : Nat} {T : List UInt8} (hs : RStm h i T) : RStm h.ro i T := by
  obtain ⟨ow, pv, lv, h1, h2, h3⟩ := hs
  exact ⟨false, pv, lv, h1, by simp [VH.ro, VObj.ro, h2], h3.ro⟩
theorem zc_mod64 (n : Nat) : zc (n - 64 * (n / 64)) = zc n := by unfold zc; omega

set_option maxHeartbeats 2000000 in
theorem ssum_ok' {h : VH} {i : Nat} {T : List UInt8} (hs : RStm h i T) (hlen : T.length ≤ 1099511627000) : PCalls Try.prog f_sha_Stream_Sum [.pointer (some ⟨i, 0, none⟩)] h (fun u _ => u = digV (shaS T)) := by
  refine PCalls_of_pw st_sha_Stream_Sum (by simp [n_sha_Stream_Sum]) ?_
  rw [b_sha_Stream_Sum]
  obtain ⟨ow, pv, lv, hi, hobj, hlb⟩ := hs
  obtain ⟨q, hq⟩ : ∃ q, q = T.length / 64 := ⟨_, rfl⟩
  rw [← hq] at hobj hlb
  obtain ⟨l, hl⟩ : ∃ l, l = T.drop (64 * q) := ⟨_, rfl⟩
  have hll : l.length = T.length - 64 * q := by rw [hl, List.length_drop]
  rw [← hl] at hlb
  obtain ⟨g0, hg0⟩ : ∃ g0, g0 = h.push (.cells (tab 32 (fun _ => .int .u8 0)) true 1) := ⟨_, rfl⟩
  have hb0 : IsBytes g0 lv l := by
    rw [hg0]; exact hlb.fr (Fr.push h _ []) (fun i _ => by simp)
  have h0z : g0.get h.n = .cells (tab 32 (fun _ => .int .u8 0)) true 1 := by rw [hg0]; exact VH.get_push_new _ _
  have h0n : g0.n = h.n + 1 := by rw [hg0]; simp
  have h0i : g0.get i = .cells (stmC (foldB T q begin0) pv lv T.length) ow 1 := by rw [hg0, VH.get_push_lt _ _ hi, hobj]
  obtain ⟨w1, g1, hap1, hB1⟩ := (Buf.nil g0).append l (by simp; omega)
  obtain ⟨w2, g2, hap2, hB2⟩ := hB1.byte 0x80 (by simp; omega)
  have hap2 : appendV (g1.push (.cells [.int .u8 128] true 1)) 1 1 w1 [.int .u8 128] 1 = some (w2, g2) := hap2
  obtain ⟨va, vc, hv⟩ := hb0.shape
  have hsrc := hb0.src
  rw [hv] at hsrc h0i
  simp (disch := first|omega|(simp only [np,ns];try omega)) [B_sha_Stream_Sum, pun, pbinS, -BitVec.toNat_or, -BitVec.toNat_xor, -BitVec.toNat_add, -BitVec.toNat_and, -BitVec.toNat_not, -BitVec.toNat_shiftLeft, -BitVec.toNat_ushiftRight, pbin, pbinI, i64_small, IntKind.bits, zeros32, ← hg0, h0i, stm_ld9, hsrc, hap1, fill_u8, rowObj_u8, hap2]
  refine pw_loopN (fun n s g => ∃ w3, s 3 = w3 ∧ Buf g0 g w3 (l ++ [0x80] ++ List.replicate n 0) ∧ s 0 = .pointer (some ⟨i, 0, none⟩) ∧ s 2 = .pointer (some ⟨h.n, 0, none⟩)) (zc l.length) ?_ ?_
  · exact ⟨w2, by simp [upd_apply], by simpa using hB2, by simp [upd_apply, s0_apply], by simp [upd_apply]⟩
  · rintro n s g hn ⟨w3, h3, hB3, h0, h2⟩
    have hz := zc_lt l.length
    have hl3 : (l ++ [0x80] ++ List.replicate n 0).length = l.length + 1 + n := by simp; omega
    obtain ⟨a3, c3, hw3⟩ := hB3.shape
    rw [hl3] at hw3
    have e1 : Int.tmod ((l.length : Int) + 1 + (n : Int)) 64 = (((l.length + 1 + n) % 64 : Nat) : Int) := by
      have := tmodN (l.length + 1 + n) 64
      simpa using this
    by_cases hlt : n < zc l.length
    · have hne := zc_first hlt
      have hne' : ((((l.length + 1 + n) % 64 : Nat) : Int) != 56) = true := by simp; omega
      obtain ⟨w4, g4, hap4, hB4⟩ := hB3.byte 0 (by rw [hl3]; omega)
      have hap4 : appendV (g.push (.cells [.int .u8 0] true 1)) 1 1 w3 [.int .u8 0] 1 = some (w4, g4) := hap4
      rw [hw3] at h3 hap4
      simp (disch := first|omega|(simp only [np,ns];try omega)) [-Int.natCast_emod, -bne_iff_ne, pun, pbinS, -BitVec.toNat_or, -BitVec.toNat_xor, -BitVec.toNat_add, -BitVec.toNat_and, -BitVec.toNat_not, -BitVec.toNat_shiftLeft, -BitVec.toNat_ushiftRight, pbin, pbinI, i64_small, IntKind.bits, h3, h0, h2, e1, hne', fill_u8, rowObj_u8, hap4]
      refine ⟨hlt, ?_⟩
      have : List.replicate n (0 : UInt8) ++ [0] = List.replicate (n + 1) 0 := by rw [List.replicate_succ']
      rw [List.append_assoc, this] at hB4
      simpa using hB4
    · obtain rfl : n = zc l.length := by omega
      have hm := zc_mod l.length
      have hne' : ((((l.length + 1 + zc l.length) % 64 : Nat) : Int) != 56) = false := by rw [hm]; rfl
      rw [hw3] at h3
      have hgi : g.get i = .cells (stmC (foldB T q begin0) pv (.slice va l.length vc) T.length) ow 1 := by rw [hB3.old (by omega), h0i]
      have e8 : IntKind.u64.wrap (IntKind.u64.wrap (T.length : Int) * 8) = ((8 * T.length : Nat) : Int) := by
        rw [u64_small (n := (T.length : Int)) (by omega) (by omega), u64_small (by omega) (by omega)]; omega
      simp (disch := first|omega|(simp only [np,ns];try omega)) [-Int.natCast_emod, -bne_iff_ne, pun, pbinS, -BitVec.toNat_or, -BitVec.toNat_xor, -BitVec.toNat_add, -BitVec.toNat_and, -BitVec.toNat_not, -BitVec.toNat_shiftLeft, -BitVec.toNat_ushiftRight, pbin, pbinI, i64_small, IntKind.bits, h3, h0, h2, e1, hne', hgi, stm_ld10, e8]
      refine pw_loopN (fun m s g => ∃ w3, s 3 = w3 ∧ Buf g0 g w3 (l ++ [0x80] ++ List.replicate (zc l.length) 0 ++ beN (8 * T.length) m) ∧ s 0 = .pointer (some ⟨i, 0, none⟩) ∧ s 2 = .pointer (some ⟨h.n, 0, none⟩) ∧ s 4 = .int .u64 (8 * T.length : Nat) ∧ s 5 = .int .i64 (56 - 8 * (m : Int))) 8 ?_ ?_
      · exact ⟨w3, by simp [upd_apply, h3, hw3], by simpa [beN] using hB3, by simp [upd_apply, h0], by simp [upd_apply, h2], by simp [upd_apply], by simp [upd_apply]⟩
      · rintro m s g hm8 ⟨w3, h3, hB3, h0, h2, h4, h5⟩
        have hl3 : (l ++ [0x80] ++ List.replicate (zc l.length) 0 ++ beN (8 * T.length) m).length = l.length + 1 + zc l.length + m := by simp [beN]; omega
        by_cases hlt : m < 8
        · have hge : (0 : Int) ≤ 56 - 8 * (m : Int) := by omega
          have hge2 : 8 * (m : Int) ≤ 56 := by omega
          have e9 : (56 - 8 * (m : Int)) = ((8 * (7 - m) : Nat) : Int) := by omega
          have e10 : ¬ ((8 * (7 - m) : Nat) : Int) < 0 := by omega
          have e11 : min (8 * (7 - m)) 64 = 8 * (7 - m) := by omega
          obtain ⟨w4, g4, hap4, hB4⟩ := hB3.byte (beB (8 * T.length) m) (by rw [hl3]; omega)
          have e12 : IntKind.u8.wrap (Int.fdiv ((8 * T.length : Nat) : Int) (2 ^ (8 * (7 - m)))) = ((beB (8 * T.length) m).toNat : Int) := by
            rw [fdivP, wrap_u8N]
            rfl
          rw [e9] at h5
          simp (disch := first|omega|(simp only [np,ns];try omega)) [-Int.natCast_emod, -bne_iff_ne, -Int.natCast_mul, pun, pbinS, -BitVec.toNat_or, -BitVec.toNat_xor, -BitVec.toNat_add, -BitVec.toNat_and, -BitVec.toNat_not, -BitVec.toNat_shiftLeft, -BitVec.toNat_ushiftRight, pbin, pbinI, i64_small, IntKind.bits, h3, h0, h2, h4, h5, e10, e11, e12, fill_u8, rowObj_u8, hap4]
          refine ⟨hlt, ?_, by omega⟩
          rw [beN_succ]
          simpa using hB4
        · obtain rfl : m = 8 := by omega
          have hz := zc_lt l.length
          obtain ⟨B, hB⟩ : ∃ B, B = l ++ tailS T.length := ⟨_, rfl⟩
          have hzz : zc l.length = zc T.length := by rw [hll, hq, zc_mod64]
          have hpad : l ++ [0x80] ++ List.replicate (zc l.length) 0 ++ beN (8 * T.length) 8 = B := by rw [hB, hzz]; simp [tailS, be8, beN]
          rw [hpad] at hB3
          have hBl : B.length = l.length + 9 + zc l.length := by rw [hB, hzz, List.length_append, tailS_len]; omega
          have hBm : B.length % 64 = 0 := by have := zc_mod l.length; omega
          have hgi : g.get i = .cells (stmC (foldB T q begin0) pv (.slice va l.length vc) T.length) ow 1 := by rw [hB3.old (by omega), h0i]
          have hgz : g.get h.n = .cells (tab 32 (fun _ => .int .u8 0)) true 1 := by rw [hB3.old (by omega), h0z]
          have hgn := hB3.fr.n
          simp (disch := first|omega|(simp only [np,ns];try omega)) [-Int.natCast_emod, -bne_iff_ne, -Int.natCast_mul, pun, pbinS, -BitVec.toNat_or, -BitVec.toNat_xor, -BitVec.toNat_add, -BitVec.toNat_and, -BitVec.toNat_not, -BitVec.toNat_shiftLeft, -BitVec.toNat_ushiftRight, pbin, pbinI, i64_small, IntKind.bits, h3, h0, h2, h4, h5, hgi, stm_ld0, hs8]
          obtain ⟨p, hp⟩ : ∃ p, p = g.n := ⟨_, rfl⟩
          obtain ⟨G, hG⟩ : ∃ G, G = (g.push (.cells [.int .u32 0, .int .u32 0, .int .u32 0, .int .u32 0, .int .u32 0, .int .u32 0, .int .u32 0, .int .u32 0] true 1)).set g.n (.cells (u32s (foldB T q begin0).list) true 1) := ⟨_, rfl⟩
          rw [← hG, ← hp]
          rcases hB3.own with ⟨_, _, h1⟩ | ⟨j, o, c, ds, hj, hc, hw3, hgj, hdj, hlj, hoj⟩
          · omega
          have hGp : G.get p = .cells (u32s (foldB T q begin0).list) true 1 := by rw [hG, hp, VH.get_set_same]
          have hGl : ∀ x, x < g.n → G.get x = g.get x := fun x hx => by rw [hG, VH.get_set_ne _ _ (by omega), VH.get_push_lt _ _ hx]
          have hat : BytesAt g j o B := ⟨ds, true, hgj, by have := congrArg List.length hdj; simp at this; omega, by rw [hdj, List.take_of_length_le (by simp)]⟩
          refine pw_loopN (fun n s g' => s 3 = .slice (some ⟨j, o + 64 * n, none⟩) (B.length - 64 * n) (c - 64 * n) ∧ s 2 = .pointer (some ⟨h.n, 0, none⟩) ∧ s 6 = .pointer (some ⟨p, 0, none⟩) ∧
            g' = G.set p (.cells (u32s (foldB B n (foldB T q begin0)).list) true 1)) (B.length / 64) ?_ ?_
          · exact ⟨by simp [upd_apply, h3, hw3], by simp [upd_apply, h2], by simp [upd_apply], (VH.set_self hGp).symm⟩
          · rintro n s g' hn ⟨h3, h2, h6, rfl⟩
            by_cases hlt : n < B.length / 64
            · have hgt : (0 : Int) < ((B.length - 64 * n : Nat) : Int) := by omega
              have hgt' : 0 < B.length - 64 * n := by omega
              have hat2 : BytesAt (G.set p (.cells (u32s (foldB B n (foldB T q begin0)).list) true 1)) j o B := hat.congr (by rw [VH.get_set_ne _ _ (by omega), hGl j hj])
              have hez := hat2.esz
              have hsub := hat2.sub (64 * n) (B.length - 64 * n) (by omega)
              have hdl : (B.drop (64 * n)).take (B.length - 64 * n) = B.drop (64 * n) := List.take_of_length_le (by simp)
              rw [hdl] at hsub
              have hGn : j < (G.set p (.cells (u32s (foldB B n (foldB T q begin0)).list) true 1)).n := by rw [hG]; simp; omega
              have hib := BytesAt.is (c := c - 64 * n) hGn (by simp; omega) hsub
              rw [List.length_drop] at hib
              simp (disch := first|omega|(simp only [np,ns];try omega)) [pun, pbinS, -BitVec.toNat_or, -BitVec.toNat_xor, -BitVec.toNat_add, -BitVec.toNat_and, -BitVec.toNat_not, -BitVec.toNat_shiftLeft, -BitVec.toNat_ushiftRight, pbin, pbinI, i64_small, IntKind.bits, h3, h2, h6, hgt, hgt', hl8]
              refine (behind_ok hib (by simp; omega) _).mono ?_
              rintro u g2 ⟨rfl, rfl⟩
              rw [VH.get_set_ne _ _ (show j ≠ p by omega)] at hez
              simp (disch := first|omega|(simp only [np,ns];try omega)) [pun, pbinS, -BitVec.toNat_or, -BitVec.toNat_xor, -BitVec.toNat_add, -BitVec.toNat_and, -BitVec.toNat_not, -BitVec.toNat_shiftLeft, -BitVec.toNat_ushiftRight, pbin, pbinI, i64_small, IntKind.bits, h3, h2, h6, hs8', hez]
              exact ⟨hlt, ⟨by omega, by omega⟩, rfl⟩
            · obtain rfl : n = B.length / 64 := by omega
              have hgt : ¬ ((0 : Int) < ((B.length - 64 * (B.length / 64) : Nat) : Int)) := by omega
              simp (disch := first|omega|(simp only [np,ns];try omega)) [pun, pbinS, -BitVec.toNat_or, -BitVec.toNat_xor, -BitVec.toNat_add, -BitVec.toNat_and, -BitVec.toNat_not, -BitVec.toNat_shiftLeft, -BitVec.toNat_ushiftRight, pbin, pbinI, i64_small, IntKind.bits, h3, h2, h6, hgt, hl8]
              refine (bytes_ok _ _).mono ?_
              rintro u g2 ⟨rfl, rfl⟩
              have hgzz : (G.set p (.cells (u32s (foldB B (B.length / 64) (foldB T q begin0)).list) true 1)).get h.n = .cells (tab 32 (fun _ => .int .u8 0)) true 1 := by
                rw [VH.get_set_ne _ _ (by omega), hGl _ (by omega), hgz]
              have hds : ∀ (f : Nat → Value) (st : St), storeObj (.cells (tab 32 f) true 1) 0 32 (digV (bytesS st)) = some (.cells (u8s (bytesS st)) true 1) := fun f st => dig_store (bytesS_len _) (by simp)
              have hdl : ∀ (st : St), loadObj (.cells (u8s (bytesS st)) true 1) 0 (some 32) = some (digV (bytesS st)) := fun st => dig_load (bytesS_len _)
              have hgG : G.get h.n = .cells (tab 32 (fun _ => .int .u8 0)) true 1 := by rw [hGl _ (by omega), hgz]
              simp (disch := first|omega|(simp only [np,ns];try omega)) [pun, pbinS, -BitVec.toNat_or, -BitVec.toNat_xor, -BitVec.toNat_add, -BitVec.toNat_and, -BitVec.toNat_not, -BitVec.toNat_shiftLeft, -BitVec.toNat_ushiftRight, pbin, pbinI, i64_small, IntKind.bits, h2, hgzz, hgG, hds, hdl, r_sha_Stream_Sum, ret_r, resV, resL, resOne]
              have hTB : (padS T).drop (64 * q) = B := by
                rw [padS, List.drop_append_of_le_length (by omega), ← hl, hB]
              have hPl : (padS T).length = 64 * q + B.length := by
                rw [← hTB, List.length_drop, padS, List.length_append]; omega
              unfold shaS
              rw [show (padS T).length / 64 = q + B.length / 64 by omega, foldB_add, hTB, padS, foldB_append (tailS T.length) begin0 q (by omega)]

theorem ssum_ok {h : VH} {i : Nat} {T : List UInt8} (hs : RStm h i T) (hlen : T.length ≤ 1099511627000) : PCalls Try.prog f_sha_Stream_Sum [.pointer (some ⟨i, 0, none⟩)] h (fun u h' => u = digV (shaS T) ∧ h' = h) :=
  ((ssum_ok' hs.ro hlen).mono fun u _ e => by subst e; exact ⟨digV_closed _, rfl⟩).drop

/- SHA-256, part I: digests of bytes and of pairs; lent bytes; the law of sums. -/

theorem IsBytes.lt {h : VH} {v : Value} {bs : List UInt8} (hb : IsBytes h v bs) : ∀ j ∈ idOf v, j < h.n := by
  rcases hb.cases with ⟨rfl, rfl⟩ | ⟨i, o, c, hi, hc, rfl, _⟩
  · simp [idOf]
  · intro j hj
    simp [idOf] at hj
    omega

set_option maxHeartbeats 2000000 in
theorem sum_ok' {h : VH} {v : Value} {bs : List UInt8} (hb : IsBytes h v bs) (hlen : bs.length ≤ 1099511627000) : PCalls Try.prog f_sha_Sum [v] h (fun u _ => u = digV (shaS bs)) := by
  refine PCalls_of_pw st_sha_Sum (by simp [n_sha_Sum]) ?_
  rw [b_sha_Sum]
  obtain ⟨va, vc, rfl⟩ := hb.shape
  simp (disch := first|omega|(simp only [np,ns];try omega)) [B_sha_Sum, pun, pbinS, -BitVec.toNat_or, -BitVec.toNat_xor, -BitVec.toNat_add, -BitVec.toNat_and, -BitVec.toNat_not, -BitVec.toNat_shiftLeft, -BitVec.toNat_ushiftRight, pbin, pbinI, i64_small, IntKind.bits, zeros32]
  refine (new_ok _).mono ?_
  rintro u h' ⟨rfl, rfl⟩
  obtain ⟨g0, hg0⟩ : ∃ g0, g0 = h.push (.cells (tab 32 (fun _ => .int .u8 0)) true 1) := ⟨_, rfl⟩
  have hb0 : IsBytes g0 (.slice va bs.length vc) bs := by
    rw [hg0]; exact hb.fr (Fr.push h _ []) (fun i _ => by simp)
  have h0z : g0.get h.n = .cells (tab 32 (fun _ => .int .u8 0)) true 1 := by rw [hg0]; exact VH.get_push_new _ _
  have h0n : g0.n = h.n + 1 := by rw [hg0]; simp
  have hst := new_stm g0
  obtain ⟨g1, hg1⟩ : ∃ g1, g1 = g0.push (.cells (stmC begin0 (.slice none 0 0) (.slice none 0 0) 0) true 1) := ⟨_, rfl⟩
  rw [← hg1] at hst
  have hf1 : Fr g0 g1 [] := by rw [hg1]; exact Fr.push _ _ _
  simp (disch := first|omega|(simp only [np,ns];try omega)) [pun, pbinS, -BitVec.toNat_or, -BitVec.toNat_xor, -BitVec.toNat_add, -BitVec.toNat_and, -BitVec.toNat_not, -BitVec.toNat_shiftLeft, -BitVec.toNat_ushiftRight, pbin, pbinI, i64_small, IntKind.bits, ← hg0, ← hg1]
  refine (write_ok hst (hb0.fr hf1 (fun i _ => by simp)) ?_ (by simpa using hlen)).mono ?_
  · intro j hj
    have := IsBytes.lt hb0 j hj
    simp [fpS, idOf]
    omega
  rintro u g2 ⟨rfl, pv, lv, hst2, hf2, _⟩
  rw [List.nil_append] at hst2
  simp (disch := first|omega|(simp only [np,ns];try omega)) [pun, pbinS, -BitVec.toNat_or, -BitVec.toNat_xor, -BitVec.toNat_add, -BitVec.toNat_and, -BitVec.toNat_not, -BitVec.toNat_shiftLeft, -BitVec.toNat_ushiftRight, pbin, pbinI, i64_small, IntKind.bits]
  refine (ssum_ok hst2.read (by omega)).mono ?_
  rintro u g3 ⟨rfl, rfl⟩
  have hgz : g3.get h.n = .cells (tab 32 (fun _ => .int .u8 0)) true 1 := by
    rw [hf2.get _ (by have := hf1.n; omega) (by simp [fpS, idOf]; omega), hf1.get _ (by omega) (by simp), h0z]
  have hds : ∀ (f : Nat → Value), storeObj (.cells (tab 32 f) true 1) 0 32 (digV (shaS bs)) = some (.cells (u8s (shaS bs)) true 1) := fun f => dig_store (shaS_len _) (by simp)
  have hdl : loadObj (.cells (u8s (shaS bs)) true 1) 0 (some 32) = some (digV (shaS bs)) := dig_load (shaS_len _)
  simp (disch := first|omega|(simp only [np,ns];try omega)) [pun, pbinS, -BitVec.toNat_or, -BitVec.toNat_xor, -BitVec.toNat_add, -BitVec.toNat_and, -BitVec.toNat_not, -BitVec.toNat_shiftLeft, -BitVec.toNat_ushiftRight, pbin, pbinI, i64_small, IntKind.bits, hgz, hds, hdl, r_sha_Sum, ret_r, resV, resL, resOne]

theorem sum_ok {h : VH} {v : Value} {bs : List UInt8} (hb : IsBytes h v bs) (hlen : bs.length ≤ 1099511627000) : PCalls Try.prog f_sha_Sum [v] h (fun u h' => u = digV (shaS bs) ∧ h' = h) :=
  ((sum_ok' hb.ro hlen).mono fun u _ e => by subst e; exact ⟨digV_closed _, rfl⟩).drop
end Go.Proofs.Ytdnkpgbggpbgaaa.Sha
