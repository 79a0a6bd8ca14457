/- SHA-256, part F: what is put behind bytes; the reference's digest; lent bytes. -/
import Derived.Test.YtdnkpgbggpbgaaaShaE
set_option linter.unusedVariables false
set_option linter.unusedSimpArgs false
set_option maxRecDepth 100000
namespace Go.Proofs.Ytdnkpgbggpbgaaa.Sha
open Go Go.RowKit Go.Proofs.Ytdnkpgbggpbgaaa.Pm Go.Proofs.Ytdnkpgbggpbgaaa.Fs


def zc (n : Nat) : Nat := (119 - n % 64) % 64
def beB (x i : Nat) : UInt8 := UInt8.ofNat (x / 2 ^ (8 * (7 - i)))
def be8 (x : Nat) : List UInt8 := (List.range 8).map (beB x)
def beN (x m : Nat) : List UInt8 := (List.range m).map (beB x)
def tailS (n : Nat) : List UInt8 := 0x80 :: (List.replicate (zc n) 0 ++ be8 (8 * n))
def padS (bs : List UInt8) : List UInt8 := bs ++ tailS bs.length
def shaS (bs : List UInt8) : List UInt8 := bytesS (foldB (padS bs) ((padS bs).length / 64) begin0)
theorem shaS_len (bs : List UInt8) : (shaS bs).length = 32 := bytesS_len _
theorem zc_lt (n : Nat) : zc n < 64 := Nat.mod_lt _ (by omega)
theorem zc_mod (n : Nat) : (n + 1 + zc n) % 64 = 56 := by unfold zc; omega
theorem zc_first {n k : Nat} (h : k < zc n) : (n + 1 + k) % 64 ≠ 56 := by unfold zc at h; omega
theorem tailS_len (n : Nat) : (tailS n).length = 9 + zc n := by simp [tailS, be8]; omega
theorem padS_len (bs : List UInt8) : (padS bs).length = bs.length + 9 + zc bs.length := by simp [padS, tailS_len]; omega
theorem padS_mod (bs : List UInt8) : (padS bs).length % 64 = 0 := by
  rw [padS_len]
  have := zc_mod bs.length
  omega
theorem beN_succ (x m : Nat) : beN x (m + 1) = beN x m ++ [beB x m] := by simp [beN, List.range_succ]
theorem u8s_one (b : UInt8) : u8s [b] = [.int .u8 b.toNat] := rfl
theorem fdivN (a b : Nat) : Int.fdiv (a : Int) (b : Int) = ((a / b : Nat) : Int) := by rw [Int.ofNat_fdiv]
theorem fdivP (a k : Nat) : Int.fdiv (a : Int) (2 ^ k) = ((a / 2 ^ k : Nat) : Int) := by
  rw [show ((2 : Int) ^ k) = ((2 ^ k : Nat) : Int) by simp, fdivN]
theorem wrap_u8N (n : Nat) : IntKind.u8.wrap (n : Int) = ((UInt8.ofNat n).toNat : Int) := by
  rw [wrapN_u8, UInt8.toNat_ofNat']
theorem fill_u8 (n : Int) : fillC [.int .u8 0] [(0, 1, .int .u8 n)] = some [.int .u8 n] := rfl
theorem rowObj_u8 (n : Int) {ow : Bool} {e : Nat} : rowObj (.cells [.int .u8 n] ow e) 0 1 = some [.int .u8 n] := rfl
theorem one_u8 (n : Int) : (∀ x ∈ [Value.int .u8 n], x.oneCell' = true) ↔ True := by simp [Value.oneCell']

theorem own_st_at {h : VH} {u : Value} {l : List St} (ho : OwnSl h 8 u (stCells l) l.length) {k : Nat} (hk : k < l.length) : ∃ i o c, u = .slice (some ⟨i, o, none⟩) l.length c ∧ loadObj (h.get i) (o + k * 8) (some 8) = some (l[k]).val := by
  rcases ho with ⟨_, _, h0⟩ | ⟨i, o, c, ds, hi, hc, rfl, hg, hd, hl, ho⟩
  · omega
  · refine ⟨i, o, c, rfl, ?_⟩
    have hlen : ds.length = o + l.length * 8 := by rw [← hl, ← hd]; simp; omega
    have e : (ds.drop (o + k * 8)).take 8 = u32s (l[k]).list := by rw [← List.drop_drop, hd, stCells_at hk]
    have : (k + 1) * 8 ≤ l.length * 8 := Nat.mul_le_mul_right _ hk
    simp only [loadObj, hg]
    rw [if_pos (by omega), e]
    rfl
theorem dig_store {cs : List Value} {l : List UInt8} (h1 : l.length = 32) (h2 : cs.length = 32) : storeObj (.cells cs true 1) 0 32 (digV l) = some (.cells (u8s l) true 1) := by
  have := storeObj_all (cs := cs) (e := 1) (n := 32) (a := (u8s l).toArray) (by simp [h1]) h2 (by simp [u8s, Value.oneCell'])
  exact this
theorem dig_load {l : List UInt8} {ow : Bool} {e : Nat} (h1 : l.length = 32) : loadObj (.cells (u8s l) ow e) 0 (some 32) = some (digV l) := loadObj_all (by simp [h1])

set_option maxHeartbeats 2000000 in
theorem rsum_ok' {h : VH} {v : Value} {bs : List UInt8} (hb : IsBytes h v bs) (hlen : bs.length ≤ 1099511627000) : PCalls Try.prog f_ref03_Sum [v] h (fun u _ => u = digV (shaS bs)) := by
  refine PCalls_of_pw st_ref03_Sum (by simp [n_ref03_Sum]) ?_
  rw [b_ref03_Sum]
  obtain ⟨g0, hg0⟩ : ∃ g0, g0 = h.push (.cells (tab 32 (fun _ => .int .u8 0)) true 1) := ⟨_, rfl⟩
  have hb0 : IsBytes g0 v bs := by
    rw [hg0]; exact hb.fr (Fr.push h _ []) (fun i _ => by simp)
  have h0z : g0.get h.n = .cells (tab 32 (fun _ => .int .u8 0)) true 1 := by rw [hg0]; exact VH.get_push_new _ _
  have h0n : g0.n = h.n + 1 := by rw [hg0]; simp
  obtain ⟨w1, g1, hap1, hB1⟩ := (Buf.nil g0).append bs (by simp; omega)
  obtain ⟨w2, g2, hap2, hB2⟩ := hB1.byte 0x80 (by simp; omega)
  have hap2 : appendV (g1.push (.cells [.int .u8 128] true 1)) 1 1 w1 [.int .u8 128] 1 = some (w2, g2) := hap2
  obtain ⟨va, vc, hv⟩ := hb.shape
  have hsrc := hb0.src
  rw [hv] at hsrc
  simp (disch := first|omega|(simp only [np,ns];try omega)) [B_ref03_Sum, pun, pbinS, -BitVec.toNat_or, -BitVec.toNat_xor, -BitVec.toNat_add, -BitVec.toNat_and, -BitVec.toNat_not, -BitVec.toNat_shiftLeft, -BitVec.toNat_ushiftRight, pbin, pbinI, i64_small, IntKind.bits, zeros32, ← hg0, hv, hsrc, hap1, fill_u8, rowObj_u8, hap2]
  refine pw_loopN (fun n s g => ∃ w3, s 3 = w3 ∧ Buf g0 g w3 (bs ++ [0x80] ++ List.replicate n 0) ∧ s 0 = .slice va bs.length vc ∧ s 2 = .pointer (some ⟨h.n, 0, none⟩)) (zc bs.length) ?_ ?_
  · exact ⟨w2, by simp [upd_apply], by simpa using hB2, by simp [upd_apply, s0_apply], by simp [upd_apply]⟩
  · rintro n s g hn ⟨w3, h3, hB3, h0, h2⟩
    have hz := zc_lt bs.length
    have hl3 : (bs ++ [0x80] ++ List.replicate n 0).length = bs.length + 1 + n := by simp; omega
    obtain ⟨a3, c3, hw3⟩ := hB3.shape
    rw [hl3] at hw3
    have e1 : Int.tmod ((bs.length : Int) + 1 + (n : Int)) 64 = (((bs.length + 1 + n) % 64 : Nat) : Int) := by
      have := tmodN (bs.length + 1 + n) 64
      simpa using this
    by_cases hlt : n < zc bs.length
    · have hne := zc_first hlt
      have hne' : ((((bs.length + 1 + n) % 64 : Nat) : Int) != 56) = true := by simp; omega
      obtain ⟨w4, g4, hap4, hB4⟩ := hB3.byte 0 (by rw [hl3]; omega)
      have hap4 : appendV (g.push (.cells [.int .u8 0] true 1)) 1 1 w3 [.int .u8 0] 1 = some (w4, g4) := hap4
      rw [hw3] at h3 hap4
      simp (disch := first|omega|(simp only [np,ns];try omega)) [-Int.natCast_emod, -bne_iff_ne, pun, pbinS, -BitVec.toNat_or, -BitVec.toNat_xor, -BitVec.toNat_add, -BitVec.toNat_and, -BitVec.toNat_not, -BitVec.toNat_shiftLeft, -BitVec.toNat_ushiftRight, pbin, pbinI, i64_small, IntKind.bits, h3, h0, h2, e1, hne', fill_u8, rowObj_u8, hap4]
      refine ⟨hlt, ?_⟩
      have : List.replicate n (0 : UInt8) ++ [0] = List.replicate (n + 1) 0 := by rw [List.replicate_succ']
      rw [List.append_assoc, this] at hB4
      simpa using hB4
    · obtain rfl : n = zc bs.length := by omega
      have hm := zc_mod bs.length
      have hne' : ((((bs.length + 1 + zc bs.length) % 64 : Nat) : Int) != 56) = false := by rw [hm]; rfl
      rw [hw3] at h3
      have e8 : IntKind.u64.wrap (IntKind.u64.wrap (bs.length : Int) * 8) = ((8 * bs.length : Nat) : Int) := by
        rw [u64_small (n := (bs.length : Int)) (by omega) (by omega), u64_small (by omega) (by omega)]; omega
      simp (disch := first|omega|(simp only [np,ns];try omega)) [-Int.natCast_emod, -bne_iff_ne, pun, pbinS, -BitVec.toNat_or, -BitVec.toNat_xor, -BitVec.toNat_add, -BitVec.toNat_and, -BitVec.toNat_not, -BitVec.toNat_shiftLeft, -BitVec.toNat_ushiftRight, pbin, pbinI, i64_small, IntKind.bits, h3, h0, h2, e1, hne', e8]
      refine pw_loopN (fun m s g => ∃ w3, s 3 = w3 ∧ Buf g0 g w3 (bs ++ [0x80] ++ List.replicate (zc bs.length) 0 ++ beN (8 * bs.length) m) ∧ s 2 = .pointer (some ⟨h.n, 0, none⟩) ∧ s 4 = .int .u64 (8 * bs.length : Nat) ∧ s 5 = .int .i64 (7 - (m : Int))) 8 ?_ ?_
      · exact ⟨w3, by simp [upd_apply, h3, hw3], by simpa [beN] using hB3, by simp [upd_apply, h2], by simp [upd_apply], by simp [upd_apply]⟩
      · rintro m s g hm8 ⟨w3, h3, hB3, h2, h4, h5⟩
        have hl3 : (bs ++ [0x80] ++ List.replicate (zc bs.length) 0 ++ beN (8 * bs.length) m).length = bs.length + 1 + zc bs.length + m := by simp [beN]; omega
        by_cases hlt : m < 8
        · have hge : (0 : Int) ≤ 7 - (m : Int) := by omega
          have hge2 : (m : Int) ≤ 7 := by omega
          have e9 : IntKind.u64.wrap (8 * (7 - (m : Int))) = ((8 * (7 - m) : Nat) : Int) := by rw [u64_small (by omega) (by omega)]; omega
          have e10 : ¬ ((8 * (7 - m) : Nat) : Int) < 0 := by omega
          have e11 : min (8 * (7 - m)) 64 = 8 * (7 - m) := by omega
          obtain ⟨w4, g4, hap4, hB4⟩ := hB3.byte (beB (8 * bs.length) m) (by rw [hl3]; omega)
          have e12 : IntKind.u8.wrap (Int.fdiv ((8 * bs.length : Nat) : Int) (2 ^ (8 * (7 - m)))) = ((beB (8 * bs.length) m).toNat : Int) := by
            rw [fdivP, wrap_u8N]
            rfl
          simp (disch := first|omega|(simp only [np,ns];try omega)) [-Int.natCast_emod, -bne_iff_ne, -Int.natCast_mul, pun, pbinS, -BitVec.toNat_or, -BitVec.toNat_xor, -BitVec.toNat_add, -BitVec.toNat_and, -BitVec.toNat_not, -BitVec.toNat_shiftLeft, -BitVec.toNat_ushiftRight, pbin, pbinI, i64_small, IntKind.bits, h3, h2, h4, h5, hge, hge2, e9, e10, e11, e12, fill_u8, rowObj_u8, hap4]
          refine ⟨hlt, ?_, by omega⟩
          rw [beN_succ]
          simpa using hB4
        · obtain rfl : m = 8 := by omega
          simp (disch := first|omega|(simp only [np,ns];try omega)) [-Int.natCast_emod, -bne_iff_ne, -Int.natCast_mul, pun, pbinS, -BitVec.toNat_or, -BitVec.toNat_xor, -BitVec.toNat_add, -BitVec.toNat_and, -BitVec.toNat_not, -BitVec.toNat_shiftLeft, -BitVec.toNat_ushiftRight, pbin, pbinI, i64_small, IntKind.bits, h3, h2, h4, h5]
          have hpad : bs ++ [0x80] ++ List.replicate (zc bs.length) 0 ++ beN (8 * bs.length) 8 = padS bs := by simp [padS, tailS, be8, beN]
          rw [hpad] at hB3
          have hpl := padS_len bs
          have hpm := padS_mod bs
          have hz := zc_lt bs.length
          refine (states_ok hB3.is (by omega)).mono ?_
          rintro u g' ⟨hst, hfr, hid⟩
          obtain ⟨N, hN⟩ : ∃ N, (padS bs).length / 64 = N + 1 := ⟨(padS bs).length / 64 - 1, by omega⟩
          rw [hN] at hst
          obtain ⟨i, o, c, hu, hld⟩ := own_st_at (l := pastS (padS bs) (N + 1)) (k := N) (by simpa using hst) (by simp)
          have hlast : (pastS (padS bs) (N + 1))[N]'(by simp) = foldB (padS bs) (N + 1) begin0 := by simp [pastS]
          rw [hlast] at hld
          rw [pastS_len] at hu
          subst hu
          have hgz : g'.get h.n = .cells (tab 32 (fun _ => .int .u8 0)) true 1 := by rw [hfr.get _ (by have := hB3.fr.n; omega) (by simp), hB3.old (by omega), h0z]
          simp (disch := first|omega|(simp only [np,ns];try omega)) [pun, pbinS, -BitVec.toNat_or, -BitVec.toNat_xor, -BitVec.toNat_add, -BitVec.toNat_and, -BitVec.toNat_not, -BitVec.toNat_shiftLeft, -BitVec.toNat_ushiftRight, pbin, pbinI, i64_small, IntKind.bits, h2, hld, hgz]
          refine (rbytes_ok _ _).mono ?_
          rintro u g2 ⟨rfl, rfl⟩
          have hds : ∀ (f : Nat → Value) (st : St), storeObj (.cells (tab 32 f) true 1) 0 32 (digV (bytesS st)) = some (.cells (u8s (bytesS st)) true 1) := fun f st => dig_store (bytesS_len _) (by simp)
          have hdl : ∀ (st : St), loadObj (.cells (u8s (bytesS st)) true 1) 0 (some 32) = some (digV (bytesS st)) := fun st => dig_load (bytesS_len _)
          simp (disch := first|omega|(simp only [np,ns];try omega)) [pun, pbinS, -BitVec.toNat_or, -BitVec.toNat_xor, -BitVec.toNat_add, -BitVec.toNat_and, -BitVec.toNat_not, -BitVec.toNat_shiftLeft, -BitVec.toNat_ushiftRight, pbin, pbinI, i64_small, IntKind.bits, h2, hgz, hds, hdl, r_ref03_Sum, ret_r, resV, resL, resOne]
          unfold shaS
          rw [hN]

theorem rsum_ok {h : VH} {v : Value} {bs : List UInt8} (hb : IsBytes h v bs) (hlen : bs.length ≤ 1099511627000) : PCalls Try.prog f_ref03_Sum [v] h (fun u h' => u = digV (shaS bs) ∧ h' = h) :=
  ((rsum_ok' hb.ro hlen).mono fun u _ e => by subst e; exact ⟨digV_closed _, rfl⟩).drop
end Go.Proofs.Ytdnkpgbggpbgaaa.Sha
