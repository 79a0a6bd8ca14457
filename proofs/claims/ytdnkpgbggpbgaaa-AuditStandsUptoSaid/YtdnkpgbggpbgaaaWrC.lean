/- wire, part C: numbers and fields are read (the program). -/
import Derived.Test.YtdnkpgbggpbgaaaWrB
set_option linter.unusedVariables false
set_option linter.unusedSimpArgs false
set_option maxRecDepth 100000
namespace Go.Proofs.Ytdnkpgbggpbgaaa.Wr
open Go Go.RowKit Go.Proofs.Ytdnkpgbggpbgaaa.Pm Go.Proofs.Ytdnkpgbggpbgaaa.Fs
attribute [-simp] BitVec.toNat_or BitVec.toNat_xor BitVec.toNat_add BitVec.toNat_and BitVec.toNat_not BitVec.toNat_shiftLeft BitVec.toNat_ushiftRight

/-- a number out of bytes, k of its groups done: the number, how many bytes it took, or what is wrong. -/
def getS : Nat → Nat → List UInt8 → Nat × Nat × Int
  | _, _, [] => (0, 0, 8)
  | k, acc, c :: r =>
    if k = 9 ∧ 1 < c.toNat then (0, 0, 30)
    else if c.toNat < 128 then (acc ||| (c.toNat * 2 ^ (7 * k)) % 18446744073709551616, k + 1, 0)
    else if 9 ≤ k then (0, 0, 8)
    else getS (k + 1) (acc ||| ((c.toNat &&& 127) * 2 ^ (7 * k)) % 18446744073709551616) r
theorem getS_cons (k acc : Nat) (c : UInt8) (r : List UInt8) : getS k acc (c :: r) = if k = 9 ∧ 1 < c.toNat then (0, 0, 30)
    else if c.toNat < 128 then (acc ||| (c.toNat * 2 ^ (7 * k)) % 18446744073709551616, k + 1, 0)
    else if 9 ≤ k then (0, 0, 8)
    else getS (k + 1) (acc ||| ((c.toNat &&& 127) * 2 ^ (7 * k)) % 18446744073709551616) r := rfl
theorem isB_from {h : VH} {v : Value} {bs : List UInt8} (hb : IsBytes h v bs) {at_ : Nat} (ha : at_ ≤ bs.length) :
    (v = .slice none 0 0 ∧ bs = []) ∨ ∃ i o c, i < h.n ∧ bs.length ≤ c ∧ v = .slice (some ⟨i, o, none⟩) bs.length c ∧ BytesAt h i o bs ∧ BytesAt h i (o + at_) (bs.drop at_) := by
  rcases hb.cases with h1 | ⟨i, o, c, h1, h2, h3, h4⟩
  · exact .inl h1
  · refine .inr ⟨i, o, c, h1, h2, h3, h4, ?_⟩
    have := h4.sub at_ (bs.length - at_) (by omega)
    rwa [List.take_of_length_le (by simp)] at this
theorem or_u64 {a b : Nat} (ha : a < 18446744073709551616) (hb : b < 18446744073709551616) : Go.bits .or .u64 (a : Int) (b : Int) = ((a ||| b : Nat) : Int) := bits_or_u64_nat a b ha hb
theorem or_lt64 {a b : Nat} (ha : a < 18446744073709551616) (hb : b < 18446744073709551616) : a ||| b < 18446744073709551616 := Nat.or_lt_two_pow (n := 64) ha hb
theorem shl_u64N (a k : Nat) : IntKind.u64.wrap ((a : Int) * 2 ^ k) = (((a * 2 ^ k) % 18446744073709551616 : Nat) : Int) := by
  have := wrapN_u64 (a * 2 ^ k)
  simpa using this
theorem and127 (c : UInt8) : Go.bits .and .u8 (c.toNat : Int) 127 = ((c.toNat &&& 127 : Nat) : Int) := by
  have := bits_and_u8 c.toBitVec 127#8
  simpa [BitVec.toNat_or, BitVec.toNat_add, BitVec.toNat_and, BitVec.toNat_xor] using this

set_option maxHeartbeats 1000000 in
theorem get_ok {h : VH} {v : Value} {bs : List UInt8} (hb : IsBytes h v bs) {at_ : Nat} (ha : at_ ≤ bs.length) (hlen : bs.length ≤ 1000000000) :
    PCalls Try.prog f_wire_Get [v, .int .i64 (at_ : Int)] h (fun u h' => u = .tuple #[.int .u64 ((getS 0 0 (bs.drop at_)).1 : Int), .int .i64 (if (getS 0 0 (bs.drop at_)).2.2 = 0 then ((at_ + (getS 0 0 (bs.drop at_)).2.1 : Nat) : Int) else 0), .int .i64 (getS 0 0 (bs.drop at_)).2.2] ∧ h' = h) := by
  refine PCalls_of_pw st_wire_Get (by simp [n_wire_Get]) ?_
  rw [b_wire_Get]
  rcases isB_from hb ha with ⟨rfl, rfl⟩ | ⟨i, o, c, hi, hc, rfl, hat, hat2⟩
  · obtain rfl : at_ = 0 := by simpa using ha
    have hg : getS 0 0 (([] : List UInt8).drop 0) = (0, 0, 8) := rfl
    rw [hg]
    simp (disch := first|omega|(simp only [np,ns];try omega)) [B_wire_Get]
    refine pw_loopN (fun k s g => g = h ∧ s 22 = .int .i64 0 ∧ s 23 = .int .i64 0) 0 (by simp [upd_apply]) ?_
    rintro k s g hk ⟨rfl, e22, e23⟩
    simp (disch := first|omega|(simp only [np,ns];try omega)) [r_wire_Get, e22, e23]
  · have hez := hat.esz
    obtain ⟨T, hT⟩ : ∃ T, T = bs.drop at_ := ⟨_, rfl⟩
    obtain ⟨L, hL⟩ : ∃ L, L = bs.length := ⟨_, rfl⟩
    obtain ⟨TL, hTL⟩ : ∃ TL, TL = T.length := ⟨_, rfl⟩
    have hTLL : TL = L - at_ := by rw [hTL, hT, hL]; simp
    rw [← hT] at hat2 ⊢
    rw [← hL] at hc ⊢
    have h1 : ¬ (at_ : Int) < 0 := by omega
    have h2 : ¬ (L : Int) < (at_ : Int) := by omega
    have h3 : 0 ≤ (at_ : Int) ∧ (at_ : Int) ≤ (L : Int) := by omega
    have hsub : L - at_ = TL := hTLL.symm
    simp (disch := first|omega|(simp only [np,ns];try omega)) [B_wire_Get, h1, h2, hez, hsub]
    refine pw_loopN (fun k s g => g = h ∧ ∃ acc : Nat, acc < 18446744073709551616 ∧ k ≤ TL ∧ k ≤ 9 ∧ getS 0 0 T = getS k acc (T.drop k) ∧ s 1 = .int .i64 (at_ : Int) ∧ s 7 = .int .u64 (acc : Int) ∧ s 8 = .int .i64 (7 * (k : Int)) ∧ s 21 = .slice (some ⟨i, o + at_, none⟩) TL (c - at_) ∧ s 22 = .int .i64 (TL : Int) ∧ s 23 = .int .i64 (k : Int)) 10 ?_ ?_
    · exact ⟨rfl, 0, by omega, by omega, by omega, rfl, by simp [upd_apply, s0_apply], by simp [upd_apply], by simp [upd_apply], by simp [upd_apply], by simp [upd_apply], by simp [upd_apply]⟩
    rintro k s g hk ⟨rfl, acc, hacc, hkT, hk9, hgs, e1, e7, e8, e21, e22, e23⟩
    by_cases hlt : k < TL
    · have hltI : (k : Int) < (TL : Int) := by omega
      have hkl : k < T.length := by omega
      have hload := hat2.at_ hkl
      have hdr : T.drop k = T[k] :: T.drop (k + 1) := List.drop_eq_getElem_cons hkl
      obtain ⟨C, hC⟩ : ∃ C, C = T[k] := ⟨_, rfl⟩
      rw [← hC] at hload hdr
      rw [hdr] at hgs
      have hC256 := C.toNat_lt
      have hmin : min (7 * (k : Int)).toNat 64 = 7 * k := by omega
      have hge : ¬ 7 * (k : Int) < 0 := by omega
      have hcw : IntKind.u64.wrap (C.toNat : Int) = (C.toNat : Int) := u64_small (by omega) (by omega)
      have hsh := shl_u64N C.toNat (7 * k)
      have hor := or_u64 (b := (C.toNat * 2 ^ (7 * k)) % 18446744073709551616) hacc (by omega)
      have eA : IntKind.i64.wrap ((at_ : Int) + (k : Int)) = (at_ : Int) + (k : Int) := i64_small (by omega) (by omega)
      have eB : IntKind.i64.wrap ((at_ : Int) + (k : Int) + 1) = (at_ : Int) + (k : Int) + 1 := i64_small (by omega) (by omega)
      have eK : IntKind.i64.wrap ((k : Int) + 1) = ((k + 1 : Nat) : Int) := by rw [i64_small (by omega) (by omega)]; omega
      obtain ⟨V, hV⟩ : ∃ V, V = acc ||| (C.toNat * 2 ^ (7 * k)) % 18446744073709551616 := ⟨_, rfl⟩
      obtain ⟨Z, hZ⟩ : ∃ Z, Z = (C.toNat * 2 ^ (7 * k)) % 18446744073709551616 := ⟨_, rfl⟩
      rw [← hZ] at hsh hor hV
      rw [← hV] at hor
      rw [getS_cons] at hgs
      by_cases hbad : k = 9 ∧ 1 < C.toNat
      · obtain ⟨rfl, hbad⟩ := hbad
        have hbadI : (1 : Int) < (C.toNat : Int) := by omega
        rw [if_pos ⟨rfl, hbad⟩] at hgs
        rw [hgs]
        have h9I : (9 : Int) < (TL : Int) := by omega
        simp (disch := first|omega|(simp only [np,ns];try omega)) [r_wire_Get, e1, e7, e8, e21, e22, e23, h9I, hlt, hload, hbad, hbadI]
      rw [if_neg hbad, ← hZ, ← hV] at hgs
      have hnb : (((7 * (k : Int)) == 63) && decide ((1 : Int) < (C.toNat : Int))) = false := by
        by_cases h9 : k = 9
        · have : ¬ 1 < C.toNat := fun e => hbad ⟨h9, e⟩
          have : ¬ (1 : Int) < (C.toNat : Int) := by omega
          simp [this]
        · have : ((7 * (k : Int)) == 63) = false := by simp; omega
          simp [this]
      by_cases h128 : C.toNat < 128
      · have h128I : (C.toNat : Int) < 128 := by omega
        rw [if_pos h128] at hgs
        rw [hgs]
        by_cases h9 : k = 9
        · subst h9
          have h9I : (9 : Int) < (TL : Int) := by omega
          have hn1 : ¬ (1 : Int) < (C.toNat : Int) := by have := hbad; omega
          have hn1' : ¬ 1 < C.toNat := by omega
          have hsh9 : IntKind.u64.wrap ((C.toNat : Int) * 9223372036854775808) = (Z : Int) := by rwa [show ((2 : Int) ^ (7 * 9)) = 9223372036854775808 by decide] at hsh
          simp (disch := first|omega|(simp only [np,ns];try omega)) [r_wire_Get, e1, e7, e8, e21, e22, e23, h9I, hltI, hlt, hload, hn1, hn1', h128, h128I, hcw, hge, hmin, hsh9, hor, eA, eB]
          omega
        · have h9b : ((7 * (k : Int)) == 63) = false := by simp; omega
          simp (disch := first|omega|(simp only [np,ns];try omega)) [r_wire_Get, e1, e7, e8, e21, e22, e23, hltI, hlt, hload, h9b, h128, h128I, hcw, hge, hmin, hsh, hor, eA, eB]
          omega
      · have h128I : ¬ (C.toNat : Int) < 128 := by omega
        obtain ⟨D, hD⟩ : ∃ D, D = C.toNat &&& 127 := ⟨_, rfl⟩
        have hD128 : D < 128 := by rw [hD]; exact Nat.lt_succ_of_le Nat.and_le_right
        have hand := and127 C
        rw [← hD] at hand
        have hDw : IntKind.u64.wrap (D : Int) = (D : Int) := u64_small (by omega) (by omega)
        have hshD := shl_u64N D (7 * k)
        obtain ⟨ZD, hZD⟩ : ∃ ZD, ZD = (D * 2 ^ (7 * k)) % 18446744073709551616 := ⟨_, rfl⟩
        have horD := or_u64 (b := ZD) hacc (by omega)
        have hacc2 := or_lt64 (b := ZD) hacc (by omega)
        rw [← hZD] at hshD
        obtain ⟨VD, hVD⟩ : ∃ VD, VD = acc ||| ZD := ⟨_, rfl⟩
        rw [← hVD] at horD hacc2
        have k9 : ¬ 9 ≤ k := fun e => by have := hbad; omega
        rw [if_neg h128, if_neg k9, ← hD, ← hZD, ← hVD] at hgs
        have h9b : ((7 * (k : Int)) == 63) = false := by simp; omega
        have e8' : IntKind.i64.wrap (7 * (k : Int) + 7) = 7 * ((k : Int) + 1) := by rw [i64_small (by omega) (by omega)]; omega
        have h63 : ¬ (63 : Int) < 7 * ((k : Int) + 1) := by omega
        have h63' : ¬ 63 < 7 * (k + 1) := by omega
        simp (disch := first|omega|(simp only [np,ns];try omega)) [e1, e7, e8, e21, e22, e23, hltI, hlt, hload, h9b, h128, h128I, hcw, hge, hmin, hand, hDw, hshD, horD, eK, e8', h63, h63']
        exact ⟨by omega, VD, hacc2, by omega, by omega, hgs, rfl⟩
    · obtain rfl : k = TL := by omega
      have hend : T.drop k = [] := List.drop_eq_nil_of_le (by omega)
      rw [hend] at hgs
      have hgs : getS 0 0 T = (0, 0, 8) := hgs
      rw [hgs]
      simp (disch := first|omega|(simp only [np,ns];try omega)) [r_wire_Get, e1, e7, e8, e21, e22, e23]

/-- a number of bytes, the lowest first. -/
def numB : List UInt8 → Nat
  | [] => 0
  | b :: r => b.toNat + 256 * numB r
theorem numB_lt : ∀ (l : List UInt8), numB l < 256 ^ l.length
  | [] => by simp [numB]
  | b :: r => by
    have := numB_lt r
    have h2 := b.toNat_lt
    simp only [numB, List.length_cons, Nat.pow_succ]
    omega
theorem or_add (x y i : Nat) (h : y < 2 ^ i) : x * 2 ^ i ||| y = x * 2 ^ i + y := by
  rw [← Nat.shiftLeft_eq, Nat.shiftLeft_add_eq_or_of_lt h]
theorem orP (x y p i : Nat) (hp : p = 2 ^ i) (h : y < p) (hx : x * p < 18446744073709551616) (hi : p ≤ 18446744073709551616) : Go.bits .or .u64 ((x * p : Nat) : Int) (y : Int) = ((x * p + y : Nat) : Int) := by
  rw [or_u64 hx (Nat.lt_of_lt_of_le h hi), hp, or_add x y i (hp ▸ h)]
theorem or4 (a b c d : Nat) (ha : a < 256) (hb : b < 256) (hc : c < 256) (hd : d < 256) :
    Go.bits .or .u64 (Go.bits .or .u64 (Go.bits .or .u64 ((a : Int) * 16777216) ((b : Int) * 65536)) ((c : Int) * 256)) (d : Int) = ((d + 256 * (c + 256 * (b + 256 * a)) : Nat) : Int) := by
  have e1 := orP a (b * 65536) 16777216 24 (by decide) (by omega) (by omega) (by omega)
  have e2 := orP (a * 256 + b) (c * 256) 65536 16 (by decide) (by omega) (by omega) (by omega)
  have e3 := orP ((a * 256 + b) * 256 + c) d 256 8 (by decide) (by omega) (by omega) (by omega)
  rw [show a * 16777216 + b * 65536 = (a * 256 + b) * 65536 by omega] at e1
  rw [show (a * 256 + b) * 65536 + c * 256 = ((a * 256 + b) * 256 + c) * 256 by omega] at e2
  rw [show (a : Int) * 16777216 = ((a * 16777216 : Nat) : Int) by omega, show (b : Int) * 65536 = ((b * 65536 : Nat) : Int) by omega, show (c : Int) * 256 = ((c * 256 : Nat) : Int) by omega, e1, e2, e3]
  congr 1
  omega
theorem or4h (a b c d : Nat) (ha : a < 256) (hb : b < 256) (hc : c < 256) (hd : d < 256) :
    Go.bits .or .u64 (Go.bits .or .u64 (Go.bits .or .u64 ((a : Int) * 72057594037927936) ((b : Int) * 281474976710656)) ((c : Int) * 1099511627776)) ((d : Int) * 4294967296) = ((4294967296 * (d + 256 * (c + 256 * (b + 256 * a))) : Nat) : Int) := by
  have e1 := orP a (b * 281474976710656) 72057594037927936 56 (by decide) (by omega) (by omega) (by omega)
  have e2 := orP (a * 256 + b) (c * 1099511627776) 281474976710656 48 (by decide) (by omega) (by omega) (by omega)
  have e3 := orP ((a * 256 + b) * 256 + c) (d * 4294967296) 1099511627776 40 (by decide) (by omega) (by omega) (by omega)
  rw [show a * 72057594037927936 + b * 281474976710656 = (a * 256 + b) * 281474976710656 by omega] at e1
  rw [show (a * 256 + b) * 281474976710656 + c * 1099511627776 = ((a * 256 + b) * 256 + c) * 1099511627776 by omega] at e2
  rw [show (a : Int) * 72057594037927936 = ((a * 72057594037927936 : Nat) : Int) by omega, show (b : Int) * 281474976710656 = ((b * 281474976710656 : Nat) : Int) by omega, show (c : Int) * 1099511627776 = ((c * 1099511627776 : Nat) : Int) by omega,
    show (d : Int) * 4294967296 = ((d * 4294967296 : Nat) : Int) by omega, e1, e2, e3]
  congr 1
  omega
theorem or0 (x : Nat) (hx : x < 18446744073709551616) : Go.bits .or .u64 0 (x : Int) = (x : Int) := by
  have := or_u64 (a := 0) (by decide) hx
  rw [Nat.zero_or] at this
  exact this
theorem orHi (x y : Nat) (hx : x < 4294967296) (hy : y < 4294967296) : Go.bits .or .u64 ((4294967296 * x : Nat) : Int) (y : Int) = ((y + 4294967296 * x : Nat) : Int) := by
  have := orP x y 4294967296 32 (by decide) hy (by omega) (by omega)
  rw [Nat.mul_comm x] at this
  rw [this]
  congr 1
  omega

set_option maxHeartbeats 2000000 in
theorem low4_ok {h : VH} {v : Value} {b0 b1 b2 b3 : UInt8} (hb : IsBytes h v [b0, b1, b2, b3]) : PCalls Try.prog f_wire_low [v] h (fun u h' => u = .int .u64 (numB [b0, b1, b2, b3] : Int) ∧ h' = h) := by
  refine PCalls_of_pw st_wire_low (by simp [n_wire_low]) ?_
  rw [b_wire_low]
  rcases hb.cases with ⟨_, h2⟩ | ⟨i, o, c, hi, hc, rfl, hat⟩
  · cases h2
  have l0 := hat.at_ (k := 0) (by simp)
  have l1 := hat.at_ (k := 1) (by simp)
  have l2 := hat.at_ (k := 2) (by simp)
  have l3 := hat.at_ (k := 3) (by simp)
  have q0 := b0.toNat_lt
  have q1 := b1.toNat_lt
  have q2 := b2.toNat_lt
  have q3 := b3.toNat_lt
  simp only [List.getElem_cons_zero, List.getElem_cons_succ, Nat.add_zero] at l0 l1 l2 l3
  have h4 := or4 b3.toNat b2.toNat b1.toNat b0.toNat q3 q2 q1 q0
  obtain ⟨M, hM⟩ : ∃ M, M = b0.toNat + 256 * (b1.toNat + 256 * (b2.toNat + 256 * b3.toNat)) := ⟨_, rfl⟩
  have hM4 : M < 4294967296 := by omega
  have hnum : numB [b0, b1, b2, b3] = M := by rw [hM]; rfl
  rw [← hM] at h4
  rw [hnum]
  simp (disch := first|omega|(simp only [np,ns];try omega)) [r_wire_low, B_wire_low, l0, l1, l2, l3, u64_small, h4, or0]
set_option maxHeartbeats 2000000 in
theorem low8_ok {h : VH} {v : Value} {b0 b1 b2 b3 b4 b5 b6 b7 : UInt8} (hb : IsBytes h v [b0, b1, b2, b3, b4, b5, b6, b7]) : PCalls Try.prog f_wire_low [v] h (fun u h' => u = .int .u64 (numB [b0, b1, b2, b3, b4, b5, b6, b7] : Int) ∧ h' = h) := by
  refine PCalls_of_pw st_wire_low (by simp [n_wire_low]) ?_
  rw [b_wire_low]
  rcases hb.cases with ⟨_, h2⟩ | ⟨i, o, c, hi, hc, rfl, hat⟩
  · cases h2
  have l0 := hat.at_ (k := 0) (by simp)
  have l1 := hat.at_ (k := 1) (by simp)
  have l2 := hat.at_ (k := 2) (by simp)
  have l3 := hat.at_ (k := 3) (by simp)
  have l4 := hat.at_ (k := 4) (by simp)
  have l5 := hat.at_ (k := 5) (by simp)
  have l6 := hat.at_ (k := 6) (by simp)
  have l7 := hat.at_ (k := 7) (by simp)
  have q0 := b0.toNat_lt
  have q1 := b1.toNat_lt
  have q2 := b2.toNat_lt
  have q3 := b3.toNat_lt
  have q4 := b4.toNat_lt
  have q5 := b5.toNat_lt
  have q6 := b6.toNat_lt
  have q7 := b7.toNat_lt
  simp only [List.getElem_cons_zero, List.getElem_cons_succ, Nat.add_zero] at l0 l1 l2 l3 l4 l5 l6 l7
  have h4 := or4 b3.toNat b2.toNat b1.toNat b0.toNat q3 q2 q1 q0
  have h4h := or4h b7.toNat b6.toNat b5.toNat b4.toNat q7 q6 q5 q4
  obtain ⟨M, hM⟩ : ∃ M, M = b0.toNat + 256 * (b1.toNat + 256 * (b2.toNat + 256 * b3.toNat)) := ⟨_, rfl⟩
  obtain ⟨H, hH⟩ : ∃ H, H = b4.toNat + 256 * (b5.toNat + 256 * (b6.toNat + 256 * b7.toNat)) := ⟨_, rfl⟩
  have hM4 : M < 4294967296 := by omega
  have hH4 : H < 4294967296 := by omega
  rw [← hM] at h4
  rw [← hH] at h4h
  have hhi := orHi H M hH4 hM4
  obtain ⟨HH, hHH⟩ : ∃ HH, HH = 4294967296 * H := ⟨_, rfl⟩
  rw [← hHH] at h4h hhi
  obtain ⟨R, hR⟩ : ∃ R, R = M + HH := ⟨_, rfl⟩
  rw [← hR] at hhi
  have hnum : numB [b0, b1, b2, b3, b4, b5, b6, b7] = R := by rw [hR, hHH, hM, hH]; simp only [numB]; omega
  rw [hnum]
  simp (disch := first|omega|(simp only [np,ns];try omega)) [r_wire_low, B_wire_low, l0, l1, l2, l3, l4, l5, l6, l7, u64_small, h4, h4h, hhi, or0]
end Go.Proofs.Ytdnkpgbggpbgaaa.Wr
