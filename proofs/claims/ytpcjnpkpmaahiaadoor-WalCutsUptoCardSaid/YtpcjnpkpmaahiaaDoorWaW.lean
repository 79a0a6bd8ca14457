/- wal, part W: numbers, sums, bytes lent (out of the texts of wire and disk by pick.py). -/
import Derived.Test.YtpcjnpkpmaahiaaDoorFsA
import Derived.Test.YtpcjnpkpmaahiaaDoorPmEl
import Derived.Test.YtpcjnpkpmaahiaaDoorPmMr
import Derived.Test.YtpcjnpkpmaahiaaDoorPmSa
import Derived.Test.YtpcjnpkpmaahiaaDoorPmSb
import Derived.Laws.Bits64b
set_option linter.unusedVariables false
set_option linter.unusedSimpArgs false
set_option maxRecDepth 100000
namespace Go.Proofs.YtpcjnpkpmaahiaaDoor.Wa
open Go Go.RowKit Go.Proofs.YtpcjnpkpmaahiaaDoor.Pm Go.Proofs.YtpcjnpkpmaahiaaDoor.Fs
attribute [-simp] BitVec.toNat_or BitVec.toNat_xor BitVec.toNat_add BitVec.toNat_and BitVec.toNat_not BitVec.toNat_shiftLeft BitVec.toNat_ushiftRight

theorem fill1 {v : Value} {z : Value} (hv : cellsL v = [v]) : fillC [z] [(0, 1, v)] = some [v] := by
  simp only [fillC, hv]
  rfl
def varint (n : Nat) : List UInt8 := if h : n < 128 then [UInt8.ofNat n] else UInt8.ofNat (n % 128 + 128) :: varint (n / 128)
termination_by n
decreasing_by omega
theorem varint_lt {n : Nat} (h : n < 128) : varint n = [UInt8.ofNat n] := by rw [varint, dif_pos h]
theorem varint_ge {n : Nat} (h : ¬ n < 128) : varint n = UInt8.ofNat (n % 128 + 128) :: varint (n / 128) := by rw [varint, dif_neg h]
theorem varint_len : ∀ (k n : Nat), n < 2 ^ (7 * k) → (varint n).length ≤ max k 1
  | 0, n, h => by rw [varint_lt (by simp at h; omega)]; simp
  | k + 1, n, h => by
    by_cases hn : n < 128
    · rw [varint_lt hn]; simp
    · rw [varint_ge hn]
      have h1 : n / 128 < 2 ^ (7 * k) := by
        rw [Nat.mul_add, Nat.pow_add] at h
        exact Nat.div_lt_of_lt_mul (by omega)
      have := varint_len k (n / 128) h1
      have hk : 1 ≤ k := by
        rcases Nat.eq_zero_or_pos k with rfl | hk
        · simp at h; omega
        · exact hk
      simp
      omega
theorem varint_len10 {n : Nat} (h : n < 18446744073709551616) : (varint n).length ≤ 10 := varint_len 10 n (by omega)
theorem varint_ne (n : Nat) : varint n ≠ [] := by
  by_cases hn : n < 128
  · rw [varint_lt hn]; simp
  · rw [varint_ge hn]; simp
/-- the lowest k bytes, the lowest first. -/
def lowB : Nat → Nat → List UInt8
  | 0, _ => []
  | k + 1, n => UInt8.ofNat (n % 256) :: lowB k (n / 256)
theorem lowB_length (k n : Nat) : (lowB k n).length = k := by
  induction k generalizing n with
  | zero => rfl
  | succ k ih => simp [lowB, ih]
theorem lowB_at : ∀ (k n j : Nat), j < k → (lowB k n)[j]? = some (UInt8.ofNat (n / 256 ^ j % 256))
  | k + 1, n, 0, _ => by simp [lowB]
  | k + 1, n, j + 1, h => by
    simp only [lowB, List.getElem?_cons_succ]
    rw [lowB_at k (n / 256) j (by omega), Nat.div_div_eq_div_mul, Nat.pow_succ, Nat.mul_comm]
theorem lowB_take {k n j : Nat} (h : j < k) : (lowB k n).take (j + 1) = (lowB k n).take j ++ [UInt8.ofNat (n / 256 ^ j % 256)] := by
  rw [List.take_add_one, lowB_at k n j h]
  rfl
theorem shr_u (n k : Nat) : Int.fdiv (n : Int) (2 ^ k) = ((n / 2 ^ k : Nat) : Int) := by
  rw [Int.fdiv_eq_ediv_of_nonneg _ (Int.le_of_lt (Int.pow_pos (by decide)))]
  simp
theorem shr7 (n : Nat) : Int.fdiv (n : Int) 128 = ((n / 128 : Nat) : Int) := shr_u n 7
theorem u8_wrapN (n : Nat) : IntKind.u8.wrap (n : Int) = ((UInt8.ofNat n).toNat : Int) := by
  rw [wrapN_u8, UInt8.toNat_ofNat']
theorem or128 (b : UInt8) : Go.bits .or .u8 (b.toNat : Int) 128 = ((b ||| 128).toNat : Int) := by
  have := bits_or_u8 b.toBitVec 128#8
  simpa [BitVec.toNat_or, BitVec.toNat_add, BitVec.toNat_and, BitVec.toNat_xor] using this
theorem or128_eq (n : Nat) : UInt8.ofNat n ||| 128 = UInt8.ofNat (n % 128 + 128) := by
  have h1 : UInt8.ofNat n = UInt8.ofNat (n % 256) := by
    apply UInt8.toNat_inj.1
    simp [UInt8.toNat_ofNat']
  have h2 : n % 128 = (n % 256) % 128 := by omega
  rw [h1, h2]
  have h3 : n % 256 < 256 := by omega
  generalize n % 256 = m at h3
  have : ∀ m : Fin 256, UInt8.ofNat m.1 ||| 128 = UInt8.ofNat (m.1 % 128 + 128) := by decide +kernel
  exact this ⟨m, h3⟩
/-- a number out of bytes, k of its groups done: the number, how many bytes it took, or what is wrong. -/
def getS : Nat → Nat → List UInt8 → Nat × Nat × Int
  | _, _, [] => (0, 0, 8)
  | k, acc, c :: r =>
    if k = 9 ∧ 1 < c.toNat then (0, 0, 30)
    else if c.toNat < 128 then (acc ||| (c.toNat * 2 ^ (7 * k)) % 18446744073709551616, k + 1, 0)
    else if 9 ≤ k then (0, 0, 8)
    else getS (k + 1) (acc ||| ((c.toNat &&& 127) * 2 ^ (7 * k)) % 18446744073709551616) r
theorem getS_cons (k acc : Nat) (c : UInt8) (r : List UInt8) : getS k acc (c :: r) = if k = 9 ∧ 1 < c.toNat then (0, 0, 30)
    else if c.toNat < 128 then (acc ||| (c.toNat * 2 ^ (7 * k)) % 18446744073709551616, k + 1, 0)
    else if 9 ≤ k then (0, 0, 8)
    else getS (k + 1) (acc ||| ((c.toNat &&& 127) * 2 ^ (7 * k)) % 18446744073709551616) r := rfl
theorem isB_from {h : VH} {v : Value} {bs : List UInt8} (hb : IsBytes h v bs) {at_ : Nat} (ha : at_ ≤ bs.length) :
    (v = .slice none 0 0 ∧ bs = []) ∨ ∃ i o c, i < h.n ∧ bs.length ≤ c ∧ v = .slice (some ⟨i, o, none⟩) bs.length c ∧ BytesAt h i o bs ∧ BytesAt h i (o + at_) (bs.drop at_) := by
  rcases hb.cases with h1 | ⟨i, o, c, h1, h2, h3, h4⟩
  · exact .inl h1
  · refine .inr ⟨i, o, c, h1, h2, h3, h4, ?_⟩
    have := h4.sub at_ (bs.length - at_) (by omega)
    rwa [List.take_of_length_le (by simp)] at this
theorem or_u64 {a b : Nat} (ha : a < 18446744073709551616) (hb : b < 18446744073709551616) : Go.bits .or .u64 (a : Int) (b : Int) = ((a ||| b : Nat) : Int) := bits_or_u64_nat a b ha hb
theorem or_lt64 {a b : Nat} (ha : a < 18446744073709551616) (hb : b < 18446744073709551616) : a ||| b < 18446744073709551616 := Nat.or_lt_two_pow (n := 64) ha hb
theorem shl_u64N (a k : Nat) : IntKind.u64.wrap ((a : Int) * 2 ^ k) = (((a * 2 ^ k) % 18446744073709551616 : Nat) : Int) := by
  have := wrapN_u64 (a * 2 ^ k)
  simpa using this
theorem and127 (c : UInt8) : Go.bits .and .u8 (c.toNat : Int) 127 = ((c.toNat &&& 127 : Nat) : Int) := by
  have := bits_and_u8 c.toBitVec 127#8
  simpa [BitVec.toNat_or, BitVec.toNat_add, BitVec.toNat_and, BitVec.toNat_xor] using this
set_option maxHeartbeats 1000000 in
theorem get_ok {h : VH} {v : Value} {bs : List UInt8} (hb : IsBytes h v bs) {at_ : Nat} (ha : at_ ≤ bs.length) (hlen : bs.length ≤ 1000000000) :
    PCalls Tryd.prog f_wire_Get [v, .int .i64 (at_ : Int)] h (fun u h' => u = .tuple #[.int .u64 ((getS 0 0 (bs.drop at_)).1 : Int), .int .i64 (if (getS 0 0 (bs.drop at_)).2.2 = 0 then ((at_ + (getS 0 0 (bs.drop at_)).2.1 : Nat) : Int) else 0), .int .i64 (getS 0 0 (bs.drop at_)).2.2] ∧ h' = h) := by
  refine PCalls_of_pw st_wire_Get (by simp [n_wire_Get]) ?_
  rw [b_wire_Get]
  rcases isB_from hb ha with ⟨rfl, rfl⟩ | ⟨i, o, c, hi, hc, rfl, hat, hat2⟩
  · obtain rfl : at_ = 0 := by simpa using ha
    have hg : getS 0 0 (([] : List UInt8).drop 0) = (0, 0, 8) := rfl
    rw [hg]
    simp (disch := first|omega|(simp only [np,ns];try omega)) [B_wire_Get]
    refine pw_loopN (fun k s g => g = h ∧ s 22 = .int .i64 0 ∧ s 23 = .int .i64 0) 0 (by simp [upd_apply]) ?_
    rintro k s g hk ⟨rfl, e22, e23⟩
    simp (disch := first|omega|(simp only [np,ns];try omega)) [r_wire_Get, e22, e23]
  · have hez := hat.esz
    obtain ⟨T, hT⟩ : ∃ T, T = bs.drop at_ := ⟨_, rfl⟩
    obtain ⟨L, hL⟩ : ∃ L, L = bs.length := ⟨_, rfl⟩
    obtain ⟨TL, hTL⟩ : ∃ TL, TL = T.length := ⟨_, rfl⟩
    have hTLL : TL = L - at_ := by rw [hTL, hT, hL]; simp
    rw [← hT] at hat2 ⊢
    rw [← hL] at hc ⊢
    have h1 : ¬ (at_ : Int) < 0 := by omega
    have h2 : ¬ (L : Int) < (at_ : Int) := by omega
    have h3 : 0 ≤ (at_ : Int) ∧ (at_ : Int) ≤ (L : Int) := by omega
    have hsub : L - at_ = TL := hTLL.symm
    simp (disch := first|omega|(simp only [np,ns];try omega)) [B_wire_Get, h1, h2, hez, hsub]
    refine pw_loopN (fun k s g => g = h ∧ ∃ acc : Nat, acc < 18446744073709551616 ∧ k ≤ TL ∧ k ≤ 9 ∧ getS 0 0 T = getS k acc (T.drop k) ∧ s 1 = .int .i64 (at_ : Int) ∧ s 7 = .int .u64 (acc : Int) ∧ s 8 = .int .i64 (7 * (k : Int)) ∧ s 21 = .slice (some ⟨i, o + at_, none⟩) TL (c - at_) ∧ s 22 = .int .i64 (TL : Int) ∧ s 23 = .int .i64 (k : Int)) 10 ?_ ?_
    · exact ⟨rfl, 0, by omega, by omega, by omega, rfl, by simp [upd_apply, s0_apply], by simp [upd_apply], by simp [upd_apply], by simp [upd_apply], by simp [upd_apply], by simp [upd_apply]⟩
    rintro k s g hk ⟨rfl, acc, hacc, hkT, hk9, hgs, e1, e7, e8, e21, e22, e23⟩
    by_cases hlt : k < TL
    · have hltI : (k : Int) < (TL : Int) := by omega
      have hkl : k < T.length := by omega
      have hload := hat2.at_ hkl
      have hdr : T.drop k = T[k] :: T.drop (k + 1) := List.drop_eq_getElem_cons hkl
      obtain ⟨C, hC⟩ : ∃ C, C = T[k] := ⟨_, rfl⟩
      rw [← hC] at hload hdr
      rw [hdr] at hgs
      have hC256 := C.toNat_lt
      have hmin : min (7 * (k : Int)).toNat 64 = 7 * k := by omega
      have hge : ¬ 7 * (k : Int) < 0 := by omega
      have hcw : IntKind.u64.wrap (C.toNat : Int) = (C.toNat : Int) := u64_small (by omega) (by omega)
      have hsh := shl_u64N C.toNat (7 * k)
      have hor := or_u64 (b := (C.toNat * 2 ^ (7 * k)) % 18446744073709551616) hacc (by omega)
      have eA : IntKind.i64.wrap ((at_ : Int) + (k : Int)) = (at_ : Int) + (k : Int) := i64_small (by omega) (by omega)
      have eB : IntKind.i64.wrap ((at_ : Int) + (k : Int) + 1) = (at_ : Int) + (k : Int) + 1 := i64_small (by omega) (by omega)
      have eK : IntKind.i64.wrap ((k : Int) + 1) = ((k + 1 : Nat) : Int) := by rw [i64_small (by omega) (by omega)]; omega
      obtain ⟨V, hV⟩ : ∃ V, V = acc ||| (C.toNat * 2 ^ (7 * k)) % 18446744073709551616 := ⟨_, rfl⟩
      obtain ⟨Z, hZ⟩ : ∃ Z, Z = (C.toNat * 2 ^ (7 * k)) % 18446744073709551616 := ⟨_, rfl⟩
      rw [← hZ] at hsh hor hV
      rw [← hV] at hor
      rw [getS_cons] at hgs
      by_cases hbad : k = 9 ∧ 1 < C.toNat
      · obtain ⟨rfl, hbad⟩ := hbad
        have hbadI : (1 : Int) < (C.toNat : Int) := by omega
        rw [if_pos ⟨rfl, hbad⟩] at hgs
        rw [hgs]
        have h9I : (9 : Int) < (TL : Int) := by omega
        simp (disch := first|omega|(simp only [np,ns];try omega)) [r_wire_Get, e1, e7, e8, e21, e22, e23, h9I, hlt, hload, hbad, hbadI]
      rw [if_neg hbad, ← hZ, ← hV] at hgs
      have hnb : (((7 * (k : Int)) == 63) && decide ((1 : Int) < (C.toNat : Int))) = false := by
        by_cases h9 : k = 9
        · have : ¬ 1 < C.toNat := fun e => hbad ⟨h9, e⟩
          have : ¬ (1 : Int) < (C.toNat : Int) := by omega
          simp [this]
        · have : ((7 * (k : Int)) == 63) = false := by simp; omega
          simp [this]
      by_cases h128 : C.toNat < 128
      · have h128I : (C.toNat : Int) < 128 := by omega
        rw [if_pos h128] at hgs
        rw [hgs]
        by_cases h9 : k = 9
        · subst h9
          have h9I : (9 : Int) < (TL : Int) := by omega
          have hn1 : ¬ (1 : Int) < (C.toNat : Int) := by have := hbad; omega
          have hn1' : ¬ 1 < C.toNat := by omega
          have hsh9 : IntKind.u64.wrap ((C.toNat : Int) * 9223372036854775808) = (Z : Int) := by rwa [show ((2 : Int) ^ (7 * 9)) = 9223372036854775808 by decide] at hsh
          simp (disch := first|omega|(simp only [np,ns];try omega)) [r_wire_Get, e1, e7, e8, e21, e22, e23, h9I, hltI, hlt, hload, hn1, hn1', h128, h128I, hcw, hge, hmin, hsh9, hor, eA, eB]
          omega
        · have h9b : ((7 * (k : Int)) == 63) = false := by simp; omega
          simp (disch := first|omega|(simp only [np,ns];try omega)) [r_wire_Get, e1, e7, e8, e21, e22, e23, hltI, hlt, hload, h9b, h128, h128I, hcw, hge, hmin, hsh, hor, eA, eB]
          omega
      · have h128I : ¬ (C.toNat : Int) < 128 := by omega
        obtain ⟨D, hD⟩ : ∃ D, D = C.toNat &&& 127 := ⟨_, rfl⟩
        have hD128 : D < 128 := by rw [hD]; exact Nat.lt_succ_of_le Nat.and_le_right
        have hand := and127 C
        rw [← hD] at hand
        have hDw : IntKind.u64.wrap (D : Int) = (D : Int) := u64_small (by omega) (by omega)
        have hshD := shl_u64N D (7 * k)
        obtain ⟨ZD, hZD⟩ : ∃ ZD, ZD = (D * 2 ^ (7 * k)) % 18446744073709551616 := ⟨_, rfl⟩
        have horD := or_u64 (b := ZD) hacc (by omega)
        have hacc2 := or_lt64 (b := ZD) hacc (by omega)
        rw [← hZD] at hshD
        obtain ⟨VD, hVD⟩ : ∃ VD, VD = acc ||| ZD := ⟨_, rfl⟩
        rw [← hVD] at horD hacc2
        have k9 : ¬ 9 ≤ k := fun e => by have := hbad; omega
        rw [if_neg h128, if_neg k9, ← hD, ← hZD, ← hVD] at hgs
        have h9b : ((7 * (k : Int)) == 63) = false := by simp; omega
        have e8' : IntKind.i64.wrap (7 * (k : Int) + 7) = 7 * ((k : Int) + 1) := by rw [i64_small (by omega) (by omega)]; omega
        have h63 : ¬ (63 : Int) < 7 * ((k : Int) + 1) := by omega
        have h63' : ¬ 63 < 7 * (k + 1) := by omega
        simp (disch := first|omega|(simp only [np,ns];try omega)) [e1, e7, e8, e21, e22, e23, hltI, hlt, hload, h9b, h128, h128I, hcw, hge, hmin, hand, hDw, hshD, horD, eK, e8', h63, h63']
        exact ⟨by omega, VD, hacc2, by omega, by omega, hgs, rfl⟩
    · obtain rfl : k = TL := by omega
      have hend : T.drop k = [] := List.drop_eq_nil_of_le (by omega)
      rw [hend] at hgs
      have hgs : getS 0 0 T = (0, 0, 8) := hgs
      rw [hgs]
      simp (disch := first|omega|(simp only [np,ns];try omega)) [r_wire_Get, e1, e7, e8, e21, e22, e23]
theorem or_add (x y i : Nat) (h : y < 2 ^ i) : x * 2 ^ i ||| y = x * 2 ^ i + y := by
  rw [← Nat.shiftLeft_eq, Nat.shiftLeft_add_eq_or_of_lt h]
theorem getS_spec : ∀ (l : List UInt8) (k acc : Nat), k ≤ 9 → acc < 18446744073709551616 → (getS k acc l).1 < 18446744073709551616 ∧ ((getS k acc l).2.2 = 0 → k < (getS k acc l).2.1 ∧ (getS k acc l).2.1 ≤ k + l.length) ∧ ((getS k acc l).2.2 = 0 ∨ (getS k acc l).2.2 = 8 ∨ (getS k acc l).2.2 = 30)
  | [], k, acc, hk, ha => ⟨by simp [getS], by simp [getS], by simp [getS]⟩
  | c :: r, k, acc, hk, ha => by
    rw [getS_cons]
    split
    · simp
    · split
      · refine ⟨or_lt64 ha (Nat.mod_lt _ (by decide)), by simp, .inl rfl⟩
      · split
        · simp
        · obtain ⟨h1, h2, h3⟩ := getS_spec r (k + 1) _ (by omega) (or_lt64 (a := acc) (b := ((c.toNat &&& 127) * 2 ^ (7 * k)) % 18446744073709551616) ha (Nat.mod_lt _ (by decide)))
          refine ⟨h1, fun e => ?_, h3⟩
          have := h2 e
          simp
          omega
theorem isB_sub {h : VH} {i o c a n : Nat} {bs : List UInt8} (hi : i < h.n) (hat : BytesAt h i o bs) (hn : a + n ≤ bs.length) (hc : n ≤ c) : IsBytes h (.slice (some ⟨i, o + a, none⟩) n c) ((bs.drop a).take n) := by
  have h1 := hat.sub a n hn
  have hl : ((bs.drop a).take n).length = n := by simp; omega
  have := BytesAt.is hi (c := c) (by omega) h1
  rwa [hl] at this
theorem nil_at {h : VH} {v : Value} {bs : List UInt8} (hb : IsBytes h v bs) (hne : 0 < bs.length) : ∃ i o c, i < h.n ∧ bs.length ≤ c ∧ v = .slice (some ⟨i, o, none⟩) bs.length c ∧ BytesAt h i o bs := by
  rcases hb.cases with ⟨_, rfl⟩ | h1
  · simp at hne
  · exact h1
theorem u8_of_lt {n : Nat} (h : n < 256) : (UInt8.ofNat n).toNat = n := by rw [UInt8.toNat_ofNat']; exact Nat.mod_eq_of_lt h
theorem or_shl (a b k : Nat) (h : a < 2 ^ k) : a ||| b * 2 ^ k = a + b * 2 ^ k := by rw [Nat.or_comm, or_add b a k h, Nat.add_comm]
/-- a varint is read: whatever follows it. -/
theorem getS_varint : ∀ (k acc n : Nat) (r : List UInt8), k ≤ 9 → acc < 2 ^ (7 * k) → n * 2 ^ (7 * k) < 18446744073709551616 → getS k acc (varint n ++ r) = (acc + n * 2 ^ (7 * k), k + (varint n).length, 0) := by
  intro k
  have main : ∀ (j k acc n : Nat) (r : List UInt8), j + k = 9 → acc < 2 ^ (7 * k) → n * 2 ^ (7 * k) < 18446744073709551616 → getS k acc (varint n ++ r) = (acc + n * 2 ^ (7 * k), k + (varint n).length, 0) := by
    intro j
    induction j with
    | zero =>
      intro k acc n r hk hacc hn
      obtain rfl : k = 9 := by omega
      have hn2 : n < 2 := by omega
      have hn1 : n < 128 := by omega
      rw [varint_lt hn1]
      simp only [List.cons_append, List.nil_append, List.length_cons, List.length_nil]
      rw [getS_cons, u8_of_lt (by omega), if_neg (by omega), if_pos hn1, Nat.mod_eq_of_lt hn, or_shl _ _ _ hacc]
    | succ j ih =>
      intro k acc n r hk hacc hn
      by_cases hn1 : n < 128
      · rw [varint_lt hn1]
        simp only [List.cons_append, List.nil_append, List.length_cons, List.length_nil]
        rw [getS_cons, u8_of_lt (by omega), if_neg (by omega), if_pos hn1, Nat.mod_eq_of_lt hn, or_shl _ _ _ hacc]
      · rw [varint_ge hn1]
        simp only [List.cons_append, List.length_cons]
        have hc : n % 128 + 128 < 256 := by omega
        have hand : (n % 128 + 128) &&& 127 = n % 128 := by
          rw [show (127 : Nat) = 2 ^ 7 - 1 by decide, Nat.and_two_pow_sub_one_eq_mod]
          omega
        have hp : 2 ^ (7 * (k + 1)) = 128 * 2 ^ (7 * k) := by rw [Nat.mul_add, Nat.pow_add, Nat.mul_comm]
        have hpos : 0 < 2 ^ (7 * k) := Nat.pow_pos (by decide)
        have hle : n % 128 * 2 ^ (7 * k) ≤ n * 2 ^ (7 * k) := Nat.mul_le_mul_right _ (Nat.mod_le _ _)
        have hsplit : n * 2 ^ (7 * k) = n % 128 * 2 ^ (7 * k) + n / 128 * 2 ^ (7 * (k + 1)) := by
          rw [hp, ← Nat.mul_assoc, ← Nat.add_mul]
          congr 1
          omega
        rw [getS_cons, u8_of_lt hc, if_neg (by omega), if_neg (by omega), if_neg (by omega), hand, Nat.mod_eq_of_lt (by omega), or_shl _ _ _ hacc]
        have hacc2 : acc + n % 128 * 2 ^ (7 * k) < 2 ^ (7 * (k + 1)) := by
          have h1 : n % 128 * 2 ^ (7 * k) ≤ 127 * 2 ^ (7 * k) := Nat.mul_le_mul_right _ (by omega)
          omega
        rw [ih (k + 1) _ (n / 128) r (by omega) hacc2 (by omega)]
        simp only [Prod.mk.injEq, and_true]
        constructor <;> omega
  intro acc n r hk
  exact main (9 - k) k acc n r (by omega)
theorem get_varint {n : Nat} (hn : n < 18446744073709551616) (r : List UInt8) : getS 0 0 (varint n ++ r) = (n, (varint n).length, 0) := by
  have := getS_varint 0 0 n r (by omega) (by decide) (by simpa using hn)
  simpa using this
theorem drop_len (a b : List UInt8) : (a ++ b).drop a.length = b := by simp
theorem tdiv_n (n k : Nat) : Int.tdiv (n : Int) (k : Int) = ((n / k : Nat) : Int) := by
  rw [Int.tdiv_eq_ediv_of_nonneg (by omega)]; simp
theorem tmod_n (n k : Nat) : Int.tmod (n : Int) (k : Int) = ((n % k : Nat) : Int) := by
  rw [Int.tmod_eq_emod_of_nonneg (by omega)]; simp
theorem rput_ok {h : VH} {v : Value} {bs : List UInt8} (hb : IsBytes h v bs) {n : Nat} (hn : n < 18446744073709551616) (hl : bs.length ≤ 100000000) :
    PCalls Tryd.prog f_ref02_Put [v, .int .u64 (n : Int)] h (fun u h' => (∃ a k c, u = .slice a k c) ∧ Buf h h' u (bs ++ varint n)) := by
  refine PCalls_of_pw st_ref02_Put (by simp [n_ref02_Put]) ?_
  rw [b_ref02_Put]
  obtain ⟨va, vc, rfl⟩ := hb.shape
  obtain ⟨w0, g0, hap0, hbuf0⟩ := (Buf.nil h).append bs (by simp; omega)
  rw [List.nil_append] at hbuf0
  obtain ⟨xa, xn, xc, rfl⟩ : ∃ a n c, w0 = .slice a n c := by
    obtain ⟨a, c, rfl⟩ := hbuf0.shape
    exact ⟨_, _, _, rfl⟩
  have hsrc := hb.src
  obtain ⟨L, hL⟩ : ∃ L, L = bs.length := ⟨_, rfl⟩
  rw [← hL] at hsrc hap0 ⊢
  simp (disch := first|omega|(simp only [np,ns];try omega)) [B_ref02_Put, hsrc, hap0]
  refine pw_loopN (fun k s g => ∃ (l' : List UInt8) (n' : Nat) (w : Value), s 5 = w ∧ s 1 = .int .u64 (n' : Int) ∧ Buf h g w l' ∧ bs ++ varint n = l' ++ varint n' ∧ n' < 2 ^ (70 - 7 * k) ∧ n' < 18446744073709551616 ∧ l'.length = L + k ∧ (∃ a k c, w = .slice a k c)) 10 ?_ ?_
  · exact ⟨bs, n, _, by simp [upd_apply, s0_apply], by simp [upd_apply, s0_apply], hbuf0, rfl, by omega, hn, by omega, _, _, _, rfl⟩
  · rintro k s g hk ⟨l', n', w, h0', h1, hb', he, hlt, hn', hll, a, q, c, rfl⟩
    by_cases hg : 128 ≤ n'
    · have hgI : (128 : Int) ≤ (n' : Int) := by omega
      have hgN : ¬ n' < 128 := by omega
      have hk10 : k < 10 := by
        by_cases hk9 : k < 10
        · exact hk9
        · obtain rfl : k = 10 := by omega
          simp at hlt
          omega
      obtain ⟨C, hC⟩ : ∃ C, C = UInt8.ofNat (n' % 128 + 128) := ⟨_, rfl⟩
      have hm : Int.tmod (n' : Int) 128 = ((n' % 128 : Nat) : Int) := tmod_n n' 128
      have hd : Int.tdiv (n' : Int) 128 = ((n' / 128 : Nat) : Int) := tdiv_n n' 128
      obtain ⟨M, hM⟩ : ∃ M, M = n' % 128 := ⟨_, rfl⟩
      obtain ⟨Q, hQ⟩ : ∃ Q, Q = n' / 128 := ⟨_, rfl⟩
      rw [← hM] at hm hC
      rw [← hQ] at hd
      have hw1 : IntKind.u64.wrap ((M : Int) + 128) = ((M + 128 : Nat) : Int) := by rw [u64_small (by omega) (by omega)]; omega
      have hw2 : IntKind.u8.wrap ((M : Int) + 128) = (C.toNat : Int) := by rw [hC, show (M : Int) + 128 = ((M + 128 : Nat) : Int) by omega]; exact u8_wrapN _
      have hwQ : IntKind.u64.wrap (Q : Int) = (Q : Int) := u64_small (by omega) (by omega)
      obtain ⟨w', g', hap, hb2⟩ := hb'.byte C (by omega)
      obtain ⟨xa, xn, xc, rfl⟩ : ∃ a n c, w' = .slice a n c := by
        obtain ⟨a, c, rfl⟩ := hb2.shape
        exact ⟨_, _, _, rfl⟩
      have hfill : fillC [.int .u8 0] [(0, 1, .int .u8 (C.toNat : Int))] = some [.int .u8 (C.toNat : Int)] := fill1 rfl
      have hone : [Value.int .u8 (C.toNat : Int)].all Value.oneCell' = true := rfl
      have hrow : ∀ x, rowObj (.cells [x] true 1) 0 1 = some [x] := fun x => rfl
      simp (disch := first|omega|(simp only [np,ns];try omega)) [h0', h1, hgI, hg, hm, hd, hw1, hw2, hwQ, hfill, hone, hrow, hap]
      rw [hC, hM] at hb2
      refine ⟨hk10, _, Q, rfl, hb2, ?_, ?_, by omega, by simp; omega⟩
      · rw [he, varint_ge hgN, hQ]; simp
      · rw [show 70 - 7 * k = 7 + (70 - 7 * (k + 1)) by omega, Nat.pow_add] at hlt
        rw [hQ]
        exact Nat.div_lt_of_lt_mul (by omega)
    · have hgI : ¬ (128 : Int) ≤ (n' : Int) := by omega
      have hgN : n' < 128 := by omega
      obtain ⟨D, hD⟩ : ∃ D, D = UInt8.ofNat n' := ⟨_, rfl⟩
      have hw1 : IntKind.u8.wrap (n' : Int) = (D.toNat : Int) := by rw [hD]; exact u8_wrapN n'
      obtain ⟨w', g', hap, hb2⟩ := hb'.byte D (by omega)
      obtain ⟨xa, xn, xc, rfl⟩ : ∃ a n c, w' = .slice a n c := by
        obtain ⟨a, c, rfl⟩ := hb2.shape
        exact ⟨_, _, _, rfl⟩
      have hfill : fillC [.int .u8 0] [(0, 1, .int .u8 (D.toNat : Int))] = some [.int .u8 (D.toNat : Int)] := fill1 rfl
      have hone : [Value.int .u8 (D.toNat : Int)].all Value.oneCell' = true := rfl
      have hrow : ∀ x, rowObj (.cells [x] true 1) 0 1 = some [x] := fun x => rfl
      simp (disch := first|omega|(simp only [np,ns];try omega)) [r_ref02_Put, h0', h1, hgI, hg, hw1, hfill, hone, hrow, hap]
      rw [hD] at hb2
      rw [he, varint_lt hgN]
      exact hb2
/-- a part of a varint is not whole. -/
theorem getS_short : ∀ (n k acc m : Nat), m < (varint n).length → k + (varint n).length ≤ 10 → getS k acc ((varint n).take m) = (0, 0, 8) := by
  intro n
  induction n using Nat.strongRecOn with
  | _ n ih =>
    intro k acc m hm hk
    by_cases hn : n < 128
    · rw [varint_lt hn] at hm ⊢
      obtain rfl : m = 0 := by simpa using hm
      rfl
    · rw [varint_ge hn] at hm hk ⊢
      simp only [List.length_cons] at hm hk
      cases m with
      | zero => rfl
      | succ m =>
        have h1 : 1 ≤ (varint (n / 128)).length := List.length_pos_iff.2 (varint_ne _)
        rw [List.take_succ_cons, getS_cons, u8_of_lt (by omega), if_neg (by omega), if_neg (by omega), if_neg (by omega)]
        exact ih (n / 128) (by omega) (k + 1) _ m (by omega) (by omega)
theorem get_short {n m : Nat} (hn : n < 18446744073709551616) (hm : m < (varint n).length) : getS 0 0 ((varint n).take m) = (0, 0, 8) :=
  getS_short n 0 0 m hm (by have := varint_len10 hn; omega)
theorem and127_lt (c : UInt8) (h : c.toNat < 128) : c.toNat &&& 127 = c.toNat := by
  rw [show (127 : Nat) = 2 ^ 7 - 1 by decide, Nat.and_two_pow_sub_one_eq_mod]
  omega
set_option maxHeartbeats 2000000 in
theorem rget_ok {h : VH} {v : Value} {bs : List UInt8} (hb : IsBytes h v bs) {at_ : Nat} (ha : at_ ≤ bs.length) (hlen : bs.length ≤ 1000000000) :
    PCalls Tryd.prog f_ref02_Get [v, .int .i64 (at_ : Int)] h (fun u h' => u = .tuple #[.int .u64 ((getS 0 0 (bs.drop at_)).1 : Int), .int .i64 (if (getS 0 0 (bs.drop at_)).2.2 = 0 then ((at_ + (getS 0 0 (bs.drop at_)).2.1 : Nat) : Int) else 0), .int .i64 (getS 0 0 (bs.drop at_)).2.2] ∧ h' = h) := by
  refine PCalls_of_pw st_ref02_Get (by simp [n_ref02_Get]) ?_
  rw [b_ref02_Get]
  obtain ⟨va, vc, rfl⟩ := hb.shape
  obtain ⟨T, hT⟩ : ∃ T, T = bs.drop at_ := ⟨_, rfl⟩
  obtain ⟨L, hL⟩ : ∃ L, L = bs.length := ⟨_, rfl⟩
  have hTL : T.length = L - at_ := by rw [hT, hL]; simp
  rw [← hT]
  rw [← hL] at ha hlen hb ⊢
  have h1 : ¬ (at_ : Int) < 0 := by omega
  have h2 : ¬ (L : Int) < (at_ : Int) := by omega
  have h2' : ¬ L < at_ := by omega
  simp (disch := first|omega|(simp only [np,ns];try omega)) [B_ref02_Get, h1, h2, h2']
  refine pw_loopN (fun k s g => g = h ∧ ∃ acc : Nat, acc < 18446744073709551616 ∧ k ≤ T.length ∧ k ≤ 9 ∧ getS 0 0 T = getS k acc (T.drop k) ∧ s 0 = .slice va L vc ∧ s 1 = .int .i64 (at_ : Int) ∧ s 7 = .int .u64 (acc : Int) ∧ s 8 = .int .i64 (k : Int)) 10 ?_ ?_
  · exact ⟨rfl, 0, by omega, by omega, by omega, rfl, by simp [upd_apply, s0_apply], by simp [upd_apply, s0_apply], by simp [upd_apply], by simp [upd_apply]⟩
  rintro k s g hk ⟨rfl, acc, hacc, hkT, hk9, hgs, e0, e1, e7, e8⟩
  have h10 : (k : Int) < 10 := by omega
  have h10' : k < 10 := by omega
  obtain ⟨P, hP⟩ : ∃ P, P = at_ + k := ⟨_, rfl⟩
  have eA : IntKind.i64.wrap ((at_ : Int) + (k : Int)) = (P : Int) := by rw [i64_small (by omega) (by omega)]; omega
  by_cases hlt : P < L
  case neg =>
    have hge : ((L : Int) ≤ (P : Int)) := by omega
    have hge' : L ≤ P := by omega
    have hend : T.drop k = [] := List.drop_eq_nil_of_le (by omega)
    rw [hend] at hgs
    have hgs : getS 0 0 T = (0, 0, 8) := hgs
    rw [hgs]
    simp (disch := first|omega|(simp only [np,ns];try omega)) [r_ref02_Get, e0, e1, e7, e8, h10, h10', eA, hge, hge']
  have hge : ¬ ((L : Int) ≤ (P : Int)) := by omega
  have hge' : ¬ L ≤ P := by omega
  obtain ⟨i, o, c, hi, hc, hv, hat⟩ := nil_at hb (by omega)
  injection hv with hv1 hv2 hv3
  subst hv1 hv3
  have hkl : k < T.length := by omega
  have hld := hat.at_ (k := at_ + k) (by omega)
  obtain ⟨C, hC⟩ : ∃ C, C = T[k] := ⟨_, rfl⟩
  have hbe : bs[at_ + k]'(by omega) = C := by rw [hC]; subst hT; rw [List.getElem_drop]
  rw [hbe] at hld
  have hdr : T.drop k = C :: T.drop (k + 1) := by rw [hC]; exact List.drop_eq_getElem_cons hkl
  rw [hdr, getS_cons] at hgs
  have hC256 := C.toNat_lt
  rw [← hP] at hld
  have hPL : P < L := by omega
  have hPLI : (P : Int) < (L : Int) := by omega
  by_cases hbad : k = 9 ∧ 1 < C.toNat
  · have h9b : ((k : Int) == 9) = true := by simp; omega
    have hbadI : (1 : Int) < (C.toNat : Int) := by omega
    have hbad1 := hbad.2
    rw [if_pos hbad] at hgs
    rw [hgs]
    simp (disch := first|omega|(simp only [np,ns];try omega)) [r_ref02_Get, e0, e1, e7, e8, h10, h10', eA, hge, hge', hPL, hPLI, hld, h9b, hbad1, hbadI]
  rw [if_neg hbad] at hgs
  obtain ⟨D, hD⟩ : ∃ D, D = C.toNat &&& 127 := ⟨_, rfl⟩
  have hD128 : D < 128 := by rw [hD]; exact Nat.lt_succ_of_le Nat.and_le_right
  have hand := and127 C
  rw [← hD] at hand
  have hDw : IntKind.u64.wrap (D : Int) = (D : Int) := u64_small (by omega) (by omega)
  obtain ⟨S7, hS7⟩ : ∃ S7, S7 = 7 * k := ⟨_, rfl⟩
  have h7w : IntKind.i64.wrap (7 * (k : Int)) = (S7 : Int) := by rw [i64_small (by omega) (by omega)]; omega
  have h7u : IntKind.u64.wrap (S7 : Int) = (S7 : Int) := u64_small (by omega) (by omega)
  have h7n : ¬ (S7 : Int) < 0 := by omega
  have hmin : min S7 64 = S7 := by omega
  have hshD := shl_u64N D S7
  obtain ⟨ZD, hZD⟩ : ∃ ZD, ZD = (D * 2 ^ S7) % 18446744073709551616 := ⟨_, rfl⟩
  have horD := or_u64 (b := ZD) hacc (by omega)
  have hacc2 := or_lt64 (b := ZD) hacc (by omega)
  rw [← hZD] at hshD
  obtain ⟨VD, hVD⟩ : ∃ VD, VD = acc ||| ZD := ⟨_, rfl⟩
  rw [← hVD] at horD hacc2
  have eB : IntKind.i64.wrap ((P : Int) + 1) = ((P + 1 : Nat) : Int) := by rw [i64_small (by omega) (by omega)]; omega
  have eK : IntKind.i64.wrap ((k : Int) + 1) = ((k + 1 : Nat) : Int) := by rw [i64_small (by omega) (by omega)]; omega
  have fin : ∀ (h9 : ((k : Int) == 9) = false ∨ (((k : Int) == 9) = true ∧ ¬ 1 < C.toNat)), True := fun _ => trivial
  by_cases h128 : C.toNat < 128
  · have h128I : (C.toNat : Int) < 128 := by omega
    have hDC : D = C.toNat := by rw [hD]; exact and127_lt C h128
    rw [if_pos h128, ← hDC, ← hS7, ← hZD, ← hVD] at hgs
    rw [hgs]
    have hres : (if (0 : Int) = 0 then ((at_ + (k + 1) : Nat) : Int) else 0) = ((P + 1 : Nat) : Int) := by rw [if_pos rfl]; omega
    by_cases h9 : k = 9
    · have h9b : ((k : Int) == 9) = true := by simp; omega
      have hn1 : ¬ 1 < C.toNat := fun e => hbad ⟨h9, e⟩
      have hn1I : ¬ (1 : Int) < (C.toNat : Int) := by omega
      simp (disch := first|omega|(simp only [np,ns];try omega)) [r_ref02_Get, e0, e1, e7, e8, h10, h10', eA, hge, hge', hPL, hPLI, hld, h9b, hn1, hn1I, hand, hDw, h7w, h7u, h7n, hmin, hshD, horD, h128, h128I, eB]
      omega
    · have h9b : ((k : Int) == 9) = false := by simp; omega
      simp (disch := first|omega|(simp only [np,ns];try omega)) [r_ref02_Get, e0, e1, e7, e8, h10, h10', eA, hge, hge', hPL, hPLI, hld, h9b, hand, hDw, h7w, h7u, h7n, hmin, hshD, horD, h128, h128I, eB]
      omega
  · have h128I : ¬ (C.toNat : Int) < 128 := by omega
    have k9 : ¬ 9 ≤ k := fun e => hbad ⟨by omega, by omega⟩
    have h9b : ((k : Int) == 9) = false := by simp; omega
    rw [if_neg h128, if_neg k9, ← hD, ← hS7, ← hZD, ← hVD] at hgs
    simp (disch := first|omega|(simp only [np,ns];try omega)) [e0, e1, e7, e8, h10, h10', eA, hge, hge', hPL, hPLI, hld, h9b, hand, hDw, h7w, h7u, h7n, hmin, hshD, horD, h128, h128I, eK]
    exact ⟨VD, hacc2, by omega, by omega, hgs, rfl⟩
/-- bytes lent, with one byte behind them. -/
def LentP (h : VH) (u : Value) (bs : List UInt8) : Prop := ∃ i o c ds, u = .slice (some ⟨i, o, none⟩) bs.length c ∧ bs.length < c ∧ i < h.n ∧ h.get i = .cells ds true 1 ∧ ds.drop o = u8s (bs ++ [77])
theorem LentP.own {h : VH} {u : Value} {bs : List UInt8} (k : LentP h u bs) : OwnP h 1 u (u8s bs) bs.length := by
  obtain ⟨i, o, c, ds, rfl, hc, hi, hg, hd⟩ := k
  have hdl := congrArg List.length hd
  simp at hdl
  refine .inr ⟨i, o, c, ds, hi, by omega, rfl, hg, ?_, by omega⟩
  rw [hd, Nat.mul_one]
  simp [u8s]
theorem LentP.fr {h h' : VH} {X : List Nat} (hf : Fr h h' X) {u : Value} {bs : List UInt8} (k : LentP h u bs) (hx : ∀ i ∈ idOf u, i ∉ X) : LentP h' u bs := by
  obtain ⟨i, o, c, ds, rfl, hc, hi, hg, hd⟩ := k
  have hn := hf.n
  exact ⟨i, o, c, ds, rfl, hc, by omega, by rw [hf.get i hi (hx i (by simp [idOf]))]; exact hg, hd⟩
theorem lent_ok {h : VH} {v : Value} {bs : List UInt8} (hb : IsBytes h v bs) (hlen : bs.length ≤ 1099511627000) :
    PCalls Tryd.prog f_ref02_Lent [v] h (fun u h' => LentP h' u bs ∧ Fr h h' [] ∧ ∀ j ∈ idOf u, h.n ≤ j) := by
  refine PCalls_of_pw st_ref02_Lent (by simp [n_ref02_Lent]) ?_
  rw [b_ref02_Lent]
  unfold B_ref02_Lent
  obtain ⟨va, vc, rfl⟩ := hb.shape
  obtain ⟨w1, g1, hap1, hB1⟩ := (Buf.nil h).append bs (by simp; omega)
  obtain ⟨g2, hg2⟩ : ∃ g2, g2 = g1.push (.cells [.int .u8 77] true 1) := ⟨_, rfl⟩
  have f2 : Fr g1 g2 [] := by rw [hg2]; exact Fr_push (Fr.refl _ _)
  obtain ⟨w2, g3, hap2, hB2⟩ := (hB1.step f2).append [77] (by simp; omega)
  rw [List.nil_append] at hB2 hB1
  have hap2 : appendV g2 1 1 w1 [.int .u8 77] 1 = some (w2, g3) := hap2
  have hsrc := hb.src
  obtain ⟨L, hL⟩ : ∃ L, L = bs.length := ⟨_, rfl⟩
  rw [← hL] at hsrc hap1
  obtain ⟨w1a, w1c, hw1⟩ := hB1.shape
  rw [← hL] at hw1
  have q2 : g2.get g1.n = .cells [.int .u8 77] true 1 := by rw [hg2, VH.get_push_new]
  have hfi : fillC [.int .u8 0] [(0, 1, .int .u8 77)] = some [.int .u8 77] := rfl
  have hone : ([.int .u8 77] : List Value).all Value.oneCell' = true := rfl
  have hro : rowObj (.cells [.int .u8 77] true 1) 0 1 = some [.int .u8 77] := rfl
  rcases hB2.own with ⟨_, h1, _⟩ | ⟨i, o, c, ds, hi, hc, rfl, hg, hd, hdl, hole⟩
  · simp [u8s] at h1
  have hl1 : (bs ++ [77]).length = L + 1 := by simp [hL]
  rw [hl1] at hc hap2
  have hez : eszObj (.cells ds true 1) 1 = true := rfl
  have hbd : (0 : Int) ≤ (L : Int) ∧ (L : Int) ≤ (c : Int) := by omega
  rw [hw1] at hap1 hap2
  rw [← hL]
  simp (disch := first|omega|(simp only [np,ns];try omega)) [r_ref02_Lent, hsrc, Option.bind_some, hap1, hfi, hone, ← hg2, q2, hro, hap2, hg, hez, hbd]
  refine ⟨⟨i, o, c, ds, by rw [hL], by omega, hi, hg, hd⟩, hB2.fr, fun j hj => hB2.ids j (by simpa [idOf] using hj)⟩
theorem kept_ok {h : VH} {u v : Value} {bs : List UInt8} (hu : LentP h u bs) (hb : IsBytes h v bs) (hlen : bs.length ≤ 1099511627000) :
    PCalls Tryd.prog f_ref02_Kept [u, v] h (fun x h' => x = .bool true ∧ h' = h) := by
  refine PCalls_of_pw st_ref02_Kept (by simp [n_ref02_Kept]) ?_
  rw [b_ref02_Kept]
  unfold B_ref02_Kept
  have hub := hu.own.bytes
  obtain ⟨i, o, c, ds, rfl, hc, hi, hg, hd⟩ := hu
  obtain ⟨va, vc, rfl⟩ := hb.shape
  obtain ⟨L, hL⟩ : ∃ L, L = bs.length := ⟨_, rfl⟩
  have hs1 := ofB_eq hub
  have hs2 := ofB_eq hb
  rw [← hL] at hs1 hs2 hc
  rw [← hL]
  have hez : eszObj (.cells ds true 1) 1 = true := rfl
  have h77 : loadObj (.cells ds true 1) (o + L) none = some (.int .u8 77) := by
    show ds[o + L]? = _
    rw [← List.getElem?_drop, hd]
    simp [u8s, hL]
  have hadd : IntKind.i64.wrap ((L : Int) + 1) = (L : Int) + 1 := i64_small (by omega) (by omega)
  obtain ⟨L1, hL1⟩ : ∃ L1, L1 = L + 1 := ⟨_, rfl⟩
  have hadd : IntKind.i64.wrap ((L : Int) + 1) = (L1 : Int) := by rw [hadd]; omega
  have hbd : (0 : Int) ≤ (L1 : Int) ∧ (L1 : Int) ≤ (c : Int) := by omega
  have hlt : L < L1 := by omega
  have hltI : (L : Int) < (L1 : Int) := by omega
  simp (disch := first|omega|(simp only [np,ns];try omega)) [r_ref02_Kept, hs1, hs2, hadd, hbd, hg, hez, hlt, hltI, h77]
theorem xor90 (b : UInt8) : Go.bits .xor .u8 (b.toNat : Int) 90 = ((b ^^^ 90).toNat : Int) := by
  have := bits_xor_u8 b.toBitVec 90#8
  simpa [BitVec.toNat_or, BitVec.toNat_add, BitVec.toNat_and, BitVec.toNat_xor] using this
theorem take_set_u8 {ds : List Value} {o k n : Nat} {bs : List UInt8} (h : (ds.drop o).take n = u8s bs) (x : UInt8) : ((ds.set (o + k) (.int .u8 (x.toNat : Int))).drop o).take n = u8s (bs.set k x) := by
  rw [List.drop_set, if_neg (by omega), show o + k - o = k by omega, List.take_set, h]
  simp [u8s, List.map_set]
set_option maxHeartbeats 2000000 in
theorem spoil_ok {h : VH} {v : Value} {bs : List UInt8} (hs : OwnP h 1 v (u8s bs) bs.length) (hlen : bs.length ≤ 1099511627000) : PCalls Tryd.prog f_ref02_Spoil [v] h (fun u h' => Fr h h' (idOf v)) := by
  refine PCalls_of_pw st_ref02_Spoil (by simp [n_ref02_Spoil]) ?_
  rw [b_ref02_Spoil]
  unfold B_ref02_Spoil
  obtain ⟨L, hL⟩ : ∃ L, L = bs.length := ⟨_, rfl⟩
  obtain ⟨va, vc, rfl⟩ := hs.shape
  rw [← hL] at hs ⊢
  simp (disch := first|omega|(simp only [np,ns];try omega)) []
  refine pw_loopN (fun k s g => ∃ bs' : List UInt8, bs'.length = L ∧ OwnP g 1 (.slice va L vc) (u8s bs') L ∧ Fr h g (idOf (.slice va L vc)) ∧ s 0 = .slice va L vc ∧ s 2 = .int .i64 (k : Int)) L ?_ ?_
  · exact ⟨bs, hL.symm, hs, Fr.refl _ _, by simp [upd_apply, s0_apply], by simp [upd_apply, s0_apply]⟩
  rintro k s g hk ⟨bs', hbl, ho, hf, e0, e2⟩
  by_cases hlt : k < L
  · have hltI : (k : Int) < (L : Int) := by omega
    rcases ho with ⟨h1, _, h3⟩ | ⟨i, o, c, ds, hi, hc, hv, hg, hd, hole⟩
    · omega
    · injection hv with hv1 _ hv3
      subst hv1
      subst hv3
      rw [Nat.mul_one] at hd hole
      have hkb : k < bs'.length := by omega
      have hld : loadObj (.cells ds true 1) (o + k) none = some (.int .u8 (bs'[k].toNat : Int)) := by
        rw [loadObj_one]
        have h5 : ((ds.drop o).take L)[k]? = some (.int .u8 (bs'[k].toNat : Int)) := by
          rw [hd]
          simp [u8s, List.getElem?_eq_getElem hkb]
        rwa [List.getElem?_take, if_pos hlt, List.getElem?_drop] at h5
      obtain ⟨X, hX⟩ : ∃ X, X = bs'[k] := ⟨_, rfl⟩
      rw [← hX] at hld
      obtain ⟨Y, hY⟩ : ∃ Y, Y = X ^^^ 90 := ⟨_, rfl⟩
      have hxor := xor90 X
      rw [← hY] at hxor
      have hst := storeObj_int (cs := ds) (e := 1) (o := o + k) (k := .u8) (n := (Y.toNat : Int)) (by omega)
      have eW : IntKind.i64.wrap ((k : Int) + 1) = ((k + 1 : Nat) : Int) := by rw [i64_small (by omega) (by omega)]; omega
      have hez : eszObj (.cells ds true 1) 1 = true := rfl
      simp (disch := first|omega|(simp only [np,ns];try omega)) [e0, e2, hltI, hlt, hg, hez, hld, hxor, hst, eW]
      refine ⟨bs'.set k Y, by simpa using hbl, ?_, hf.trans (Fr.set _ _ (by simp [idOf]))⟩
      refine .inr ⟨i, o, vc, ds.set (o + k) (.int .u8 (Y.toNat : Int)), hi, hc, rfl, VH.get_set_same _ _ _, by rw [Nat.mul_one]; exact take_set_u8 hd Y, by simp; omega⟩
  · obtain rfl : k = L := by omega
    obtain ⟨g1, hg1⟩ : ∃ g1, g1 = g.push (.cells [.int .u8 99] true 1) := ⟨_, rfl⟩
    have hf1 : Fr g g1 [] := by rw [hg1]; exact Fr_push (Fr.refl _ _)
    have hg1o : g1.get g.n = .cells [.int .u8 99] true 1 := by rw [hg1, VH.get_push_new]
    obtain ⟨w', g', hap, ho', hf', hid⟩ := (ho.fr hf1 (fun _ _ => by simp)).append (bytes := 1) (ys := u8s [99]) (k := 1) (by simp [u8s]) (by omega)
    have hap : appendV g1 1 1 (.slice va k vc) [.int .u8 99] 1 = some (w', g') := hap
    have hfill : fillC [.int .u8 0] [(0, 1, .int .u8 99)] = some [.int .u8 99] := rfl
    have hone : [Value.int .u8 99].all Value.oneCell' = true := rfl
    have hrow : rowObj (.cells [.int .u8 99] true 1) 0 1 = some [.int .u8 99] := rfl
    rcases ho' with ⟨h1, _, h3⟩ | ⟨i, o, c, ds, hi, hc, hv, hg, hd, hole⟩
    · omega
    · rw [Nat.mul_one] at hd hole
      have hst := storeObj_int (cs := ds) (e := 1) (o := o + k) (k := .u8) (n := 98) (by omega)
      have eW : IntKind.i64.wrap ((k : Int) + 1 - 1) = (k : Int) := by rw [i64_small (by omega) (by omega)]; omega
      have hk1 : (k : Int) < (k : Int) + 1 := by omega
      subst hv
      have hlt : k < k + 1 := by omega
      have hez : eszObj (.cells ds true 1) 1 = true := rfl
      simp (disch := first|omega|(simp only [np,ns];try omega)) [r_ref02_Spoil, e0, e2, hfill, hone, ← hg1, hg1o, hrow, hap, eW, hk1, hlt, hg, hez, hst]
      have hix : i ∈ idOf (.slice va k vc) ∨ h.n ≤ i := by
        rcases hid i (by simp [idOf]) with h5 | h5
        · exact .inl h5
        · have := hf.n; have := hf1.n; exact .inr (by omega)
      have F1 : Fr h g' (idOf (.slice va k vc)) := (hf.trans (hf1.sub (fun x hx => by simp at hx))).trans hf'
      exact F1.trans' (Fr.set _ _ (X := [i]) (by simp)) (fun y hy => by simp at hy; subst hy; exact hix)
theorem count_ok {h : VH} {a m : Int} (ha : -9223372036854775808 ≤ a ∧ a < 9223372036854775808) (hm : 0 < m ∧ m < 4611686018427387904) : PCalls Tryd.prog f_ref02_Count [.int .i64 a, .int .i64 m] h (fun u h' => ∃ k : Nat, (k : Int) < m ∧ u = .int .i64 (k : Int) ∧ h' = h) := by
  refine PCalls_of_pw st_ref02_Count (by simp [n_ref02_Count]) ?_
  rw [b_ref02_Count]
  unfold B_ref02_Count
  have hmz : ¬ m = 0 := by omega
  have h1 := Int.tmod_lt_of_pos a hm.1
  have h2 := Int.lt_tmod_of_pos a hm.1
  obtain ⟨r, hr⟩ : ∃ r, r = a.tmod m := ⟨_, rfl⟩
  rw [← hr] at h1 h2
  have hw : IntKind.i64.wrap r = r := i64_small (by omega) (by omega)
  have hw' : IntKind.i64.wrap (a.tmod m) = r := by rw [← hr]; exact hw
  have hw2 : IntKind.i64.wrap (r + m) = r + m := i64_small (by omega) (by omega)
  by_cases hneg : r < 0
  · simp (disch := first|omega|(simp only [np,ns];try omega)) [r_ref02_Count, hmz, ← hr, hw, hneg, hw2]
    exact ⟨(r + m).toNat, by omega, by omega⟩
  · simp (disch := first|omega|(simp only [np,ns];try omega)) [r_ref02_Count, hmz, ← hr, hw, hneg]
    exact ⟨r.toNat, by omega, by omega⟩

/- disk, part Z: both disks; a call of both. -/
end Go.Proofs.YtpcjnpkpmaahiaaDoor.Wa
