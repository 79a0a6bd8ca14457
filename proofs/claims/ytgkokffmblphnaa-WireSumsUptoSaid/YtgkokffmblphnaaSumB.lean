import Derived.Test.YtgkokffmblphnaaSumA
set_option linter.unusedVariables false
set_option linter.unusedSimpArgs false
set_option maxRecDepth 100000
namespace Go.Proofs.Ytgkokffmblphnaa.SumA
open Go Go.RowKit Go.Proofs.Ytgkokffmblphnaa.Pm Go.Proofs.Ytgkokffmblphnaa.Fs

theorem low_iff (r : BitVec 32) : r &&& 1#32 = 1#32 ↔ r.getLsbD 0 = true := by
  constructor
  · intro h
    have := congrArg (fun x => x.getLsbD 0) h
    simpa using this
  · intro h
    apply BitVec.eq_of_getLsbD_eq
    intro i hi
    rw [BitVec.getLsbD_and]
    by_cases h0 : i = 0
    · subst h0; simp [h]
    · have : (1#32).getLsbD i = false := by simp [BitVec.getLsbD_one, h0]
      rw [this, Bool.and_false]
theorem bit1_eq (r : BitVec 32) : bit1 r = (r >>> 1) ^^^ (if r.getLsbD 0 then 0x82f63b78#32 else 0#32) := by
  unfold bit1
  by_cases h : r.getLsbD 0 = true
  · rw [if_pos ((low_iff r).2 h), if_pos h]
  · rw [if_neg (fun e => h ((low_iff r).1 e)), if_neg h, BitVec.xor_zero]
theorem bit1_xor (a b : BitVec 32) : bit1 (a ^^^ b) = bit1 a ^^^ bit1 b := by
  rw [bit1_eq, bit1_eq, bit1_eq, BitVec.ushiftRight_xor_distrib, BitVec.getLsbD_xor]
  generalize a >>> 1 = x
  generalize b >>> 1 = y
  generalize hp : (0x82f63b78#32) = p
  apply BitVec.eq_of_getLsbD_eq
  intro i hi
  cases a.getLsbD 0 <;> cases b.getLsbD 0 <;> simp [BitVec.getLsbD_xor] <;> cases x.getLsbD i <;> cases y.getLsbD i <;> cases p.getLsbD i <;> rfl
theorem bitN_xor (n : Nat) (a b : BitVec 32) : bitN n (a ^^^ b) = bitN n a ^^^ bitN n b := by
  induction n generalizing a b with
  | zero => rfl
  | succ n ih =>
    show bitN n (bit1 (a ^^^ b)) = bitN n (bit1 a) ^^^ bitN n (bit1 b)
    rw [bit1_xor, ih]
theorem bit1_zero : bit1 0#32 = 0#32 := by decide
theorem bitN_zero (n : Nat) : bitN n 0#32 = 0#32 := by
  induction n with
  | zero => rfl
  | succ n ih =>
    show bitN n (bit1 0#32) = _
    rw [bit1_zero, ih]
theorem bit1_even {r : BitVec 32} (h : r.getLsbD 0 = false) : bit1 r = r >>> 1 := by
  rw [bit1_eq, h]
  simp
theorem high4 (r : BitVec 32) : bitN 4 ((r >>> 4) <<< 4) = r >>> 4 := by
  have g : ∀ (i : Nat), ((r >>> 4) <<< 4).getLsbD i = (decide (4 ≤ i) && (decide (i < 32) && r.getLsbD i)) := by
    intro i
    simp only [BitVec.getLsbD_shiftLeft, BitVec.getLsbD_ushiftRight]
    by_cases h4 : i < 4
    · simp [h4]
      intro h
      omega
    · have : 4 + (i - 4) = i := by omega
      simp [h4, this]
      omega
  generalize (r >>> 4) <<< 4 = t at g
  show bit1 (bit1 (bit1 (bit1 t))) = _
  rw [bit1_even (r := t) (by rw [g]; rfl), bit1_even (r := t >>> 1) (by rw [BitVec.getLsbD_ushiftRight, g]; rfl),
    bit1_even (r := t >>> 1 >>> 1) (by rw [BitVec.getLsbD_ushiftRight, BitVec.getLsbD_ushiftRight, g]; rfl),
    bit1_even (r := t >>> 1 >>> 1 >>> 1) (by rw [BitVec.getLsbD_ushiftRight, BitVec.getLsbD_ushiftRight, BitVec.getLsbD_ushiftRight, g]; rfl)]
  apply BitVec.eq_of_getLsbD_eq
  intro i hi
  simp only [BitVec.getLsbD_ushiftRight, g]
  have : 1 + (1 + (1 + (1 + i))) = 4 + i := by omega
  rw [this]
  by_cases h : 4 + i < 32
  · simp [h]
  · rw [BitVec.getLsbD_of_ge _ _ (by omega)]; simp
theorem split4 (r : BitVec 32) : r = ((r >>> 4) <<< 4) ^^^ (r &&& 15#32) := by
  apply BitVec.eq_of_getLsbD_eq
  intro i hi
  rw [BitVec.getLsbD_xor, BitVec.getLsbD_and, BitVec.getLsbD_shiftLeft, BitVec.getLsbD_ushiftRight]
  by_cases h4 : i < 4
  · have : i = 0 ∨ i = 1 ∨ i = 2 ∨ i = 3 := by omega
    rcases this with rfl | rfl | rfl | rfl <;> simp
  · have e : 4 + (i - 4) = i := by omega
    have e15 : (15#32).getLsbD i = false := by
      rw [BitVec.getLsbD_ofNat]
      have : Nat.testBit 15 i = false := Nat.testBit_lt_two_pow (Nat.lt_of_lt_of_le (show 15 < 2 ^ 4 by decide) (Nat.pow_le_pow_right (by decide) (by omega)))
      rw [this, Bool.and_false]
    rw [e, e15]
    simp [hi, h4]
theorem nib_eq (r : BitVec 32) : nib r = bitN 4 r := by
  have h : bitN 4 r = bitN 4 (((r >>> 4) <<< 4) ^^^ (r &&& 15#32)) := congrArg _ (split4 r)
  rw [h, bitN_xor, high4]
  unfold nib tab
  rw [BitVec.ofNat_toNat, BitVec.setWidth_eq]
theorem step_eq (r : BitVec 32) (c : UInt8) : step r c = stepR r c := by
  unfold step stepR
  rw [nib_eq, nib_eq]
  rfl
theorem sum_eq (bs : List UInt8) : sumS bs = sumR bs := by
  have : step = stepR := by funext r c; exact step_eq r c
  unfold sumS sumR
  rw [this]
theorem bit1_null {r : BitVec 32} (h : bit1 r = 0#32) : r = 0#32 := by
  rw [bit1_eq] at h
  by_cases h0 : r.getLsbD 0 = true
  · rw [if_pos h0] at h
    have := congrArg (fun x => x.getLsbD 31) h
    rw [BitVec.getLsbD_xor, BitVec.getLsbD_ushiftRight, BitVec.getLsbD_of_ge r _ (by omega)] at this
    exact absurd this (by decide)
  · have h0 : r.getLsbD 0 = false := by simpa using h0
    rw [h0] at h
    simp only [Bool.false_eq_true, if_false, BitVec.xor_zero] at h
    apply BitVec.eq_of_getLsbD_eq
    intro i hi
    rw [BitVec.getLsbD_zero]
    by_cases hi0 : i = 0
    · subst hi0; exact h0
    · have := congrArg (fun x => x.getLsbD (i - 1)) h
      simp only [BitVec.getLsbD_ushiftRight, BitVec.getLsbD_zero] at this
      rwa [show 1 + (i - 1) = i by omega] at this
theorem bitN_null {n : Nat} {r : BitVec 32} (h : bitN n r = 0#32) : r = 0#32 := by
  induction n generalizing r with
  | zero => exact h
  | succ n ih => exact bit1_null (ih h)
theorem xor_eq_zero {a b : BitVec 32} (h : a ^^^ b = 0#32) : a = b := by
  apply BitVec.eq_of_getLsbD_eq
  intro i hi
  have := congrArg (fun x => x.getLsbD i) h
  simp only [BitVec.getLsbD_xor, BitVec.getLsbD_zero] at this
  cases ha : a.getLsbD i <;> cases hb : b.getLsbD i <;> simp_all
theorem bitN_inj {n : Nat} {a b : BitVec 32} (h : bitN n a = bitN n b) : a = b := by
  apply xor_eq_zero
  apply bitN_null (n := n)
  rw [bitN_xor, h, BitVec.xor_self]
theorem stepR_inj {a b : BitVec 32} {c : UInt8} (h : stepR a c = stepR b c) : a = b := by
  have := bitN_inj h
  apply xor_eq_zero
  have h2 : (a ^^^ up c) ^^^ (b ^^^ up c) = 0#32 := by rw [this, BitVec.xor_self]
  rw [← h2]
  apply BitVec.eq_of_getLsbD_eq
  intro i hi
  simp only [BitVec.getLsbD_xor]
  cases a.getLsbD i <;> cases b.getLsbD i <;> cases (up c).getLsbD i <;> rfl
theorem fold_inj (bs : List UInt8) {a b : BitVec 32} (h : bs.foldl stepR a = bs.foldl stepR b) : a = b := by
  induction bs generalizing a b with
  | nil => exact h
  | cons c r ih => exact stepR_inj (ih h)
theorem up_inj {c d : UInt8} (h : up c = up d) : c = d := by
  have := congrArg BitVec.toNat h
  have h1 := up_toNat c
  have h2 := up_toNat d
  apply UInt8.toNat_inj.1
  omega
theorem stepR_byte {a : BitVec 32} {c d : UInt8} (h : stepR a c = stepR a d) : c = d := by
  have := bitN_inj h
  apply up_inj
  apply xor_eq_zero
  have h2 : (a ^^^ up c) ^^^ (a ^^^ up d) = 0#32 := by rw [this, BitVec.xor_self]
  rw [← h2]
  apply BitVec.eq_of_getLsbD_eq
  intro i hi
  simp only [BitVec.getLsbD_xor]
  cases a.getLsbD i <;> cases (up c).getLsbD i <;> cases (up d).getLsbD i <;> rfl
theorem sumS_set {bs : List UInt8} {i : Nat} (hi : i < bs.length) {d : UInt8} (hd : d ≠ bs[i]) : sumS (bs.set i d) ≠ sumS bs := by
  intro h
  rw [sum_eq, sum_eq] at h
  have h : ~~~ ((bs.set i d).foldl stepR 0xffffffff#32) = ~~~ (bs.foldl stepR 0xffffffff#32) := h
  have h := congrArg (fun x => ~~~ x) h
  simp only [BitVec.not_not] at h
  have e1 : bs.set i d = bs.take i ++ d :: bs.drop (i + 1) := List.set_eq_take_append_cons_drop.trans (by rw [if_pos hi])
  have e2 : bs = bs.take i ++ bs[i] :: bs.drop (i + 1) := by rw [List.getElem_cons_drop, List.take_append_drop]
  rw [e1] at h
  conv at h => rhs; rw [e2]
  rw [List.foldl_append, List.foldl_append] at h
  exact hd (stepR_byte (fold_inj (bs.drop (i + 1)) h))
end Go.Proofs.Ytgkokffmblphnaa.SumA
