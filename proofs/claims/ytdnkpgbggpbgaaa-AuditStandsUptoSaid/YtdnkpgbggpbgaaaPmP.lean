/- The pure machine, part P: words for what values read as; numbers of 8, 32, 64 bits. -/
import Derived.Test.YtdnkpgbggpbgaaaPmO
set_option linter.unusedVariables false
set_option linter.unusedSimpArgs false
namespace Go.Proofs.Ytdnkpgbggpbgaaa.Pm
open Go.RowKit

def u8s (bs : List UInt8) : List Value := bs.map fun b => .int .u8 b.toNat
@[simp] theorem u8s_length (bs : List UInt8) : (u8s bs).length = bs.length := by simp [u8s]

@[simp] theorem u8s_getElem {bs : List UInt8} {i : Nat} (h : i < (u8s bs).length) : (u8s bs)[i] = .int .u8 (bs[i]'(by simpa using h)).toNat := by simp [u8s]

/-- a slice of bytes. -/
def IsBytes (h : VH) (v : Value) (bs : List UInt8) : Prop :=
  (v = .slice none 0 0 ∧ bs = []) ∨ ∃ i o c cs own, (i < h.n ∧ bs.length ≤ c) ∧ v = .slice (some ⟨i, o, none⟩) bs.length c ∧ h.get i = .cells cs own 1 ∧ o + bs.length ≤ cs.length ∧ (cs.drop o).take bs.length = u8s bs

theorem IsBytes.at_ {cs : List Value} {o : Nat} {bs : List UInt8} (hr : (cs.drop o).take bs.length = u8s bs) {i : Nat} (hi : i < bs.length) : cs[o + i]? = some (.int .u8 (bs[i]'hi).toNat) := by
  have h1 : ((cs.drop o).take bs.length)[i]? = cs[o + i]? := by rw [List.getElem?_take, if_pos hi, List.getElem?_drop]
  rw [← h1, hr]
  simp [u8s, hi]

theorem IsBytes.ro {h : VH} {v : Value} {bs : List UInt8} (hb : IsBytes h v bs) : IsBytes h.ro v bs := by
  rcases hb with hb | ⟨i, o, c, cs, own, h0, h1, h2, h3, h4⟩
  · exact .inl hb
  · exact .inr ⟨i, o, c, cs, false, h0, h1, by simp [VH.ro, VObj.ro, h2], h3, h4⟩
theorem IsBytes.get_eq {h h' : VH} {v : Value} {bs : List UInt8} (hb : IsBytes h v bs) (hn : h.n ≤ h'.n) (hh : ∀ i o n c, i < h.n → v = .slice (some ⟨i, o, none⟩) n c → h'.get i = h.get i) : IsBytes h' v bs := by
  rcases hb with hb | ⟨i, o, c, cs, own, h0, h1, h2, h3, h4⟩
  · exact .inl hb
  · exact .inr ⟨i, o, c, cs, own, ⟨Nat.lt_of_lt_of_le h0.1 hn, h0.2⟩, h1, (hh _ _ _ _ h0.1 h1).trans h2, h3, h4⟩

theorem IsBytes.shape {h : VH} {v : Value} {bs : List UInt8} (hb : IsBytes h v bs) : ∃ a c, v = .slice a bs.length c := by
  rcases hb with ⟨rfl, rfl⟩ | ⟨i, o, c, cs, own, h0, h1, h2, h3, h4⟩
  · exact ⟨none, 0, rfl⟩
  · exact ⟨_, c, h1⟩
theorem IsBytes.src {h : VH} {v : Value} {bs : List UInt8} (hb : IsBytes h v bs) : srcCells h 1 v = some (u8s bs) := by
  rcases hb with ⟨rfl, rfl⟩ | ⟨i, o, c, cs, own, h0, rfl, h2, h3, h4⟩
  · rfl
  · simp [srcCells, rowOf, h2, h3, h4]

theorem appendV_new {h : VH} {esz bytes k : Nat} {ys : List Value} (h0 : k ≠ 0) (hb : k * bytes ≤ 140737488355328) :
    appendV h esz bytes (.slice none 0 0) ys k = some (.slice (some ⟨h.n, 0, none⟩) k k, h.push (.cells ys true esz)) := by
  simp only [appendV, if_neg h0]
  rw [if_pos hb]
theorem appendV_end {h : VH} {esz bytes i o n c k : Nat} {cs ys : List Value} (h0 : k ≠ 0) (hg : h.get i = .cells cs true esz) (he : o + n * esz = cs.length) (hb : (n + k) * bytes ≤ 140737488355328) :
    appendV h esz bytes (.slice (some ⟨i, o, none⟩) n c) ys k = some (.slice (some ⟨h.n, 0, none⟩) (n + k) (n + k), (h.set i .dead).push (.cells (cs.drop o ++ ys) true esz)) := by
  simp only [appendV, if_neg h0, hg]
  rw [if_pos ⟨trivial, he, hb⟩]

theorem appendV_room {h : VH} {esz bytes i o n c k : Nat} {cs ys : List Value} (h0 : k ≠ 0) (hg : h.get i = .cells cs true esz) (he : o + n * esz ≠ cs.length) (hc : n + k ≤ c) (hf : o + n * esz + ys.length ≤ cs.length) :
    appendV h esz bytes (.slice (some ⟨i, o, none⟩) n c) ys k = some (.slice (some ⟨i, o, none⟩) (n + k) c, h.set i (.cells (wr cs (o + n * esz) ys) true esz)) := by
  simp only [appendV, if_neg h0, hg]
  rw [if_neg (fun e => he e.2.1), if_pos ⟨trivial, hc, hf⟩]

theorem appendV_over {h : VH} {esz bytes i o n c k : Nat} {cs ys : List Value} (h0 : k ≠ 0) (hg : h.get i = .cells cs true esz) (he : o + n * esz ≠ cs.length) (hc : ¬ (n + k ≤ c ∧ o + n * esz + ys.length ≤ cs.length)) (hl : o + n * esz ≤ cs.length) (hb : (n + k) * bytes ≤ 140737488355328) :
    appendV h esz bytes (.slice (some ⟨i, o, none⟩) n c) ys k = some (.slice (some ⟨h.n, 0, none⟩) (n + k) (n + k), (h.set i .dead).push (.cells ((cs.drop o).take (n * esz) ++ ys) true esz)) := by
  simp only [appendV, if_neg h0, hg]
  rw [if_neg (fun e => he e.2.1), if_neg (fun e => hc e.2), if_pos ⟨trivial, hl, hb⟩]

theorem wr_one {cs : List Value} {o : Nat} {v : Value} (h : o < cs.length) : wr cs o [v] = cs.set o v := by
  unfold wr
  rw [List.set_eq_take_append_cons_drop, if_pos h]
  simp
theorem u8s_set {bs : List UInt8} {i : Nat} {d : UInt8} : (u8s bs).set i (.int .u8 d.toNat) = u8s (bs.set i d) := by simp [u8s, List.map_set]
theorem wr_all {cs xs : List Value} (h : xs.length = cs.length) : wr cs 0 xs = xs := by simp [wr, h]
theorem cellsL_agg (a : Array Value) : cellsL (.agg a) = a.toList := rfl

/-! ### bits -/
theorem wrapN_u8 (n : Nat) : IntKind.u8.wrap (n : Int) = ((n % 256 : Nat) : Int) := by simp [IntKind.wrap, IntKind.bits, IntKind.signed]
theorem wrapB_u8 (a : BitVec 8) : IntKind.u8.wrap (a.toNat : Int) = (a.toNat : Int) := by
  have := a.isLt
  rw [wrapN_u8, Nat.mod_eq_of_lt this]
theorem bits_xor_u8 (a b : BitVec 8) : Go.bits .xor .u8 (a.toNat : Int) (b.toNat : Int) = ((a ^^^ b).toNat : Int) := by
  show IntKind.u8.wrap (((BitVec.ofInt 8 (a.toNat : Int)) ^^^ (BitVec.ofInt 8 (b.toNat : Int))).toNat : Int) = _
  rw [BitVec.ofInt_natCast, BitVec.ofInt_natCast, BitVec.ofNat_toNat, BitVec.ofNat_toNat, BitVec.setWidth_eq, BitVec.setWidth_eq, wrapB_u8]
theorem bits_and_u8 (a b : BitVec 8) : Go.bits .and .u8 (a.toNat : Int) (b.toNat : Int) = ((a &&& b).toNat : Int) := by
  show IntKind.u8.wrap (((BitVec.ofInt 8 (a.toNat : Int)) &&& (BitVec.ofInt 8 (b.toNat : Int))).toNat : Int) = _
  rw [BitVec.ofInt_natCast, BitVec.ofInt_natCast, BitVec.ofNat_toNat, BitVec.ofNat_toNat, BitVec.setWidth_eq, BitVec.setWidth_eq, wrapB_u8]
theorem bits_or_u8 (a b : BitVec 8) : Go.bits .or .u8 (a.toNat : Int) (b.toNat : Int) = ((a ||| b).toNat : Int) := by
  show IntKind.u8.wrap (((BitVec.ofInt 8 (a.toNat : Int)) ||| (BitVec.ofInt 8 (b.toNat : Int))).toNat : Int) = _
  rw [BitVec.ofInt_natCast, BitVec.ofInt_natCast, BitVec.ofNat_toNat, BitVec.ofNat_toNat, BitVec.setWidth_eq, BitVec.setWidth_eq, wrapB_u8]
theorem shr_u8 (a : BitVec 8) (n : Nat) : Int.fdiv (a.toNat : Int) (2 ^ n) = ((a >>> n).toNat : Int) := by
  rw [BitVec.toNat_ushiftRight, Nat.shiftRight_eq_div_pow]
  have : (2 : Int) ^ n = ((2 ^ n : Nat) : Int) := by simp
  rw [this, ← Int.ofNat_fdiv]
theorem shl_u8 (a : BitVec 8) (n : Nat) : IntKind.u8.wrap ((a.toNat : Int) * 2 ^ n) = ((a <<< n).toNat : Int) := by
  have : (a.toNat : Int) * 2 ^ n = ((a.toNat * 2 ^ n : Nat) : Int) := by simp
  rw [this, wrapN_u8, BitVec.toNat_shiftLeft, Nat.shiftLeft_eq]
theorem add_u8 (a b : BitVec 8) : IntKind.u8.wrap ((a.toNat : Int) + (b.toNat : Int)) = ((a + b).toNat : Int) := by
  have : (a.toNat : Int) + (b.toNat : Int) = ((a.toNat + b.toNat : Nat) : Int) := by simp
  rw [this, wrapN_u8, BitVec.toNat_add]
theorem wrapN_u32 (n : Nat) : IntKind.u32.wrap (n : Int) = ((n % 4294967296 : Nat) : Int) := by simp [IntKind.wrap, IntKind.bits, IntKind.signed]
theorem wrapB_u32 (a : BitVec 32) : IntKind.u32.wrap (a.toNat : Int) = (a.toNat : Int) := by
  have := a.isLt
  rw [wrapN_u32, Nat.mod_eq_of_lt this]
theorem bits_xor_u32 (a b : BitVec 32) : Go.bits .xor .u32 (a.toNat : Int) (b.toNat : Int) = ((a ^^^ b).toNat : Int) := by
  show IntKind.u32.wrap (((BitVec.ofInt 32 (a.toNat : Int)) ^^^ (BitVec.ofInt 32 (b.toNat : Int))).toNat : Int) = _
  rw [BitVec.ofInt_natCast, BitVec.ofInt_natCast, BitVec.ofNat_toNat, BitVec.ofNat_toNat, BitVec.setWidth_eq, BitVec.setWidth_eq, wrapB_u32]
theorem bits_and_u32 (a b : BitVec 32) : Go.bits .and .u32 (a.toNat : Int) (b.toNat : Int) = ((a &&& b).toNat : Int) := by
  show IntKind.u32.wrap (((BitVec.ofInt 32 (a.toNat : Int)) &&& (BitVec.ofInt 32 (b.toNat : Int))).toNat : Int) = _
  rw [BitVec.ofInt_natCast, BitVec.ofInt_natCast, BitVec.ofNat_toNat, BitVec.ofNat_toNat, BitVec.setWidth_eq, BitVec.setWidth_eq, wrapB_u32]
theorem bits_or_u32 (a b : BitVec 32) : Go.bits .or .u32 (a.toNat : Int) (b.toNat : Int) = ((a ||| b).toNat : Int) := by
  show IntKind.u32.wrap (((BitVec.ofInt 32 (a.toNat : Int)) ||| (BitVec.ofInt 32 (b.toNat : Int))).toNat : Int) = _
  rw [BitVec.ofInt_natCast, BitVec.ofInt_natCast, BitVec.ofNat_toNat, BitVec.ofNat_toNat, BitVec.setWidth_eq, BitVec.setWidth_eq, wrapB_u32]
theorem shr_u32 (a : BitVec 32) (n : Nat) : Int.fdiv (a.toNat : Int) (2 ^ n) = ((a >>> n).toNat : Int) := by
  rw [BitVec.toNat_ushiftRight, Nat.shiftRight_eq_div_pow]
  have : (2 : Int) ^ n = ((2 ^ n : Nat) : Int) := by simp
  rw [this, ← Int.ofNat_fdiv]
theorem shl_u32 (a : BitVec 32) (n : Nat) : IntKind.u32.wrap ((a.toNat : Int) * 2 ^ n) = ((a <<< n).toNat : Int) := by
  have : (a.toNat : Int) * 2 ^ n = ((a.toNat * 2 ^ n : Nat) : Int) := by simp
  rw [this, wrapN_u32, BitVec.toNat_shiftLeft, Nat.shiftLeft_eq]
theorem add_u32 (a b : BitVec 32) : IntKind.u32.wrap ((a.toNat : Int) + (b.toNat : Int)) = ((a + b).toNat : Int) := by
  have : (a.toNat : Int) + (b.toNat : Int) = ((a.toNat + b.toNat : Nat) : Int) := by simp
  rw [this, wrapN_u32, BitVec.toNat_add]
theorem wrapN_u64 (n : Nat) : IntKind.u64.wrap (n : Int) = ((n % 18446744073709551616 : Nat) : Int) := by simp [IntKind.wrap, IntKind.bits, IntKind.signed]
theorem wrapB_u64 (a : BitVec 64) : IntKind.u64.wrap (a.toNat : Int) = (a.toNat : Int) := by
  have := a.isLt
  rw [wrapN_u64, Nat.mod_eq_of_lt this]
theorem bits_xor_u64 (a b : BitVec 64) : Go.bits .xor .u64 (a.toNat : Int) (b.toNat : Int) = ((a ^^^ b).toNat : Int) := by
  show IntKind.u64.wrap (((BitVec.ofInt 64 (a.toNat : Int)) ^^^ (BitVec.ofInt 64 (b.toNat : Int))).toNat : Int) = _
  rw [BitVec.ofInt_natCast, BitVec.ofInt_natCast, BitVec.ofNat_toNat, BitVec.ofNat_toNat, BitVec.setWidth_eq, BitVec.setWidth_eq, wrapB_u64]
theorem bits_and_u64 (a b : BitVec 64) : Go.bits .and .u64 (a.toNat : Int) (b.toNat : Int) = ((a &&& b).toNat : Int) := by
  show IntKind.u64.wrap (((BitVec.ofInt 64 (a.toNat : Int)) &&& (BitVec.ofInt 64 (b.toNat : Int))).toNat : Int) = _
  rw [BitVec.ofInt_natCast, BitVec.ofInt_natCast, BitVec.ofNat_toNat, BitVec.ofNat_toNat, BitVec.setWidth_eq, BitVec.setWidth_eq, wrapB_u64]
theorem bits_or_u64 (a b : BitVec 64) : Go.bits .or .u64 (a.toNat : Int) (b.toNat : Int) = ((a ||| b).toNat : Int) := by
  show IntKind.u64.wrap (((BitVec.ofInt 64 (a.toNat : Int)) ||| (BitVec.ofInt 64 (b.toNat : Int))).toNat : Int) = _
  rw [BitVec.ofInt_natCast, BitVec.ofInt_natCast, BitVec.ofNat_toNat, BitVec.ofNat_toNat, BitVec.setWidth_eq, BitVec.setWidth_eq, wrapB_u64]
theorem shr_u64 (a : BitVec 64) (n : Nat) : Int.fdiv (a.toNat : Int) (2 ^ n) = ((a >>> n).toNat : Int) := by
  rw [BitVec.toNat_ushiftRight, Nat.shiftRight_eq_div_pow]
  have : (2 : Int) ^ n = ((2 ^ n : Nat) : Int) := by simp
  rw [this, ← Int.ofNat_fdiv]
theorem shl_u64 (a : BitVec 64) (n : Nat) : IntKind.u64.wrap ((a.toNat : Int) * 2 ^ n) = ((a <<< n).toNat : Int) := by
  have : (a.toNat : Int) * 2 ^ n = ((a.toNat * 2 ^ n : Nat) : Int) := by simp
  rw [this, wrapN_u64, BitVec.toNat_shiftLeft, Nat.shiftLeft_eq]
theorem add_u64 (a b : BitVec 64) : IntKind.u64.wrap ((a.toNat : Int) + (b.toNat : Int)) = ((a + b).toNat : Int) := by
  have : (a.toNat : Int) + (b.toNat : Int) = ((a.toNat + b.toNat : Nat) : Int) := by simp
  rw [this, wrapN_u64, BitVec.toNat_add]

end Go.Proofs.Ytdnkpgbggpbgaaa.Pm
