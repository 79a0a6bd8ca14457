/- SHA-256, part L: the digest of 'abc', by certificate (printed by cert.py); what must come of fixed calls. -/
import Derived.Test.YtadkbkkfpajghaaShaK
set_option linter.unusedVariables false
set_option linter.unusedSimpArgs false
set_option maxRecDepth 100000
namespace Go.Proofs.Ytadkbkkfpajghaa.Sha
open Go Go.RowKit Go.Proofs.Ytadkbkkfpajghaa.Pm Go.Proofs.Ytadkbkkfpajghaa.Fs

def abcP : List UInt8 := [97, 98, 99, 128, 0, 0, 0, 0, 0, 0, 0, 0, 0, 0, 0, 0, 0, 0, 0, 0, 0, 0, 0, 0, 0, 0, 0, 0, 0, 0, 0, 0, 0, 0, 0, 0, 0, 0, 0, 0, 0, 0, 0, 0, 0, 0, 0, 0, 0, 0, 0, 0, 0, 0, 0, 0, 0, 0, 0, 0, 0, 0, 0, 24]
def wC : List (BitVec 32) := [0x61626380#32, 0x00000000#32, 0x00000000#32, 0x00000000#32, 0x00000000#32, 0x00000000#32, 0x00000000#32, 0x00000000#32, 0x00000000#32, 0x00000000#32, 0x00000000#32, 0x00000000#32, 0x00000000#32, 0x00000000#32, 0x00000000#32, 0x00000018#32, 0x61626380#32, 0x000f0000#32, 0x7da86405#32, 0x600003c6#32, 0x3e9d7b78#32, 0x0183fc00#32, 0x12dcbfdb#32, 0xe2e2c38e#32, 0xc8215c1a#32, 0xb73679a2#32, 0xe5bc3909#32, 0x32663c5b#32, 0x9d209d67#32, 0xec8726cb#32, 0x702138a4#32, 0xd3b7973b#32, 0x93f5997f#32, 0x3b68ba73#32, 0xaff4ffc1#32, 0xf10a5c62#32, 0x0a8b3996#32, 0x72af830a#32, 0x9409e33e#32, 0x24641522#32, 0x9f47bf94#32, 0xf0a64f5a#32, 0x3e246a79#32, 0x27333ba3#32, 0x0c4763f2#32, 0x840abf27#32, 0x7a290d5d#32, 0x065c43da#32, 0xfb3e89cb#32, 0xcc7617db#32, 0xb9e66c34#32, 0xa9993667#32, 0x84badedd#32, 0xc21462bc#32, 0x1487472c#32, 0xb20f7a99#32, 0xef57b9cd#32, 0xebe6b238#32, 0x9fe3095e#32, 0x78bc8d4b#32, 0xa43fcf15#32, 0x668b2ff8#32, 0xeeaba2cc#32, 0x12b1edeb#32]
def rC : List (List (BitVec 32)) := [[0x6a09e667#32, 0xbb67ae85#32, 0x3c6ef372#32, 0xa54ff53a#32, 0x510e527f#32, 0x9b05688c#32, 0x1f83d9ab#32, 0x5be0cd19#32],
  [0x5d6aebcd#32, 0x6a09e667#32, 0xbb67ae85#32, 0x3c6ef372#32, 0xfa2a4622#32, 0x510e527f#32, 0x9b05688c#32, 0x1f83d9ab#32],
  [0x5a6ad9ad#32, 0x5d6aebcd#32, 0x6a09e667#32, 0xbb67ae85#32, 0x78ce7989#32, 0xfa2a4622#32, 0x510e527f#32, 0x9b05688c#32],
  [0xc8c347a7#32, 0x5a6ad9ad#32, 0x5d6aebcd#32, 0x6a09e667#32, 0xf92939eb#32, 0x78ce7989#32, 0xfa2a4622#32, 0x510e527f#32],
  [0xd550f666#32, 0xc8c347a7#32, 0x5a6ad9ad#32, 0x5d6aebcd#32, 0x24e00850#32, 0xf92939eb#32, 0x78ce7989#32, 0xfa2a4622#32],
  [0x04409a6a#32, 0xd550f666#32, 0xc8c347a7#32, 0x5a6ad9ad#32, 0x43ada245#32, 0x24e00850#32, 0xf92939eb#32, 0x78ce7989#32],
  [0x2b4209f5#32, 0x04409a6a#32, 0xd550f666#32, 0xc8c347a7#32, 0x714260ad#32, 0x43ada245#32, 0x24e00850#32, 0xf92939eb#32],
  [0xe5030380#32, 0x2b4209f5#32, 0x04409a6a#32, 0xd550f666#32, 0x9b27a401#32, 0x714260ad#32, 0x43ada245#32, 0x24e00850#32],
  [0x85a07b5f#32, 0xe5030380#32, 0x2b4209f5#32, 0x04409a6a#32, 0x0c657a79#32, 0x9b27a401#32, 0x714260ad#32, 0x43ada245#32],
  [0x8e04ecb9#32, 0x85a07b5f#32, 0xe5030380#32, 0x2b4209f5#32, 0x32ca2d8c#32, 0x0c657a79#32, 0x9b27a401#32, 0x714260ad#32],
  [0x8c87346b#32, 0x8e04ecb9#32, 0x85a07b5f#32, 0xe5030380#32, 0x1cc92596#32, 0x32ca2d8c#32, 0x0c657a79#32, 0x9b27a401#32],
  [0x4798a3f4#32, 0x8c87346b#32, 0x8e04ecb9#32, 0x85a07b5f#32, 0x436b23e8#32, 0x1cc92596#32, 0x32ca2d8c#32, 0x0c657a79#32],
  [0xf71fc5a9#32, 0x4798a3f4#32, 0x8c87346b#32, 0x8e04ecb9#32, 0x816fd6e9#32, 0x436b23e8#32, 0x1cc92596#32, 0x32ca2d8c#32],
  [0x87912990#32, 0xf71fc5a9#32, 0x4798a3f4#32, 0x8c87346b#32, 0x1e578218#32, 0x816fd6e9#32, 0x436b23e8#32, 0x1cc92596#32],
  [0xd932eb16#32, 0x87912990#32, 0xf71fc5a9#32, 0x4798a3f4#32, 0x745a48de#32, 0x1e578218#32, 0x816fd6e9#32, 0x436b23e8#32],
  [0xc0645fde#32, 0xd932eb16#32, 0x87912990#32, 0xf71fc5a9#32, 0x0b92f20c#32, 0x745a48de#32, 0x1e578218#32, 0x816fd6e9#32],
  [0xb0fa238e#32, 0xc0645fde#32, 0xd932eb16#32, 0x87912990#32, 0x07590dcd#32, 0x0b92f20c#32, 0x745a48de#32, 0x1e578218#32],
  [0x21da9a9b#32, 0xb0fa238e#32, 0xc0645fde#32, 0xd932eb16#32, 0x8034229c#32, 0x07590dcd#32, 0x0b92f20c#32, 0x745a48de#32],
  [0xc2fbd9d1#32, 0x21da9a9b#32, 0xb0fa238e#32, 0xc0645fde#32, 0x846ee454#32, 0x8034229c#32, 0x07590dcd#32, 0x0b92f20c#32],
  [0xfe777bbf#32, 0xc2fbd9d1#32, 0x21da9a9b#32, 0xb0fa238e#32, 0xcc899961#32, 0x846ee454#32, 0x8034229c#32, 0x07590dcd#32],
  [0xe1f20c33#32, 0xfe777bbf#32, 0xc2fbd9d1#32, 0x21da9a9b#32, 0xb0638179#32, 0xcc899961#32, 0x846ee454#32, 0x8034229c#32],
  [0x9dc68b63#32, 0xe1f20c33#32, 0xfe777bbf#32, 0xc2fbd9d1#32, 0x8ada8930#32, 0xb0638179#32, 0xcc899961#32, 0x846ee454#32],
  [0xc2606d6d#32, 0x9dc68b63#32, 0xe1f20c33#32, 0xfe777bbf#32, 0xe1257970#32, 0x8ada8930#32, 0xb0638179#32, 0xcc899961#32],
  [0xa7a3623f#32, 0xc2606d6d#32, 0x9dc68b63#32, 0xe1f20c33#32, 0x49f5114a#32, 0xe1257970#32, 0x8ada8930#32, 0xb0638179#32],
  [0xc5d53d8d#32, 0xa7a3623f#32, 0xc2606d6d#32, 0x9dc68b63#32, 0xaa47c347#32, 0x49f5114a#32, 0xe1257970#32, 0x8ada8930#32],
  [0x1c2c2838#32, 0xc5d53d8d#32, 0xa7a3623f#32, 0xc2606d6d#32, 0x2823ef91#32, 0xaa47c347#32, 0x49f5114a#32, 0xe1257970#32],
  [0xcde8037d#32, 0x1c2c2838#32, 0xc5d53d8d#32, 0xa7a3623f#32, 0x14383d8e#32, 0x2823ef91#32, 0xaa47c347#32, 0x49f5114a#32],
  [0xb62ec4bc#32, 0xcde8037d#32, 0x1c2c2838#32, 0xc5d53d8d#32, 0xc74c6516#32, 0x14383d8e#32, 0x2823ef91#32, 0xaa47c347#32],
  [0x77d37528#32, 0xb62ec4bc#32, 0xcde8037d#32, 0x1c2c2838#32, 0xedffbff8#32, 0xc74c6516#32, 0x14383d8e#32, 0x2823ef91#32],
  [0x363482c9#32, 0x77d37528#32, 0xb62ec4bc#32, 0xcde8037d#32, 0x6112a3b7#32, 0xedffbff8#32, 0xc74c6516#32, 0x14383d8e#32],
  [0xa0060b30#32, 0x363482c9#32, 0x77d37528#32, 0xb62ec4bc#32, 0xade79437#32, 0x6112a3b7#32, 0xedffbff8#32, 0xc74c6516#32],
  [0xea992a22#32, 0xa0060b30#32, 0x363482c9#32, 0x77d37528#32, 0x0109ab3a#32, 0xade79437#32, 0x6112a3b7#32, 0xedffbff8#32],
  [0x73b33bf5#32, 0xea992a22#32, 0xa0060b30#32, 0x363482c9#32, 0xba591112#32, 0x0109ab3a#32, 0xade79437#32, 0x6112a3b7#32],
  [0x98e12507#32, 0x73b33bf5#32, 0xea992a22#32, 0xa0060b30#32, 0x9cd9f5f6#32, 0xba591112#32, 0x0109ab3a#32, 0xade79437#32],
  [0xfe604df5#32, 0x98e12507#32, 0x73b33bf5#32, 0xea992a22#32, 0x59249dd3#32, 0x9cd9f5f6#32, 0xba591112#32, 0x0109ab3a#32],
  [0xa9a7738c#32, 0xfe604df5#32, 0x98e12507#32, 0x73b33bf5#32, 0x085f3833#32, 0x59249dd3#32, 0x9cd9f5f6#32, 0xba591112#32],
  [0x65a0cfe4#32, 0xa9a7738c#32, 0xfe604df5#32, 0x98e12507#32, 0xf4b002d6#32, 0x085f3833#32, 0x59249dd3#32, 0x9cd9f5f6#32],
  [0x41a65cb1#32, 0x65a0cfe4#32, 0xa9a7738c#32, 0xfe604df5#32, 0x0772a26b#32, 0xf4b002d6#32, 0x085f3833#32, 0x59249dd3#32],
  [0x34df1604#32, 0x41a65cb1#32, 0x65a0cfe4#32, 0xa9a7738c#32, 0xa507a53d#32, 0x0772a26b#32, 0xf4b002d6#32, 0x085f3833#32],
  [0x6dc57a8a#32, 0x34df1604#32, 0x41a65cb1#32, 0x65a0cfe4#32, 0xf0781bc8#32, 0xa507a53d#32, 0x0772a26b#32, 0xf4b002d6#32],
  [0x79ea687a#32, 0x6dc57a8a#32, 0x34df1604#32, 0x41a65cb1#32, 0x1efbc0a0#32, 0xf0781bc8#32, 0xa507a53d#32, 0x0772a26b#32],
  [0xd6670766#32, 0x79ea687a#32, 0x6dc57a8a#32, 0x34df1604#32, 0x26352d63#32, 0x1efbc0a0#32, 0xf0781bc8#32, 0xa507a53d#32],
  [0xdf46652f#32, 0xd6670766#32, 0x79ea687a#32, 0x6dc57a8a#32, 0x838b2711#32, 0x26352d63#32, 0x1efbc0a0#32, 0xf0781bc8#32],
  [0x17aa0dfe#32, 0xdf46652f#32, 0xd6670766#32, 0x79ea687a#32, 0xdecd4715#32, 0x838b2711#32, 0x26352d63#32, 0x1efbc0a0#32],
  [0x9d4baf93#32, 0x17aa0dfe#32, 0xdf46652f#32, 0xd6670766#32, 0xfda24c2e#32, 0xdecd4715#32, 0x838b2711#32, 0x26352d63#32],
  [0x26628815#32, 0x9d4baf93#32, 0x17aa0dfe#32, 0xdf46652f#32, 0xa80f11f0#32, 0xfda24c2e#32, 0xdecd4715#32, 0x838b2711#32],
  [0x72ab4b91#32, 0x26628815#32, 0x9d4baf93#32, 0x17aa0dfe#32, 0xb7755da1#32, 0xa80f11f0#32, 0xfda24c2e#32, 0xdecd4715#32],
  [0xa14c14b0#32, 0x72ab4b91#32, 0x26628815#32, 0x9d4baf93#32, 0xd57b94a9#32, 0xb7755da1#32, 0xa80f11f0#32, 0xfda24c2e#32],
  [0x4172328d#32, 0xa14c14b0#32, 0x72ab4b91#32, 0x26628815#32, 0xfecf0bc6#32, 0xd57b94a9#32, 0xb7755da1#32, 0xa80f11f0#32],
  [0x05757ceb#32, 0x4172328d#32, 0xa14c14b0#32, 0x72ab4b91#32, 0xbd714038#32, 0xfecf0bc6#32, 0xd57b94a9#32, 0xb7755da1#32],
  [0xf11bfaa8#32, 0x05757ceb#32, 0x4172328d#32, 0xa14c14b0#32, 0x6e5c390c#32, 0xbd714038#32, 0xfecf0bc6#32, 0xd57b94a9#32],
  [0x7a0508a1#32, 0xf11bfaa8#32, 0x05757ceb#32, 0x4172328d#32, 0x52f1ccf7#32, 0x6e5c390c#32, 0xbd714038#32, 0xfecf0bc6#32],
  [0x886e7a22#32, 0x7a0508a1#32, 0xf11bfaa8#32, 0x05757ceb#32, 0x49231c1e#32, 0x52f1ccf7#32, 0x6e5c390c#32, 0xbd714038#32],
  [0x101fd28f#32, 0x886e7a22#32, 0x7a0508a1#32, 0xf11bfaa8#32, 0x529e7d00#32, 0x49231c1e#32, 0x52f1ccf7#32, 0x6e5c390c#32],
  [0xf5702fdb#32, 0x101fd28f#32, 0x886e7a22#32, 0x7a0508a1#32, 0x9f4787c3#32, 0x529e7d00#32, 0x49231c1e#32, 0x52f1ccf7#32],
  [0x3ec45cdb#32, 0xf5702fdb#32, 0x101fd28f#32, 0x886e7a22#32, 0xe50e1b4f#32, 0x9f4787c3#32, 0x529e7d00#32, 0x49231c1e#32],
  [0x38cc9913#32, 0x3ec45cdb#32, 0xf5702fdb#32, 0x101fd28f#32, 0x54cb266b#32, 0xe50e1b4f#32, 0x9f4787c3#32, 0x529e7d00#32],
  [0xfcd1887b#32, 0x38cc9913#32, 0x3ec45cdb#32, 0xf5702fdb#32, 0x9b5e906c#32, 0x54cb266b#32, 0xe50e1b4f#32, 0x9f4787c3#32],
  [0xc062d46f#32, 0xfcd1887b#32, 0x38cc9913#32, 0x3ec45cdb#32, 0x7e44008e#32, 0x9b5e906c#32, 0x54cb266b#32, 0xe50e1b4f#32],
  [0xffb70472#32, 0xc062d46f#32, 0xfcd1887b#32, 0x38cc9913#32, 0x6d83bfc6#32, 0x7e44008e#32, 0x9b5e906c#32, 0x54cb266b#32],
  [0xb6ae8fff#32, 0xffb70472#32, 0xc062d46f#32, 0xfcd1887b#32, 0xb21bad3d#32, 0x6d83bfc6#32, 0x7e44008e#32, 0x9b5e906c#32],
  [0xb85e2ce9#32, 0xb6ae8fff#32, 0xffb70472#32, 0xc062d46f#32, 0x961f4894#32, 0xb21bad3d#32, 0x6d83bfc6#32, 0x7e44008e#32],
  [0x04d24d6c#32, 0xb85e2ce9#32, 0xb6ae8fff#32, 0xffb70472#32, 0x948d25b6#32, 0x961f4894#32, 0xb21bad3d#32, 0x6d83bfc6#32],
  [0xd39a2165#32, 0x04d24d6c#32, 0xb85e2ce9#32, 0xb6ae8fff#32, 0xfb121210#32, 0x948d25b6#32, 0x961f4894#32, 0xb21bad3d#32],
  [0x506e3058#32, 0xd39a2165#32, 0x04d24d6c#32, 0xb85e2ce9#32, 0x5ef50f24#32, 0xfb121210#32, 0x948d25b6#32, 0x961f4894#32]]
def wAt (i : Nat) : BitVec 32 := wC.getD i 0#32
def stL (l : List (BitVec 32)) : St := ⟨l.getD 0 0#32, l.getD 1 0#32, l.getD 2 0#32, l.getD 3 0#32, l.getD 4 0#32, l.getD 5 0#32, l.getD 6 0#32, l.getD 7 0#32⟩
def rAt (i : Nat) : St := stL (rC.getD i [])
theorem abc_pad : padS [97, 98, 99] = abcP := by decide +kernel
theorem w_lo : ∀ i : Fin 16, word abcP i.val 4 = wAt i.val := by decide +kernel
theorem w_hi : ∀ j : Fin 48, wAt j.val + wAt (j.val + 9) + sig0 (wAt (j.val + 1)) + sig1 (wAt (j.val + 14)) = wAt (j.val + 16) := by decide +kernel
theorem w_all : ∀ i, i < 64 → sched abcP i = wAt i := by
  intro i
  induction i using Nat.strongRecOn with
  | ind i ih =>
    intro h
    by_cases hl : i < 16
    · rw [sched_lo hl]; exact w_lo ⟨i, hl⟩
    · rw [sched_hi (by omega), ih _ (by omega) (by omega), ih _ (by omega) (by omega), ih _ (by omega) (by omega), ih _ (by omega) (by omega)]
      have := w_hi ⟨i - 16, by omega⟩
      simp only [] at this
      rw [show i - 16 + 9 = i - 7 by omega, show i - 16 + 1 = i - 15 by omega, show i - 16 + 14 = i - 2 by omega, show i - 16 + 16 = i by omega] at this
      exact this
theorem list_inj {s t : St} (h : s.list = t.list) : s = t := by
  cases s; cases t
  simp only [St.list, List.cons.injEq, and_true] at h
  obtain ⟨rfl, rfl, rfl, rfl, rfl, rfl, rfl, rfl⟩ := h
  rfl
theorem r_step : ∀ n : Fin 64, (round (kAt n.val) (wAt n.val) (rAt n.val)).list = (rAt (n.val + 1)).list := by decide +kernel
theorem r_all : ∀ n, n ≤ 64 → rounds abcP begin0 n = rAt n
  | 0, _ => list_inj (by decide +kernel)
  | n + 1, h => by
    rw [rounds, r_all n (by omega), w_all n (by omega)]
    exact list_inj (r_step ⟨n, by omega⟩)
def abcD : List UInt8 := [186, 120, 22, 191, 143, 1, 207, 234, 65, 65, 64, 222, 93, 174, 34, 35, 176, 3, 97, 163, 150, 23, 122, 156, 180, 16, 255, 97, 242, 0, 21, 173]
theorem abc_sha : shaS [97, 98, 99] = abcD := by
  unfold shaS
  rw [abc_pad]
  show bytesS (blockS abcP begin0) = abcD
  unfold blockS
  rw [r_all 64 (by omega)]
  decide +kernel
def abcT : List UInt8 := [98, 97, 55, 56, 49, 54, 98, 102, 56, 102, 48, 49, 99, 102, 101, 97, 52, 49, 52, 49, 52, 48, 100, 101, 53, 100, 97, 101, 50, 50, 50, 51, 98, 48, 48, 51, 54, 49, 97, 51, 57, 54, 49, 55, 55, 97, 57, 99, 98, 52, 49, 48, 102, 102, 54, 49, 102, 50, 48, 48, 49, 53, 97, 100]
theorem abc_hex : hexS abcD = abcT := by decide +kernel
set_option maxHeartbeats 1000000 in
theorem known_ok' {h : VH} : PCalls Try.prog f_law03_known [] h (fun u _ => u = .bool true) := by
  refine PCalls_of_pw st_law03_known (by simp [n_law03_known]) ?_
  rw [b_law03_known]
  have hf : fillC [.int .u8 0, .int .u8 0, .int .u8 0] [(0, 1, .int .u8 97), (1, 1, .int .u8 98), (2, 1, .int .u8 99)] = some (u8s [97, 98, 99]) := rfl
  have hb : IsBytes (h.push (.cells (u8s [97, 98, 99]) true 1)) (.slice (some ⟨h.n, 0, none⟩) 3 3) [97, 98, 99] := by
    refine BytesAt.is (bs := [97, 98, 99]) (by simp) (by simp) ⟨u8s [97, 98, 99], true, VH.get_push_new _ _, by simp [u8s], by simp [u8s]⟩
  simp (disch := first | omega | (simp only [VH.n_push, VH.n_set]; done) | (simp only [VH.n_push, VH.n_set]; omega)) [B_law03_known, pun, pbinS, -BitVec.toNat_or, -BitVec.toNat_xor, -BitVec.toNat_add, -BitVec.toNat_and, -BitVec.toNat_not, -BitVec.toNat_shiftLeft, -BitVec.toNat_ushiftRight, pbin, pbinI, i64_small, IntKind.bits, hf, u8s_all, pw_skip, pw_ops, pw_quiet, pw_seq, pw_cond, pw_block, pw_exit, pw_ret, pw_scope, pw_label, kSeq_normal, kSeq_ret, kSeq_exit, kBlock_normal, kBlock_ret, kBlock_exit, kScope_normal, kScope_ret, kScope_exit, kLoop_normal, kLoop_ret, kLoop_exit, kCond_true, kCond_false, kCond_dec, pwOps_nil, pwOps_call, pwOps_guard, kStep_some, kCall_at, pwQ_nil, pwQ_call, pwQ_guard, kQ_some, putS_some, putS_none, upd_apply, ev_t, ev_k, isB_bool, isB_undef, s0_apply, pstep, pwO_mov, pwO_pick, pwO_nilck, pwO_bin, pwO_binB, pwO_eqNil, pwO_un, pwO_convI, pwO_convS, pwO_alloc, pwO_build, pwO_load, pwO_store, pwO_fieldAddr, pwO_field, pwO_idxS, pwO_idxA, pwO_idxV, pwO_strAt, pwO_lenStr, pwO_lenS, pwO_lenC, pwO_slS, pwO_slA, pwO_slStr, pwO_extract, pwO_mkFunc, pwO_mkIface, pwO_append, pwO_appendStr, pwO_toBytes, pwO_ofB, pwO_box, pwO_row, pwO_minmax, pwO_eqV, pwO_sameB, pwR_mov, pwR_pick, pwR_nilck, pwR_bin, pwR_binB, pwR_eqNil, pwR_un, pwR_convI, pwR_convS, pwR_build, pwR_load, pwR_fieldAddr, pwR_field, pwR_idxS, pwR_idxA, pwR_idxV, pwR_strAt, pwR_lenStr, pwR_lenS, pwR_lenC, pwR_slS, pwR_slA, pwR_slStr, pwR_extract, pwR_mkFunc, pwR_mkIface, pwR_ofB, pwR_minmax, pwR_eqV, ret_r, ret_n, kRet_some, resV0, resV1, resV2, resV3, resV4, VH.get_push_new, VH.get_set_same, VH.n_push, VH.n_set, cellsL_agg, cellsL_int, cellsL_bool, cellsL_string, cellsL_slice, cellsL_pointer, cellsL_map, pw_draw, pwD_nil, pwD_cons, kD_nil, kD_cons, evalOK_plain, evalOK_guard, kEv_some, dstIs_some, dstIs_none, pw_goto, pw_scopeL, kSeq_goto, kBlock_goto, kLoop_goto, kScopeL_normal, kScopeL_ret, kScopeL_exit, kScopeL_goto, pwOps_callv, kCallv_fn, kCallv_yld, pwOps_nextM, pwO_makeMap, pwO_lookup, pwR_lookup, pwO_mapSet, pwO_mapDel, pwO_lenM, pwR_lenM, pwO_mapEntry, pwO_entrySet, pwO_rangeS, pwO_nextS, pwO_rangeM, pwO_entryM, pwR_entryM, pwO_copyV, pwO_makeSl, pwO_asrt, pwR_asrt, kStep_if, kStep_dif, kQ_if, kQ_dif, kEv_if, bound_none, bound_some, toNat_add', toNat_sub', toNat_mul', kLoopN_normal, kLoopN_ret, kLoopN_exit, kLoopN_goto, Option.map_some, Option.map_none, loadAt_obj, storeAt_obj, rowOf_obj, eszIs_obj, eszObj_cells, loadObj_tab, storeObj_tab_int, VH.get_set_ne, VH.get_push_lt, VH.set_set, tab_length, List.getElem?_cons_zero, List.getElem?_cons_succ, List.length_cons, List.length_nil, oneC_int, oneC_bool, oneC_string, oneC_slice, oneC_pointer, oneC_map, srcCells_at, srcCells_nil, VH.get_push_at, isNilV, pw_drawT, pwT_nil, pwT_step, pwT_alt, kT_nil, kT_cons]
  refine (sum_ok hb (by simp)).mono ?_
  rintro u h' ⟨rfl, rfl⟩
  rw [abc_sha]
  simp (disch := first | omega | (simp only [VH.n_push, VH.n_set]; done) | (simp only [VH.n_push, VH.n_set]; omega)) [pun, pbinS, -BitVec.toNat_or, -BitVec.toNat_xor, -BitVec.toNat_add, -BitVec.toNat_and, -BitVec.toNat_not, -BitVec.toNat_shiftLeft, -BitVec.toNat_ushiftRight, pbin, pbinI, i64_small, IntKind.bits, pw_skip, pw_ops, pw_quiet, pw_seq, pw_cond, pw_block, pw_exit, pw_ret, pw_scope, pw_label, kSeq_normal, kSeq_ret, kSeq_exit, kBlock_normal, kBlock_ret, kBlock_exit, kScope_normal, kScope_ret, kScope_exit, kLoop_normal, kLoop_ret, kLoop_exit, kCond_true, kCond_false, kCond_dec, pwOps_nil, pwOps_call, pwOps_guard, kStep_some, kCall_at, pwQ_nil, pwQ_call, pwQ_guard, kQ_some, putS_some, putS_none, upd_apply, ev_t, ev_k, isB_bool, isB_undef, s0_apply, pstep, pwO_mov, pwO_pick, pwO_nilck, pwO_bin, pwO_binB, pwO_eqNil, pwO_un, pwO_convI, pwO_convS, pwO_alloc, pwO_build, pwO_load, pwO_store, pwO_fieldAddr, pwO_field, pwO_idxS, pwO_idxA, pwO_idxV, pwO_strAt, pwO_lenStr, pwO_lenS, pwO_lenC, pwO_slS, pwO_slA, pwO_slStr, pwO_extract, pwO_mkFunc, pwO_mkIface, pwO_append, pwO_appendStr, pwO_toBytes, pwO_ofB, pwO_box, pwO_row, pwO_minmax, pwO_eqV, pwO_sameB, pwR_mov, pwR_pick, pwR_nilck, pwR_bin, pwR_binB, pwR_eqNil, pwR_un, pwR_convI, pwR_convS, pwR_build, pwR_load, pwR_fieldAddr, pwR_field, pwR_idxS, pwR_idxA, pwR_idxV, pwR_strAt, pwR_lenStr, pwR_lenS, pwR_lenC, pwR_slS, pwR_slA, pwR_slStr, pwR_extract, pwR_mkFunc, pwR_mkIface, pwR_ofB, pwR_minmax, pwR_eqV, ret_r, ret_n, kRet_some, resV0, resV1, resV2, resV3, resV4, VH.get_push_new, VH.get_set_same, VH.n_push, VH.n_set, cellsL_agg, cellsL_int, cellsL_bool, cellsL_string, cellsL_slice, cellsL_pointer, cellsL_map, pw_draw, pwD_nil, pwD_cons, kD_nil, kD_cons, evalOK_plain, evalOK_guard, kEv_some, dstIs_some, dstIs_none, pw_goto, pw_scopeL, kSeq_goto, kBlock_goto, kLoop_goto, kScopeL_normal, kScopeL_ret, kScopeL_exit, kScopeL_goto, pwOps_callv, kCallv_fn, kCallv_yld, pwOps_nextM, pwO_makeMap, pwO_lookup, pwR_lookup, pwO_mapSet, pwO_mapDel, pwO_lenM, pwR_lenM, pwO_mapEntry, pwO_entrySet, pwO_rangeS, pwO_nextS, pwO_rangeM, pwO_entryM, pwR_entryM, pwO_copyV, pwO_makeSl, pwO_asrt, pwR_asrt, kStep_if, kStep_dif, kQ_if, kQ_dif, kEv_if, bound_none, bound_some, toNat_add', toNat_sub', toNat_mul', kLoopN_normal, kLoopN_ret, kLoopN_exit, kLoopN_goto, Option.map_some, Option.map_none, loadAt_obj, storeAt_obj, rowOf_obj, eszIs_obj, eszObj_cells, loadObj_tab, storeObj_tab_int, VH.get_set_ne, VH.get_push_lt, VH.set_set, tab_length, List.getElem?_cons_zero, List.getElem?_cons_succ, List.length_cons, List.length_nil, oneC_int, oneC_bool, oneC_string, oneC_slice, oneC_pointer, oneC_map, srcCells_at, srcCells_nil, VH.get_push_at, isNilV, pw_drawT, pwT_nil, pwT_step, pwT_alt, kT_nil, kT_cons]
  refine (hex_ok rfl).mono ?_
  rintro u h' ⟨rfl, rfl⟩
  rw [abc_hex]
  simp (disch := first | omega | (simp only [VH.n_push, VH.n_set]; done) | (simp only [VH.n_push, VH.n_set]; omega)) [pun, pbinS, -BitVec.toNat_or, -BitVec.toNat_xor, -BitVec.toNat_add, -BitVec.toNat_and, -BitVec.toNat_not, -BitVec.toNat_shiftLeft, -BitVec.toNat_ushiftRight, pbin, pbinI, i64_small, IntKind.bits, strB_toList, abcT, r_law03_known, ret_r, resV, resL, resOne, pw_skip, pw_ops, pw_quiet, pw_seq, pw_cond, pw_block, pw_exit, pw_ret, pw_scope, pw_label, kSeq_normal, kSeq_ret, kSeq_exit, kBlock_normal, kBlock_ret, kBlock_exit, kScope_normal, kScope_ret, kScope_exit, kLoop_normal, kLoop_ret, kLoop_exit, kCond_true, kCond_false, kCond_dec, pwOps_nil, pwOps_call, pwOps_guard, kStep_some, kCall_at, pwQ_nil, pwQ_call, pwQ_guard, kQ_some, putS_some, putS_none, upd_apply, ev_t, ev_k, isB_bool, isB_undef, s0_apply, pstep, pwO_mov, pwO_pick, pwO_nilck, pwO_bin, pwO_binB, pwO_eqNil, pwO_un, pwO_convI, pwO_convS, pwO_alloc, pwO_build, pwO_load, pwO_store, pwO_fieldAddr, pwO_field, pwO_idxS, pwO_idxA, pwO_idxV, pwO_strAt, pwO_lenStr, pwO_lenS, pwO_lenC, pwO_slS, pwO_slA, pwO_slStr, pwO_extract, pwO_mkFunc, pwO_mkIface, pwO_append, pwO_appendStr, pwO_toBytes, pwO_ofB, pwO_box, pwO_row, pwO_minmax, pwO_eqV, pwO_sameB, pwR_mov, pwR_pick, pwR_nilck, pwR_bin, pwR_binB, pwR_eqNil, pwR_un, pwR_convI, pwR_convS, pwR_build, pwR_load, pwR_fieldAddr, pwR_field, pwR_idxS, pwR_idxA, pwR_idxV, pwR_strAt, pwR_lenStr, pwR_lenS, pwR_lenC, pwR_slS, pwR_slA, pwR_slStr, pwR_extract, pwR_mkFunc, pwR_mkIface, pwR_ofB, pwR_minmax, pwR_eqV, ret_r, ret_n, kRet_some, resV0, resV1, resV2, resV3, resV4, VH.get_push_new, VH.get_set_same, VH.n_push, VH.n_set, cellsL_agg, cellsL_int, cellsL_bool, cellsL_string, cellsL_slice, cellsL_pointer, cellsL_map, pw_draw, pwD_nil, pwD_cons, kD_nil, kD_cons, evalOK_plain, evalOK_guard, kEv_some, dstIs_some, dstIs_none, pw_goto, pw_scopeL, kSeq_goto, kBlock_goto, kLoop_goto, kScopeL_normal, kScopeL_ret, kScopeL_exit, kScopeL_goto, pwOps_callv, kCallv_fn, kCallv_yld, pwOps_nextM, pwO_makeMap, pwO_lookup, pwR_lookup, pwO_mapSet, pwO_mapDel, pwO_lenM, pwR_lenM, pwO_mapEntry, pwO_entrySet, pwO_rangeS, pwO_nextS, pwO_rangeM, pwO_entryM, pwR_entryM, pwO_copyV, pwO_makeSl, pwO_asrt, pwR_asrt, kStep_if, kStep_dif, kQ_if, kQ_dif, kEv_if, bound_none, bound_some, toNat_add', toNat_sub', toNat_mul', kLoopN_normal, kLoopN_ret, kLoopN_exit, kLoopN_goto, Option.map_some, Option.map_none, loadAt_obj, storeAt_obj, rowOf_obj, eszIs_obj, eszObj_cells, loadObj_tab, storeObj_tab_int, VH.get_set_ne, VH.get_push_lt, VH.set_set, tab_length, List.getElem?_cons_zero, List.getElem?_cons_succ, List.length_cons, List.length_nil, oneC_int, oneC_bool, oneC_string, oneC_slice, oneC_pointer, oneC_map, srcCells_at, srcCells_nil, VH.get_push_at, isNilV, pw_drawT, pwT_nil, pwT_step, pwT_alt, kT_nil, kT_cons]
theorem known_ok (h : VH) : PCalls Try.prog f_law03_known [] h (fun u h' => u = .bool true ∧ h' = h) :=
  ((known_ok' (h := h.ro)).mono fun u _ e => by subst e; exact ⟨rfl, rfl⟩).drop
end Go.Proofs.Ytadkbkkfpajghaa.Sha
