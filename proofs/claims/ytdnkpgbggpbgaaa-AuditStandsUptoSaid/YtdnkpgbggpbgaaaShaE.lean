/- SHA-256, part E: blocks one behind the other; the reference's states. -/
import Derived.Test.YtdnkpgbggpbgaaaShaD
import Derived.Test.YtdnkpgbggpbgaaaPmZa
set_option linter.unusedVariables false
set_option linter.unusedSimpArgs false
set_option maxRecDepth 100000
namespace Go.Proofs.Ytdnkpgbggpbgaaa.Sha
open Go Go.RowKit Go.Proofs.Ytdnkpgbggpbgaaa.Pm Go.Proofs.Ytdnkpgbggpbgaaa.Fs


theorem word_congr {bs cs : List UInt8} (h : ∀ k, k < 64 → bs.getD k 0 = cs.getD k 0) {i : Nat} (hi : i < 16) : ∀ m, m ≤ 4 → word bs i m = word cs i m
  | 0, _ => rfl
  | m + 1, hm => by simp only [word]; rw [word_congr h hi m (by omega), h (4 * i + m) (by omega)]
theorem sched_congr {bs cs : List UInt8} (h : ∀ k, k < 64 → bs.getD k 0 = cs.getD k 0) (i : Nat) : sched bs i = sched cs i := by
  induction i using Nat.strongRecOn with
  | _ i ih =>
    by_cases hi : i < 16
    · rw [sched_lo hi, sched_lo hi, word_congr h hi 4 (Nat.le_refl _)]
    · rw [sched_hi (bs := bs) (i := i) (by omega), sched_hi (bs := cs) (i := i) (by omega), ih _ (by omega), ih _ (by omega), ih _ (by omega), ih _ (by omega)]
theorem rounds_congr {bs cs : List UInt8} (h : ∀ k, k < 64 → bs.getD k 0 = cs.getD k 0) (s : St) : ∀ n, rounds bs s n = rounds cs s n
  | 0 => rfl
  | n + 1 => by simp only [rounds]; rw [rounds_congr h s n, sched_congr h]
theorem blockS_congr {bs cs : List UInt8} (h : ∀ k, k < 64 → bs.getD k 0 = cs.getD k 0) (s : St) : blockS bs s = blockS cs s := by
  unfold blockS
  rw [rounds_congr h]
theorem blockS_take (bs : List UInt8) (s : St) : blockS (bs.take 64) s = blockS bs s :=
  blockS_congr (fun k hk => by simp only [List.getD_eq_getElem?_getD, List.getElem?_take, if_pos hk]) s
theorem blockS_append {bs : List UInt8} (cs : List UInt8) (h : 64 ≤ bs.length) (s : St) : blockS (bs ++ cs) s = blockS bs s :=
  blockS_congr (fun k hk => by simp only [List.getD_eq_getElem?_getD]; rw [List.getElem?_append_left (by omega)]) s

/-- the state behind n blocks. -/
def foldB (bs : List UInt8) : Nat → St → St
  | 0, s => s
  | n + 1, s => blockS (bs.drop (64 * n)) (foldB bs n s)
theorem foldB_append {bs : List UInt8} (cs : List UInt8) (s : St) : ∀ n, 64 * n ≤ bs.length → foldB (bs ++ cs) n s = foldB bs n s
  | 0, _ => rfl
  | n + 1, h => by
    simp only [foldB]
    rw [foldB_append cs s n (by omega), List.drop_append_of_le_length (by omega), blockS_append _ (by simp; omega)]
theorem foldB_add (bs : List UInt8) (s : St) (m : Nat) : ∀ n, foldB bs (m + n) s = foldB (bs.drop (64 * m)) n (foldB bs m s)
  | 0 => rfl
  | n + 1 => by
    show blockS (bs.drop (64 * (m + n))) (foldB bs (m + n) s) = blockS ((bs.drop (64 * m)).drop (64 * n)) (foldB (bs.drop (64 * m)) n (foldB bs m s))
    rw [foldB_add bs s m n, List.drop_drop]
    congr 2
    omega
/-- the states behind the first n blocks. -/
def pastS (bs : List UInt8) (n : Nat) : List St := (List.range n).map fun k => foldB bs (k + 1) begin0
theorem pastS_succ (bs : List UInt8) (n : Nat) : pastS bs (n + 1) = pastS bs n ++ [foldB bs (n + 1) begin0] := by simp [pastS, List.range_succ]
@[simp] theorem pastS_len (bs : List UInt8) (n : Nat) : (pastS bs n).length = n := by simp [pastS]
def stCells (l : List St) : List Value := (l.map fun s => u32s s.list).flatten
theorem stCells_snoc (l : List St) (s : St) : stCells (l ++ [s]) = stCells l ++ u32s s.list := by simp [stCells]
theorem stCells_len (l : List St) : (stCells l).length = l.length * 8 := by
  induction l with
  | nil => rfl
  | cons s l ih =>
    show (u32s s.list ++ stCells l).length = _
    rw [List.length_append, ih, u32s_length, St.list_len, List.length_cons]
    omega
theorem stCells_at {l : List St} {k : Nat} (h : k < l.length) : ((stCells l).drop (k * 8)).take 8 = u32s (l[k]).list := by
  induction l generalizing k with
  | nil => simp at h
  | cons s l ih =>
    show ((u32s s.list ++ stCells l).drop (k * 8)).take 8 = _
    cases k with
    | zero => rw [Nat.zero_mul, List.drop_zero, List.take_left' (by rw [u32s_length, St.list_len])]; rfl
    | succ k =>
      rw [List.drop_append, List.drop_of_length_le (by rw [u32s_length, St.list_len]; omega), List.nil_append, u32s_length, St.list_len, show (k + 1) * 8 - 8 = k * 8 by omega]
      exact ih (by simpa using h)

theorem hl8 (s : St) {ow : Bool} {e : Nat} : loadObj (.cells (u32s s.list) ow e) 0 (some 8) = some s.val := rfl
theorem hs8 (s : St) : storeObj (.cells [.int .u32 0, .int .u32 0, .int .u32 0, .int .u32 0, .int .u32 0, .int .u32 0, .int .u32 0, .int .u32 0] true 1) 0 8 s.val = some (.cells (u32s s.list) true 1) := storeObj_all rfl rfl (u32s_one _)
theorem hs8' (s t : St) : storeObj (.cells (u32s t.list) true 1) 0 8 s.val = some (.cells (u32s s.list) true 1) := storeObj_all rfl rfl (u32s_one _)
theorem rowObj_st (s : St) {ow : Bool} {e : Nat} : rowObj (.cells (u32s s.list) ow e) 0 8 = some (u32s s.list) := rfl
theorem fill_st (s : St) : fillC [.int .u32 0, .int .u32 0, .int .u32 0, .int .u32 0, .int .u32 0, .int .u32 0, .int .u32 0, .int .u32 0] [(0, 8, s.val)] = some (u32s s.list) := fillC_whole rfl rfl
theorem zeros64' : [Value.int .u32 0, .int .u32 0, .int .u32 0, .int .u32 0, .int .u32 0, .int .u32 0, .int .u32 0, .int .u32 0, .int .u32 0, .int .u32 0, .int .u32 0, .int .u32 0, .int .u32 0, .int .u32 0, .int .u32 0, .int .u32 0, .int .u32 0, .int .u32 0, .int .u32 0, .int .u32 0, .int .u32 0, .int .u32 0, .int .u32 0, .int .u32 0, .int .u32 0, .int .u32 0, .int .u32 0, .int .u32 0, .int .u32 0, .int .u32 0, .int .u32 0, .int .u32 0, .int .u32 0, .int .u32 0, .int .u32 0, .int .u32 0, .int .u32 0, .int .u32 0, .int .u32 0, .int .u32 0, .int .u32 0, .int .u32 0, .int .u32 0, .int .u32 0, .int .u32 0, .int .u32 0, .int .u32 0, .int .u32 0, .int .u32 0, .int .u32 0, .int .u32 0, .int .u32 0, .int .u32 0, .int .u32 0, .int .u32 0, .int .u32 0, .int .u32 0, .int .u32 0, .int .u32 0, .int .u32 0, .int .u32 0, .int .u32 0, .int .u32 0, .int .u32 0] = tab 64 (fun _ => .int .u32 0) := rfl
theorem kl64 {ow : Bool} {e : Nat} : loadObj (.cells (u32s kT) ow e) 0 (some 64) = some kV := by
  rw [loadObj_all (by rw [u32s_length, kT_len]), kV]
theorem ks64 {f : Nat → Value} : storeObj (.cells (tab 64 f) true 1) 0 64 kV = some (.cells (u32s kT) true 1) := by
  have := storeObj_all (cs := tab 64 f) (e := 1) (n := 64) (a := (u32s kT).toArray) (by simp [kT_len]) (by simp) (by simpa using u32s_one kT)
  rw [kV, this]

theorem begin_lit : Value.agg #[.int .u32 1779033703, .int .u32 3144134277, .int .u32 1013904242, .int .u32 2773480762, .int .u32 1359893119, .int .u32 2600822924, .int .u32 528734635, .int .u32 1541459225] = begin0.val := rfl

set_option maxHeartbeats 2000000 in
theorem states_ok {h : VH} {v : Value} {bs : List UInt8} (hb : IsBytes h v bs) (hlen : bs.length ≤ 1099511627776) : PCalls Try.prog f_ref03_States [v] h (fun u h' => OwnSl h' 8 u (stCells (pastS bs (bs.length / 64))) (bs.length / 64) ∧ Fr h h' [] ∧ ∀ i ∈ idOf u, h.n ≤ i) := by
  refine PCalls_of_pw st_ref03_States (by simp [n_ref03_States]) ?_
  rw [b_ref03_States]
  simp (disch := omega) [B_ref03_States, -BitVec.toNat_or, -BitVec.toNat_xor, -BitVec.toNat_add, -BitVec.toNat_and, -BitVec.toNat_not, -BitVec.toNat_shiftLeft, -BitVec.toNat_ushiftRight, pbin, pbinI, i64_small, IntKind.bits, fillC, wr, begin_lit, hs8]
  refine (rks_ok _).mono ?_
  rintro u h' ⟨rfl, rfl⟩
  simp (disch := first|omega|(simp only [np,ns];try omega)) [-BitVec.toNat_or, -BitVec.toNat_xor, -BitVec.toNat_add, -BitVec.toNat_and, -BitVec.toNat_not, -BitVec.toNat_shiftLeft, -BitVec.toNat_ushiftRight, pbin, pbinI, i64_small, IntKind.bits, zeros64', ks64]
  obtain ⟨g0, hg0⟩ : ∃ g0, g0 = (((h.push (.cells [.int .u32 0, .int .u32 0, .int .u32 0, .int .u32 0, .int .u32 0, .int .u32 0, .int .u32 0, .int .u32 0] true 1)).set h.n (.cells (u32s begin0.list) true 1)).push (.cells (tab 64 (fun _ => .int .u32 0)) true 1)).set (h.n + 1) (.cells (u32s kT) true 1) := ⟨_, rfl⟩
  have h0a : g0.get h.n = .cells (u32s begin0.list) true 1 := by rw [hg0, VH.get_set_ne _ _ (by omega), VH.get_push_lt _ _ (by simp), VH.get_set_same]
  have h0b : g0.get (h.n + 1) = .cells (u32s kT) true 1 := by rw [hg0, VH.get_set_same]
  have h0n : g0.n = h.n + 2 := by rw [hg0]; simp
  have h0l : ∀ j, j < h.n → g0.get j = h.get j := fun j hj => by rw [hg0, VH.get_set_ne _ _ (by omega), VH.get_push_lt _ _ (by simp; omega), VH.get_set_ne _ _ (by omega), VH.get_push_lt _ _ hj]
  rw [← hg0]
  obtain ⟨va, vc, hv⟩ := hb.shape
  refine pw_loopN (fun n s g => s 6 = .int .i64 (64 * n : Nat) ∧ s 0 = v ∧ s 4 = .pointer (some ⟨h.n, 0, none⟩) ∧ s 5 = .pointer (some ⟨h.n + 1, 0, none⟩) ∧ (∃ w3, s 3 = w3 ∧ OwnSl g 8 w3 (stCells (pastS bs n)) n ∧ ∀ i ∈ idOf w3, h.n + 2 ≤ i) ∧
    g.get h.n = .cells (u32s (foldB bs n begin0).list) true 1 ∧ g.get (h.n + 1) = .cells (u32s kT) true 1 ∧ h.n + 2 ≤ g.n ∧ ∀ j, j < h.n → g.get j = h.get j) (bs.length / 64) ?_ ?_
  · exact ⟨by simp [upd_apply], by simp [upd_apply, s0_apply], by simp [upd_apply], by simp [upd_apply], ⟨.slice none 0 0, by simp [upd_apply], OwnSl.nil _ _, fun i hi => by simp [idOf] at hi⟩, h0a, h0b, by omega, h0l⟩
  · rintro n s g hn ⟨h6, h0, h4, h5, ⟨w3, h3, hown, hid⟩, hga, hgb, hgn, hgl⟩
    by_cases hlt : n < bs.length / 64
    · have hle : 64 * n + 64 ≤ bs.length := by omega
      have hle' : 64 * (n : Int) + 64 ≤ (bs.length : Int) := by omega
      rcases hb.cases with ⟨_, rfl⟩ | ⟨i, o, c, hi, hc, rfl, hat⟩
      · simp at hle
      have hat' : BytesAt g i o bs := hat.congr (hgl i hi)
      have hez := hat'.esz
      have hsub := hat'.sub (64 * n) 64 (by omega)
      have hl64 : ((bs.drop (64 * n)).take 64).length = 64 := by simp; omega
      simp (disch := first|omega|(simp only [np,ns];try omega)) [pun, pbinS, -BitVec.toNat_or, -BitVec.toNat_xor, -BitVec.toNat_add, -BitVec.toNat_and, -BitVec.toNat_not, -BitVec.toNat_shiftLeft, -BitVec.toNat_ushiftRight, pbin, pbinI, i64_small, IntKind.bits, h6, h0, h4, h5, h3, hle', hga, hgb, hez, hl8, kl64]
      have hib : IsBytes g (.slice (some ⟨i, o + 64 * n, none⟩) 64 (c - 64 * n)) ((bs.drop (64 * n)).take 64) := by
        have := BytesAt.is (c := c - 64 * n) (show i < g.n by omega) (by rw [hl64]; omega) hsub
        rwa [hl64] at this
      refine (rblock_ok hib hl64 _).mono ?_
      rintro u g' ⟨rfl, rfl⟩
      rw [blockS_take]
      obtain ⟨st', hst'⟩ : ∃ st', st' = blockS (bs.drop (64 * n)) (foldB bs n begin0) := ⟨_, rfl⟩
      have hst2 : foldB bs (n + 1) begin0 = st' := hst'.symm
      rw [← hst']
      have hown1 : OwnSl ((g'.set h.n (.cells (u32s st'.list) true 1)).push (.cells (u32s st'.list) true 8)) 8 w3 (stCells (pastS bs n)) n :=
        hown.congr (by simp) fun i hi => by
          have := hid i hi
          rw [VH.get_push_lt _ _ (by simpa using hown.lt i hi), VH.get_set_ne _ _ (by omega)]
      obtain ⟨v', g2, hap, hown2, hfr, hid2⟩ := hown1.append (bytes := 32) (ys := u32s st'.list) (k := 1) rfl (by omega)
      simp (disch := first|omega|(simp only [np,ns];try omega)) [pun, pbinS, -BitVec.toNat_or, -BitVec.toNat_xor, -BitVec.toNat_add, -BitVec.toNat_and, -BitVec.toNat_not, -BitVec.toNat_shiftLeft, -BitVec.toNat_ushiftRight, pbin, pbinI, i64_small, IntKind.bits, h6, h0, h4, h5, h3, hga, hs8', hl8, fill_st, u32s_one, rowObj_st, hap]
      have hidw : ∀ j, j < h.n + 2 → j ∉ idOf w3 := fun j hj hx => by have := hid j hx; omega
      have hg2 : ∀ j, j < h.n + 2 → j ≠ h.n → g2.get j = g'.get j := fun j hj hne => by
        rw [hfr.get j (by simp; omega) (hidw j hj), VH.get_push_lt _ _ (by simp; omega), VH.get_set_ne _ _ hne]
      refine ⟨hlt, by omega, ⟨by rw [pastS_succ, stCells_snoc, hst2]; exact hown2, fun j hj => ?_⟩, ?_, by rw [hg2 _ (by omega) (by omega)]; exact hgb, ?_, fun j hj => by rw [hg2 j (by omega) (by omega)]; exact hgl j hj⟩
      · rcases hid2 j hj with hj | hj
        · exact hid j hj
        · simp at hj; omega
      · rw [hfr.get _ (by simp; omega) (hidw _ (by omega)), VH.get_push_lt _ _ (by simp; omega), VH.get_set_same, hst2]
      · have := hfr.n
        simp at this
        omega
    · obtain rfl : n = bs.length / 64 := by omega
      subst hv
      have hgt : ¬ (64 * ((bs.length / 64 : Nat) : Int) + 64 ≤ (bs.length : Int)) := by omega
      simp (disch := first|omega|(simp only [np,ns];try omega)) [-Int.natCast_ediv, pun, pbinS, -BitVec.toNat_or, -BitVec.toNat_xor, -BitVec.toNat_add, -BitVec.toNat_and, -BitVec.toNat_not, -BitVec.toNat_shiftLeft, -BitVec.toNat_ushiftRight, pbin, pbinI, i64_small, IntKind.bits, h6, h0, h3, hgt, r_ref03_States, ret_r, resV, resL, resOne]
      exact ⟨hown, ⟨by omega, fun j hj _ => hgl j hj⟩, fun i hi => by have := hid i hi; omega⟩
end Go.Proofs.Ytdnkpgbggpbgaaa.Sha
