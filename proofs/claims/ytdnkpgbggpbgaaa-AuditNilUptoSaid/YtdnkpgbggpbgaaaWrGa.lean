/- wire, part Ga: what is written is read again (plain). -/
import Derived.Test.YtdnkpgbggpbgaaaWrE
set_option linter.unusedVariables false
set_option linter.unusedSimpArgs false
set_option maxRecDepth 100000
namespace Go.Proofs.Ytdnkpgbggpbgaaa.Wr
open Go Go.RowKit Go.Proofs.Ytdnkpgbggpbgaaa.Pm Go.Proofs.Ytdnkpgbggpbgaaa.Fs
attribute [local simp] pw_skip pw_ops pw_quiet pw_seq pw_cond pw_block pw_exit pw_ret pw_scope pw_label kSeq_normal kSeq_ret kSeq_exit kBlock_normal kBlock_ret kBlock_exit kScope_normal kScope_ret kScope_exit kLoop_normal kLoop_ret kLoop_exit kCond_true kCond_false kCond_dec pwOps_nil pwOps_call pwOps_guard kStep_some kCall_at pwQ_nil pwQ_call pwQ_guard kQ_some putS_some putS_none upd_apply ev_t ev_k isB_bool isB_undef s0_apply pstep pwO_mov pwO_pick pwO_nilck pwO_bin pwO_binB pwO_eqNil pwO_un pwO_convI pwO_convS pwO_alloc pwO_build pwO_load pwO_store pwO_fieldAddr pwO_field pwO_idxS pwO_idxA pwO_idxV pwO_strAt pwO_lenStr pwO_lenS pwO_lenC pwO_slS pwO_slA pwO_slStr pwO_extract pwO_mkFunc pwO_mkIface pwO_append pwO_appendStr pwO_toBytes pwO_ofB pwO_box pwO_row pwO_minmax pwO_eqV pwO_sameB pwR_mov pwR_pick pwR_nilck pwR_bin pwR_binB pwR_eqNil pwR_un pwR_convI pwR_convS pwR_build pwR_load pwR_fieldAddr pwR_field pwR_idxS pwR_idxA pwR_idxV pwR_strAt pwR_lenStr pwR_lenS pwR_lenC pwR_slS pwR_slA pwR_slStr pwR_extract pwR_mkFunc pwR_mkIface pwR_ofB pwR_minmax pwR_eqV ret_r ret_n kRet_some resV0 resV1 resV2 resV3 resV4 VH.get_push_new VH.get_set_same VH.n_push VH.n_set cellsL_agg cellsL_int cellsL_bool cellsL_string cellsL_slice cellsL_pointer cellsL_map pw_draw pwD_nil pwD_cons kD_nil kD_cons evalOK_plain evalOK_guard kEv_some dstIs_some dstIs_none pw_goto pw_scopeL kSeq_goto kBlock_goto kLoop_goto kScopeL_normal kScopeL_ret kScopeL_exit kScopeL_goto pwOps_callv kCallv_fn kCallv_yld pwOps_nextM pwO_makeMap pwO_lookup pwR_lookup pwO_mapSet pwO_mapDel pwO_lenM pwR_lenM pwO_mapEntry pwO_entrySet pwO_rangeS pwO_nextS pwO_rangeM pwO_entryM pwR_entryM pwO_copyV pwO_makeSl pwO_asrt pwR_asrt kStep_if kStep_dif kQ_if kQ_dif kEv_if bound_none bound_some toNat_add' toNat_sub' toNat_mul' kLoopN_normal kLoopN_ret kLoopN_exit kLoopN_goto Option.map_some Option.map_none loadAt_obj storeAt_obj rowOf_obj eszIs_obj eszObj_cells loadObj_tab storeObj_tab_int VH.get_set_ne VH.get_push_lt VH.set_set tab_length List.getElem?_cons_zero List.getElem?_cons_succ List.length_cons List.length_nil oneC_int oneC_bool oneC_string oneC_slice oneC_pointer oneC_map srcCells_at srcCells_nil VH.get_push_at isNilV pw_drawT pwT_nil pwT_step pwT_alt kT_nil kT_cons pun pbinS pbin pbinI i64_small IntKind.bits resV resL resOne


theorem u8_of_lt {n : Nat} (h : n < 256) : (UInt8.ofNat n).toNat = n := by rw [UInt8.toNat_ofNat']; exact Nat.mod_eq_of_lt h
theorem or_shl (a b k : Nat) (h : a < 2 ^ k) : a ||| b * 2 ^ k = a + b * 2 ^ k := by rw [Nat.or_comm, or_add b a k h, Nat.add_comm]
/-- a varint is read: whatever follows it. -/
theorem getS_varint : ∀ (k acc n : Nat) (r : List UInt8), k ≤ 9 → acc < 2 ^ (7 * k) → n * 2 ^ (7 * k) < 18446744073709551616 → getS k acc (varint n ++ r) = (acc + n * 2 ^ (7 * k), k + (varint n).length, 0) := by
  intro k
  have main : ∀ (j k acc n : Nat) (r : List UInt8), j + k = 9 → acc < 2 ^ (7 * k) → n * 2 ^ (7 * k) < 18446744073709551616 → getS k acc (varint n ++ r) = (acc + n * 2 ^ (7 * k), k + (varint n).length, 0) := by
    intro j
    induction j with
    | zero =>
      intro k acc n r hk hacc hn
      obtain rfl : k = 9 := by omega
      have hn2 : n < 2 := by omega
      have hn1 : n < 128 := by omega
      rw [varint_lt hn1]
      simp only [List.cons_append, List.nil_append, List.length_cons, List.length_nil]
      rw [getS_cons, u8_of_lt (by omega), if_neg (by omega), if_pos hn1, Nat.mod_eq_of_lt hn, or_shl _ _ _ hacc]
    | succ j ih =>
      intro k acc n r hk hacc hn
      by_cases hn1 : n < 128
      · rw [varint_lt hn1]
        simp only [List.cons_append, List.nil_append, List.length_cons, List.length_nil]
        rw [getS_cons, u8_of_lt (by omega), if_neg (by omega), if_pos hn1, Nat.mod_eq_of_lt hn, or_shl _ _ _ hacc]
      · rw [varint_ge hn1]
        simp only [List.cons_append, List.length_cons]
        have hc : n % 128 + 128 < 256 := by omega
        have hand : (n % 128 + 128) &&& 127 = n % 128 := by
          rw [show (127 : Nat) = 2 ^ 7 - 1 by decide, Nat.and_two_pow_sub_one_eq_mod]
          omega
        have hp : 2 ^ (7 * (k + 1)) = 128 * 2 ^ (7 * k) := by rw [Nat.mul_add, Nat.pow_add, Nat.mul_comm]
        have hpos : 0 < 2 ^ (7 * k) := Nat.pow_pos (by decide)
        have hle : n % 128 * 2 ^ (7 * k) ≤ n * 2 ^ (7 * k) := Nat.mul_le_mul_right _ (Nat.mod_le _ _)
        have hsplit : n * 2 ^ (7 * k) = n % 128 * 2 ^ (7 * k) + n / 128 * 2 ^ (7 * (k + 1)) := by
          rw [hp, ← Nat.mul_assoc, ← Nat.add_mul]
          congr 1
          omega
        rw [getS_cons, u8_of_lt hc, if_neg (by omega), if_neg (by omega), if_neg (by omega), hand, Nat.mod_eq_of_lt (by omega), or_shl _ _ _ hacc]
        have hacc2 : acc + n % 128 * 2 ^ (7 * k) < 2 ^ (7 * (k + 1)) := by
          have h1 : n % 128 * 2 ^ (7 * k) ≤ 127 * 2 ^ (7 * k) := Nat.mul_le_mul_right _ (by omega)
          omega
        rw [ih (k + 1) _ (n / 128) r (by omega) hacc2 (by omega)]
        simp only [Prod.mk.injEq, and_true]
        constructor <;> omega
  intro acc n r hk
  exact main (9 - k) k acc n r (by omega)
theorem get_varint {n : Nat} (hn : n < 18446744073709551616) (r : List UInt8) : getS 0 0 (varint n ++ r) = (n, (varint n).length, 0) := by
  have := getS_varint 0 0 n r (by omega) (by decide) (by simpa using hn)
  simpa using this
/-- a part of a varint is not whole. -/
theorem getS_short : ∀ (n k acc m : Nat), m < (varint n).length → k + (varint n).length ≤ 10 → getS k acc ((varint n).take m) = (0, 0, 8) := by
  intro n
  induction n using Nat.strongRecOn with
  | _ n ih =>
    intro k acc m hm hk
    by_cases hn : n < 128
    · rw [varint_lt hn] at hm ⊢
      obtain rfl : m = 0 := by simpa using hm
      rfl
    · rw [varint_ge hn] at hm hk ⊢
      simp only [List.length_cons] at hm hk
      cases m with
      | zero => rfl
      | succ m =>
        have h1 : 1 ≤ (varint (n / 128)).length := List.length_pos_iff.2 (varint_ne _)
        rw [List.take_succ_cons, getS_cons, u8_of_lt (by omega), if_neg (by omega), if_neg (by omega), if_neg (by omega)]
        exact ih (n / 128) (by omega) (k + 1) _ m (by omega) (by omega)
theorem get_short {n m : Nat} (hn : n < 18446744073709551616) (hm : m < (varint n).length) : getS 0 0 ((varint n).take m) = (0, 0, 8) :=
  getS_short n 0 0 m hm (by have := varint_len10 hn; omega)
theorem numB_low : ∀ (k n : Nat), n < 256 ^ k → numB (lowB k n) = n
  | 0, n, h => by simp at h; subst h; rfl
  | k + 1, n, h => by
    simp only [lowB, numB]
    rw [u8_of_lt (by omega), numB_low k (n / 256) (by rw [Nat.pow_succ] at h; exact Nat.div_lt_of_lt_mul (by omega))]
    omega

theorem key_split {f : Fd} (hk : okF f = true) : (8 * f.num + f.ty).toNat / 8 = f.num.toNat ∧ (8 * f.num + f.ty).toNat % 8 = f.ty.toNat ∧ ((f.num.toNat : Nat) : Int) = f.num ∧ ((f.ty.toNat : Nat) : Int) = f.ty ∧ 1 ≤ f.num.toNat ∧ f.num.toNat ≤ 536870911 := by
  obtain ⟨h1, h2⟩ := okF_num hk
  have := okF_ty hk
  omega
theorem bits_of {f : Fd} (hk : okF f = true) : (f.ty = 0 → f.b = []) ∧ (f.ty = 1 → f.b = []) ∧ (f.ty = 5 → f.b = [] ∧ f.n < 4294967296) ∧ (f.ty = 2 → f.n = 0) := by
  unfold okF at hk
  simp only [Bool.and_eq_true] at hk
  obtain ⟨_, hk⟩ := hk
  refine ⟨fun e => ?_, fun e => ?_, fun e => ?_, fun e => ?_⟩
  · rw [if_pos e] at hk; simpa using hk
  · rw [if_neg (by omega), if_pos e] at hk; simpa using hk
  · rw [if_neg (by omega), if_neg (by omega), if_pos e] at hk; simpa using hk
  · rw [if_neg (by omega), if_neg (by omega), if_neg (by omega), if_pos e] at hk; simpa using hk
theorem drop_len (a b : List UInt8) : (a ++ b).drop a.length = b := by simp
/-- a field is read. -/
theorem next_enc {f : Fd} (hk : okF f = true) (hn : f.n < 18446744073709551616) (hb : f.b.length < 1000000000) (r : List UInt8) : nextS (encF f ++ r) = (f, (encF f).length, 0) := by
  obtain ⟨e1, e2, e3, e4, e5, e6⟩ := key_split hk
  have hkl := key_lt hk
  obtain ⟨b0, b1, b5, b2⟩ := bits_of hk
  have henc : encF f = varint (8 * f.num + f.ty).toNat ++ ((if f.ty = 0 then varint f.n else if f.ty = 1 then lowB 8 f.n else if f.ty = 5 then lowB 4 f.n else if f.ty = 2 then varint f.b.length else []) ++ f.b) := by unfold encF headF; rw [List.append_assoc]
  generalize (8 * f.num + f.ty).toNat = K at *
  obtain ⟨N, hN⟩ : ∃ N, N = f.num.toNat := ⟨_, rfl⟩
  rw [← hN] at e1 e3 e5 e6
  have hn1 : ¬ (N < 1 ∨ 536870911 < N) := by omega
  rcases okF_ty hk with h0 | h1 | h5 | h2
  · have hT : K % 8 = 0 := by omega
    rw [if_pos h0, b0 h0, List.append_nil] at henc
    rw [henc, List.append_assoc]
    unfold nextS
    rw [get_varint (by omega)]
    simp only [e1, hT]
    rw [if_neg (by simp), if_neg hn1, if_pos trivial, drop_len, get_varint hn]
    simp only [List.length_append, Prod.mk.injEq, and_true]
    cases f
    simp only at *
    rw [e3, h0, b0 h0]
  · have hT : K % 8 = 1 := by omega
    rw [if_neg (by omega), if_pos h1, b1 h1, List.append_nil] at henc
    rw [henc, List.append_assoc]
    unfold nextS
    rw [get_varint (by omega)]
    have hl : (lowB 8 f.n ++ r).length = 8 + r.length := by simp [lowB_length]
    have ht : ((lowB 8 f.n ++ r).take 8) = lowB 8 f.n := by
      rw [List.take_append_of_le_length (by rw [lowB_length]; omega), List.take_of_length_le (by rw [lowB_length]; omega)]
    simp only [e1, hT]
    rw [if_neg (by simp), if_neg hn1, if_neg (by decide), if_pos trivial, drop_len, if_neg (by omega), ht, numB_low 8 f.n (by omega)]
    simp only [List.length_append, lowB_length, Prod.mk.injEq, and_true]
    cases f
    simp only at *
    rw [e3, h1, b1 h1]
  · obtain ⟨bb, bn⟩ := b5 h5
    have hT : K % 8 = 5 := by omega
    rw [if_neg (by omega), if_neg (by omega), if_pos h5, bb, List.append_nil] at henc
    rw [henc, List.append_assoc]
    unfold nextS
    rw [get_varint (by omega)]
    have hl : (lowB 4 f.n ++ r).length = 4 + r.length := by simp [lowB_length]
    have ht : ((lowB 4 f.n ++ r).take 4) = lowB 4 f.n := by
      rw [List.take_append_of_le_length (by rw [lowB_length]; omega), List.take_of_length_le (by rw [lowB_length]; omega)]
    simp only [e1, hT]
    rw [if_neg (by simp), if_neg hn1, if_neg (by decide), if_neg (by decide), if_pos trivial, drop_len, if_neg (by omega), ht, numB_low 4 f.n (by omega)]
    simp only [List.length_append, lowB_length, Prod.mk.injEq, and_true]
    cases f
    simp only at *
    rw [e3, h5, bb]
  · have hT : K % 8 = 2 := by omega
    rw [if_neg (by omega), if_neg (by omega), if_neg (by omega), if_pos h2] at henc
    rw [henc, List.append_assoc, List.append_assoc]
    unfold nextS
    rw [get_varint (by omega)]
    have hd : (varint K ++ (varint f.b.length ++ (f.b ++ r))).drop ((varint K).length + (varint f.b.length).length) = f.b ++ r := by
      rw [← List.append_assoc, ← List.length_append, drop_len]
    simp only [e1, hT]
    rw [if_neg (by simp), if_neg hn1, if_neg (by decide), if_neg (by decide), if_neg (by decide), if_pos trivial, drop_len, get_varint (by omega)]
    simp only
    rw [if_neg (by simp), hd, if_neg (by simp), List.take_append_of_le_length (Nat.le_refl _), List.take_length]
    simp only [List.length_append, Prod.mk.injEq, and_true]
    refine ⟨?_, by omega⟩
    cases f
    simp only at *
    rw [e3, h2, b2 h2]
/-- a part of a field is not whole. -/
theorem next_short {f : Fd} (hk : okF f = true) (hn : f.n < 18446744073709551616) (hb : f.b.length < 1000000000) {m : Nat} (hm : m < (encF f).length) : (nextS ((encF f).take m)).2.2 = 8 := by
  obtain ⟨e1, e2, e3, e4, e5, e6⟩ := key_split hk
  have hkl := key_lt hk
  obtain ⟨b0, b1, b5, b2⟩ := bits_of hk
  have henc : encF f = varint (8 * f.num + f.ty).toNat ++ ((if f.ty = 0 then varint f.n else if f.ty = 1 then lowB 8 f.n else if f.ty = 5 then lowB 4 f.n else if f.ty = 2 then varint f.b.length else []) ++ f.b) := by unfold encF headF; rw [List.append_assoc]
  generalize (8 * f.num + f.ty).toNat = K at *
  obtain ⟨N, hN⟩ : ∃ N, N = f.num.toNat := ⟨_, rfl⟩
  rw [← hN] at e1 e3 e5 e6
  have hn1 : ¬ (N < 1 ∨ 536870911 < N) := by omega
  by_cases hmK : m < (varint K).length
  · rw [henc, List.take_append_of_le_length (by omega)]
    unfold nextS
    rw [get_short (by omega) hmK]
    simp
  obtain ⟨m2, rfl⟩ : ∃ m2, m = (varint K).length + m2 := ⟨m - (varint K).length, by omega⟩
  rcases okF_ty hk with h0 | h1 | h5 | h2
  · have hT : K % 8 = 0 := by omega
    rw [if_pos h0, b0 h0, List.append_nil] at henc
    rw [henc] at hm ⊢
    rw [List.length_append] at hm
    rw [List.take_length_add_append]
    unfold nextS
    rw [get_varint (by omega)]
    simp only [e1, hT]
    rw [if_neg (by simp), if_neg hn1, if_pos trivial, drop_len, get_short hn (by omega)]
  · have hT : K % 8 = 1 := by omega
    rw [if_neg (by omega), if_pos h1, b1 h1, List.append_nil] at henc
    rw [henc] at hm ⊢
    rw [List.length_append, lowB_length] at hm
    rw [List.take_length_add_append]
    unfold nextS
    rw [get_varint (by omega)]
    simp only [e1, hT]
    rw [if_neg (by simp), if_neg hn1, if_neg (by decide), if_pos trivial, drop_len, if_pos (by rw [List.length_take, lowB_length]; omega)]
  · have hT : K % 8 = 5 := by omega
    rw [if_neg (by omega), if_neg (by omega), if_pos h5, (b5 h5).1, List.append_nil] at henc
    rw [henc] at hm ⊢
    rw [List.length_append, lowB_length] at hm
    rw [List.take_length_add_append]
    unfold nextS
    rw [get_varint (by omega)]
    simp only [e1, hT]
    rw [if_neg (by simp), if_neg hn1, if_neg (by decide), if_neg (by decide), if_pos trivial, drop_len, if_pos (by rw [List.length_take, lowB_length]; omega)]
  · have hT : K % 8 = 2 := by omega
    rw [if_neg (by omega), if_neg (by omega), if_neg (by omega), if_pos h2] at henc
    rw [henc] at hm ⊢
    rw [List.length_append, List.length_append] at hm
    rw [List.take_length_add_append]
    unfold nextS
    rw [get_varint (by omega)]
    simp only [e1, hT]
    rw [if_neg (by simp), if_neg hn1, if_neg (by decide), if_neg (by decide), if_neg (by decide), if_pos trivial, drop_len]
    by_cases hmB : m2 < (varint f.b.length).length
    · rw [List.take_append_of_le_length (by omega), get_short (by omega) hmB]
      simp
    obtain ⟨m3, rfl⟩ : ∃ m3, m2 = (varint f.b.length).length + m3 := ⟨m2 - (varint f.b.length).length, by omega⟩
    rw [List.take_length_add_append, get_varint (by omega)]
    have hd : (varint K ++ (varint f.b.length ++ f.b.take m3)).drop ((varint K).length + (varint f.b.length).length) = f.b.take m3 := by
      rw [← List.append_assoc, ← List.length_append, drop_len]
    simp only
    rw [if_neg (by simp), hd, if_pos (by rw [List.length_take]; omega)]
theorem encF_pos (f : Fd) : 0 < (encF f).length := by
  have := List.length_pos_iff.2 (varint_ne (8 * f.num + f.ty).toNat)
  unfold encF headF
  simp
  omega
/-- whole fields, and what follows them. -/
theorem readR_enc : ∀ (fs : List Fd) (fu cnt : Nat) (r : List UInt8), (∀ f ∈ fs, okF f = true ∧ f.n < 18446744073709551616 ∧ f.b.length < 1000000000) → cnt + fs.length ≤ 4096 → fs.length < fu →
    readR fu cnt (encL fs ++ r) = (fs ++ (readR (fu - fs.length) (cnt + fs.length) r).1, (readR (fu - fs.length) (cnt + fs.length) r).2.1, (encL fs).length + (readR (fu - fs.length) (cnt + fs.length) r).2.2)
  | [], fu, cnt, r, _, _, _ => by simp [encL]
  | f :: fs, fu, cnt, r, h, hc, hf => by
    obtain ⟨fu, rfl⟩ : ∃ q, fu = q + 1 := ⟨fu - 1, by omega⟩
    obtain ⟨h1, h2, h3⟩ := h f (by simp)
    have he : encL (f :: fs) ++ r = encF f ++ (encL fs ++ r) := by simp [encL]
    have hp := encF_pos f
    simp only [List.length_cons] at hc hf
    have hne : ¬ (encF f ++ (encL fs ++ r)).length = 0 := by rw [List.length_append]; omega
    rw [he, readR_succ, if_neg hne, if_neg (by omega), next_enc h1 h2 h3]
    simp only
    rw [if_neg (by simp), drop_len, readR_enc fs fu (cnt + 1) r (fun x hx => h x (by simp [hx])) (by omega) (by omega)]
    rw [show fu + 1 - (f :: fs).length = fu - fs.length by simp, show cnt + (f :: fs).length = cnt + 1 + fs.length by simp; omega]
    simp only [List.cons_append, Prod.mk.injEq, true_and]
    simp [encL]
    omega
theorem readS_enc {fs : List Fd} (h : ∀ f ∈ fs, okF f = true ∧ f.n < 18446744073709551616 ∧ f.b.length < 1000000000) (hc : fs.length ≤ 4096) (hl : (encL fs).length ≤ 1048576) (hfl : fs.length ≤ (encL fs).length) : readS (encL fs) = (fs, 0, 0) := by
  have := readR_enc fs ((encL fs).length + 1) 0 [] h (by omega) (by omega)
  rw [List.append_nil] at this
  obtain ⟨q, hq⟩ : ∃ q, (encL fs).length + 1 - fs.length = q + 1 := ⟨(encL fs).length - fs.length, by omega⟩
  have e : readR (q + 1) (0 + fs.length) [] = ([], 0, 0) := by rw [readR_succ, if_pos List.length_nil]
  rw [hq, e] at this
  unfold readS
  rw [if_neg (by omega), this]
  simp
theorem encL_ge (fs : List Fd) : fs.length ≤ (encL fs).length := by
  induction fs with
  | nil => simp [encL]
  | cons f fs ih =>
    have := encF_pos f
    have e : encL (f :: fs) = encF f ++ encL fs := by simp [encL]
    rw [e]
    simp
    omega
/-- a part of a message: fewer fields, or its end is missing. -/
theorem readR_take : ∀ (fs : List Fd) (fu cnt m : Nat), (∀ f ∈ fs, okF f = true ∧ f.n < 18446744073709551616 ∧ f.b.length < 1000000000) → cnt + fs.length ≤ 4096 → fs.length < fu → m ≤ (encL fs).length →
    (readR fu cnt ((encL fs).take m)).1.length ≤ fs.length ∧ ((readR fu cnt ((encL fs).take m)).2.1 = 0 ∨ (readR fu cnt ((encL fs).take m)).2.1 = 8) ∧ (readR fu cnt ((encL fs).take m)).2.2 ≤ m
  | fs, fu, cnt, 0, _, _, hf, _ => by
    obtain ⟨fu, rfl⟩ : ∃ q, fu = q + 1 := ⟨fu - 1, by omega⟩
    rw [List.take_zero, readR_succ, if_pos List.length_nil]
    simp
  | [], fu, cnt, m + 1, _, _, _, hm => by simp [encL] at hm
  | f :: fs, fu, cnt, m + 1, h, hc, hf, hm => by
    obtain ⟨fu, rfl⟩ : ∃ q, fu = q + 1 := ⟨fu - 1, by omega⟩
    obtain ⟨h1, h2, h3⟩ := h f (by simp)
    have he : encL (f :: fs) = encF f ++ encL fs := by simp [encL]
    have hp := encF_pos f
    simp only [List.length_cons] at hc hf
    rw [he] at hm ⊢
    have hne : ¬ ((encF f ++ encL fs).take (m + 1)).length = 0 := by rw [List.length_take, List.length_append]; omega
    rw [readR_succ, if_neg hne, if_neg (by omega)]
    by_cases hs : m + 1 < (encF f).length
    · rw [List.take_append_of_le_length (by omega)]
      have h8 := next_short h1 h2 h3 hs
      rw [if_pos (by omega), h8]
      simp
    · obtain ⟨m2, hm2⟩ : ∃ m2, m + 1 = (encF f).length + m2 := ⟨m + 1 - (encF f).length, by omega⟩
      rw [hm2, List.take_length_add_append, next_enc h1 h2 h3]
      simp only
      rw [if_neg (by simp), drop_len]
      rw [List.length_append] at hm
      obtain ⟨i1, i2, i3⟩ := readR_take fs fu (cnt + 1) m2 (fun x hx => h x (by simp [hx])) (by omega) (by omega) (by omega)
      exact ⟨by simp only [List.length_cons]; omega, i2, by dsimp only; omega⟩
theorem readR_fuel : ∀ (fu fu' cnt : Nat) (l : List UInt8), l.length < fu → l.length < fu' → readR fu cnt l = readR fu' cnt l
  | 0, _, _, _, h, _ => absurd h (Nat.not_lt_zero _)
  | _, 0, _, _, _, h => absurd h (Nat.not_lt_zero _)
  | fu + 1, fu' + 1, cnt, l, h, h' => by
    rw [readR_succ, readR_succ]
    by_cases h0 : l.length = 0
    · rw [if_pos h0, if_pos h0]
    rw [if_neg h0, if_neg h0]
    by_cases h2 : (nextS l).2.2 ≠ 0
    · simp only [if_pos h2]
    have h2' : (nextS l).2.2 = 0 := by simpa using h2
    obtain ⟨k1, k2, _⟩ := nextS_spec h2'
    simp only [if_neg h2]
    rw [readR_fuel fu fu' (cnt + 1) (l.drop (nextS l).2.1) (by rw [List.length_drop]; omega) (by rw [List.length_drop]; omega)]
theorem readS_take {fs : List Fd} (h : ∀ f ∈ fs, okF f = true ∧ f.n < 18446744073709551616 ∧ f.b.length < 1000000000) (hc : fs.length ≤ 4096) (hl : (encL fs).length ≤ 1048576) {m : Nat} (hm : m ≤ (encL fs).length) :
    ((readS ((encL fs).take m)).2.1 = 0 ∧ (readS ((encL fs).take m)).1.length ≤ fs.length) ∨ ((readS ((encL fs).take m)).2.1 = 8 ∧ (readS ((encL fs).take m)).2.2 ≤ m) := by
  have hml : ((encL fs).take m).length = m := by simp; omega
  unfold readS
  rw [if_neg (by omega), hml]
  have key : ∀ fu, m < fu → (readR fu 0 ((encL fs).take m)).1.length ≤ fs.length ∧ ((readR fu 0 ((encL fs).take m)).2.1 = 0 ∨ (readR fu 0 ((encL fs).take m)).2.1 = 8) ∧ (readR fu 0 ((encL fs).take m)).2.2 ≤ m := by
    intro fu hfu
    rw [readR_fuel fu (fu + fs.length) 0 _ (by omega) (by omega)]
    exact readR_take fs (fu + fs.length) 0 m h (by omega) (by omega) hm
  obtain ⟨k1, k2, k3⟩ := key (m + 1) (by omega)
  rcases k2 with k2 | k2
  · rw [if_pos k2]; exact .inl ⟨rfl, k1⟩
  · rw [if_neg (by omega)]; exact .inr ⟨k2, k3⟩
end Go.Proofs.Ytdnkpgbggpbgaaa.Wr
