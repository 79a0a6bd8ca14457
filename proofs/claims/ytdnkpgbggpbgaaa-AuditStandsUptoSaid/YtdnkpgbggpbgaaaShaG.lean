/- SHA-256, part G: streams: new, write. -/
import Derived.Test.YtdnkpgbggpbgaaaShaF
set_option linter.unusedVariables false
set_option linter.unusedSimpArgs false
set_option maxRecDepth 100000
namespace Go.Proofs.Ytdnkpgbggpbgaaa.Sha
open Go Go.RowKit Go.Proofs.Ytdnkpgbggpbgaaa.Pm Go.Proofs.Ytdnkpgbggpbgaaa.Fs


def stmC (s : St) (pv lv : Value) (n : Nat) : List Value := u32s s.list ++ [pv, lv, .int .i64 n]
section
variable {s s' : St} {pv lv : Value} {n : Nat} {ow : Bool} {e : Nat}
theorem stm_ld0 : loadObj (.cells (stmC s pv lv n) ow e) 0 (some 8) = some s.val := rfl
theorem stm_ld8 : loadObj (.cells (stmC s pv lv n) ow e) 8 none = some pv := rfl
theorem stm_ld9 : loadObj (.cells (stmC s pv lv n) ow e) 9 none = some lv := rfl
theorem stm_ld10 : loadObj (.cells (stmC s pv lv n) ow e) 10 none = some (.int .i64 n) := rfl
theorem stm_st0 : storeObj (.cells (stmC s pv lv n) true e) 0 8 s'.val = some (.cells (stmC s' pv lv n) true e) := by
  have hc : cellsL s'.val = u32s s'.list := rfl
  show (if (cellsL s'.val).length = 8 ∧ 0 + 8 ≤ (stmC s pv lv n).length ∧ (cellsL s'.val).all Value.oneCell' then some (VObj.cells (wr (stmC s pv lv n) 0 (cellsL s'.val)) true e) else none) = _
  rw [hc, if_pos ⟨rfl, by simp [stmC, St.list_len], u32s_one _⟩]
  rfl
theorem stm_st8 {a : Option Addr} {k c : Nat} : storeObj (.cells (stmC s pv lv n) true e) 8 1 (.slice a k c) = some (.cells (stmC s (.slice a k c) lv n) true e) := rfl
theorem stm_st9 {a : Option Addr} {k c : Nat} : storeObj (.cells (stmC s pv lv n) true e) 9 1 (.slice a k c) = some (.cells (stmC s pv (.slice a k c) n) true e) := rfl
theorem stm_st10 {m : Nat} : storeObj (.cells (stmC s pv lv n) true e) 10 1 (.int .i64 m) = some (.cells (stmC s pv lv m) true e) := rfl
end

/-- a stream of bytes T, of which k blocks are done. -/
structure IsStmK (h : VH) (i : Nat) (T : List UInt8) (k : Nat) (pv lv : Value) : Prop where
  obj : h.get i = .cells (stmC (foldB T k begin0) pv lv T.length) true 1
  lt : i < h.n
  le : 64 * k ≤ T.length
  past : OwnSl h 8 pv (stCells (pastS T k)) k
  left : OwnSl h 1 lv (u8s (T.drop (64 * k))) (T.length - 64 * k)
  ip : i ∉ idOf pv
  il : i ∉ idOf lv
  pl : ∀ j ∈ idOf pv, j ∉ idOf lv
def IsStm (h : VH) (i : Nat) (T : List UInt8) (pv lv : Value) : Prop := IsStmK h i T (T.length / 64) pv lv
def fpS (i : Nat) (pv lv : Value) : List Nat := i :: (idOf pv ++ idOf lv)
theorem fpS_lt {h : VH} {i : Nat} {T : List UInt8} {k : Nat} {pv lv : Value} (hs : IsStmK h i T k pv lv) : ∀ j ∈ fpS i pv lv, j < h.n := by
  intro j hj
  rcases List.mem_cons.1 hj with rfl | hj
  · exact hs.lt
  · rcases List.mem_append.1 hj with hj | hj
    · exact hs.past.lt j hj
    · exact hs.left.lt j hj
theorem IsStmK.fr {h h' : VH} {X : List Nat} (hf : Fr h h' X) {i : Nat} {T : List UInt8} {k : Nat} {pv lv : Value} (hs : IsStmK h i T k pv lv) (hx : ∀ j ∈ fpS i pv lv, j ∉ X) : IsStmK h' i T k pv lv :=
  ⟨by rw [hf.get i hs.lt (hx i (List.mem_cons_self ..))]; exact hs.obj, Nat.lt_of_lt_of_le hs.lt hf.n, hs.le, hs.past.fr hf (fun j hj => hx j (List.mem_cons_of_mem _ (List.mem_append_left _ hj))),
    hs.left.fr hf (fun j hj => hx j (List.mem_cons_of_mem _ (List.mem_append_right _ hj))), hs.ip, hs.il, hs.pl⟩

theorem new_ok (h : VH) : PCalls Try.prog f_sha_New [] h (fun u h' => u = .pointer (some ⟨h.n, 0, none⟩) ∧ h' = h.push (.cells (stmC begin0 (.slice none 0 0) (.slice none 0 0) 0) true 1)) := by
  refine PCalls_of_pw st_sha_New (by simp [n_sha_New]) ?_
  rw [b_sha_New]
  simp (disch := first|omega|(simp only [np,ns];try omega)) [B_sha_New]
  refine (begin_ok _).mono ?_
  rintro u h' ⟨rfl, rfl⟩
  have hf : fillC [.int .u32 0, .int .u32 0, .int .u32 0, .int .u32 0, .int .u32 0, .int .u32 0, .int .u32 0, .int .u32 0, .slice none 0 0, .slice none 0 0, .int .i64 0] [(0, 8, begin0.val)] = some (stmC begin0 (.slice none 0 0) (.slice none 0 0) 0) := rfl
  have hone : (stmC begin0 (.slice none 0 0) (.slice none 0 0) 0).all Value.oneCell' = true := rfl
  have hc : cellsL (.agg (stmC begin0 (.slice none 0 0) (.slice none 0 0) 0).toArray) = stmC begin0 (.slice none 0 0) (.slice none 0 0) 0 := rfl
  simp (disch := first|omega|(simp only [np,ns];try omega)) [hf, hone, hc, r_sha_New]
theorem new_stm (h : VH) : IsStm (h.push (.cells (stmC begin0 (.slice none 0 0) (.slice none 0 0) 0) true 1)) h.n [] (.slice none 0 0) (.slice none 0 0) :=
  ⟨VH.get_push_new _ _, by simp, by simp, OwnSl.nil _ _, OwnSl.nil _ _, by simp [idOf], by simp [idOf], by simp [idOf]⟩

set_option maxHeartbeats 2000000 in
theorem write_ok {h : VH} {i : Nat} {bs b : List UInt8} {pv lv v : Value} (hs : IsStm h i bs pv lv) (hb : IsBytes h v b) (hv : ∀ j ∈ idOf v, j ∉ fpS i pv lv) (hlen : bs.length + b.length ≤ 1099511627000) :
    PCalls Try.prog f_sha_Stream_Write [.pointer (some ⟨i, 0, none⟩), v] h (fun u h' => u = .int .i64 0 ∧ ∃ pv' lv', IsStm h' i (bs ++ b) pv' lv' ∧ Fr h h' (fpS i pv lv) ∧ ∀ j ∈ fpS i pv' lv', j ∈ fpS i pv lv ∨ h.n ≤ j) := by
  refine PCalls_of_pw st_sha_Stream_Write (by simp [n_sha_Stream_Write]) ?_
  rw [b_sha_Stream_Write]
  obtain ⟨va, vc, rfl⟩ := hb.shape
  have hobj := hs.obj
  obtain ⟨N, hN⟩ : ∃ N, N = bs.length + b.length := ⟨_, rfl⟩
  have e1 : (bs.length : Int) + (b.length : Int) = (N : Int) := by omega
  -- the bytes are appended
  obtain ⟨g1, hg1⟩ : ∃ g1, g1 = h.set i (.cells (stmC (foldB bs (bs.length / 64) begin0) pv lv N) true 1) := ⟨_, rfl⟩
  have hf1 : Fr h g1 [i] := by rw [hg1]; exact Fr.set h _ (List.mem_singleton.2 rfl)
  have hiv : i ∉ idOf (.slice va b.length vc) := fun hx => hv i hx (List.mem_cons_self ..)
  have hsrc : srcCells g1 1 (.slice va b.length vc) = some (u8s b) := (hb.fr hf1 (fun j hj => by simp; rintro rfl; exact hiv hj)).src
  have hleft1 : OwnSl g1 1 lv (u8s (bs.drop (64 * (bs.length / 64)))) (bs.length - 64 * (bs.length / 64)) := hs.left.fr hf1 (fun j hj => by simp; rintro rfl; exact hs.il hj)
  obtain ⟨lv2, g2, hap, hleft2, hf2, hid2⟩ := hleft1.append (bytes := 1) (ys := u8s b) (k := b.length) (by simp) (by omega)
  obtain ⟨la2, lc2, hlv2⟩ := hleft2.shapeN
  subst hlv2
  obtain ⟨lv2, hlv2⟩ : ∃ lv2, lv2 = Value.slice la2 (bs.length - 64 * (bs.length / 64) + b.length) lc2 := ⟨_, rfl⟩
  have hg1i : g1.get i = .cells (stmC (foldB bs (bs.length / 64) begin0) pv lv N) true 1 := by rw [hg1, VH.get_set_same]
  have hg1n : g1.n = h.n := by rw [hg1]; rfl
  have hg2i : g2.get i = .cells (stmC (foldB bs (bs.length / 64) begin0) pv lv N) true 1 := by rw [hf2.get i (by have := hs.lt; omega) hs.il, hg1i]
  simp (disch := first|omega|(simp only [np,ns];try omega)) [B_sha_Stream_Write, pun, pbinS, -BitVec.toNat_or, -BitVec.toNat_xor, -BitVec.toNat_add, -BitVec.toNat_and, -BitVec.toNat_not, -BitVec.toNat_shiftLeft, -BitVec.toNat_ushiftRight, pbin, pbinI, i64_small, IntKind.bits, hobj, stm_ld10, e1, stm_st10, ← hg1, hg1i, stm_ld9, hsrc, hap, hg2i, stm_st9]
  rw [← hlv2] at hleft2 hid2 ⊢
  obtain ⟨T, hT⟩ : ∃ T, T = bs ++ b := ⟨_, rfl⟩
  have hTl : T.length = N := by rw [hT, hN]; simp
  have hN0 : bs.length / 64 ≤ N / 64 := by omega
  obtain ⟨k0, hk0⟩ : ∃ k0, k0 = bs.length / 64 := ⟨_, rfl⟩
  rw [← hk0] at hg2i hleft2 hN0
  obtain ⟨d, hd⟩ : ∃ d, N / 64 = k0 + d := ⟨N / 64 - k0, by omega⟩
  have hst0 : foldB bs k0 begin0 = foldB T k0 begin0 := by rw [hT, foldB_append b begin0 k0 (by omega)]
  have hpast0 : pastS bs k0 = pastS T k0 := by
    unfold pastS
    apply List.map_congr_left
    intro k hk
    rw [hT, foldB_append b begin0 (k + 1) (by simp at hk; omega)]
  have hleft0 : u8s (bs.drop (64 * k0)) ++ u8s b = u8s (T.drop (64 * k0)) := by rw [hT, List.drop_append_of_le_length (by omega), u8s_append]
  have hfp : Fr h (g2.set i (.cells (stmC (foldB T k0 begin0) pv lv2 N) true 1)) (fpS i pv lv) := by
    refine (hf1.sub (fun x hx => by simp at hx; subst hx; exact List.mem_cons_self ..)).trans ((hf2.sub (fun x hx => List.mem_cons_of_mem _ (List.mem_append_right _ hx))).trans (Fr.set _ _ (List.mem_cons_self ..)))
  rw [← hk0, hst0]
  have hil2 : i ∉ idOf lv2 := fun hx => (hid2 i hx).elim hs.il (fun h1 => by have := hs.lt; omega)
  refine pw_loopN (fun n s g => ∃ pv' lv', s 0 = .pointer (some ⟨i, 0, none⟩) ∧ IsStmK g i T (k0 + n) pv' lv' ∧ Fr h g (fpS i pv lv) ∧ ∀ j ∈ fpS i pv' lv', j ∈ fpS i pv lv ∨ h.n ≤ j) d ?_ ?_
  · refine ⟨pv, lv2, by simp [upd_apply, s0_apply], ⟨by rw [VH.get_set_same, hTl]; rfl, ?_, by omega, ?_, ?_, hs.ip, hil2, fun j hj hx => ?_⟩, hfp, fun j hj => ?_⟩
    · have := hf2.n; have := hs.lt; simp; omega
    · have hp := hs.past
      rw [← hk0, hpast0] at hp
      refine hp.congr (by have := hf2.n; simp; omega) fun j hj => ?_
      have hj1 := hs.past.lt j hj
      rw [VH.get_set_ne _ _ (show j ≠ i by rintro rfl; exact hs.ip hj), hf2.get j (by omega) (hs.pl j hj), hf1.get j (by omega) (by simp; rintro rfl; exact hs.ip hj)]
    · rw [hleft0] at hleft2
      rw [show T.length - 64 * (k0 + 0) = bs.length - 64 * k0 + b.length by omega]
      exact hleft2.congr (by simp) fun j hj => VH.get_set_ne _ _ (fun e => hil2 (e ▸ hj))
    · rcases hid2 j hx with h1 | h1
      · exact hs.pl j hj h1
      · have := hs.past.lt j hj; omega
    · rcases List.mem_cons.1 hj with rfl | hj
      · exact .inl (List.mem_cons_self ..)
      · rcases List.mem_append.1 hj with hj | hj
        · exact .inl (List.mem_cons_of_mem _ (List.mem_append_left _ hj))
        · rcases hid2 j hj with h1 | h1
          · exact .inl (List.mem_cons_of_mem _ (List.mem_append_right _ h1))
          · exact .inr (by omega)
  · rintro n s g hn ⟨pv', lv', h0, hK, hfr, hids⟩
    obtain ⟨la, lc, hlv⟩ := hK.left.shapeN
    subst hlv
    obtain ⟨pa, pc, hpv⟩ := hK.past.shapeN
    subst hpv
    have hKo := hK.obj
    have hKle := hK.le
    obtain ⟨L, hL⟩ : ∃ L, L = T.length - 64 * (k0 + n) := ⟨_, rfl⟩
    have hib : IsBytes g (.slice la L lc) (T.drop (64 * (k0 + n))) := by
      rw [hL]
      refine OwnSl.bytes ?_
      rw [List.length_drop]
      exact hK.left
    by_cases hlt : n < d
    · have hL64 : 64 ≤ L := by omega
      have hL64' : (64 : Int) ≤ (L : Int) := by omega
      rw [← hL] at hKo
      simp (disch := first|omega|(simp only [np,ns];try omega)) [pun, pbinS, -BitVec.toNat_or, -BitVec.toNat_xor, -BitVec.toNat_add, -BitVec.toNat_and, -BitVec.toNat_not, -BitVec.toNat_shiftLeft, -BitVec.toNat_ushiftRight, pbin, pbinI, i64_small, IntKind.bits, h0, hKo, stm_ld9, stm_ld0, hL64']
      refine (behind_ok hib (by simp; omega) _).mono ?_
      rintro u g' ⟨rfl, rfl⟩
      rcases hK.left with ⟨_, _, h2⟩ | ⟨j, o, lc', ds, hj, hjc, h1, hgj, hdj, hlj, hoj⟩
      · omega
      obtain rfl : la = some ⟨j, o, none⟩ := by cases h1; rfl
      obtain rfl : lc' = lc := by cases h1; rfl
      have hij : i ≠ j := fun e => hK.il (by rw [e]; simp [idOf])
      obtain ⟨st', hst'⟩ : ∃ st', st' = blockS (T.drop (64 * (k0 + n))) (foldB T (k0 + n) begin0) := ⟨_, rfl⟩
      have hst2 : foldB T (k0 + n + 1) begin0 = st' := hst'.symm
      rw [← hst']
      obtain ⟨pv1, hpv1⟩ : ∃ pv1, pv1 = Value.slice pa (k0 + n) pc := ⟨_, rfl⟩
      have hown1 : OwnSl ((g'.set i (.cells (stmC st' pv1 (.slice (some ⟨j, o, none⟩) L lc') T.length) true 1)).push (.cells (u32s st'.list) true 8)) 8 pv1 (stCells (pastS T (k0 + n))) (k0 + n) := by
        rw [hpv1]
        exact hK.past.congr (by simp) fun q hq => by
          rw [VH.get_push_lt _ _ (by simpa using hK.past.lt q hq), VH.get_set_ne _ _ (show q ≠ i by rintro rfl; exact hK.ip hq)]
      obtain ⟨pv2, g2, hap, hown2, hfr2, hid2⟩ := hown1.append (bytes := 32) (ys := u32s st'.list) (k := 1) rfl (by omega)
      obtain ⟨pa2, pc2, hpv2⟩ := hown2.shapeN
      have hidp : ∀ q ∈ idOf pv1, q ≠ i ∧ q ≠ j ∧ q < g'.n := fun q hq => by
        rw [hpv1] at hq
        exact ⟨by rintro rfl; exact hK.ip hq, by rintro rfl; exact hK.pl _ hq (by simp [idOf]), hK.past.lt q hq⟩
      have hlt' := hK.lt
      have hg2 : ∀ q, q < g'.n → q ∉ idOf pv1 → q ≠ i → g2.get q = g'.get q := fun q hq hp hne => by
        rw [hfr2.get q (by simp; omega) hp, VH.get_push_lt _ _ (by simpa using hq), VH.get_set_ne _ _ hne]
      have hg2i : g2.get i = .cells (stmC st' pv1 (.slice (some ⟨j, o, none⟩) L lc') T.length) true 1 := by
        rw [hfr2.get i (by simp; omega) (fun hx => (hidp i hx).1 rfl), VH.get_push_lt _ _ (by simpa using hlt'), VH.get_set_same]
      have hg2j : g2.get j = .cells ds true 1 := by rw [hg2 j hj (fun hx => (hidp j hx).2.1 rfl) (Ne.symm hij), hgj]
      have hg2n : g'.n ≤ g2.n := by have := hfr2.n; simp at this; omega
      subst hpv2
      rw [hpv1] at hap hg2i
      simp (disch := first|omega|(simp only [np,ns];try omega)) [pun, pbinS, -BitVec.toNat_or, -BitVec.toNat_xor, -BitVec.toNat_add, -BitVec.toNat_and, -BitVec.toNat_not, -BitVec.toNat_shiftLeft, -BitVec.toNat_ushiftRight, pbin, pbinI, i64_small, IntKind.bits, h0, hKo, stm_st0, stm_ld8, stm_ld0, stm_ld9, stm_st8, stm_st9, fill_st, u32s_one, rowObj_st, hap, hg2i, hg2j]
      have hpl : ∀ q ∈ idOf (Value.slice pa2 (k0 + n + 1) pc2), q ≠ i ∧ q ≠ j := fun q hq => by
        rcases hid2 q hq with h1 | h1
        · exact ⟨(hidp q h1).1, (hidp q h1).2.1⟩
        · simp at h1; exact ⟨by omega, by omega⟩
      have hfr3 : Fr g' (g2.set i (.cells (stmC st' (.slice pa2 (k0 + n + 1) pc2) (.slice (some ⟨j, o + 64, none⟩) (L - 64) (lc' - 64)) T.length) true 1)) (i :: idOf pv1) :=
        ⟨by simpa using hg2n, fun q hq hx => by
          simp at hx
          rw [VH.get_set_ne _ _ hx.1, hg2 q hq hx.2 hx.1]⟩
      refine ⟨hlt, .slice pa2 (k0 + n + 1) pc2, .slice (some ⟨j, o + 64, none⟩) (L - 64) (lc' - 64), ⟨?_, ?_, by omega, ?_, ?_, ?_, ?_, ?_⟩, hfr.trans' hfr3 (fun y hy => ?_), fun q hq => ?_⟩
      · rw [VH.get_set_same, show k0 + (n + 1) = k0 + n + 1 by omega, hst2]
      · simp; omega
      · rw [show k0 + (n + 1) = k0 + n + 1 by omega, pastS_succ, stCells_snoc, hst2]
        exact hown2.congr (by simp) fun q hq => VH.get_set_ne _ _ (hpl q hq).1
      · refine .inr ⟨j, o + 64, lc' - 64, ds, by simp; omega, by omega, by rw [show T.length - 64 * (k0 + (n + 1)) = L - 64 by omega], by rw [VH.get_set_ne _ _ (Ne.symm hij)]; exact hg2j, ?_, by simp, ?_⟩
        · rw [← List.drop_drop, hdj, u8s, ← List.map_drop, List.drop_drop]
          congr 2
        · have h3 := congrArg List.length hdj
          simp at h3
          omega
      · exact fun hx => (hpl i hx).1 rfl
      · simp [idOf]; exact hij
      · intro q hq
        simp [idOf]
        exact (hpl q hq).2
      · rcases List.mem_cons.1 hy with rfl | hy
        · exact .inl (List.mem_cons_self ..)
        · rw [hpv1] at hy
          exact hids y (List.mem_cons_of_mem _ (List.mem_append_left _ hy))
      · rcases List.mem_cons.1 hq with rfl | hq
        · exact .inl (List.mem_cons_self ..)
        · rcases List.mem_append.1 hq with hq | hq
          · rcases hid2 q hq with h1 | h1
            · rw [hpv1] at h1
              exact hids q (List.mem_cons_of_mem _ (List.mem_append_left _ h1))
            · simp at h1
              have := hfr.n
              exact .inr (by omega)
          · simp [idOf] at hq
            subst hq
            exact hids q (List.mem_cons_of_mem _ (List.mem_append_right _ (by simp [idOf])))
    · obtain rfl : n = d := by omega
      have hL64' : ¬ ((64 : Int) ≤ (L : Int)) := by omega
      rw [← hL] at hKo
      simp (disch := first|omega|(simp only [np,ns];try omega)) [pun, pbinS, -BitVec.toNat_or, -BitVec.toNat_xor, -BitVec.toNat_add, -BitVec.toNat_and, -BitVec.toNat_not, -BitVec.toNat_shiftLeft, -BitVec.toNat_ushiftRight, pbin, pbinI, i64_small, IntKind.bits, h0, hKo, stm_ld9, hL64', r_sha_Stream_Write]
      refine ⟨.slice pa (k0 + n) pc, .slice la (T.length - 64 * (k0 + n)) lc, ?_, hfr, hids⟩
      have hq : T.length / 64 = k0 + n := by rw [hTl, hd]
      unfold IsStm
      rw [← hT, hq]
      exact hK
end Go.Proofs.Ytdnkpgbggpbgaaa.Sha
