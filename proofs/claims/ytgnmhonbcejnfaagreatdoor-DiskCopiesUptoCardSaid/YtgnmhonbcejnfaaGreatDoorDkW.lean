/- disk, part W: the reference: what is wrong of what is kept. -/
import Derived.Test.YtgnmhonbcejnfaaGreatDoorDkV
set_option linter.unusedVariables false
set_option linter.unusedSimpArgs false
set_option maxRecDepth 100000
namespace Go.Proofs.YtgnmhonbcejnfaaGreatDoor.Dk
open Go Go.RowKit Go.Proofs.YtgnmhonbcejnfaaGreatDoor.Pm Go.Proofs.YtgnmhonbcejnfaaGreatDoor.Fs
attribute [-simp] BitVec.toNat_or BitVec.toNat_xor BitVec.toNat_add BitVec.toNat_and BitVec.toNat_not BitVec.toNat_shiftLeft BitVec.toNat_ushiftRight


def NoName (l : List (List UInt8 × List Int)) (m : Nat) (nm : List UInt8) : Prop := ∀ x ∈ l.take m, x.1 ≠ nm
set_option maxHeartbeats 4000000 in
theorem rwrong_ok {D : Nat → Prop} {h : VH} {i : Nat} {v : Value} {rs : List Rr} {S : Ds} {kv : Value} {q : List ((List UInt8 × List Int) × Value)} (k : RRep h i v rs S) (hn : rs.length ≤ 64) (Q : KeepsAt D h kv q) :
    PCalls Tryz.prog f_ref06_Disk_Wrong [.pointer (some ⟨i, 0, none⟩), kv] h (fun u h' => u = .int .i64 (wrongD S.fs [] (q.map (·.1)) : Int) ∧ h' = h) := by
  refine PCalls_of_pw st_ref06_Disk_Wrong (by simp [n_ref06_Disk_Wrong]) ?_
  rw [b_ref06_Disk_Wrong]
  unfold B_ref06_Disk_Wrong
  have hr := k.rec_
  have hlen := Q.len
  obtain ⟨a, c, rfl⟩ := Q.shape
  obtain ⟨L, hL⟩ : ∃ L, L = q.length := ⟨_, rfl⟩
  rw [← hL] at Q hlen
  rw [← hL]
  obtain ⟨l, hl⟩ : ∃ l, l = q.map (·.1) := ⟨_, rfl⟩
  have hll : l.length = L := by rw [hl, hL]; simp
  rw [← hl]
  obtain ⟨W, hW⟩ : ∃ W, W = wrongD S.fs [] l := ⟨_, rfl⟩
  rw [← hW]
  simp (disch := first|omega|(simp only [np,ns];try omega)) []
  refine pw_loopN (fun n s g => g = h ∧ s 0 = .pointer (some ⟨i, 0, none⟩) ∧ s 1 = .slice a L c ∧ s 5 = .int .i64 (n : Int) ∧ wrongD S.fs (metL l n) (l.drop n) = W) L ?_ ?_
  · exact ⟨rfl, by simp [upd_apply, s0_apply], by simp [upd_apply, s0_apply], by simp [upd_apply], by simpa [metL] using hW.symm⟩
  rintro n s g hn1 ⟨rfl, e0, e1, e5, hw⟩
  by_cases hltn : n < L
  case neg =>
    obtain rfl : n = L := by omega
    have hz : W = 0 := by rw [← hw, List.drop_of_length_le (by omega)]; rfl
    simp (disch := first|omega|(simp only [np,ns];try omega)) [r_ref06_Disk_Wrong, e1, e5, hz]
  have hltI : (n : Int) < (L : Int) := by omega
  have hkk : IntKind.i64.wrap ((n : Int) + 1) = ((n + 1 : Nat) : Int) := by rw [i64_small (by omega) (by omega)]; omega
  obtain ⟨ia, oa, rfl, hia, hez, _, hld0, hld1⟩ := Q.at_ (k := n) (by omega)
  have hln : n < l.length := by omega
  have hlq : l[n] = (q[n]'(by omega)).1 := by simp [hl]
  obtain ⟨nm, hnm⟩ : ∃ nm, nm = (q[n]'(by omega)).1.1 := ⟨_, rfl⟩
  obtain ⟨zs, hzs⟩ : ∃ zs, zs = (q[n]'(by omega)).1.2 := ⟨_, rfl⟩
  obtain ⟨nv, hnv⟩ : ∃ nv, nv = (q[n]'(by omega)).2 := ⟨_, rfl⟩
  have hI := Q.ints (q[n]'(by omega)) (List.getElem_mem _)
  rw [← hnm] at hld0
  rw [← hnv] at hld1
  rw [← hnv, ← hzs] at hI
  obtain ⟨na, nc, hns⟩ := hI.shape
  rw [hns] at hld1 hI
  have hln2 : l[n] = (nm, zs) := by rw [hlq, hnm, hzs]
  have hwd : wrongD S.fs (metL l n) ((nm, zs) :: l.drop (n + 1)) = W := by rw [← hw, ← hln2, ← List.drop_eq_getElem_cons hln]
  have hms : metL l (n + 1) = nm :: metL l n := by rw [metL_succ hln, hln2]
  obtain ⟨M, hM⟩ : ∃ M, M = zs.length := ⟨_, rfl⟩
  rw [← hM] at hld1 hI
  have hIl := hI.2
  simp (disch := first|omega|(simp only [np,ns];try omega)) [e0, e1, e5, hltI, hltn, hez, hld0]
  refine (rfind_ok k hn (nm := nm)).mono ?_
  rintro u g' ⟨hat, hg'⟩
  rw [hg']
  rcases hat.find k.fs with ⟨ra, r, rb, hrs, hfd, hrn, hna, rfl⟩ | ⟨rfl, hfd⟩
  case inr =>
    have hW5 : W = 5 := by rw [← hwd]; simp [wrongD, hfd]
    simp (disch := first|omega|(simp only [np,ns];try omega)) [r_ref06_Disk_Wrong, hW5]
  have hneg : ¬ ((ra.length : Nat) : Int) < 0 := by omega
  obtain ⟨A, hA⟩ : ∃ A, A = ra.length := ⟨_, rfl⟩
  rw [← hA] at hneg
  rw [← hA]
  simp (disch := first|omega|(simp only [np,ns];try omega)) [hneg]
  refine pw_loopN (fun m s g' => g' = g ∧ s 0 = .pointer (some ⟨i, 0, none⟩) ∧ s 1 = .slice (some ⟨ia, oa, none⟩) L c ∧ s 5 = .int .i64 (n : Int) ∧ s 6 = .int .i64 (A : Int) ∧ s 7 = .int .i64 (m : Int) ∧ NoName l m nm) n ?_ ?_
  · exact ⟨rfl, by simp [upd_apply, e0], by simp [upd_apply, e1], by simp [upd_apply, e5], by simp [upd_apply], by simp [upd_apply], by simp [NoName]⟩
  rintro m s2 g2 hm1 ⟨hg2, e0', e1', e5', e6', e7', hnot⟩
  rw [hg2]
  by_cases hmn : m < n
  · have hmI : (m : Int) < (n : Int) := by omega
    have hkm : IntKind.i64.wrap ((m : Int) + 1) = ((m + 1 : Nat) : Int) := by rw [i64_small (by omega) (by omega)]; omega
    have hmL : m < L := by omega
    have hmLI : (m : Int) < (L : Int) := by omega
    obtain ⟨ib, ob, hib, _, hezb, _, hldb, _⟩ := Q.at_ (k := m) (by omega)
    injection hib with hib
    injection hib with hib hob
    subst hib
    subst hob
    have hlm : l[m]'(by omega) = (q[m]'(by omega)).1 := by simp [hl]
    obtain ⟨nb, hnb⟩ : ∃ nb, nb = (q[m]'(by omega)).1.1 := ⟨_, rfl⟩
    rw [← hnb] at hldb
    by_cases hnn : nb = nm
    · have hb1 : ((strB nb).toList == (strB nm).toList) = true := by rw [hnn]; simp
      have hmem : nm ∈ metL l n := by
        unfold metL
        rw [List.mem_reverse, List.mem_map]
        refine ⟨l[m]'(by omega), ?_, by rw [hlm, ← hnb]; exact hnn⟩
        rw [List.mem_take_iff_getElem]
        exact ⟨m, by omega, rfl⟩
      have hW6 : W = 6 := by rw [← hwd]; simp [wrongD, hfd, hmem]
      simp (disch := first|omega|(simp only [np,ns];try omega)) [r_ref06_Disk_Wrong, e1', e5', e7', hmI, hmn, hmL, hmLI, hez, hldb, hltn, hltI, hld0, hb1, hW6]
    · have hb1 : ((strB nb).toList == (strB nm).toList) = false := by rw [strB_toList, strB_toList]; simpa using hnn
      simp (disch := first|omega|(simp only [np,ns];try omega)) [e0', e1', e5', e6', e7', hmI, hmn, hmL, hmLI, hez, hldb, hltn, hltI, hld0, hb1, hkm]
      intro x hx
      rw [List.take_succ_eq_append_getElem (by omega), List.mem_append] at hx
      rcases hx with hx | hx
      · exact hnot x hx
      · simp at hx; subst hx; rw [hlm, ← hnb]; exact hnn
  obtain rfl : m = n := by omega
  have hmem : ¬ nm ∈ metL l m := by
    unfold metL
    rw [List.mem_reverse, List.mem_map]
    rintro ⟨x, hx, hxn⟩
    exact hnot x hx hxn
  have k' := k
  rw [hrs] at k'
  obtain ⟨qi, qo, qc, ds, hv, hc, hqi, hgq, hezq, _, _, _, _, _, hl3, _⟩ := k'.row
  have T := k.fil r (by rw [hrs]; simp)
  obtain ⟨_, _, bb, bd, _, hwv⟩ := T.shapes
  obtain ⟨V, hV⟩ : ∃ V, V = r.f.ws.length := ⟨_, rfl⟩
  obtain ⟨N, hN⟩ : ∃ N, N = rs.length := ⟨_, rfl⟩
  have hNab : N = A + 1 + rb.length := by rw [hN, hrs, hA]; simp; omega
  rw [hwv, ← hV, ← hA] at hl3
  rw [← hrs, ← hN] at hv
  rw [hv] at hr
  have hAN : A < N := by omega
  have hANI : (A : Int) < (N : Int) := by omega
  by_cases hVM : V < M
  · have hW1 : W = 1 := by rw [← hwd]; simp [wrongD, hfd, hmem, ← hV, ← hM, hVM]
    have hVMI : (V : Int) < (M : Int) := by omega
    simp (disch := first|omega|(simp only [np,ns];try omega)) [r_ref06_Disk_Wrong, e0', e1', e5', e6', e7', hltn, hltI, hez, hld1, hr, lr_0, hgq, hezq, hAN, hANI, hl3, hVMI, hVM, hW1]
  have hVMI : ¬ (V : Int) < (M : Int) := by omega
  simp (disch := first|omega|(simp only [np,ns];try omega)) [e0', e1', e5', e6', e7', hltn, hltI, hez, hld1, hr, lr_0, hgq, hezq, hAN, hANI, hl3, hVMI, hVM]
  refine pw_loopN (fun t s g' => g' = g ∧ s 0 = .pointer (some ⟨i, 0, none⟩) ∧ s 1 = .slice (some ⟨ia, oa, none⟩) L c ∧ s 5 = .int .i64 (m : Int) ∧ s 8 = .int .i64 (t : Int) ∧ (zs.take t).any (· < 0) = false) M ?_ ?_
  · exact ⟨rfl, by simp [upd_apply, e0'], by simp [upd_apply, e1'], by simp [upd_apply, e5'], by simp [upd_apply], by simp⟩
  rintro t s3 g3 ht1 ⟨hg3, e0'', e1'', e5'', e8'', hany⟩
  rw [hg3]
  by_cases htM : t < M
  · have htI : (t : Int) < (M : Int) := by omega
    have hkt : IntKind.i64.wrap ((t : Int) + 1) = ((t + 1 : Nat) : Int) := by rw [i64_small (by omega) (by omega)]; omega
    obtain ⟨iz, oz, rfl, hiz, hezz, hzld⟩ := hI.at_ (k := t) (by omega)
    obtain ⟨z, hz⟩ : ∃ z, z = zs.getD t 0 := ⟨_, rfl⟩
    rw [← hz] at hzld
    have hzm : zs.take (t + 1) = zs.take t ++ [z] := by
      rw [List.take_succ_eq_append_getElem (by omega), hz]
      simp [List.getD, List.getElem?_eq_getElem (show t < zs.length by omega)]
    by_cases hneg2 : z < 0
    · have hzin : z ∈ zs := by rw [hz]; simp [List.getD, List.getElem?_eq_getElem (show t < zs.length by omega)]
      have hW1 : W = 1 := by
        rw [← hwd]
        simp only [wrongD, hfd, hmem, if_false]
        rw [if_pos]
        exact .inr (List.any_eq_true.2 ⟨z, hzin, by simpa using hneg2⟩)
      simp (disch := first|omega|(simp only [np,ns];try omega)) [r_ref06_Disk_Wrong, e1'', e5'', e8'', hltn, hltI, hez, hld1, htI, htM, hezz, hzld, hneg2, hW1]
    · have hnx : (zs.take (t + 1)).any (· < 0) = false := by
        rw [hzm, List.any_append, hany]; simp; omega
      simp (disch := first|omega|(simp only [np,ns];try omega)) [e0'', e1'', e5'', e8'', hltn, hltI, hez, hld1, htI, htM, hezz, hzld, hneg2, hkt]
      simpa using hnx
  · obtain rfl : t = M := by omega
    rw [hM, List.take_length] at hany
    have hwn : wrongD S.fs (metL l (m + 1)) (l.drop (m + 1)) = W := by
      rw [hms, ← hwd]
      simp only [wrongD, hfd, hmem, if_false]
      rw [if_neg]
      rintro (h1 | h1)
      · omega
      · rw [hany] at h1; cases h1
    simp (disch := first|omega|(simp only [np,ns];try omega)) [e0'', e1'', e5'', e8'', hltn, hltI, hez, hld1, hkk]
    exact hwn

/- disk, part X: the reference: what a crash leaves of a file. -/

def crL : PC := (.seq (.ops [gI 78 (.fieldAddr 3 (.t 2)), gI 79 (.load .none (.t 78)), gM 80 8, gI 81 (.idxS 1 (.t 79) (.t 80)), gI 82 (.load .none (.t 81)), gM 11 82]) (.block 4 (.loop (.seq (.seq (.ops [gM 83 11, gI 84 (.fieldAddr 3 (.t 2)), gI 85 (.load .none (.t 84)), gM 86 8, gI 87 (.idxS 1 (.t 85) (.t 86)), gI 88 (.load .none (.t 87)), gM 89 10, gI 90 (.bin .add (.t 88) (.t 89)), gI 91 (.bin .lss (.t 83) (.t 90))]) (.cond (.t 91) .skip (.exit 4))) (.seq (.block 5 (.seq (.ops [gM 94 5, gM 95 11, gI 96 (.fieldAddr 1 (.t 2)), gI 97 (.load .none (.t 96)), gM 98 11, gI 99 (.idxS 1 (.t 97) (.t 98)), gI 100 (.load .none (.t 99)), gI 101 (.idxS 1 (.t 94) (.t 95)), gN (.store 1 (.t 101) (.t 100))]) (.ops [gM 102 11, gI 103 (.bin .add (.t 102) (.k (.int .i64 1))), gM 6 103]))) (.ops [gM 92 11, gI 93 (.bin .add (.t 92) (.k (.int .i64 1))), gM 11 93]))))))
def crB : PC := (.seq (.seq (.ops [gM 62 10, gM 63 9, gI 64 (.fieldAddr 3 (.t 2)), gI 65 (.load .none (.t 64)), gM 66 8, gI 67 (.idxS 1 (.t 65) (.t 66)), gI 68 (.load .none (.t 67)), gI 69 (.bin .sub (.t 63) (.t 68)), gI 70 (.bin .gtr (.t 62) (.t 69))]) (.cond (.t 70) (.ops [gM 71 9, gI 72 (.fieldAddr 3 (.t 2)), gI 73 (.load .none (.t 72)), gM 74 8, gI 75 (.idxS 1 (.t 73) (.t 74)), gI 76 (.load .none (.t 75)), gI 77 (.bin .sub (.t 71) (.t 76)), gM 10 77]) .skip)) crL)
def crA : PC := (.seq (.ops [gI 10 (.mov (.k (.int .i64 0)))]) (.seq (.seq (.ops [gM 54 8, gM 55 1, gI 56 (.lenS (.t 55)), gI 57 (.bin .lss (.t 54) (.t 56))]) (.cond (.t 57) (.ops [gM 58 1, gM 59 8, gI 60 (.idxS 1 (.t 58) (.t 59)), gI 61 (.load .none (.t 60)), gM 10 61]) .skip)) crB))
def crX : PC := (.seq (.ops [gI 39 (.fieldAddr 1 (.t 2)), gI 40 (.load .none (.t 39)), gI 41 (.lenS (.t 40)), gM 9 41]) (.seq (.seq (.ops [gM 42 8, gI 43 (.bin .add (.t 42) (.k (.int .i64 1))), gI 44 (.fieldAddr 3 (.t 2)), gI 45 (.load .none (.t 44)), gI 46 (.lenS (.t 45)), gI 47 (.bin .lss (.t 43) (.t 46))]) (.cond (.t 47) (.ops [gI 48 (.fieldAddr 3 (.t 2)), gI 49 (.load .none (.t 48)), gM 50 8, gI 51 (.bin .add (.t 50) (.k (.int .i64 1))), gI 52 (.idxS 1 (.t 49) (.t 51)), gI 53 (.load .none (.t 52)), gM 9 53]) .skip)) crA))
theorem cr_split : B_ref06_crash = (.seq (.ops [gI 2 (.box (.t 0)), gI 4 (.alloc [(.string (⟨(#[])⟩ : ByteArray)), (.slice .none 0 0), (.int .i64 0), (.slice .none 0 0)])]) (.seq (.ops [gI 12 (.fieldAddr 1 (.t 2)), gI 13 (.load .none (.t 12)), gI 14 (.lenS (.t 13)), gI 15 (.makeSl 1 1 [(.int .u8 0)] (.t 14) (.t 14)), gM 5 15]) (.seq (.ops [gI 16 (.fieldAddr 2 (.t 2)), gI 17 (.load .none (.t 16)), gM 6 17]) (.seq (.seq (.ops [gI 7 (.mov (.k (.int .i64 0)))]) (.block 0 (.loop (.seq (.seq (.ops [gM 18 7, gI 19 (.fieldAddr 2 (.t 2)), gI 20 (.load .none (.t 19)), gI 21 (.bin .lss (.t 18) (.t 20))]) (.cond (.t 21) .skip (.exit 0))) (.seq (.block 1 (.ops [gM 24 5, gM 25 7, gI 26 (.fieldAddr 1 (.t 2)), gI 27 (.load .none (.t 26)), gM 28 7, gI 29 (.idxS 1 (.t 27) (.t 28)), gI 30 (.load .none (.t 29)), gI 31 (.idxS 1 (.t 24) (.t 25)), gN (.store 1 (.t 31) (.t 30))])) (.ops [gM 22 7, gI 23 (.bin .add (.t 22) (.k (.int .i64 1))), gM 7 23])))))) (.seq (.seq (.ops [gI 8 (.mov (.k (.int .i64 0)))]) (.block 2 (.loop (.seq (.seq (.ops [gM 32 8, gI 33 (.fieldAddr 3 (.t 2)), gI 34 (.load .none (.t 33)), gI 35 (.lenS (.t 34)), gI 36 (.bin .lss (.t 32) (.t 35))]) (.cond (.t 36) .skip (.exit 2))) (.seq (.block 3 crX) (.ops [gM 37 8, gI 38 (.bin .add (.t 37) (.k (.int .i64 1))), gM 8 38])))))) (.seq (.draw [dI 104 (.fieldAddr 0 (.t 2)), dI 105 (.load .none (.t 104)), dM 106 5, dM 107 6, dI 108 (.slS 1 (.t 106) .none (.some (.t 107)) .none), dM 109 6, dI 110 (.build [(.string (⟨(#[])⟩ : ByteArray)), (.slice .none 0 0), (.int .i64 0), (.slice .none 0 0)] [(0, (1, (.t 105))), (1, (1, (.t 108))), (2, (1, (.t 109)))]), ⟨gN (.store 4 (.t 4) (.t 110)), []⟩]) .ret)))))) := rfl
/-! ### bytes and zeros behind them -/
def blz (T : Nat) (P : List UInt8) : List UInt8 := P ++ List.replicate (T - P.length) 0
theorem blz_len {T : Nat} {P : List UInt8} (h : P.length ≤ T) : (blz T P).length = T := by simp [blz]; omega
theorem blz_rep {T k : Nat} {P : List UInt8} (h : P.length + k ≤ T) : blz T (P ++ List.replicate k 0) = blz T P := by
  unfold blz
  rw [List.append_assoc, List.replicate_append_replicate]
  congr 2
  rw [List.length_append, List.length_replicate]
  omega
theorem blz_set {T : Nat} {P : List UInt8} {d : UInt8} (h : P.length < T) : (blz T P).set P.length d = blz T (P ++ [d]) := by
  unfold blz
  obtain ⟨k, hk⟩ : ∃ k, T - P.length = k + 1 := ⟨T - P.length - 1, by omega⟩
  have h2 : T - (P ++ [d]).length = k := by simp; omega
  rw [hk, h2, List.set_append_right _ _ (Nat.le_refl _), Nat.sub_self, List.replicate_succ, List.set_cons_zero, List.append_assoc]
  rfl
theorem blz_take {T : Nat} {P : List UInt8} : (blz T P).take P.length = P := by simp [blz]
/-- what is kept of one write more. -/
def nextP (cur : List UInt8) (p : Nat) (w : List UInt8) (m : Nat) : List UInt8 := if m = 0 then cur else cur ++ List.replicate (p - cur.length) 0 ++ w.take m
theorem nextP_len {cur w : List UInt8} {p m : Nat} (h : cur.length ≤ p) (hm : m ≤ w.length) : (nextP cur p w m).length = if m = 0 then cur.length else p + m := by
  unfold nextP
  split
  · rfl
  · simp; omega
theorem nextP_set {cur w : List UInt8} {T p m : Nat} (h : cur.length ≤ p) (hm : m < w.length) (hT : p + w.length ≤ T) : (blz T (nextP cur p w m)).set (p + m) (w.getD m 0) = blz T (nextP cur p w (m + 1)) := by
  have hw : w.take (m + 1) = w.take m ++ [w.getD m 0] := by
    rw [List.take_succ_eq_append_getElem hm]
    simp [List.getD, List.getElem?_eq_getElem hm]
  have h1 : blz T (nextP cur p w m) = blz T (cur ++ List.replicate (p - cur.length) 0 ++ w.take m) := by
    unfold nextP
    split
    · rename_i h0
      subst h0
      rw [List.take_zero, List.append_nil, blz_rep (by omega)]
    · rfl
  have h2 : (cur ++ List.replicate (p - cur.length) 0 ++ w.take m).length = p + m := by simp; omega
  have h3 := blz_set (T := T) (P := cur ++ List.replicate (p - cur.length) 0 ++ w.take m) (d := w.getD m 0) (by omega)
  rw [h2] at h3
  rw [h1, h3, nextP, if_neg (by omega), hw, List.append_assoc _ (w.take m)]

/-- the slots and the heap, in a crash. -/
structure CE (h : VH) (x : Rr) (ba bb : Option Addr) (bc bd : Nat) (nv : Value) (P : List UInt8) (s : Slots) (g : VH) : Prop where
  e1 : s 1 = nv
  e2 : s 2 = .pointer (some ⟨h.n, 0, none⟩)
  e4 : s 4 = .pointer (some ⟨h.n + 1, 0, none⟩)
  e5 : s 5 = .slice (some ⟨h.n + 2, 0, none⟩) x.f.all.length x.f.all.length
  fr : Fr h g []
  n : h.n + 2 < g.n
  g0 : g.get h.n = .cells [.string (strB x.f.nm), .slice ba x.f.all.length bc, .int .i64 (x.f.s.length : Int), .slice bb x.f.ws.length bd] true 1
  g1 : g.get (h.n + 1) = .cells zF true 1
  g2 : g.get (h.n + 2) = .cells (u8s (blz x.f.all.length P)) true 1
/-- what is given: the file's rows. -/
structure CG (h : VH) (x : Rr) (ba bb : Option Addr) (bc bd : Nat) (nv : Value) (zs : List Int) : Prop where
  T : RfAt h x
  o : OkF x.f
  hb : x.bv = .slice ba x.f.all.length bc
  hw : x.wv = .slice bb x.f.ws.length bd
  I : IntsAt h nv zs
  nn : ∀ z ∈ zs, 0 ≤ z
theorem CG.wat {h : VH} {x : Rr} {ba bb : Option Addr} {bc bd : Nat} {nv : Value} {zs : List Int} (G : CG h x ba bb bc bd nv zs) {i : Nat} (hi : i < x.f.ws.length) :
    ∃ q o ds, bb = some ⟨q, o, none⟩ ∧ q < h.n ∧ h.get q = .cells ds true 1 ∧ eszObj (.cells ds true 1) 1 = true ∧ ∀ k, k < x.f.ws.length → loadObj (.cells ds true 1) (o + k) none = some (.int .i64 ((x.f.s.length + upto x.f.ws k : Nat) : Int)) := by
  have hw := G.T.w
  rw [G.hw] at hw
  have hat : ∀ (n : Nat) (ws : List (List UInt8)) (k : Nat), k < ws.length → (atL n ws)[k]? = some (n + upto ws k) := by
    intro n ws
    induction ws generalizing n with
    | nil => intro k hk; simp at hk
    | cons w r ih =>
      intro k hk
      cases k with
      | zero => simp [atL, upto]
      | succ k =>
        simp only [atL, List.getElem?_cons_succ]
        rw [ih (n + w.length) k (by simpa using hk)]
        simp [upto]; omega
  rcases hw with ⟨_, _, h1⟩ | ⟨q, o, c, ds, h1, h2, h3, h4, h5, h6⟩
  · omega
  · injection h3 with h3
    refine ⟨q, o, ds, h3, h1, h4, rfl, fun k hk => ?_⟩
    show ds[o + k]? = _
    have h7 := congrArg (fun l : List Value => l[k]?) h5
    simp only [intsL, List.getElem?_map, hat _ _ _ hk, Option.map_some] at h7
    rw [List.getElem?_take, if_pos (by omega), List.getElem?_drop] at h7
    exact h7
theorem CG.bat {h : VH} {x : Rr} {ba bb : Option Addr} {bc bd : Nat} {nv : Value} {zs : List Int} (G : CG h x ba bb bc bd nv zs) {i : Nat} (hi : i < x.f.all.length) :
    ∃ q o, ba = some ⟨q, o, none⟩ ∧ q < h.n ∧ eszObj (h.get q) 1 = true ∧ ∀ k, k < x.f.all.length → loadObj (h.get q) (o + k) none = some (.int .u8 (x.f.all.getD k 0).toNat) := by
  have hb := G.T.b.bytes
  rw [G.hb] at hb
  rcases hb.cases with ⟨_, h1⟩ | ⟨q, o, c, h1, h2, h3, h4⟩
  · rw [h1] at hi; simp at hi
  · injection h3 with h3
    refine ⟨q, o, h3, h1, h4.esz, fun k hk => ?_⟩
    rw [h4.at_ hk]
    simp [List.getD, List.getElem?_eq_getElem hk]
theorem all_at {f : Fl} {n : Nat} (hn : n < f.ws.length) {m : Nat} (hm : m < (f.ws.getD n []).length) : f.all.getD (f.s.length + upto f.ws n + m) 0 = (f.ws.getD n []).getD m 0 := by
  have h1 : f.ws.getD n [] = f.ws[n] := by simp [List.getD, hn]
  rw [h1] at hm ⊢
  have h2 : f.ws = f.ws.take n ++ f.ws[n] :: f.ws.drop (n + 1) := at_split hn
  have h3 : f.all = f.s ++ ((f.ws.take n).flatten ++ (f.ws[n] ++ (f.ws.drop (n + 1)).flatten)) := by
    unfold Fl.all
    congr 1
    have := congrArg List.flatten h2
    rw [List.flatten_append, List.flatten_cons] at this
    exact this
  rw [h3]
  simp only [List.getD_eq_getElem?_getD]
  rw [List.getElem?_append_right (by omega), List.getElem?_append_right (by unfold upto; omega), List.getElem?_append_left (by unfold upto; omega)]
  congr 2
  unfold upto
  omega
set_option maxHeartbeats 4000000 in
theorem crL_ok {h : VH} {x : Rr} {ba bb : Option Addr} {bc bd : Nat} {nv : Value} {zs : List Int} (G : CG h x ba bb bc bd nv zs) {Q : Exit → Slots → VH → Prop} {n keep p : Nat} {cur w : List UInt8} {s : Slots} {g : VH} (hn : n < x.f.ws.length) (hp : p = x.f.s.length + upto x.f.ws n) (hw : w = x.f.ws.getD n []) (hk : keep ≤ w.length) (hc : cur.length ≤ p)
    (E : CE h x ba bb bc bd nv cur s g) (e6 : s 6 = .int .i64 (cur.length : Int)) (e8 : s 8 = .int .i64 (n : Int)) (e10 : s 10 = .int .i64 (keep : Int))
    (hQ : ∀ s g, CE h x ba bb bc bd nv (nextP cur p w keep) s g → s 6 = .int .i64 ((nextP cur p w keep).length : Int) → s 8 = .int .i64 (n : Int) → Q .normal s g) : pw Tryz.prog crL s g Q := by
  obtain ⟨wq, wo, wds, rfl, hwq, hwg, hwe, hwl⟩ := G.wat hn
  have hld := hwl n hn
  rw [← hp] at hld
  have hup := upto_succ hn
  rw [← hw] at hup
  have hT : p + w.length ≤ x.f.all.length := by
    have h1 := upto_mono (ws := x.f.ws) (show n + 1 ≤ x.f.ws.length by omega)
    rw [upto_all] at h1
    have : x.f.all.length = x.f.s.length + x.f.ws.flatten.length := by simp [Fl.all]
    omega
  have hsz := G.o.sz
  have hwlen := G.o.wl
  have hloop : pw Tryz.prog crL s g Q := by
    unfold crL
    have E2 := E.e2
    have E0 := E.g0
    have hwg' : g.get wq = .cells wds true 1 := (E.fr.get wq hwq (by simp)).trans hwg
    have hnI : (n : Int) < (x.f.ws.length : Int) := by omega
    simp (disch := first|omega|(simp only [np,ns];try omega)) [E2, E0, l4_3, e8, hn, hnI, hwg', hwe, hld]
    refine pw_loopN (fun m s g => CE h x ba (some ⟨wq, wo, none⟩) bc bd nv (nextP cur p w m) s g ∧ s 6 = .int .i64 ((nextP cur p w m).length : Int) ∧ s 8 = .int .i64 (n : Int) ∧ s 10 = .int .i64 (keep : Int) ∧ s 11 = .int .i64 ((p + m : Nat) : Int)) keep ?_ ?_
    · exact ⟨⟨by simp [upd_apply, E.e1], by simp [upd_apply, E.e2], by simp [upd_apply, E.e4], by simp [upd_apply, E.e5], E.fr, E.n, E.g0, E.g1, by simpa [nextP] using E.g2⟩, by simp [upd_apply, e6, nextP], by simp [upd_apply, e8], by simp [upd_apply, e10], by simp [upd_apply]⟩
    rintro m s2 g2 hmk ⟨⟨a1, a2, a4, a5, F, hn2, b0, b1, b2⟩, c6, c8, c10, c11⟩
    obtain ⟨j, hj⟩ : ∃ j, j = p + m := ⟨_, rfl⟩
    rw [← hj] at c11
    have hwg2 : g2.get wq = .cells wds true 1 := (F.get wq hwq (by simp)).trans hwg
    have hsum : IntKind.i64.wrap ((p : Int) + (keep : Int)) = (p : Int) + (keep : Int) := i64_small (by omega) (by omega)
    by_cases hlt : m < keep
    · have hltI : (j : Int) < (p : Int) + (keep : Int) := by omega
      obtain ⟨q, o, rfl, hq, hez, hbl⟩ := G.bat (i := j) (by omega)
      have hbj := hbl j (by omega)
      rw [hj, hp, all_at hn (by rw [← hw]; omega), ← hw, ← hp, ← hj] at hbj
      have hqg : g2.get q = h.get q := F.get q hq (by simp)
      obtain ⟨T, hTT⟩ : ∃ T, T = x.f.all.length := ⟨_, rfl⟩
      rw [← hTT] at b0 b2 a5 hT
      have hjT : j < T := by omega
      have hjTI : (j : Int) < (T : Int) := by omega
      have hcl : (nextP cur p w m).length ≤ T := by rw [nextP_len hc (by omega)]; split <;> omega
      have hst := storeObj_int (cs := u8s (blz T (nextP cur p w m))) (e := 1) (o := j) (k := .u8) (n := ((w.getD m 0).toNat : Int)) (by simp [blz_len hcl]; exact hjT)
      rw [u8s_set, hj, nextP_set hc (by omega) hT, ← hj] at hst
      have hez2 : eszObj (.cells (u8s (blz T (nextP cur p w m))) true 1) 1 = true := rfl
      have hkk : IntKind.i64.wrap ((j : Int) + 1) = ((p + (m + 1) : Nat) : Int) := by rw [i64_small (by omega) (by omega)]; omega
      have hl : (nextP cur p w (m + 1)).length = p + (m + 1) := by rw [nextP_len hc (by omega), if_neg (by omega)]
      obtain ⟨j1, hj1⟩ : ∃ j1, j1 = p + (m + 1) := ⟨_, rfl⟩
      rw [← hj1] at hkk hl
      obtain ⟨d, hd⟩ : ∃ d, d = ((w.getD m 0).toNat : Int) := ⟨_, rfl⟩
      rw [← hd] at hst hbj
      obtain ⟨g3, hg3⟩ : ∃ g3, g3 = g2.set (h.n + 2) (.cells (u8s (blz T (nextP cur p w (m + 1)))) true 1) := ⟨_, rfl⟩
      have F3 : Fr g2 g3 [h.n + 2] := by rw [hg3]; exact Fr.set _ _ (by simp)
      simp (disch := first|omega|(simp only [np,ns];try omega)) [a2, b0, l4_3, l4_1, c8, hn, hnI, hwg2, hwe, hld, c10, c11, hsum, hltI, hlt, hqg, hez, hbj, a5, b2, hez2, hjT, hjTI, hst, ← hg3, hkk]
      refine ⟨⟨by simp [upd_apply, a1], by simp [upd_apply, a2], by simp [upd_apply, a4], by simp [upd_apply, a5, hTT], F.trans' F3 (fun y hy => by simp at hy; exact .inr (by omega)), by have := F3.n; omega, ?_, ?_, ?_⟩, ?_, ?_⟩
      · rw [F3.get _ (by omega) (by simp), ← hTT]; exact b0
      · rw [F3.get _ (by omega) (by simp)]; exact b1
      · rw [hg3, VH.get_set_same, hTT]
      · rw [hl]
      · rw [hj1]; omega
    · obtain rfl : m = keep := by omega
      have hltI : ¬ (j : Int) < (p : Int) + (m : Int) := by omega
      simp (disch := first|omega|(simp only [np,ns];try omega)) [a2, b0, l4_3, c8, hn, hnI, hwg2, hwe, hld, c10, c11, hsum, hltI]
      exact hQ _ _ ⟨by simp [upd_apply, a1], by simp [upd_apply, a2], by simp [upd_apply, a4], by simp [upd_apply, a5], F, hn2, b0, b1, b2⟩ (by simp [upd_apply, c6]) (by simp [upd_apply, c8])
  exact hloop

/- disk, part Xa: the reference: what a crash leaves of a file, write by write. -/

/-- how much is kept of the n-th write. -/
def keepN (zs : List Int) (n : Nat) (w : List UInt8) : Nat := if n < zs.length then min (zs.getD n 0).toNat w.length else 0
theorem keepN_le (zs : List Int) (n : Nat) (w : List UInt8) : keepN zs n w ≤ w.length := by unfold keepN; split <;> omega
theorem crashL_step {ws : List (List UInt8)} {zs : List Int} {n p : Nat} {cur w : List UInt8} (hws : ws[n]? = some w) (hw : w ≠ []) (hnn : ∀ z ∈ zs, 0 ≤ z) : crashL cur p (ws.drop n) (zs.drop n) = crashL (nextP cur p w (keepN zs n w)) (p + w.length) (ws.drop (n + 1)) (zs.drop (n + 1)) := by
  have hpos := List.length_pos_iff.2 hw
  rw [drop_of hws]
  by_cases hn : n < zs.length
  · obtain ⟨z, hz⟩ : ∃ z, z = zs.getD n 0 := ⟨_, rfl⟩
    have hzs : zs[n]? = some z := by rw [hz]; simp [List.getD, hn]
    have h0 := hnn z (List.mem_of_getElem? hzs)
    rw [drop_of hzs, crashL_cons]
    unfold keepN
    rw [if_pos hn, ← hz]
    by_cases hz0 : z = 0
    · rw [if_pos hz0, hz0]
      simp [nextP]
    · rw [if_neg hz0]
      have hk : min z.toNat w.length ≠ 0 := by omega
      unfold nextP
      rw [if_neg hk]
      congr 2
      rw [List.take_eq_take_iff]
      omega
  · have h1 : zs.drop n = [] := List.drop_of_length_le (by omega)
    have h2 : zs.drop (n + 1) = [] := List.drop_of_length_le (by omega)
    rw [h1, h2, crashL_nil, crashL_nil]
    unfold keepN nextP
    rw [if_neg hn, if_pos rfl]
section
variable {h : VH} {x : Rr} {ba bb : Option Addr} {bc bd : Nat} {nv : Value} {zs : List Int} {Q : Exit → Slots → VH → Prop} {n p : Nat} {cur w : List UInt8} {s : Slots} {g : VH}
theorem CE.upd1 (E : CE h x ba bb bc bd nv cur s g) {s2 : Slots} (h1 : s2 1 = s 1) (h2 : s2 2 = s 2) (h4 : s2 4 = s 4) (h5 : s2 5 = s 5) : CE h x ba bb bc bd nv cur s2 g :=
  ⟨h1.trans E.e1, h2.trans E.e2, h4.trans E.e4, h5.trans E.e5, E.fr, E.n, E.g0, E.g1, E.g2⟩
set_option maxHeartbeats 2000000 in
theorem crB_ok (G : CG h x ba bb bc bd nv zs) {z : Int} {keep : Nat} (hn : n < x.f.ws.length) (hp : p = x.f.s.length + upto x.f.ws n) (hw : w = x.f.ws.getD n []) (hc : cur.length ≤ p) (hz : 0 ≤ z) (hk : keep = min z.toNat w.length)
    (E : CE h x ba bb bc bd nv cur s g) (e6 : s 6 = .int .i64 (cur.length : Int)) (e8 : s 8 = .int .i64 (n : Int)) (e9 : s 9 = .int .i64 ((p + w.length : Nat) : Int)) (e10 : s 10 = .int .i64 z)
    (hQ : ∀ s g, CE h x ba bb bc bd nv (nextP cur p w keep) s g → s 6 = .int .i64 ((nextP cur p w keep).length : Int) → s 8 = .int .i64 (n : Int) → Q .normal s g) : pw Tryz.prog crB s g Q := by
  have hnI : (n : Int) < (x.f.ws.length : Int) := by omega
  have hup := upto_succ hn
  rw [← hw] at hup
  have hT : p + w.length ≤ x.f.all.length := by
    have h1 := upto_mono (ws := x.f.ws) (show n + 1 ≤ x.f.ws.length by omega)
    rw [upto_all] at h1
    have : x.f.all.length = x.f.s.length + x.f.ws.flatten.length := by simp [Fl.all]
    omega
  have hsz := G.o.sz
  obtain ⟨wq, wo, wds, rfl, hwq, hwg, hwe, hwl⟩ := G.wat hn
  have hld := hwl n hn
  rw [← hp] at hld
  have hwg' : g.get wq = .cells wds true 1 := (E.fr.get wq hwq (by simp)).trans hwg
  have E2 := E.e2
  have E0 := E.g0
  obtain ⟨Lw, hLw⟩ : ∃ Lw, Lw = w.length := ⟨_, rfl⟩
  obtain ⟨t, ht⟩ : ∃ t, t = p + Lw := ⟨_, rfl⟩
  rw [← hLw, ← ht] at e9
  have hsub : IntKind.i64.wrap ((t : Int) - (p : Int)) = (Lw : Int) := by rw [i64_small (by omega) (by omega)]; omega
  unfold crB
  by_cases hlt : (Lw : Int) < z
  · simp (disch := first|omega|(simp only [np,ns];try omega)) [E2, E0, l4_3, e8, hn, hnI, hwg', hwe, hld, e9, e10, hsub, hlt]
    refine crL_ok G hn hp hw (keep := keep) (by omega) hc (E.upd1 (by simp [upd_apply]) (by simp [upd_apply]) (by simp [upd_apply]) (by simp [upd_apply])) (by simp [upd_apply, e6]) (by simp [upd_apply, e8]) ?_ hQ
    have : keep = Lw := by omega
    simp [upd_apply, this]
  · simp (disch := first|omega|(simp only [np,ns];try omega)) [E2, E0, l4_3, e8, hn, hnI, hwg', hwe, hld, e9, e10, hsub, hlt]
    refine crL_ok G hn hp hw (keep := keep) (by omega) hc (E.upd1 (by simp [upd_apply]) (by simp [upd_apply]) (by simp [upd_apply]) (by simp [upd_apply])) (by simp [upd_apply, e6]) (by simp [upd_apply, e8]) ?_ hQ
    have : (keep : Int) = z := by omega
    simp [upd_apply, this, e10]
theorem crA_ok (G : CG h x ba bb bc bd nv zs) (hn : n < x.f.ws.length) (hp : p = x.f.s.length + upto x.f.ws n) (hw : w = x.f.ws.getD n []) (hc : cur.length ≤ p)
    (E : CE h x ba bb bc bd nv cur s g) (e6 : s 6 = .int .i64 (cur.length : Int)) (e8 : s 8 = .int .i64 (n : Int)) (e9 : s 9 = .int .i64 ((p + w.length : Nat) : Int))
    (hQ : ∀ s g, CE h x ba bb bc bd nv (nextP cur p w (keepN zs n w)) s g → s 6 = .int .i64 ((nextP cur p w (keepN zs n w)).length : Int) → s 8 = .int .i64 (n : Int) → Q .normal s g) : pw Tryz.prog crA s g Q := by
  obtain ⟨na, nc, hnv⟩ := G.I.shape
  have hI := G.I
  obtain ⟨M, hM⟩ : ∃ M, M = zs.length := ⟨_, rfl⟩
  rw [← hM] at hnv
  rw [hnv] at hI
  have E1 := E.e1
  rw [hnv] at E1
  unfold crA
  by_cases hlt : n < M
  · have hltI : (n : Int) < (M : Int) := by omega
    obtain ⟨q, o, rfl, hq, hez, hld⟩ := hI.at_ (k := n) (by omega)
    have hqg : g.get q = h.get q := E.fr.get q hq (by simp)
    obtain ⟨z, hz⟩ : ∃ z, z = zs.getD n 0 := ⟨_, rfl⟩
    rw [← hz] at hld
    have hz0 : 0 ≤ z := by rw [hz]; exact G.nn _ (by simp [List.getD, List.getElem?_eq_getElem (show n < zs.length by omega)])
    have hk : keepN zs n w = min z.toNat w.length := by unfold keepN; rw [if_pos (by omega), ← hz]
    rw [hk] at hQ
    simp (disch := first|omega|(simp only [np,ns];try omega)) [E1, e8, hltI, hlt, hqg, hez, hld]
    exact crB_ok G hn hp hw hc hz0 rfl (E.upd1 (by simp [upd_apply]) (by simp [upd_apply]) (by simp [upd_apply]) (by simp [upd_apply])) (by simp [upd_apply, e6]) (by simp [upd_apply, e8]) (by simp only [upd_apply]; simp; simpa using e9) (by simp [upd_apply]) hQ
  · have hltI : ¬ (n : Int) < (M : Int) := by omega
    have hk : keepN zs n w = min (0 : Int).toNat w.length := by unfold keepN; rw [if_neg (by omega)]; simp
    rw [hk] at hQ
    simp (disch := first|omega|(simp only [np,ns];try omega)) [E1, e8, hltI, hlt]
    exact crB_ok G hn hp hw hc (z := 0) (by omega) rfl (E.upd1 (by simp [upd_apply]) (by simp [upd_apply]) (by simp [upd_apply]) (by simp [upd_apply])) (by simp [upd_apply, e6]) (by simp [upd_apply, e8]) (by simp only [upd_apply]; simp; simpa using e9) (by simp [upd_apply]) hQ
theorem crX_ok (G : CG h x ba bb bc bd nv zs) (hn : n < x.f.ws.length) (hp : p = x.f.s.length + upto x.f.ws n) (hw : w = x.f.ws.getD n []) (hc : cur.length ≤ p)
    (E : CE h x ba bb bc bd nv cur s g) (e6 : s 6 = .int .i64 (cur.length : Int)) (e8 : s 8 = .int .i64 (n : Int))
    (hQ : ∀ s g, CE h x ba bb bc bd nv (nextP cur p w (keepN zs n w)) s g → s 6 = .int .i64 ((nextP cur p w (keepN zs n w)).length : Int) → s 8 = .int .i64 (n : Int) → Q .normal s g) : pw Tryz.prog crX s g Q := by
  have hsz := G.o.sz
  have hwl0 := G.o.wl
  have hup := upto_succ hn
  rw [← hw] at hup
  obtain ⟨wq, wo, wds, rfl, hwq, hwg, hwe, hwl⟩ := G.wat hn
  have hwg' : g.get wq = .cells wds true 1 := (E.fr.get wq hwq (by simp)).trans hwg
  have E2 := E.e2
  have E0 := E.g0
  have hadd : IntKind.i64.wrap ((n : Int) + 1) = ((n + 1 : Nat) : Int) := by rw [i64_small (by omega) (by omega)]; omega
  obtain ⟨n1, hn1⟩ : ∃ n1, n1 = n + 1 := ⟨_, rfl⟩
  rw [← hn1] at hadd
  unfold crX
  by_cases hlt : n1 < x.f.ws.length
  · have hltI : (n1 : Int) < (x.f.ws.length : Int) := by omega
    have hld := hwl n1 hlt
    have e9 : x.f.s.length + upto x.f.ws n1 = p + w.length := by rw [hn1, hup]; omega
    rw [e9] at hld
    obtain ⟨t, ht⟩ : ∃ t, t = p + w.length := ⟨_, rfl⟩
    rw [← ht] at hld
    simp (disch := first|omega|(simp only [np,ns];try omega)) [E2, E0, l4_1, l4_3, e8, hadd, hlt, hltI, hwg', hwe, hld]
    exact crA_ok G hn hp hw hc (E.upd1 (by simp [upd_apply]) (by simp [upd_apply]) (by simp [upd_apply]) (by simp [upd_apply])) (by simp [upd_apply, e6]) (by simp [upd_apply, e8]) (by rw [← ht]; simp [upd_apply]) hQ
  · have hltI : ¬ (n1 : Int) < (x.f.ws.length : Int) := by omega
    have e9 : x.f.all.length = p + w.length := by
      have h1 : x.f.all.length = x.f.s.length + x.f.ws.flatten.length := by simp [Fl.all]
      have h2 : n + 1 = x.f.ws.length := by omega
      have h3 := upto_all x.f.ws
      rw [← h2, hup] at h3
      omega
    simp (disch := first|omega|(simp only [np,ns];try omega)) [E2, E0, l4_1, l4_3, e8, hadd, hlt, hltI]
    exact crA_ok G hn hp hw hc (E.upd1 (by simp [upd_apply]) (by simp [upd_apply]) (by simp [upd_apply]) (by simp [upd_apply])) (by simp [upd_apply, e6]) (by simp [upd_apply, e8]) (by rw [← e9]; simp [upd_apply]) hQ
end

/- disk, part Xb: the reference: what a crash leaves of a file, walked. -/

def CrK (x : Rr) (zs : List Int) (cur : List UInt8) (n : Nat) : Prop := cur.length ≤ x.f.s.length + upto x.f.ws n ∧ crashL cur (x.f.s.length + upto x.f.ws n) (x.f.ws.drop n) (zs.drop n) = crashL x.f.s x.f.s.length x.f.ws zs
set_option maxHeartbeats 4000000 in
theorem rcrash_ok {h : VH} {x : Rr} {nv : Value} {zs : List Int} (T : RfAt h x) (o : OkF x.f) (I : IntsAt h nv zs) (nn : ∀ z ∈ zs, 0 ≤ z) :
    PCalls Tryz.prog f_ref06_crash [rowV x, nv] h (fun u h' => ∃ w : Value, u = .agg #[.string (strB x.f.nm), w, .int .i64 ((crashL x.f.s x.f.s.length x.f.ws zs).length : Int), .slice none 0 0] ∧ OwnP h' 1 w (u8s (crashL x.f.s x.f.s.length x.f.ws zs)) (crashL x.f.s x.f.s.length x.f.ws zs).length ∧ Fr h h' [] ∧ ∀ y ∈ idOf w, h.n ≤ y) := by
  refine PCalls_of_pw st_ref06_crash (by simp [n_ref06_crash]) ?_
  rw [b_ref06_crash, cr_split]
  obtain ⟨ba, bc, bb, bd, hb, hw⟩ := T.shapes
  have G : CG h x ba bb bc bd nv zs := ⟨T, o, hb, hw, I, nn⟩
  have hsz := o.sz
  have hwl := o.wl
  obtain ⟨Ta, hTa⟩ : ∃ Ta, Ta = x.f.all.length := ⟨_, rfl⟩
  obtain ⟨A, hA⟩ : ∃ A, A = x.f.s.length := ⟨_, rfl⟩
  obtain ⟨W, hW⟩ : ∃ W, W = x.f.ws.length := ⟨_, rfl⟩
  have hAT : A + x.f.ws.flatten.length = Ta := by rw [hA, hTa]; simp [Fl.all]
  obtain ⟨na, nc, hnv⟩ := I.shape
  obtain ⟨g1, hg1⟩ : ∃ g1, g1 = h.push (.cells [.string (strB x.f.nm), .slice ba Ta bc, .int .i64 (A : Int), .slice bb W bd] true 1) := ⟨_, rfl⟩
  obtain ⟨g2, hg2⟩ : ∃ g2, g2 = g1.push (.cells zF true 1) := ⟨_, rfl⟩
  have hone : ([.string (strB x.f.nm), .slice ba Ta bc, .int .i64 (A : Int), .slice bb W bd] : List Value).all Value.oneCell' = true := rfl
  have hmade : madeRow [.int .u8 0] Ta = u8s (blz Ta []) := by simp [madeRow, u8s, blz]
  obtain ⟨g3, hg3⟩ : ∃ g3, g3 = g2.push (.cells (u8s (blz Ta [])) true 1) := ⟨_, rfl⟩
  have n1 : g1.n = h.n + 1 := by rw [hg1]; rfl
  have n2 : g2.n = h.n + 2 := by rw [hg2]; simp [n1]
  have n3 : g3.n = h.n + 3 := by rw [hg3]; simp [n2]
  have F3 : Fr h g3 [] := by rw [hg3, hg2, hg1]; exact Fr_push (Fr_push (Fr_push (Fr.refl _ _)))
  have c1 : g1.get h.n = .cells [.string (strB x.f.nm), .slice ba Ta bc, .int .i64 (A : Int), .slice bb W bd] true 1 := by rw [hg1, VH.get_push_new]
  have c2 : g2.get h.n = .cells [.string (strB x.f.nm), .slice ba Ta bc, .int .i64 (A : Int), .slice bb W bd] true 1 := by rw [hg2, VH.get_push_lt _ _ (by omega)]; exact c1
  have d2 : g2.get (h.n + 1) = .cells zF true 1 := by rw [hg2, ← n1, VH.get_push_new]
  have c3 : g3.get h.n = .cells [.string (strB x.f.nm), .slice ba Ta bc, .int .i64 (A : Int), .slice bb W bd] true 1 := by rw [hg3, VH.get_push_lt _ _ (by omega)]; exact c2
  have d3 : g3.get (h.n + 1) = .cells zF true 1 := by rw [hg3, VH.get_push_lt _ _ (by omega)]; exact d2
  have e3 : g3.get (h.n + 2) = .cells (u8s (blz Ta [])) true 1 := by rw [hg3, ← n2, VH.get_push_new]
  obtain ⟨B, hB⟩ : ∃ B, B = crashL x.f.s x.f.s.length x.f.ws zs := ⟨_, rfl⟩
  have hBl : B.length ≤ Ta := by rw [hB, ← hA]; exact crashL_len Ta x.f.ws zs x.f.s A (by omega) (by omega)
  rw [← hB]
  have hrow : rowV x = .agg #[.string (strB x.f.nm), .slice ba Ta bc, .int .i64 (A : Int), .slice bb W bd] := by rw [rowV, hb, hw, hTa, hA, hW]
  rw [hrow]
  have hTb : (0 : Int) ≤ (Ta : Int) ∧ (Ta : Int) ≤ (Ta : Int) ∧ (Ta : Int) * 1 ≤ 140737488355328 := by omega
  simp (disch := first|omega|(simp only [np,ns];try omega)) [hone, ← hg1, n1, ← hg2, c2, l4_1, l4_2, hTb, hmade, n2, ← hg3, c3]
  refine pw_loopN (fun n s g => CE h x ba bb bc bd nv (x.f.s.take n) s g ∧ s 6 = .int .i64 (A : Int) ∧ s 7 = .int .i64 (n : Int)) A ?_ ?_
  · refine ⟨⟨by simp [upd_apply, s0_apply], by simp [upd_apply], by simp [upd_apply], by rw [← hTa]; simp [upd_apply], F3, by omega, by rw [← hTa, ← hA, ← hW]; exact c3, d3, by rw [← hTa]; exact e3⟩, by simp [upd_apply], by simp [upd_apply]⟩
  rintro n s g hn ⟨E, e6, e7⟩
  have E2 := E.e2
  have E5 := E.e5
  have E0 := E.g0
  have Eb := E.g2
  rw [← hTa] at E5
  rw [← hTa, ← hA, ← hW] at E0
  rw [← hTa] at Eb
  by_cases hlt : n < A
  · have hltI : (n : Int) < (A : Int) := by omega
    have hkk : IntKind.i64.wrap ((n : Int) + 1) = ((n + 1 : Nat) : Int) := by rw [i64_small (by omega) (by omega)]; omega
    obtain ⟨q, oo, rfl, hq, hez, hbl⟩ := G.bat (i := n) (by omega)
    have hbj := hbl n (by omega)
    have hqg : g.get q = h.get q := E.fr.get q hq (by simp)
    have hsn : x.f.all.getD n 0 = x.f.s.getD n 0 := by
      unfold Fl.all
      simp only [List.getD_eq_getElem?_getD]
      rw [List.getElem?_append_left (by omega)]
    rw [hsn] at hbj
    have hnT : n < Ta := by omega
    have hnTI : (n : Int) < (Ta : Int) := by omega
    have hpl : (x.f.s.take n).length = n := by rw [List.length_take]; omega
    have hst := storeObj_int (cs := u8s (blz Ta (x.f.s.take n))) (e := 1) (o := n) (k := .u8) (n := ((x.f.s.getD n 0).toNat : Int)) (by simp [blz_len (show (x.f.s.take n).length ≤ Ta by omega)]; exact hnT)
    have hset := blz_set (T := Ta) (P := x.f.s.take n) (d := x.f.s.getD n 0) (by omega)
    have htk : x.f.s.take n ++ [x.f.s.getD n 0] = x.f.s.take (n + 1) := by
      rw [List.take_succ_eq_append_getElem (by omega)]
      simp [List.getD, List.getElem?_eq_getElem (show n < x.f.s.length by omega)]
    rw [hpl, htk] at hset
    rw [u8s_set, hset] at hst
    have hez2 : eszObj (.cells (u8s (blz Ta (x.f.s.take n))) true 1) 1 = true := rfl
    obtain ⟨d, hd⟩ : ∃ d, d = ((x.f.s.getD n 0).toNat : Int) := ⟨_, rfl⟩
    rw [← hd] at hst hbj
    obtain ⟨g4, hg4⟩ : ∃ g4, g4 = g.set (h.n + 2) (.cells (u8s (blz Ta (x.f.s.take (n + 1)))) true 1) := ⟨_, rfl⟩
    have F4 : Fr g g4 [h.n + 2] := by rw [hg4]; exact Fr.set _ _ (by simp)
    have hgn := E.n
    simp (disch := first|omega|(simp only [np,ns];try omega)) [E2, E0, l4_2, l4_1, e7, hltI, hlt, E5, hnT, hnTI, hqg, hez, hbj, Eb, hez2, hst, ← hg4, hkk]
    refine ⟨⟨by simp [upd_apply, E.e1], by simp [upd_apply, E.e2], by simp [upd_apply, E.e4], by simp [upd_apply, E.e5], E.fr.trans' F4 (fun y hy => by simp at hy; exact .inr (by omega)), by have := F4.n; omega, ?_, ?_, ?_⟩, e6⟩
    · rw [F4.get _ (by omega) (by simp)]; exact E.g0
    · rw [F4.get _ (by omega) (by simp)]; exact E.g1
    · rw [hg4, VH.get_set_same, hTa]
  obtain rfl : n = A := by omega
  have htake : x.f.s.take n = x.f.s := by rw [hA, List.take_length]
  rw [htake] at E
  simp (disch := first|omega|(simp only [np,ns];try omega)) [E2, E0, l4_2, e7]
  clear hlt hn Eb
  refine pw_loopN (fun m s g => ∃ cur, CE h x ba bb bc bd nv cur s g ∧ s 6 = .int .i64 (cur.length : Int) ∧ s 8 = .int .i64 (m : Int) ∧ CrK x zs cur m) W ?_ ?_
  · refine ⟨x.f.s, E.upd1 (by simp [upd_apply]) (by simp [upd_apply]) (by simp [upd_apply]) (by simp [upd_apply]), by simp [upd_apply, e6, hA], by simp [upd_apply], ?_, ?_⟩
    · simp [upto]
    · simp [upto]
  rintro m s2 g4 hm ⟨cur, EE, f6, f8, hc, hcl⟩
  have A2 := EE.e2
  have A0 := EE.g0
  rw [← hTa, ← hA, ← hW] at A0
  by_cases hlt : m < W
  · have hltI : (m : Int) < (W : Int) := by omega
    have hkk : IntKind.i64.wrap ((m : Int) + 1) = ((m + 1 : Nat) : Int) := by rw [i64_small (by omega) (by omega)]; omega
    obtain ⟨w, hw'⟩ : ∃ w, w = x.f.ws.getD m [] := ⟨_, rfl⟩
    have hws : x.f.ws[m]? = some w := by rw [hw']; simp [List.getD, List.getElem?_eq_getElem (show m < x.f.ws.length by omega)]
    have hwne := o.ne w (List.mem_of_getElem? hws)
    have hup := upto_succ (ws := x.f.ws) (k := m) (by omega)
    rw [← hw'] at hup
    simp (disch := first|omega|(simp only [np,ns];try omega)) [A2, A0, l4_3, f8, hltI, hlt]
    refine crX_ok G (by omega) rfl hw' hc (EE.upd1 (by simp [upd_apply]) (by simp [upd_apply]) (by simp [upd_apply]) (by simp [upd_apply])) (by simp [upd_apply, f6]) (by simp [upd_apply, f8]) ?_
    intro s3 g5 E3 e6' e8'
    simp (disch := first|omega|(simp only [np,ns];try omega)) [e8', hkk]
    refine ⟨hlt, _, E3.upd1 (by simp [upd_apply]) (by simp [upd_apply]) (by simp [upd_apply]) (by simp [upd_apply]), e6', ?_, ?_⟩
    · have hk := keepN_le zs m w
      rw [nextP_len hc hk, hup]
      split <;> omega
    · rw [← hcl, crashL_step hws hwne nn, hup, Nat.add_assoc]
  · obtain rfl : m = W := by omega
    have hcB : cur = B := by
      rw [hB, ← hcl, hW, List.drop_of_length_le (Nat.le_refl _)]
      rfl
    rw [hcB] at f6 EE
    have A5 := EE.e5
    have A4 := EE.e4
    have Ab := EE.g2
    have Ac := EE.g1
    rw [← hTa] at A5 Ab
    have hez2 : eszObj (.cells (u8s (blz Ta B)) true 1) 1 = true := rfl
    have hbd2 : (0 : Int) ≤ (B.length : Int) ∧ (B.length : Int) ≤ (Ta : Int) := by omega
    have hfi : fillC zF [(0, 1, .string (strB x.f.nm)), (1, 1, .slice (some ⟨h.n + 2, 0, none⟩) B.length Ta), (2, 1, .int .i64 (B.length : Int))] = some [.string (strB x.f.nm), .slice (some ⟨h.n + 2, 0, none⟩) B.length Ta, .int .i64 (B.length : Int), .slice none 0 0] := rfl
    obtain ⟨g6, hg6⟩ : ∃ g6, g6 = g4.set (h.n + 1) (.cells [.string (strB x.f.nm), .slice (some ⟨h.n + 2, 0, none⟩) B.length Ta, .int .i64 (B.length : Int), .slice none 0 0] true 1) := ⟨_, rfl⟩
    have F6 : Fr g4 g6 [h.n + 1] := by rw [hg6]; exact Fr.set _ _ (by simp)
    have q6 : g6.get (h.n + 1) = .cells [.string (strB x.f.nm), .slice (some ⟨h.n + 2, 0, none⟩) B.length Ta, .int .i64 (B.length : Int), .slice none 0 0] true 1 := by rw [hg6, VH.get_set_same]
    have hgn := EE.n
    simp (disch := first|omega|(simp only [np,ns];try omega)) [r_ref06_crash, A2, A0, l4_3, l4_0, f8, f6, A5, Ab, hez2, hbd2, hfi, A4, Ac, s4_A, ← hg6, q6, l4_A]
    refine ⟨.inr ⟨h.n + 2, 0, Ta, u8s (blz Ta B), by have := F6.n; omega, hBl, rfl, ?_, ?_, ?_⟩, EE.fr.trans' F6 (fun y hy => by simp at hy; exact .inr (by omega)), fun y hy => by simp [idOf] at hy; omega⟩
    · rw [F6.get _ (by omega) (by simp)]; exact Ab
    · rw [List.drop_zero, Nat.mul_one]
      have : (u8s (blz Ta B)).take B.length = u8s ((blz Ta B).take B.length) := by simp [u8s, List.map_take]
      rw [this, blz_take]
    · simp [blz_len hBl]; exact hBl

/- disk, part Xc: the reference: Crash. -/

theorem RRep.put' {h g : VH} {i q o c : Nat} {v : Value} {a b : List Rr} {r r' : Rr} {ds : List Value} {S S' : Ds} (k : RRep h i v (a ++ r :: b) S) (hv : v = .slice (some ⟨q, o, none⟩) (a ++ r :: b).length c) (hf : Fr h g (fpR r)) (hq : q < h.n) (hput : ∀ (r' : Rr) (g' : VH), h.n ≤ g'.n → g'.get q = .cells (wr ds (o + a.length * 4) (rowR r')) true 4 → OwnSl g' 4 v ((a ++ r' :: b).flatMap rowR) (a ++ r :: b).length)
    (T : RfAt g r') (hnd : (fpR r').Nodup) (hfp : ∀ x ∈ fpR r', x ∈ fpR r ∨ h.n ≤ x) (hfs : (a ++ r' :: b).map (·.f) = S'.fs) (hsy : S'.sy = S.sy) :
    RRep (g.set q (.cells (wr ds (o + a.length * 4) (rowR r')) true 4)) i v (a ++ r' :: b) S' ∧ Fr h (g.set q (.cells (wr ds (o + a.length * 4) (rowR r')) true 4)) (fpD i v (a ++ r :: b)) := by
  have hqv : q ∈ idOf v := by rw [hv]; simp [idOf]
  have hiq : i ≠ q := fun e => k.nv (e ▸ hqv)
  have F2 : Fr g (g.set q (.cells (wr ds (o + a.length * 4) (rowR r')) true 4)) [q] := Fr.set _ _ (by simp)
  have F : Fr h (g.set q (.cells (wr ds (o + a.length * 4) (rowR r')) true 4)) (q :: fpR r) := (hf.sub (fun x hx => List.mem_cons_of_mem _ hx)).trans (F2.sub (by simp))
  have hqr : q ∉ fpR r := k.nvr (r := r) (by simp) q hqv
  refine ⟨k.one (r' := r') F (fun x hx => ?_) ?_ ?_ ?_ hnd hfp hfs, F.sub (fun x hx => ?_)⟩
  · rcases List.mem_cons.1 hx with rfl | hx
    · exact .inr (.inl hqv)
    · exact .inr (.inr hx)
  · rw [F.get i k.lt (fun hx => (List.mem_cons.1 hx).elim hiq (k.nr (r := r) (by simp))), hsy]
    exact k.rec_
  · exact hput r' _ F.n (VH.get_set_same ..)
  · refine T.fr F2 (fun x hx hxq => ?_)
    simp at hxq
    subst hxq
    rcases hfp _ hx with h1 | h1
    · exact hqr h1
    · omega
  · rcases List.mem_cons.1 hx with rfl | hx
    · simp [fpD, hqv]
    · exact fpD_in (r := r) (by simp) x hx
def KV (q : List ((List UInt8 × List Int) × Value)) (l : List (List UInt8 × List Int)) (nm : List UInt8) (t : Nat) (u : Value) : Prop := (u = .slice none 0 0 ∧ keepOf nm (l.take t) = []) ∨ ∃ p ∈ q, u = p.2 ∧ keepOf nm (l.take t) = p.1.2
/-- so many files are crashed. -/
def CrD (h g : VH) (i : Nat) (v : Value) (rs : List Rr) (S : Ds) (l : List (List UInt8 × List Int)) (n : Nat) : Prop :=
  ∃ rc, RRep g i v rc { S with fs := (S.fs.take n).map (fun f => crashF f (keepOf f.nm l)) ++ S.fs.drop n } ∧ rc.length = rs.length ∧ (∀ m, n ≤ m → rc[m]? = rs[m]?) ∧ Fr h g (fpD i v rs) ∧ ∀ x ∈ fpD i v rc, x ∈ fpD i v rs ∨ h.n ≤ x
set_option maxHeartbeats 4000000 in
theorem rdcrash_ok {D : Nat → Prop} {h : VH} {i : Nat} {S : Ds} {X : List Nat} {kv : Value} {q : List ((List UInt8 × List Int) × Value)} (K : RfDk h i S X) (ok : OkD S) (hX : ∀ x ∈ X, ¬ D x) (Q : KeepsAt D h kv q) :
    PCalls Tryz.prog f_ref06_Disk_Crash [.pointer (some ⟨i, 0, none⟩), kv] h (fun u h' => u = .int .i64 ((craD S (q.map (·.1))).1 : Int) ∧ RfP h i X (craD S (q.map (·.1))).2 h') := by
  refine PCalls_of_pw st_ref06_Disk_Crash (by simp [n_ref06_Disk_Crash]) ?_
  rw [b_ref06_Disk_Crash]
  unfold B_ref06_Disk_Crash
  have K0 := K
  obtain ⟨v, rs, rfl, k⟩ := K
  have hlen := k.len
  have hle := ok.len
  have hqlen := Q.len
  obtain ⟨a, c, rfl⟩ := Q.shape
  obtain ⟨L, hL⟩ : ∃ L, L = q.length := ⟨_, rfl⟩
  obtain ⟨l, hl⟩ : ∃ l, l = q.map (·.1) := ⟨_, rfl⟩
  have hlL : l.length = L := by rw [hl, hL]; simp
  obtain ⟨W, hW⟩ : ∃ W, W = wrongD S.fs [] l := ⟨_, rfl⟩
  simp (disch := first|omega|(simp only [np,ns];try omega)) []
  refine (rwrong_ok k (by omega) Q).mono ?_
  rintro u g ⟨rfl, hg⟩
  rw [hg, ← hl, ← hW]
  by_cases hW0 : W = 0
  case neg =>
    have hs : craD S l = (W, S) := by unfold craD; rw [← hW, if_neg hW0]
    have hb : ((W : Int) != 0) = true := by simp; omega
    simp (disch := first|omega|(simp only [np,ns];try omega)) [r_ref06_Disk_Crash, hb, hs]
    exact RfP.same K0 (Fr.refl _ _)
  have hs : craD S l = (0, { S with fs := S.fs.map fun f => crashF f (keepOf f.nm l) }) := by unfold craD; rw [← hW, if_pos hW0]
  have hnn := wrongD_zero (fs := S.fs) (l := l) (met := []) (by omega)
  rw [← hL] at Q hqlen
  rw [← hL]
  subst hW0
  obtain ⟨N, hN⟩ : ∃ N, N = rs.length := ⟨_, rfl⟩
  obtain ⟨ra, rc0, hv⟩ := k.own.shapeN
  rw [← hN] at hv
  have hv0 := hv
  simp (disch := first|omega|(simp only [np,ns];try omega)) []
  refine pw_loopN (fun n s g => CrD h g i v rs S l n ∧ s 0 = .pointer (some ⟨i, 0, none⟩) ∧ s 1 = .slice a L c ∧ s 6 = .int .i64 (n : Int)) N ?_ ?_
  · refine ⟨⟨rs, ?_, rfl, fun _ _ => rfl, Fr.refl _ _, fun x hx => .inl hx⟩, by simp [upd_apply, s0_apply], by simp [upd_apply, s0_apply], by simp [upd_apply]⟩
    simpa using k
  rintro n s g1 hn ⟨⟨rc, k1, hrl, hrest, F, hfp⟩, e0, e1, e6⟩
  have hr1 := k1.rec_
  have hr1' := hr1
  rw [hv] at hr1'
  by_cases hlt : n < N
  case neg =>
    obtain rfl : n = N := by omega
    have e : (S.fs.take n).map (fun f => crashF f (keepOf f.nm l)) ++ S.fs.drop n = S.fs.map fun f => crashF f (keepOf f.nm l) := by
      rw [List.take_of_length_le (by omega), List.drop_of_length_le (by omega), List.append_nil]
    rw [e] at k1
    simp (disch := first|omega|(simp only [np,ns];try omega)) [r_ref06_Disk_Crash, e0, e6, hr1', lr_0, hs]
    exact ⟨_, ⟨v, rc, rfl, k1⟩, F, hfp⟩
  have hltI : (n : Int) < (N : Int) := by omega
  have hkk : IntKind.i64.wrap ((n : Int) + 1) = ((n + 1 : Nat) : Int) := by rw [i64_small (by omega) (by omega)]; omega
  have hnr : n < rc.length := by omega
  have hspl := at_split hnr
  obtain ⟨r, hr⟩ : ∃ r, r = rc[n] := ⟨_, rfl⟩
  rw [← hr] at hspl
  have hrs : rs[n]? = some r := by rw [← hrest n (Nat.le_refl _), hr]; exact List.getElem?_eq_getElem hnr
  obtain ⟨ta, hta⟩ : ∃ ta, ta = rc.take n := ⟨_, rfl⟩
  obtain ⟨tb, htb⟩ : ∃ tb, tb = rc.drop (n + 1) := ⟨_, rfl⟩
  rw [← hta, ← htb] at hspl
  have htl : ta.length = n := by rw [hta, List.length_take]; omega
  have k2 := k1
  rw [hspl] at k2
  obtain ⟨qi, qo, qc, ds, hqv, hqc, hqi, hgq, hezq, _, hqq, hl0, _, _, _, hl4, hput⟩ := k2.row
  rw [htl] at hl0 hl4
  have hlen2 : (ta ++ r :: tb).length = N := by rw [← hspl]; omega
  have hqv' := hqv
  rw [hlen2] at hqv
  rw [hv] at hqv
  injection hqv with hqv _ hqvc
  subst hqv
  subst hqvc
  have Q1 := Q.fr F hX
  have T := k2.fil r (by simp)
  have hrS : r.f ∈ S.fs := by rw [← k.fs]; exact List.mem_map_of_mem (List.mem_of_getElem? hrs)
  have hok := ok.fl _ hrS
  simp (disch := first|omega|(simp only [np,ns];try omega)) [e0, e1, e6, hr1', lr_0, hlt, hltI]
  refine pw_loopN (fun t s g => g = g1 ∧ s 0 = .pointer (some ⟨i, 0, none⟩) ∧ s 1 = .slice a L c ∧ s 6 = .int .i64 (n : Int) ∧ s 8 = .int .i64 (t : Int) ∧ KV q l r.f.nm t (s 7)) L ?_ ?_
  · exact ⟨rfl, by simp [upd_apply, e0], by simp [upd_apply, e1], by simp [upd_apply, e6], by simp [upd_apply], .inl ⟨by simp [upd_apply], by simp [keepOf]⟩⟩
  rintro t s2 g2 ht ⟨hg2, f0, f1, f6, f8, f7⟩
  rw [hg2]
  by_cases htl2 : t < L
  · have htI : (t : Int) < (L : Int) := by omega
    have hkt : IntKind.i64.wrap ((t : Int) + 1) = ((t + 1 : Nat) : Int) := by rw [i64_small (by omega) (by omega)]; omega
    obtain ⟨ia, oa, rfl, hia, hez, _, hld0, hld1⟩ := Q1.at_ (k := t) (by omega)
    obtain ⟨nm, hnm⟩ : ∃ nm, nm = (q[t]'(by omega)).1.1 := ⟨_, rfl⟩
    rw [← hnm] at hld0
    have hlt' : l[t]'(by omega) = (q[t]'(by omega)).1 := by simp [hl]
    by_cases heq : nm = r.f.nm
    · have hb1 : ((strB nm).toList == (strB r.f.nm).toList) = true := by rw [heq]; simp
      obtain ⟨nv, hnv⟩ : ∃ nv, nv = (q[t]'(by omega)).2 := ⟨_, rfl⟩
      have hI := Q1.ints (q[t]'(by omega)) (List.getElem_mem _)
      rw [← hnv] at hI hld1
      simp (disch := first|omega|(simp only [np,ns];try omega)) [f0, f1, f6, f8, htl2, htI, hez, hld0, hld1, hr1', lr_0, hgq, hezq, hlt, hltI, hl0, hb1, hkt]
      refine .inr ⟨q[t]'(by omega), List.getElem_mem _, ?_, ?_⟩
      · rw [hnv]
      · rw [keepOf_succ (by omega), if_pos (by rw [hlt', ← hnm]; exact heq), hlt']
    · have hb1 : ((strB nm).toList == (strB r.f.nm).toList) = false := by rw [strB_toList, strB_toList]; simpa using heq
      simp (disch := first|omega|(simp only [np,ns];try omega)) [f0, f1, f6, f8, htl2, htI, hez, hld0, hr1', lr_0, hgq, hezq, hlt, hltI, hl0, hb1, hkt]
      unfold KV at f7 ⊢
      rw [keepOf_succ (by omega), if_neg (by rw [hlt', ← hnm]; exact heq)]
      exact f7
  · obtain rfl : t = L := by omega
    obtain ⟨nv, hnv⟩ : ∃ nv, nv = s2 7 := ⟨_, rfl⟩
    rw [← hnv] at f7
    have hI : IntsAt g1 nv (keepOf r.f.nm l) ∧ ∀ z ∈ keepOf r.f.nm l, 0 ≤ z := by
      unfold KV at f7
      rw [← hlL, List.take_length] at f7
      rcases f7 with ⟨h1, h2⟩ | ⟨p, hpq, h1, h2⟩
      · rw [h1, h2]; exact ⟨IntsAt.nil _, by simp⟩
      · rw [h1, h2]
        exact ⟨Q1.ints p hpq, hnn p.1 (by rw [hl]; exact List.mem_map_of_mem hpq)⟩
    have hcr := rcrash_ok T hok hI.1 hI.2
    rw [rowV_eq r, hnv] at hcr
    simp (disch := first|omega|(simp only [np,ns];try omega)) [f0, f1, f6, f8, hr1', lr_0, hgq, hezq, hlt, hltI, hl4]
    refine hcr.mono ?_
    rintro u g3 ⟨w, rfl, ho3, F3, hid3⟩
    obtain ⟨B, hB⟩ : ∃ B, B = crashL r.f.s r.f.s.length r.f.ws (keepOf r.f.nm l) := ⟨_, rfl⟩
    rw [← hB] at ho3
    rw [← hB]
    obtain ⟨wa, wc, hww⟩ := ho3.shape
    have i3 := (F3.get i k1.lt (by simp)).trans hr1'
    have q3 := (F3.get qi hqi (by simp)).trans hgq
    obtain ⟨r', hr'⟩ : ∃ r' : Rr, r' = ⟨crashF r.f (keepOf r.f.nm l), w, .slice none 0 0⟩ := ⟨_, rfl⟩
    have hcf : crashF r.f (keepOf r.f.nm l) = ⟨r.f.nm, B, []⟩ := by rw [hB]; rfl
    have hrow : rowR r' = [.string (strB r.f.nm), w, .int .i64 (B.length : Int), .slice none 0 0] := by rw [hr', hcf]; rfl
    have hone' : (rowR r').all Value.oneCell' = true := by rw [hrow, hww]; rfl
    have hpn := el_putN (zz := 4) (R := rowR r') (ds := ds) (q := qo + n * 4) (z := 4) (by rw [htl] at hqq; omega) (rowR_len r') hone'
    have hpn' : storeObj (.cells ds true 4) (qo + n * 4) 4 (.agg #[.string (strB r.f.nm), w, .int .i64 (B.length : Int), .slice none 0 0]) = some (.cells (wr ds (qo + n * 4) (rowR r')) true 4) := by rw [← hpn, hrow]
    obtain ⟨g4, hg4⟩ : ∃ g4, g4 = g3.set qi (.cells (wr ds (qo + n * 4) (rowR r')) true 4) := ⟨_, rfl⟩
    simp (disch := first|omega|(simp only [np,ns];try omega)) [i3, lr_0, q3, hezq, hlt, hltI, hpn', ← hg4, f6, hkk]
    have hSfs : S.fs = rs.map (·.f) := k.fs.symm
    have hSn : S.fs[n]? = some r.f := by rw [hSfs, List.getElem?_map, hrs]; rfl
    obtain ⟨k5, F5⟩ := k2.put' (r' := r') (S' := { S with fs := (S.fs.take (n + 1)).map (fun f => crashF f (keepOf f.nm l)) ++ S.fs.drop (n + 1) }) hqv' (F3.sub (by simp)) hqi hput (by
        rw [hr', hcf]
        exact ⟨by simpa [Fl.all] using ho3, OwnP.nil _ _⟩) (by rw [hr']; simp only [fpR, idOf, List.append_nil]; exact idOf_nodup _) (fun y hy => by
        rw [hr'] at hy
        simp [fpR, idOf] at hy
        exact .inr (hid3 y hy)) (by
        have h1 := k2.fs
        simp only [List.map_append, List.map_cons] at h1 ⊢
        have hnS : n < S.fs.length := by omega
        have h2 : S.fs.drop n = r.f :: S.fs.drop (n + 1) := drop_of hSn
        rw [h2] at h1
        have h3 := List.append_inj h1 (by simp; omega)
        rw [h3.1]
        have h4 : tb.map (·.f) = S.fs.drop (n + 1) := by
          have := h3.2
          injection this
        rw [h4, hr', ← List.take_append_getElem hnS]
        have h5 : S.fs[n] = r.f := by
          have := List.getElem?_eq_getElem hnS
          rw [hSn] at this
          injection this with this
          exact this.symm
        rw [h5]
        simp) rfl
    rw [htl, ← hg4] at k5 F5
    have hn1 := F.n
    refine ⟨⟨ta ++ r' :: tb, k5, by rw [← hrl, hspl]; simp, fun m hm => ?_, ?_, fun y hy => ?_⟩, f0, f1⟩
    · rw [← hrest m (by omega), hspl, List.getElem?_append_right (by omega), List.getElem?_append_right (by omega), htl]
      obtain ⟨d, hd⟩ : ∃ d, m - n = d + 1 := ⟨m - n - 1, by omega⟩
      rw [hd]
      simp
    · rw [← hspl] at F5
      exact F.trans' F5 hfp
    · simp only [fpD_mid, List.mem_append] at hy
      have old : y ∈ fpD i v rc → y ∈ fpD i v rs ∨ h.n ≤ y := hfp y
      rw [hspl, fpD_mid] at old
      simp only [List.mem_append] at old
      rcases hy with (hy | hy) | hy
      · exact old (.inl (.inl hy))
      · rw [hr'] at hy
        simp [fpR, idOf] at hy
        have := hid3 y hy
        exact .inr (by omega)
      · exact old (.inr hy)
end Go.Proofs.YtgnmhonbcejnfaaGreatDoor.Dk
