/- disk, part C: a file's name. -/
import Derived.Test.YtgnmhonbcejnfaaDoorDkA
import Derived.Test.YtgnmhonbcejnfaaDoorFsB
import Derived.Test.YtgnmhonbcejnfaaDoorDkB
set_option linter.unusedVariables false
set_option linter.unusedSimpArgs false
set_option maxRecDepth 100000
namespace Go.Proofs.YtgnmhonbcejnfaaDoor.Dk
open Go Go.RowKit Go.Proofs.YtgnmhonbcejnfaaDoor.Pm Go.Proofs.YtgnmhonbcejnfaaDoor.Fs
attribute [-simp] BitVec.toNat_or BitVec.toNat_xor BitVec.toNat_add BitVec.toNat_and BitVec.toNat_not BitVec.toNat_shiftLeft BitVec.toNat_ushiftRight

theorem all_take {p : UInt8 → Bool} {l : List UInt8} {k : Nat} (hk : k < l.length) (h : (l.take k).all p = true) (h2 : p (l.getD k 0) = true) : (l.take (k + 1)).all p = true := by
  rw [List.take_succ_eq_append_getElem hk, List.all_append, h]
  have : l.getD k 0 = l[k] := by simp [List.getD, hk]
  rw [this] at h2
  simp [h2]
theorem all_not {p : UInt8 → Bool} {l : List UInt8} {k : Nat} (hk : k < l.length) (h2 : p (l.getD k 0) = false) : l.all p = false := by
  have : l.getD k 0 = l[k] := by simp [List.getD, hk]
  rw [this] at h2
  rw [List.all_eq_false]
  exact ⟨l[k], List.getElem_mem hk, by simp [h2]⟩
theorem nameC_cases (c : UInt8) : (nameC c = true ∧ ((97 ≤ c.toNat ∧ c.toNat ≤ 122) ∨ (48 ≤ c.toNat ∧ c.toNat ≤ 57) ∨ c.toNat = 46)) ∨ (nameC c = false ∧ (122 < c.toNat ∨ (57 < c.toNat ∧ c.toNat < 97) ∨ (c.toNat < 48 ∧ c.toNat ≠ 46))) := by
  unfold nameC
  by_cases h : (97 ≤ c.toNat ∧ c.toNat ≤ 122) ∨ (48 ≤ c.toNat ∧ c.toNat ≤ 57) ∨ c.toNat = 46
  · refine .inl ⟨?_, h⟩
    simp only [Bool.or_eq_true, Bool.and_eq_true, decide_eq_true_eq]
    omega
  · refine .inr ⟨?_, by omega⟩
    rw [← Bool.not_eq_true]
    simp only [Bool.or_eq_true, Bool.and_eq_true, decide_eq_true_eq]
    omega

set_option maxHeartbeats 4000000 in
theorem name_ok' {h : VH} {t : List UInt8} (ht : t.length ≤ 140737488355328) : PCalls Tryd.prog f_disk_Name [.string (strB t)] h (fun u _ => u = .bool (nameS t)) := by
  refine PCalls_of_pw st_disk_Name (by simp [n_disk_Name]) ?_
  rw [b_disk_Name]
  obtain ⟨L, hL⟩ : ∃ L, L = t.length := ⟨_, rfl⟩
  have hsz : (strB t).size = L := by rw [strB_size, hL]
  obtain ⟨lb, hlb⟩ : ∃ lb, lb = (decide (1 ≤ t.length) && decide (t.length ≤ 32)) := ⟨_, rfl⟩
  unfold B_disk_Name
  by_cases h0 : L = 0
  · have g1 : ¬ (1:Int) ≤ (L:Int) := by omega
    have g2 : (L:Int) < 1 := by omega
    have hl0 : lb = false := by rw [hlb, decide_eq_false (by omega)]; rfl
    subst hl0
    simp (disch := first|omega|(simp only [np,ns];try omega)) [hsz, g1, g2]
    refine pw_loopN (fun k s g => (t.take k).all nameC = true ∧ s 0 = .string (strB t) ∧ s 3 = .bool false ∧ s 15 = .int .i64 (L : Int) ∧ s 16 = .int .i64 (k : Int)) L ?_ ?_
    · exact ⟨by simp, by simp [upd_apply], by simp [upd_apply], by simp [upd_apply, ← hL], by simp [upd_apply]⟩
    rintro k s g hk ⟨hall, e0, e3, e15, e16⟩
    by_cases hlt : k < L
    · exfalso; omega
    · obtain rfl : k = L := by omega
      have hft : t.all nameC = true := by rw [hL, List.take_length] at hall; exact hall
      have hres : nameS t = false := by unfold nameS; rw [hft, ← hlb]; rfl
      simp (disch := first|omega|(simp only [np,ns];try omega)) [r_disk_Name, e3, e15, e16, hres]
  by_cases h32 : 32 < L
  · have g1 : (1:Int) ≤ (L:Int) := by omega
    have g2 : ¬ (L:Int) ≤ 32 := by omega
    have g3 : (32:Int) < (L:Int) := by omega
    have hl0 : lb = false := by rw [hlb, decide_eq_false (p := t.length ≤ 32) (by omega), Bool.and_false]
    subst hl0
    simp (disch := first|omega|(simp only [np,ns];try omega)) [hsz, g1, g2, g3]
    refine pw_loopN (fun k s g => (t.take k).all nameC = true ∧ s 0 = .string (strB t) ∧ s 3 = .bool false ∧ s 15 = .int .i64 (L : Int) ∧ s 16 = .int .i64 (k : Int)) L ?_ ?_
    · exact ⟨by simp, by simp [upd_apply], by simp [upd_apply], by simp [upd_apply, ← hL], by simp [upd_apply]⟩
    rintro k s g hk ⟨hall, e0, e3, e15, e16⟩
    by_cases hlt : k < L
    · have hltI : (k : Int) < (L : Int) := by omega
      have hld := strAt_D (bs := t) (k := .i64) (n := k) (by omega)
      have hkk : IntKind.i64.wrap ((k : Int) + 1) = ((k + 1 : Nat) : Int) := by rw [i64_small (by omega) (by omega)]; omega
      have hcs := nameC_cases (t.getD k 0)
      obtain ⟨d, hd⟩ : ∃ d, d = (t.getD k 0).toNat := ⟨_, rfl⟩
      rw [← hd] at hld hcs
      rcases hcs with ⟨hok, hc | hc | hc⟩ | ⟨hok, hc | hc | hc⟩
      · have f0 : (97:Int) ≤ (d:Int) := by omega
        have f1 : (d:Int) ≤ 122 := by omega
        have f2 : ¬ (d:Int) < 97 := by omega
        have f3 : ¬ (122:Int) < (d:Int) := by omega
        have hnx := all_take (by omega) hall hok
        simp (disch := first|omega|(simp only [np,ns];try omega)) [e0, e3, e15, e16, hltI, hlt, hld, hkk, f0, f1, f2, f3]
        exact List.all_eq_true.1 hnx
      · have f0 : ¬ (97:Int) ≤ (d:Int) := by omega
        have f1 : (d:Int) < 97 := by omega
        have f2 : (48:Int) ≤ (d:Int) := by omega
        have f3 : (d:Int) ≤ 57 := by omega
        have f4 : ¬ (d:Int) < 48 := by omega
        have f5 : ¬ (57:Int) < (d:Int) := by omega
        have hnx := all_take (by omega) hall hok
        simp (disch := first|omega|(simp only [np,ns];try omega)) [e0, e3, e15, e16, hltI, hlt, hld, hkk, f0, f1, f2, f3, f4, f5]
        exact List.all_eq_true.1 hnx
      · have f0 : ¬ (97:Int) ≤ (d:Int) := by omega
        have f1 : (d:Int) < 97 := by omega
        have f2 : ¬ (48:Int) ≤ (d:Int) := by omega
        have f3 : (d:Int) < 48 := by omega
        have f4 : ((d:Int) == 46) = true := by rw [beq_iff_eq]; omega
        have hnx := all_take (by omega) hall hok
        simp (disch := first|omega|(simp only [np,ns];try omega)) [e0, e3, e15, e16, hltI, hlt, hld, hkk, f0, f1, f2, f3, f4]
        exact List.all_eq_true.1 hnx
      · have f0 : (97:Int) ≤ (d:Int) := by omega
        have f1 : ¬ (d:Int) ≤ 122 := by omega
        have f2 : (122:Int) < (d:Int) := by omega
        have f3 : (48:Int) ≤ (d:Int) := by omega
        have f4 : ¬ (d:Int) ≤ 57 := by omega
        have f5 : (57:Int) < (d:Int) := by omega
        have f6 : ¬ (d:Int) < 97 := by omega
        have f7 : ¬ (d:Int) < 48 := by omega
        have f8 : ((d:Int) == 46) = false := by rw [beq_eq_false_iff_ne]; omega
        have hres : nameS t = false := by unfold nameS; rw [all_not (by omega) hok, Bool.and_false]
        simp (disch := first|omega|(simp only [np,ns];try omega)) [r_disk_Name, e0, e3, e15, e16, hltI, hlt, hld, hres, f0, f1, f2, f3, f4, f5, f6, f7, f8]
      · have f0 : ¬ (97:Int) ≤ (d:Int) := by omega
        have f1 : (d:Int) < 97 := by omega
        have f2 : (48:Int) ≤ (d:Int) := by omega
        have f3 : ¬ (d:Int) ≤ 57 := by omega
        have f4 : (57:Int) < (d:Int) := by omega
        have f5 : ¬ (d:Int) < 48 := by omega
        have f6 : ((d:Int) == 46) = false := by rw [beq_eq_false_iff_ne]; omega
        have hres : nameS t = false := by unfold nameS; rw [all_not (by omega) hok, Bool.and_false]
        simp (disch := first|omega|(simp only [np,ns];try omega)) [r_disk_Name, e0, e3, e15, e16, hltI, hlt, hld, hres, f0, f1, f2, f3, f4, f5, f6]
      · have f0 : ¬ (97:Int) ≤ (d:Int) := by omega
        have f1 : (d:Int) < 97 := by omega
        have f2 : ¬ (48:Int) ≤ (d:Int) := by omega
        have f3 : (d:Int) < 48 := by omega
        have f4 : ((d:Int) == 46) = false := by rw [beq_eq_false_iff_ne]; omega
        have hres : nameS t = false := by unfold nameS; rw [all_not (by omega) hok, Bool.and_false]
        simp (disch := first|omega|(simp only [np,ns];try omega)) [r_disk_Name, e0, e3, e15, e16, hltI, hlt, hld, hres, f0, f1, f2, f3, f4]
    · obtain rfl : k = L := by omega
      have hft : t.all nameC = true := by rw [hL, List.take_length] at hall; exact hall
      have hres : nameS t = false := by unfold nameS; rw [hft, ← hlb]; rfl
      simp (disch := first|omega|(simp only [np,ns];try omega)) [r_disk_Name, e3, e15, e16, hres]
  have g1 : (1:Int) ≤ (L:Int) := by omega
  have g2 : (L:Int) ≤ 32 := by omega
  have hl0 : lb = true := by rw [hlb, decide_eq_true (by omega), decide_eq_true (by omega)]; rfl
  subst hl0
  simp (disch := first|omega|(simp only [np,ns];try omega)) [hsz, g1, g2]
  refine pw_loopN (fun k s g => (t.take k).all nameC = true ∧ s 0 = .string (strB t) ∧ s 3 = .bool true ∧ s 15 = .int .i64 (L : Int) ∧ s 16 = .int .i64 (k : Int)) L ?_ ?_
  · exact ⟨by simp, by simp [upd_apply], by simp [upd_apply], by simp [upd_apply, ← hL], by simp [upd_apply]⟩
  rintro k s g hk ⟨hall, e0, e3, e15, e16⟩
  by_cases hlt : k < L
  · have hltI : (k : Int) < (L : Int) := by omega
    have hld := strAt_D (bs := t) (k := .i64) (n := k) (by omega)
    have hkk : IntKind.i64.wrap ((k : Int) + 1) = ((k + 1 : Nat) : Int) := by rw [i64_small (by omega) (by omega)]; omega
    have hcs := nameC_cases (t.getD k 0)
    obtain ⟨d, hd⟩ : ∃ d, d = (t.getD k 0).toNat := ⟨_, rfl⟩
    rw [← hd] at hld hcs
    rcases hcs with ⟨hok, hc | hc | hc⟩ | ⟨hok, hc | hc | hc⟩
    · have f0 : (97:Int) ≤ (d:Int) := by omega
      have f1 : (d:Int) ≤ 122 := by omega
      have f2 : ¬ (d:Int) < 97 := by omega
      have f3 : ¬ (122:Int) < (d:Int) := by omega
      have hnx := all_take (by omega) hall hok
      simp (disch := first|omega|(simp only [np,ns];try omega)) [e0, e3, e15, e16, hltI, hlt, hld, hkk, f0, f1, f2, f3]
      exact List.all_eq_true.1 hnx
    · have f0 : ¬ (97:Int) ≤ (d:Int) := by omega
      have f1 : (d:Int) < 97 := by omega
      have f2 : (48:Int) ≤ (d:Int) := by omega
      have f3 : (d:Int) ≤ 57 := by omega
      have f4 : ¬ (d:Int) < 48 := by omega
      have f5 : ¬ (57:Int) < (d:Int) := by omega
      have hnx := all_take (by omega) hall hok
      simp (disch := first|omega|(simp only [np,ns];try omega)) [e0, e3, e15, e16, hltI, hlt, hld, hkk, f0, f1, f2, f3, f4, f5]
      exact List.all_eq_true.1 hnx
    · have f0 : ¬ (97:Int) ≤ (d:Int) := by omega
      have f1 : (d:Int) < 97 := by omega
      have f2 : ¬ (48:Int) ≤ (d:Int) := by omega
      have f3 : (d:Int) < 48 := by omega
      have f4 : ((d:Int) == 46) = true := by rw [beq_iff_eq]; omega
      have hnx := all_take (by omega) hall hok
      simp (disch := first|omega|(simp only [np,ns];try omega)) [e0, e3, e15, e16, hltI, hlt, hld, hkk, f0, f1, f2, f3, f4]
      exact List.all_eq_true.1 hnx
    · have f0 : (97:Int) ≤ (d:Int) := by omega
      have f1 : ¬ (d:Int) ≤ 122 := by omega
      have f2 : (122:Int) < (d:Int) := by omega
      have f3 : (48:Int) ≤ (d:Int) := by omega
      have f4 : ¬ (d:Int) ≤ 57 := by omega
      have f5 : (57:Int) < (d:Int) := by omega
      have f6 : ¬ (d:Int) < 97 := by omega
      have f7 : ¬ (d:Int) < 48 := by omega
      have f8 : ((d:Int) == 46) = false := by rw [beq_eq_false_iff_ne]; omega
      have hres : nameS t = false := by unfold nameS; rw [all_not (by omega) hok, Bool.and_false]
      simp (disch := first|omega|(simp only [np,ns];try omega)) [r_disk_Name, e0, e3, e15, e16, hltI, hlt, hld, hres, f0, f1, f2, f3, f4, f5, f6, f7, f8]
    · have f0 : ¬ (97:Int) ≤ (d:Int) := by omega
      have f1 : (d:Int) < 97 := by omega
      have f2 : (48:Int) ≤ (d:Int) := by omega
      have f3 : ¬ (d:Int) ≤ 57 := by omega
      have f4 : (57:Int) < (d:Int) := by omega
      have f5 : ¬ (d:Int) < 48 := by omega
      have f6 : ((d:Int) == 46) = false := by rw [beq_eq_false_iff_ne]; omega
      have hres : nameS t = false := by unfold nameS; rw [all_not (by omega) hok, Bool.and_false]
      simp (disch := first|omega|(simp only [np,ns];try omega)) [r_disk_Name, e0, e3, e15, e16, hltI, hlt, hld, hres, f0, f1, f2, f3, f4, f5, f6]
    · have f0 : ¬ (97:Int) ≤ (d:Int) := by omega
      have f1 : (d:Int) < 97 := by omega
      have f2 : ¬ (48:Int) ≤ (d:Int) := by omega
      have f3 : (d:Int) < 48 := by omega
      have f4 : ((d:Int) == 46) = false := by rw [beq_eq_false_iff_ne]; omega
      have hres : nameS t = false := by unfold nameS; rw [all_not (by omega) hok, Bool.and_false]
      simp (disch := first|omega|(simp only [np,ns];try omega)) [r_disk_Name, e0, e3, e15, e16, hltI, hlt, hld, hres, f0, f1, f2, f3, f4]
  · obtain rfl : k = L := by omega
    have hft : t.all nameC = true := by rw [hL, List.take_length] at hall; exact hall
    have hres : nameS t = true := by unfold nameS; rw [hft, ← hlb]; rfl
    simp (disch := first|omega|(simp only [np,ns];try omega)) [r_disk_Name, e3, e15, e16, hres]
theorem name_ok {h : VH} {t : List UInt8} (ht : t.length ≤ 140737488355328) : PCalls Tryd.prog f_disk_Name [.string (strB t)] h (fun u h' => u = .bool (nameS t) ∧ h' = h) :=
  ((name_ok' (h := h.ro) ht).mono fun u _ e => by subst e; exact ⟨rfl, rfl⟩).drop
set_option maxHeartbeats 4000000 in
theorem rname_ok' {h : VH} {t : List UInt8} (ht : t.length ≤ 140737488355328) : PCalls Tryd.prog f_ref06_Name [.string (strB t)] h (fun u _ => u = .bool (nameS t)) := by
  refine PCalls_of_pw st_ref06_Name (by simp [n_ref06_Name]) ?_
  rw [b_ref06_Name]
  obtain ⟨L, hL⟩ : ∃ L, L = t.length := ⟨_, rfl⟩
  have hsz : (strB t).size = L := by rw [strB_size, hL]
  unfold B_ref06_Name
  by_cases h0 : L = 0
  · have g2 : (L:Int) < 1 := by omega
    have hres : nameS t = false := by unfold nameS; rw [decide_eq_false (by omega)]; rfl
    simp (disch := first|omega|(simp only [np,ns];try omega)) [r_ref06_Name, hsz, g2, hres]
  by_cases h32 : 32 < L
  · have g1 : ¬ (L:Int) < 1 := by omega
    have g3 : (32:Int) < (L:Int) := by omega
    have hres : nameS t = false := by unfold nameS; rw [decide_eq_false (p := t.length ≤ 32) (by omega), Bool.and_false]; rfl
    simp (disch := first|omega|(simp only [np,ns];try omega)) [r_ref06_Name, hsz, g1, g3, hres]
  have g1 : ¬ (L:Int) < 1 := by omega
  have g3 : ¬ (32:Int) < (L:Int) := by omega
  simp (disch := first|omega|(simp only [np,ns];try omega)) [hsz, g1, g3]
  refine pw_loopN (fun k s g => (t.take k).all nameC = true ∧ s 0 = .string (strB t) ∧ s 3 = .int .i64 (k : Int)) L ?_ ?_
  · exact ⟨by simp, by simp [upd_apply], by simp [upd_apply]⟩
  rintro k s g hk ⟨hall, e0, e3⟩
  by_cases hlt : k < L
  · have hltI : (k : Int) < (L : Int) := by omega
    have hld := strAt_D (bs := t) (k := .i64) (n := k) (by omega)
    have hkk : IntKind.i64.wrap ((k : Int) + 1) = ((k + 1 : Nat) : Int) := by rw [i64_small (by omega) (by omega)]; omega
    have hcs := nameC_cases (t.getD k 0)
    obtain ⟨d, hd⟩ : ∃ d, d = (t.getD k 0).toNat := ⟨_, rfl⟩
    rw [← hd] at hld hcs
    rcases hcs with ⟨hok, hc | hc | hc⟩ | ⟨hok, hc | hc | hc⟩
    · have f0 : (97:Int) ≤ (d:Int) := by omega
      have f1 : (d:Int) ≤ 122 := by omega
      have f2 : ¬ (d:Int) < 97 := by omega
      have f3 : ¬ (122:Int) < (d:Int) := by omega
      have hnx := all_take (by omega) hall hok
      simp (disch := first|omega|(simp only [np,ns];try omega)) [e0, e3, hsz, hltI, hlt, hld, hkk, f0, f1, f2, f3]
      exact List.all_eq_true.1 hnx
    · have f0 : ¬ (97:Int) ≤ (d:Int) := by omega
      have f1 : (d:Int) < 97 := by omega
      have f2 : (48:Int) ≤ (d:Int) := by omega
      have f3 : (d:Int) ≤ 57 := by omega
      have f4 : ¬ (d:Int) < 48 := by omega
      have f5 : ¬ (57:Int) < (d:Int) := by omega
      have hnx := all_take (by omega) hall hok
      simp (disch := first|omega|(simp only [np,ns];try omega)) [e0, e3, hsz, hltI, hlt, hld, hkk, f0, f1, f2, f3, f4, f5]
      exact List.all_eq_true.1 hnx
    · have f0 : ¬ (97:Int) ≤ (d:Int) := by omega
      have f1 : (d:Int) < 97 := by omega
      have f2 : ¬ (48:Int) ≤ (d:Int) := by omega
      have f3 : (d:Int) < 48 := by omega
      have f4 : ((d:Int) == 46) = true := by rw [beq_iff_eq]; omega
      have hnx := all_take (by omega) hall hok
      simp (disch := first|omega|(simp only [np,ns];try omega)) [e0, e3, hsz, hltI, hlt, hld, hkk, f0, f1, f2, f3, f4]
      exact List.all_eq_true.1 hnx
    · have f0 : (97:Int) ≤ (d:Int) := by omega
      have f1 : ¬ (d:Int) ≤ 122 := by omega
      have f2 : (122:Int) < (d:Int) := by omega
      have f3 : (48:Int) ≤ (d:Int) := by omega
      have f4 : ¬ (d:Int) ≤ 57 := by omega
      have f5 : (57:Int) < (d:Int) := by omega
      have f6 : ¬ (d:Int) < 97 := by omega
      have f7 : ¬ (d:Int) < 48 := by omega
      have f8 : ((d:Int) == 46) = false := by rw [beq_eq_false_iff_ne]; omega
      have hres : nameS t = false := by unfold nameS; rw [all_not (by omega) hok, Bool.and_false]
      simp (disch := first|omega|(simp only [np,ns];try omega)) [r_ref06_Name, e0, e3, hsz, hltI, hlt, hld, hres, f0, f1, f2, f3, f4, f5, f6, f7, f8]
    · have f0 : ¬ (97:Int) ≤ (d:Int) := by omega
      have f1 : (d:Int) < 97 := by omega
      have f2 : (48:Int) ≤ (d:Int) := by omega
      have f3 : ¬ (d:Int) ≤ 57 := by omega
      have f4 : (57:Int) < (d:Int) := by omega
      have f5 : ¬ (d:Int) < 48 := by omega
      have f6 : ((d:Int) == 46) = false := by rw [beq_eq_false_iff_ne]; omega
      have hres : nameS t = false := by unfold nameS; rw [all_not (by omega) hok, Bool.and_false]
      simp (disch := first|omega|(simp only [np,ns];try omega)) [r_ref06_Name, e0, e3, hsz, hltI, hlt, hld, hres, f0, f1, f2, f3, f4, f5, f6]
    · have f0 : ¬ (97:Int) ≤ (d:Int) := by omega
      have f1 : (d:Int) < 97 := by omega
      have f2 : ¬ (48:Int) ≤ (d:Int) := by omega
      have f3 : (d:Int) < 48 := by omega
      have f4 : ((d:Int) == 46) = false := by rw [beq_eq_false_iff_ne]; omega
      have hres : nameS t = false := by unfold nameS; rw [all_not (by omega) hok, Bool.and_false]
      simp (disch := first|omega|(simp only [np,ns];try omega)) [r_ref06_Name, e0, e3, hsz, hltI, hlt, hld, hres, f0, f1, f2, f3, f4]
  · obtain rfl : k = L := by omega
    have hft : t.all nameC = true := by rw [hL, List.take_length] at hall; exact hall
    have hres : nameS t = true := by unfold nameS; rw [hft, decide_eq_true (by omega), decide_eq_true (by omega)]; rfl
    simp (disch := first|omega|(simp only [np,ns];try omega)) [r_ref06_Name, e0, e3, hsz, hres]
theorem rname_ok {h : VH} {t : List UInt8} (ht : t.length ≤ 140737488355328) : PCalls Tryd.prog f_ref06_Name [.string (strB t)] h (fun u h' => u = .bool (nameS t) ∧ h' = h) :=
  ((rname_ok' (h := h.ro) ht).mono fun u _ e => by subst e; exact ⟨rfl, rfl⟩).drop
end Go.Proofs.YtgnmhonbcejnfaaDoor.Dk
