/- slots, part D: a name searched among names in order. -/
import Derived.Test.YtoenamablkkocaaSlC
set_option linter.unusedVariables false
set_option linter.unusedSimpArgs false
set_option maxRecDepth 100000
namespace Go.Proofs.Ytoenamablkkocaa.Sl
open Go Go.RowKit Go.Proofs.Ytoenamablkkocaa.Pm Go.Proofs.Ytoenamablkkocaa.Fs Go.Proofs.Ytoenamablkkocaa.Fa
attribute [-simp] BitVec.toNat_or BitVec.toNat_xor BitVec.toNat_add BitVec.toNat_and BitVec.toNat_not BitVec.toNat_shiftLeft BitVec.toNat_ushiftRight

theorem bytesLess_eq : ∀ (a b : List UInt8), Op.bytesLess a b = decide (a < b)
  | [], [] => by simp [Op.bytesLess]
  | a :: x, [] => by simp [Op.bytesLess]
  | [], b :: y => by simp [Op.bytesLess]
  | a :: x, b :: y => by
    rw [Op.bytesLess, bytesLess_eq x y]
    by_cases h1 : a < b
    · simp [h1, List.cons_lt_cons_iff]
    · by_cases h2 : a = b
      · subst h2; simp [h1, List.cons_lt_cons_iff]
      · simp [h1, h2, List.cons_lt_cons_iff]
theorem cnan_ok {h : VH} {a : List UInt8} : PCalls Try.prog f_cmp_isNaN_string [.string (strB a)] h (fun u h' => u = .bool false ∧ h' = h) := by
  refine PCalls_of_pw st_cmp_isNaN_string (by simp [n_cmp_isNaN_string]) ?_
  rw [b_cmp_isNaN_string]
  have hb : ((strB a).toList == (strB a).toList) = true := by simp
  simp (disch := first|omega|(simp only [np,ns];try omega)) [r_cmp_isNaN_string, B_cmp_isNaN_string, hb]
theorem snan_ok {h : VH} {a : List UInt8} : PCalls Try.prog f_slices_isNaN_string [.string (strB a)] h (fun u h' => u = .bool false ∧ h' = h) := by
  refine PCalls_of_pw st_slices_isNaN_string (by simp [n_slices_isNaN_string]) ?_
  rw [b_slices_isNaN_string]
  have hb : ((strB a).toList == (strB a).toList) = true := by simp
  simp (disch := first|omega|(simp only [np,ns];try omega)) [r_slices_isNaN_string, B_slices_isNaN_string, hb]
theorem less_ok {h : VH} {a b : List UInt8} : PCalls Try.prog f_cmp_Less_string [.string (strB a), .string (strB b)] h (fun u h' => u = .bool (decide (a < b)) ∧ h' = h) := by
  refine PCalls_of_pw st_cmp_Less_string (by simp [n_cmp_Less_string]) ?_
  rw [b_cmp_Less_string]
  have hb : Op.bytesLess (strB a).toList (strB b).toList = decide (a < b) := by rw [strB_toList, strB_toList, bytesLess_eq]
  simp (disch := first|omega|(simp only [np,ns];try omega)) [B_cmp_Less_string]
  refine cnan_ok.mono ?_
  rintro u g ⟨rfl, rfl⟩
  simp (disch := first|omega|(simp only [np,ns];try omega)) [r_cmp_Less_string, hb]
theorem strs_ld {h : VH} {v : Value} {ss : List (List UInt8)} {n j : Nat} (k : OwnSl h 1 v (strsV ss) n) (hn : ss.length = n) (hj : j < n) :
    ∃ i o c ds, v = .slice (some ⟨i, o, none⟩) n c ∧ h.get i = .cells ds true 1 ∧ eszObj (.cells ds true 1) 1 = true ∧ loadObj (.cells ds true 1) (o + j) none = some (.string (strB (ss.getD j []))) := by
  rcases k with ⟨_, _, h3⟩ | ⟨i, o, c, ds, h1, h2, h3, h4, h5, h6, h7⟩
  · omega
  · refine ⟨i, o, c, ds, h3, h4, rfl, ?_⟩
    have hx : (strsV ss)[j]? = some (.string (strB (ss.getD j []))) := by
      simp [strsV, List.getElem?_eq_getElem (show j < ss.length by omega), List.getD_eq_getElem?_getD]
    rw [← h5, List.getElem?_drop] at hx
    exact hx
set_option maxHeartbeats 2000000 in
theorem bsearch_ok {h : VH} {v : Value} {ss : List (List UInt8)} {n : Nat} (k : OwnSl h 1 v (strsV ss) n) (hn : ss.length = n) (hb : n ≤ 1000) (hp : ss.Pairwise (· < ·)) {x : List UInt8} :
    PCalls Try.prog f_slices_BinarySearch_string_string [v, .string (strB x)] h (fun u h' => u = .tuple #[.int .i64 (lowS x ss : Int), .bool (decide (x ∈ ss))] ∧ h' = h) := by
  refine PCalls_of_pw st_slices_BinarySearch_string_string (by simp [n_slices_BinarySearch_string_string]) ?_
  rw [b_slices_BinarySearch_string_string]
  unfold B_slices_BinarySearch_string_string
  obtain ⟨a, c, rfl⟩ := k.shapeN
  have hle := lowS_le x ss
  obtain ⟨K, hK⟩ : ∃ K, K = lowS x ss := ⟨_, rfl⟩
  rw [← hK] at hle
  rw [← hK]
  simp (disch := first|omega|(simp only [np,ns];try omega)) []
  refine pw_loop (fun t s g => ∃ i j : Nat, t = j - i ∧ i ≤ K ∧ K ≤ j ∧ j ≤ n ∧ g = h ∧ s 0 = .slice a n c ∧ s 1 = .string (strB x) ∧ s 6 = .int .i64 (n : Int) ∧ s 7 = .int .i64 (i : Int) ∧ s 8 = .int .i64 (j : Int)) n ?_ ?_
  · exact ⟨0, n, rfl, Nat.zero_le _, by omega, Nat.le_refl _, rfl, by simp [upd_apply, s0_apply], by simp [upd_apply, s0_apply], by simp [upd_apply], by simp [upd_apply], by simp [upd_apply]⟩
  rintro t s g ⟨i, j, rfl, hi, hj, hjn, hg, e0, e1, e6, e7, e8⟩
  rw [hg]
  by_cases hij : i < j
  case neg =>
    obtain rfl : i = K := by omega
    obtain rfl : j = i := by omega
    have hmem := low_mem (x := x) hp
    rw [← hK] at hmem
    by_cases hjl : j < n
    case neg =>
      have hjI : ¬ (j : Int) < (n : Int) := by omega
      have hnm : ¬ x ∈ ss := fun hx => by obtain ⟨h1, _⟩ := hmem.1 hx; omega
      simp (disch := first|omega|(simp only [np,ns];try omega)) [r_slices_BinarySearch_string_string, e0, e1, e6, e7, e8, hjl, hjI, hnm]
    have hjI : (j : Int) < (n : Int) := by omega
    obtain ⟨q, o, c', ds, hv, hq, hez, hld⟩ := strs_ld k hn hjl
    injection hv with hv1 _ hv3
    subst hv1
    subst hv3
    obtain ⟨y, hy⟩ : ∃ y, y = ss.getD j [] := ⟨_, rfl⟩
    rw [← hy] at hld
    have hyg : y = ss[j]'(by omega) := by rw [hy, List.getD_eq_getElem?_getD, List.getElem?_eq_getElem (show j < ss.length by omega)]; rfl
    by_cases hyx : y = x
    · have hb : ((strB y).toList == (strB x).toList) = true := by rw [hyx]; simp
      have hx : x ∈ ss := hmem.2 ⟨by omega, by rw [← hyg]; exact hyx⟩
      simp (disch := first|omega|(simp only [np,ns];try omega)) [r_slices_BinarySearch_string_string, e0, e1, e6, e7, e8, hjl, hjI, hq, hez, hld, hb, hx]
    · have hb : ((strB y).toList == (strB x).toList) = false := by rw [strB_toList, strB_toList]; simpa using hyx
      have hx : ¬ x ∈ ss := fun hx => by
        obtain ⟨h1, h2⟩ := hmem.1 hx
        exact hyx (by rw [hyg]; exact h2)
      simp (disch := first|omega|(simp only [np,ns];try omega)) [e0, e1, e6, e7, e8, hjl, hjI, hq, hez, hld, hb]
      refine snan_ok.mono ?_
      rintro u g' ⟨rfl, rfl⟩
      simp (disch := first|omega|(simp only [np,ns];try omega)) [r_slices_BinarySearch_string_string, e0, e1, e6, e7, e8, hx]
  have hijI : (i : Int) < (j : Int) := by omega
  obtain ⟨m, hm⟩ : ∃ m : Nat, m = (i + j) / 2 := ⟨_, rfl⟩
  have hadd : IntKind.i64.wrap ((i : Int) + (j : Int)) = ((i + j : Nat) : Int) := by rw [i64_small (by omega) (by omega)]; omega
  obtain ⟨s2, hs2⟩ : ∃ s2 : Nat, s2 = i + j := ⟨_, rfl⟩
  rw [← hs2] at hadd
  have hu : IntKind.u64.wrap (s2 : Int) = (s2 : Int) := by rw [u64_small (by omega) (by omega)]
  have hfd : ((s2 : Int).fdiv 2) = (m : Int) := by rw [Int.fdiv_eq_ediv_of_nonneg _ (by omega)]; omega
  have hwm : IntKind.i64.wrap (m : Int) = (m : Int) := i64_small (by omega) (by omega)
  have hmj : m < j := by omega
  have hmi : i ≤ m := by omega
  have hmn : m < n := by omega
  have hmnI : (m : Int) < (n : Int) := by omega
  obtain ⟨q, o, c', ds, hv, hq, hez, hld⟩ := strs_ld k hn hmn
  injection hv with hv1 _ hv3
  subst hv1
  subst hv3
  obtain ⟨y, hy⟩ : ∃ y, y = ss.getD m [] := ⟨_, rfl⟩
  rw [← hy] at hld
  have hyg : y = ss[m]'(by omega) := by rw [hy, List.getD_eq_getElem?_getD, List.getElem?_eq_getElem (show m < ss.length by omega)]; rfl
  have hlow := low_iff (x := x) hp (m := m) (by omega)
  rw [← hyg, ← hK] at hlow
  simp (disch := first|omega|(simp only [np,ns];try omega)) [e0, e1, e6, e7, e8, hij, hijI, hadd, hu, hfd, hwm, hmn, hmnI, hq, hez, hld]
  refine less_ok.mono ?_
  rintro u g' ⟨rfl, rfl⟩
  by_cases hlt : y < x
  · have h1 : IntKind.i64.wrap ((m : Int) + 1) = ((m + 1 : Nat) : Int) := by rw [i64_small (by omega) (by omega)]; omega
    have hmK := hlow.1 hlt
    simp (disch := first|omega|(simp only [np,ns];try omega)) [e0, e1, e6, e7, e8, hlt, h1]
    exact ⟨_, by omega, m + 1, j, rfl, by omega, by omega, by omega⟩
  · have hmK : ¬ m < K := fun h => hlt (hlow.2 h)
    simp (disch := first|omega|(simp only [np,ns];try omega)) [e0, e1, e6, e7, e8, hlt]
    exact ⟨_, by omega, i, m, rfl, by omega, by omega, by omega⟩
end Go.Proofs.Ytoenamablkkocaa.Sl
