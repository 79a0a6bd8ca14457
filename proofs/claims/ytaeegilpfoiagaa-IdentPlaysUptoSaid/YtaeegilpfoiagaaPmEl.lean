/- The pure machine, part El: elements of an owned slice, read and put. -/
import Derived.Test.YtaeegilpfoiagaaPmZa
set_option linter.unusedVariables false
set_option linter.unusedSimpArgs false
namespace Go.Proofs.Ytaeegilpfoiagaa.Pm
open Go.RowKit

theorem wr_mid {A R B x : List Value} {f : Nat} (hf : f + x.length ≤ R.length) : wr (A ++ (R ++ B)) (A.length + f) x = A ++ (wr R f x ++ B) := by
  unfold wr
  rw [List.take_append, List.drop_append, List.take_of_length_le (l := A) (by omega), List.drop_eq_nil_of_le (show A.length ≤ A.length + f + x.length by omega), show A.length + f - A.length = f by omega, show A.length + f + x.length - A.length = f + x.length by omega,
    List.take_append_of_le_length (by omega), List.drop_append_of_le_length hf]
  simp
theorem wr_whole {R x : List Value} (h : x.length = R.length) : wr R 0 x = x := by simp [wr, h]
theorem flat_len {α : Type} {C : α → List Value} {z : Nat} (hC : ∀ a, (C a).length = z) : ∀ (l : List α), (l.flatMap C).length = l.length * z
  | [] => by simp
  | a :: l => by rw [List.flatMap_cons, List.length_append, flat_len hC l, hC, List.length_cons, Nat.succ_mul]; omega
theorem OwnSl.el {α : Type} {C : α → List Value} {z : Nat} (hC : ∀ a, (C a).length = z) (hz : 0 < z) {h : VH} {v : Value} {l A B : List α} {a : α} {n : Nat} (k : OwnSl h z v (l.flatMap C) n) (e : l = A ++ a :: B) :
    ∃ i o c ds, v = .slice (some ⟨i, o, none⟩) n c ∧ A.length < n ∧ n ≤ c ∧ i < h.n ∧ h.get i = .cells ds true z ∧ (ds.drop (o + A.length * z)).take z = C a ∧ o + A.length * z + z ≤ ds.length ∧
      ∀ (a' : α) (g' : VH), h.n ≤ g'.n → g'.get i = .cells (wr ds (o + A.length * z) (C a')) true z → OwnSl g' z v ((A ++ a' :: B).flatMap C) n := by
  have hl := flat_len hC l
  have hll : l.length = A.length + 1 + B.length := by rw [e]; simp; omega
  rcases k with ⟨_, h1, _⟩ | ⟨i, o, c, ds, h1, h2, h3, h4, h5, h6, h7⟩
  · rw [h1, hll] at hl
    have : z ≤ (A.length + 1 + B.length) * z := Nat.le_mul_of_pos_left z (by omega)
    simp at hl
    omega
  · have hn : n = l.length := by
      rw [hl] at h6
      exact (Nat.eq_of_mul_eq_mul_right hz h6).symm
    have hA := flat_len hC A
    have hB := flat_len hC B
    have hfl : l.flatMap C = A.flatMap C ++ (C a ++ B.flatMap C) := by rw [e]; simp
    have hdl := congrArg List.length h5
    rw [List.length_drop, hl, hll, Nat.add_mul, Nat.add_mul, Nat.one_mul] at hdl
    refine ⟨i, o, c, ds, h3, by omega, h2, h1, h4, ?_, by omega, fun a' g' hg hgi => .inr ⟨i, o, c, _, by omega, h2, h3, hgi, ?_, ?_, ?_⟩⟩
    · rw [← List.drop_drop, h5, hfl, List.drop_left' hA, List.take_left' (hC a)]
    · have h8 : ds = ds.take o ++ (A.flatMap C ++ (C a ++ B.flatMap C)) := by rw [← hfl, ← h5, List.take_append_drop]
      have h9 : (ds.take o).length = o := by simp; omega
      have h10 : wr ds (o + A.length * z) (C a') = (ds.take o ++ A.flatMap C) ++ (wr (C a) 0 (C a') ++ B.flatMap C) := by
        rw [← wr_mid (by rw [hC, hC]; omega), List.append_assoc, ← h8, List.length_append, h9, hA, Nat.add_zero]
      rw [h10, List.append_assoc, List.drop_left' h9, wr_whole (by rw [hC, hC])]
      simp
    · rw [flat_len hC, hn, hll]; congr 1; simp; omega
    · rw [wr_length (by rw [hC]; omega)]; omega
theorem el_load {ds R : List Value} {q z : Nat} {ow : Bool} {zz : Nat} (hR : (ds.drop q).take z = R) (hq : q + z ≤ ds.length) : loadObj (.cells ds ow zz) q (some z) = some (.agg R.toArray) := by
  simp only [loadObj]
  rw [if_pos hq, hR]
theorem el_field {ds R : List Value} {q z f : Nat} {ow : Bool} {zz : Nat} (hR : (ds.drop q).take z = R) (hq : q + z ≤ ds.length) (hf : f < z) : loadObj (.cells ds ow zz) (q + f) none = R[f]? := by
  rw [loadObj_one, ← hR, List.getElem?_take, if_pos hf, List.getElem?_drop]
theorem el_back {ds R : List Value} {q : Nat} (hq : q + R.length ≤ ds.length) : ((wr ds q R).drop q).take R.length = R := by
  unfold wr
  rw [List.append_assoc, List.drop_left' (by simp; omega), List.take_left']
  rfl
theorem el_again {ds R R' : List Value} {q : Nat} (hq : q + R.length ≤ ds.length) (hl : R'.length = R.length) : wr (wr ds q R) q R' = wr ds q R' := by
  have h1 : (ds.take q).length = q := by simp; omega
  have h2 : wr ds q R = ds.take q ++ (R ++ ds.drop (q + R.length)) := by simp [wr]
  rw [h2]
  have h3 := wr_mid (A := ds.take q) (R := R) (B := ds.drop (q + R.length)) (f := 0) (x := R') (by omega)
  rw [h1, Nat.add_zero] at h3
  rw [h3, wr_whole hl]
  simp [wr, hl]
theorem el_put {ds R : List Value} {q z f : Nat} {x : Value} (hR : (ds.drop q).take z = R) (hq : q + z ≤ ds.length) (hf : f < z) (hx : cellsL x = [x]) (h1 : Value.oneCell' x = true) {zz : Nat} : storeObj (.cells ds true zz) (q + f) 1 x = some (.cells (wr ds q (R.set f x)) true zz) := by
  have hRl : R.length = z := by rw [← hR]; simp; omega
  simp only [storeObj]
  rw [hx, if_pos ⟨rfl, by omega, by simp [h1]⟩]
  congr 2
  have h8 : ds = ds.take q ++ (R ++ ds.drop (q + z)) := by
    rw [← hR, ← List.drop_drop, List.take_append_drop, List.take_append_drop]
  have h9 : (ds.take q).length = q := by simp; omega
  have h2 := wr_mid (A := ds.take q) (R := R) (B := ds.drop (q + z)) (f := f) (x := [x]) (by simp; omega)
  have h3 := wr_mid (A := ds.take q) (R := R) (B := ds.drop (q + z)) (f := 0) (x := R.set f x) (by simp)
  rw [h9, ← h8] at h2 h3
  rw [h2]
  rw [Nat.add_zero] at h3
  rw [h3, wr_whole (by simp), wr_one (by omega)]
theorem el_putN {ds R : List Value} {q z : Nat} (hq : q + z ≤ ds.length) (hl : R.length = z) (h1 : R.all Value.oneCell' = true) {zz : Nat} : storeObj (.cells ds true zz) q z (.agg R.toArray) = some (.cells (wr ds q R) true zz) := by
  simp only [storeObj]
  rw [cellsL_agg, if_pos ⟨hl, hq, h1⟩]
theorem OwnSl.atj {α : Type} {C : α → List Value} {z : Nat} (hC : ∀ a, (C a).length = z) (hz : 0 < z) {h : VH} {v : Value} {l : List α} {n : Nat} (k : OwnSl h z v (l.flatMap C) n) {j : Nat} (hj : j < l.length) :
    ∃ i o c ds, v = .slice (some ⟨i, o, none⟩) n c ∧ j < n ∧ n ≤ c ∧ i < h.n ∧ h.get i = .cells ds true z ∧ (ds.drop (o + j * z)).take z = C l[j] ∧ o + j * z + z ≤ ds.length ∧
      ∀ (a' : α) (g' : VH), h.n ≤ g'.n → g'.get i = .cells (wr ds (o + j * z) (C a')) true z → OwnSl g' z v ((l.set j a').flatMap C) n := by
  have e : l = l.take j ++ l[j] :: l.drop (j + 1) := by rw [← List.drop_eq_getElem_cons hj, List.take_append_drop]
  have h1 := OwnSl.el hC hz k e
  have h2 : (l.take j).length = j := by simp; omega
  rw [h2] at h1
  obtain ⟨i, o, c, ds, h3, h4, h5, h6, h7, h8, h9, h10⟩ := h1
  refine ⟨i, o, c, ds, h3, h4, h5, h6, h7, h8, h9, fun a' g' hg hgi => ?_⟩
  rw [List.set_eq_take_append_cons_drop, if_pos hj]
  exact h10 a' g' hg hgi

end Go.Proofs.Ytaeegilpfoiagaa.Pm
