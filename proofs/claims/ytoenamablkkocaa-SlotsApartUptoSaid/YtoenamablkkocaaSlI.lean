/- slots, part I: names cloned; Tenants. -/
import Derived.Test.YtoenamablkkocaaSlG
set_option linter.unusedVariables false
set_option linter.unusedSimpArgs false
set_option maxRecDepth 100000
namespace Go.Proofs.Ytoenamablkkocaa.Sl
open Go Go.RowKit Go.Proofs.Ytoenamablkkocaa.Pm Go.Proofs.Ytoenamablkkocaa.Fs Go.Proofs.Ytoenamablkkocaa.Fa
attribute [-simp] BitVec.toNat_or BitVec.toNat_xor BitVec.toNat_add BitVec.toNat_and BitVec.toNat_not BitVec.toNat_shiftLeft BitVec.toNat_ushiftRight


theorem sclone_ok {h : VH} {v : Value} {l : List (List UInt8)} {n : Nat} (k : OwnSl h 1 v (strsV l) n) (hn : l.length = n) (hb : n ≤ 1000) :
    PCalls Try.prog f_slices_Clone_string_string [v] h (fun u h' => OwnSl h' 1 u (strsV l) n ∧ Fr h h' [] ∧ ∀ y ∈ idOf u, h.n ≤ y) := by
  refine PCalls_of_pw st_slices_Clone_string_string (by simp [n_slices_Clone_string_string]) ?_
  rw [b_slices_Clone_string_string]
  rcases k with ⟨rfl, h1, h2⟩ | ⟨i, o, c, ds, h1, h2, rfl, h4, h5, h6, h7⟩
  · simp (disch := first|omega|(simp only [np,ns];try omega)) [r_slices_Clone_string_string, B_slices_Clone_string_string]
    exact ⟨.inl ⟨rfl, h1, h2⟩, Fr.refl _ _, by simp [idOf]⟩
  · obtain ⟨g1, hg1⟩ : ∃ g1, g1 = h.push (.cells [] true 1) := ⟨_, rfl⟩
    have F1 : Fr h g1 [] := by rw [hg1]; exact Fr_push (Fr.refl _ _)
    have n1 : g1.n = h.n + 1 := by rw [hg1]; rfl
    have ow1 : OwnSl g1 1 (.slice (some ⟨h.n, 0, none⟩) 0 0) [] 0 := .inr ⟨h.n, 0, 0, [], by omega, Nat.le_refl _, rfl, by rw [hg1, VH.get_push_new], rfl, rfl, Nat.le_refl _⟩
    obtain ⟨v', g2, hap, ho2, hf2, hid⟩ := ow1.append (bytes := 16) (ys := strsV l) (k := n) (by simp [strsV, hn]) (by omega)
    have hi1 : g1.get i = .cells ds true 1 := (F1.get i h1 (by simp)).trans h4
    have hro : rowObj (.cells ds true 1) o (n * 1) = some (strsV l) := by
      have h8 := congrArg List.length h5
      rw [List.length_drop] at h8
      simp only [rowObj]
      rw [if_pos (by omega), h5, List.take_of_length_le (by omega)]
    rw [Nat.mul_one] at hro
    simp (disch := first|omega|(simp only [np,ns];try omega)) [r_slices_Clone_string_string, B_slices_Clone_string_string, fillC, ← hg1, hi1, hro, Option.bind_some, hap]
    rw [List.nil_append, Nat.zero_add] at ho2
    refine ⟨ho2, F1.trans' hf2 (fun y hy => by simp [idOf] at hy; omega), fun y hy => ?_⟩
    rcases hid y hy with h1 | h1
    · simp [idOf] at h1; omega
    · omega
theorem left_ok {h : VH} {i : Nat} {T : Tb} {Z : List Nat} (K : TbAt h i T Z) (hid : idleS T.ts = true) :
    PCalls Try.prog f_slots_Table_left [.pointer (some ⟨i, 0, none⟩)] h (fun u h' => u = .bool false ∧ Fr h h' []) := by
  refine PCalls_of_pw st_slots_Table_left (by simp [n_slots_Table_left]) ?_
  rw [b_slots_Table_left]
  obtain ⟨s, j, jw, v, rs, X, rfl, k⟩ := K
  have hi := k.rec_
  obtain ⟨clk, hj, hlt⟩ := k.map_
  have hlj := k.ltr
  obtain ⟨es, hes⟩ : ∃ es, es = rs.map entT := ⟨_, rfl⟩
  rw [← hes] at hj
  simp (disch := first|omega|(simp only [np,ns];try omega)) [B_slots_Table_left, hi, ta_3, hj]
  refine pw_loop (fun n s g => ∃ dn td, n = td.length ∧ Rng h g j clk rs dn td ∧ s 9 = .pointer (some ⟨h.n, 0, none⟩)) rs.length ?_ ?_
  · exact ⟨[], rs, rfl, ⟨Fr.push _ _ _, by simp, List.Perm.refl _, VH.get_push_new _ _⟩, by simp [upd_apply]⟩
  rintro n s g ⟨dn, td, rfl, R, e9⟩
  have hjg : g.get j = .map es clk true := (R.fr.get j hlj (by simp)).trans hj
  have hqj : j ≠ h.n := by omega
  have hlq := R.lt
  simp (disch := first|omega|(simp only [np,ns];try omega)) [e9]
  refine range_next hes R.perm k.bnd hlt R.iter hjg ?_ ?_
  · rintro rfl
    simp (disch := first|omega|(simp only [np,ns];try omega)) [r_slots_Table_left]
    exact R.fr
  · intro x a b sn htd hsn hlast
    have hx := R.at_ htd
    have hxt : x.t ∈ T.ts := k.perm.mem_iff.1 (List.mem_map_of_mem hx)
    obtain ⟨g1, hg1⟩ : ∃ g1, g1 = g.set h.n (.miter (some j) clk sn clk) := ⟨_, rfl⟩
    have F1 : Fr h g1 [] := by rw [hg1]; exact Fr_set R.fr (Nat.le_refl _)
    have q1 : g1.get h.n = .miter (some j) clk sn clk := by rw [hg1, VH.get_set_same]
    have n1 : h.n < g1.n := by rw [hg1]; exact hlq
    have j1 : g1.get j = .map es clk true := (F1.get j hlj (by simp)).trans hj
    have Rw := (k.row x hx).fr F1 (fun _ _ => by simp)
    have hit := Rw.rec_
    have hR := R.next htd hsn q1 F1 n1
    have hl : x.t.l = [] := idle_true hid x.t hxt
    have hl0 : (x.t.l.length : Int) = 0 := by rw [hl]; rfl
    simp (disch := first|omega|(simp only [np,ns];try omega)) [e9, ← hg1, q1, j1, hlast, entT, hit, rw_0]
    refine (jlen_ok Rw).mono ?_
    rintro u g2 ⟨rfl, hg2⟩
    rw [hg2]
    simp (disch := first|omega|(simp only [np,ns];try omega)) [hl0, e9]
    exact ⟨_, by have := (perm_step R.perm htd).2; exact this, dn ++ [x], a ++ b, rfl, hR⟩
theorem tenants_ok {h : VH} {i : Nat} {T : Tb} {Z : List Nat} (K : TbAt h i T Z) (ok : OkTb T) :
    PCalls Try.prog f_slots_Table_Tenants [.pointer (some ⟨i, 0, none⟩)] h (fun u h' => OwnSl h' 1 u (strsV (namesT T)) T.ts.length ∧ Fr h h' [] ∧ ∀ y ∈ idOf u, h.n ≤ y) := by
  refine PCalls_of_pw st_slots_Table_Tenants (by simp [n_slots_Table_Tenants]) ?_
  rw [b_slots_Table_Tenants]
  obtain ⟨s, jr, jw, v, rs, X, rfl, k⟩ := K
  have hi := k.rec_
  have hlen := ok.len
  obtain ⟨n, hn⟩ : ∃ n, n = T.ts.length := ⟨_, rfl⟩
  have hns := k.nms
  rw [← hn] at hns hlen ⊢
  simp (disch := first|omega|(simp only [np,ns];try omega)) [B_slots_Table_Tenants, hi, ta_2]
  refine (sclone_ok hns (by simp [namesT, hn]) (by omega)).mono ?_
  rintro u g ⟨O, F, hid⟩
  rcases O with ⟨rfl, h1, h2⟩ | ⟨q, o, c, ds, h1, h2, rfl, h4, h5, h6, h7⟩
  · simp (disch := first|omega|(simp only [np,ns];try omega)) [r_slots_Table_Tenants]
    exact ⟨.inl ⟨rfl, h1, h2⟩, F, by simp [idOf]⟩
  · have hez : eszObj (.cells ds true 1) 1 = true := rfl
    simp (disch := first|omega|(simp only [np,ns];try omega)) [r_slots_Table_Tenants, h4, hez, h2]
    exact ⟨.inr ⟨q, o, n, ds, h1, Nat.le_refl _, rfl, h4, h5, h6, h7⟩, F, fun y hy => hid y (by simpa [idOf] using hy)⟩

/- slots, part J: Set: what its scheduler does. -/

theorem find_bare (nm : List UInt8) : ∀ (ts : List Tn), findT nm (ts.map bare) = (findT nm ts).map bare
  | [] => rfl
  | t :: r => by
    simp only [List.map_cons, findT, show (bare t).nm = t.nm from rfl]
    split
    · rfl
    · exact find_bare nm r
theorem put_bare (x : Tn) : ∀ (ts : List Tn), (putT x ts).map bare = putT (bare x) (ts.map bare)
  | [] => rfl
  | t :: r => by
    simp only [List.map_cons, putT, show (bare t).nm = t.nm from rfl, show (bare x).nm = x.nm from rfl]
    split
    · rfl
    · rw [List.map_cons, put_bare x r]
theorem ins_bare (x : Tn) : ∀ (ts : List Tn), (insT x ts).map bare = insT (bare x) (ts.map bare)
  | [] => rfl
  | t :: r => by
    simp only [List.map_cons, insT, show (bare t).nm = t.nm from rfl, show (bare x).nm = x.nm from rfl]
    split
    · rw [List.map_cons, ins_bare x r]
    · rfl
theorem fair_set {T : Tb} (hid : idleS T.ts = true) (nm : List UInt8) (w : Int) : setS (fairOf T) nm w = ((setT T nm w).1, fairOf (setT T nm w).2) := by
  unfold setS setT
  by_cases hw : w < 1 ∨ 16 < w
  · simp only [if_pos hw]
  · simp only [if_neg hw]
    rw [show (fairOf T).ts = T.ts.map bare from rfl, find_bare]
    cases hfd : findT nm T.ts with
    | some t =>
      have hl : t.l = [] := idle_true hid t (findT_some hfd).1
      simp only [Option.map_some, if_pos hl, show (bare t).l = [] from rfl, if_true]
      simp only [fairOf, put_bare]
      rfl
    | none =>
      simp only [Option.map_none, List.length_map, hid]
      by_cases h16 : 16 ≤ T.ts.length
      · simp [h16]
      · simp [h16, fairOf, ins_bare, bare]
end Go.Proofs.Ytoenamablkkocaa.Sl
