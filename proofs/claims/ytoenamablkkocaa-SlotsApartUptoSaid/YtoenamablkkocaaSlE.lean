/- slots, part E: Turn, Slot, Waiting, Push, Step. -/
import Derived.Test.YtoenamablkkocaaSlD
set_option linter.unusedVariables false
set_option linter.unusedSimpArgs false
set_option maxRecDepth 100000
namespace Go.Proofs.Ytoenamablkkocaa.Sl
open Go Go.RowKit Go.Proofs.Ytoenamablkkocaa.Pm Go.Proofs.Ytoenamablkkocaa.Fs Go.Proofs.Ytoenamablkkocaa.Fa
attribute [-simp] BitVec.toNat_or BitVec.toNat_xor BitVec.toNat_add BitVec.toNat_and BitVec.toNat_not BitVec.toNat_shiftLeft BitVec.toNat_ushiftRight

section
variable {T : Tb} {s jr jw z : Nat} {v : Value} {ow : Bool} {t : Tn} {q : Nat}
theorem ta_0 : loadObj (.cells (tbL T s v jr jw) ow z) 0 none = some (.bool true) := rfl
theorem ta_1 : loadObj (.cells (tbL T s v jr jw) ow z) 1 none = some (.pointer (some ⟨s, 0, none⟩)) := rfl
theorem ta_2 : loadObj (.cells (tbL T s v jr jw) ow z) 2 none = some v := rfl
theorem ta_3 : loadObj (.cells (tbL T s v jr jw) ow z) 3 none = some (.map (some jr)) := rfl
theorem ta_4 : loadObj (.cells (tbL T s v jr jw) ow z) 4 none = some (.map (some jw)) := rfl
theorem ta_5 : loadObj (.cells (tbL T s v jr jw) ow z) 5 none = some (.int .i64 (T.sl : Int)) := rfl
theorem rw_0 : loadObj (.cells (rwL t q) ow z) 0 none = some (.pointer (some ⟨q, 0, none⟩)) := rfl
theorem rw_1 : loadObj (.cells (rwL t q) ow z) 1 none = some (.int .i64 t.en) := rfl
theorem rs_1 {k : Int} : storeObj (.cells (rwL t q) true z) 1 1 (.int .i64 k) = some (.cells (rwL { t with en := k } q) true z) := rfl
theorem ts_5 {k : Nat} : storeObj (.cells (tbL T s v jr jw) true z) 5 1 (.int .i64 (k : Int)) = some (.cells (tbL ⟨T.ts, k⟩ s v jr jw) true z) := rfl
end
theorem fpO_one {i jr jw : Nat} {v : Value} {a b : List Rt} {r r' : Rt} {n : Nat} (hfp : ∀ x ∈ fpT r', x ∈ fpT r ∨ n ≤ x) : ∀ x ∈ fpO i jr jw v (a ++ r' :: b), x ∈ fpO i jr jw v (a ++ r :: b) ∨ n ≤ x := by
  intro x hx
  simp only [fpO, List.mem_cons, List.flatMap_append, List.flatMap_cons, List.mem_append] at hx ⊢
  rcases hx with hx | hx | hx | hx | hx | hx | hx
  · exact .inl (.inl hx)
  · exact .inl (.inr (.inl hx))
  · exact .inl (.inr (.inr (.inl hx)))
  · exact .inl (.inr (.inr (.inr (.inl hx))))
  · exact .inl (.inr (.inr (.inr (.inr (.inl hx)))))
  · rcases hfp x hx with h1 | h1
    · exact .inl (.inr (.inr (.inr (.inr (.inr (.inl h1))))))
    · exact .inr h1
  · exact .inl (.inr (.inr (.inr (.inr (.inr (.inr hx))))))
theorem slot_ok {h : VH} {i : Nat} {T : Tb} {Z : List Nat} (K : TbAt h i T Z) : PCalls Try.prog f_slots_Table_Slot [.pointer (some ⟨i, 0, none⟩)] h (fun u h' => u = .int .i64 (T.sl : Int) ∧ h' = h) := by
  refine PCalls_of_pw st_slots_Table_Slot (by simp [n_slots_Table_Slot]) ?_
  rw [b_slots_Table_Slot]
  obtain ⟨s, jr, jw, v, rs, X, rfl, k⟩ := K
  have hi := k.rec_
  simp (disch := first|omega|(simp only [np,ns];try omega)) [r_slots_Table_Slot, B_slots_Table_Slot, hi, ta_5]
theorem turn_ok {h : VH} {i : Nat} {T : Tb} {Z : List Nat} (K : TbAt h i T Z) (ok : OkTb T) : PCalls Try.prog f_slots_Table_Turn [.pointer (some ⟨i, 0, none⟩)] h (fun u h' => u = .string (strB (turnT T)) ∧ h' = h) := by
  refine PCalls_of_pw st_slots_Table_Turn (by simp [n_slots_Table_Turn]) ?_
  rw [b_slots_Table_Turn]
  obtain ⟨s, jr, jw, v, rs, X, rfl, k⟩ := K
  have hi := k.rec_
  obtain ⟨N, hN⟩ : ∃ N, N = T.ts.length := ⟨_, rfl⟩
  have hns := k.nms
  have hnl : (namesT T).length = N := by simp [namesT, hN]
  rw [← hN] at hns
  obtain ⟨a, c, rfl⟩ := hns.shapeN
  by_cases h0 : N = 0
  · have ht : turnT T = [] := by
      have : T.ts = [] := List.eq_nil_of_length_eq_zero (by omega)
      simp [turnT, this]
    have hz : ((N : Int) == 0) = true := by simp [h0]
    simp (disch := first|omega|(simp only [np,ns];try omega)) [r_slots_Table_Turn, B_slots_Table_Turn, hi, ta_0, ta_2, hz, ht]
    rfl
  · have hz : ((N : Int) == 0) = false := by simp [h0]
    obtain ⟨m, hm⟩ : ∃ m, m = T.sl % N := ⟨_, rfl⟩
    have hmN : m < N := by rw [hm]; exact Nat.mod_lt _ (by omega)
    have hmI : (m : Int) < (N : Int) := by omega
    have hrem : ((T.sl : Int).tmod (N : Int)) = (m : Int) := by rw [hm]; rfl
    obtain ⟨q, o, c', ds, hv, hq, hez, hld⟩ := strs_ld hns hnl hmN
    injection hv with hv1 _ hv3
    subst hv1
    subst hv3
    have ht : (namesT T).getD m [] = turnT T := by
      rw [turnT_names, hnl, ← hm, List.getD_eq_getElem?_getD]
    rw [ht] at hld
    simp (disch := first|omega|(simp only [np,ns];try omega)) [r_slots_Table_Turn, B_slots_Table_Turn, hi, ta_0, ta_2, ta_5, hz, h0, hrem, hmN, hmI, hq, hez, hld]
theorem twait_ok {h : VH} {i : Nat} {T : Tb} {Z : List Nat} (K : TbAt h i T Z) (ok : OkTb T) {nm : List UInt8} :
    PCalls Try.prog f_slots_Table_Waiting [.pointer (some ⟨i, 0, none⟩), .string (strB nm)] h (fun u h' => u = .int .i64 (waitT T nm : Int) ∧ h' = h) := by
  refine PCalls_of_pw st_slots_Table_Waiting (by simp [n_slots_Table_Waiting]) ?_
  rw [b_slots_Table_Waiting]
  obtain ⟨s, jr, jw, v, rs, X, rfl, k⟩ := K
  have hi := k.rec_
  obtain ⟨clk, hj, hlt⟩ := k.map_
  obtain ⟨es, hes⟩ : ∃ es, es = rs.map entT := ⟨_, rfl⟩
  rw [← hes] at hj
  have hkf : keysFit .s es = true := by rw [hes]; exact keysFit_rs rs
  have hfk : fitK .s (.string (strB nm)) = true := rfl
  cases hfd : findT nm T.ts with
  | none =>
    have hget := k.none_ ok.ord.uni hfd
    rw [← hes] at hget
    have hmv : mval false (.pointer none) none = .pointer none := rfl
    have hw : waitT T nm = 0 := by simp [waitT, hfd]
    simp (disch := first|omega|(simp only [np,ns];try omega)) [r_slots_Table_Waiting, B_slots_Table_Waiting, hi, ta_0, ta_3, hj, hkf, hfk, hget, hmv, hw]
  | some t =>
    obtain ⟨a, r, b, hrs, hrt, hget⟩ := k.found ok.ord.uni hfd
    rw [← hes] at hget
    have R := k.row r (by rw [hrs]; simp)
    have hit := R.rec_
    have hmv : mval false (.pointer none) (some (.pointer (some ⟨r.it, 0, none⟩))) = .pointer (some ⟨r.it, 0, none⟩) := rfl
    have hw : waitT T nm = r.t.l.length := by simp [waitT, hfd, hrt]
    simp (disch := first|omega|(simp only [np,ns];try omega)) [B_slots_Table_Waiting, hi, ta_0, ta_3, hj, hkf, hfk, hget, hmv, hit, rw_0]
    refine (jlen_ok R).mono ?_
    rintro u g ⟨rfl, rfl⟩
    simp (disch := first|omega|(simp only [np,ns];try omega)) [r_slots_Table_Waiting, hw]
set_option maxHeartbeats 2000000 in
theorem tpush_ok {h : VH} {i : Nat} {T : Tb} {Z : List Nat} (K : TbAt h i T Z) (ok : OkTb T) {nm : List UInt8} {q : Jb} :
    PCalls Try.prog f_slots_Table_Push [.pointer (some ⟨i, 0, none⟩), .string (strB nm), jbV q] h (fun u h' => u = .int .i64 (pushT T nm q).1 ∧ TbP h i Z (pushT T nm q).2 h') := by
  refine PCalls_of_pw st_slots_Table_Push (by simp [n_slots_Table_Push]) ?_
  rw [b_slots_Table_Push]
  have K0 := K
  obtain ⟨s, jr, jw, v, rs, X, rfl, k⟩ := K
  obtain ⟨g0, hg0⟩ : ∃ g0, g0 = h.push (.cells [.int .i64 q.id, .int .i64 q.cost] true 1) := ⟨_, rfl⟩
  have F0 : Fr h g0 [] := by rw [hg0]; exact Fr_push (Fr.refl _ _)
  have q0 : g0.get h.n = .cells [.int .i64 q.id, .int .i64 q.cost] true 1 := by rw [hg0, VH.get_push_new]
  have k0 := k.fr0 F0
  have hi := k0.rec_
  obtain ⟨clk, hj, hlt⟩ := k0.map_
  obtain ⟨es, hes⟩ : ∃ es, es = rs.map entT := ⟨_, rfl⟩
  rw [← hes] at hj
  have hkf : keysFit .s es = true := by rw [hes]; exact keysFit_rs rs
  have hfk : fitK .s (.string (strB nm)) = true := rfl
  have hfi : fillC [.int .i64 0, .int .i64 0] [(0, 2, .agg #[.int .i64 q.id, .int .i64 q.cost])] = some [.int .i64 q.id, .int .i64 q.cost] := rfl
  cases hfd : findT nm T.ts with
  | none =>
    have hget := k.none_ ok.ord.uni hfd
    rw [← hes] at hget
    have hmv : mval false (.pointer none) none = .pointer none := rfl
    have hs : pushT T nm q = (5, T) := by simp [pushT, hfd]
    simp (disch := first|omega|(simp only [np,ns];try omega)) [r_slots_Table_Push, B_slots_Table_Push, jbV, s2_A, ← hg0, hfi, hi, ta_0, ta_3, hj, hkf, hfk, hget, hmv, hs]
    exact TbP.same K0 F0
  | some t =>
    obtain ⟨a, r, b, hrs, hrt, hget⟩ := k0.found ok.ord.uni hfd
    rw [← hes] at hget
    subst hrs
    have R := k0.row r (by simp)
    have hit := R.rec_
    have hmv : mval false (.pointer none) (some (.pointer (some ⟨r.it, 0, none⟩))) = .pointer (some ⟨r.it, 0, none⟩) := rfl
    by_cases hc1 : q.cost < 1
    · have hs : pushT T nm q = (1, T) := by simp [pushT, hfd, hc1]
      simp (disch := first|omega|(simp only [np,ns];try omega)) [r_slots_Table_Push, B_slots_Table_Push, jbV, s2_A, ← hg0, hfi, hi, ta_0, ta_3, hj, hkf, hfk, hget, hmv, q0, lA_1, hc1, hs]
      exact TbP.same K0 F0
    by_cases hc2 : 1000 < q.cost
    · have hs : pushT T nm q = (1, T) := by simp [pushT, hfd, hc2]
      simp (disch := first|omega|(simp only [np,ns];try omega)) [r_slots_Table_Push, B_slots_Table_Push, jbV, s2_A, ← hg0, hfi, hi, ta_0, ta_3, hj, hkf, hfk, hget, hmv, q0, lA_1, hc1, hc2, hs]
      exact TbP.same K0 F0
    have hjb : (.agg #[.int .i64 q.id, .int .i64 q.cost] : Value) = jbV q := rfl
    simp (disch := first|omega|(simp only [np,ns];try omega)) [B_slots_Table_Push, jbV, s2_A, ← hg0, hfi, hi, ta_0, ta_3, hj, hkf, hfk, hget, hmv, q0, lA_1, hc1, hc2, hit, rw_0, l2_A]
    rw [hjb]
    by_cases hl : 16 ≤ t.l.length
    · have hs : pushT T nm q = (200, T) := by simp [pushT, hfd, hc1, hc2, hl]
      refine (jpush_full R q (by rw [hrt]; exact hl)).mono ?_
      rintro u g ⟨rfl, Fg⟩
      simp (disch := first|omega|(simp only [np,ns];try omega)) [r_slots_Table_Push, hs]
      exact TbP.same K0 (F0.trans Fg)
    · have hs : pushT T nm q = (0, { T with ts := putT { t with l := t.l ++ [⟨q, 0⟩] } T.ts }) := by simp [pushT, hfd, hc1, hc2, hl]
      refine (jpush_ok R q (by rw [hrt]; omega)).mono ?_
      rintro u g ⟨rfl, w, R2, Fg, hid⟩
      simp (disch := first|omega|(simp only [np,ns];try omega)) [r_slots_Table_Push, hs]
      have hfp : ∀ x ∈ fpT (addW r ⟨q, 0⟩ w), x ∈ fpT r ∨ g0.n ≤ x := by
        intro x hx
        simp only [fpT, addW, List.mem_cons] at hx ⊢
        rcases hx with hx | hx | hx
        · exact .inl (.inl hx)
        · exact .inl (.inr (.inl hx))
        · exact (hid x hx).imp (fun h => .inr (.inr h)) id
      have hn0 := F0.n
      have k2 := k0.one ok.ord.uni (r' := addW r ⟨q, 0⟩ w) (Fg.sub (fun x hx => by simp only [fpT]; exact List.mem_cons_of_mem _ hx)) R2 rfl rfl rfl rfl R2.nd hfp
      have ht : (addW r ⟨q, 0⟩ w).t = { t with l := t.l ++ [⟨q, 0⟩] } := by simp [addW, hrt]
      rw [ht] at k2
      refine ⟨_, ⟨s, jr, jw, v, _, X, rfl, k2⟩, F0.sub (by simp) |>.trans (Fg.sub (fun x hx => ?_)), fun x hx => ?_⟩
      · refine List.mem_append_left _ (fpO_row (r := r) (by simp) x ?_)
        simp only [fpT]
        exact List.mem_cons_of_mem _ hx
      · have h0 := fpO_one (i := i) (jr := jr) (jw := jw) (v := v) (a := a) (b := b) hfp
        rcases List.mem_append.1 hx with hx | hx
        · rcases h0 x hx with h1 | h1
          · exact .inl (List.mem_append_left _ h1)
          · exact .inr (by omega)
        · exact .inl (List.mem_append_right _ hx)
end Go.Proofs.Ytoenamablkkocaa.Sl
