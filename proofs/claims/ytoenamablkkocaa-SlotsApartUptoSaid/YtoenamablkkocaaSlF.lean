/- slots, part F: Pop; Ahead. -/
import Derived.Test.YtoenamablkkocaaSlE
import Derived.Test.YtoenamablkkocaaPmEl
set_option linter.unusedVariables false
set_option linter.unusedSimpArgs false
set_option maxRecDepth 100000
namespace Go.Proofs.Ytoenamablkkocaa.Sl
open Go Go.RowKit Go.Proofs.Ytoenamablkkocaa.Pm Go.Proofs.Ytoenamablkkocaa.Fs Go.Proofs.Ytoenamablkkocaa.Fa
attribute [-simp] BitVec.toNat_or BitVec.toNat_xor BitVec.toNat_add BitVec.toNat_and BitVec.toNat_not BitVec.toNat_shiftLeft BitVec.toNat_ushiftRight

theorem jpop_ok {h : VH} {r : Rt} (k : RowAt h r) (hne : r.t.l ≠ []) :
    PCalls Try.prog f_fair_Queue_api_Job_Pop [.pointer (some ⟨r.iq, 0, none⟩)] h (fun u h' => ∃ v, RowAt h' (popW r v) ∧ Fr h h' [r.iq] ∧ ∀ x ∈ idOf v, x ∈ idOf r.v) := by
  refine PCalls_of_pw st_fair_Queue_api_Job_Pop (by simp [n_fair_Queue_api_Job_Pop]) ?_
  rw [b_fair_Queue_api_Job_Pop]
  have hlq := k.lq
  have hlt := k.lt
  have hnq := k.nq
  have hnv := k.nv
  have hrec := k.rec_
  have hq := k.qu
  have ho := k.own
  cases hl : r.t.l with
  | nil => exact absurd hl hne
  | cons w l =>
  rw [hl] at ho
  obtain ⟨i, o, c, ds, hil, h0, hc, hv, hgi, hld, ho'⟩ := OwnSl.hd2 ho
  obtain ⟨n, hn⟩ : ∃ n, n = (w :: l).length := ⟨_, rfl⟩
  rw [← hn] at hv h0 hc ho'
  have hiv : idOf r.v = [i] := by rw [hv]; rfl
  rw [hv] at hq
  rw [hiv] at hnv
  obtain ⟨g1, hg1⟩ : ∃ g1, g1 = h.push (.cells [.int .i64 0, .int .i64 0] true 1) := ⟨_, rfl⟩
  have F1 : Fr h g1 [] := by rw [hg1]; exact Fr_push (Fr.refl _ _)
  have n1 : g1.n = h.n + 1 := by rw [hg1]; simp
  have x1 : g1.get h.n = .cells [.int .i64 0, .int .i64 0] true 1 := by rw [hg1, VH.get_push_new]
  simp (disch := first|omega|(simp only [np,ns];try omega)) [B_fair_Queue_api_Job_Pop, ← hg1]
  refine (jpeek_ok (k.fr F1 (fun _ _ => by simp))).mono ?_
  rintro u g ⟨rfl, Fg⟩
  have ng := Fg.n
  have xg : g.get h.n = .cells [.int .i64 0, .int .i64 0] true 1 := (Fg.get _ (by omega) (by simp)).trans x1
  have hp : peekJ r.t.l = .tuple #[.agg #[.int .i64 w.j.id, .int .i64 w.j.cost], .bool true] := by rw [hl]; rfl
  rw [hp]
  obtain ⟨g2, hg2⟩ : ∃ g2, g2 = (g.push (.cells [.int .i64 0, .int .i64 0] true 1)).set g.n (.cells [.int .i64 w.j.id, .int .i64 w.j.cost] true 1) := ⟨_, rfl⟩
  have F2 : Fr g g2 [] := by rw [hg2]; exact Fr_set (Fr_push (Fr.refl _ _)) (by omega)
  have F02 := (F1.trans Fg).trans F2
  have q2 : g2.get r.iq = .cells (quL (.slice (some ⟨i, o, none⟩) n c)) true 1 := (F02.get _ hlq (by simp)).trans hq
  have i2 : g2.get i = .cells ds true 2 := (F02.get _ hil (by simp)).trans hgi
  have m2 : g2.n = g.n + 1 := by rw [hg2]; simp
  have y2 : g2.get g.n = .cells [.int .i64 w.j.id, .int .i64 w.j.cost] true 1 := by rw [hg2, VH.get_set_same]
  have x2 : g2.get h.n = .cells [.int .i64 0, .int .i64 0] true 1 := (F2.get _ (by omega) (by simp)).trans xg
  have hez : eszObj (.cells ds true 2) 2 = true := rfl
  have hnI : (1 : Int) ≤ (n : Int) := by omega
  obtain ⟨g3, hg3⟩ : ∃ g3, g3 = g2.set r.iq (.cells (quL (.slice (some ⟨i, o + 2, none⟩) (n - 1) (c - 1))) true 1) := ⟨_, rfl⟩
  have F3 : Fr g2 g3 [r.iq] := by rw [hg3]; exact Fr.set _ _ (by simp)
  have y3 : g3.get g.n = .cells [.int .i64 w.j.id, .int .i64 w.j.cost] true 1 := (F3.get _ (by omega) (by simp; omega)).trans y2
  have x3 : g3.get h.n = .cells [.int .i64 0, .int .i64 0] true 1 := (F3.get _ (by omega) (by simp; omega)).trans x2
  simp (disch := first|omega|(simp only [np,ns];try omega)) [r_fair_Queue_api_Job_Pop, hl, s2_A, ← hg2, q2, l2_1, i2, hez, h0, hnI, hc, sq_1, ← hg3, y3, x3, l2_A]
  have F4 : Fr h (g3.set h.n (.cells [.int .i64 w.j.id, .int .i64 w.j.cost] true 1)) [r.iq] :=
    ((F02.sub (by simp)).trans F3).trans' (Fr.set _ _ (X := [h.n]) (by simp)) (fun y hy => by simp at hy; omega)
  refine ⟨.slice (some ⟨i, o + 2, none⟩) (n - 1) (c - 1), ⟨?_, ?_, ?_, ?_, ?_⟩, F4, fun x hx => by rw [hiv]; exact hx⟩
  · have := F4.n; show r.it < _; omega
  · have := F4.n; show r.iq < _; omega
  · rw [show (popW r (.slice (some ⟨i, o + 2, none⟩) (n - 1) (c - 1))).it = r.it from rfl, F4.get _ hlt (by simpa using hnq)]; exact hrec
  · rw [show (popW r (.slice (some ⟨i, o + 2, none⟩) (n - 1) (c - 1))).iq = r.iq from rfl, VH.get_set_ne _ _ (by omega), hg3, VH.get_set_same]; rfl
  · show OwnSl _ 2 _ (jbsL r.t.l.tail) r.t.l.tail.length
    rw [hl]
    have e1 : (w :: l).tail.length = n - 1 := by rw [hn]; simp
    rw [e1]
    exact ho'.fr F4 (fun x hx hxi => by simp [idOf] at hx; simp at hxi; rw [hx] at hxi; exact hnv.2 (by simp [hxi]))
theorem sumC_take {l : List Wk} {k : Nat} (hk : k < l.length) : sumC (l.take (k + 1)) = sumC (l.take k) + l[k].j.cost := by
  unfold sumC
  rw [List.take_succ_eq_append_getElem hk, List.map_append, List.sum_append]
  simp
theorem sumC_bd : ∀ {l : List Wk}, (∀ w ∈ l, 1 ≤ w.j.cost ∧ w.j.cost ≤ 1000) → 0 ≤ sumC l ∧ sumC l ≤ 1000 * (l.length : Int)
  | [], _ => by simp [sumC]
  | w :: l, h => by
    have h1 := h w (List.mem_cons_self ..)
    have h2 := sumC_bd (l := l) (fun x hx => h x (List.mem_cons_of_mem _ hx))
    simp only [sumC, List.map_cons, List.sum_cons, List.length_cons] at h2 ⊢
    omega
set_option maxHeartbeats 2000000 in
theorem tahead_ok {h : VH} {i : Nat} {T : Tb} {Z : List Nat} (K : TbAt h i T Z) (ok : OkTb T) (hsl : T.sl ≤ 1000000) {nm : List UInt8} :
    PCalls Try.prog f_slots_Table_Ahead [.pointer (some ⟨i, 0, none⟩), .string (strB nm)] h (fun u h' => u = .int .i64 (aheadT T nm) ∧ Fr h h' []) := by
  refine PCalls_of_pw st_slots_Table_Ahead (by simp [n_slots_Table_Ahead]) ?_
  rw [b_slots_Table_Ahead]
  obtain ⟨s, jr, jw, v, rs, X, rfl, k⟩ := K
  have hi := k.rec_
  obtain ⟨clk, hj, hlt⟩ := k.map_
  obtain ⟨es, hes⟩ : ∃ es, es = rs.map entT := ⟨_, rfl⟩
  rw [← hes] at hj
  have hkf : keysFit .s es = true := by rw [hes]; exact keysFit_rs rs
  have hfk : fitK .s (.string (strB nm)) = true := rfl
  cases hfd : findT nm T.ts with
  | none =>
    have hget := k.none_ ok.ord.uni hfd
    rw [← hes] at hget
    have hmv : mval false (.pointer none) none = .pointer none := rfl
    have hw : aheadT T nm = 0 := by simp [aheadT, hfd]
    simp (disch := first|omega|(simp only [np,ns];try omega)) [r_slots_Table_Ahead, B_slots_Table_Ahead, hi, ta_0, ta_3, hj, hkf, hfk, hget, hmv, hw]
    exact Fr.refl _ _
  | some t =>
    obtain ⟨ra, r, rb, hrs, hrt, hget⟩ := k.found ok.ord.uni hfd
    rw [← hes] at hget
    have R := k.row r (by rw [hrs]; simp)
    have hit := R.rec_
    have hmv : mval false (.pointer none) (some (.pointer (some ⟨r.it, 0, none⟩))) = .pointer (some ⟨r.it, 0, none⟩) := rfl
    have okt := ok.find hfd
    have hen0 := okt.en0
    have henb := okt.enb
    have hlen : r.t.l.length ≤ 16 := by rw [hrt]; exact okt.len
    obtain ⟨E, hE⟩ : ∃ E, E = r.t.en := ⟨_, rfl⟩
    have hneg : IntKind.i64.wrap (-E) = -E := i64_small (by rw [hE, hrt]; omega) (by rw [hE, hrt]; omega)
    have rw_1' : loadObj (.cells (rwL r.t r.iq) true 1) 1 none = some (.int .i64 E) := by rw [hE]; rfl
    simp (disch := first|omega|(simp only [np,ns];try omega)) [B_slots_Table_Ahead, hi, ta_0, ta_3, hj, hkf, hfk, hget, hmv, hit, rw_0, rw_1', hneg]
    refine (jall_ok R (by omega)).mono ?_
    rintro u g1 ⟨O, F1, id1⟩
    obtain ⟨l, hl⟩ : ∃ l, l = r.t.l := ⟨_, rfl⟩
    rw [← hl] at O hlen
    have hwk : ∀ w ∈ l, 1 ≤ w.j.cost ∧ w.j.cost ≤ 1000 := fun w hw => okt.wk w (by rw [← hrt, ← hl]; exact hw)
    obtain ⟨a, c, rfl⟩ := O.shapeN
    obtain ⟨N, hN⟩ : ∃ N, N = l.length := ⟨_, rfl⟩
    rw [← hN]
    rw [← hN] at O id1
    obtain ⟨A, hA⟩ : ∃ A : Nat → Int, A = fun n => -E + sumC (l.take n) := ⟨_, rfl⟩
    simp (disch := first|omega|(simp only [np,ns];try omega)) []
    refine pw_loopN (fun n s g => Fr g1 g [] ∧ s 41 = .slice a N c ∧ s 42 = .int .i64 (N : Int) ∧ s 43 = .int .i64 (n : Int) ∧ s 6 = .int .i64 (A n)) N ?_ ?_
    · exact ⟨Fr.refl _ _, by simp [upd_apply], by simp [upd_apply], by simp [upd_apply], by simp [upd_apply, sumC, hA]⟩
    rintro n s g hn ⟨F, e28, e29, e30, e5⟩
    by_cases hlt' : n < N
    · have hltI : (n : Int) < (N : Int) := by omega
      obtain ⟨i1, o1, c1, ds, hv, hn1, _, hi1, hg, hld, hbd2, _⟩ := OwnSl.atj jbL_len (by decide) (O.fr F (fun _ _ => by simp)) (j := n) (by omega)
      injection hv with hv _ hvc
      subst hv
      subst hvc
      have hez : eszObj (.cells ds true 2) 2 = true := rfl
      obtain ⟨w, hw⟩ : ∃ w, w = l[n]'(by omega) := ⟨_, rfl⟩
      rw [← hw] at hld
      have hld2 : loadObj (.cells ds true 2) (o1 + n * 2) (some 2) = some (.agg #[.int .i64 w.j.id, .int .i64 w.j.cost]) := by
        simp only [loadObj]
        rw [if_pos (by omega), hld]
        rfl
      have hst : sumC (l.take (n + 1)) = sumC (l.take n) + w.j.cost := by rw [hw]; exact sumC_take (by omega)
      have hw1 := hwk w (by rw [hw]; exact List.getElem_mem _)
      have hbd := sumC_bd (l := l.take n) (fun x hx => hwk x (List.mem_of_mem_take hx))
      rw [List.length_take] at hbd
      have hadd : IntKind.i64.wrap (A n + w.j.cost) = A (n + 1) := by
        rw [hA]
        simp only
        rw [hst, i64_small (by rw [hE, hrt]; omega) (by rw [hE, hrt]; omega)]
        omega
      have hkk : IntKind.i64.wrap ((n : Int) + 1) = ((n + 1 : Nat) : Int) := by rw [i64_small (by omega) (by omega)]; omega
      simp (disch := first|omega|(simp only [np,ns];try omega)) [e28, e29, e30, hlt', hltI, hg, hez, hld2, s2_A, e5, lA_1, hadd, hkk]
      exact Fr_set (Fr_push F) (by have := F.n; omega)
    · obtain rfl : n = N := by omega
      have ht : A n = aheadT T nm := by
        rw [hA]
        simp only
        rw [List.take_of_length_le (by omega)]
        simp only [aheadT, hfd]
        rw [hl, hrt, hE, hrt]
        omega
      rw [ht] at e5
      simp (disch := first|omega|(simp only [np,ns];try omega)) [r_slots_Table_Ahead, e29, e30, e5]
      exact F1.trans F
end Go.Proofs.Ytoenamablkkocaa.Sl
