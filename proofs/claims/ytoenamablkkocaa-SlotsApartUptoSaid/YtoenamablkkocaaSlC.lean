/- slots, part C: the rows' queues of jobs. -/
import Derived.Test.YtoenamablkkocaaSlB
import Derived.Test.YtoenamablkkocaaFsB
set_option linter.unusedVariables false
set_option linter.unusedSimpArgs false
set_option maxRecDepth 100000
namespace Go.Proofs.Ytoenamablkkocaa.Sl
open Go Go.RowKit Go.Proofs.Ytoenamablkkocaa.Pm Go.Proofs.Ytoenamablkkocaa.Fs Go.Proofs.Ytoenamablkkocaa.Fa
attribute [-simp] BitVec.toNat_or BitVec.toNat_xor BitVec.toNat_add BitVec.toNat_and BitVec.toNat_not BitVec.toNat_shiftLeft BitVec.toNat_ushiftRight

theorem RowAt.nq {g : VH} {r : Rt} (k : RowAt g r) : r.it ≠ r.iq := by
  intro e
  have := k.rec_
  rw [e, k.qu] at this
  simp [rwL, quL] at this
theorem RowAt.nv {g : VH} {r : Rt} (k : RowAt g r) : r.it ∉ idOf r.v ∧ r.iq ∉ idOf r.v := by
  rcases k.own with ⟨h1, _, _⟩ | ⟨a, o, c, ds, _, _, h1, h2, _⟩
  · rw [h1]; simp [idOf]
  · rw [h1]
    refine ⟨fun hx => ?_, fun hx => ?_⟩
    · simp [idOf] at hx
      have := k.rec_
      rw [hx, h2] at this
      simp at this
    · simp [idOf] at hx
      have := k.qu
      rw [hx, h2] at this
      simp at this
theorem idOf_nodup (v : Value) : (idOf v).Nodup := by
  unfold idOf
  split <;> simp
theorem RowAt.nd {g : VH} {r : Rt} (k : RowAt g r) : (fpT r).Nodup := by
  simp only [fpT, List.nodup_cons, List.mem_cons, not_or]
  exact ⟨⟨k.nq, k.nv.1⟩, k.nv.2, idOf_nodup _⟩
theorem jbsL_cons (w : Wk) (l : List Wk) : jbsL (w :: l) = [.int .i64 w.j.id, .int .i64 w.j.cost] ++ jbsL l := rfl
theorem jbsL_append (a b : List Wk) : jbsL (a ++ b) = jbsL a ++ jbsL b := by simp [jbsL]
theorem jbsL_one (w : Wk) : jbsL [w] = [.int .i64 w.j.id, .int .i64 w.j.cost] := rfl
theorem jlen_ok {h : VH} {r : Rt} (k : RowAt h r) :
    PCalls Try.prog f_fair_Queue_api_Job_Len [.pointer (some ⟨r.iq, 0, none⟩)] h (fun u h' => u = .int .i64 (r.t.l.length : Int) ∧ h' = h) := by
  refine PCalls_of_pw st_fair_Queue_api_Job_Len (by simp [n_fair_Queue_api_Job_Len]) ?_
  rw [b_fair_Queue_api_Job_Len]
  have hq := k.qu
  obtain ⟨a, c, hv⟩ := k.own.shapeN
  rw [hv] at hq
  simp (disch := first|omega|(simp only [np,ns];try omega)) [r_fair_Queue_api_Job_Len, B_fair_Queue_api_Job_Len, hq, l2_1]
theorem jnew_ok {h : VH} : PCalls Try.prog f_fair_NewQueue_api_Job [.int .i64 16] h (fun u h' => u = .pointer (some ⟨h.n, 0, none⟩) ∧ h' = h.push (.cells (quL (.slice none 0 0)) true 1)) := by
  refine PCalls_of_pw st_fair_NewQueue_api_Job (by simp [n_fair_NewQueue_api_Job]) ?_
  rw [b_fair_NewQueue_api_Job]
  have hfi : fillC [.int .i64 0, .slice none 0 0] [(0, 1, .int .i64 16)] = some (quL (.slice none 0 0)) := rfl
  have hone : (quL (.slice none 0 0)).all Value.oneCell' = true := rfl
  simp (disch := first|omega|(simp only [np,ns];try omega)) [r_fair_NewQueue_api_Job, B_fair_NewQueue_api_Job, hfi, hone]
def hdJ (l : List Wk) : Jb := (l.head?.map (·.j)).getD job0
def peekJ (l : List Wk) : Value := .tuple #[jbV (hdJ l), .bool (!l.isEmpty)]
theorem OwnSl.hd2 {h : VH} {v : Value} {w : Wk} {l : List Wk} {n : Nat} (k : OwnSl h 2 v (jbsL (w :: l)) n) : ∃ i o c ds, i < h.n ∧ 0 < n ∧ n ≤ c ∧ v = .slice (some ⟨i, o, none⟩) n c ∧ h.get i = .cells ds true 2 ∧ loadObj (.cells ds true 2) o (some 2) = some (jbV w.j) ∧ OwnSl h 2 (.slice (some ⟨i, o + 2, none⟩) (n - 1) (c - 1)) (jbsL l) (n - 1) := by
  rcases k with ⟨_, h1, _⟩ | ⟨i, o, c, ds, h1, h2, h3, h4, h5, h6, h7⟩
  · simp [jbsL_cons] at h1
  · have h8 : (jbsL (w :: l)).length = 2 + (jbsL l).length := by rw [jbsL_cons]; simp; omega
    have h9 : (ds.drop o).length = (jbsL (w :: l)).length := by rw [h5]
    simp only [List.length_drop] at h9
    have ht : ((ds.drop o).take 2) = jbL w := by rw [h5]; rfl
    refine ⟨i, o, c, ds, h1, by omega, h2, h3, h4, ?_, .inr ⟨i, o + 2, c - 1, ds, h1, by omega, rfl, h4, ?_, by omega, by omega⟩⟩
    · simp only [loadObj]
      rw [if_pos (by omega), ht]
      rfl
    · rw [← List.drop_drop, h5, jbsL_cons]
      rfl
theorem jpeek_ok {h : VH} {r : Rt} (k : RowAt h r) :
    PCalls Try.prog f_fair_Queue_api_Job_Peek [.pointer (some ⟨r.iq, 0, none⟩)] h (fun u h' => u = peekJ r.t.l ∧ Fr h h' []) := by
  refine PCalls_of_pw st_fair_Queue_api_Job_Peek (by simp [n_fair_Queue_api_Job_Peek]) ?_
  rw [b_fair_Queue_api_Job_Peek]
  have hq := k.qu
  have hlq := k.lq
  have ho := k.own
  cases hl : r.t.l with
  | nil =>
    rw [hl] at ho
    obtain ⟨a, c, hv⟩ := ho.shapeN
    rw [hv] at hq
    simp (disch := first|omega|(simp only [np,ns];try omega)) [r_fair_Queue_api_Job_Peek, B_fair_Queue_api_Job_Peek, hq, hlq, l2_1, l2_A, s2_A]
    exact ⟨rfl, Fr_set (Fr_push (Fr.refl _ _)) (Nat.le_refl _)⟩
  | cons w l =>
    rw [hl] at ho
    obtain ⟨i, o, c, ds, h1, h2, h3, hv, h4, h5, _⟩ := OwnSl.hd2 ho
    obtain ⟨n, hn⟩ : ∃ n, n = (w :: l).length := ⟨_, rfl⟩
    rw [← hn] at hv h2 h3
    rw [hv] at hq
    have h0 : ((n : Int) == 0) = false := by rw [beq_eq_false_iff_ne]; omega
    have h5' : loadObj (.cells ds true 2) o (some 2) = some (.agg #[.int .i64 w.j.id, .int .i64 w.j.cost]) := h5
    simp (disch := first|omega|(simp only [np,ns];try omega)) [r_fair_Queue_api_Job_Peek, B_fair_Queue_api_Job_Peek, hq, hlq, l2_1, h0, h1, h2, h4, h5', s2_A, l2_A]
    exact ⟨rfl, Fr_set (Fr_push (Fr.refl _ _)) (Nat.le_refl _)⟩
theorem jpush_full {h : VH} {r : Rt} (k : RowAt h r) (j : Jb) (hl : 16 ≤ r.t.l.length) :
    PCalls Try.prog f_fair_Queue_api_Job_Push [.pointer (some ⟨r.iq, 0, none⟩), jbV j] h (fun u h' => u = .int .i64 200 ∧ Fr h h' []) := by
  refine PCalls_of_pw st_fair_Queue_api_Job_Push (by simp [n_fair_Queue_api_Job_Push]) ?_
  rw [b_fair_Queue_api_Job_Push]
  have hq := k.qu
  have hlq := k.lq
  obtain ⟨a, c, hv⟩ := k.own.shapeN
  rw [hv] at hq
  obtain ⟨n, hn⟩ : ∃ n, n = r.t.l.length := ⟨_, rfl⟩
  rw [← hn] at hq hl
  have hlI : (16 : Int) ≤ (n : Int) := by omega
  simp (disch := first|omega|(simp only [np,ns];try omega)) [r_fair_Queue_api_Job_Push, B_fair_Queue_api_Job_Push, hq, hlq, l2_1, l2_0, hl, hlI, jbV]
  exact Fr_push (Fr.refl _ _)
theorem jpush_ok {h : VH} {r : Rt} (k : RowAt h r) (j : Jb) (hl : r.t.l.length < 16) :
    PCalls Try.prog f_fair_Queue_api_Job_Push [.pointer (some ⟨r.iq, 0, none⟩), jbV j] h (fun u h' => u = .int .i64 0 ∧ ∃ v, RowAt h' (addW r ⟨j, 0⟩ v) ∧ Fr h h' (r.iq :: idOf r.v) ∧ ∀ x ∈ idOf v, x ∈ idOf r.v ∨ h.n ≤ x) := by
  refine PCalls_of_pw st_fair_Queue_api_Job_Push (by simp [n_fair_Queue_api_Job_Push]) ?_
  rw [b_fair_Queue_api_Job_Push]
  have hq := k.qu
  have hlq := k.lq
  have hlt := k.lt
  have hnq := k.nq
  have hnv := k.nv
  have hvl := k.own.lt
  have ho := k.own
  have hrec := k.rec_
  obtain ⟨a, c, hv⟩ := k.own.shapeN
  obtain ⟨n, hn⟩ : ∃ n, n = r.t.l.length := ⟨_, rfl⟩
  rw [← hn] at hl ho hv
  rw [hv] at hq
  have hlI : ¬ (16 : Int) ≤ (n : Int) := by omega
  obtain ⟨g1, hg1⟩ : ∃ g1, g1 = (h.push (.cells [.int .i64 j.id, .int .i64 j.cost] true 1)).push (.cells [.int .i64 j.id, .int .i64 j.cost] true 2) := ⟨_, rfl⟩
  have F1 : Fr h g1 [] := by rw [hg1]; exact Fr_push (Fr_push (Fr.refl _ _))
  have q1 : g1.get r.iq = .cells (quL (.slice a n c)) true 1 := (F1.get _ hlq (by simp)).trans hq
  have n1 : g1.n = h.n + 2 := by rw [hg1]; simp
  have r1 : g1.get (h.n + 1) = .cells [.int .i64 j.id, .int .i64 j.cost] true 2 := by rw [hg1]; exact VH.get_push_new (h.push _) _
  obtain ⟨v', g2, hap, ho2, hf2, hid⟩ := (ho.fr F1 (fun _ _ => by simp)).append (bytes := 16) (ys := jbL ⟨j, 0⟩) (k := 1) rfl (by omega)
  obtain ⟨p, c2, rfl⟩ := ho2.shapeN
  rw [hv] at hap hf2 hid
  have q2 : g2.get r.iq = .cells (quL (.slice a n c)) true 1 := (hf2.get _ (by omega) (by rw [← hv]; exact hnv.2)).trans q1
  have m2 := hf2.n
  have hfi : fillC [.int .i64 0, .int .i64 0] [(0, 2, .agg #[.int .i64 j.id, .int .i64 j.cost])] = some [.int .i64 j.id, .int .i64 j.cost] := rfl
  have hro : rowObj (.cells [.int .i64 j.id, .int .i64 j.cost] true 2) 0 2 = some (jbL ⟨j, 0⟩) := rfl
  simp (disch := first|omega|(simp only [np,ns];try omega)) [r_fair_Queue_api_Job_Push, B_fair_Queue_api_Job_Push, hq, hlq, l2_1, l2_0, hl, hlI, jbV, l2_A, hfi, ← hg1, hro, r1, Option.bind_some, hap, q1, q2, sq_1]
  have F2 : Fr h g2 (idOf r.v) := (F1.sub (by simp)).trans (by rw [hv]; exact hf2)
  have F3 : Fr g2 (g2.set r.iq (.cells (quL (.slice p (n + 1) c2)) true 1)) [r.iq] := Fr.set _ _ (by simp)
  have hid' : ∀ x ∈ idOf (.slice p (n + 1) c2), x ∈ idOf r.v ∨ h.n ≤ x := fun x hx => (hid x hx).imp (fun y => by rw [hv]; exact y) (by omega)
  have hiq : r.iq ∉ idOf (.slice p (n + 1) c2) := fun hx => (hid' _ hx).elim hnv.2 (fun h1 => by omega)
  refine ⟨.slice p (n + 1) c2, ⟨by show r.it < g2.n; omega, by show r.iq < g2.n; omega, ?_, VH.get_set_same .., ?_⟩, ?_, hid'⟩
  · show (g2.set r.iq _).get r.it = _
    rw [VH.get_set_ne _ _ hnq, F2.get _ hlt hnv.1]
    exact hrec
  · have := ho2.fr F3 (fun x hx hxi => by simp at hxi; subst hxi; exact hiq hx)
    show OwnSl _ 2 _ (jbsL (r.t.l ++ [(⟨j, 0⟩ : Wk)])) (r.t.l ++ [(⟨j, 0⟩ : Wk)]).length
    rw [jbsL_append, List.length_append, ← hn]
    exact this
  · exact (F2.sub (fun x hx => List.mem_cons_of_mem _ hx)).trans (F3.sub (fun x hx => by simp at hx; subst hx; exact List.mem_cons_self ..))
theorem jbsL_len : ∀ (l : List Wk), (jbsL l).length = l.length * 2
  | [] => rfl
  | w :: l => by rw [jbsL_cons, List.length_append, jbsL_len l]; simp; omega
theorem jclone_ok {h : VH} {v : Value} {l : List Wk} (k : OwnSl h 2 v (jbsL l) l.length) (hb : l.length ≤ 1000) :
    PCalls Try.prog f_slices_Clone_api_Job_api_Job [v] h (fun u h' => OwnSl h' 2 u (jbsL l) l.length ∧ Fr h h' [] ∧ ∀ y ∈ idOf u, h.n ≤ y) := by
  refine PCalls_of_pw st_slices_Clone_api_Job_api_Job (by simp [n_slices_Clone_api_Job_api_Job]) ?_
  rw [b_slices_Clone_api_Job_api_Job]
  rcases k with ⟨rfl, h1, h2⟩ | ⟨i, o, c, ds, h1, h2, rfl, h4, h5, h6, h7⟩
  · simp (disch := first|omega|(simp only [np,ns];try omega)) [r_slices_Clone_api_Job_api_Job, B_slices_Clone_api_Job_api_Job]
    have : l = [] := List.eq_nil_of_length_eq_zero h2
    subst this
    exact ⟨OwnSl.nil _ _, Fr.refl _ _, by simp [idOf]⟩
  · obtain ⟨n, hn⟩ : ∃ n, n = l.length := ⟨_, rfl⟩
    rw [← hn] at h2 hb h6
    rw [← hn]
    obtain ⟨g1, hg1⟩ : ∃ g1, g1 = h.push (.cells [] true 2) := ⟨_, rfl⟩
    have F1 : Fr h g1 [] := by rw [hg1]; exact Fr_push (Fr.refl _ _)
    have n1 : g1.n = h.n + 1 := by rw [hg1]; rfl
    have ow1 : OwnSl g1 2 (.slice (some ⟨h.n, 0, none⟩) 0 0) [] 0 := .inr ⟨h.n, 0, 0, [], by omega, Nat.le_refl _, rfl, by rw [hg1, VH.get_push_new], rfl, rfl, Nat.le_refl _⟩
    obtain ⟨v', g2, hap, ho2, hf2, hid⟩ := ow1.append (bytes := 16) (ys := jbsL l) (k := n) (by rw [jbsL_len, hn]) (by omega)
    have hi1 : g1.get i = .cells ds true 2 := (F1.get i h1 (by simp)).trans h4
    have hro : rowObj (.cells ds true 2) o (n * 2) = some (jbsL l) := by
      have h8 := congrArg List.length h5
      rw [List.length_drop] at h8
      simp only [rowObj]
      rw [if_pos (by omega), h5, List.take_of_length_le (by omega)]
    simp (disch := first|omega|(simp only [np,ns];try omega)) [r_slices_Clone_api_Job_api_Job, B_slices_Clone_api_Job_api_Job, fillC, ← hg1, hi1, hro, Option.bind_some, hap]
    rw [List.nil_append, Nat.zero_add] at ho2
    refine ⟨ho2, F1.trans' hf2 (fun y hy => by simp [idOf] at hy; omega), fun y hy => ?_⟩
    rcases hid y hy with h1 | h1
    · simp [idOf] at h1; omega
    · omega
theorem jall_ok {h : VH} {r : Rt} (k : RowAt h r) (hb : r.t.l.length ≤ 1000) :
    PCalls Try.prog f_fair_Queue_api_Job_All [.pointer (some ⟨r.iq, 0, none⟩)] h (fun u h' => OwnSl h' 2 u (jbsL r.t.l) r.t.l.length ∧ Fr h h' [] ∧ ∀ y ∈ idOf u, h.n ≤ y) := by
  refine PCalls_of_pw st_fair_Queue_api_Job_All (by simp [n_fair_Queue_api_Job_All]) ?_
  rw [b_fair_Queue_api_Job_All]
  have hq := k.qu
  simp (disch := first|omega|(simp only [np,ns];try omega)) [B_fair_Queue_api_Job_All, hq, l2_1]
  refine (jclone_ok k.own hb).mono ?_
  rintro u h' ⟨h1, h2, h3⟩
  simp (disch := first|omega|(simp only [np,ns];try omega)) [r_fair_Queue_api_Job_All]
  exact ⟨h1, h2, h3⟩
end Go.Proofs.Ytoenamablkkocaa.Sl
