/- ident, part Q: the sessions that are over go; the numbers of a tenant, in order. -/
import Derived.Test.YtaeegilpfoiagaaIdP
import Derived.Test.YtaeegilpfoiagaaPmSi
set_option linter.unusedVariables false
set_option linter.unusedSimpArgs false
set_option maxRecDepth 100000
namespace Go.Proofs.Ytaeegilpfoiagaa.Id
open Go Go.RowKit Go.Proofs.Ytaeegilpfoiagaa.Pm Go.Proofs.Ytaeegilpfoiagaa.Fs


theorem nodup_eq {α β : Type} {f : α → β} : ∀ {l : List α} {a b : α}, (l.map f).Nodup → a ∈ l → b ∈ l → f a = f b → a = b
  | x :: l, a, b, h, ha, hb, e => by
    rw [List.map_cons, List.nodup_cons] at h
    rcases List.mem_cons.1 ha with h1 | h1
    · rcases List.mem_cons.1 hb with h2 | h2
      · rw [h1, h2]
      · exact absurd (by rw [← h1, e]; exact List.mem_map_of_mem h2) h.1
    · rcases List.mem_cons.1 hb with h2 | h2
      · exact absurd (by rw [← h2, ← e]; exact List.mem_map_of_mem h1) h.1
      · exact nodup_eq h.2 h1 h2 e
/-- sessions that a range has not yet come to. -/
def notYet (M : List Ss) (seen : List Nat) : List Ss := M.filter fun s => decide (s.b ∉ seen)
theorem notYet_step {M : List Ss} {seen : List Nat} {s : Ss} (hn : (M.map (·.b)).Nodup) (hs : s ∈ M) (hb : s.b ∉ seen) : (notYet M (seen ++ [s.b])).length < (notYet M seen).length := by
  have h1 : notYet M (seen ++ [s.b]) = (notYet M seen).filter fun x => decide (x.b ≠ s.b) := by
    unfold notYet
    rw [List.filter_filter]
    congr 1
    funext x
    simp [not_or, Bool.and_comm]
  rw [h1]
  have h2 : s ∈ notYet M seen := List.mem_filter.2 ⟨hs, by simpa using hb⟩
  rcases Nat.lt_or_ge ((notYet M seen).filter fun x => decide (x.b ≠ s.b)).length (notYet M seen).length with h | h
  · exact h
  · have h3 := List.Sublist.eq_of_length_le (List.filter_sublist (l := notYet M seen) (p := fun x => decide (x.b ≠ s.b))) h
    rw [← h3] at h2
    have := (List.mem_filter.1 h2).2
    simp at this
theorem notYet_del {M : List Ss} {seen : List Nat} {k : Int} : (notYet (delS k M) seen).length ≤ (notYet M seen).length :=
  (List.Sublist.filter _ List.filter_sublist).length_le
theorem del_len {k : Int} : ∀ {M : List Ss}, (M.Pairwise fun a b => a.id < b.id) → (∃ x ∈ M, x.id = k) → (delS k M).length + 1 = M.length
  | [], _, h => by obtain ⟨x, hx, _⟩ := h; cases hx
  | y :: r, hp, h => by
    obtain ⟨h1, h2⟩ := List.pairwise_cons.1 hp
    by_cases e : y.id = k
    · have h3 : delS k (y :: r) = delS k r := by unfold delS; rw [List.filter_cons_of_neg (by simpa using e)]
      rw [h3, del_none (fun z hz => by have := h1 z hz; omega)]
      rfl
    · have h3 : delS k (y :: r) = y :: delS k r := by unfold delS; rw [List.filter_cons_of_pos (by simpa using e)]
      rw [h3, List.length_cons, List.length_cons, del_len h2 (by
        obtain ⟨x, hx, he⟩ := h
        rcases List.mem_cons.1 hx with rfl | hx
        · exact absurd he e
        · exact ⟨x, hx, he⟩)]
theorem exp_del {now k : Int} {M : List Ss} (h : ∀ s ∈ M, s.id = k → ¬ now < s.o) : expS now (delS k M) = expS now M := by
  unfold expS delS
  rw [List.filter_filter]
  refine List.filter_congr fun s hs => ?_
  by_cases e : s.id = k
  · have := h s hs e
    simp [e, this]
  · simp [e]
theorem id_eq {M : List Ss} {last : Int} {clk : Nat} (k : OkL M last clk) {a b : Ss} (ha : a ∈ M) (hb : b ∈ M) (e : a.id = b.id) : a = b := by
  have h : (M.map (·.id)).Nodup := by
    rw [List.Nodup, List.pairwise_map]
    exact k.ids.imp fun {x y} h => by omega
  exact nodup_eq h ha hb e

theorem s4_st {a b c d : Value} {x y : ByteArray} {z : Bool} {o : Int} {e : Nat} : storeObj (.cells [a, b, c, d] true e) 0 4 (.agg #[.string x, .string y, .bool z, .int .i64 o]) = some (.cells [.string x, .string y, .bool z, .int .i64 o] true e) := rfl
def ExpJ (h : VH) (i j : Nat) (L : List Ss) (clk : Nat) (last now : Int) (n : Nat) (s : Slots) (g : VH) : Prop :=
  ∃ M seen c, n = (notYet M seen).length ∧ TabL g i j M clk last ∧ g.get h.n = .miter (some j) clk seen clk ∧ h.n < g.n ∧ Fr h g [i, j] ∧ expS now M = expS now L ∧ c + M.length = L.length ∧ (∀ s ∈ M, s.b ∈ seen → now < s.o) ∧
    s 0 = .pointer (some ⟨i, 0, none⟩) ∧ s 1 = .int .i64 now ∧ s 5 = .int .i64 (c : Nat) ∧ s 14 = .pointer (some ⟨h.n, 0, none⟩)
set_option maxHeartbeats 4000000 in
theorem expire_ok {h : VH} {i j : Nat} {L : List Ss} {clk : Nat} {last now : Int} (T : TabL h i j L clk last) (hL : L.length ≤ 64) :
    PCalls Try.prog f_ident_Table_Expire [.pointer (some ⟨i, 0, none⟩), .int .i64 now] h (fun u h' => u = .int .i64 ((L.length : Int) - ((expS now L).length : Int)) ∧ TabL h' i j (expS now L) clk last ∧ Fr h h' [i, j]) := by
  refine PCalls_of_pw st_ident_Table_Expire (by simp [n_ident_Table_Expire]) ?_
  rw [b_ident_Table_Expire]
  have hri := T.tab.rec_
  have hmj := T.tab.map_
  have hne := T.tab.ne
  have hli := T.tab.lti
  have hlj := T.tab.ltj
  simp (disch := first|omega|(simp only [np,ns];try omega)) [B_ident_Table_Expire, hri, tb_ld0, hmj]
  refine pw_loop (ExpJ h i j L clk last now) (notYet L []).length ?_ ?_
  · exact ⟨L, [], 0, rfl, T.fr (Fr.push _ _ _), VH.get_push_new _ _, by simp, Fr.push _ _ _, rfl, by omega, by simp, by simp [upd_apply, s0_apply], by simp [upd_apply, s0_apply], by simp [upd_apply], by simp [upd_apply]⟩
  rintro n s g ⟨M, seen, c, rfl, T1, hq, hn, F, hx, hc, hs, e0, e1, e5, e14⟩
  have hj1 := T1.tab.map_
  have hi1 := T1.tab.rec_
  obtain ⟨es, hes⟩ : ∃ es, es = M.map entS := ⟨_, rfl⟩
  rw [← hes] at hj1
  simp (disch := first|omega|(simp only [np,ns];try omega)) [e14]
  refine range_next_del (es := es) (by rw [hes, List.map_map]; exact T1.ok.bnd) (by
    intro e he
    rw [hes] at he
    obtain ⟨x, hx, rfl⟩ := List.mem_map.1 he
    exact T1.ok.lt x hx) hq hj1 ?_ ?_
  · intro hall
    have hM : expS now M = M := by
      unfold expS
      rw [List.filter_eq_self]
      intro x hxM
      exact decide_eq_true (hs x hxM (hall (entS x) (by rw [hes]; exact List.mem_map_of_mem hxM)))
    have hML : M = expS now L := hM.symm.trans hx
    simp (disch := first|omega|(simp only [np,ns];try omega)) [r_ident_Table_Expire, e5]
    rw [← hML]
    exact ⟨by omega, T1, F⟩
  · intro e he hes' sn hsn hlast
    rw [hes] at he
    obtain ⟨x, hxM, rfl⟩ := List.mem_map.1 he
    have hxs : x.b ∉ seen := hes'
    obtain ⟨g1, hg1⟩ : ∃ g1, g1 = g.set h.n (.miter (some j) clk sn clk) := ⟨_, rfl⟩
    have f1 : Fr g g1 [h.n] := by rw [hg1]; exact Fr.set _ _ (by simp)
    have q1 : g1.get h.n = .miter (some j) clk sn clk := by rw [hg1, VH.get_set_same]
    have n1 : g1.n = g.n := by rw [hg1]; rfl
    have T2 := T1.frX f1 (by simp; omega) (by simp; omega)
    have hj2 := T2.tab.map_
    rw [← hes] at hj2
    obtain ⟨g2, hg2⟩ : ∃ g2, g2 = (g1.push (.cells [.string ⟨#[]⟩, .string ⟨#[]⟩, .bool false, .int .i64 0] true 1)).set g.n (.cells [.string (strB x.x), .string (strB x.y), .bool x.z, .int .i64 x.o] true 1) := ⟨_, rfl⟩
    have f2 : Fr g1 g2 [] := by rw [hg2]; exact Fr_set (Fr_push (Fr.refl _ _)) (by omega)
    have q2 : g2.get h.n = .miter (some j) clk sn clk := (f2.get _ (by omega) (by simp)).trans q1
    have o2 : g2.get g.n = .cells [.string (strB x.x), .string (strB x.y), .bool x.z, .int .i64 x.o] true 1 := by rw [hg2, VH.get_set_same]
    have n2 : g2.n = g.n + 1 := by rw [hg2]; show g1.n + 1 = _; omega
    have T3 := T2.fr f2
    have hi3 := T3.tab.rec_
    have hj3 := T3.tab.map_
    have hk3 := T3.tab.ok.fits
    rw [← hes] at hj3 hk3
    have F3 : Fr h g2 [i, j] := F.trans' (f1.trans (f2.sub (by simp))) (fun y hy => .inr (by simp at hy; omega))
    have hlast' : (sn.getLast?.bind fun st => mborn st es) = some (.int .i64 x.id, .agg #[.string (strB x.x), .string (strB x.y), .bool x.z, .int .i64 x.o]) := hlast
    have hstep : (notYet M sn).length < (notYet M seen).length := by rw [hsn]; exact notYet_step T1.ok.bnd hxM hxs
    have hseen : ∀ s ∈ M, s.b ∈ sn → s ≠ x → now < s.o := fun s hsM hsb hsx => by
      rw [hsn] at hsb
      rcases List.mem_append.1 hsb with hb | hb
      · exact hs s hsM hb
      · simp at hb
        exact absurd (nodup_eq T1.ok.bnd hsM hxM hb) hsx
    by_cases hov : now < x.o
    · have hov' : ¬ x.o ≤ now := by omega
      simp (disch := first|omega|(simp only [np,ns];try omega)) [e14, ← hg1, q1, hj2, hlast', n1, s4_st, ← hg2, o2, s4_3', e1, hov']
      exact ⟨_, hstep, M, sn, c, rfl, T3, q2, by omega, F3, hx, hc, fun s hsM hsb => by
        by_cases hsx : s = x
        · rw [hsx]; exact hov
        · exact hseen s hsM hsb hsx, by simp [upd_apply, e0], by simp [upd_apply, e1], by simp [upd_apply, e5], by simp [upd_apply, e14]⟩
    · have hov' : x.o ≤ now := by omega
      have hfit : fitK (.i .i64) (.int .i64 x.id) = true := rfl
      have hdel : mdel (.int .i64 x.id) es = (delS x.id M).map entS := by rw [hes]; exact mdel_S T1.ok
      have hdl := del_len (k := x.id) T1.ok.ids ⟨x, hxM, rfl⟩
      have eW : IntKind.i64.wrap ((c : Int) + 1) = ((c + 1 : Nat) : Int) := by rw [i64_small (by omega) (by omega)]; omega
      obtain ⟨es', hes2⟩ : ∃ es', es' = (delS x.id M).map entS := ⟨_, rfl⟩
      rw [← hes2] at hdel
      simp (disch := first|omega|(simp only [np,ns];try omega)) [e14, ← hg1, q1, hj2, hlast', n1, s4_st, ← hg2, o2, s4_3', e1, hov', e0, hi3, tb_ld0, hj3, hfit, hk3, hdel, e5, eW]
      refine ⟨_, Nat.lt_of_le_of_lt notYet_del hstep, delS x.id M, sn, c + 1, rfl, ⟨⟨?_, ?_, hne, T3.tab.lti, T3.tab.ltj, (T1.ok.filter _).es⟩, T1.ok.filter _⟩, ?_, by show h.n < g2.n; omega, F3.trans (Fr.set _ _ (by simp)), ?_, by omega, ?_, by simp [upd_apply, e0], by simp [upd_apply, e1], by simp [upd_apply], by simp [upd_apply, e14]⟩
      · rw [VH.get_set_ne _ _ hne]; exact hi3
      · rw [VH.get_set_same, hes2]
      · rw [VH.get_set_ne _ _ (by omega)]; exact q2
      · rw [exp_del (fun s hsM hid => by rw [id_eq T1.ok hsM hxM hid]; omega)]; exact hx
      · intro s hsM hsb
        obtain ⟨h1, h2⟩ := List.mem_filter.1 hsM
        exact hseen s h1 hsb (fun e => by rw [e] at h2; simp at h2)
end Go.Proofs.Ytaeegilpfoiagaa.Id
