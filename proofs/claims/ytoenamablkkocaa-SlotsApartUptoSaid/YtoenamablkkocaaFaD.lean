/- fair, part D: rest, New, Set, Push. -/
import Derived.Test.YtoenamablkkocaaFaC
set_option linter.unusedVariables false
set_option linter.unusedSimpArgs false
set_option maxRecDepth 100000
namespace Go.Proofs.Ytoenamablkkocaa.Fa
open Go Go.RowKit Go.Proofs.Ytoenamablkkocaa.Pm Go.Proofs.Ytoenamablkkocaa.Fs


/-- what turns of a heap, and where the things lie afterwards. -/
structure Mv (h h' : VH) (X X' : List Nat) : Prop where
  fr : Fr h h' X
  ids : ∀ x ∈ X', x ∈ X ∨ h.n ≤ x
theorem Mv.refl (h : VH) (X : List Nat) : Mv h h X X := ⟨Fr.refl _ _, fun x hx => .inl hx⟩
theorem Mv.trans {a b c : VH} {X Y Z : List Nat} (k : Mv a b X Y) (l : Mv b c Y Z) : Mv a c X Z :=
  ⟨k.fr.trans' l.fr k.ids, fun x hx => (l.ids x hx).elim (fun h1 => k.ids x h1) (fun h1 => .inr (Nat.le_trans k.fr.n h1))⟩
theorem Mv.pre {a b c : VH} {X Z : List Nat} (k : Fr a b []) (l : Mv b c X Z) : Mv a c X Z :=
  ⟨(k.sub (by simp)).trans l.fr, fun x hx => (l.ids x hx).imp id (fun h1 => Nat.le_trans k.n h1)⟩
theorem Mv.post {a b c : VH} {X Z : List Nat} (k : Mv a b X Z) (l : Fr b c []) : Mv a c X Z := ⟨k.fr.trans (l.sub (by simp)), k.ids⟩
/-- a scheduler lies at i; X: where it has its things. -/
def Sch (h : VH) (i : Nat) (S : Sc) (X : List Nat) : Prop := ∃ j rs, X = fpS i j rs ∧ Rep h i j rs S
theorem Sch.fr {h h' : VH} {i : Nat} {S : Sc} {X Y : List Nat} (k : Sch h i S X) (hf : Fr h h' Y) (hx : ∀ x ∈ X, x ∉ Y) : Sch h' i S X := by
  obtain ⟨j, rs, rfl, k⟩ := k
  exact ⟨j, rs, rfl, k.fr hf hx⟩
theorem Sch.fr0 {h h' : VH} {i : Nat} {S : Sc} {X : List Nat} (k : Sch h i S X) (hf : Fr h h' []) : Sch h' i S X := k.fr hf (fun _ _ => by simp)
theorem Sch.lt {h : VH} {i : Nat} {S : Sc} {X : List Nat} (k : Sch h i S X) : ∀ x ∈ X, x < h.n := by
  obtain ⟨j, rs, rfl, k⟩ := k
  intro x hx
  simp only [fpS, List.mem_cons, List.mem_flatMap] at hx
  rcases hx with rfl | rfl | ⟨r, hr, hx⟩
  · exact k.lti
  · exact k.ltj
  · exact (k.ten r hr).lts x hx

def zeroR (r : Rt) : Rt := { r with t := { r.t with en := 0 } }
theorem fp_zero (r : Rt) : fpT (zeroR r) = fpT r := rfl
theorem sep_ne : ∀ {rs : List Rt}, rs.Pairwise (fun a b => ∀ x ∈ fpT a, x ∉ fpT b) → ∀ {a b : Rt}, a ∈ rs → b ∈ rs → a.bn ≠ b.bn → ∀ x ∈ fpT a, x ∉ fpT b
  | [], _, _, _, ha, _, _ => by cases ha
  | r :: rs, hs, a, b, ha, hb, hne => by
    rw [List.pairwise_cons] at hs
    rcases List.mem_cons.1 ha with rfl | ha'
    · rcases List.mem_cons.1 hb with rfl | hb'
      · exact absurd rfl hne
      · exact hs.1 b hb'
    · rcases List.mem_cons.1 hb with rfl | hb'
      · exact fun x hx hxb => hs.1 a ha' x hxb hx
      · exact sep_ne hs.2 ha' hb' hne
theorem Rep.of_perm {g : VH} {i j : Nat} {rs : List Rt} {S S' : Sc} (k : Rep g i j rs S) (h1 : scL S' j = scL S j) (h2 : S.ts.Perm S'.ts) : Rep g i j rs S' :=
  ⟨k.lti, k.ltj, by rw [h1]; exact k.rec_, k.map_, k.bnd, k.ten, k.sep, k.perm.trans h2⟩

set_option maxHeartbeats 1000000 in
theorem rest_ok {h : VH} {i j : Nat} {rs : List Rt} {S : Sc} (k : Rep h i j rs S) :
    PCalls Try.prog f_fair_Sched_rest [.pointer (some ⟨i, 0, none⟩)] h (fun _ h' => Rep h' i j (rs.map zeroR) { S with ts := restS S.ts, ck := 0, had := 0 } ∧ Fr h h' (fpS i j rs)) := by
  refine PCalls_of_pw st_fair_Sched_rest (by simp [n_fair_Sched_rest]) ?_
  rw [b_fair_Sched_rest]
  obtain ⟨clk, hj, hlt⟩ := k.map_
  have hi := k.rec_
  have hlj := k.ltj
  have hli := k.lti
  have hij := k.nij
  obtain ⟨g0, hg0⟩ : ∃ g0, g0 = h.set i (.cells (scL { S with ck := 0, had := 0 } j) true 1) := ⟨_, rfl⟩
  have k0 : Rep g0 i j rs { S with ck := 0, had := 0 } := by rw [hg0]; exact k.upd rfl
  have F0 : Fr h g0 [i] := by rw [hg0]; exact Fr.set _ _ (by simp)
  have j0 : g0.get j = .map (rs.map entT) clk true := (F0.get j hlj (by simp; omega)).trans hj
  have i0 := k0.rec_
  have n0 : g0.n = h.n := by rw [hg0]; rfl
  obtain ⟨es, hes⟩ : ∃ es, es = rs.map entT := ⟨_, rfl⟩
  rw [← hes] at j0
  simp (disch := first|omega|(simp only [np,ns];try omega)) [B_fair_Sched_rest, hi, ss_1, ss_3, ← hg0, i0, ls_0, j0, n0]
  refine pw_loop (fun n s g => ∃ dn td : List Rt, n = td.length ∧ Fr h g (fpS i j rs) ∧ h.n < g.n ∧ (dn ++ td).Perm rs ∧ g.get h.n = .miter (some j) clk (dn.map fun r => (entT r).2.2) clk ∧ g.get i = g0.get i ∧ g.get j = g0.get j ∧
    (∀ r ∈ dn, TenAt g (zeroR r)) ∧ (∀ r ∈ td, TenAt g r) ∧ s 14 = .pointer (some ⟨h.n, 0, none⟩)) rs.length ?_ ?_
  · have F1 : Fr g0 (g0.push (.miter (some j) clk [] clk)) [] := Fr.push _ _ _
    refine ⟨[], rs, rfl, ((F0.sub (by simp [fpS])).trans (F1.sub (by simp))), by simp [n0], List.Perm.refl _, by rw [← n0]; exact VH.get_push_new _ _, F1.get _ k0.lti (by simp), F1.get _ k0.ltj (by simp), by simp, fun r hr => (k0.ten r hr).fr F1 (fun _ _ => by simp), by simp [upd_apply]⟩
  rintro n s g ⟨dn, td, rfl, F, hn, hp, hit, hgi, hgj, hd, ht, e14⟩
  simp (disch := first|omega|(simp only [np,ns];try omega)) [e14]
  refine range_next hes hp k.bnd (fun r hr => hlt r hr) hit (hgj.trans j0) ?_ ?_
  · rintro rfl
    rw [List.append_nil] at hp
    simp (disch := first|omega|(simp only [np,ns];try omega)) [r_fair_Sched_rest]
    refine ⟨⟨by omega, by omega, ?_, ⟨clk, ?_, ?_⟩, ?_, ?_, ?_, ?_⟩, F⟩
    · rw [hgi, i0]; rfl
    · rw [hgj, j0, hes, List.map_map]; rfl
    · intro r hr
      obtain ⟨x, hx, rfl⟩ := List.mem_map.1 hr
      exact hlt x hx
    · have := k.bnd
      rw [List.map_map]
      exact this
    · intro r hr
      obtain ⟨x, hx, rfl⟩ := List.mem_map.1 hr
      exact hd x (hp.mem_iff.2 hx)
    · rw [List.pairwise_map]
      exact k.sep
    · have := k.perm.map (fun t : Tn => { t with en := 0 })
      rw [List.map_map] at this ⊢
      exact this
  · intro x a b sn htd hsn hlast
    have hx : x ∈ rs := hp.mem_iff.1 (by rw [htd]; simp)
    obtain ⟨g1, hg1⟩ : ∃ g1, g1 = g.set h.n (.miter (some j) clk sn clk) := ⟨_, rfl⟩
    have F1 : Fr g g1 [h.n] := by rw [hg1]; exact Fr.set _ _ (by simp)
    have q1 : g1.get h.n = .miter (some j) clk sn clk := by rw [hg1, VH.get_set_same]
    have n1 : g1.n = g.n := by rw [hg1]; rfl
    have j1 : g1.get j = .map es clk true := (F1.get j (by omega) (by simp; omega)).trans (hgj.trans j0)
    have kl : ∀ r ∈ rs, ∀ y ∈ fpT r, y < h.n := fun r hr => (k.ten r hr).lts
    have T := (ht x (by rw [htd]; simp)).fr F1 (fun y hy => by have := kl x hx y hy; simp; omega)
    have hit1 := T.rec_
    obtain ⟨g2, hg2⟩ : ∃ g2, g2 = g1.set x.it (.cells (tnL { x.t with en := 0 } x.iq) true 1) := ⟨_, rfl⟩
    have F2 : Fr g1 g2 [x.it] := by rw [hg2]; exact Fr.set _ _ (by simp)
    have n2 : g2.n = g1.n := by rw [hg2]; rfl
    have hxit := kl x hx x.it (by simp [fpT])
    have hni := k.ni x hx
    have hnj := k.nj x hx
    simp (disch := first|omega|(simp only [np,ns];try omega)) [e14, ← hg1, q1, j1, hlast, entT, hit1, st_1, ← hg2]
    have F12 : Fr g g2 [h.n, x.it] := (F1.sub (by simp)).trans (F2.sub (by simp))
    have hbn : ((dn ++ td).map fun r => r.bn).Nodup := (hp.map _).nodup_iff.2 k.bnd
    rw [htd] at hbn
    have hbx : ∀ r, r ∈ dn ∨ r ∈ a ++ b → r.bn ≠ x.bn := by
      have h2 : ((x :: (dn ++ (a ++ b))).map fun r => r.bn).Nodup := by
        refine (List.Perm.nodup_iff ?_).1 hbn
        refine List.Perm.map _ ?_
        rw [← List.append_assoc, ← List.append_assoc]
        exact List.perm_middle
      rw [List.map_cons, List.nodup_cons] at h2
      intro r hr e
      refine h2.1 (e ▸ List.mem_map_of_mem (f := fun r : Rt => r.bn) ?_)
      exact List.mem_append.2 hr
    have keep : ∀ r, r ∈ rs → r.bn ≠ x.bn → ∀ y ∈ fpT r, y ∉ [h.n, x.it] := by
      intro r hr hne y hy hyx
      simp at hyx
      rcases hyx with rfl | rfl
      · have := kl r hr _ hy; omega
      · exact sep_ne k.sep hr hx hne _ hy (by simp [fpT])
    refine ⟨_, by have := (perm_step hp htd).2; exact this, dn ++ [x], a ++ b, rfl, ?_, by omega, (perm_step hp htd).1, ?_, ?_, ?_, ?_, ?_⟩
    · refine (F.trans' F12 (fun y hy => ?_))
      simp at hy
      rcases hy with rfl | rfl
      · exact .inr (Nat.le_refl _)
      · refine .inl ?_
        simp only [fpS, List.mem_cons, List.mem_flatMap]
        exact .inr (.inr ⟨x, hx, by simp [fpT]⟩)
    · rw [F2.get _ (by omega) (by simp; omega), q1, hsn]; rfl
    · rw [F12.get _ (by omega) (by simp; exact ⟨by omega, fun e => hni (by simp [fpT, e])⟩)]; exact hgi
    · rw [F12.get _ (by omega) (by simp; exact ⟨by omega, fun e => hnj (by simp [fpT, e])⟩)]; exact hgj
    · intro r hr
      rcases List.mem_append.1 hr with hr | hr
      · have hrs : r ∈ rs := hp.mem_iff.1 (List.mem_append_left _ hr)
        exact (hd r hr).fr F12 (keep r hrs (hbx r (.inl hr)))
      · simp at hr
        subst hr
        have hnq := T.nq
        have hnv := T.nv
        refine ⟨by show r.it < _; omega, by have := T.lq; show r.iq < _; omega, by rw [hg2]; exact VH.get_set_same .., ?_, T.own.fr F2 (fun y hy hyx => by simp at hyx; subst hyx; exact hnv.1 hy)⟩
        rw [show (zeroR r).iq = r.iq from rfl, F2.get _ T.lq (by simp; exact fun e => hnq e.symm)]
        exact T.qu
    · intro r hr
      have hrs : r ∈ rs := hp.mem_iff.1 (List.mem_append_right _ (by rw [htd]; simp at hr ⊢; rcases hr with hr | hr <;> simp [hr]))
      exact (ht r (by rw [htd]; simp at hr ⊢; rcases hr with hr | hr <;> simp [hr])).fr F12 (keep r hrs (hbx r (.inr hr)))

def sc0 : Sc := ⟨[], 0, [], 0⟩
theorem new_ok {h : VH} : PCalls Try.prog f_fair_New [] h (fun u h' => ∃ i X, u = .pointer (some ⟨i, 0, none⟩) ∧ Sch h' i sc0 X ∧ Mv h h' [] X) := by
  refine PCalls_of_pw st_fair_New (by simp [n_fair_New]) ?_
  rw [b_fair_New]
  have hfi : fillC [.map none, .int .i64 0, .string ⟨#[]⟩, .int .i64 0] [(0, 1, .map (some h.n))] = some (scL sc0 h.n) := rfl
  have hone : (scL sc0 h.n).all Value.oneCell' = true := rfl
  simp (disch := first|omega|(simp only [np,ns];try omega)) [r_fair_New, B_fair_New, hfi, hone]
  have F : Fr h ((h.push (.map [] 0 true)).push (.cells (scL sc0 h.n) true 1)) [] := Fr_push (Fr_push (Fr.refl _ _))
  refine ⟨_, ⟨h.n, [], rfl, ⟨by simp, by simp; omega, ?_, ⟨0, ?_, by simp⟩, by simp, by simp, List.Pairwise.nil, List.Perm.refl _⟩⟩, F, fun x hx => ?_⟩
  · exact VH.get_push_new (h.push _) _
  · rw [VH.get_push_lt _ _ (by simp), VH.get_push_new]; rfl
  · simp [fpS] at hx
    omega

theorem mput_new {k v : Value} {c : Nat} : ∀ {es : List Ent}, mget k es = none → mput k v c es = es ++ [(k, v, c)] ∧ mhas k es = false
  | [], _ => ⟨rfl, rfl⟩
  | e :: r, h => by
    simp only [mget] at h
    split at h
    · cases h
    · rename_i hk
      obtain ⟨h1, h2⟩ := mput_new (v := v) (c := c) h
      simp only [mput, mhas, if_neg hk, h1, h2, List.cons_append, and_self]

/-- what comes of a call that turns a scheduler. -/
def SchP (h : VH) (i : Nat) (X : List Nat) (S' : Sc) (h' : VH) : Prop := ∃ X', Sch h' i S' X' ∧ Mv h h' X X'
theorem SchP.same {h h' : VH} {i : Nat} {S : Sc} {X : List Nat} (k : Sch h i S X) (hf : Fr h h' []) : SchP h i X S h' := ⟨X, k.fr0 hf, (Mv.refl h X).post hf⟩
theorem Rep.sch1 {h h' : VH} {i j : Nat} {a b : List Rt} {r r' : Rt} {S' : Sc} (k : Rep h' i j (a ++ r' :: b) S') (hf : Fr h h' (fpT r)) (hfp : ∀ x ∈ fpT r', x ∈ fpT r ∨ h.n ≤ x) : SchP h i (fpS i j (a ++ r :: b)) S' h' :=
  ⟨_, ⟨j, _, rfl, k⟩, hf.sub fp_mem, Rep.fp_one hfp⟩

set_option maxHeartbeats 1000000 in
theorem set_ok {h : VH} {i : Nat} {S : Sc} {X : List Nat} (K : Sch h i S X) (ho : Ord S.ts) {nm : List UInt8} {w : Int} :
    PCalls Try.prog f_fair_Sched_Set [.pointer (some ⟨i, 0, none⟩), .string (strB nm), .int .i64 w] h (fun u h' => u = .int .i64 (setS S nm w).1 ∧ SchP h i X (setS S nm w).2 h') := by
  refine PCalls_of_pw st_fair_Sched_Set (by simp [n_fair_Sched_Set]) ?_
  rw [b_fair_Sched_Set]
  by_cases hw1 : w < 1
  · have hs : setS S nm w = (1, S) := by simp [setS, hw1]
    simp (disch := first|omega|(simp only [np,ns];try omega)) [r_fair_Sched_Set, B_fair_Sched_Set, hw1, hs]
    exact SchP.same K (Fr.refl _ _)
  by_cases hw2 : 16 < w
  · have hs : setS S nm w = (1, S) := by simp [setS, hw2]
    simp (disch := first|omega|(simp only [np,ns];try omega)) [r_fair_Sched_Set, B_fair_Sched_Set, hw1, hw2, hs]
    exact SchP.same K (Fr.refl _ _)
  have hwe : ¬ (w < 1 ∨ 16 < w) := by omega
  obtain ⟨j, rs, rfl, k⟩ := K
  have K0 : Sch h i S (fpS i j rs) := ⟨j, rs, rfl, k⟩
  obtain ⟨clk, hj, hlt⟩ := k.map_
  have hi := k.rec_
  have hlj := k.ltj
  have hli := k.lti
  have hij := k.nij
  obtain ⟨es, hes⟩ : ∃ es, es = rs.map entT := ⟨_, rfl⟩
  rw [← hes] at hj
  have hkf : keysFit .s es = true := by rw [hes]; exact keysFit_rs rs
  have hfk : fitK .s (.string (strB nm)) = true := rfl
  cases hfd : findT nm S.ts with
  | some t =>
    obtain ⟨a, r, b, hrs, hrt, hget⟩ := k.getS ho.uni hfd
    rw [← hes] at hget
    subst hrs
    have T := k.ten r (by simp)
    have hit := T.rec_
    have hmv : mval false (.pointer none) (some (.pointer (some ⟨r.it, 0, none⟩))) = .pointer (some ⟨r.it, 0, none⟩) := rfl
    simp (disch := first|omega|(simp only [np,ns];try omega)) [B_fair_Sched_Set, hw1, hw2, hi, ls_0, hj, hkf, hfk, hget, hmv, hit, lt_2]
    refine (qlen_ok T.r).mono ?_
    rintro u g ⟨rfl, rfl⟩
    by_cases hl : t.l = []
    · have hl0 : (r.t.l.length : Int) = 0 := by rw [hrt, hl]; rfl
      obtain ⟨W, rfl⟩ : ∃ W : Nat, w = (W : Int) := ⟨w.toNat, by omega⟩
      have hs : setS S nm (W : Int) = (0, { S with ts := putT { t with w := W, en := S.ck } S.ts }) := by
        simp [setS, hw1, hw2, hfd, hl]
      obtain ⟨g1, hg1⟩ : ∃ g1, g1 = g.set r.it (.cells (tnL { r.t with w := W, en := S.ck } r.iq) true 1) := ⟨_, rfl⟩
      have F1 : Fr g g1 [r.it] := by rw [hg1]; exact Fr.set _ _ (by simp)
      have hii : i ≠ r.it := fun e => k.ni r (by simp) (by simp [fpT, e])
      have i1 : g1.get i = .cells (scL S j) true 1 := (F1.get _ hli (by simpa using hii)).trans hi
      simp (disch := first|omega|(simp only [np,ns];try omega)) [r_fair_Sched_Set, hl0, hit, hi, ls_1, st_0, st_1, ← hg1, hs]
      have T1 : TenAt g1 { r with t := { r.t with w := W, en := S.ck } } := by
        refine ⟨by rw [hg1]; exact T.lt, by rw [hg1]; exact T.lq, by rw [hg1]; exact VH.get_set_same .., ?_, T.own.fr F1 (fun y hy hyx => by simp at hyx; subst hyx; exact T.nv.1 hy)⟩
        · show g1.get r.iq = _
          rw [F1.get _ T.lq (by simp; exact fun e => T.nq e.symm)]; exact T.qu
      have k1 := k.one (r' := { r with t := { r.t with w := W, en := S.ck } }) ho.uni (F1.sub (by simp [fpT])) T1 rfl rfl rfl (fun x hx => .inl hx)
      have := k1.sch1 (r := r) (F1.sub (by simp [fpT])) (fun x hx => .inl hx)
      rw [← hrt]
      exact this
    · have hpos : (0 : Int) < (r.t.l.length : Int) := by
        have := List.length_pos_iff.2 hl; rw [hrt]; omega
      have hpos' : 0 < r.t.l.length := by omega
      have hs : setS S nm w = (200, S) := by
        simp [setS, hw1, hw2, hfd, hl]
      simp (disch := first|omega|(simp only [np,ns];try omega)) [r_fair_Sched_Set, hpos, hpos', hs]
      exact SchP.same K0 (Fr.refl _ _)
  | none =>
    have hget := k.getN ho.uni hfd
    rw [← hes] at hget
    have hmv : mval false (.pointer none) none = .pointer none := rfl
    have hel : es.length = S.ts.length := by
      have := k.perm.length_eq
      rw [hes]; simpa using this
    by_cases hfl : 16 ≤ S.ts.length
    · have hs : setS S nm w = (7, S) := by simp [setS, hw1, hw2, hfd, hfl]
      have hflI : (16 : Int) ≤ (es.length : Int) := by omega
      have hfl' : 16 ≤ es.length := by omega
      simp (disch := first|omega|(simp only [np,ns];try omega)) [r_fair_Sched_Set, B_fair_Sched_Set, hw1, hw2, hi, ls_0, hj, hkf, hfk, hget, hmv, hflI, hfl', hs]
      exact SchP.same K0 (Fr.refl _ _)
    · obtain ⟨W, rfl⟩ : ∃ W : Nat, w = (W : Int) := ⟨w.toNat, by omega⟩
      have hs : setS S nm (W : Int) = (0, { S with ts := insT ⟨nm, W, S.ck, []⟩ S.ts }) := by
        simp [setS, hw1, hw2, hfd, hfl]
      have hflI : ¬ (16 : Int) ≤ (es.length : Int) := by omega
      have hfl' : ¬ 16 ≤ es.length := by omega
      simp (disch := first|omega|(simp only [np,ns];try omega)) [B_fair_Sched_Set, hw1, hw2, hi, ls_0, ls_1, hj, hkf, hfk, hget, hmv, hflI, hfl']
      refine newq_ok.mono ?_
      rintro u g ⟨rfl, hg⟩
      have F0 : Fr h g [] := by rw [hg]; exact Fr_push (Fr.refl _ _)
      have n0 : g.n = h.n + 1 := by rw [hg]; rfl
      have i0 : g.get i = .cells (scL S j) true 1 := (F0.get _ hli (by simp)).trans hi
      have j0 : g.get j = .map es clk true := (F0.get _ hlj (by simp)).trans hj
      have q0 : g.get h.n = .cells (quL (.slice none 0 0)) true 1 := by rw [hg, VH.get_push_new]
      have hfi : fillC [.int .i64 0, .int .i64 0, .pointer none] [(0, 1, .int .i64 (W : Int)), (1, 1, .int .i64 S.ck), (2, 1, .pointer (some ⟨h.n, 0, none⟩))] = some (tnL ⟨nm, W, S.ck, []⟩ h.n) := rfl
      have hone : (tnL ⟨nm, W, S.ck, []⟩ h.n).all Value.oneCell' = true := rfl
      obtain ⟨hmp, hmh⟩ := mput_new (v := .pointer (some ⟨h.n + 1, 0, none⟩)) (c := clk) hget
      have hmt : mtick (.string (strB nm)) clk es = clk + 1 := by simp [mtick, hmh]
      obtain ⟨g1, hg1⟩ : ∃ g1, g1 = g.push (.cells (tnL ⟨nm, W, S.ck, []⟩ h.n) true 1) := ⟨_, rfl⟩
      have F1 : Fr g g1 [] := by rw [hg1]; exact Fr_push (Fr.refl _ _)
      have n1 : g1.n = h.n + 2 := by rw [hg1]; simp [n0]
      have j1 : g1.get j = .map es clk true := (F1.get _ (by omega) (by simp)).trans j0
      have t1 : g1.get (h.n + 1) = .cells (tnL ⟨nm, W, S.ck, []⟩ h.n) true 1 := by rw [← n0, hg1, VH.get_push_new]
      have i1 : g1.get i = .cells (scL S j) true 1 := (F1.get _ (by omega) (by simp)).trans i0
      have q1 : g1.get h.n = .cells (quL (.slice none 0 0)) true 1 := (F1.get _ (by omega) (by simp)).trans q0
      simp (disch := first|omega|(simp only [np,ns];try omega)) [r_fair_Sched_Set, hw1, hw2, i0, ls_0, ls_1, n0, hfi, hone, ← hg1, i1, j1, hkf, hfk, hmp, hmt, hs]
      obtain ⟨g2, hg2⟩ : ∃ g2, g2 = g1.set j (.map (es ++ [(.string (strB nm), .pointer (some ⟨h.n + 1, 0, none⟩), clk)]) (clk + 1) true) := ⟨_, rfl⟩
      rw [← hg2]
      have F2 : Fr g1 g2 [j] := by rw [hg2]; exact Fr.set _ _ (by simp)
      have F02 : Fr h g2 [j] := ((F0.trans F1).sub (by simp)).trans F2
      have n2 : g2.n = h.n + 2 := by rw [hg2]; exact n1
      obtain ⟨r, hr⟩ : ∃ r : Rt, r = ⟨⟨nm, W, S.ck, []⟩, h.n + 1, h.n, .slice none 0 0, clk⟩ := ⟨_, rfl⟩
      have T : TenAt g2 r := by
        rw [hr]
        refine ⟨by show h.n + 1 < _; omega, by show h.n < _; omega, ?_, ?_, OwnSl.nil _ _⟩
        · exact (F2.get (h.n + 1) (by omega) (by simp; omega)).trans t1
        · exact (F2.get h.n (by omega) (by simp; omega)).trans q1
      have hfr : fpT r = [h.n + 1, h.n] := by rw [hr]; rfl
      have kl : ∀ r ∈ rs, ∀ y ∈ fpT r, y < h.n := fun r hr => (k.ten r hr).lts
      have hbr : (entT r).2.2 = clk := by rw [hr]; rfl
      have hes2 : es ++ [(.string (strB nm), .pointer (some ⟨h.n + 1, 0, none⟩), clk)] = (rs ++ [r]).map entT := by rw [List.map_append, ← hes, hr]; rfl
      refine ⟨fpS i j (rs ++ [r]), ⟨j, rs ++ [r], rfl, ⟨by omega, by omega, ?_, ⟨clk + 1, ?_, ?_⟩, ?_, ?_, ?_, ?_⟩⟩, F02.sub (by simp [fpS]), ?_⟩
      · exact (F2.get _ (by omega) (by simp; omega)).trans i1
      · rw [hg2, VH.get_set_same, hes2]
      · intro x hx
        rcases List.mem_append.1 hx with hx | hx
        · have := hlt x hx; omega
        · simp at hx; subst hx; rw [show x.bn = (entT x).2.2 from rfl, hbr]; omega
      · rw [List.map_append, List.nodup_append]
        refine ⟨k.bnd, by simp, fun a ha b hb => ?_⟩
        obtain ⟨x, hx, rfl⟩ := List.mem_map.1 ha
        simp only [List.map_cons, List.map_nil, List.mem_singleton] at hb
        have := hlt x hx
        rw [hb, hbr]
        exact Nat.ne_of_lt this
      · intro x hx
        rcases List.mem_append.1 hx with hx | hx
        · exact (k.ten x hx).fr F02 (fun y hy hyj => by simp at hyj; subst hyj; exact k.nj x hx hy)
        · simp at hx; subst hx; exact T
      · rw [List.pairwise_append]
        refine ⟨k.sep, List.pairwise_singleton _ _, fun a ha b hb x hx hxb => ?_⟩
        simp at hb
        subst hb
        rw [hfr] at hxb
        have := kl a ha x hx
        simp at hxb
        omega
      · rw [List.map_append, List.map_cons, List.map_nil, hr]
        exact ((k.perm.append_right _).trans List.perm_append_comm).trans (insT_perm _ _).symm
      · intro x hx
        simp only [fpS, List.mem_cons, List.flatMap_append, List.flatMap_cons, List.flatMap_nil, List.append_nil, List.mem_append, hfr] at hx ⊢
        rcases hx with hx | hx | hx | hx
        · exact .inl (.inl hx)
        · exact .inl (.inr (.inl hx))
        · exact .inl (.inr (.inr hx))
        · simp at hx; omega

theorem quo_w {w : Nat} (h1 : 1 ≤ w) : IntKind.i64.wrap ((720720 : Int).tdiv (w : Int)) = ((720720 / w : Nat) : Int) := by
  have h2 : 720720 / w ≤ 720720 := Nat.div_le_self _ _
  have h3 : (720720 : Int).tdiv (w : Int) = ((720720 / w : Nat) : Int) := by
    rw [show (720720 : Int) = ((720720 : Nat) : Int) from rfl, ← Int.ofNat_tdiv]
  rw [h3]
  generalize 720720 / w = d at h2
  exact i64_small (by omega) (by omega)

set_option maxHeartbeats 1000000 in
theorem push_ok {h : VH} {i : Nat} {S : Sc} {X : List Nat} {b : Int} (K : Sch h i S X) (ok : OkS b S) (hb : b ≤ 1000000000000000000) {nm : List UInt8} {q : Jb} :
    PCalls Try.prog f_fair_Sched_Push [.pointer (some ⟨i, 0, none⟩), .string (strB nm), jbV q] h (fun u h' => u = .int .i64 (pushS S nm q).1 ∧ SchP h i X (pushS S nm q).2 h') := by
  refine PCalls_of_pw st_fair_Sched_Push (by simp [n_fair_Sched_Push]) ?_
  rw [b_fair_Sched_Push]
  have ho := ok.ord
  obtain ⟨j, rs, rfl, k⟩ := K
  have K0 : Sch h i S (fpS i j rs) := ⟨j, rs, rfl, k⟩
  obtain ⟨clk, hj, hlt⟩ := k.map_
  have hi := k.rec_
  have hlj := k.ltj
  have hli := k.lti
  have hij := k.nij
  obtain ⟨es, hes⟩ : ∃ es, es = rs.map entT := ⟨_, rfl⟩
  rw [← hes] at hj
  have hkf : keysFit .s es = true := by rw [hes]; exact keysFit_rs rs
  have hfk : fitK .s (.string (strB nm)) = true := rfl
  obtain ⟨q1, q2⟩ := q
  obtain ⟨g0, hg0⟩ : ∃ g0, g0 = h.push (.cells [.int .i64 q1, .int .i64 q2] true 1) := ⟨_, rfl⟩
  have F0 : Fr h g0 [] := by rw [hg0]; exact Fr_push (Fr.refl _ _)
  have n0 : g0.n = h.n + 1 := by rw [hg0]; rfl
  have i0 : g0.get i = .cells (scL S j) true 1 := (F0.get _ hli (by simp)).trans hi
  have j0 : g0.get j = .map es clk true := (F0.get _ hlj (by simp)).trans hj
  have b0 : g0.get h.n = .cells [.int .i64 q1, .int .i64 q2] true 1 := by rw [hg0, VH.get_push_new]
  cases hfd : findT nm S.ts with
  | none =>
    have hget := k.getN ho.uni hfd
    rw [← hes] at hget
    have hmv : mval false (.pointer none) none = .pointer none := rfl
    have hs : pushS S nm ⟨q1, q2⟩ = (5, S) := by simp [pushS, hfd]
    simp (disch := first|omega|(simp only [np,ns];try omega)) [r_fair_Sched_Push, B_fair_Sched_Push, jbV, ← hg0, i0, ls_0, j0, hkf, hfk, hget, hmv, hs]
    exact SchP.same K0 F0
  | some t =>
    obtain ⟨a, r, c, hrs, hrt, hget⟩ := k.getS ho.uni hfd
    rw [← hes] at hget
    subst hrs
    have T := k.ten r (by simp)
    have hit := T.rec_
    have hmv : mval false (.pointer none) (some (.pointer (some ⟨r.it, 0, none⟩))) = .pointer (some ⟨r.it, 0, none⟩) := rfl
    by_cases hc1 : q2 < 1
    · have hs : pushS S nm ⟨q1, q2⟩ = (1, S) := by simp [pushS, hfd, hc1]
      simp (disch := first|omega|(simp only [np,ns];try omega)) [r_fair_Sched_Push, B_fair_Sched_Push, jbV, ← hg0, i0, b0, lA_1, ls_0, j0, hkf, hfk, hget, hmv, hc1, hs]
      exact SchP.same K0 F0
    by_cases hc2 : 1000 < q2
    · have hs : pushS S nm ⟨q1, q2⟩ = (1, S) := by simp [pushS, hfd, hc2]
      simp (disch := first|omega|(simp only [np,ns];try omega)) [r_fair_Sched_Push, B_fair_Sched_Push, jbV, ← hg0, i0, b0, lA_1, ls_0, j0, hkf, hfk, hget, hmv, hc1, hc2, hs]
      exact SchP.same K0 F0
    have hit0 : g0.get r.it = .cells (tnL r.t r.iq) true 1 := (F0.get _ T.lt (by simp)).trans hit
    obtain ⟨w, hw⟩ : ∃ w : Wk, w = ⟨⟨q1, q2⟩, startS S t⟩ := ⟨_, rfl⟩
    obtain ⟨g1, hg1⟩ : ∃ g1, g1 = (g0.push (.cells [.int .i64 0, .int .i64 0, .int .i64 0] true 1)).set g0.n (.cells [.int .i64 q1, .int .i64 q2, .int .i64 (startS S t)] true 1) := ⟨_, rfl⟩
    have hrl := T.lt
    have hrq := T.lq
    have hst : (if S.ck < r.t.en then r.t.en else S.ck) = startS S t := by rw [← hrt]; rfl
    obtain ⟨s, hs0⟩ : ∃ s, s = startS S t := ⟨_, rfl⟩
    rw [← hs0] at hst hw hg1
    have hfi : fillC [.int .i64 0, .int .i64 0, .int .i64 0] [(0, 2, .agg #[.int .i64 q1, .int .i64 q2]), (2, 1, .int .i64 s)] = some [.int .i64 q1, .int .i64 q2, .int .i64 s] := rfl
    have F1 : Fr g0 g1 [] := by rw [hg1]; exact Fr_set (Fr_push (Fr.refl _ _)) (Nat.le_refl _)
    have F01 := F0.trans F1
    have n1 : g1.n = h.n + 2 := by rw [hg1]; simp [n0]
    have it1 : g1.get r.it = .cells (tnL r.t r.iq) true 1 := (F01.get _ hrl (by simp)).trans hit
    have b1 : g1.get h.n = .cells [.int .i64 q1, .int .i64 q2] true 1 := (F1.get _ (by omega) (by simp)).trans b0
    have w1 : g1.get g0.n = .cells [.int .i64 q1, .int .i64 q2, .int .i64 s] true 1 := by rw [hg1, VH.get_set_same]
    have T1 := T.fr F01 (fun _ _ => by simp)
    simp (disch := first|omega|(simp only [np,ns];try omega)) [B_fair_Sched_Push, jbV, ← hg0, i0, b0, l2_A, lA_1, ls_0, ls_1, j0, hkf, hfk, hget, hmv, hc1, hc2, hit0, lt_1, hst, hfi, s3_A, ← hg1, it1, lt_2, w1, l3_A]
    by_cases hfl : 16 ≤ t.l.length
    · have hs : pushS S nm ⟨q1, q2⟩ = (200, S) := by simp [pushS, hfd, hfl, hc1, hc2]
      subst hw
      refine (qpush_full T1 ⟨⟨q1, q2⟩, s⟩ (by rw [hrt]; exact hfl)).mono ?_
      rintro u g2 ⟨rfl, F2⟩
      simp (disch := first|omega|(simp only [np,ns];try omega)) [r_fair_Sched_Push, hs]
      exact SchP.same K0 (F01.trans F2)
    · subst hw
      refine (qpush_ok T1 ⟨⟨q1, q2⟩, s⟩ (by rw [hrt]; omega)).mono ?_
      rintro u g2 ⟨rfl, v, T2, F2, hid⟩
      have okt := ok.ten t (findT_some hfd).1
      have hw1 := okt.w1
      have hit2 := T2.rec_
      have hd : IntKind.i64.wrap ((720720 : Int).tdiv (r.t.w : Int)) = ((720720 / t.w : Nat) : Int) := by rw [hrt]; exact quo_w hw1
      have hdl : 720720 / t.w ≤ 720720 := Nat.div_le_self _ _
      obtain ⟨d, hdd⟩ : ∃ d, d = 720720 / t.w := ⟨_, rfl⟩
      rw [← hdd] at hd hdl
      have hmul : q2 * (d : Int) ≤ 720720000 := by
        have := Int.mul_le_mul (a := q2) (b := (d : Int)) (c := 1000) (d := 720720) (by omega) (by omega) (by omega) (by omega)
        omega
      have hmul0 : 0 ≤ q2 * (d : Int) := Int.mul_nonneg (by omega) (by omega)
      have hs2 : 0 ≤ s ∧ s ≤ b := by
        rw [hs0]
        unfold startS
        have := okt.en0; have := okt.enb; have := ok.ck0; have := ok.ckb
        split <;> omega
      have e1 : IntKind.i64.wrap (q2 * (d : Int)) = q2 * (d : Int) := i64_small (by omega) (by omega)
      have e2 : IntKind.i64.wrap (s + q2 * (d : Int)) = s + q2 * (d : Int) := i64_small (by omega) (by omega)
      have hs : pushS S nm ⟨q1, q2⟩ = (0, { S with ts := putT { t with l := t.l ++ [⟨⟨q1, q2⟩, s⟩], en := s + q2 * (d : Int) } S.ts }) := by
        simp [pushS, hfd, hfl, hc1, hc2, ← hs0, hdd]
      have hnx : ∀ z, z ∈ r.iq :: idOf r.v → z < h.n := fun z hz => T.lts z (by simp [fpT] at hz ⊢; rcases hz with hz | hz <;> simp [hz])
      have w2 : g2.get g0.n = .cells [.int .i64 q1, .int .i64 q2, .int .i64 s] true 1 := (F2.get _ (by omega) (fun hz => by have := hnx _ hz; omega)).trans w1
      have b2 : g2.get h.n = .cells [.int .i64 q1, .int .i64 q2] true 1 := (F2.get _ (by omega) (fun hz => by have := hnx _ hz; omega)).trans b1
      have hne : ((0 : Int) != 0) = false := rfl
      have hwne : ¬ r.t.w = 0 := by rw [hrt]; omega
      have hwt : tnL (addW r ⟨⟨q1, q2⟩, s⟩ v).t r.iq = tnL (addW r ⟨⟨q1, q2⟩, s⟩ v).t r.iq := rfl
      have it2 : g2.get r.it = .cells (tnL (addW r ⟨⟨q1, q2⟩, s⟩ v).t r.iq) true 1 := hit2
      have hww : (addW r ⟨⟨q1, q2⟩, s⟩ v).t.w = r.t.w := rfl
      simp (disch := first|omega|(simp only [np,ns];try omega)) [r_fair_Sched_Push, w2, b2, it2, lt_0, lA_1, l3_2, hww, hwne, hd, e1, e2, st_1, hs]
      obtain ⟨g3, hg3⟩ : ∃ g3, g3 = g2.set r.it (.cells (tnL { (addW r ⟨⟨q1, q2⟩, s⟩ v).t with en := s + q2 * (d : Int) } r.iq) true 1) := ⟨_, rfl⟩
      change SchP h i (fpS i j (a ++ r :: c)) _ (g2.set r.it (.cells (tnL { (addW r ⟨⟨q1, q2⟩, s⟩ v).t with en := s + q2 * (d : Int) } r.iq) true 1))
      rw [← hg3]
      have F3 : Fr g2 g3 [r.it] := by rw [hg3]; exact Fr.set _ _ (by simp)
      obtain ⟨r', hr'⟩ : ∃ r' : Rt, r' = { r with t := { r.t with l := r.t.l ++ [⟨⟨q1, q2⟩, s⟩], en := s + q2 * (d : Int) }, v := v } := ⟨_, rfl⟩
      have n2 := F2.n
      have hfp : ∀ x ∈ fpT r', x ∈ fpT r ∨ h.n ≤ x := by
        rw [hr']
        intro x hx
        simp only [fpT, List.mem_cons] at hx ⊢
        rcases hx with hx | hx | hx
        · exact .inl (.inl hx)
        · exact .inl (.inr (.inl hx))
        · rcases hid x hx with h1 | h1
          · exact .inl (.inr (.inr h1))
          · exact .inr (by omega)
      have T3 : TenAt g3 r' := by
        rw [hr']
        refine ⟨by rw [hg3]; exact T2.lt, by rw [hg3]; exact T2.lq, by rw [hg3]; exact VH.get_set_same .., ?_, T2.own.fr F3 (fun y hy hyx => by simp at hyx; subst hyx; exact T2.nv.1 hy)⟩
        show g3.get r.iq = _
        rw [F3.get r.iq T2.lq (by simp; exact fun e => T.nq e.symm)]; exact T2.qu
      have F03 : Fr h g3 (fpT r) := ((F01.sub (by simp)).trans (F2.sub (fun x hx => by simp [fpT] at hx ⊢; rcases hx with hx | hx <;> simp [hx]))).trans (F3.sub (by simp [fpT]))
      have k3 := k.one (r' := r') ho.uni F03 T3 (by rw [hr']) (by rw [hr']) (by rw [hr']) hfp
      have := k3.sch1 F03 hfp
      rw [hr', hrt] at this
      exact this
end Go.Proofs.Ytoenamablkkocaa.Fa
