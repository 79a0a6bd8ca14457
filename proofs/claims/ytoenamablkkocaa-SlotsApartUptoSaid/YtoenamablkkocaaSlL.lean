/- slots, part L: Set. -/
import Derived.Test.YtoenamablkkocaaSlK
set_option linter.unusedVariables false
set_option linter.unusedSimpArgs false
set_option maxRecDepth 100000
namespace Go.Proofs.Ytoenamablkkocaa.Sl
open Go Go.RowKit Go.Proofs.Ytoenamablkkocaa.Pm Go.Proofs.Ytoenamablkkocaa.Fs Go.Proofs.Ytoenamablkkocaa.Fa
attribute [-simp] BitVec.toNat_or BitVec.toNat_xor BitVec.toNat_add BitVec.toNat_and BitVec.toNat_not BitVec.toNat_shiftLeft BitVec.toNat_ushiftRight

set_option maxHeartbeats 4000000 in
theorem tset_ok {h : VH} {i : Nat} {T : Tb} {Z : List Nat} (K : TbAt h i T Z) (ok : OkTb T) (hid : idleS T.ts = true) {nm : List UInt8} {w : Int} :
    PCalls Try.prog f_slots_Table_Set [.pointer (some ⟨i, 0, none⟩), .string (strB nm), .int .i64 w] h (fun u h' => u = .int .i64 (setT T nm w).1 ∧ TbP h i Z (setT T nm w).2 h') := by
  refine PCalls_of_pw st_slots_Table_Set (by simp [n_slots_Table_Set]) ?_
  rw [b_slots_Table_Set]
  unfold B_slots_Table_Set
  by_cases hw1 : w < 1
  · have hs : setT T nm w = (1, T) := by simp [setT, hw1]
    simp (disch := first|omega|(simp only [np,ns];try omega)) [r_slots_Table_Set, hw1, hs]
    exact TbP.same K (Fr.refl _ _)
  by_cases hw2 : 16 < w
  · have hs : setT T nm w = (1, T) := by simp [setT, hw2]
    simp (disch := first|omega|(simp only [np,ns];try omega)) [r_slots_Table_Set, hw1, hw2, hs]
    exact TbP.same K (Fr.refl _ _)
  have K0 := K
  obtain ⟨s, jr, jw, v, rs, X, rfl, k⟩ := K
  have hi := k.rec_
  obtain ⟨clk, hj, hlt⟩ := k.map_
  obtain ⟨es, hes⟩ : ∃ es, es = rs.map entT := ⟨_, rfl⟩
  rw [← hes] at hj
  have hkf : keysFit .s es = true := by rw [hes]; exact keysFit_rs rs
  have hfk : fitK .s (.string (strB nm)) = true := rfl
  have hof : Ord (fairOf T).ts := by
    show (T.ts.map bare).Pairwise _
    rw [List.pairwise_map]
    exact ok.ord
  have hfs := fair_set hid nm w
  cases hfd : findT nm T.ts with
  | some t =>
    obtain ⟨ra, r, rb, hrs, hrt, hget⟩ := k.found ok.ord.uni hfd
    rw [← hes] at hget
    have R := k.row r (by rw [hrs]; simp)
    have hit := R.rec_
    have hl : t.l = [] := idle_true hid t (findT_some hfd).1
    have hl0 : (r.t.l.length : Int) = 0 := by rw [hrt, hl]; rfl
    have hmv : mval false (.pointer none) (some (.pointer (some ⟨r.it, 0, none⟩))) = .pointer (some ⟨r.it, 0, none⟩) := rfl
    simp (disch := first|omega|(simp only [np,ns];try omega)) [hw1, hw2, hi, ta_0, ta_3, hj, hkf, hfk, hget, hmv, hit, rw_0]
    refine (jlen_ok R).mono ?_
    rintro u g ⟨rfl, hg⟩
    rw [hg]
    simp (disch := first|omega|(simp only [np,ns];try omega)) [hl0, hi, ta_1]
    refine (set_ok k.sch hof (nm := nm) (w := w)).mono ?_
    rintro u g1 ⟨rfl, X', sc, mv⟩
    have hs : setT T nm w = (0, { T with ts := putT { t with w := w.toNat } T.ts }) := by simp [setT, hw1, hw2, hfd, hl]
    rw [hfs, hs] at sc
    obtain ⟨ew, cw, hjw, hkw⟩ := k.wmap
    obtain ⟨o1, o2, o3, o4, o5, o6, o7, o8, o9⟩ := k.nown
    have i1 := (mv.fr.get i k.lti o7).trans hi
    have w1 := (mv.fr.get jw k.ltw o9).trans hjw
    have hz : (setS (fairOf T) nm w).1 = 0 := by rw [hfs, hs]
    rw [hz]
    simp (disch := first|omega|(simp only [np,ns];try omega)) [r_slots_Table_Set, i1, ta_4, w1, hkw, hfk, hs]
    subst hrs
    subst hrt
    have F2 : Fr g1 (g1.set jw (.map (mput (.string (strB nm)) (.int .i64 w) cw ew) (mtick (.string (strB nm)) cw ew) true)) [jw] := Fr.set _ _ (by simp)
    have k2 := k.weigh ok.ord.uni mv sc F2 (VH.get_set_same ..) (keysFit_mput hfk hkw)
    refine ⟨_, ⟨s, jr, jw, v, _, X', rfl, k2⟩, (mv.fr.sub (fun x hx => List.mem_append_right _ hx)).trans (F2.sub (fun x hx => by simp at hx; subst hx; simp [fpO])), fun x hx => ?_⟩
    have hfp : fpO i jr jw v (ra ++ { r with t := { r.t with w := w.toNat } } :: rb) = fpO i jr jw v (ra ++ r :: rb) := by simp [fpO, fpT]
    rw [hfp] at hx
    rcases List.mem_append.1 hx with hx | hx
    · exact .inl (List.mem_append_left _ hx)
    · exact (mv.ids x hx).imp (fun h => List.mem_append_right _ h) id
  | none =>
    have hget := k.none_ ok.ord.uni hfd
    rw [← hes] at hget
    have hmv : mval false (.pointer none) none = .pointer none := rfl
    simp (disch := first|omega|(simp only [np,ns];try omega)) [hw1, hw2, hi, ta_0, ta_3, hj, hkf, hfk, hget, hmv]
    refine (left_ok K0 hid).mono ?_
    rintro u g ⟨rfl, Fg⟩
    have kg := k.fr0 Fg
    have hig := kg.rec_
    have ng := Fg.n
    simp (disch := first|omega|(simp only [np,ns];try omega)) [hig, ta_1]
    refine (set_ok kg.sch hof (nm := nm) (w := w)).mono ?_
    rintro u g1 ⟨rfl, X', sc, mv⟩
    obtain ⟨o1, o2, o3, o4, o5, o6, o7, o8, o9⟩ := k.nown
    have hli := kg.lti
    have hlr := kg.ltr
    have hlw := kg.ltw
    have i1 := (mv.fr.get i hli o7).trans hig
    have n1 := mv.fr.n
    by_cases h16 : 16 ≤ T.ts.length
    · have hs : setT T nm w = (7, T) := by simp [setT, hw1, hw2, hfd, hid, h16]
      have hz : (setS (fairOf T) nm w).1 = 7 := by rw [hfs, hs]
      rw [hfs, hs] at sc
      rw [hz]
      simp (disch := first|omega|(simp only [np,ns];try omega)) [r_slots_Table_Set, hs]
      have hg := kg.sched mv sc
      refine ⟨_, ⟨s, jr, jw, v, rs, X', rfl, hg⟩, (Fg.sub (by simp)).trans (mv.fr.sub (fun x hx => List.mem_append_right _ hx)), fun x hx => ?_⟩
      rcases List.mem_append.1 hx with hx | hx
      · exact .inl (List.mem_append_left _ hx)
      · exact (mv.ids x hx).imp (fun h => List.mem_append_right _ h) (by omega)
    obtain ⟨T', hT'⟩ : ∃ T' : Tb, T' = { T with ts := insT ⟨nm, w.toNat, 0, []⟩ T.ts } := ⟨_, rfl⟩
    have hs : setT T nm w = (0, T') := by rw [hT']; simp [setT, hw1, hw2, hfd, hid, h16]
    have hz : (setS (fairOf T) nm w).1 = 0 := by rw [hfs, hs]
    rw [hfs, hs] at sc
    rw [hz]
    have j1 := (mv.fr.get jr hlr o8).trans ((Fg.get jr k.ltr (by simp)).trans hj)
    obtain ⟨ew, cw, hjw, hkw⟩ := kg.wmap
    have w1 := (mv.fr.get jw hlw o9).trans hjw
    obtain ⟨g2, hg2⟩ : ∃ g2, g2 = g1.set jw (.map (mput (.string (strB nm)) (.int .i64 w) cw ew) (mtick (.string (strB nm)) cw ew) true) := ⟨_, rfl⟩
    have F2 : Fr g1 g2 [jw] := by rw [hg2]; exact Fr.set _ _ (by simp)
    have n2 := F2.n
    have i2 := (F2.get i (by omega) (by simpa using o2)).trans i1
    have j2 := (F2.get jr (by omega) (by simpa using o3)).trans j1
    simp (disch := first|omega|(simp only [np,ns];try omega)) [i1, ta_4, w1, hkw, hfk, ← hg2, i2, ta_3, j2]
    refine jnew_ok.mono ?_
    rintro u g3 ⟨rfl, hg3⟩
    have F3 : Fr g2 g3 [] := by rw [hg3]; exact Fr_push (Fr.refl _ _)
    have n3 : g3.n = g2.n + 1 := by rw [hg3]; rfl
    have q3 : g3.get g2.n = .cells (quL (.slice none 0 0)) true 1 := by rw [hg3, VH.get_push_new]
    have i3 := (F3.get i (by omega) (by simp)).trans i2
    have j3 := (F3.get jr (by omega) (by simp)).trans j2
    obtain ⟨t0, ht0⟩ : ∃ t0 : Tn, t0 = ⟨nm, w.toNat, 0, []⟩ := ⟨_, rfl⟩
    have hfi : fillC [.pointer none, .int .i64 0] [(0, 1, .pointer (some ⟨g2.n, 0, none⟩))] = some (rwL t0 g2.n) := by rw [ht0]; rfl
    have hone : (rwL t0 g2.n).all Value.oneCell' = true := rfl
    obtain ⟨hmp, hmh⟩ := mput_new (v := .pointer (some ⟨g3.n, 0, none⟩)) (c := clk) hget
    have hmt : mtick (.string (strB nm)) clk es = clk + 1 := by simp [mtick, hmh]
    obtain ⟨g4, hg4⟩ : ∃ g4, g4 = g3.push (.cells (rwL t0 g2.n) true 1) := ⟨_, rfl⟩
    have F4 : Fr g3 g4 [] := by rw [hg4]; exact Fr_push (Fr.refl _ _)
    have n4 : g4.n = g3.n + 1 := by rw [hg4]; rfl
    have r4 : g4.get g3.n = .cells (rwL t0 g2.n) true 1 := by rw [hg4, VH.get_push_new]
    have q4 := (F4.get g2.n (by omega) (by simp)).trans q3
    have i4 := (F4.get i (by omega) (by simp)).trans i3
    have j4 := (F4.get jr (by omega) (by simp)).trans j3
    obtain ⟨g5, hg5⟩ : ∃ g5, g5 = g4.set jr (.map (es ++ [(.string (strB nm), .pointer (some ⟨g3.n, 0, none⟩), clk)]) (clk + 1) true) := ⟨_, rfl⟩
    have F5 : Fr g4 g5 [jr] := by rw [hg5]; exact Fr.set _ _ (by simp)
    have n5 := F5.n
    have i5 := (F5.get i (by omega) (by simpa using o1)).trans i4
    simp (disch := first|omega|(simp only [np,ns];try omega)) [i3, i4, i2, ta_3, hfi, hone, ← hg4, j4, hkf, hfk, hmp, hmt, ← hg5, i5, ta_2]
    have hXl := sc.lt
    have hfo : ∀ y ∈ idOf v, y ≠ jr ∧ y ≠ jw ∧ y ∉ X := fun y hy => ⟨fun e => o5 (e ▸ hy), fun e => o6 (e ▸ hy), fun hx => kg.dis y hx (fpO_nm y hy)⟩
    have Fg5 : Fr g g5 (jr :: jw :: X) := ((((mv.fr.sub (fun x hx => by simp [hx])).trans (F2.sub (fun x hx => by simp at hx; simp [hx]))).trans (F3.sub (by simp))).trans (F4.sub (by simp))).trans (F5.sub (fun x hx => by simp at hx; simp [hx]))
    have nm5 : OwnSl g5 1 v (strsV (namesT T)) T.ts.length := kg.nms.fr Fg5 (fun y hy hyn => by
      obtain ⟨e1, e2, e3⟩ := hfo y hy
      simp only [List.mem_cons] at hyn
      rcases hyn with h | h | h
      · exact e1 h
      · exact e2 h
      · exact e3 h)
    have hnl : (namesT T).length = T.ts.length := by simp [namesT]
    have hpw : (namesT T).Pairwise (· < ·) := by
      unfold namesT
      rw [List.pairwise_map]
      exact ok.ord
    refine (bsearch_ok nm5 hnl (by omega) hpw (x := nm)).mono ?_
    rintro u g' ⟨rfl, hg'⟩
    rw [hg']
    obtain ⟨k0, hk0⟩ : ∃ k0, k0 = lowS nm (namesT T) := ⟨_, rfl⟩
    have hk0l : k0 ≤ (namesT T).length := by rw [hk0]; exact lowS_le _ _
    rw [← hk0]
    obtain ⟨g6, hg6⟩ : ∃ g6, g6 = g5.push (.cells [.string (strB nm)] true 0) := ⟨_, rfl⟩
    have F6 : Fr g5 g6 [] := by rw [hg6]; exact Fr_push (Fr.refl _ _)
    have n6 : g6.n = g5.n + 1 := by rw [hg6]; rfl
    have x6 : g6.get g5.n = .cells [.string (strB nm)] true 0 := by rw [hg6, VH.get_push_new]
    have i6 := (F6.get i (by omega) (by simp)).trans i5
    have nm6 := nm5.fr F6 (fun _ _ => by simp)
    rw [← hnl] at nm6
    have hI : PCalls Try.prog f_slices_Insert_string_string [v, .int .i64 (k0 : Int), .slice (some ⟨g5.n, 0, none⟩) 1 1] g6 _ := insertS_ok lays22 nm6 (j := g5.n) (c := 1) (x := nm) (by omega) x6 (k := k0) hk0l (by omega) (by omega)
    have hfr : fillC [.string ⟨#[]⟩] [(0, 1, .string (strB nm))] = some [.string (strB nm)] := rfl
    simp (disch := first|omega|(simp only [np,ns];try omega)) [i5, ta_2, hfr, ← hg6]
    refine hI.mono ?_
    rintro v' g7 ⟨ow7, F7, hid7⟩
    have n7 := F7.n
    have i7 := (F7.get i (by omega) o4).trans i6
    obtain ⟨va, vc, rfl⟩ := ow7.shapeN
    obtain ⟨v', hv'⟩ : ∃ v', v' = Value.slice va ((namesT T).length + 1) vc := ⟨_, rfl⟩
    have hst : storeObj (.cells (tbL T s v jr jw) true 1) 2 1 v' = some (.cells (tbL T s v' jr jw) true 1) := by rw [hv']; rfl
    rw [← hv'] at ow7 hid7 ⊢
    obtain ⟨g8, hg8⟩ : ∃ g8, g8 = g7.set i (.cells (tbL T s v' jr jw) true 1) := ⟨_, rfl⟩
    have F8 : Fr g7 g8 [i] := by rw [hg8]; exact Fr.set _ _ (by simp)
    have n8 : g8.n = g7.n := by rw [hg8]; rfl
    simp (disch := first|omega|(simp only [np,ns];try omega)) [r_slots_Table_Set, i7, hst, ← hg8, hs]
    have old : ∀ {j o}, g5.get j = o → j < g5.n → j ∉ idOf v → j ≠ i → g8.get j = o := fun {j o} h5 hj h1 h2 =>
      (F8.get j (by omega) (by simpa using h2)).trans ((F7.get j (by omega) h1).trans ((F6.get j hj (by simp)).trans h5))
    have w5 : g5.get jw = .map (mput (.string (strB nm)) (.int .i64 w) cw ew) (mtick (.string (strB nm)) cw ew) true :=
      (F5.get jw (by omega) (by simp; exact fun e => o3 e.symm)).trans ((F4.get jw (by omega) (by simp)).trans ((F3.get jw (by omega) (by simp)).trans (by rw [hg2, VH.get_set_same])))
    have r5 := (F5.get g3.n (by omega) (by simp; omega)).trans r4
    have q5 := (F5.get g2.n (by omega) (by simp; omega)).trans q4
    have j5 : g5.get jr = .map (es ++ [(.string (strB nm), .pointer (some ⟨g3.n, 0, none⟩), clk)]) (clk + 1) true := by rw [hg5, VH.get_set_same]
    have hvl := kg.nms.lt
    have F68 : Fr g5 g8 (i :: idOf v) := ((F6.sub (by simp)).trans (F7.sub (fun x hx => by simp [hx]))).trans (F8.sub (fun x hx => by simp at hx; simp [hx]))
    have sc8 : Sch g8 s (fairOf T') X' := by
      have d : ∀ x ∈ X', ∀ y, y < g.n → y ∉ X → x ≠ y := fun x hx y hy hyX e => by
        subst e
        rcases mv.ids x hx with h | h
        · exact hyX h
        · omega
      refine ((((sc.fr F2 (fun x hx hxn => ?_)).fr0 F3).fr0 F4).fr F5 (fun x hx hxn => ?_)).fr F68 (fun x hx hxn => ?_)
      · simp at hxn; exact d x hx jw hlw o9 hxn
      · simp at hxn; exact d x hx jr hlr o8 hxn
      · simp only [List.mem_cons] at hxn
        rcases hxn with h | h
        · exact d x hx i hli o7 h
        · exact d x hx x (hvl x h) (hfo x h).2.2 rfl
    have hT0 : T' = ⟨insT t0 T.ts, T.sl⟩ := by rw [hT', ht0]
    have hnn : namesT T' = insS k0 nm (namesT T) := by
      rw [hT0, hk0]
      unfold namesT
      rw [insT_names]
      rw [ht0]
    have hx0 : t0.nm = nm := by rw [ht0]
    have kf := kg.grow (x := t0) (it := g3.n) (iq := g2.n) (clk := clk) (clk' := clk + 1) (a := g1.n) (b := g5.n) (v' := v') (X' := X') (g' := g8) (es := mput (.string (strB nm)) (.int .i64 w) cw ew) (cw := mtick (.string (strB nm)) cw ew)
      ((Fg5.sub (fun x hx => by simp only [List.mem_cons, List.mem_append] at hx ⊢; rcases hx with h | h | h <;> simp [h])).trans (F68.sub (fun x hx => by simp only [List.mem_cons, List.mem_append] at hx ⊢; rcases hx with h | h <;> simp [h])))
      (by rw [hg8, VH.get_set_same]) (by rw [← hT0]; exact sc8) mv.ids (by
        rw [← hT0, hnn, ← hnl]
        exact ow7.fr F8 (fun x hx hxi => by simp at hxi; have := hid7 x hx; omega)) (fun y hy => by have := hid7 y hy; omega) hXl n1 (by omega) (by omega) (by omega) (by omega)
      (by rw [hx0, ← hes]; exact old j5 (by omega) o5 (fun e => o1 e.symm)) hlt (old w5 (by omega) o6 (fun e => o2 e.symm)) (keysFit_mput hfk hkw) (by rw [ht0]) (old r5 (by omega) (fun h => by have := hvl _ h; omega) (by omega)) (old q5 (by omega) (fun h => by have := hvl _ h; omega) (by omega))
    rw [← hT0] at kf
    refine ⟨_, ⟨s, jr, jw, v', _, X', rfl, kf⟩, (Fg.sub (by simp)).trans ((Fg5.sub (fun x hx => ?_)).trans (F68.sub (fun x hx => ?_))), fun x hx => ?_⟩
    · simp only [List.mem_cons] at hx
      rcases hx with h | h | h
      · subst h; simp [fpO]
      · subst h; simp [fpO]
      · exact List.mem_append_right _ h
    · simp only [List.mem_cons] at hx
      rcases hx with h | h
      · subst h; simp [fpO]
      · exact List.mem_append_left _ (fpO_nm x h)
    · rcases List.mem_append.1 hx with hx | hx
      · simp only [fpO, List.mem_cons, List.mem_append, List.flatMap_append, List.flatMap_cons, List.flatMap_nil, List.append_nil] at hx
        rcases hx with h | h | h | h | h | h
        · subst h; exact .inl (by simp [fpO])
        · subst h; exact .inl (by simp [fpO])
        · subst h; exact .inl (by simp [fpO])
        · have := hid7 x h; exact .inr (by omega)
        · exact .inl (List.mem_append_left _ (by simp only [fpO, List.mem_cons, List.mem_append]; exact .inr (.inr (.inr (.inr h)))))
        · simp [fpT, idOf] at h; exact .inr (by omega)
      · exact (mv.ids x hx).imp (fun h => List.mem_append_right _ h) (by omega)
end Go.Proofs.Ytoenamablkkocaa.Sl
