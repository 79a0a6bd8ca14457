/- ident, part R: the numbers of a tenant's sessions, yielded in order. -/
import Derived.Test.YtaeegilpfoiagaaIdQ
set_option linter.unusedVariables false
set_option linter.unusedSimpArgs false
set_option maxRecDepth 100000
namespace Go.Proofs.Ytaeegilpfoiagaa.Id
open Go Go.RowKit Go.Proofs.Ytaeegilpfoiagaa.Pm Go.Proofs.Ytaeegilpfoiagaa.Fs


/-- elements gathered in an owned row that was laid behind h0, of which nothing has turned. -/
structure BufE (h0 g : VH) (e : Nat) (w : Value) (l : List Value) (n : Nat) : Prop where
  own : OwnSl g e w l n
  fr : Fr h0 g []
  ids : ∀ i ∈ idOf w, h0.n ≤ i
theorem BufE.nil (h : VH) (e : Nat) : BufE h h e (.slice none 0 0) [] 0 := ⟨OwnSl.nil _ _, Fr.refl _ _, fun i hi => by simp [idOf] at hi⟩
theorem BufE.shape {h0 g : VH} {e : Nat} {w : Value} {l : List Value} {n : Nat} (hb : BufE h0 g e w l n) : ∃ a c, w = .slice a n c := hb.own.shapeN
theorem BufE.step {h0 g g' : VH} {e : Nat} {w : Value} {l : List Value} {n : Nat} (hb : BufE h0 g e w l n) (hf : Fr g g' []) : BufE h0 g' e w l n :=
  ⟨hb.own.fr hf (fun i _ => by simp), hb.fr.trans hf, hb.ids⟩
theorem BufE.append {h0 g : VH} {e bytes : Nat} {w : Value} {l : List Value} {n : Nat} (hb : BufE h0 g e w l n) {ys : List Value} {k : Nat} (hy : ys.length = k * e) (hl : (n + k) * bytes ≤ 140737488355328) :
    ∃ w' g', appendV g e bytes w ys k = some (w', g') ∧ BufE h0 g' e w' (l ++ ys) (n + k) ∧ Fr g g' (idOf w) := by
  obtain ⟨w', g', hap, ho, hf, hid⟩ := hb.own.append (bytes := bytes) hy hl
  refine ⟨w', g', hap, ⟨ho, hb.fr.trans' hf (fun y hy => .inr (hb.ids y hy)), fun i hi => ?_⟩, hf⟩
  rcases hid i hi with h1 | h1
  · exact hb.ids i h1
  · exact Nat.le_trans hb.fr.n h1
def ofS (tn : List UInt8) (L : List Ss) : List Int := (L.filter fun s => decide (s.x = tn)).map (·.id)
theorem sortZ_eq {l l' : List Int} (hp : l.Perm l') (h : l'.Pairwise (· < ·)) : sortZ l = l' := by
  have h1 : (sortZ l).Pairwise (fun a b => decide (a ≤ b) = true) := List.pairwise_mergeSort (fun a b c h1 h2 => by
    simp only [decide_eq_true_eq] at *; omega) (fun a b => by
    simp only [Bool.or_eq_true, decide_eq_true_eq]; omega) _
  have h2 : (sortZ l).Perm l' := (List.mergeSort_perm l _).trans hp
  refine h2.eq_of_pairwise (le := fun a b => a ≤ b) (fun a b _ _ x y => by omega) (h1.imp (by simp)) (h.imp (fun hab => by omega))
theorem ofS_sorted {tn : List UInt8} {L : List Ss} {last : Int} {clk : Nat} (k : OkL L last clk) : (ofS tn L).Pairwise (· < ·) := by
  unfold ofS
  rw [List.pairwise_map]
  exact (k.ids.filter _)
theorem ofS_perm {tn : List UInt8} {L M : List Ss} (h : L.Perm M) : (ofS tn L).Perm (ofS tn M) := (h.filter _).map _
theorem intsV_append (a b : List Int) : intsV (a ++ b) = intsV a ++ intsV b := by simp [intsV]
theorem ofS_len (tn : List UInt8) (L : List Ss) : (ofS tn L).length ≤ L.length := by
  unfold ofS
  rw [List.length_map]
  exact List.length_filter_le _ _

/-- of a range over the sessions: the numbers gathered so far. -/
def ColJ (h : VH) (j clk : Nat) (L : List Ss) (tn : List UInt8) (y bt bs n : Nat) (s : Slots) (g : VH) : Prop :=
  ∃ dn td w, n = td.length ∧ (dn ++ td).Perm L ∧ g.get h.n = .miter (some j) clk (dn.map (·.b)) clk ∧ Fr h g [] ∧ h.n < g.n ∧ OwnSl g 1 w (intsV (ofS tn dn)) (ofS tn dn).length ∧ (∀ i ∈ idOf w, h.n < i) ∧ s 0 = .func (.yield y) #[] #[] ∧ s 1 = .pointer (some ⟨bt, 0, none⟩) ∧ s 2 = .pointer (some ⟨bs, 0, none⟩) ∧ s 4 = w ∧ s 15 = .pointer (some ⟨h.n, 0, none⟩)
theorem ofS_yes {tn : List UInt8} {dn : List Ss} {x : Ss} (h : x.x = tn) : ofS tn (dn ++ [x]) = ofS tn dn ++ [x.id] := by simp [ofS, h]
theorem ofS_no {tn : List UInt8} {dn : List Ss} {x : Ss} (h : x.x ≠ tn) : ofS tn (dn ++ [x]) = ofS tn dn := by simp [ofS, h]
def SeqJ (J : Nat → VH → Prop) (g5 : VH) (y i o N c n : Nat) (s : Slots) (g : VH) : Prop :=
  J n g ∧ g5.n ≤ g.n ∧ g.get i = g5.get i ∧ s 0 = .func (.yield y) #[] #[] ∧ s 32 = .slice (some ⟨i, o, none⟩) N c ∧ s 33 = .int .i64 (N : Int) ∧ s 34 = .int .i64 (n : Int)
set_option maxHeartbeats 8000000 in
theorem seq_ok (hso : SortsI Try.prog f_slices_Sort_int64_int64) {y bt bs i j clk : Nat} {last : Int} {L : List Ss} {tn : List UInt8} (J : Nat → VH → Prop) (R : VH → Prop) (X : List Nat) {h : VH}
    (hJ : ∀ n g g', J n g → Fr g g' [] → J n g') (hX : ∀ x ∈ X, x < h.n)
    (hbt : h.get bt = .cells [.pointer (some ⟨i, 0, none⟩)] true 1) (hbs : h.get bs = .cells [.string (strB tn)] true 1) (hbtn : bt < h.n) (hbsn : bs < h.n) (T : TabL h i j L clk last)
    (h0 : J 0 h) (hL : L.length ≤ 64) (hne : 0 < (ofS tn L).length)
    (hY : ∀ n (hn : n < (ofS tn L).length) g, J n g → h.n ≤ g.n → PYield Try.prog y [.int .i64 (ofS tn L)[n]] g (fun u g' => (u = .bool true ∧ J (n + 1) g' ∧ Fr g g' X) ∨ (u = .bool false ∧ R g'))) :
    PCalls Try.prog f_ident_Table_Of_1 [.func (.yield y) #[] #[], .pointer (some ⟨bt, 0, none⟩), .pointer (some ⟨bs, 0, none⟩)] h (fun u g => J (ofS tn L).length g ∨ R g) := by
  refine PCalls_of_pw st_ident_Table_Of_1 (by simp [n_ident_Table_Of_1]) ?_
  rw [b_ident_Table_Of_1]
  have l1 : ∀ v : Value, loadObj (.cells [v] true 1) 0 none = some v := fun _ => rfl
  have hri := T.tab.rec_
  have hmj := T.tab.map_
  have hli := T.tab.lti
  have hlj := T.tab.ltj
  obtain ⟨es, hes⟩ : ∃ es, es = L.map entS := ⟨_, rfl⟩
  rw [← hes] at hmj
  obtain ⟨N, hN⟩ : ∃ N, N = (ofS tn L).length := ⟨_, rfl⟩
  have hN64 : N ≤ 64 := by have := ofS_len tn L; omega
  simp (disch := first|omega|(simp only [np,ns];try omega)) [B_ident_Table_Of_1, hbt, l1, hri, tb_ld0, hmj]
  refine pw_loop (ColJ h j clk L tn y bt bs) L.length ?_ ?_
  · exact ⟨[], L, .slice none 0 0, rfl, by simp, VH.get_push_new _ _, Fr.push _ _ _, by simp, OwnSl.nil _ _, by simp [idOf], by simp [upd_apply, s0_apply], by simp [upd_apply, s0_apply], by simp [upd_apply, s0_apply], by simp [upd_apply], by simp [upd_apply]⟩
  rintro n s g ⟨dn, td, w, rfl, hp, hq, F, hgn, hB, hid, e0, e1, e2, e4, e15⟩
  have T1 := T.fr F
  have hj1 := T1.tab.map_
  rw [← hes] at hj1
  obtain ⟨wa, wc, hw⟩ := hB.shape
  obtain ⟨D, hD⟩ : ∃ D, D = (ofS tn dn).length := ⟨_, rfl⟩
  have hD64 : D ≤ 64 := by
    have h2 := ofS_len tn dn
    have h3 := hp.length_eq
    rw [List.length_append] at h3
    omega
  obtain ⟨wa, wc, hw⟩ := hB.shapeN
  rw [← hD] at hw hB
  subst hw
  simp (disch := first|omega|(simp only [np,ns];try omega)) [e15]
  refine range_next (ent := entS) hes hp T.ok.bnd T.ok.lt hq hj1 ?_ ?_
  · rintro rfl
    rw [List.append_nil] at hp
    have hpo := ofS_perm (tn := tn) hp
    have hDN : D = N := by rw [hD, hN]; exact hpo.length_eq
    have hso' := sortZ_eq hpo (ofS_sorted T.ok)
    rcases hB with ⟨_, h1, h2⟩ | ⟨q, o, c, ds, hqn, hc, hv, hgq, hd, hl, hod⟩
    · omega
    have hdl : ds.length = o + D := by
      have := congrArg List.length hd
      simp at this
      omega
    injection hv with hv _ hvc
    subst hv
    subst hvc
    have hqh : h.n < q := hid q (by simp [idOf])
    simp (disch := first|omega|(simp only [np,ns];try omega)) [e4]
    rw [hD]
    refine (sortI_ok hso hqn hgq (by omega) (by rw [hd, List.take_of_length_le (by simp)]) (by omega) (by omega) (by omega)).mono ?_
    rintro u g5 ⟨rfl, hg5⟩
    rw [← hD, hDN]
    have F5 : Fr h g5 [] := by rw [hg5]; exact Fr_set F (by omega)
    have n5 : g5.n = g.n := by rw [hg5]; rfl
    have q5 : g5.get q = .cells (wr ds o (intsV (ofS tn L))) true 1 := by rw [hg5, VH.get_set_same, hso']
    have hwl : (wr ds o (intsV (ofS tn L))).length = ds.length := wr_length (by simp; omega)
    simp (disch := first|omega|(simp only [np,ns];try omega)) [e4]
    refine pw_loopN (SeqJ J g5 y q o N wc) N ?_ ?_
    · exact ⟨hJ _ _ _ h0 F5, Nat.le_refl _, rfl, by simp [upd_apply, e0], by simp [upd_apply, e4, hDN], by simp [upd_apply, hDN], by simp [upd_apply]⟩
    rintro n s g6 hn ⟨hj6, hn6, hq6, e0, e32, e33, e34⟩
    by_cases hlt : n < N
    · have hltI : (n : Int) < (N : Int) := by omega
      have hnl : n < (ofS tn L).length := by omega
      have eW : IntKind.i64.wrap ((n : Int) + 1) = ((n + 1 : Nat) : Int) := by rw [i64_small (by omega) (by omega)]; omega
      have hq7 := hq6.trans q5
      have hld : loadObj (.cells (wr ds o (intsV (ofS tn L))) true 1) (o + n) none = some (.int .i64 (ofS tn L)[n]) := by
        rw [loadObj_one]
        unfold wr
        rw [List.append_assoc, List.getElem?_append_right (by simp; omega), List.length_take, Nat.min_eq_left (by omega), show o + n - o = n by omega, List.getElem?_append_left (by simp; omega)]
        simp [intsV, hnl]
      simp (disch := first|omega|(simp only [np,ns];try omega)) [e0, e32, e33, e34, hltI, hlt, hq7, hld]
      refine PYield.mono (hY n hnl g6 hj6 (by have := F5.n; omega)) ?_
      rintro u g7 (⟨rfl, hj7, F7⟩ | ⟨rfl, hR⟩)
      · have hq8 : g7.get q = g5.get q := (F7.get q (by omega) (fun hx => by have := hX q hx; omega)).trans hq6
        have hn7 := F7.n
        simp (disch := first|omega|(simp only [np,ns];try omega)) [e0, e32, e33, e34, eW]
        exact ⟨hlt, hj7, by omega, hq8, by simp [upd_apply, e0], by simp [upd_apply, e32], by simp [upd_apply, e33], by simp [upd_apply]⟩
      · simp (disch := first|omega|(simp only [np,ns];try omega)) [r_ident_Table_Of_1]
        exact .inr hR
    · obtain rfl : n = N := by omega
      simp (disch := first|omega|(simp only [np,ns];try omega)) [r_ident_Table_Of_1, e33, e34]
      rw [← hN]
      exact .inl hj6
  · intro x a b sn htd hsn hlast
    obtain ⟨g1, hg1⟩ : ∃ g1, g1 = g.set h.n (.miter (some j) clk sn clk) := ⟨_, rfl⟩
    have f1 : Fr g g1 [h.n] := by rw [hg1]; exact Fr.set _ _ (by simp)
    have F1 : Fr h g1 [] := by rw [hg1]; exact Fr_set F (Nat.le_refl _)
    have q1 : g1.get h.n = .miter (some j) clk sn clk := by rw [hg1, VH.get_set_same]
    have n1 : g1.n = g.n := by rw [hg1]; rfl
    have hj2 := (T.fr F1).tab.map_
    rw [← hes] at hj2
    obtain ⟨g2, hg2⟩ : ∃ g2, g2 = (g1.push (.cells [.string ⟨#[]⟩, .string ⟨#[]⟩, .bool false, .int .i64 0] true 1)).set g.n (.cells [.string (strB x.x), .string (strB x.y), .bool x.z, .int .i64 x.o] true 1) := ⟨_, rfl⟩
    have f2 : Fr g1 g2 [] := by rw [hg2]; exact Fr_set (Fr_push (Fr.refl _ _)) (by omega)
    have q2 : g2.get h.n = .miter (some j) clk sn clk := (f2.get _ (by omega) (by simp)).trans q1
    have o2 : g2.get g.n = .cells [.string (strB x.x), .string (strB x.y), .bool x.z, .int .i64 x.o] true 1 := by rw [hg2, VH.get_set_same]
    have n2 : g2.n = g.n + 1 := by rw [hg2]; show g1.n + 1 = _; omega
    have F2 : Fr h g2 [] := F1.trans f2
    have hbs2 := (F2.get bs hbsn (by simp)).trans hbs
    have hlast' : (sn.getLast?.bind fun st => mborn st es) = some (.int .i64 x.id, .agg #[.string (strB x.x), .string (strB x.y), .bool x.z, .int .i64 x.o]) := hlast
    have hB2 : OwnSl g2 1 (.slice wa D wc) (intsV (ofS tn dn)) D := (hB.fr f1 (fun z hz => by have := hid z hz; simp; omega)).fr f2 (fun _ _ => by simp)
    have l4 : loadObj (.cells [.string (strB x.x), .string (strB x.y), .bool x.z, .int .i64 x.o] true 1) 0 none = some (.string (strB x.x)) := rfl
    obtain ⟨hps, hpl⟩ := perm_step hp htd
    by_cases hx : x.x = tn
    · have hb : ((strB x.x).toList == (strB tn).toList) = true := by rw [hx]; simp
      obtain ⟨g3, hg3⟩ : ∃ g3, g3 = g2.push (.cells [.int .i64 x.id] true 1) := ⟨_, rfl⟩
      have f3 : Fr g2 g3 [] := by rw [hg3]; exact Fr_push (Fr.refl _ _)
      have n3 : g3.n = g2.n + 1 := by rw [hg3]; rfl
      have r3 : g3.get g2.n = .cells [.int .i64 x.id] true 1 := by rw [hg3, VH.get_push_new]
      obtain ⟨w', g4, hap, ho4, f4, hid4⟩ := (hB2.fr f3 (fun _ _ => by simp)).append (bytes := 8) (ys := [.int .i64 x.id]) (k := 1) rfl (by omega)
      have hfi : fillC [.int .i64 0] [(0, 1, .int .i64 x.id)] = some [.int .i64 x.id] := rfl
      have hone : [Value.int .i64 x.id].all Value.oneCell' = true := rfl
      have hro : rowObj (.cells [.int .i64 x.id] true 1) 0 1 = some [.int .i64 x.id] := rfl
      simp (disch := first|omega|(simp only [np,ns];try omega)) [e15, ← hg1, q1, hj2, hlast', n1, s4_st, ← hg2, o2, l4, e2, hbs2, l1, hb, e4, hfi, hone, ← hg3, hro, r3, Option.bind_some, hap]
      have n4 := f4.n
      refine ⟨_, hpl, dn ++ [x], a ++ b, w', rfl, hps, ?_, ?_, by omega, ?_, fun z hz => ?_, by simp [upd_apply, e0], by simp [upd_apply, e1], by simp [upd_apply, e2], by simp [upd_apply], by simp [upd_apply, e15]⟩
      · rw [f4.get _ (by omega) (fun hz => by have := hid _ hz; omega), f3.get _ (by omega) (by simp), q2, hsn]; rfl
      · exact (F2.trans f3).trans' f4 (fun z hz => .inr (by have := hid z hz; omega))
      · rw [ofS_yes hx, intsV_append, List.length_append, ← hD]; exact ho4
      · rcases hid4 z hz with h5 | h5
        · exact hid z h5
        · omega
    · have hb : ((strB x.x).toList == (strB tn).toList) = false := by rw [strB_toList, strB_toList]; simpa using hx
      simp (disch := first|omega|(simp only [np,ns];try omega)) [e15, ← hg1, q1, hj2, hlast', n1, s4_st, ← hg2, o2, l4, e2, hbs2, l1, hb]
      exact ⟨_, hpl, dn ++ [x], a ++ b, .slice wa D wc, rfl, hps, by rw [q2, hsn]; rfl, F2, by omega, by rw [ofS_no hx, ← hD]; exact hB2, hid, by simp [upd_apply, e0], by simp [upd_apply, e1], by simp [upd_apply, e2], by simp [upd_apply, e4], by simp [upd_apply, e15]⟩
theorem of_ok {h : VH} {i : Nat} {l : List UInt8} : PCalls Try.prog f_ident_Table_Of [.pointer (some ⟨i, 0, none⟩), .string (strB l)] h (fun u h' => u = .func (.func 40) #[] #[.pointer (some ⟨h.n, 0, none⟩), .pointer (some ⟨h.n + 1, 0, none⟩)] ∧
    h' = (h.push (.cells [.pointer (some ⟨i, 0, none⟩)] true 1)).push (.cells [.string (strB l)] true 1)) := by
  refine PCalls_of_pw st_ident_Table_Of (by simp [n_ident_Table_Of]) ?_
  rw [b_ident_Table_Of]
  have h1 : ([Value.pointer (some ⟨i, 0, none⟩)]).all Value.oneCell' = true := rfl
  have h2 : ([Value.string (strB l)]).all Value.oneCell' = true := rfl
  simp (disch := first|omega|(simp only [np,ns];try omega)) [r_ident_Table_Of, B_ident_Table_Of, h1, h2]
end Go.Proofs.Ytaeegilpfoiagaa.Id
