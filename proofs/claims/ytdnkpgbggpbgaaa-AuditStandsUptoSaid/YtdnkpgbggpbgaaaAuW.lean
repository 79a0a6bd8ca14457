/- audit, part W: what was added is accepted, is read as it was, and goes on (AuditStands). -/
import Derived.Test.YtdnkpgbggpbgaaaAuV
import Derived.Test.YtdnkpgbggpbgaaaPmLc
set_option linter.unusedVariables false
set_option linter.unusedSimpArgs false
set_option maxRecDepth 100000
namespace Go.Proofs.Ytdnkpgbggpbgaaa.Au
open Go Go.RowKit Go.Proofs.Ytdnkpgbggpbgaaa.Pm Go.Proofs.Ytdnkpgbggpbgaaa.Fs Go.Proofs.Ytdnkpgbggpbgaaa.Wr Go.Proofs.Ytdnkpgbggpbgaaa.Sha


def StI (h g : VH) (ic jc : Nat) (al : Option Addr) (cl : Nat) (w : Value) (S : MS) : Prop :=
  Chain g ic jc S.n S.l S.subs ∧ OwnSl g 1 (.slice al S.log.length cl) (u8s S.log) S.log.length ∧ InsAt h g w S.ins ∧ Fr h g [] ∧ h.n ≤ jc ∧ jc < ic ∧ (∀ x ∈ idOf (.slice al S.log.length cl), ic < x) ∧ (∀ x ∈ idOf w, ic < x)
def StJ (h : VH) (va : Option Addr) (L vc bx ic jc : Nat) (es : List En) (k : Nat) (s : Slots) (g : VH) : Prop := ∃ (al : Option Addr) (cl : Nat) (w : Value) (S : MS),
  (s 0 = .slice va L vc ∧ s 3 = .pointer (some ⟨bx, 0, none⟩) ∧ s 5 = .pointer (some ⟨ic, 0, none⟩) ∧ s 6 = .slice al S.log.length cl ∧ s 7 = w ∧ s 8 = .int .i64 (k : Int)) ∧ StI h g ic jc al cl w S ∧ S = (es.take k).foldl stepM ms0 ∧ S.n ≤ k ∧ S.ins.length ≤ k ∧ S.log.length ≤ k * 1048586
theorem own_ne {g : VH} {e e' : Nat} {v v' : Value} {c c' : List Value} {n n' : Nat} (h1 : OwnSl g e v c n) (h2 : OwnSl g e' v' c' n') (hne : e ≠ e') : ∀ x ∈ idOf v, x ∉ idOf v' := own_disj h1 h2 hne
theorem InsAt.own {h g : VH} {v : Value} {xs : List En} (H : InsAt h g v xs) : ∃ c n, OwnSl g 4 v c n := by
  obtain ⟨rows, _, h2, _⟩ := H
  exact ⟨_, _, h2⟩

theorem isB_own {g : VH} {v : Value} {bs : List UInt8} (h : OwnSl g 1 v (u8s bs) bs.length) : IsBytes g v bs := OwnSl.bytes h
set_option maxHeartbeats 16000000 in
theorem stands_ok' (hc : ClonesM Try.prog f_maps_Clone_map_string_32_byte_string_32_byte) {h0 : VH} {v0 : Value} {es : List En} {mo : En} {mv : Value} (hv : IsEns h0 v0 es) (hes : ∀ e ∈ es, e.t.length ≤ 1048576 ∧ e.w.length ≤ 1048576 ∧ e.b.length ≤ 1048576) (hlen : es.length ≤ 1048576)
    (hmb : IsBytes h0 mv mo.b) (hmo : mo.t.length ≤ 1048576 ∧ mo.w.length ≤ 1048576 ∧ mo.b.length ≤ 1048576) :
    PCalls Try.prog f_law09_AuditStands [v0, enV mo mv] h0 (fun u _ => u = .bool true) := by
  refine PCalls_of_pw st_law09_AuditStands (by simp [n_law09_AuditStands]) ?_
  rw [b_law09_AuditStands]
  unfold B_law09_AuditStands
  obtain ⟨va, vc, rfl, hat⟩ := hv
  obtain ⟨L, hL⟩ : ∃ L, L = es.length := ⟨_, rfl⟩
  rw [← hL]
  obtain ⟨ma, mc, rfl⟩ := hmb.shape
  obtain ⟨mn, hmn⟩ : ∃ mn, mn = mo.b.length := ⟨_, rfl⟩
  rw [← hmn] at hmb ⊢
  have hcell : cellsL (enV mo (.slice ma mn mc)) = enL mo (.slice ma mn mc) := rfl
  have honem : (enL mo (.slice ma mn mc)).all Value.oneCell' = true := rfl
  obtain ⟨bx, hbx⟩ : ∃ bx, bx = h0.n := ⟨_, rfl⟩
  obtain ⟨h, hh⟩ : ∃ h, h = h0.push (.cells (enL mo (.slice ma mn mc)) true 1) := ⟨_, rfl⟩
  have F0 : Fr h0 h [] := by rw [hh]; exact Fr_push (Fr.refl _ _)
  have bxh : h.get bx = .cells (enL mo (.slice ma mn mc)) true 1 := by rw [hh, hbx, VH.get_push_new]
  have hn0 : h.n = h0.n + 1 := by rw [hh]; rfl
  have hmb1 := isB_fr F0 hmb
  simp (disch := first|omega|(simp only [np,ns];try omega)) [hcell, honem, ← hbx, ← hh]
  refine (new_ok h).mono ?_
  rintro u g0 ⟨rfl, K0, Fg0⟩
  obtain ⟨ic, hic⟩ : ∃ ic, ic = h.n + 1 := ⟨_, rfl⟩
  obtain ⟨jc, hjc⟩ : ∃ jc, jc = h.n := ⟨_, rfl⟩
  rw [← hic, ← hjc] at K0
  rw [← hic]
  simp (disch := first|omega|(simp only [np,ns];try omega)) []
  refine pw_loopN (StJ h va L vc bx ic jc es) (min L 40) ?_ ?_
  · refine ⟨none, 0, .slice none 0 0, ms0, ?_, ⟨K0, OwnSl.nil _ _, ⟨[], rfl, OwnSl.nil _ _, by simp⟩, Fg0, by omega, by omega, by simp [idOf], by simp [idOf]⟩, by simp, by simp [ms0], by simp [ms0], by simp [ms0]⟩
    simp [upd_apply, s0_apply, ms0]
  rintro k s g hk ⟨al, cl, w, S, ⟨z0, z3, z5, z6, z7, z8⟩, ⟨K, O, I, F, i1, i2, il, ii⟩, hS, hn, hin, hlg⟩
  have nF := F.n
  have Fh := F0.trans F
  by_cases hlt : k < L ∧ k < 40
  case pos =>
    obtain ⟨hkl, h40⟩ := hlt
    have hkI : (k : Int) < (L : Int) := by omega
    have h40I : (k : Int) < 40 := by omega
    have hkk : IntKind.i64.wrap ((k : Int) + 1) = ((k + 1 : Nat) : Int) := by rw [i64_small (by omega) (by omega)]; omega
    obtain ⟨vi, vo, rfl, hvi, hesz, hel⟩ := hat (by omega)
    obtain ⟨p, m, d, l1, l2, hb⟩ := hel k (by omega)
    obtain ⟨e, he⟩ : ∃ e, e = es[k]'(by omega) := ⟨_, rfl⟩
    rw [← he] at l1 hb
    obtain ⟨b1, b2, b3⟩ := hes e (by rw [he]; exact List.getElem_mem _)
    have hgv : g.get vi = h0.get vi := Fh.get vi hvi (by simp)
    have GS : Good S := by rw [hS]; exact Good.fold _ Good.zero
    simp (disch := first|omega|(simp only [np,ns];try omega)) [z0, z3, z5, z8, hkl, hkI, h40, h40I, hgv, hesz, l1]
    refine (given_ok (isB_fr Fh hb) (by omega)).mono ?_
    rintro u g1 ⟨ga, gn, gc, rfl, B1⟩
    have K1 := K.fr B1.fr
    simp (disch := first|omega|(simp only [np,ns];try omega)) [z5]
    refine (add_ok K1 GS.ls B1.is (by omega) (by omega) (by omega) (by omega)).mono ?_
    intro u g2 hA
    obtain ⟨a, am, ac, rfl, hbA, hida, K2, F2⟩ := add_out K1 hA
    clear hA
    have hstep : (es.take (k + 1)).foldl stepM ms0 = stepM S e := by
      rw [List.take_succ_eq_append_getElem (by omega), List.foldl_append, ← hS, he]; rfl
    obtain ⟨A, hA⟩ : ∃ A, A = addS S.n S.l S.subs e := ⟨_, rfl⟩
    have hAw : A.w = wrongS e := by rw [hA]; exact addS_w _ _ _ _
    have hAf : A.fr.length ≤ 1048586 := by rw [hA]; exact fr_le
    rw [← hA] at hbA K2 ⊢
    have n1 := B1.fr.n
    have n2 := F2.n
    have icl := K2.lti
    have F02 : Fr h g2 [] := (F.trans B1.fr).trans' F2 (fun y hy => .inr (by simp at hy; omega))
    have O2 := (O.fr B1.fr (fun _ _ => by simp)).fr F2 (fun x hx hx' => by have := il x hx; simp at hx'; omega)
    have I2 := (I.fr B1.fr (fun _ _ => by simp)).fr F2 (fun x hx hx' => by have := ii x hx; simp at hx'; omega)
    have hAn : A.n ≤ S.n + 1 := by
      rw [hA]
      unfold addS
      split
      · simp
      · exact Nat.le_refl _
    by_cases hw : wrongS e = 0
    case neg =>
      have hwb : (A.w == 0) = false := by rw [hAw]; simpa using hw
      have hst : stepM S e = S := stepM_bad hw
      have hAs : A = ⟨[], wrongS e, S.n, S.l, S.subs⟩ := by rw [hA]; unfold addS; rw [if_pos hw]
      rw [hAs] at K2
      simp (disch := first|omega|(simp only [np,ns];try omega)) [hwb, z8, hkk]
      refine ⟨Nat.lt_min.2 ⟨hkl, h40⟩, al, cl, w, S, ?_, ⟨K2, O2, I2, F02, i1, i2, il, ii⟩, by rw [hstep, hst], by omega, by omega, Nat.le_trans hlg (Nat.mul_le_mul_right _ (Nat.le_succ k))⟩
      simp [upd_apply, z0, z3, z5, z6, z7]
    have hwb : (A.w == 0) = true := by rw [hAw]; simpa using hw
    have hst : stepM S e = ⟨S.log ++ A.fr, A.n, A.l, A.subs, S.ins ++ [e]⟩ := by simp [stepM, hw, ← hA]
    obtain ⟨a', c', hsh⟩ := hbA.shapeN
    injection hsh with e1 e2 e3
    subst e1
    subst e3
    subst e2
    have hls := hbA.src
    obtain ⟨w3, g3, hap3, O3, F3, id3⟩ := O2.append (bytes := 1) (ys := u8s A.fr) (k := A.fr.length) (by simp) (by omega)
    obtain ⟨p3, c3, rfl⟩ := O3.shapeN
    have n3 := F3.n
    have il3 : ∀ x ∈ idOf (.slice p3 (S.log.length + A.fr.length) c3), ic < x := fun x hx => (id3 x hx).elim (il x) (fun h => by omega)
    have F03 : Fr h g3 [] := F02.trans' F3 (fun y hy => .inr (by have := il y hy; omega))
    have hgv3 : g3.get vi = h0.get vi := (F0.trans F03).get vi hvi (by simp)
    have hfi : fillC [.string ⟨#[]⟩, .int .i64 0, .string ⟨#[]⟩, .slice none 0 0] [(0, 4, enV e (.slice p m d))] = some (enL e (.slice p m d)) := rfl
    have hone : (enL e (.slice p m d)).all Value.oneCell' = true := rfl
    have hro : rowObj (.cells (enL e (.slice p m d)) true 4) 0 4 = some (enL e (.slice p m d)) := rfl
    obtain ⟨g4, hg4⟩ : ∃ g4, g4 = g3.push (.cells (enL e (.slice p m d)) true 4) := ⟨_, rfl⟩
    have F4 : Fr g3 g4 [] := by rw [hg4]; exact Fr_push (Fr.refl _ _)
    have q4 : g4.get g3.n = .cells (enL e (.slice p m d)) true 4 := by rw [hg4, VH.get_push_new]
    have I3 : InsAt h g3 w S.ins := I2.fr F3 (fun x hx hx' => by
      obtain ⟨cc, nn, oo⟩ := I2.own
      exact own_disj O2 oo (by decide) x hx' hx)
    have I4 := I3.fr F4 (fun _ _ => by simp)
    obtain ⟨w5, g5, hap5, I5, F5, id5⟩ := I4.app (isB_fr F0 hb) (by omega)
    obtain ⟨wa, wc, hww⟩ := I.shapeN
    obtain ⟨wb, wd, hw5⟩ := I5.shapeN
    have n4 := F4.n
    have n5 := F5.n
    have hO5 : OwnSl g5 1 (.slice p3 (S.log.length + A.fr.length) c3) (u8s S.log ++ u8s A.fr) (S.log.length + A.fr.length) := (O3.fr F4 (fun _ _ => by simp)).fr F5 (fun x hx hx' => by
      obtain ⟨cc, nn, oo⟩ := I4.own
      exact own_disj (O3.fr F4 (fun _ _ => by simp)) oo (by decide) x hx hx')
    have K5 : Chain g5 ic jc A.n A.l A.subs := ((K2.frX F3 (fun hx => by have := il _ hx; omega) (fun hx => by have := il _ hx; omega)).fr F4).frX F5 (fun hx => by have := ii _ hx; omega) (fun hx => by have := ii _ hx; omega)
    have F05 : Fr h g5 [] := (F03.trans F4).trans' F5 (fun y hy => .inr (by have := ii y hy; omega))
    have ii5 : ∀ x ∈ idOf w5, ic < x := fun x hx => (id5 x hx).elim (ii x) (fun h => by omega)
    rw [hww] at hap5
    simp (disch := first|omega|(simp only [np,ns];try omega)) [hwb, z0, z3, z5, z6, z7, hww, z8, hls, hap3, hkl, hkI, hgv3, hesz, l1, hfi, hone, ← hg4, hro, q4, Option.bind_some, hap5, hkk]
    refine ⟨Nat.lt_min.2 ⟨hkl, h40⟩, p3, c3, w5, stepM S e, ?_, ?_, by rw [hstep], ?_, ?_, ?_⟩
    · rw [hst]; simp [upd_apply, z0, z3, z5]
    · rw [hst]
      refine ⟨K5, ?_, I5, F05, i1, i2, ?_, ii5⟩
      · rw [u8s_append, List.length_append]; exact hO5
      · rw [List.length_append]; exact il3
    · rw [hst]; exact Nat.le_trans hAn (Nat.succ_le_succ hn)
    · rw [hst]; simp; exact hin
    · rw [hst, List.length_append, Nat.succ_mul]; omega
  have hSm : S = madeS es := by
    rw [hS]
    unfold madeS
    congr 1
    by_cases hkL : k < L
    · rw [show k = 40 by omega]
    · rw [List.take_of_length_le (by omega), List.take_of_length_le (by omega)]
  have GS : Good S := by rw [hSm]; exact made_good es
  have ls1 : S.log.length ≤ 100000000 := by rw [hSm]; exact made_log es
  have ss1 : S.ins.length ≤ 40 := by rw [hSm]; exact made_small es
  clear hS hSm hat hes hlen
  generalize hKK : kBlock 0 _ = KK
  have tail : ∀ s2 : Slots, s2 3 = .pointer (some ⟨bx, 0, none⟩) → s2 5 = .pointer (some ⟨ic, 0, none⟩) → s2 6 = .slice al S.log.length cl → s2 7 = w → KK (.exit 0) s2 g := by
    intro s2 t3 t5 t6 t7
    rw [← hKK]
    have lx := OwnSl.bytes (bs := S.log) O
    have nS : S.n ≤ 40 := by rw [GS.n]; exact ss1
    have wS := GS.walkS
    have hie := GS.items_e
    obtain ⟨LS, hLS⟩ : ∃ x, x = S.log.length := ⟨_, rfl⟩
    have hh1 := headS_len S
    have hsd : ∀ X : MS, shaS (be8 X.n ++ X.l) = headS X := fun _ => rfl
    have hagg : ∀ X : List UInt8, digV X = .agg (u8s X).toArray := fun _ => rfl
    obtain ⟨A, hA⟩ : ∃ A, A = headS S := ⟨_, rfl⟩
    have hver : verifyS S.log A = .tuple #[.int .i64 0, .int .i64 0] := by
      unfold verifyS
      rw [wS]
      simp only
      rw [if_neg (by simp), if_neg (by rw [hsd, ← hA]; simp)]
    rw [← hA] at hh1
    have fA := fits32 hh1
    have cAA := cellsB_u8s A A rfl
    rw [beq_self_eq_true] at cAA
    have hb1 : ((LS : Int) != (LS : Int)) = false := by simp
    obtain ⟨wa, wc, hw⟩ := I.shapeN
    obtain ⟨NI, hNI⟩ : ∃ x, x = S.ins.length := ⟨_, rfl⟩
    have Hw := I.same F
    rw [hw] at Hw t7
    rw [← hLS] at lx t6
    rw [← hNI] at Hw t7
    have hdS : decide (S.ins = S.ins) = true := decide_eq_true rfl
    have icl := K.lti
    have bxl : bx < h.n := by omega
    simp (disch := first|omega|(simp only [np,ns];try omega)) [t5, t6]
    refine (head_ok K).mono ?_
    rintro u g1 ⟨rfl, G1⟩
    simp (disch := first|omega|(simp only [np,ns];try omega)) [hsd, ← hA]
    refine (verify_ok (isB_fr G1 lx) (by omega) hh1).mono ?_
    rintro u g2 ⟨rfl, G2⟩
    have G02 := G1.trans G2
    simp (disch := first|omega|(simp only [np,ns];try omega)) [hver, t6]
    refine (entries_ok (isB_fr G02 lx) (by omega) (by rw [wS])).mono ?_
    rintro u g3 ⟨G3, x, rfl, Hx⟩
    rw [hie] at Hx
    have G03 := G02.trans G3
    simp (disch := first|omega|(simp only [np,ns];try omega)) [t6]
    refine (resume_ok (isB_fr G03 lx) (by omega)).mono ?_
    rintro u g4 ⟨id, jd, rfl, Kd, G4, hs4, hid, hjd, _⟩
    rw [wS] at Kd ⊢
    simp only at Kd ⊢
    rw [← hLS]
    have G04 := G03.trans G4
    obtain ⟨xa, xc, hx⟩ := Hx.shape
    rw [← hNI] at hx
    subst hx
    simp (disch := first|omega|(simp only [np,ns];try omega)) [t6, t7]
    refine (taken_ok (Hx.fr G4) (by omega)).mono ?_
    rintro u g5 ⟨G5, Hy⟩
    obtain ⟨ya, yc, rfl⟩ := Hy.shape
    rw [← hNI] at Hy ⊢
    have G05 := G04.trans G5
    simp (disch := first|omega|(simp only [np,ns];try omega)) [t7]
    refine (same_ok Hy (Hw.fr G05) ⟨by omega, by omega⟩).mono ?_
    rintro u g6 ⟨rfl, rfl⟩
    have Kd6 := Kd.fr G5
    simp (disch := first|omega|(simp only [np,ns];try omega)) [hdS, hb1, t5, t6]
    refine (head_ok Kd6).mono ?_
    rintro u g7 ⟨rfl, G7⟩
    have G07 := G05.trans G7
    simp (disch := first|omega|(simp only [np,ns];try omega)) [hsd, ← hA, t5]
    refine (head_ok (K.fr G07)).mono ?_
    rintro u g8 ⟨rfl, G8⟩
    have G08 := G07.trans G8
    simp (disch := first|omega|(simp only [np,ns];try omega)) [hsd, ← hA, hagg, fA, cAA, t5]
    refine (copy_ok hc (K.fr G08)).mono ?_
    rintro u g9 ⟨iw, jw, rfl, Kw, G9, hiw, hjw⟩
    have G09 := G08.trans G9
    simp (disch := first|omega|(simp only [np,ns];try omega)) [t5]
    refine (head_ok Kw).mono ?_
    rintro u g10 ⟨rfl, G10⟩
    have G010 := G09.trans G10
    simp (disch := first|omega|(simp only [np,ns];try omega)) [hsd, ← hA, t5]
    refine (head_ok (K.fr G010)).mono ?_
    rintro u g11 ⟨rfl, G11⟩
    have G011 := G010.trans G11
    simp (disch := first|omega|(simp only [np,ns];try omega)) [hsd, ← hA, hagg, fA, cAA, t5]
    refine (len_ok (Kw.fr (G10.trans G11))).mono ?_
    rintro u g12 ⟨rfl, rfl⟩
    simp (disch := first|omega|(simp only [np,ns];try omega)) [t5]
    refine (len_ok (K.fr G011)).mono ?_
    rintro u g12 ⟨rfl, rfl⟩
    have hb2 : ((S.n : Int) != (S.n : Int)) = false := by simp
    simp (disch := first|omega|(simp only [np,ns];try omega)) [hb2, t5]
    refine (head_ok (K.fr G011)).mono ?_
    rintro u g13 ⟨rfl, G13⟩
    have G013 := G011.trans G13
    have e1 := G1.n
    have e2 := G2.n
    have e3 := G3.n
    have e4 := G4.n
    have e5 := G5.n
    have e7 := G7.n
    have e8 := G8.n
    have e9 := G9.n
    have e10 := G10.n
    have e11 := G11.n
    have e13 := G13.n
    have kd1 := Kd.lti
    have kd2 := Kd.ltj
    have kw1 := Kw.lti
    have kw2 := Kw.ltj
    have kj := K.ltj
    obtain ⟨g14, hg14⟩ : ∃ g14, g14 = (g13.push (.cells [.int .u8 0, .int .u8 0, .int .u8 0, .int .u8 0, .int .u8 0, .int .u8 0, .int .u8 0, .int .u8 0, .int .u8 0, .int .u8 0, .int .u8 0, .int .u8 0, .int .u8 0, .int .u8 0, .int .u8 0, .int .u8 0, .int .u8 0, .int .u8 0, .int .u8 0, .int .u8 0, .int .u8 0, .int .u8 0, .int .u8 0, .int .u8 0, .int .u8 0, .int .u8 0, .int .u8 0, .int .u8 0, .int .u8 0, .int .u8 0, .int .u8 0, .int .u8 0] true 1)).set g13.n (.cells (u8s A) true 1) := ⟨_, rfl⟩
    have G14 : Fr g13 g14 [] := by rw [hg14]; exact Fr_set (Fr_push (Fr.refl _ _)) (Nat.le_refl _)
    have n14 : g14.n = g13.n + 1 := by rw [hg14]; rfl
    have o14 : g14.get g13.n = .cells (u8s A) true 1 := by rw [hg14, VH.get_set_same]
    have hds : storeObj (.cells [.int .u8 0, .int .u8 0, .int .u8 0, .int .u8 0, .int .u8 0, .int .u8 0, .int .u8 0, .int .u8 0, .int .u8 0, .int .u8 0, .int .u8 0, .int .u8 0, .int .u8 0, .int .u8 0, .int .u8 0, .int .u8 0, .int .u8 0, .int .u8 0, .int .u8 0, .int .u8 0, .int .u8 0, .int .u8 0, .int .u8 0, .int .u8 0, .int .u8 0, .int .u8 0, .int .u8 0, .int .u8 0, .int .u8 0, .int .u8 0, .int .u8 0, .int .u8 0] true 1) 0 32 (digV A) = some (.cells (u8s A) true 1) := dig_store hh1 rfl
    have hdl : loadObj (.cells (u8s A) true 1) 0 (some 32) = some (digV A) := dig_load hh1
    have G014 := G013.trans G14
    have lm : ∀ {ow : Bool} {z : Nat}, loadObj (.cells (enL mo (.slice ma mn mc)) ow z) 0 (some 4) = some (enV mo (.slice ma mn mc)) := rfl
    have bg : g.get bx = .cells (enL mo (.slice ma mn mc)) true 1 := (F.get bx bxl (by simp)).trans bxh
    have bg14 := (G014.get bx (by omega) (by simp)).trans bg
    have mB := isB_fr F hmb1
    simp (disch := first|omega|(simp only [np,ns];try omega)) [hsd, ← hA, hds, ← hg14, t3, bg14, lm, t5]
    refine (given_ok (isB_fr G014 mB) (by omega)).mono ?_
    rintro u g15 ⟨ma1, mn1, mc1, rfl, B15⟩
    have G015 := G014.trans B15.fr
    have e15 := B15.fr.n
    have Kc15 := K.fr G015
    simp (disch := first|omega|(simp only [np,ns];try omega)) [t5]
    refine (add_ok Kc15 GS.ls B15.is (by omega) (by omega) (by omega) (by omega)).mono ?_
    intro u g16 hA16
    obtain ⟨a1, m1, c1, rfl, hbs1, hid1, Kc16, F16⟩ := add_out Kc15 hA16
    clear hA16
    have e16 := F16.n
    obtain ⟨Q, hQ⟩ : ∃ Q, Q = addS S.n S.l S.subs mo := ⟨_, rfl⟩
    rw [← hQ] at hbs1 Kc16 ⊢
    have Gd15 := (G5.trans (G7.trans (G8.trans (G9.trans (G10.trans (G11.trans (G13.trans (G14.trans B15.fr))))))))
    have Gw15 := (G10.trans (G11.trans (G13.trans (G14.trans B15.fr))))
    have Kd16 := (Kd.fr Gd15).frX F16 (by simp; omega) (by simp; omega)
    have Kw16 := (Kw.fr Gw15).frX F16 (by simp; omega) (by simp; omega)
    have bg16 := (F16.get bx (by omega) (by simp; omega)).trans ((B15.fr.get bx (by omega) (by simp)).trans bg14)
    have o16 := (F16.get g13.n (by omega) (by simp; omega)).trans ((B15.fr.get g13.n (by omega) (by simp)).trans o14)
    have mB16 : IsBytes g16 (.slice ma mn mc) mo.b := (isB_fr G015 mB).fr F16 (fun x hx hx' => by
      have := isB_lt hmb x hx
      simp at hx'; omega)
    simp (disch := first|omega|(simp only [np,ns];try omega)) [t3, bg16, lm]
    refine (given_ok mB16 (by omega)).mono ?_
    rintro u g17 ⟨ma2, mn2, mc2, rfl, B17⟩
    have e17 := B17.fr.n
    have Kd17 := Kd16.fr B17.fr
    simp (disch := first|omega|(simp only [np,ns];try omega)) []
    refine (add_ok Kd17 GS.ls B17.is (by omega) (by omega) (by omega) (by omega)).mono ?_
    intro u g18 hA18
    obtain ⟨a2, m2, c2, rfl, hbs2, hid2, Kd18, F18⟩ := add_out Kd17 hA18
    clear hA18
    have e18 := F18.n
    rw [← hQ] at hbs2 Kd18 ⊢
    have Kc18 := (Kc16.fr B17.fr).frX F18 (by simp; omega) (by simp; omega)
    have Kw18 := (Kw16.fr B17.fr).frX F18 (by simp; omega) (by simp; omega)
    have bg18 := (F18.get bx (by omega) (by simp; omega)).trans ((B17.fr.get bx (by omega) (by simp)).trans bg16)
    have o18 := (F18.get g13.n (by omega) (by simp; omega)).trans ((B17.fr.get g13.n (by omega) (by simp)).trans o16)
    have mB18 : IsBytes g18 (.slice ma mn mc) mo.b := (isB_fr B17.fr mB16).fr F18 (fun x hx hx' => by
      have := isB_lt hmb x hx
      simp at hx'; omega)
    have hbs1' := (hbs1.fr B17.fr (fun _ _ => by simp)).fr F18 (fun x hx hx' => by have := hid1 x hx; simp at hx'; omega)
    simp (disch := first|omega|(simp only [np,ns];try omega)) [o18, hdl]
    refine (head_ok Kw18).mono ?_
    rintro u g19 ⟨rfl, G19⟩
    have e19 := G19.n
    have o19 := (G19.get g13.n (by omega) (by simp)).trans o18
    have bg19 := (G19.get bx (by omega) (by simp)).trans bg18
    simp (disch := first|omega|(simp only [np,ns];try omega)) [hsd, ← hA, o19, hdl, hagg, fA, cAA, t3, bg19, lm]
    refine (given_ok (isB_fr G19 mB18) (by omega)).mono ?_
    rintro u g20 ⟨ma3, mn3, mc3, rfl, B20⟩
    have e20 := B20.fr.n
    have Kw20 := (Kw18.fr G19).fr B20.fr
    simp (disch := first|omega|(simp only [np,ns];try omega)) []
    refine (add_ok Kw20 GS.ls B20.is (by omega) (by omega) (by omega) (by omega)).mono ?_
    intro u g21 hA21
    obtain ⟨a3, m3, c3, rfl, hbs3, hid3, Kw21, F21⟩ := add_out Kw20 hA21
    clear hA21
    rw [← hQ] at hbs3 Kw21 ⊢
    have G20 := G19.trans B20.fr
    have Kc21 := (Kc18.fr G20).frX F21 (by simp; omega) (by simp; omega)
    have Kd21 := (Kd18.fr G20).frX F21 (by simp; omega) (by simp; omega)
    have s1 := (hbs1'.fr G20 (fun _ _ => by simp)).fr F21 (fun x hx hx' => by have := hid1 x hx; simp at hx'; omega)
    have s2' := (hbs2.fr G20 (fun _ _ => by simp)).fr F21 (fun x hx hx' => by have := hid2 x hx; simp at hx'; omega)
    have q1 := ofB_eq (isB_own s1)
    have q2 := ofB_eq (isB_own s2')
    have q3 := ofB_eq (isB_own hbs3)
    obtain ⟨fr, hfr⟩ : ∃ fr, fr = Q.fr := ⟨_, rfl⟩
    rw [← hfr] at q1 q2 q3
    have hff : (fr == fr) = true := by simp
    obtain ⟨B, hB⟩ : ∃ B, B = shaS (be8 Q.n ++ Q.l) := ⟨_, rfl⟩
    have hBl : B.length = 32 := by rw [hB]; exact shaS_len _
    have fB := fits32 hBl
    have cBB := cellsB_u8s B B rfl
    rw [beq_self_eq_true] at cBB
    obtain ⟨qw, hqw⟩ : ∃ qw, qw = Q.w := ⟨_, rfl⟩
    have hqq : (qw == qw) = true := by simp
    rw [← hqw]
    simp (disch := first|omega|(simp only [np,ns];try omega)) [q1, q2, q3, strB_toList, hff, hqq]
    refine (head_ok Kd21).mono ?_
    rintro u g22 ⟨rfl, G22⟩
    simp (disch := first|omega|(simp only [np,ns];try omega)) [← hB, t5]
    refine (head_ok (Kc21.fr G22)).mono ?_
    rintro u g23 ⟨rfl, G23⟩
    have G2223 := G22.trans G23
    have q1' := ofB_eq (isB_fr G2223 (isB_own s1))
    have q3' := ofB_eq (isB_fr G2223 (isB_own hbs3))
    rw [← hfr] at q1' q3'
    simp (disch := first|omega|(simp only [np,ns];try omega)) [← hB, hagg, fB, cBB, q1', q3', strB_toList, hff, hqq]
    refine (head_ok (Kw21.fr G2223)).mono ?_
    rintro u g24 ⟨rfl, G24⟩
    simp (disch := first|omega|(simp only [np,ns];try omega)) [← hB, t5]
    refine (head_ok (Kc21.fr (G2223.trans G24))).mono ?_
    rintro u g25 ⟨rfl, G25⟩
    simp (disch := first|omega|(simp only [np,ns];try omega)) [← hB, hagg, fB, cBB]
    refine (known_ok _).mono ?_
    rintro u g26 ⟨rfl, rfl⟩
    simp (disch := first|omega|(simp only [np,ns];try omega)) [r_law09_AuditStands]
  by_cases hkl : k < L
  · have h40 : ¬ k < 40 := fun h => hlt ⟨hkl, h⟩
    have hkI : (k : Int) < (L : Int) := by omega
    have h40I : ¬ (k : Int) < 40 := by omega
    simp (disch := first|omega|(simp only [np,ns];try omega)) [z0, z3, z5, z6, z7, z8, hkl, hkI, h40, h40I]
    exact tail _ (by simp [upd_apply, z3]) (by simp [upd_apply, z5]) (by simp [upd_apply, z6]) (by simp [upd_apply, z7])
  · have hkI : ¬ (k : Int) < (L : Int) := by omega
    simp (disch := first|omega|(simp only [np,ns];try omega)) [z0, z3, z5, z6, z7, z8, hkl, hkI]
    exact tail _ (by simp [upd_apply, z3]) (by simp [upd_apply, z5]) (by simp [upd_apply, z6]) (by simp [upd_apply, z7])
theorem stands_law {h : VH} {us : List Value} {k : Nat} (H : ShA h [.sl 4 enT, enT] us k) (hk : k ≤ 1048576) :
    PCalls Try.prog f_law09_AuditStands us h (fun u h' => u = .bool true ∧ h' = h) := by
  obtain ⟨v, r, k1, k2, rfl, h1, ⟨v2, r2, k3, k4, rfl, ⟨cs, rfl, hcs⟩, ⟨rfl, _⟩, e2⟩, e1⟩ := H
  obtain ⟨es, a1, a2, a3⟩ := Sh.ens h1
  obtain ⟨e, w, rfl, hb, hl, _⟩ := Sh.en hcs
  exact ((stands_ok' clonesM a1.ro (fun e he => by have := a2 e he; omega) (by omega) hb.ro ⟨by omega, by omega, by omega⟩).mono fun u _ e => by subst e; exact ⟨rfl, rfl⟩).drop
end Go.Proofs.Ytdnkpgbggpbgaaa.Au
