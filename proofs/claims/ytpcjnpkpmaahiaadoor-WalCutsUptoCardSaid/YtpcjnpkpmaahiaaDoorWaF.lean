/- wal, part F: good frames. -/
import Derived.Test.YtpcjnpkpmaahiaaDoorWaE
set_option linter.unusedVariables false
set_option linter.unusedSimpArgs false
set_option maxRecDepth 100000
namespace Go.Proofs.YtpcjnpkpmaahiaaDoor.Wa
open Go Go.RowKit Go.Proofs.YtpcjnpkpmaahiaaDoor.Pm Go.Proofs.YtpcjnpkpmaahiaaDoor.Fs
attribute [-simp] BitVec.toNat_or BitVec.toNat_xor BitVec.toNat_add BitVec.toNat_and BitVec.toNat_not BitVec.toNat_shiftLeft BitVec.toNat_ushiftRight


theorem rowN_len (x : Nm) : (rowN x).length = 2 := rfl
theorem flat_append (l : List Nm) (x : Nm) : (l ++ [x]).flatMap rowN = l.flatMap rowN ++ rowN x := by simp
/-- records' bytes, each in an owned row of its own that was laid behind h. -/
structure Rec (h g : VH) (l : List Nm) : Prop where
  byt : ∀ x ∈ l, OwnSl g 1 x.2 (u8s x.1.2) x.1.2.length
  new : ∀ x ∈ l, ∀ i ∈ idOf x.2, h.n ≤ i
  sep : l.Pairwise fun x y => ∀ i ∈ idOf x.2, i ∉ idOf y.2
theorem Rec.fr {h g g' : VH} {X : List Nat} {l : List Nm} (k : Rec h g l) (hf : Fr g g' X) (hx : ∀ x ∈ l, ∀ i ∈ idOf x.2, i ∉ X) : Rec h g' l :=
  ⟨fun x hxl => (k.byt x hxl).fr hf (hx x hxl), k.new, k.sep⟩
theorem Rec.fr0 {h g g' : VH} {l : List Nm} (k : Rec h g l) (hf : Fr g g' []) : Rec h g' l := k.fr hf (fun _ _ _ _ => by simp)
theorem Rec.lt {h g : VH} {l : List Nm} (k : Rec h g l) : ∀ x ∈ l, ∀ i ∈ idOf x.2, i < g.n := fun x hx => (k.byt x hx).lt
theorem Rec.add {h g : VH} {l : List Nm} (k : Rec h g l) {x : Nm} (hb : OwnSl g 1 x.2 (u8s x.1.2) x.1.2.length) (hn : ∀ i ∈ idOf x.2, h.n ≤ i) (hs : ∀ y ∈ l, ∀ i ∈ idOf y.2, i ∉ idOf x.2) : Rec h g (l ++ [x]) := by
  refine ⟨fun y hy => ?_, fun y hy => ?_, ?_⟩
  · rcases List.mem_append.1 hy with hy | hy
    · exact k.byt y hy
    · rw [List.mem_singleton.1 hy]; exact hb
  · rcases List.mem_append.1 hy with hy | hy
    · exact k.new y hy
    · rw [List.mem_singleton.1 hy]; exact hn
  · rw [List.pairwise_append]
    exact ⟨k.sep, List.pairwise_singleton _ _, fun y hy z hz => by rw [List.mem_singleton.1 hz]; exact hs y hy⟩
structure NumsO (h g : VH) (lv : Value) (l : List Nm) : Prop where
  own : OwnSl g 2 lv (l.flatMap rowN) l.length
  rec_ : Rec h g l
  fr : Fr h g []
  ids : ∀ i ∈ idOf lv, h.n ≤ i
  dis : ∀ x ∈ l, ∀ i ∈ idOf x.2, i ∉ idOf lv
theorem NumsO.nil (h : VH) : NumsO h h (.slice none 0 0) [] := ⟨OwnSl.nil _ _, ⟨by simp, by simp, List.Pairwise.nil⟩, Fr.refl _ _, by simp [idOf], by simp⟩
theorem NumsO.fr0 {h g g' : VH} {lv : Value} {l : List Nm} (k : NumsO h g lv l) (hf : Fr g g' []) : NumsO h g' lv l :=
  ⟨k.own.fr hf (fun _ _ => by simp), k.rec_.fr0 hf, k.fr.trans hf, k.ids, k.dis⟩
/-- a record more. -/
theorem NumsO.add {h g : VH} {lv : Value} {l : List Nm} (k : NumsO h g lv l) {x : Nm} (hb : OwnSl g 1 x.2 (u8s x.1.2) x.1.2.length) (hn : ∀ i ∈ idOf x.2, h.n ≤ i) (hs : ∀ y ∈ l, ∀ i ∈ idOf y.2, i ∉ idOf x.2) (hlv : ∀ i ∈ idOf x.2, i ∉ idOf lv) (hl : l.length ≤ 1000000000) :
    ∃ lv' g', appendV g 2 32 lv (rowN x) 1 = some (lv', g') ∧ NumsO h g' lv' (l ++ [x]) ∧ g.n ≤ g'.n := by
  obtain ⟨lv', g', hap, ho, hf, hid⟩ := k.own.append (bytes := 32) (ys := rowN x) (k := 1) rfl (by omega)
  refine ⟨lv', g', hap, ⟨?_, ?_, ?_, ?_, ?_⟩, hf.n⟩
  · rw [flat_append, List.length_append]; exact ho
  · have hb' := hb.fr hf hlv
    exact (k.rec_.fr hf (fun y hy i hi => k.dis y hy i hi)).add hb' hn hs
  · exact k.fr.trans' hf (fun y hy => .inr (k.ids y hy))
  · intro i hi
    rcases hid i hi with h1 | h1
    · exact k.ids i h1
    · have := k.fr.n; omega
  · intro y hy i hi hiv
    rcases hid i hiv with h1 | h1
    · rcases List.mem_append.1 hy with hy | hy
      · exact k.dis y hy i hi h1
      · rw [List.mem_singleton.1 hy] at hi; exact hlv i hi h1
    · have : i < g.n := by
        rcases List.mem_append.1 hy with hy | hy
        · exact k.rec_.lt y hy i hi
        · rw [List.mem_singleton.1 hy] at hi; exact hb.lt i hi
      omega
def lastO (l : List Nm) : Option Nat := (l.getLast?).map (·.1.1)
def GoodP (h : VH) (bs : List UInt8) (u : Value) (h' : VH) : Prop := ∃ lv l, u = .tuple #[lv, .int .i64 ((goodS bs).2 : Int)] ∧ (∃ a k c, lv = .slice a k c) ∧ l.map (·.1) = (goodS bs).1 ∧ NumsO h h' lv l
def GdJ (h : VH) (v : Value) (bs : List UInt8) (n : Nat) (s : Slots) (g : VH) : Prop := ∃ lv l A, NumsO h g lv l ∧ l.length = n ∧ n ≤ A ∧ A ≤ bs.length ∧
  goodS bs = (l.map (·.1) ++ (goodR (bs.length + 1 - n) (lastO l) (bs.drop A)).1, A + (goodR (bs.length + 1 - n) (lastO l) (bs.drop A)).2) ∧ (∀ x ∈ l, x.1.1 < 18446744073709551616) ∧ s 0 = v ∧ s 4 = lv ∧ s 5 = .int .i64 (A : Int)
set_option maxHeartbeats 4000000 in
theorem good_ok {h : VH} {v : Value} {bs : List UInt8} (hb : IsBytes h v bs) (hl : bs.length ≤ 100000000) : PCalls Tryd.prog f_wal_good [v] h (GoodP h bs) := by
  refine PCalls_of_pw st_wal_good (by simp [n_wal_good]) ?_
  rw [b_wal_good]
  obtain ⟨L, hL⟩ : ∃ L, L = bs.length := ⟨_, rfl⟩
  obtain ⟨va, vc, hv⟩ := hb.shape
  rw [← hL] at hv
  unfold B_wal_good
  generalize hTL : PC.seq (PC.ops (gM 39 4 :: _)) _ = TL
  simp (disch := first|omega|(simp only [np,ns];try omega)) []
  refine pw_loopN (GdJ h v bs) L ?_ ?_
  · refine ⟨.slice none 0 0, [], 0, NumsO.nil h, rfl, Nat.le_refl _, Nat.zero_le _, ?_, by simp, by simp [upd_apply, s0_apply], by simp [upd_apply, s0_apply], by simp [upd_apply, s0_apply]⟩
    simp [goodS, lastO]
  rintro n s g hn ⟨lv, l, A, K, hln, hnA, hAL, hgs, hq, e0, e4, e5⟩
  rw [hv] at e0
  rw [← hL] at hAL
  obtain ⟨la, lc, hlv⟩ := K.own.shapeN
  rw [hln] at hlv
  rw [hlv] at e4
  have done : goodR (bs.length + 1 - n) (lastO l) (bs.drop A) = ([], 0) → ∀ g', Fr g g' [] → GoodP h bs (.tuple #[.slice la n lc, .int .i64 (A : Int)]) g' := by
    intro hz g' hf
    refine ⟨.slice la n lc, l, by rw [hgs, hz]; simp, ⟨_, _, _, rfl⟩, by rw [hgs, hz]; simp, ?_⟩
    rw [← hlv]
    exact K.fr0 hf
  by_cases hlt : A < L
  case neg =>
    have hltI : ¬ (A : Int) < (L : Int) := by omega
    have hz : goodR (bs.length + 1 - n) (lastO l) (bs.drop A) = ([], 0) := by
      rw [List.drop_eq_nil_of_le (by omega)]
      cases (bs.length + 1 - n) with
      | zero => rfl
      | succ f => simp [goodR, cut_nil, badC]
    simp (disch := first|omega|(simp only [np,ns];try omega)) [r_wal_good, e0, e4, e5, hlt, hltI]
    exact done hz g (Fr.refl _ _)
  have hltI : (A : Int) < (L : Int) := by omega
  have hbg := hb.fr K.fr (fun _ _ => by simp)
  obtain ⟨i, o, c, hi, hcL, hvs, hat⟩ := nil_at hbg (by omega)
  rw [← hL] at hcL hvs
  rw [hv] at hvs
  injection hvs with hva _ hvc
  subst hva
  subst hvc
  have hez := hat.esz
  obtain ⟨M, hM⟩ : ∃ M, M = L - A := ⟨_, rfl⟩
  have hAv : A ≤ vc := by omega
  have hsub : IsBytes g (.slice (some ⟨i, o + A, none⟩) M (vc - A)) (bs.drop A) := by
    have := isB_sub (a := A) (n := M) (c := vc - A) hi hat (by omega) (by omega)
    rwa [List.take_of_length_le (by rw [List.length_drop]; omega)] at this
  simp (disch := first|omega|(simp only [np,ns];try omega)) [e0, e5, hlt, hltI, hez, hAL, ← hM]
  refine (cut_ok hsub (by rw [List.length_drop]; omega)).mono ?_
  rintro u g1 ⟨w, rfl, ⟨wa, wk', wc, hw⟩, B1⟩
  obtain ⟨C, hC⟩ : ∃ C, C = cutS (bs.drop A) := ⟨_, rfl⟩
  have hspec := cut_spec (bs.drop A)
  rw [← hC] at hspec B1 ⊢
  obtain ⟨q, b, m⟩ := C
  simp only at B1 ⊢
  have n1 := B1.fr.n
  obtain ⟨p, hp⟩ : ∃ p, p = g1.n := ⟨_, rfl⟩
  obtain ⟨g2, hg2⟩ : ∃ g2, g2 = (g1.push (.cells [.int .u64 0, .slice none 0 0] true 1)).set p (.cells (numL q w) true 1) := ⟨_, rfl⟩
  have F2 : Fr g1 g2 [] := by rw [hg2]; exact Fr_set (Fr_push (Fr.refl _ _)) (by omega)
  have n2 : g2.n = p + 1 := by rw [hg2, hp]; rfl
  have x2 : g2.get p = .cells (numL q w) true 1 := by rw [hg2, VH.get_set_same]
  have hst : storeObj (.cells [.int .u64 0, .slice none 0 0] true 1) 0 2 (.agg (numL q w).toArray) = some (.cells (numL q w) true 1) := by rw [hw]; rfl
  have hl0 : loadObj (.cells (numL q w) true 1) 0 none = some (.int .u64 (q : Int)) := rfl
  have hl2 : loadObj (.cells (numL q w) true 1) 0 (some 2) = some (.agg (numL q w).toArray) := rfl
  have F02 : Fr g g2 [] := B1.fr.trans F2
  obtain ⟨f, hf⟩ : ∃ f, bs.length + 1 - n = f + 1 := ⟨bs.length - n, by omega⟩
  rw [hf] at done hgs
  by_cases hm : m = 0
  · have hz : goodR (f + 1) (lastO l) (bs.drop A) = ([], 0) := by
      simp only [goodR, ← hC]
      rw [if_pos (.inl hm)]
    have hmI : ((m : Int) == 0) = true := by simp [hm]
    simp (disch := first|omega|(simp only [np,ns];try omega)) [r_wal_good, ← hp, hst, ← hg2, hm, hmI, e4, e5]
    exact done hz g2 F02
  have hmI : ((m : Int) == 0) = false := by simpa using hm
  have hq1 : 1 ≤ q ∧ q < 18446744073709551616 ∧ b.length ≤ 65536 ∧ m = (frameS q b).length ∧ frameS q b = (bs.drop A).take (frameS q b).length := by
    rcases hspec with hc | ⟨q', b', hc, h1, h2, h3, h4⟩
    · injection hc with _ hc
      injection hc with _ hc
      exact absurd hc hm
    · injection hc with hc1 hc
      injection hc with hc2 hc3
      subst hc1; subst hc2; subst hc3
      exact ⟨h1, h2, h3, rfl, h4⟩
  obtain ⟨hqa, hqb, hbl, hme, hpre⟩ := hq1
  have hmL : A + m ≤ L := by
    have := congrArg List.length hpre
    rw [List.length_take, List.length_drop] at this
    omega
  -- one more
  have K2 := K.fr0 F02
  have hown2 : OwnSl g2 1 w (u8s b) b.length := B1.own.fr F2 (fun _ _ => by simp)
  have wnew : ∀ i ∈ idOf w, g.n ≤ i := B1.ids
  have hrl := K.rec_.lt
  have hlvl := K.own.lt
  have more : ∀ (s' : Slots) (Q : Exit → Slots → VH → Prop), s' 0 = .slice (some ⟨i, o, none⟩) L vc → s' 4 = .slice la n lc → s' 5 = .int .i64 (A : Int) → s' 6 = .pointer (some ⟨p, 0, none⟩) → s' 7 = .int .i64 (m : Int) → (∀ x, lastO l = some x → q = x + 1) →
      (∀ s'' g'', n < L → GdJ h (.slice (some ⟨i, o, none⟩) L vc) bs (n + 1) s'' g'' → Q .normal s'' g'') → pw Tryd.prog TL s' g2 Q := by
    intro s' Q f0 f4 f5 f6 f7 hlast hQ
    rw [← hTL]
    have hfi : fillC [.int .u64 0, .slice none 0 0] [(0, 2, .agg (numL q w).toArray)] = some (numL q w) := by rw [hw]; rfl
    have hone : (numL q w).all Value.oneCell' = true := by rw [hw]; rfl
    obtain ⟨g3, hg3⟩ : ∃ g3, g3 = g2.push (.cells (numL q w) true 2) := ⟨_, rfl⟩
    have F3 : Fr g2 g3 [] := by rw [hg3]; exact Fr_push (Fr.refl _ _)
    have x3 : g3.get g2.n = .cells (numL q w) true 2 := by rw [hg3, VH.get_push_new]
    have hro : rowObj (.cells (numL q w) true 2) 0 2 = some (numL q w) := rfl
    obtain ⟨lv', g4, hap, K4, n4⟩ := (K2.fr0 F3).add (x := ((q, b), w)) (hown2.fr F3 (fun _ _ => by simp)) (fun y hy => by have := wnew y hy; have := K.fr.n; omega)
      (fun y hy j hj hjw => by have := hrl y hy j hj; have := wnew j hjw; omega) (fun j hj hjl => by have := hlvl j hjl; have := wnew j hj; omega) (by omega)
    have hap' : appendV g3 2 32 (.slice la n lc) (numL q w) 1 = some (lv', g4) := by rw [← hlv]; exact hap
    have eA : IntKind.i64.wrap ((A : Int) + (m : Int)) = ((A + m : Nat) : Int) := by rw [i64_small (by omega) (by omega)]; omega
    have hm5 : 5 ≤ m := by rw [hme]; exact frame_pos q b
    simp (disch := first|omega|(simp only [np,ns];try omega)) [f0, f4, f5, f6, f7, x2, hl2, hfi, hone, ← hg3, x3, hro, hap', eA]
    refine hQ _ _ (by omega) ⟨lv', l ++ [((q, b), w)], A + m, K4, by simp [hln], by omega, by omega, ?_, ?_, by simp [upd_apply, f0], by simp [upd_apply], by simp [upd_apply]⟩
    · rw [hgs]
      have hfn : bs.length + 1 - (n + 1) = f := by omega
      have hla : lastO (l ++ [((q, b), w)]) = some q := by simp [lastO]
      rw [hfn, hla]
      simp only [goodR, ← hC]
      rw [if_neg]
      · rw [List.drop_drop]
        simp only [List.map_append, List.map_cons, List.map_nil, List.append_assoc, List.cons_append, List.nil_append]
        rw [Nat.add_assoc]
      · rintro (h1 | ⟨x, h1, h2⟩)
        · exact hm h1
        · exact h2 (hlast x h1)
    · intro x hx
      rcases List.mem_append.1 hx with hx | hx
      · exact hq x hx
      · rw [List.mem_singleton.1 hx]; exact hqb
  by_cases hn0 : n = 0
  · have hl0' : l = [] := List.eq_nil_of_length_eq_zero (by omega)
    have hnI : ¬ (0 : Int) < (n : Int) := by omega
    have hnN : ¬ 0 < n := by omega
    simp (disch := first|omega|(simp only [np,ns];try omega)) [← hp, hst, ← hg2, hm, hmI, e4, hnI, hnN]
    refine more _ _ (by simp [upd_apply, e0]) (by simp [upd_apply, e4]) (by simp [upd_apply, e5]) (by simp [upd_apply]) (by simp [upd_apply]) (fun x hx => by rw [hl0'] at hx; cases hx) ?_
    intro s'' g'' h1 h2
    simp (disch := first|omega|(simp only [np,ns];try omega)) []
    exact ⟨h1, by rw [hv]; exact h2⟩
  have hnI : (0 : Int) < (n : Int) := by omega
  have hnN : 0 < n := by omega
  obtain ⟨k, hk⟩ : ∃ k, n = k + 1 := ⟨n - 1, by omega⟩
  have ek : IntKind.i64.wrap ((n : Int) - 1) = (k : Int) := by rw [i64_small (by omega) (by omega)]; omega
  have hkn : k < n := by omega
  have hkI : (k : Int) < (n : Int) := by omega
  obtain ⟨li, lo, lcc, ds, hlv2, _, _, _, hgi, hel, hle, _⟩ := OwnSl.atj (C := rowN) rowN_len (by omega) K2.own (j := k) (by omega)
  rw [hlv, hln] at hlv2
  injection hlv2 with h1 _ h3
  subst h1
  subst h3
  obtain ⟨y, hy⟩ : ∃ y, y = l[k]'(by omega) := ⟨_, rfl⟩
  rw [← hy] at hel
  have hyq := hq y (by rw [hy]; exact List.getElem_mem _)
  have hfl : loadObj (.cells ds true 2) (lo + k * 2) none = some (.int .u64 (y.1.1 : Int)) := el_field (f := 0) hel hle (by omega)
  have hlast : lastO l = some y.1.1 := by
    unfold lastO
    rw [List.getLast?_eq_getElem?, show l.length - 1 = k by omega, List.getElem?_eq_getElem (by omega), hy]
    rfl
  have hez2 : eszObj (.cells ds true 2) 2 = true := rfl
  obtain ⟨z, hz⟩ : ∃ z, z = (y.1.1 + 1) % 18446744073709551616 := ⟨_, rfl⟩
  have ez : IntKind.u64.wrap ((y.1.1 : Int) + 1) = (z : Int) := by
    have := wrapN_u64 (y.1.1 + 1)
    rw [hz, ← this]
    congr 1
  by_cases hqz : q = y.1.1 + 1
  · have hne : ((q : Int) != (z : Int)) = false := by simp; omega
    simp (disch := first|omega|(simp only [np,ns];try omega)) [← hp, hst, ← hg2, hm, hmI, e4, hnI, hnN, x2, hl0, ek, hkn, hkI, hgi, hez2, hfl, ez, hne]
    refine more _ _ (by simp [upd_apply, e0]) (by simp [upd_apply, e4]) (by simp [upd_apply, e5]) (by simp [upd_apply]) (by simp [upd_apply]) (fun x hx => by rw [hlast] at hx; injection hx with hx; omega) ?_
    intro s'' g'' h1 h2
    simp (disch := first|omega|(simp only [np,ns];try omega)) []
    exact ⟨h1, by rw [hv]; exact h2⟩
  · have hne : ((q : Int) != (z : Int)) = true := by simp; omega
    have hz0 : goodR (f + 1) (lastO l) (bs.drop A) = ([], 0) := by
      simp only [goodR, ← hC]
      rw [if_pos (.inr ⟨y.1.1, hlast, hqz⟩)]
    simp (disch := first|omega|(simp only [np,ns];try omega)) [r_wal_good, ← hp, hst, ← hg2, hm, hmI, e4, e5, hnI, hnN, x2, hl0, ek, hkn, hkI, hgi, hez2, hfl, ez, hne]
    exact done hz0 g2 F02

/- wal, part G: Frames, and the reference's. -/

structure OutO (h g : VH) (ov : Value) (l : List Nm) : Prop where
  own : OwnSl g 1 ov (l.map (·.2)) l.length
  rec_ : Rec h g l
  fr : Fr h g []
  ids : ∀ i ∈ idOf ov, h.n ≤ i
  dis : ∀ x ∈ l, ∀ i ∈ idOf x.2, i ∉ idOf ov
theorem OutO.nil {h g : VH} (F : Fr h g []) : OutO h g (.slice none 0 0) [] := ⟨OwnSl.nil _ _, ⟨by simp, by simp, List.Pairwise.nil⟩, F, by simp [idOf], by simp⟩
theorem OutO.fr0 {h g g' : VH} {lv : Value} {l : List Nm} (k : OutO h g lv l) (hf : Fr g g' []) : OutO h g' lv l :=
  ⟨k.own.fr hf (fun _ _ => by simp), k.rec_.fr0 hf, k.fr.trans hf, k.ids, k.dis⟩
theorem OutO.add {h g : VH} {lv : Value} {l : List Nm} (k : OutO h g lv l) {x : Nm} (hb : OwnSl g 1 x.2 (u8s x.1.2) x.1.2.length) (hn : ∀ i ∈ idOf x.2, h.n ≤ i) (hs : ∀ y ∈ l, ∀ i ∈ idOf y.2, i ∉ idOf x.2) (hlv : ∀ i ∈ idOf x.2, i ∉ idOf lv) (hl : l.length ≤ 1000000000) :
    ∃ lv' g', appendV g 1 24 lv [x.2] 1 = some (lv', g') ∧ OutO h g' lv' (l ++ [x]) ∧ g.n ≤ g'.n ∧ Fr g g' (idOf lv) ∧ ∀ i ∈ idOf lv', i ∈ idOf lv ∨ g.n ≤ i := by
  obtain ⟨lv', g', hap, ho, hf, hid⟩ := k.own.append (bytes := 24) (ys := [x.2]) (k := 1) rfl (by omega)
  refine ⟨lv', g', hap, ⟨?_, ?_, ?_, ?_, ?_⟩, hf.n, hf, hid⟩
  · rw [List.map_append, List.length_append]; exact ho
  · have hb' := hb.fr hf hlv
    exact (k.rec_.fr hf (fun y hy i hi => k.dis y hy i hi)).add hb' hn hs
  · exact k.fr.trans' hf (fun y hy => .inr (k.ids y hy))
  · intro i hi
    rcases hid i hi with h1 | h1
    · exact k.ids i h1
    · have := k.fr.n; omega
  · intro y hy i hi hiv
    rcases hid i hiv with h1 | h1
    · rcases List.mem_append.1 hy with hy | hy
      · exact k.dis y hy i hi h1
      · rw [List.mem_singleton.1 hy] at hi; exact hlv i hi h1
    · have : i < g.n := by
        rcases List.mem_append.1 hy with hy | hy
        · exact k.rec_.lt y hy i hi
        · rw [List.mem_singleton.1 hy] at hi; exact hb.lt i hi
      omega
/-- a row of slices, read. -/
structure SlsAt (h : VH) (v : Value) (l : List (List UInt8 × Value)) : Prop where
  rows : RowsAt h 1 v (l.map fun x => [x.2])
  byt : ∀ x ∈ l, IsBytes h x.2 x.1
theorem SlsAt.ro {h : VH} {v : Value} {l : List (List UInt8 × Value)} (k : SlsAt h v l) : SlsAt h.ro v l := ⟨k.rows.ro, fun x hx => (k.byt x hx).ro⟩
theorem own_rows {h : VH} {v : Value} {cs : List Value} {n : Nat} (k : OwnSl h 1 v cs n) : RowsAt h 1 v (cs.map fun x => [x]) := by
  rcases k with ⟨rfl, rfl, rfl⟩ | ⟨i, o, c, ds, h1, h2, rfl, h4, h5, h6, h7⟩
  · exact ⟨none, 0, rfl, fun h => by simp at h⟩
  · have hl : ds.length = o + cs.length := by
      have := congrArg List.length h5
      rw [List.length_drop] at this
      omega
    refine ⟨some ⟨i, o, none⟩, c, by simp; omega, fun h0 => ⟨i, o, ds, true, rfl, h1, by simp; omega, h4, fun k hk => ?_⟩⟩
    simp only [List.length_map] at hk
    refine ⟨by omega, ?_⟩
    rw [Nat.mul_one, ← List.drop_drop, h5, List.getElem_map, List.drop_eq_getElem_cons hk]
    rfl
theorem OutO.sls {h g : VH} {ov : Value} {l : List Nm} (k : OutO h g ov l) : SlsAt g ov (l.map fun x => (x.1.2, x.2)) := by
  refine ⟨?_, fun x hx => ?_⟩
  · have := own_rows k.own
    rw [List.map_map] at this ⊢
    exact this
  · obtain ⟨y, hy, rfl⟩ := List.mem_map.1 hx
    exact (k.rec_.byt y hy).bytes
def FramesP (h : VH) (bs : List UInt8) (u : Value) (h' : VH) : Prop := ∃ ov l, u = .tuple #[ov, .int .u64 (lastS (goodS bs).1 : Int), .int .i64 ((goodS bs).2 : Int)] ∧ (∃ a k c, ov = .slice a k c) ∧ l.map (·.1) = (goodS bs).1 ∧ OutO h h' ov l
theorem last_take (l : List (Nat × List UInt8)) (n : Nat) (hn : n < l.length) : lastS (l.take (n + 1)) = l[n].1 := by
  unfold lastS
  rw [List.take_succ_eq_append_getElem hn, List.getLast?_append]
  simp
def FrJ (h : VH) (lv : Value) (l : List Nm) (N : Nat) (n : Nat) (s : Slots) (g : VH) : Prop := ∃ ov, OutO h g ov (l.take n) ∧ OwnSl g 2 lv (l.flatMap rowN) l.length ∧ Rec h g l ∧ (∀ i ∈ idOf ov, i ∉ idOf lv) ∧ (∀ x ∈ l, ∀ i ∈ idOf x.2, i ∉ idOf ov) ∧ (∃ a k c, ov = .slice a k c) ∧
  s 7 = ov ∧ s 8 = .int .u64 (lastS ((l.take n).map (·.1)) : Int) ∧ s 16 = lv ∧ s 17 = .int .i64 (l.length : Int) ∧ s 18 = .int .i64 (n : Int) ∧ s 6 = .int .i64 (N : Int)
set_option maxHeartbeats 4000000 in
theorem frames_ok {h : VH} {v : Value} {bs : List UInt8} (hb : IsBytes h v bs) (hl : bs.length ≤ 100000000) : PCalls Tryd.prog f_wal_Frames [v] h (FramesP h bs) := by
  refine PCalls_of_pw st_wal_Frames (by simp [n_wal_Frames]) ?_
  rw [b_wal_Frames]
  simp (disch := first|omega|(simp only [np,ns];try omega)) [B_wal_Frames]
  refine (good_ok hb hl).mono ?_
  rintro u g0 ⟨lv, l, rfl, ⟨la0, lk0, lc0, hlv0⟩, hgl, K⟩
  obtain ⟨N, hN⟩ : ∃ N, N = (goodS bs).2 := ⟨_, rfl⟩
  have hbd := good_bounds (bs.length + 1) none bs
  have hbd : (goodS bs).2 ≤ bs.length ∧ (∀ x ∈ (goodS bs).1, 1 ≤ x.1 ∧ x.1 < 18446744073709551616 ∧ x.2.length ≤ 65536) ∧ (goodS bs).1.length ≤ (goodS bs).2 := hbd
  rw [← hN] at hbd ⊢
  obtain ⟨Ln, hLn⟩ : ∃ Ln, Ln = l.length := ⟨_, rfl⟩
  have hLb : Ln ≤ 100000000 := by
    have := congrArg List.length hgl
    rw [List.length_map] at this
    omega
  obtain ⟨la, lc, hlv⟩ := K.own.shapeN
  rw [← hLn] at hlv
  rw [hlv]
  simp (disch := first|omega|(simp only [np,ns];try omega)) []
  refine pw_loopN (FrJ h lv l N) Ln ?_ ?_
  · refine ⟨.slice none 0 0, OutO.nil K.fr, K.own, K.rec_, by simp [idOf], by simp [idOf], ⟨_, _, _, rfl⟩, by simp [upd_apply], by simp [upd_apply, lastS], by simp [upd_apply, hlv], by simp [upd_apply, hLn], by simp [upd_apply], by simp [upd_apply]⟩
  rintro n s g hn ⟨ov, O, Kl, R, hov, hro, ⟨oa, ok, oc, hovs⟩, e7, e8, e16, e17, e18, e6⟩
  rw [hlv] at e16
  rw [← hLn] at e17
  by_cases hlt : n < Ln
  case neg =>
    obtain rfl : n = Ln := by omega
    have hltI : ¬ (n : Int) < (n : Int) := by omega
    rw [hLn, List.take_length] at O e8
    rw [hgl] at e8
    simp (disch := first|omega|(simp only [np,ns];try omega)) [r_wal_Frames, e7, e8, e16, e17, e18, e6]
    exact ⟨ov, l, by rw [hN], ⟨_, _, _, hovs⟩, hgl, O⟩
  have hltI : (n : Int) < (Ln : Int) := by omega
  have hnl : n < l.length := by omega
  obtain ⟨li, lo, lcc, ds, hlv2, _, _, _, hgi, hel, hle, _⟩ := OwnSl.atj (C := rowN) rowN_len (by omega) Kl (j := n) hnl
  rw [hlv, ← hLn] at hlv2
  injection hlv2 with h1 _ h3
  subst h1
  subst h3
  obtain ⟨x, hx⟩ : ∃ x, x = l[n] := ⟨_, rfl⟩
  rw [← hx] at hel
  have hxl : x ∈ l := by rw [hx]; exact List.getElem_mem _
  have hagg := el_load (ow := true) (zz := 2) hel hle
  have hez : eszObj (.cells ds true 2) 2 = true := rfl
  obtain ⟨p, hp⟩ : ∃ p, p = g.n := ⟨_, rfl⟩
  obtain ⟨xa, xc, hxv⟩ := (R.byt x hxl).shapeN
  have hst : storeObj (.cells [.int .u64 0, .slice none 0 0] true 1) 0 2 (.agg (rowN x).toArray) = some (.cells (rowN x) true 1) := by unfold rowN; rw [hxv]; rfl
  obtain ⟨g1, hg1⟩ : ∃ g1, g1 = (g.push (.cells [.int .u64 0, .slice none 0 0] true 1)).set p (.cells (rowN x) true 1) := ⟨_, rfl⟩
  have F1 : Fr g g1 [] := by rw [hg1]; exact Fr_set (Fr_push (Fr.refl _ _)) (by omega)
  have n1 : g1.n = p + 1 := by rw [hg1, hp]; rfl
  have x1 : g1.get p = .cells (rowN x) true 1 := by rw [hg1, VH.get_set_same]
  have hl0 : loadObj (.cells (rowN x) true 1) 0 none = some (.int .u64 (x.1.1 : Int)) := rfl
  have hl1 : loadObj (.cells (rowN x) true 1) 1 none = some x.2 := rfl
  have hfi : fillC [.slice none 0 0] [(0, 1, x.2)] = some [x.2] := by rw [hxv]; rfl
  have hone : [x.2].all Value.oneCell' = true := by rw [hxv]; rfl
  obtain ⟨g2, hg2⟩ : ∃ g2, g2 = g1.push (.cells [x.2] true 1) := ⟨_, rfl⟩
  have F2 : Fr g1 g2 [] := by rw [hg2]; exact Fr_push (Fr.refl _ _)
  have n2 : g2.n = g1.n + 1 := by rw [hg2]; rfl
  have x2 : g2.get g1.n = .cells [x.2] true 1 := by rw [hg2, VH.get_push_new]
  have hro2 : rowObj (.cells [x.2] true 1) 0 1 = some [x.2] := rfl
  have F02 := F1.trans F2
  have htk : l.take (n + 1) = l.take n ++ [x] := by rw [List.take_succ_eq_append_getElem hnl, hx]
  have hsepn : ∀ y ∈ l.take n, ∀ i ∈ idOf y.2, i ∉ idOf x.2 := fun y hy i hi => by
    have := List.pairwise_append.1 (by have := R.sep; rw [← List.take_append_drop n l] at this; exact this)
    exact this.2.2 y hy x (by rw [hx, List.drop_eq_getElem_cons hnl]; exact List.mem_cons_self ..) i hi
  have hrn := R.new
  have hrlt := R.lt
  have hKlt := Kl.lt
  have holt := O.own.lt
  obtain ⟨ov', g3, hap, O3, n3, F3, hid3⟩ := (O.fr0 F02).add (x := x) ((R.byt x hxl).fr F02 (fun _ _ => by simp)) (fun y hy => hrn x hxl y hy) hsepn (fun j hj => hro x hxl j hj) (by simp; omega)
  have ngn : g.n ≤ g2.n := F02.n
  have F13 : Fr g1 g3 (idOf ov) := (F2.sub (by simp)).trans F3
  have hpo : p ∉ idOf ov := fun h => by have := holt p h; omega
  have x3 := (F13.get p (by omega) hpo).trans x1
  have eW : IntKind.i64.wrap ((n : Int) + 1) = ((n + 1 : Nat) : Int) := by rw [i64_small (by omega) (by omega)]; omega
  obtain ⟨ob, oo, hov's⟩ := O3.own.shapeN
  have hlast : lastS ((l.take (n + 1)).map (·.1)) = x.1.1 := by
    rw [List.map_take, last_take _ n (by simpa using hnl), List.getElem_map, ← hx]
  simp (disch := first|omega|(simp only [np,ns];try omega)) [e7, e8, e16, e17, e18, hlt, hltI, hgi, hez, hagg, ← hp, hst, ← hg1, x1, hl0, hl1, hfi, hone, ← hg2, x2, hro2, hap, x3, eW]
  refine ⟨ov', by rw [htk]; exact O3, Kl.fr (F02.sub (by simp) |>.trans F3) (fun j hj hjo => hov j hjo hj), R.fr (F02.sub (by simp) |>.trans F3) (fun y hy j hj => hro y hy j hj), fun j hj hjl => ?_, fun y hy j hj hjo => ?_, ⟨_, _, _, hov's⟩, by simp [upd_apply], by rw [hlast]; simp [upd_apply], by simp [upd_apply, e16, hlv], by simp [upd_apply, e17, hLn], by simp [upd_apply], by simp [upd_apply, e6]⟩
  · rcases hid3 j hj with h1 | h1
    · exact hov j h1 hjl
    · have := hKlt j hjl; omega
  · rcases hid3 j hjo with h1 | h1
    · exact hro y hy j hj h1
    · have := hrlt y hy j hj; omega
end Go.Proofs.YtpcjnpkpmaahiaaDoor.Wa
