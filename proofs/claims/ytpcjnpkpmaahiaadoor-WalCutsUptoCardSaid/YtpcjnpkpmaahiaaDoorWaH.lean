/- wal, part H: the reference's frames; two lists alike. -/
import Derived.Test.YtpcjnpkpmaahiaaDoorWaF
set_option linter.unusedVariables false
set_option linter.unusedSimpArgs false
set_option maxRecDepth 100000
namespace Go.Proofs.YtpcjnpkpmaahiaaDoor.Wa
open Go Go.RowKit Go.Proofs.YtpcjnpkpmaahiaaDoor.Pm Go.Proofs.YtpcjnpkpmaahiaaDoor.Fs
attribute [-simp] BitVec.toNat_or BitVec.toNat_xor BitVec.toNat_add BitVec.toNat_and BitVec.toNat_not BitVec.toNat_shiftLeft BitVec.toNat_ushiftRight


theorem rframe_0 {h : VH} {v : Value} : PCalls Tryd.prog f_ref07_Frame [.int .u64 0, v] h (fun u h' => u = .tuple #[.slice none 0 0, .int .i64 1] ∧ h' = h) := by
  refine PCalls_of_pw st_ref07_Frame (by simp [n_ref07_Frame]) ?_
  rw [b_ref07_Frame]
  simp (disch := first|omega|(simp only [np,ns];try omega)) [r_ref07_Frame, B_ref07_Frame]
def OneP (h : VH) (v : Value) (bs : List UInt8) (u : Value) (h' : VH) : Prop := ∃ w, u = .tuple #[.int .u64 ((cutS bs).1 : Int), w, .int .i64 ((cutS bs).2.2 : Int)] ∧ (∃ a k c, w = .slice a k c) ∧ IsBytes h' w (cutS bs).2.1 ∧ Fr h h' [] ∧ ∀ i ∈ idOf w, i ∈ idOf v
theorem one_bad {h h' : VH} {v : Value} {bs : List UInt8} (hc : cutS bs = badC) (F : Fr h h' []) : OneP h v bs (.tuple #[.int .u64 0, .slice none 0 0, .int .i64 0]) h' :=
  ⟨.slice none 0 0, by rw [hc]; rfl, ⟨_, _, _, rfl⟩, by rw [hc]; exact .inl ⟨rfl, rfl⟩, F, by simp [idOf]⟩
set_option maxHeartbeats 4000000 in
theorem rone_ok {h : VH} {v : Value} {bs : List UInt8} (hb : IsBytes h v bs) (hl : bs.length ≤ 100000000) : PCalls Tryd.prog f_ref07_one [v] h (OneP h v bs) := by
  refine PCalls_of_pw st_ref07_one (by simp [n_ref07_one]) ?_
  rw [b_ref07_one]
  obtain ⟨L, hL⟩ : ∃ L, L = bs.length := ⟨_, rfl⟩
  obtain ⟨va, vc, hv⟩ := hb.shape
  rw [← hL] at hv
  simp (disch := first|omega|(simp only [np,ns];try omega)) [B_ref07_one]
  obtain ⟨G, hG⟩ : ∃ G, G = getS 0 0 bs := ⟨_, rfl⟩
  have hgs := getS_spec bs 0 0 (by omega) (by omega)
  have hget := rget_ok hb (at_ := 0) (Nat.zero_le _) (by omega)
  rw [List.drop_zero] at hget
  rw [← hG] at hget hgs
  have hget' : PCalls Tryd.prog f_ref02_Get [v, .int .i64 0] h _ := hget
  refine hget'.mono ?_
  rintro u g1 ⟨rfl, hg1⟩
  rw [hg1]
  obtain ⟨q, n1, e1⟩ := G
  simp only at hgs ⊢
  obtain ⟨hq64, hn1, he1⟩ := hgs
  by_cases hE : e1 = 0
  case neg =>
    have hEI : (e1 != 0) = true := by simpa using hE
    have hc : cutS bs = badC := by unfold cutS; rw [← hG]; rw [if_pos (.inl hE)]
    simp (disch := first|omega|(simp only [np,ns];try omega)) [r_ref07_one, hE, hEI]
    exact one_bad hc (Fr.refl _ _)
  subst hE
  obtain ⟨hn1a, hn1b⟩ := hn1 rfl
  obtain ⟨N, hN⟩ : ∃ N, N = 0 + n1 := ⟨_, rfl⟩
  have hNe : N = n1 := by omega
  rw [← hN]
  simp (disch := first|omega|(simp only [np,ns];try omega)) []
  have hget2 := rget_ok hb (at_ := N) (by omega) (by omega)
  obtain ⟨G2, hG2⟩ : ∃ G2, G2 = getS 0 0 (bs.drop N) := ⟨_, rfl⟩
  have hgs2 := getS_spec (bs.drop N) 0 0 (by omega) (by omega)
  rw [← hG2] at hget2 hgs2
  refine hget2.mono ?_
  rintro u g2 ⟨rfl, hg2⟩
  rw [hg2]
  obtain ⟨z, n2, e2⟩ := G2
  simp only at hgs2 ⊢
  obtain ⟨hz64, hn2, he2⟩ := hgs2
  rw [List.length_drop, ← hL] at hn2
  have hq0c : q = 0 → cutS bs = badC := fun h0 => by unfold cutS; rw [← hG]; rw [if_pos (.inr h0)]
  have hcut : q ≠ 0 → cutS bs = cut2 bs q n1 (z, n2, e2) := fun h0 => by
    unfold cutS
    rw [← hG]
    simp only
    rw [if_neg (by simp; exact h0), ← hNe, ← hG2]
  have badc : (e2 ≠ 0 ∨ 65536 < z ∨ bs.length - (n1 + n2) < z) → cutS bs = badC := fun hx => by
    by_cases h0 : q = 0
    · exact hq0c h0
    · rw [hcut h0]; unfold cut2; rw [if_pos hx]
  rw [hv]
  by_cases hE2 : e2 = 0
  case neg =>
    have hEI : (e2 != 0) = true := by simpa using hE2
    simp (disch := first|omega|(simp only [np,ns];try omega)) [r_ref07_one, hE2, hEI]
    exact one_bad (badc (.inl hE2)) (Fr.refl _ _)
  subst hE2
  obtain ⟨hn2a, hn2b⟩ := hn2 rfl
  by_cases hz : 65536 < z
  · have hzI : (65536 : Int) < (z : Int) := by omega
    simp (disch := first|omega|(simp only [np,ns];try omega)) [r_ref07_one, hz, hzI]
    exact one_bad (badc (.inr (.inl hz))) (Fr.refl _ _)
  have hzI : ¬ (65536 : Int) < (z : Int) := by omega
  obtain ⟨A, hA⟩ : ∃ A, A = N + n2 := ⟨_, rfl⟩
  rw [← hA]
  obtain ⟨D, hD⟩ : ∃ D, D = L - A := ⟨_, rfl⟩
  have eD : IntKind.i64.wrap ((L : Int) - (A : Int)) = (D : Int) := by rw [i64_small (by omega) (by omega)]; omega
  have ez : IntKind.i64.wrap (z : Int) = (z : Int) := i64_small (by omega) (by omega)
  by_cases hzD : D < z
  · have hzDI : (D : Int) < (z : Int) := by omega
    simp (disch := first|omega|(simp only [np,ns];try omega)) [r_ref07_one, hz, hzI, eD, ez, hzD, hzDI]
    exact one_bad (badc (.inr (.inr (by omega)))) (Fr.refl _ _)
  have hzDI : ¬ (D : Int) < (z : Int) := by omega
  obtain ⟨i, o, c, hi, hcL, hvs, hat⟩ := nil_at hb (by omega)
  rw [← hL] at hcL hvs
  rw [hv] at hvs
  injection hvs with hva _ hvc
  subst hva
  subst hvc
  obtain ⟨E, hE⟩ : ∃ E, E = A + z := ⟨_, rfl⟩
  have eE : IntKind.i64.wrap ((A : Int) + (z : Int)) = (E : Int) := by rw [i64_small (by omega) (by omega)]; omega
  have hEA : E - A = z := by omega
  have hAE : A ≤ E := by omega
  have hEc : E ≤ vc := by omega
  have hez := hat.esz
  obtain ⟨b, hbd⟩ : ∃ b, b = (bs.drop A).take z := ⟨_, rfl⟩
  have hblen : b.length = z := by rw [hbd, List.length_take, List.length_drop]; omega
  have hsub : IsBytes h (.slice (some ⟨i, o + A, none⟩) z (vc - A)) b := by rw [hbd]; exact isB_sub hi hat (by omega) (by omega)
  simp (disch := first|omega|(simp only [np,ns];try omega)) [hz, hzI, eD, ez, hzD, hzDI, eE, hEA, hAE, hEc, hez]
  by_cases hq0 : q = 0
  · have hqz : (q : Int) = 0 := by omega
    rw [hqz]
    refine rframe_0.mono ?_
    rintro u g5 ⟨rfl, hg5⟩
    rw [hg5]
    simp (disch := first|omega|(simp only [np,ns];try omega)) [r_ref07_one]
    exact one_bad (hq0c hq0) (Fr.refl _ _)
  refine (rframe_ok hsub (by omega) hq64 (by omega)).mono ?_
  rintro u g5 ⟨U, rfl, ⟨ua, uk, uc, rfl⟩, B5⟩
  have hcut3 : cutS bs = if frameS q b = bs.take (frameS q b).length then (q, b, (frameS q b).length) else badC := by
    rw [hcut hq0]
    unfold cut2
    simp only
    rw [if_neg (by simp only [ne_eq, not_true, false_or]; omega), show n1 + n2 = A by omega, ← hbd]
  obtain ⟨FL, hFL⟩ : ∃ FL, FL = (frameS q b).length := ⟨_, rfl⟩
  obtain ⟨ua', uc', hu⟩ := B5.shape
  rw [← hFL] at hu
  injection hu with hu1 hu2 hu3
  have hu2 := hu2.symm
  subst hu1; subst hu2; subst hu3
  have F5 := B5.fr
  have n5 := F5.n
  by_cases hlong : bs.length < FL
  · rw [← hL] at hlong
    have hlongI : (L : Int) < (FL : Int) := by omega
    have hc : cutS bs = badC := by
      rw [hcut3, if_neg]
      intro he
      have := congrArg List.length he
      rw [List.length_take] at this
      omega
    simp (disch := first|omega|(simp only [np,ns];try omega)) [r_ref07_one, hlong, hlongI]
    exact one_bad hc F5
  rw [← hL] at hlong
  have hlongI : ¬ (L : Int) < (FL : Int) := by omega
  have hat5 : BytesAt g5 i o bs := hat.congr (F5.get i hi (by simp))
  have hez5 := hat5.esz
  have ofT : ofB g5 (.slice (some ⟨i, o, none⟩) FL vc) = some (.string (strB (bs.take FL)), g5) := ofB_eq (by
    have := isB_sub (a := 0) (n := FL) (c := vc) (by omega) hat5 (by omega) (by omega)
    simpa using this)
  have ofU : ofB g5 (.slice ua FL uc) = some (.string (strB (frameS q b)), g5) := ofB_eq B5.is
  have hFLc : FL ≤ vc := by omega
  by_cases heq : frameS q b = bs.take FL
  · have hsb : ((strB (frameS q b)).toList == (strB (bs.take FL)).toList) = true := by rw [← heq]; simp
    have hc : cutS bs = (q, b, FL) := by rw [hcut3, ← hFL, if_pos heq]
    simp (disch := first|omega|(simp only [np,ns];try omega)) [r_ref07_one, hlong, hlongI, hez5, hFLc, ofT, ofU, hsb, eE, hEA, hAE, hEc, ez]
    exact ⟨.slice (some ⟨i, o + A, none⟩) z (vc - A), by rw [hc], ⟨_, _, _, rfl⟩, by rw [hc]; exact hsub.fr F5 (fun _ _ => by simp), F5, by simp [idOf]⟩
  · have hsb : ((strB (frameS q b)).toList == (strB (bs.take FL)).toList) = false := by rw [strB_toList, strB_toList]; simpa using heq
    have hc : cutS bs = badC := by rw [hcut3, ← hFL, if_neg heq]
    simp (disch := first|omega|(simp only [np,ns];try omega)) [r_ref07_one, hlong, hlongI, hez5, hFLc, ofT, ofU, hsb]
    exact one_bad hc F5
theorem isB_elt {l : List (List UInt8 × Value)} {h : VH} {v : Value} (k : SlsAt h v l) {n : Nat} {a : Option Addr} {N c : Nat} (hv : v = .slice a N c) (hn : n < l.length) :
    ∃ i o, a = some ⟨i, o, none⟩ ∧ eszObj (h.get i) 1 = true ∧ loadObj (h.get i) (o + n) none = some l[n].2 ∧ IsBytes h l[n].2 l[n].1 := by
  have hr := k.rows
  rw [hv] at hr
  obtain ⟨i, o, ha, _, hez, _, hld⟩ := hr.at_ (k := n) (by simpa using hn)
  have := hld l[n].2 (by simp)
  rw [Nat.mul_one] at this
  exact ⟨i, o, ha, hez, this, k.byt _ (List.getElem_mem _)⟩
theorem SlsAt.shape {h : VH} {v : Value} {l : List (List UInt8 × Value)} (k : SlsAt h v l) : ∃ a c, v = .slice a l.length c := by
  obtain ⟨a, c, e⟩ := k.rows.shape
  exact ⟨a, c, by rw [e, List.length_map]⟩
set_option maxHeartbeats 2000000 in
theorem same_ok' {h : VH} {v w : Value} {l m : List (List UInt8 × Value)} (kv : SlsAt h v l) (kw : SlsAt h w m) (hl : l.length ≤ 1000000000) (hm : m.length ≤ 1000000000) :
    PCalls Tryd.prog f_law07_same [v, w] h (fun u _ => u = .bool (decide (l.map (·.1) = m.map (·.1)))) := by
  refine PCalls_of_pw st_law07_same (by simp [n_law07_same]) ?_
  rw [b_law07_same]
  obtain ⟨va, vc, hv⟩ := kv.shape
  obtain ⟨wa, wc, hw⟩ := kw.shape
  obtain ⟨L, hL⟩ : ∃ L, L = l.length := ⟨_, rfl⟩
  obtain ⟨M, hM⟩ : ∃ M, M = m.length := ⟨_, rfl⟩
  rw [← hL] at hv
  rw [← hM] at hw
  rw [hv, hw]
  by_cases hLM : L = M
  case neg =>
    have hne : ((L : Int) != (M : Int)) = true := by simp; omega
    have hd : decide (l.map (·.1) = m.map (·.1)) = false := by
      rw [decide_eq_false_iff_not]
      intro he
      have := congrArg List.length he
      simp only [List.length_map] at this
      omega
    rw [hd]
    simp (disch := first|omega|(simp only [np,ns];try omega)) [r_law07_same, B_law07_same, hne]
  have hne : ((L : Int) != (M : Int)) = false := by simp; omega
  simp (disch := first|omega|(simp only [np,ns];try omega)) [B_law07_same, hne]
  refine pw_loopN (fun n s g => g = h ∧ s 0 = .slice va L vc ∧ s 1 = .slice wa M wc ∧ s 5 = .int .i64 (n : Int) ∧ (l.map (·.1)).take n = (m.map (·.1)).take n) L ?_ ?_
  · exact ⟨rfl, by simp [upd_apply, s0_apply], by simp [upd_apply, s0_apply], by simp [upd_apply], by simp⟩
  rintro n s g hn ⟨hg, e0, e1, e5, htk⟩
  rw [hg]
  by_cases hlt : n < L
  case neg =>
    obtain rfl : n = L := by omega
    have hltI : ¬ (n : Int) < (n : Int) := by omega
    have hd : decide (l.map (·.1) = m.map (·.1)) = true := by
      rw [decide_eq_true_iff]
      rwa [List.take_of_length_le (by simp; omega), List.take_of_length_le (by simp; omega)] at htk
    rw [hd]
    simp (disch := first|omega|(simp only [np,ns];try omega)) [r_law07_same, e0, e1, e5]
  have hltI : (n : Int) < (L : Int) := by omega
  have hltM : n < M := by omega
  have hltMI : (n : Int) < (M : Int) := by omega
  obtain ⟨vi, vo, hva, hvez, hvld, hvb⟩ := isB_elt kv hv (n := n) (by omega)
  obtain ⟨wi, wo, hwa, hwez, hwld, hwb⟩ := isB_elt kw hw (n := n) (by omega)
  subst hva
  subst hwa
  obtain ⟨x, hx⟩ : ∃ x, x = l[n]'(by omega) := ⟨_, rfl⟩
  obtain ⟨y, hy⟩ : ∃ y, y = m[n]'(by omega) := ⟨_, rfl⟩
  rw [← hx] at hvld hvb
  rw [← hy] at hwld hwb
  have ofx := ofB_eq hvb
  have ofy := ofB_eq hwb
  have eW : IntKind.i64.wrap ((n : Int) + 1) = ((n + 1 : Nat) : Int) := by rw [i64_small (by omega) (by omega)]; omega
  have hx1 : (l.map (·.1))[n]'(by simp; omega) = x.1 := by simp [hx]
  have hy1 : (m.map (·.1))[n]'(by simp; omega) = y.1 := by simp [hy]
  by_cases hxy : x.1 = y.1
  · have hsb : ((strB x.1).toList == (strB y.1).toList) = true := by rw [hxy]; simp
    simp (disch := first|omega|(simp only [np,ns];try omega)) [e0, e1, e5, hlt, hltI, hltM, hltMI, hvez, hvld, hwez, hwld, ofx, ofy, hsb, eW]
    rw [List.take_succ_eq_append_getElem (by simp; omega), List.take_succ_eq_append_getElem (by simp; omega), htk, hx1, hy1, hxy]
  · have hsb : ((strB x.1).toList == (strB y.1).toList) = false := by rw [strB_toList, strB_toList]; simpa using hxy
    have hd : decide (l.map (·.1) = m.map (·.1)) = false := by
      rw [decide_eq_false_iff_not]
      intro he
      apply hxy
      have := congrArg (fun q => q[n]?) he
      simp only [] at this
      rw [List.getElem?_eq_getElem (by simp; omega), List.getElem?_eq_getElem (by simp; omega), hx1, hy1] at this
      injection this
    rw [hd]
    simp (disch := first|omega|(simp only [np,ns];try omega)) [r_law07_same, e0, e1, e5, hlt, hltI, hltM, hltMI, hvez, hvld, hwez, hwld, ofx, ofy, hsb]
theorem same_ok {h : VH} {v w : Value} {l m : List (List UInt8 × Value)} (kv : SlsAt h v l) (kw : SlsAt h w m) (hl : l.length ≤ 1000000000) (hm : m.length ≤ 1000000000) :
    PCalls Tryd.prog f_law07_same [v, w] h (fun u h' => u = .bool (decide (l.map (·.1) = m.map (·.1))) ∧ h' = h) :=
  ((same_ok' kv.ro kw.ro hl hm).mono fun u _ e => by subst e; exact ⟨rfl, rfl⟩).drop

/- wal, part I: the reference's Frames; Frame. -/

def RfJ (h : VH) (v : Value) (bs : List UInt8) (n : Nat) (s : Slots) (g : VH) : Prop := ∃ ov l A, OutO h g ov l ∧ (∃ a c, ov = .slice a n c) ∧ l.length = n ∧ n ≤ A ∧ A ≤ bs.length ∧
  goodS bs = (l.map (·.1) ++ (goodR (bs.length + 1 - n) (lastO l) (bs.drop A)).1, A + (goodR (bs.length + 1 - n) (lastO l) (bs.drop A)).2) ∧ (∀ x ∈ l, x.1.1 < 18446744073709551616) ∧ s 0 = v ∧ s 5 = ov ∧ s 6 = .int .u64 (lastS (l.map (·.1)) : Int) ∧ s 7 = .int .i64 (A : Int)
theorem lastO_S (l : List Nm) : lastS (l.map (·.1)) = (lastO l).getD 0 := by
  unfold lastS lastO
  rw [List.getLast?_map]
  cases l.getLast? <;> rfl
set_option maxHeartbeats 4000000 in
theorem rframes_ok {h : VH} {v : Value} {bs : List UInt8} (hb : IsBytes h v bs) (hl : bs.length ≤ 100000000) (hvh : ∀ i ∈ idOf v, i < h.n) : PCalls Tryd.prog f_ref07_Frames [v] h (FramesP h bs) := by
  refine PCalls_of_pw st_ref07_Frames (by simp [n_ref07_Frames]) ?_
  rw [b_ref07_Frames]
  obtain ⟨L, hL⟩ : ∃ L, L = bs.length := ⟨_, rfl⟩
  obtain ⟨va, vc, hv⟩ := hb.shape
  rw [← hL] at hv
  unfold B_ref07_Frames
  generalize hTL : PC.seq (PC.ops (gI 11 _ :: _)) _ = TL
  simp (disch := first|omega|(simp only [np,ns];try omega)) []
  refine pw_loopN (RfJ h v bs) L ?_ ?_
  · refine ⟨.slice none 0 0, [], 0, OutO.nil (Fr.refl _ _), ⟨_, _, rfl⟩, rfl, Nat.le_refl _, Nat.zero_le _, ?_, by simp, by simp [upd_apply, s0_apply], by simp [upd_apply, s0_apply], by simp [upd_apply, s0_apply, lastS], by simp [upd_apply, s0_apply]⟩
    simp [goodS, lastO]
  rintro n s g hn ⟨ov, l, A, K, ⟨la, lc, hlv⟩, hln, hnA, hAL, hgs, hq, e0, e5, e6, e7⟩
  rw [hv] at e0
  rw [← hL] at hAL
  rw [hlv] at e5
  obtain ⟨LS, hLS⟩ : ∃ LS, LS = lastS (l.map (·.1)) := ⟨_, rfl⟩
  rw [← hLS] at e6
  have done : goodR (bs.length + 1 - n) (lastO l) (bs.drop A) = ([], 0) → ∀ g', Fr g g' [] → FramesP h bs (.tuple #[.slice la n lc, .int .u64 (LS : Int), .int .i64 (A : Int)]) g' := by
    intro hz g' hf
    refine ⟨.slice la n lc, l, by rw [hgs, hz, hLS]; simp, ⟨_, _, _, rfl⟩, by rw [hgs, hz]; simp, ?_⟩
    rw [← hlv]
    exact K.fr0 hf
  by_cases hlt : A < L
  case neg =>
    have hltI : ¬ (A : Int) < (L : Int) := by omega
    have hz : goodR (bs.length + 1 - n) (lastO l) (bs.drop A) = ([], 0) := by
      rw [List.drop_eq_nil_of_le (by omega)]
      cases (bs.length + 1 - n) with
      | zero => rfl
      | succ f => simp [goodR, cut_nil, badC]
    simp (disch := first|omega|(simp only [np,ns];try omega)) [r_ref07_Frames, e0, e5, e6, e7, hlt, hltI]
    exact done hz g (Fr.refl _ _)
  have hltI : (A : Int) < (L : Int) := by omega
  have hbg := hb.fr K.fr (fun _ _ => by simp)
  obtain ⟨i, o, c, hi, hcL, hvs, hat⟩ := nil_at hbg (by omega)
  rw [← hL] at hcL hvs
  rw [hv] at hvs
  injection hvs with hva _ hvc
  subst hva
  subst hvc
  have hez := hat.esz
  obtain ⟨M, hM⟩ : ∃ M, M = L - A := ⟨_, rfl⟩
  have hsub : IsBytes g (.slice (some ⟨i, o + A, none⟩) M (vc - A)) (bs.drop A) := by
    have := isB_sub (a := A) (n := M) (c := vc - A) hi hat (by omega) (by omega)
    rwa [List.take_of_length_le (by rw [List.length_drop]; omega)] at this
  simp (disch := first|omega|(simp only [np,ns];try omega)) [e0, e7, hlt, hltI, hez, hAL, ← hM]
  refine (rone_ok hsub (by rw [List.length_drop]; omega)).mono ?_
  rintro u g1 ⟨w, rfl, ⟨wa, wk', wc, hw⟩, hbw, F1, hid⟩
  obtain ⟨C, hC⟩ : ∃ C, C = cutS (bs.drop A) := ⟨_, rfl⟩
  have hspec := cut_spec (bs.drop A)
  rw [← hC] at hspec hbw ⊢
  obtain ⟨q, b, m⟩ := C
  simp only at hbw ⊢
  have n1 := F1.n
  obtain ⟨f, hf⟩ : ∃ f, bs.length + 1 - n = f + 1 := ⟨bs.length - n, by omega⟩
  rw [hf] at done hgs
  by_cases hm : m = 0
  · have hz : goodR (f + 1) (lastO l) (bs.drop A) = ([], 0) := by
      simp only [goodR, ← hC]
      rw [if_pos (.inl hm)]
    have hmI : ((m : Int) == 0) = true := by simp [hm]
    simp (disch := first|omega|(simp only [np,ns];try omega)) [r_ref07_Frames, hm, hmI, e5, e6, e7]
    exact done hz g1 F1
  have hmI : ((m : Int) == 0) = false := by simpa using hm
  have hq1 : 1 ≤ q ∧ q < 18446744073709551616 ∧ b.length ≤ 65536 ∧ m = (frameS q b).length ∧ frameS q b = (bs.drop A).take (frameS q b).length := by
    rcases hspec with hc | ⟨q', b', hc, h1, h2, h3, h4⟩
    · injection hc with _ hc
      injection hc with _ hc
      exact absurd hc hm
    · injection hc with hc1 hc
      injection hc with hc2 hc3
      subst hc1; subst hc2; subst hc3
      exact ⟨h1, h2, h3, rfl, h4⟩
  obtain ⟨hqa, hqb, hbl, hme, hpre⟩ := hq1
  have hmL : A + m ≤ L := by
    have := congrArg List.length hpre
    rw [List.length_take, List.length_drop] at this
    omega
  have hrl := K.rec_.lt
  have hlvl := K.own.lt
  have more : ∀ (s' : Slots) (Q : Exit → Slots → VH → Prop), s' 0 = .slice (some ⟨i, o, none⟩) L vc → s' 5 = .slice la n lc → s' 7 = .int .i64 (A : Int) → s' 8 = .int .u64 (q : Int) → s' 9 = w → s' 10 = .int .i64 (m : Int) → (∀ x, lastO l = some x → q = x + 1) →
      (∀ s'' g'', n < L → RfJ h (.slice (some ⟨i, o, none⟩) L vc) bs (n + 1) s'' g'' → Q .normal s'' g'') → pw Tryd.prog TL s' g1 Q := by
    intro s' Q f0 f5 f7 f8 f9 f10 hlast hQ
    rw [← hTL]
    rw [hw] at f9
    have hsrc := hbw.src
    rw [hw] at hsrc
    obtain ⟨bx, g2, hapb, B2⟩ := isB_app hbw (by omega)
    have hwk : wk' = b.length := by
      obtain ⟨a', c', h1⟩ := hbw.shape
      rw [hw] at h1
      injection h1
    rw [← hwk] at hapb
    obtain ⟨ba, bc, hbx⟩ := B2.shape
    have hfi : fillC [.slice none 0 0] [(0, 1, bx)] = some [bx] := by rw [hbx]; rfl
    have hone : [bx].all Value.oneCell' = true := by rw [hbx]; rfl
    obtain ⟨g3, hg3⟩ : ∃ g3, g3 = g2.push (.cells [bx] true 1) := ⟨_, rfl⟩
    have F3 : Fr g2 g3 [] := by rw [hg3]; exact Fr_push (Fr.refl _ _)
    have x3 : g3.get g2.n = .cells [bx] true 1 := by rw [hg3, VH.get_push_new]
    have hro : rowObj (.cells [bx] true 1) 0 1 = some [bx] := rfl
    have K3 := (K.fr0 (F1.trans B2.fr)).fr0 F3
    have bnew := B2.ids
    obtain ⟨lv', g4, hap, K4, n4, _, _⟩ := K3.add (x := ((q, b), bx)) (B2.own.fr F3 (fun _ _ => by simp)) (fun y hy => by have := bnew y hy; have := K.fr.n; omega)
      (fun y hy j hj hjw => by have := hrl y hy j hj; have := bnew j hjw; omega) (fun j hj hjl => by have := hlvl j hjl; have := bnew j hj; omega) (by omega)
    have hap' : appendV g3 1 24 (.slice la n lc) [bx] 1 = some (lv', g4) := by rw [← hlv]; exact hap
    have eA : IntKind.i64.wrap ((A : Int) + (m : Int)) = ((A + m : Nat) : Int) := by rw [i64_small (by omega) (by omega)]; omega
    have hm5 : 5 ≤ m := by rw [hme]; exact frame_pos q b
    obtain ⟨za, zc, hz4⟩ := K4.own.shapeN
    have hl4 : (l ++ [((q, b), bx)]).length = n + 1 := by simp [hln]
    rw [hl4] at hz4
    simp (disch := first|omega|(simp only [np,ns];try omega)) [f0, f5, f7, f8, f9, f10, hsrc, hapb, hfi, hone, ← hg3, x3, hro, hap', eA]
    refine hQ _ _ (by omega) ⟨lv', l ++ [((q, b), bx)], A + m, K4, ⟨_, _, hz4⟩, hl4, by omega, by omega, ?_, ?_, by simp [upd_apply, f0], by simp [upd_apply], by simp [upd_apply, lastS], by simp [upd_apply]⟩
    · rw [hgs]
      have hfn : bs.length + 1 - (n + 1) = f := by omega
      have hla : lastO (l ++ [((q, b), bx)]) = some q := by simp [lastO]
      rw [hfn, hla]
      simp only [goodR, ← hC]
      rw [if_neg]
      · rw [List.drop_drop]
        simp only [List.map_append, List.map_cons, List.map_nil, List.append_assoc, List.cons_append, List.nil_append]
        rw [Nat.add_assoc]
      · rintro (h1 | ⟨x, h1, h2⟩)
        · exact hm h1
        · exact h2 (hlast x h1)
    · intro x hx
      rcases List.mem_append.1 hx with hx | hx
      · exact hq x hx
      · rw [List.mem_singleton.1 hx]; exact hqb
  by_cases hn0 : n = 0
  · have hl0' : l = [] := List.eq_nil_of_length_eq_zero (by omega)
    have hnI : ¬ (0 : Int) < (n : Int) := by omega
    have hnN : ¬ 0 < n := by omega
    simp (disch := first|omega|(simp only [np,ns];try omega)) [hm, hmI, e5, e6, hnI, hnN]
    refine more _ _ (by simp [upd_apply, e0]) (by simp [upd_apply, e5]) (by simp [upd_apply, e7]) (by simp [upd_apply]) (by simp [upd_apply]) (by simp [upd_apply]) (fun x hx => by rw [hl0'] at hx; cases hx) ?_
    intro s'' g'' h1 h2
    simp (disch := first|omega|(simp only [np,ns];try omega)) []
    exact ⟨h1, by rw [hv]; exact h2⟩
  have hnI : (0 : Int) < (n : Int) := by omega
  have hnN : 0 < n := by omega
  obtain ⟨y, hy⟩ : ∃ y, l.getLast? = some y := by
    cases hll : l.getLast? with
    | none => rw [List.getLast?_eq_none_iff] at hll; rw [hll] at hln; simp at hln; omega
    | some y => exact ⟨y, rfl⟩
  have hyq := hq y (List.mem_of_getLast? hy)
  have hlast : lastO l = some y.1.1 := by unfold lastO; rw [hy]; rfl
  have hLSy : LS = y.1.1 := by rw [hLS, lastO_S, hlast]; rfl
  obtain ⟨z, hz⟩ : ∃ z, z = (LS + 1) % 18446744073709551616 := ⟨_, rfl⟩
  have ez : IntKind.u64.wrap ((LS : Int) + 1) = (z : Int) := by
    have := wrapN_u64 (LS + 1)
    rw [hz, ← this]
    congr 1
  by_cases hqz : q = y.1.1 + 1
  · have hne : ((q : Int) != (z : Int)) = false := by simp; omega
    simp (disch := first|omega|(simp only [np,ns];try omega)) [hm, hmI, e5, e6, hnI, hnN, ez, hne]
    refine more _ _ (by simp [upd_apply, e0]) (by simp [upd_apply, e5]) (by simp [upd_apply, e7]) (by simp [upd_apply]) (by simp [upd_apply]) (by simp [upd_apply]) (fun x hx => by rw [hlast] at hx; injection hx with hx; omega) ?_
    intro s'' g'' h1 h2
    simp (disch := first|omega|(simp only [np,ns];try omega)) []
    exact ⟨h1, by rw [hv]; exact h2⟩
  · have hne : ((q : Int) != (z : Int)) = true := by simp; omega
    have hz0 : goodR (f + 1) (lastO l) (bs.drop A) = ([], 0) := by
      simp only [goodR, ← hC]
      rw [if_pos (.inr ⟨y.1.1, hlast, hqz⟩)]
    simp (disch := first|omega|(simp only [np,ns];try omega)) [r_ref07_Frames, hm, hmI, e5, e6, e7, hnI, hnN, ez, hne]
    exact done hz0 g1 F1
/-- Frame. -/
def frS (q : Nat) (b : List UInt8) : List UInt8 × Nat := if q = 0 then ([], 1) else if 65536 < b.length then ([], 4) else (frameS q b, 0)
def FrameP (h : VH) (q : Nat) (b : List UInt8) (u : Value) (h' : VH) : Prop := ∃ w, u = .tuple #[w, .int .i64 ((frS q b).2 : Int)] ∧ (∃ a k c, w = .slice a k c) ∧ BufP h h' w (frS q b).1
theorem bufP_nil (h : VH) : BufP h h (.slice none 0 0) [] := ⟨OwnP.nil _ _, Fr.refl _ _, by simp [idOf]⟩
theorem ff_ok {h : VH} {v : Value} {b : List UInt8} (hb : IsBytes h v b) {q : Nat} (hq : q < 18446744073709551616) : PCalls Tryd.prog f_wal_Frame [.int .u64 (q : Int), v] h (FrameP h q b) := by
  refine PCalls_of_pw st_wal_Frame (by simp [n_wal_Frame]) ?_
  rw [b_wal_Frame]
  obtain ⟨L, hL⟩ : ∃ L, L = b.length := ⟨_, rfl⟩
  obtain ⟨va, vc, hv⟩ := hb.shape
  rw [← hL] at hv
  by_cases h0 : q = 0
  · have hqI : ((q : Int) == 0) = true := by simp [h0]
    have hf : frS q b = ([], 1) := by unfold frS; rw [if_pos h0]
    simp (disch := first|omega|(simp only [np,ns];try omega)) [r_wal_Frame, B_wal_Frame, h0, hqI]
    subst h0
    exact ⟨.slice none 0 0, by rw [hf]; rfl, ⟨_, _, _, rfl⟩, by rw [hf]; exact bufP_nil h⟩
  have hqI : ((q : Int) == 0) = false := by simpa using h0
  by_cases h1 : 65536 < L
  · have hLI : (65536 : Int) < (L : Int) := by omega
    have hf : frS q b = ([], 4) := by unfold frS; rw [if_neg h0, if_pos (by omega)]
    rw [hv]
    simp (disch := first|omega|(simp only [np,ns];try omega)) [r_wal_Frame, B_wal_Frame, h0, hqI, h1, hLI]
    exact ⟨.slice none 0 0, by rw [hf]; rfl, ⟨_, _, _, rfl⟩, by rw [hf]; exact bufP_nil h⟩
  have hLI : ¬ (65536 : Int) < (L : Int) := by omega
  have hf : frS q b = (frameS q b, 0) := by unfold frS; rw [if_neg h0, if_neg (by omega)]
  have hfi : fillC [.int .u64 0, .slice none 0 0] [(0, 1, .int .u64 (q : Int)), (1, 1, v)] = some (numL q v) := by rw [hv]; rfl
  rw [hv] at hfi ⊢
  simp (disch := first|omega|(simp only [np,ns];try omega)) [B_wal_Frame, h0, hqI, h1, hLI, hfi]
  rw [← hv]
  refine (frame_ok hb hq (by omega)).mono ?_
  rintro u g ⟨hs, B⟩
  simp (disch := first|omega|(simp only [np,ns];try omega)) [r_wal_Frame]
  exact ⟨u, by rw [hf]; rfl, hs, by rw [hf]; exact B⟩
theorem rff_ok {h : VH} {v : Value} {b : List UInt8} (hb : IsBytes h v b) {q : Nat} (hq : q < 18446744073709551616) : PCalls Tryd.prog f_ref07_Frame [.int .u64 (q : Int), v] h (FrameP h q b) := by
  obtain ⟨L, hL⟩ : ∃ L, L = b.length := ⟨_, rfl⟩
  by_cases h0 : q = 0
  · have hf : frS q b = ([], 1) := by unfold frS; rw [if_pos h0]
    have hqz : (q : Int) = 0 := by omega
    rw [hqz]
    refine rframe_0.mono ?_
    rintro u g ⟨rfl, hg⟩
    rw [hg]
    exact ⟨.slice none 0 0, by rw [hf]; rfl, ⟨_, _, _, rfl⟩, by rw [hf]; exact bufP_nil h⟩
  by_cases h1 : 65536 < L
  · have hf : frS q b = ([], 4) := by unfold frS; rw [if_neg h0, if_pos (by omega)]
    refine PCalls_of_pw st_ref07_Frame (by simp [n_ref07_Frame]) ?_
    rw [b_ref07_Frame]
    obtain ⟨va, vc, hv⟩ := hb.shape
    rw [← hL] at hv
    have hqI : ((q : Int) == 0) = false := by simpa using h0
    have hLI : (65536 : Int) < (L : Int) := by omega
    rw [hv]
    simp (disch := first|omega|(simp only [np,ns];try omega)) [r_ref07_Frame, B_ref07_Frame, h0, hqI, h1, hLI]
    exact ⟨.slice none 0 0, by rw [hf]; rfl, ⟨_, _, _, rfl⟩, by rw [hf]; exact bufP_nil h⟩
  have hf : frS q b = (frameS q b, 0) := by unfold frS; rw [if_neg h0, if_neg (by omega)]
  refine (rframe_ok hb (by omega) hq (by omega)).mono ?_
  rintro u g ⟨w, rfl, hs, B⟩
  exact ⟨w, by rw [hf]; rfl, hs, by rw [hf]; exact B⟩
end Go.Proofs.YtpcjnpkpmaahiaaDoor.Wa
