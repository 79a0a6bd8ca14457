/- slots, part O: SlotsTurns. -/
import Derived.Test.YtoenamablkkocaaSlN
set_option linter.unusedVariables false
set_option linter.unusedSimpArgs false
set_option maxRecDepth 100000
namespace Go.Proofs.Ytoenamablkkocaa.Sl
open Go Go.RowKit Go.Proofs.Ytoenamablkkocaa.Pm Go.Proofs.Ytoenamablkkocaa.Fs Go.Proofs.Ytoenamablkkocaa.Fa
attribute [-simp] BitVec.toNat_or BitVec.toNat_xor BitVec.toNat_add BitVec.toNat_and BitVec.toNat_not BitVec.toNat_shiftLeft BitVec.toNat_ushiftRight

def U1 (h : VH) (vn vs : Value) (i : Nat) (n : Nat) (s : Slots) (g : VH) : Prop := ∃ T Z, TS h g i T Z ∧ idleS T.ts = true ∧ T.sl = 0 ∧ s 0 = vn ∧ s 1 = vs ∧ s 5 = .pointer (some ⟨i, 0, none⟩) ∧ s 6 = .int .i64 (n : Int)
def U2 (vn vs vl : Value) (i : Nat) (g2 : VH) (n : Nat) (s : Slots) (g : VH) : Prop := g = g2 ∧ s 0 = vn ∧ s 1 = vs ∧ s 5 = .pointer (some ⟨i, 0, none⟩) ∧ s 7 = vl ∧ s 8 = .int .i64 ((n + 1 : Nat) : Int)
def U3 (h : VH) (vs vl : Value) (i L : Nat) (nn : List (List UInt8)) (m n : Nat) (s : Slots) (g : VH) : Prop := ∃ T Z, TS h g i T Z ∧ T.sl = m ∧ namesT T = nn ∧ OwnSl g 1 vl (strsV nn) L ∧ (∀ y ∈ idOf vl, y ∉ Z) ∧ s 1 = vs ∧ s 5 = .pointer (some ⟨i, 0, none⟩) ∧ s 7 = vl ∧ s 9 = .int .i64 (n : Int)
theorem step_none {T : Tb} (h : namesT T = []) : turnT T = [] ∧ (stepT T).1.some = false := by
  have h0 : T.ts = [] := by
    have := congrArg List.length h
    simp [namesT] at this
    exact this
  have h1 : turnT T = [] := by rw [turnT_names, h]; rfl
  refine ⟨h1, ?_⟩
  unfold stepT
  rw [h0]
  rfl
set_option maxHeartbeats 8000000 in
theorem turns_ok' {h : VH} {vn vs : Value} {nms : List (List UInt8)} {ops : List OpS} (hn : RowsAt h 1 vn (nms.map fun x => [.string (strB x)])) (hs : RowsAt h 5 vs (ops.map opC)) (l1 : nms.length ≤ 1048576) (l2 : ops.length ≤ 1048576) :
    PCalls Try.prog f_law21_SlotsTurns [vn, vs] h (fun u _ => u = .bool true) := by
  refine PCalls_of_pw st_law21_SlotsTurns (by simp [n_law21_SlotsTurns]) ?_
  rw [b_law21_SlotsTurns]
  unfold B_law21_SlotsTurns
  generalize hTL : PC.seq (PC.ops (gM 85 5 :: _)) _ = TL
  generalize hTM : PC.seq (PC.ops (gM 31 5 :: _)) _ = TM
  obtain ⟨na, nc, hvn⟩ := hn.shape
  obtain ⟨sa, sc, hvs⟩ := hs.shape
  obtain ⟨Ln, hLn⟩ : ∃ L, L = nms.length := ⟨_, rfl⟩
  obtain ⟨Ls, hLs⟩ : ∃ L, L = ops.length := ⟨_, rfl⟩
  rw [List.length_map, ← hLn] at hvn
  rw [List.length_map, ← hLs] at hvs
  simp (disch := first|omega|(simp only [np,ns];try omega)) []
  refine tnew_ok.mono ?_
  rintro u g0 ⟨i, Z0, rfl, K0, M0⟩
  have S0 : TS h g0 i tb0 Z0 := ⟨K0, tb0_ok, M0.fr, fun x hx => (M0.ids x hx).elim (by simp) id⟩
  have hee : ∀ x : List UInt8, ((strB x).toList == (strB x).toList) = true := fun x => by simp
  have hes : (strB []).toList = [] := by rw [strB_toList]
  have l0 : ∀ o : Sv, loadObj (.cells (svL o) true 1) 0 none = some (.int .i64 (o.slot : Int)) := fun o => rfl
  have tail : ∀ (vl : Value) (L : Nat) (nn : List (List UInt8)) (n : Nat) (s' : Slots) (g : VH) (Q : Exit → Slots → VH → Prop), nn.length = L → L ≤ 16 → n < 200 → U3 h vs vl i L nn n n s' g →
      (∀ s'' g'', U3 h vs vl i L nn (n + 1) n s'' g'' → Q .normal s'' g'') → pw Try.prog TL s' g Q := by
    rintro vl L nn n s' g Q hnL hL hn2 ⟨T, Z, S, hsl, hnn, ow, hdis, e1, e5, e7, e9⟩ hQ
    rw [← hTL]
    simp (disch := first|omega|(simp only [np,ns];try omega)) [e5]
    refine (turn_ok S.at_ S.ok).mono ?_
    rintro u g' ⟨rfl, hg'⟩
    rw [hg']
    simp (disch := first|omega|(simp only [np,ns];try omega)) [e5]
    refine (tstep_ok S.at_ S.ok (by omega)).mono ?_
    rintro u g1 ⟨rfl, Z', K1, M1⟩
    obtain ⟨o, ho⟩ : ∃ o, o = (stepT T).1 := ⟨_, rfl⟩
    obtain ⟨ho1, ho2⟩ := stepT_out T
    rw [← ho] at ho1 ho2 ⊢
    have S1 := S.step K1 M1 (stepT_ok S.ok)
    have ow1 : OwnSl g1 1 vl (strsV nn) L := ow.fr M1.fr hdis
    have hdis1 : ∀ y ∈ idOf vl, y ∉ Z' := fun y hy hz => by
      have h1 := ow.lt y hy
      rcases M1.ids y hz with h2 | h2
      · exact hdis y hy h2
      · omega
    obtain ⟨g2, hg2⟩ : ∃ g2, g2 = (g1.push (.cells zS true 1)).set g1.n (.cells (svL o) true 1) := ⟨_, rfl⟩
    have F2 : Fr g1 g2 [] := by rw [hg2]; exact Fr_set (Fr_push (Fr.refl _ _)) (Nat.le_refl _)
    have o2 : g2.get g1.n = .cells (svL o) true 1 := by rw [hg2, VH.get_set_same]
    have S2 := S1.fr0 F2
    have ow2 := ow1.fr F2 (fun _ _ => by simp)
    have fin : ∀ s'', s'' 1 = vs → s'' 5 = .pointer (some ⟨i, 0, none⟩) → s'' 7 = vl → s'' 9 = .int .i64 (n : Int) → Q .normal s'' g2 := fun s'' f1 f5 f7 f9 =>
      hQ s'' g2 ⟨_, Z', S2, by rw [stepT_sl, hsl], by rw [stepT_names, hnn], ow2, hdis1, f1, f5, f7, f9⟩
    have hsI : ((o.slot : Int) != (n : Int)) = false := by rw [ho1, hsl]; simp
    have hld1 : loadObj (.cells (svL o) true 1) 1 none = some (.string (strB (turnT T))) := by rw [← ho2]; rfl
    by_cases hL0 : L = 0
    · have hnn0 : namesT T = [] := by rw [hnn]; exact List.eq_nil_of_length_eq_zero (by omega)
      obtain ⟨ht, hsm⟩ := step_none hnn0
      rw [← ho] at hsm
      have hld5 : loadObj (.cells (svL o) true 1) 5 none = some (.bool false) := by rw [← hsm]; rfl
      subst hL0
      obtain ⟨va, vc, rfl⟩ := ow2.shapeN
      simp (disch := first|omega|(simp only [np,ns];try omega)) [zs_A, ← hg2, o2, hld1, hee, e9, e7, l0, hsI, ht, hes, hld5]
      refine fin _ ?_ ?_ ?_ ?_ <;> simp [upd_apply, e1, e5, e7, e9]
    · obtain ⟨k, hk⟩ : ∃ k, k = n % L := ⟨_, rfl⟩
      have hkL : k < L := by rw [hk]; exact Nat.mod_lt _ (by omega)
      have hkI : (k : Int) < (L : Int) := by omega
      have hrem : ((n : Int).tmod (L : Int)) = (k : Int) := by rw [hk]; rfl
      have hz : ((L : Int) == 0) = false := by simp; omega
      have hpos : (0 : Int) < (L : Int) := by omega
      have hpos' : 0 < L := by omega
      obtain ⟨q, o3, c, ds, hv, hq, hez, hld⟩ := strs_ld ow2 hnL hkL
      have ht : nn.getD k [] = turnT T := by rw [turnT_names, hnn, hnL, hsl, ← hk, List.getD_eq_getElem?_getD]
      rw [ht] at hld
      simp (disch := first|omega|(simp only [np,ns];try omega)) [zs_A, ← hg2, o2, hld1, hee, e9, e7, l0, hsI, hv, hpos, hpos', hz, hL0, hrem, hkL, hkI, hq, hez, hld]
      refine fin _ ?_ ?_ ?_ ?_ <;> simp [upd_apply, e1, e5, e7, e9, hv]
  have mid : ∀ (T : Tb) (Z : List Nat) (s' : Slots) (g : VH), TS h g i T Z → T.sl = 0 → s' 0 = vn → s' 1 = vs → s' 5 = .pointer (some ⟨i, 0, none⟩) → pw Try.prog TM s' g (F_law21_SlotsTurns.ret fun u _ => u = .bool true) := by
    intro T Z s' g S hsl e0 e1 e5
    rw [← hTM]
    simp (disch := first|omega|(simp only [np,ns];try omega)) [e5]
    refine (tenants_ok S.at_ S.ok).mono ?_
    rintro vl g2 ⟨ow, F2, ids2⟩
    have S2 := S.fr0 F2
    have hZ := S.at_.lt
    have hlen := S.ok.len
    obtain ⟨L, hL⟩ : ∃ L, L = T.ts.length := ⟨_, rfl⟩
    rw [← hL] at ow hlen
    have hnL : (namesT T).length = L := by rw [hL]; simp [namesT]
    have hpw : (namesT T).Pairwise (· < ·) := by
      unfold namesT
      rw [List.pairwise_map]
      exact S.ok.ord
    obtain ⟨va, vc, hvl⟩ := ow.shapeN
    simp (disch := first|omega|(simp only [np,ns];try omega)) []
    refine pw_loopN (U2 vn vs vl i g2) (L - 1) ?_ ?_
    · exact ⟨rfl, by simp [upd_apply, e0], by simp [upd_apply, e1], by simp [upd_apply, e5], by simp [upd_apply], by simp [upd_apply]⟩
    rintro n s g' hn ⟨hg', f0, f1, f5, f7, f8⟩
    rw [hg']
    obtain ⟨n1, hn1⟩ : ∃ n1, n1 = n + 1 := ⟨_, rfl⟩
    rw [← hn1] at f8
    by_cases hlt : n1 < L
    · have hltI : (n1 : Int) < (L : Int) := by omega
      obtain ⟨q, o3, c, ds, hv, hq, hez, hld⟩ := strs_ld ow hnL (show n < L by omega)
      obtain ⟨q', o3', c', ds', hv', hq', hez', hld'⟩ := strs_ld ow hnL hlt
      rw [hv] at hv'
      injection hv' with h1 _ h3
      injection h1 with h1
      injection h1 with h1 h2
      subst h1
      subst h2
      rw [hq] at hq'
      injection hq' with hq'
      subst hq'
      obtain ⟨x, hx⟩ : ∃ x, x = (namesT T).getD n [] := ⟨_, rfl⟩
      obtain ⟨y, hy⟩ : ∃ y, y = (namesT T).getD n1 [] := ⟨_, rfl⟩
      rw [← hx] at hld
      rw [← hy] at hld'
      have hxy : x < y := by
        have := (List.pairwise_iff_getElem.1 hpw) n n1 (by omega) (by omega) (by omega)
        rw [hx, hy, List.getD_eq_getElem?_getD, List.getD_eq_getElem?_getD, List.getElem?_eq_getElem (show n < (namesT T).length by omega), List.getElem?_eq_getElem (show n1 < (namesT T).length by omega)]
        exact this
      have hb : Op.bytesLess (strB x).toList (strB y).toList = true := by rw [strB_toList, strB_toList, bytesLess_eq]; simpa using hxy
      have hsub : IntKind.i64.wrap ((n1 : Int) - 1) = (n : Int) := by rw [i64_small (by omega) (by omega)]; omega
      have hkk : IntKind.i64.wrap ((n1 : Int) + 1) = ((n1 + 1 : Nat) : Int) := by rw [i64_small (by omega) (by omega)]; omega
      have hnL' : n < L := by omega
      have hnI : (n : Int) < (L : Int) := by omega
      simp (disch := first|omega|(simp only [np,ns];try omega)) [f7, f8, hv, hlt, hltI, hsub, hnL', hnI, hq, hez, hld, hld', hb, hkk]
      exact ⟨by omega, rfl, by simp [upd_apply, f0], by simp [upd_apply, f1], by simp [upd_apply, f5], by simp [upd_apply, f7, hv], by simp [upd_apply, hn1]⟩
    have hltI : ¬ (n1 : Int) < (L : Int) := by omega
    simp (disch := first|omega|(simp only [np,ns];try omega)) [f7, f8, hvl, hlt, hltI]
    refine pw_loopN (fun n => U3 h vs vl i L (namesT T) n n) (min 200 Ls) ?_ ?_
    · exact ⟨T, Z, S2, hsl, rfl, ow, fun y hy hz => by have := ids2 y hy; have := hZ y hz; omega, by simp [upd_apply, f1], by simp [upd_apply, f5], by simp [upd_apply, f7, hvl], by simp [upd_apply]⟩
    rintro n s g hnm ⟨T3, Z3, S3, hsl3, hnn3, ow3, hd3, e1, e5, e7, e9⟩
    rw [hvs] at e1
    by_cases hlt3 : n < Ls ∧ n < 200
    case neg =>
      by_cases hls : n < Ls
      · have h200 : ¬ n < 200 := fun h => hlt3 ⟨hls, h⟩
        have hlsI : (n : Int) < (Ls : Int) := by omega
        have h2I : ¬ (n : Int) < 200 := by omega
        simp (disch := first|omega|(simp only [np,ns];try omega)) [e1, e9, hls, hlsI, h200, h2I]
        refine (known_ok _).mono ?_
        rintro u g' ⟨rfl, hg'⟩
        simp (disch := first|omega|(simp only [np,ns];try omega)) [r_law21_SlotsTurns]
      · have hlsI : ¬ (n : Int) < (Ls : Int) := by omega
        simp (disch := first|omega|(simp only [np,ns];try omega)) [e1, e9, hls, hlsI]
        refine (known_ok _).mono ?_
        rintro u g' ⟨rfl, hg'⟩
        simp (disch := first|omega|(simp only [np,ns];try omega)) [r_law21_SlotsTurns]
    obtain ⟨hls, h200⟩ := hlt3
    have hlsI : (n : Int) < (Ls : Int) := by omega
    have h2I : (n : Int) < 200 := by omega
    have hkk : IntKind.i64.wrap ((n : Int) + 1) = ((n + 1 : Nat) : Int) := by rw [i64_small (by omega) (by omega)]; omega
    have hrn := hs.fr0 S3.fr
    rw [hvs] at hrn
    obtain ⟨q, o, hv, hq, hez, hagg, _⟩ := hrn.at_ (k := n) (by simp; omega)
    subst hv
    obtain ⟨p, hp⟩ : ∃ p, p = ops[n]'(by omega) := ⟨_, rfl⟩
    have hpe : (ops.map opC)[n]'(by simp; omega) = opC p := by simp [hp]
    rw [hpe] at hagg
    obtain ⟨off, hoff⟩ : ∃ off, off = o + n * 5 := ⟨_, rfl⟩
    rw [← hoff] at hagg
    have q0 : loadObj (g.get q) off none = some (.int .i64 p.k) := field_load (j := 0) hagg (by omega)
    have q1 : loadObj (g.get q) (off + 1) none = some (.string (strB p.nm)) := field_load (j := 1) hagg (by omega)
    have q3 : loadObj (g.get q) (off + 3) (some 2) = some (.agg #[.int .i64 p.j.id, .int .i64 p.j.cost]) := field_loadN (j := 3) (m := 2) hagg (by omega)
    by_cases hk1 : 1 ≤ p.k ∧ p.k ≤ 3
    · obtain ⟨h1, h3⟩ := hk1
      simp (disch := first|omega|(simp only [np,ns];try omega)) [e1, e5, e9, hls, hlsI, h200, h2I, hez, ← hoff, q0, q1, q3, h1, h3]
      refine (tpush_ok S3.at_ S3.ok (nm := p.nm) (q := p.j)).mono ?_
      rintro u g' ⟨rfl, Z', K', M'⟩
      simp (disch := first|omega|(simp only [np,ns];try omega)) []
      refine tail vl L (namesT T) n _ g' _ hnL hlen h200 ⟨_, Z', S3.step K' M' (pushT_ok S3.ok _ _), by rw [pushT_sl, hsl3], by rw [pushT_names, hnn3], ow3.fr M'.fr hd3, fun y hy hz => ?_, by simp [upd_apply, e1, hvs], by simp [upd_apply, e5], by simp [upd_apply, e7], by simp [upd_apply, e9]⟩ ?_
      · have := ow3.lt y hy
        rcases M'.ids y hz with h | h
        · exact hd3 y hy h
        · omega
      · rintro s'' g'' ⟨T4, Z4, S4, r1, r2, r3, r4, r5, r6, r7, r8⟩
        simp (disch := first|omega|(simp only [np,ns];try omega)) [r8, hkk]
        exact ⟨by omega, T4, Z4, S4, r1, r2, r3, r4, by simp [upd_apply, r5], by simp [upd_apply, r6], by simp [upd_apply, r7], by simp [upd_apply]⟩
    · have fin : ∀ s', s' 1 = vs → s' 5 = .pointer (some ⟨i, 0, none⟩) → s' 7 = vl → s' 9 = .int .i64 (n : Int) → U3 h vs vl i L (namesT T) n n s' g := fun s' r5 r6 r7 r8 => ⟨T3, Z3, S3, hsl3, hnn3, ow3, hd3, r5, r6, r7, r8⟩
      by_cases h1 : 1 ≤ p.k
      · have h3 : ¬ p.k ≤ 3 := fun h => hk1 ⟨h1, h⟩
        simp (disch := first|omega|(simp only [np,ns];try omega)) [e1, e5, e9, hls, hlsI, h200, h2I, hez, ← hoff, q0, h1, h3]
        refine tail vl L (namesT T) n _ g _ hnL hlen h200 (fin _ (by simp [upd_apply, e1, hvs]) (by simp [upd_apply, e5]) (by simp [upd_apply, e7]) (by simp [upd_apply, e9])) ?_
        rintro s'' g'' ⟨T4, Z4, S4, r1, r2, r3, r4, r5, r6, r7, r8⟩
        simp (disch := first|omega|(simp only [np,ns];try omega)) [r8, hkk]
        exact ⟨by omega, T4, Z4, S4, r1, r2, r3, r4, by simp [upd_apply, r5], by simp [upd_apply, r6], by simp [upd_apply, r7], by simp [upd_apply]⟩
      · simp (disch := first|omega|(simp only [np,ns];try omega)) [e1, e5, e9, hls, hlsI, h200, h2I, hez, ← hoff, q0, h1]
        refine tail vl L (namesT T) n _ g _ hnL hlen h200 (fin _ (by simp [upd_apply, e1, hvs]) (by simp [upd_apply, e5]) (by simp [upd_apply, e7]) (by simp [upd_apply, e9])) ?_
        rintro s'' g'' ⟨T4, Z4, S4, r1, r2, r3, r4, r5, r6, r7, r8⟩
        simp (disch := first|omega|(simp only [np,ns];try omega)) [r8, hkk]
        exact ⟨by omega, T4, Z4, S4, r1, r2, r3, r4, by simp [upd_apply, r5], by simp [upd_apply, r6], by simp [upd_apply, r7], by simp [upd_apply]⟩
  obtain ⟨m1, hm1⟩ : ∃ m, m = min 20 Ln := ⟨_, rfl⟩
  simp (disch := first|omega|(simp only [np,ns];try omega)) []
  refine pw_loopN (U1 h vn vs i) m1 ?_ ?_
  · exact ⟨tb0, Z0, S0, rfl, rfl, by simp [upd_apply, s0_apply], by simp [upd_apply, s0_apply], by simp [upd_apply, s0_apply], by simp [upd_apply, s0_apply]⟩
  rintro n s g hnm ⟨T, Z, S, hid, hsl, e0, e1, e5, e6⟩
  rw [hvn] at e0
  by_cases hlt : n < Ln ∧ n < 20
  · obtain ⟨hL, h20⟩ := hlt
    have hLI : (n : Int) < (Ln : Int) := by omega
    have h20I : (n : Int) < 20 := by omega
    have hkk : IntKind.i64.wrap ((n : Int) + 1) = ((n + 1 : Nat) : Int) := by rw [i64_small (by omega) (by omega)]; omega
    have hrn := hn.fr0 S.fr
    rw [hvn] at hrn
    obtain ⟨q, o, hv, hq, hez, _, hld⟩ := hrn.at_ (k := n) (by simp; omega)
    subst hv
    have hld := hld (.string (strB (nms[n]'(by omega)))) (by simp)
    rw [Nat.mul_one] at hld
    simp (disch := first|omega|(simp only [np,ns];try omega)) [e0, e5, e6, hL, hLI, h20, h20I, hez, hld]
    refine (tset_ok S.at_ S.ok hid (nm := nms[n]'(by omega)) (w := 1)).mono ?_
    rintro u g' ⟨rfl, Z', K', M'⟩
    simp (disch := first|omega|(simp only [np,ns];try omega)) [e0, e1, e5, e6, hkk]
    exact ⟨by omega, _, Z', S.step K' M' (setT_ok S.ok _ _), idle_set hid _ _, by rw [set_sl, hsl], by simp [upd_apply, e0, hvn], by simp [upd_apply, e1], by simp [upd_apply, e5], by simp [upd_apply]⟩
  by_cases hL : n < Ln
  · have h20 : ¬ n < 20 := fun h => hlt ⟨hL, h⟩
    have hLI : (n : Int) < (Ln : Int) := by omega
    have h20I : ¬ (n : Int) < 20 := by omega
    simp (disch := first|omega|(simp only [np,ns];try omega)) [e0, e6, hL, hLI, h20, h20I]
    exact mid T Z _ _ S hsl (by simp [upd_apply, e0, hvn]) (by simp [upd_apply, e1]) (by simp [upd_apply, e5])
  · have hLI : ¬ (n : Int) < (Ln : Int) := by omega
    simp (disch := first|omega|(simp only [np,ns];try omega)) [e0, e6, hL, hLI]
    exact mid T Z _ _ S hsl (by simp [upd_apply, e0, hvn]) (by simp [upd_apply, e1]) (by simp [upd_apply, e5])
theorem turns_law {h : VH} {us : List Value} {k : Nat} (H : ShA h [.sl 1 .str, .sl 5 opT] us k) (hk : k ≤ 1048576) :
    PCalls Try.prog f_law21_SlotsTurns us h (fun u h' => u = .bool true ∧ h' = h) := by
  obtain ⟨v1, r1, k1, k2, rfl, h1, ⟨v2, r2, k3, k4, rfl, h2, ⟨rfl, _⟩, h5⟩, h6⟩ := H
  obtain ⟨nms, w1, w2⟩ := Sh.strsL (h := h) h1
  obtain ⟨ops, b1, b2⟩ := Sh.ops (h := h) h2
  exact ((turns_ok' w1.ro b1.ro (by omega) (by omega)).mono fun u _ e => by subst e; exact ⟨rfl, rfl⟩).drop
end Go.Proofs.Ytoenamablkkocaa.Sl
