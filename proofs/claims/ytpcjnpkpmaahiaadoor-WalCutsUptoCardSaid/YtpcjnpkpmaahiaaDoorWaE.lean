/- wal, part E: the good frame at the beginning of bytes. -/
import Derived.Test.YtpcjnpkpmaahiaaDoorWaC
import Derived.Test.YtpcjnpkpmaahiaaDoorWaD
set_option linter.unusedVariables false
set_option linter.unusedSimpArgs false
set_option maxRecDepth 100000
namespace Go.Proofs.YtpcjnpkpmaahiaaDoor.Wa
open Go Go.RowKit Go.Proofs.YtpcjnpkpmaahiaaDoor.Pm Go.Proofs.YtpcjnpkpmaahiaaDoor.Fs
attribute [-simp] BitVec.toNat_or BitVec.toNat_xor BitVec.toNat_add BitVec.toNat_and BitVec.toNat_not BitVec.toNat_shiftLeft BitVec.toNat_ushiftRight

theorem cl_zero {g : VH} {p q : Nat} {x y : Value} (h3 : g.get p = .cells [.int .i64 0] true 1) (h2 : g.get q = .cells [x, y] true 1) :
    PCallsD Tryd.prog f_wal_cut_1 [.pointer (some ⟨p, 0, none⟩), .pointer (some ⟨q, 0, none⟩)] g (fun g' => g' = g.set q (.cells [.int .u64 0, .slice none 0 0] true 1)) := by
  refine PCallsD_of_pw st0_wal_cut_1 (by simp [n_wal_cut_1]) ?_
  rw [b_wal_cut_1]
  have ld : loadObj (.cells [Value.int .i64 0] true 1) 0 none = some (.int .i64 0) := rfl
  have hf : fillC [.int .u64 0, .slice none 0 0] [] = some [.int .u64 0, .slice none 0 0] := rfl
  have st : storeObj (.cells [x, y] true 1) 0 2 (.agg #[.int .u64 0, .slice none 0 0]) = some (.cells [.int .u64 0, .slice none 0 0] true 1) := rfl
  simp (disch := first|omega|(simp only [np,ns];try omega)) [r_wal_cut_1, B_wal_cut_1, h3, h2, ld, hf, st]
theorem cl_pos {g : VH} {p q n : Nat} (hn : 0 < n) (h3 : g.get p = .cells [.int .i64 (n : Int)] true 1) :
    PCallsD Tryd.prog f_wal_cut_1 [.pointer (some ⟨p, 0, none⟩), .pointer (some ⟨q, 0, none⟩)] g (fun g' => g' = g) := by
  refine PCallsD_of_pw st0_wal_cut_1 (by simp [n_wal_cut_1]) ?_
  rw [b_wal_cut_1]
  have ld : loadObj (.cells [Value.int .i64 (n : Int)] true 1) 0 none = some (.int .i64 (n : Int)) := rfl
  have hz : ((n : Int) == 0) = false := by simp; omega
  have hz' : ¬ n = 0 := by omega
  simp (disch := first|omega|(simp only [np,ns];try omega)) [r_wal_cut_1, B_wal_cut_1, h3, ld, hz, hz']
def CutP (h : VH) (bs : List UInt8) (u : Value) (h' : VH) : Prop := ∃ w, u = .tuple #[.agg (numL (cutS bs).1 w).toArray, .int .i64 ((cutS bs).2.2 : Int)] ∧ (∃ a k c, w = .slice a k c) ∧ Buf h h' w (cutS bs).2.1
def cutD (p : Nat) : DL := [(53, [.pointer (some ⟨p + 1, 0, none⟩), .pointer (some ⟨p, 0, none⟩)])]
theorem cut_bad {h g : VH} {bs : List UInt8} {s : Slots} {x y : Value} (hc : cutS bs = badC) (e2 : s 2 = .pointer (some ⟨h.n, 0, none⟩)) (e3 : s 3 = .pointer (some ⟨h.n + 1, 0, none⟩)) (F : Fr h g []) (hn : h.n + 2 ≤ g.n)
    (h3 : g.get (h.n + 1) = .cells [.int .i64 0] true 1) (h2 : g.get h.n = .cells [x, y] true 1) : F_wal_cut.ret Tryd.prog (CutP h bs) .ret s g (cutD h.n) := by
  rw [retD_ret]
  show runD Tryd.prog ((53, _) :: []) g _
  rw [runD_cons]
  refine (cl_zero h3 h2).mono ?_
  rintro g' rfl
  rw [runD_nil, kDr_at (v := .tuple #[.agg #[.int .u64 0, .slice none 0 0], .int .i64 0])]
  · refine ⟨.slice none 0 0, by rw [hc]; rfl, ⟨_, _, _, rfl⟩, ?_⟩
    rw [hc]
    exact ⟨OwnSl.nil _ _, Fr_set F (Nat.le_refl _), fun i hi => by simp [idOf] at hi⟩
  · have l2 : loadObj (.cells [Value.int .u64 0, .slice none 0 0] true 1) 0 (some 2) = some (.agg #[.int .u64 0, .slice none 0 0]) := rfl
    have ld : loadObj (.cells [Value.int .i64 0] true 1) 0 none = some (.int .i64 0) := rfl
    rw [r_wal_cut]
    simp [resV, resL, resOne, e2, e3, h3, l2, ld]
theorem cut_good {h g : VH} {bs : List UInt8} {s : Slots} {w : Value} {q n : Nat} {b : List UInt8} (hc : cutS bs = (q, b, n)) (hpos : 0 < n) (e2 : s 2 = .pointer (some ⟨h.n, 0, none⟩)) (e3 : s 3 = .pointer (some ⟨h.n + 1, 0, none⟩))
    (h3 : g.get (h.n + 1) = .cells [.int .i64 (n : Int)] true 1) (h2 : g.get h.n = .cells (numL q w) true 1) (B : Buf h g w b) : F_wal_cut.ret Tryd.prog (CutP h bs) .ret s g (cutD h.n) := by
  rw [retD_ret]
  show runD Tryd.prog ((53, _) :: []) g _
  rw [runD_cons]
  refine (cl_pos hpos h3).mono ?_
  rintro g' rfl
  obtain ⟨a, c, hw⟩ := B.shape
  rw [runD_nil, kDr_at (v := .tuple #[.agg (numL q w).toArray, .int .i64 (n : Int)])]
  · exact ⟨w, by rw [hc], ⟨_, _, _, hw⟩, by rw [hc]; exact B⟩
  · have l2 : loadObj (.cells (numL q w) true 1) 0 (some 2) = some (.agg (numL q w).toArray) := rfl
    have ld : loadObj (.cells [Value.int .i64 (n : Int)] true 1) 0 none = some (.int .i64 (n : Int)) := rfl
    rw [r_wal_cut]
    simp [resV, resL, resOne, e2, e3, h3, h2, l2, ld]
set_option maxHeartbeats 4000000 in
theorem cut_ok {h : VH} {v : Value} {bs : List UInt8} (hb : IsBytes h v bs) (hl : bs.length ≤ 100000000) : PCalls Tryd.prog f_wal_cut [v] h (CutP h bs) := by
  refine PCalls_of_pd st_wal_cut (by simp [n_wal_cut]) ?_
  rw [b_wal_cut]
  obtain ⟨L, hL⟩ : ∃ L, L = bs.length := ⟨_, rfl⟩
  obtain ⟨va, vc, hv⟩ := hb.shape
  rw [← hL] at hv
  obtain ⟨g0, hg0⟩ : ∃ g0, g0 = (h.push (.cells [.int .u64 0, .slice none 0 0] true 1)).push (.cells [.int .i64 0] true 1) := ⟨_, rfl⟩
  have F0 : Fr h g0 [] := by rw [hg0]; exact Fr_push (Fr_push (Fr.refl _ _))
  have n0 : g0.n = h.n + 2 := by rw [hg0]; rfl
  have x0 : g0.get h.n = .cells [.int .u64 0, .slice none 0 0] true 1 := by rw [hg0, VH.get_push_lt _ _ (by simp), VH.get_push_new]
  have c0 : g0.get (h.n + 1) = .cells [.int .i64 0] true 1 := by rw [hg0]; exact VH.get_push_new (h.push _) _
  have hb0 := hb.fr F0 (fun _ _ => by simp)
  simp (disch := first|omega|(simp only [np,ns];try omega)) [B_wal_cut, pd_seq, pd_code, kDs_normal, kDc_at, pd_ops, ← hg0]
  rw [kDo_at (g := 53) (first := #[]) (cap := #[.pointer (some ⟨h.n + 1, 0, none⟩), .pointer (some ⟨h.n, 0, none⟩)]) (by simp [upd_apply]) (by kernel_rfl)]
  show kDs _ _ _ _ _ _ (cutD h.n)
  simp (disch := first|omega|(simp only [np,ns];try omega)) [pd_code, kDs_normal]
  obtain ⟨G, hG⟩ : ∃ G, G = getS 0 0 bs := ⟨_, rfl⟩
  have hgs := getS_spec bs 0 0 (by omega) (by omega)
  have hget := get_ok hb0 (at_ := 0) (Nat.zero_le _) (by omega)
  rw [List.drop_zero] at hget
  rw [← hG] at hget hgs
  have hget' : PCalls Tryd.prog f_wire_Get [v, .int .i64 0] g0 _ := hget
  refine hget'.mono ?_
  rintro u g1 ⟨rfl, hg1⟩
  rw [hg1]
  have l2 : loadObj (.cells [Value.int .u64 0, .slice none 0 0] true 1) 0 (some 2) = some (.agg #[.int .u64 0, .slice none 0 0]) := rfl
  have s2 : storeObj (.cells [Value.int .u64 0, .slice none 0 0] true 1) 0 2 (.agg #[.int .u64 0, .slice none 0 0]) = some (.cells [.int .u64 0, .slice none 0 0] true 1) := rfl
  have s1 : ∀ a b : Int, storeObj (.cells [Value.int .i64 a] true 1) 0 1 (.int .i64 b) = some (.cells [.int .i64 b] true 1) := fun _ _ => rfl
  obtain ⟨q, n1, e1⟩ := G
  simp only at hgs ⊢
  obtain ⟨hq64, hn1, he1⟩ := hgs
  have bad : ∀ (s' : Slots) (a : Int), cutS bs = badC → s' 2 = .pointer (some ⟨h.n, 0, none⟩) → s' 3 = .pointer (some ⟨h.n + 1, 0, none⟩) →
      F_wal_cut.ret Tryd.prog (CutP h bs) .ret s' ((g0.set h.n (.cells [.int .u64 0, .slice none 0 0] true 1)).set (h.n + 1) (.cells [.int .i64 0] true 1)) (cutD h.n) := fun s' a hc e2 e3 =>
    cut_bad hc e2 e3 (Fr_set (Fr_set F0 (Nat.le_refl _)) (by omega)) (by show h.n + 2 ≤ g0.n; omega) (VH.get_set_same _ _ _) (by rw [VH.get_set_ne _ _ (by omega), VH.get_set_same])
  by_cases hE : e1 = 0
  case neg =>
    have hEI : (e1 != 0) = true := by simpa using hE
    have hc : cutS bs = badC := by unfold cutS; rw [← hG]; rw [if_pos (.inl hE)]
    simp (disch := first|omega|(simp only [np,ns];try omega)) [hE, hEI, x0, c0, l2, s2, s1, kDc_at]
    exact bad _ 0 hc (by simp [upd_apply]) (by simp [upd_apply])
  subst hE
  obtain ⟨hn1a, hn1b⟩ := hn1 rfl
  by_cases hq0 : q = 0
  · have hqI : ((q : Int) == 0) = true := by simp [hq0]
    have hc : cutS bs = badC := by unfold cutS; rw [← hG]; rw [if_pos (.inr hq0)]
    simp (disch := first|omega|(simp only [np,ns];try omega)) [hq0, hqI, x0, c0, l2, s2, s1, kDc_at]
    exact bad _ 0 hc (by simp [upd_apply]) (by simp [upd_apply])
  have hqI : ((q : Int) == 0) = false := by simpa using hq0
  obtain ⟨N, hN⟩ : ∃ N, N = 0 + n1 := ⟨_, rfl⟩
  have hNe : N = n1 := by omega
  rw [← hN]
  simp (disch := first|omega|(simp only [np,ns];try omega)) [hq0, hqI]
  have hget2 := get_ok hb0 (at_ := N) (by omega) (by omega)
  obtain ⟨G2, hG2⟩ : ∃ G2, G2 = getS 0 0 (bs.drop N) := ⟨_, rfl⟩
  have hgs2 := getS_spec (bs.drop N) 0 0 (by omega) (by omega)
  rw [← hG2] at hget2 hgs2
  refine hget2.mono ?_
  rintro u g2 ⟨rfl, hg2⟩
  rw [hg2]
  obtain ⟨z, n2, e2⟩ := G2
  simp only at hgs2 ⊢
  obtain ⟨hz64, hn2, he2⟩ := hgs2
  rw [List.length_drop, ← hL] at hn2
  have hcut : cutS bs = cut2 bs q n1 (z, n2, e2) := by
    unfold cutS
    rw [← hG]
    simp only
    rw [if_neg (by simp; exact hq0), ← hNe, ← hG2]
  rw [hv]
  by_cases hE2 : e2 = 0
  case neg =>
    have hEI : (e2 != 0) = true := by simpa using hE2
    have hc : cutS bs = badC := by rw [hcut]; unfold cut2; rw [if_pos (.inl hE2)]
    simp (disch := first|omega|(simp only [np,ns];try omega)) [hE2, hEI, x0, c0, l2, s2, s1, kDc_at]
    exact bad _ 0 hc (by simp [upd_apply]) (by simp [upd_apply])
  subst hE2
  obtain ⟨hn2a, hn2b⟩ := hn2 rfl
  by_cases hz : 65536 < z
  · have hzI : (65536 : Int) < (z : Int) := by omega
    have hc : cutS bs = badC := by rw [hcut]; unfold cut2; rw [if_pos (.inr (.inl hz))]
    simp (disch := first|omega|(simp only [np,ns];try omega)) [hz, hzI, x0, c0, l2, s2, s1, kDc_at]
    exact bad _ 0 hc (by simp [upd_apply]) (by simp [upd_apply])
  have hzI : ¬ (65536 : Int) < (z : Int) := by omega
  obtain ⟨A, hA⟩ : ∃ A, A = N + n2 := ⟨_, rfl⟩
  rw [← hA]
  obtain ⟨D, hD⟩ : ∃ D, D = L - A := ⟨_, rfl⟩
  have eD : IntKind.i64.wrap ((L : Int) - (A : Int)) = (D : Int) := by rw [i64_small (by omega) (by omega)]; omega
  have ez : IntKind.i64.wrap (z : Int) = (z : Int) := i64_small (by omega) (by omega)
  by_cases hzD : D < z
  · have hzDI : (D : Int) < (z : Int) := by omega
    have hc : cutS bs = badC := by rw [hcut]; unfold cut2; rw [if_pos (.inr (.inr (by simp only; omega)))]
    simp (disch := first|omega|(simp only [np,ns];try omega)) [hz, hzI, eD, ez, hzD, hzDI, x0, c0, l2, s2, s1, kDc_at]
    exact bad _ 0 hc (by simp [upd_apply]) (by simp [upd_apply])
  have hzDI : ¬ (D : Int) < (z : Int) := by omega
  obtain ⟨i, o, c, hi, hcL, hvs, hat⟩ := nil_at hb0 (by omega)
  rw [← hL] at hcL hvs
  rw [hv] at hvs
  injection hvs with hva _ hvc
  obtain ⟨E, hE⟩ : ∃ E, E = A + z := ⟨_, rfl⟩
  have eE : IntKind.i64.wrap ((A : Int) + (z : Int)) = (E : Int) := by rw [i64_small (by omega) (by omega)]; omega
  have hEA : E - A = z := by omega
  have hAE : A ≤ E := by omega
  have hEc : E ≤ c := by omega
  have hez := hat.esz
  obtain ⟨b, hbd⟩ : ∃ b, b = (bs.drop A).take z := ⟨_, rfl⟩
  have hblen : b.length = z := by rw [hbd, List.length_take, List.length_drop]; omega
  have hsub : IsBytes g0 (.slice (some ⟨i, o + A, none⟩) z (c - A)) b := by rw [hbd]; exact isB_sub hi hat (by omega) (by omega)
  have hsrc := hsub.src
  obtain ⟨w, g3, hap, B3⟩ := isB_app hsub (by omega)
  rw [hblen] at hap
  obtain ⟨wa, wc, hw⟩ := B3.shape
  have hcut3 : cutS bs = if frameS q b = bs.take (frameS q b).length then (q, b, (frameS q b).length) else badC := by
    rw [hcut]
    unfold cut2
    simp only
    rw [if_neg (by simp only [ne_eq, not_true, false_or]; omega), show n1 + n2 = A by omega, ← hbd]
  have n3 := B3.fr.n
  have x3 := (B3.fr.get h.n (by omega) (by simp)).trans x0
  have c3 := (B3.fr.get (h.n + 1) (by omega) (by simp)).trans c0
  obtain ⟨g4, hg4⟩ : ∃ g4, g4 = g3.set h.n (.cells (numL q w) true 1) := ⟨_, rfl⟩
  have F4 : Fr g3 g4 [h.n] := by rw [hg4]; exact Fr.set _ _ (by simp)
  have n4 : g4.n = g3.n := by rw [hg4]; rfl
  have x4 : g4.get h.n = .cells (numL q w) true 1 := by rw [hg4, VH.get_set_same]
  have c4 := (F4.get (h.n + 1) (by omega) (by simp)).trans c3
  have hfi : fillC [.int .u64 0, .slice none 0 0] [(0, 1, .int .u64 (q : Int)), (1, 1, w)] = some (numL q w) := by rw [hw]; rfl
  have hst : storeObj (.cells [.int .u64 0, .slice none 0 0] true 1) 0 2 (.agg (numL q w).toArray) = some (.cells (numL q w) true 1) := by rw [hw]; rfl
  have hst2 : storeObj (.cells (numL q w) true 1) 0 2 (.agg (numL q w).toArray) = some (.cells (numL q w) true 1) := by rw [hw]; rfl
  have hld : loadObj (.cells (numL q w) true 1) 0 (some 2) = some (.agg (numL q w).toArray) := rfl
  have own4 : OwnSl g4 1 w (u8s b) b.length := B3.own.fr F4 (fun y hy hyh => by simp at hyh; have := B3.ids y hy; omega)
  subst hva
  subst hvc
  simp (disch := first|omega|(simp only [np,ns];try omega)) [hz, hzI, eD, ez, hzD, hzDI, eE, hEA, hAE, hEc, hez, hsrc, hap, hfi, x3, hst, ← hg4, x4, hld]
  have hB4 : IsBytes g4 w b := own4.bytes
  refine (frame_ok hB4 hq64 (by omega)).mono ?_
  rintro u g5 ⟨⟨ua, uk, uc, rfl⟩, B5⟩
  obtain ⟨FL, hFL⟩ : ∃ FL, FL = (frameS q b).length := ⟨_, rfl⟩
  obtain ⟨ua', uc', hu⟩ := B5.shape
  rw [← hFL] at hu
  injection hu with hu1 hu2 hu3
  have hu2 := hu2.symm
  subst hu1; subst hu2; subst hu3
  have F5 := B5.fr
  have n5 := F5.n
  have x5 := (F5.get h.n (by omega) (by simp)).trans x4
  have c5 := (F5.get (h.n + 1) (by omega) (by simp)).trans c4
  have own5 := own4.fr F5 (fun _ _ => by simp)
  have F05 : Fr h g5 [] := ((F0.trans B3.fr).trans' F4 (fun y hy => by simp at hy; exact .inr (by omega))).trans F5
  have bad5 : ∀ (s' : Slots), cutS bs = badC → s' 2 = .pointer (some ⟨h.n, 0, none⟩) → s' 3 = .pointer (some ⟨h.n + 1, 0, none⟩) →
      F_wal_cut.ret Tryd.prog (CutP h bs) .ret s' ((g5.set h.n (.cells (numL q w) true 1)).set (h.n + 1) (.cells [.int .i64 0] true 1)) (cutD h.n) := fun s' hc e2 e3 =>
    cut_bad (x := .int .u64 (q : Int)) (y := w) hc e2 e3 (Fr_set (Fr_set F05 (Nat.le_refl _)) (by omega)) (by show h.n + 2 ≤ g5.n; omega) (VH.get_set_same _ _ _) (by rw [VH.get_set_ne _ _ (by omega), VH.get_set_same]; rfl)
  by_cases hlong : bs.length < FL
  · rw [← hL] at hlong
    have hlongI : (L : Int) < (FL : Int) := by omega
    have hc : cutS bs = badC := by
      rw [hcut3, if_neg]
      intro he
      have := congrArg List.length he
      rw [List.length_take] at this
      omega
    simp (disch := first|omega|(simp only [np,ns];try omega)) [hlong, hlongI, x5, c5, hld, hst2, s1, kDc_at]
    exact bad5 _ hc (by simp [upd_apply]) (by simp [upd_apply])
  rw [← hL] at hlong
  have hlongI : ¬ (L : Int) < (FL : Int) := by omega
  have hg05 : Fr g0 g5 [h.n] := (((B3.fr.sub (by simp)).trans F4)).trans (F5.sub (by simp))
  have hi_lt : i < h.n := by
    have := hb.cases
    rw [hv] at this
    rcases this with ⟨h1, _⟩ | ⟨i', o', c', h1, h2, h3, h4⟩
    · injection h1 with h1; cases h1
    · injection h3 with h3
      injection h3 with h3
      injection h3 with h3
      omega
  have hat5 : BytesAt g5 i o bs := hat.congr (hg05.get i hi (by simp; omega))
  have hez5 := hat5.esz
  have ofT : ofB g5 (.slice (some ⟨i, o, none⟩) FL vc) = some (.string (strB (bs.take FL)), g5) := ofB_eq (by
    have := isB_sub (a := 0) (n := FL) (c := vc) (by omega) hat5 (by omega) (by omega)
    simpa using this)
  have ofU : ofB g5 (.slice ua FL uc) = some (.string (strB (frameS q b)), g5) := ofB_eq B5.is
  have hFLc : FL ≤ vc := by omega
  by_cases heq : frameS q b = bs.take FL
  · have hsb : ((strB (frameS q b)).toList == (strB (bs.take FL)).toList) = true := by rw [← heq]; simp
    have hc : cutS bs = (q, b, FL) := by rw [hcut3, ← hFL, if_pos heq]
    have hpos : 0 < FL := by have := frame_pos q b; omega
    simp (disch := first|omega|(simp only [np,ns];try omega)) [hlong, hlongI, hez5, hFLc, ofT, ofU, hsb, x5, c5, hld, hst2, s1, kDc_at]
    have fin : ∀ s' : Slots, s' 2 = .pointer (some ⟨h.n, 0, none⟩) → s' 3 = .pointer (some ⟨h.n + 1, 0, none⟩) → F_wal_cut.ret Tryd.prog (CutP h bs) .ret s' ((g5.set h.n (.cells (numL q w) true 1)).set (h.n + 1) (.cells [.int .i64 (FL : Int)] true 1)) (cutD h.n) := fun s' e2 e3 =>
      cut_good hc hpos e2 e3 (VH.get_set_same _ _ _) (by rw [VH.get_set_ne _ _ (by omega), VH.get_set_same]) ⟨(own5.fr (Fr.set g5 _ (X := [h.n]) (by simp)) (fun y hy hyh => by simp at hyh; have := B3.ids y hy; omega)).fr (Fr.set _ _ (X := [h.n + 1]) (by simp)) (fun y hy hyh => by simp at hyh; have := B3.ids y hy; omega), Fr_set (Fr_set F05 (Nat.le_refl _)) (by omega), fun y hy => by have := B3.ids y hy; omega⟩
    refine fin _ ?_ ?_ <;> simp [upd_apply]
  · have hsb : ((strB (frameS q b)).toList == (strB (bs.take FL)).toList) = false := by rw [strB_toList, strB_toList]; simpa using heq
    have hc : cutS bs = badC := by rw [hcut3, ← hFL, if_neg heq]
    simp (disch := first|omega|(simp only [np,ns];try omega)) [hlong, hlongI, hez5, hFLc, ofT, ofU, hsb, x5, c5, hld, hst2, s1, kDc_at]
    refine bad5 _ hc ?_ ?_ <;> simp [upd_apply]
end Go.Proofs.YtpcjnpkpmaahiaaDoor.Wa
