/- audit, part U: entries held against a tenant's digest (the program, the reference). -/
import Derived.Test.YtdnkpgbggpbgaaaAuL
import Derived.Test.YtdnkpgbggpbgaaaAuN
import Derived.Test.YtdnkpgbggpbgaaaWrR
import Derived.Test.YtdnkpgbggpbgaaaAuM
set_option linter.unusedVariables false
set_option linter.unusedSimpArgs false
set_option maxRecDepth 100000
namespace Go.Proofs.Ytdnkpgbggpbgaaa.Au
open Go Go.RowKit Go.Proofs.Ytdnkpgbggpbgaaa.Pm Go.Proofs.Ytdnkpgbggpbgaaa.Fs Go.Proofs.Ytdnkpgbggpbgaaa.Wr Go.Proofs.Ytdnkpgbggpbgaaa.Sha



theorem u8s_put' (l : List UInt8) (p : Nat) (b : UInt8) : (u8s l).set p (.int .u8 (b.toNat : Int)) = u8s (l.set p b) := by
  simp [u8s, List.map_set]
theorem zset {l : List UInt8} (hl : l.length = 32) {k : Nat} (hk : k < 32) : (u8s (l.take k ++ zero32.drop k)).set k (.int .u8 ((l[k]'(by omega)).toNat : Int)) = u8s (l.take (k + 1) ++ zero32.drop (k + 1)) := by
  rw [u8s_put']
  congr 1
  have h1 : (l.take k).length = k := by simp; omega
  rw [List.set_append_right _ _ (by omega), h1, Nat.sub_self]
  have h2 : zero32.drop k = 0 :: zero32.drop (k + 1) := by
    rw [List.drop_eq_getElem_cons (by rw [zero32_len]; omega)]
    congr 1
    exact List.getElem_replicate _
  rw [h2, List.set_cons_zero, List.take_succ_eq_append_getElem (by omega), List.append_assoc]
  rfl

set_option maxHeartbeats 8000000 in
theorem rread09_ok {h : VH} {v : Value} {bs : List UInt8} (hb : IsBytes h v bs) (hlen : bs.length ≤ 1000000000) :
    PCalls Try.prog f_ref09_Read [v] h (ReadEP h bs) := by
  refine PCalls_of_pw st_ref09_Read (by simp [n_ref09_Read]) ?_
  rw [b_ref09_Read]
  obtain ⟨va, vc, rfl⟩ := hb.shape
  obtain ⟨L, hL⟩ : ∃ L, L = bs.length := ⟨_, rfl⟩
  rw [← hL]
  rw [← hL] at hb
  obtain ⟨Q, hQ⟩ : ∃ Q, Q = okS bs := ⟨_, rfl⟩
  have hP0 : Q = false → ∀ g, Fr h g [] → ReadEP h bs (.tuple #[enV ⟨[], 0, [], []⟩ (.slice none 0 0), digV zero32, .bool false]) g := by
    intro h0 g hf
    refine ⟨hf, ?_⟩
    rw [← hQ, h0, if_neg (by simp)]
  obtain ⟨g0, hg0⟩ : ∃ g0, g0 = ((h.push (.cells [.string ⟨#[]⟩, .int .i64 0, .string ⟨#[]⟩, .slice none 0 0] true 1)).push (.cells [.int .u8 0, .int .u8 0, .int .u8 0, .int .u8 0, .int .u8 0, .int .u8 0, .int .u8 0, .int .u8 0, .int .u8 0, .int .u8 0, .int .u8 0, .int .u8 0, .int .u8 0, .int .u8 0, .int .u8 0, .int .u8 0, .int .u8 0, .int .u8 0, .int .u8 0, .int .u8 0, .int .u8 0, .int .u8 0, .int .u8 0, .int .u8 0, .int .u8 0, .int .u8 0, .int .u8 0, .int .u8 0, .int .u8 0, .int .u8 0, .int .u8 0, .int .u8 0] true 1)).push (.cells [.int .u8 0, .int .u8 0, .int .u8 0, .int .u8 0, .int .u8 0, .int .u8 0, .int .u8 0, .int .u8 0, .int .u8 0, .int .u8 0, .int .u8 0, .int .u8 0, .int .u8 0, .int .u8 0, .int .u8 0, .int .u8 0, .int .u8 0, .int .u8 0, .int .u8 0, .int .u8 0, .int .u8 0, .int .u8 0, .int .u8 0, .int .u8 0, .int .u8 0, .int .u8 0, .int .u8 0, .int .u8 0, .int .u8 0, .int .u8 0, .int .u8 0, .int .u8 0] true 1) := ⟨_, rfl⟩
  have F0 : Fr h g0 [] := by rw [hg0]; exact Fr_push (Fr_push (Fr_push (Fr.refl _ _)))
  have n0 : g0.n = h.n + 3 := by rw [hg0]; simp
  obtain ⟨p3a, p3b, p3c, _⟩ := VH.get_push3 h (.cells [.string ⟨#[]⟩, .int .i64 0, .string ⟨#[]⟩, .slice none 0 0] true 1) (.cells [.int .u8 0, .int .u8 0, .int .u8 0, .int .u8 0, .int .u8 0, .int .u8 0, .int .u8 0, .int .u8 0, .int .u8 0, .int .u8 0, .int .u8 0, .int .u8 0, .int .u8 0, .int .u8 0, .int .u8 0, .int .u8 0, .int .u8 0, .int .u8 0, .int .u8 0, .int .u8 0, .int .u8 0, .int .u8 0, .int .u8 0, .int .u8 0, .int .u8 0, .int .u8 0, .int .u8 0, .int .u8 0, .int .u8 0, .int .u8 0, .int .u8 0, .int .u8 0] true 1) (.cells [.int .u8 0, .int .u8 0, .int .u8 0, .int .u8 0, .int .u8 0, .int .u8 0, .int .u8 0, .int .u8 0, .int .u8 0, .int .u8 0, .int .u8 0, .int .u8 0, .int .u8 0, .int .u8 0, .int .u8 0, .int .u8 0, .int .u8 0, .int .u8 0, .int .u8 0, .int .u8 0, .int .u8 0, .int .u8 0, .int .u8 0, .int .u8 0, .int .u8 0, .int .u8 0, .int .u8 0, .int .u8 0, .int .u8 0, .int .u8 0, .int .u8 0, .int .u8 0] true 1)
  rw [← hg0] at p3a p3b p3c
  have hfE : fillC [.string ⟨#[]⟩, .int .i64 0, .string ⟨#[]⟩, .slice none 0 0] [] = some [.string ⟨#[]⟩, .int .i64 0, .string ⟨#[]⟩, .slice none 0 0] := rfl
  have hfD : fillC [.int .u8 0, .int .u8 0, .int .u8 0, .int .u8 0, .int .u8 0, .int .u8 0, .int .u8 0, .int .u8 0, .int .u8 0, .int .u8 0, .int .u8 0, .int .u8 0, .int .u8 0, .int .u8 0, .int .u8 0, .int .u8 0, .int .u8 0, .int .u8 0, .int .u8 0, .int .u8 0, .int .u8 0, .int .u8 0, .int .u8 0, .int .u8 0, .int .u8 0, .int .u8 0, .int .u8 0, .int .u8 0, .int .u8 0, .int .u8 0, .int .u8 0, .int .u8 0] [] = some [.int .u8 0, .int .u8 0, .int .u8 0, .int .u8 0, .int .u8 0, .int .u8 0, .int .u8 0, .int .u8 0, .int .u8 0, .int .u8 0, .int .u8 0, .int .u8 0, .int .u8 0, .int .u8 0, .int .u8 0, .int .u8 0, .int .u8 0, .int .u8 0, .int .u8 0, .int .u8 0, .int .u8 0, .int .u8 0, .int .u8 0, .int .u8 0, .int .u8 0, .int .u8 0, .int .u8 0, .int .u8 0, .int .u8 0, .int .u8 0, .int .u8 0, .int .u8 0] := rfl
  have hsE : ∀ a b c d, storeObj (.cells [a, b, c, d] true 1) 0 4 (.agg #[.string ⟨#[]⟩, .int .i64 0, .string ⟨#[]⟩, .slice none 0 0]) = some (.cells [.string ⟨#[]⟩, .int .i64 0, .string ⟨#[]⟩, .slice none 0 0] true 1) := fun _ _ _ _ => rfl
  have hsD : storeObj (.cells [.int .u8 0, .int .u8 0, .int .u8 0, .int .u8 0, .int .u8 0, .int .u8 0, .int .u8 0, .int .u8 0, .int .u8 0, .int .u8 0, .int .u8 0, .int .u8 0, .int .u8 0, .int .u8 0, .int .u8 0, .int .u8 0, .int .u8 0, .int .u8 0, .int .u8 0, .int .u8 0, .int .u8 0, .int .u8 0, .int .u8 0, .int .u8 0, .int .u8 0, .int .u8 0, .int .u8 0, .int .u8 0, .int .u8 0, .int .u8 0, .int .u8 0, .int .u8 0] true 1) 0 32 (.agg #[.int .u8 0, .int .u8 0, .int .u8 0, .int .u8 0, .int .u8 0, .int .u8 0, .int .u8 0, .int .u8 0, .int .u8 0, .int .u8 0, .int .u8 0, .int .u8 0, .int .u8 0, .int .u8 0, .int .u8 0, .int .u8 0, .int .u8 0, .int .u8 0, .int .u8 0, .int .u8 0, .int .u8 0, .int .u8 0, .int .u8 0, .int .u8 0, .int .u8 0, .int .u8 0, .int .u8 0, .int .u8 0, .int .u8 0, .int .u8 0, .int .u8 0, .int .u8 0]) = some (.cells [.int .u8 0, .int .u8 0, .int .u8 0, .int .u8 0, .int .u8 0, .int .u8 0, .int .u8 0, .int .u8 0, .int .u8 0, .int .u8 0, .int .u8 0, .int .u8 0, .int .u8 0, .int .u8 0, .int .u8 0, .int .u8 0, .int .u8 0, .int .u8 0, .int .u8 0, .int .u8 0, .int .u8 0, .int .u8 0, .int .u8 0, .int .u8 0, .int .u8 0, .int .u8 0, .int .u8 0, .int .u8 0, .int .u8 0, .int .u8 0, .int .u8 0, .int .u8 0] true 1) := rfl
  have hsD2 : storeObj (.cells [.int .u8 0, .int .u8 0, .int .u8 0, .int .u8 0, .int .u8 0, .int .u8 0, .int .u8 0, .int .u8 0, .int .u8 0, .int .u8 0, .int .u8 0, .int .u8 0, .int .u8 0, .int .u8 0, .int .u8 0, .int .u8 0, .int .u8 0, .int .u8 0, .int .u8 0, .int .u8 0, .int .u8 0, .int .u8 0, .int .u8 0, .int .u8 0, .int .u8 0, .int .u8 0, .int .u8 0, .int .u8 0, .int .u8 0, .int .u8 0, .int .u8 0, .int .u8 0] true 1) 0 32 (digV zero32) = some (.cells [.int .u8 0, .int .u8 0, .int .u8 0, .int .u8 0, .int .u8 0, .int .u8 0, .int .u8 0, .int .u8 0, .int .u8 0, .int .u8 0, .int .u8 0, .int .u8 0, .int .u8 0, .int .u8 0, .int .u8 0, .int .u8 0, .int .u8 0, .int .u8 0, .int .u8 0, .int .u8 0, .int .u8 0, .int .u8 0, .int .u8 0, .int .u8 0, .int .u8 0, .int .u8 0, .int .u8 0, .int .u8 0, .int .u8 0, .int .u8 0, .int .u8 0, .int .u8 0] true 1) := rfl
  have hlE : loadObj (.cells [.string ⟨#[]⟩, .int .i64 0, .string ⟨#[]⟩, .slice none 0 0] true 1) 0 (some 4) = some (enV ⟨[], 0, [], []⟩ (.slice none 0 0)) := rfl
  have hlD : loadObj (.cells [.int .u8 0, .int .u8 0, .int .u8 0, .int .u8 0, .int .u8 0, .int .u8 0, .int .u8 0, .int .u8 0, .int .u8 0, .int .u8 0, .int .u8 0, .int .u8 0, .int .u8 0, .int .u8 0, .int .u8 0, .int .u8 0, .int .u8 0, .int .u8 0, .int .u8 0, .int .u8 0, .int .u8 0, .int .u8 0, .int .u8 0, .int .u8 0, .int .u8 0, .int .u8 0, .int .u8 0, .int .u8 0, .int .u8 0, .int .u8 0, .int .u8 0, .int .u8 0] true 1) 0 (some 32) = some (digV zero32) := rfl
  simp (disch := first|omega|(simp only [np,ns];try omega)) [B_ref09_Read, ← hg0]
  refine (rread_ok (isB_fr F0 (hL ▸ hb)) hlen).mono ?_
  rintro u g ⟨ra, rn, rc, rfl, B⟩
  have hwf := readS_wf bs
  obtain ⟨E1, hE1⟩ : ∃ x, x = (readS bs).2.1 := ⟨_, rfl⟩
  obtain ⟨fs, hfs⟩ : ∃ x, x = (readS bs).1 := ⟨_, rfl⟩
  have hok : Q = (decide (E1 = 0) && decide (fs.length = 5) && decide ((ahOf fs).length = 32) && decide ((fs.getD 1 zeroF).n ≤ 1125899906842624) && decide (wrongS (enOf fs) = 0) && decide (bytesS (enOf fs) (ahOf fs) = bs)) := by
    rw [hQ, hE1, hfs]; rfl
  rw [← hE1]
  rw [← hfs] at B hwf
  obtain ⟨Y1, hY1⟩ : ∃ Y1, Y1 = h.n + 1 := ⟨_, rfl⟩
  obtain ⟨Y2, hY2⟩ : ∃ Y2, Y2 = Y1 + 1 := ⟨_, rfl⟩
  rw [← hY1] at p3b
  rw [← hY1, ← hY2] at p3c
  have c1 := (B.fr.get h.n (by omega) (by simp)).trans p3a
  have d1 := (B.fr.get Y1 (by omega) (by simp)).trans p3b
  have k1 := (B.fr.get Y2 (by omega) (by simp)).trans p3c
  have n1 := B.fr.n
  have FR := F0.trans B.fr
  by_cases h1 : E1 = 0
  case neg =>
    have h1b : (E1 != 0) = true := by simpa using h1
    simp (disch := first|omega|(simp only [np,ns];try omega)) [r_ref09_Read, h1b, hfE, ← hY1, ← hY2, c1, d1, k1, hsE, hsD, hsD2, hlE, hlD]
    exact hP0 (by rw [hok, decide_eq_false h1]; simp) _ (by repeat first | exact FR | refine Fr_push ?_ | refine Fr_set ?_ (by omega))
  have h1b : (E1 != 0) = false := by simpa using h1
  have hrn : rn = fs.length := by
    obtain ⟨a', c', h1⟩ := B.shape
    injection h1
  by_cases h2 : rn = 5
  case neg =>
    have h2b : ((rn : Int) != 5) = true := by rw [bne_iff_ne]; omega
    simp (disch := first|omega|(simp only [np,ns];try omega)) [r_ref09_Read, h1b, h2b, hfE, ← hY1, ← hY2, c1, d1, k1, hsE, hsD, hsD2, hlE, hlD]
    exact hP0 (by rw [hok, decide_eq_false (p := fs.length = 5) (by omega)]; simp) _ (by repeat first | exact FR | refine Fr_push ?_ | refine Fr_set ?_ (by omega))
  obtain ⟨fi, fo, fc, hfi, hfn, hv, hesz, hat⟩ := B.at_ (by omega)
  obtain ⟨f0, f1, f2, f3, f4, hf5⟩ : ∃ f0 f1 f2 f3 f4, fs = [f0, f1, f2, f3, f4] := by
    match fs, (hrn.symm.trans h2) with
    | [f0, f1, f2, f3, f4], _ => exact ⟨f0, f1, f2, f3, f4, rfl⟩
  rw [hf5] at hv hat hwf
  injection hv with hv1 hv2 hv3
  subst hv1
  subst hv3
  subst h2
  obtain ⟨w0, A0, N0⟩ := hat 0 (by simp)
  obtain ⟨w1, A1, N1⟩ := hat 1 (by simp)
  obtain ⟨w2, A2, N2⟩ := hat 2 (by simp)
  obtain ⟨w3, A3, N3⟩ := hat 3 (by simp)
  obtain ⟨w4, A4, N4⟩ := hat 4 (by simp)
  simp only [List.getElem_cons_zero, List.getElem_cons_succ] at A0 A1 A2 A3 A4
  obtain ⟨a0, x0, y0, hw0, hx0⟩ : ∃ a n c, w0 = .slice a n c ∧ n = f0.b.length := by
    obtain ⟨a, c, h⟩ := A0.bytes.shape
    exact ⟨_, _, _, h, rfl⟩
  obtain ⟨a2, x2, y2, hw2, hx2⟩ : ∃ a n c, w2 = .slice a n c ∧ n = f2.b.length := by
    obtain ⟨a, c, h⟩ := A2.bytes.shape
    exact ⟨_, _, _, h, rfl⟩
  obtain ⟨a3, x3, y3, hw3, hx3⟩ : ∃ a n c, w3 = .slice a n c ∧ n = f3.b.length := by
    obtain ⟨a, c, h⟩ := A3.bytes.shape
    exact ⟨_, _, _, h, rfl⟩
  obtain ⟨a4, x4, y4, hw4, hx4⟩ : ∃ a n c, w4 = .slice a n c ∧ n = f4.b.length := by
    obtain ⟨a, c, h⟩ := A4.bytes.shape
    exact ⟨_, _, _, h, rfl⟩
  subst hw0 hw2 hw3 hw4
  have l4 := A4.l3
  have l1 := A1.l2
  have l0 := A0.l3
  have l2 := A2.l3
  have l3 := A3.l3
  simp only [Nat.add_assoc, Nat.reduceMul, Nat.reduceAdd, Nat.zero_mul, Nat.zero_add, Nat.add_zero] at l0 l1 l2 l3 l4
  have hok2 : Q = (decide (f4.b.length = 32) && decide (f1.n ≤ 1125899906842624) && decide (wrongS (enOf fs) = 0) && decide (bytesS (enOf fs) f4.b = bs)) := by
    rw [hok, hf5, decide_eq_true h1]
    simp [ahOf]
  by_cases h3 : x4 = 32
  case neg =>
    have h3b : ((x4 : Int) != 32) = true := by rw [bne_iff_ne]; omega
    simp (disch := first|omega|(simp only [np,ns];try omega)) [r_ref09_Read, h1b, hesz, l4, h3b, hfE, ← hY1, ← hY2, c1, d1, k1, hsE, hsD, hsD2, hlE, hlD]
    exact hP0 (by rw [hok2, decide_eq_false (p := f4.b.length = 32) (by omega)]; simp) _ (by repeat first | exact FR | refine Fr_push ?_ | refine Fr_set ?_ (by omega))
  subst h3
  obtain ⟨M, hM⟩ : ∃ M, M = f1.n := ⟨_, rfl⟩
  rw [← hM] at l1 hok2
  by_cases h4 : 1125899906842624 < M
  case pos =>
    have h4I : (1125899906842624 : Int) < (M : Int) := by omega
    simp (disch := first|omega|(simp only [np,ns];try omega)) [r_ref09_Read, h1b, hesz, l4, l1, h4, h4I, hfE, ← hY1, ← hY2, c1, d1, k1, hsE, hsD, hsD2, hlE, hlD]
    exact hP0 (by rw [hok2, decide_eq_false (p := M ≤ 1125899906842624) (by omega)]; simp) _ (by repeat first | exact FR | refine Fr_push ?_ | refine Fr_set ?_ (by omega))
  have h4I : ¬ (1125899906842624 : Int) < (M : Int) := by omega
  obtain ⟨i4, o4, c4, hi4, hc4, hv4, hat4⟩ := nil_at A4.bytes (by omega)
  injection hv4 with hv41 hv42 hv43
  subst hv41 hv43
  have hi4n : h.n + 3 ≤ i4 := by have := N4 i4 (by simp [idOf]); omega
  simp (disch := first|omega|(simp only [np,ns];try omega)) [h1b, hesz, l4, l1, h4, h4I]
  refine pw_loopN (fun k s g' => Fr g g' [Y2] ∧ g'.n = g.n ∧ g'.get Y2 = .cells (u8s (f4.b.take k ++ zero32.drop k)) true 1 ∧ s 0 = .slice va L vc ∧ s 2 = .pointer (some ⟨h.n, 0, none⟩) ∧ s 3 = .pointer (some ⟨Y1, 0, none⟩) ∧ s 5 = .pointer (some ⟨Y2, 0, none⟩) ∧ s 6 = .slice (some ⟨fi, fo, none⟩) 5 rc ∧ s 9 = .int .i64 (k : Int)) 32 ?_ ?_
  · exact ⟨Fr.refl _ _, rfl, k1, by simp [upd_apply, s0_apply], by simp [upd_apply], by simp [upd_apply, hY1], by simp [upd_apply, hY2, hY1], by simp [upd_apply], by simp [upd_apply]⟩
  rintro k s g1 hk ⟨G1, ng1, q1, z0, z2, z3, z5, z6, z9⟩
  have gfi : g1.get fi = g.get fi := G1.get fi hfi (by simp; omega)
  have gi4 : g1.get i4 = g.get i4 := G1.get i4 hi4 (by simp; omega)
  by_cases hlt : k < 32
  · have hltI : (k : Int) < 32 := by omega
    have hbk := hat4.at_ (k := k) (by omega)
    have hst : storeObj (.cells (u8s (f4.b.take k ++ zero32.drop k)) true 1) k 1 (.int .u8 ((f4.b[k]'(by omega)).toNat : Int)) = some (.cells (u8s (f4.b.take (k + 1) ++ zero32.drop (k + 1))) true 1) := by
      rw [storeObj_int (by rw [u8s_length]; simp [zero32_len]; omega), zset hx4.symm hlt]
    have hkk : IntKind.i64.wrap ((k : Int) + 1) = ((k + 1 : Nat) : Int) := by rw [i64_small (by omega) (by omega)]; omega
    have hd0 : (0 : Int) ≤ (k : Int) := by omega
    simp (disch := first|omega|(simp only [np,ns];try omega)) [z5, z6, z9, hlt, hltI, gfi, hesz, l4, gi4, hbk, q1, hst, hkk]
    have G2 : ∀ o, Fr g (g1.set Y2 o) [Y2] := fun o => G1.trans (Fr.set _ _ (by simp))
    first | exact ⟨hlt, G2 _, ng1, z0, z2, z3⟩ | exact ⟨G2 _, ng1, z0, z2, z3⟩ | exact ⟨G2 _, ng1, z0, z2⟩ | exact ⟨hlt, G2 _, ng1, z0, z2⟩
  obtain rfl : k = 32 := by omega
  have hq32 : f4.b.take 32 ++ zero32.drop 32 = f4.b := by
    rw [List.take_of_length_le (by omega), List.drop_of_length_le (by rw [zero32_len]; exact Nat.le_refl _), List.append_nil]
  rw [hq32] at q1
  have c2 := (G1.get h.n (by omega) (by simp; omega)).trans c1
  have d2 := (G1.get Y1 (by omega) (by simp; omega)).trans d1
  have F1 : Fr h g1 [] := FR.trans' G1 (fun y hy => .inr (by simp at hy; omega))
  obtain ⟨g2, hg2⟩ : ∃ x, x = (g1.push (.cells [.string ⟨#[]⟩, .int .i64 0, .string ⟨#[]⟩, .slice none 0 0] true 1)).set g1.n (.cells [.string (strB f0.b), .int .i64 (M : Int), .string (strB f2.b), .slice a3 x3 y3] true 1) := ⟨_, rfl⟩
  have B0 := A0.bytes.fr G1 (fun x hx => by have := N0 x hx; simp; omega)
  have B2 := A2.bytes.fr G1 (fun x hx => by have := N2 x hx; simp; omega)
  have B3 := A3.bytes.fr G1 (fun x hx => by have := N3 x hx; simp; omega)
  have ob0 := ofB_eq B0
  have ob2 := ofB_eq B2
  have Fp : ∀ o, Fr g1 (g1.push o) [] := fun o => Fr.push _ _ _
  have ob0' := ofB_eq (isB_fr (Fp (.cells [.string ⟨#[]⟩, .int .i64 0, .string ⟨#[]⟩, .slice none 0 0] true 1)) B0)
  have ob2' := ofB_eq (isB_fr (Fp (.cells [.string ⟨#[]⟩, .int .i64 0, .string ⟨#[]⟩, .slice none 0 0] true 1)) B2)
  have hM2 : IntKind.i64.wrap (M : Int) = (M : Int) := i64_small (by omega) (by omega)
  have hfl : ∀ x y z, fillC [.string ⟨#[]⟩, .int .i64 0, .string ⟨#[]⟩, .slice none 0 0] [(0, 1, .string x), (1, 1, .int .i64 (M : Int)), (2, 1, .string y), (3, 1, .slice z x3 y3)] = some [.string x, .int .i64 (M : Int), .string y, .slice z x3 y3] := fun _ _ _ => rfl
  have hsV : ∀ a b c d x y z, storeObj (.cells [a, b, c, d] true 1) 0 4 (.agg #[.string x, .int .i64 (M : Int), .string y, .slice z x3 y3]) = some (.cells [.string x, .int .i64 (M : Int), .string y, .slice z x3 y3] true 1) := fun _ _ _ _ _ _ _ => rfl
  obtain ⟨e, he⟩ : ∃ e, e = enOf fs := ⟨_, rfl⟩
  have hlV : loadObj (.cells [.string (strB f0.b), .int .i64 (M : Int), .string (strB f2.b), .slice a3 x3 y3] true 1) 0 (some 4) = some (enV e (.slice a3 x3 y3)) := by rw [he, hf5, hM]; rfl
  have F12 : Fr g1 g2 [] := by rw [hg2]; exact Fr_set (Fr_push (Fr.refl _ _)) (Nat.le_refl _)
  have F2 := F1.trans F12
  have c3 : g2.get g1.n = .cells [.string (strB f0.b), .int .i64 (M : Int), .string (strB f2.b), .slice a3 x3 y3] true 1 := by rw [hg2, VH.get_set_same]
  have c2' := (F12.get h.n (by omega) (by simp)).trans c2
  have d2' := (F12.get Y1 (by omega) (by simp)).trans d2
  have q2' := (F12.get Y2 (by omega) (by simp)).trans q1
  have hil : fi < g1.n := by omega
  simp (disch := first|omega|(simp only [np,ns];try omega)) [z6, z9, gfi, hesz, l0, l1, l2, l3, ob0, ob2, ob0', ob2', hM2, hfl, hsV, ← hg2, c3, hlV]
  refine ⟨(?_ : kEv _ (some 68) (ofB (g1.push (.cells [.string ⟨#[]⟩, .int .i64 0, .string ⟨#[]⟩, .slice none 0 0] true 1)) (.slice a2 x2 y2))), (?_ : kEv _ (some 58) (ofB (g1.push (.cells [.string ⟨#[]⟩, .int .i64 0, .string ⟨#[]⟩, .slice none 0 0] true 1)) (.slice a0 x0 y0))), ?_⟩
  · rw [ob2']
    simp (disch := first|omega|(simp only [np,ns];try omega)) []
  · rw [ob0']
    simp (disch := first|omega|(simp only [np,ns];try omega)) []
  have t0 : e.t = f0.b := by rw [he, hf5]; rfl
  have t1 : e.at_ = (M : Int) := by rw [he, hf5, hM]; rfl
  have t2 : e.w = f2.b := by rw [he, hf5]; rfl
  have t3 : e.b = f3.b := by rw [he, hf5]; rfl
  have m0 := (hwf.1 f0 (by simp)).2
  have m2 := (hwf.1 f2 (by simp)).2
  have m3 := (hwf.1 f3 (by simp)).2
  have B3' : IsBytes g2 (.slice a3 x3 y3) e.b := by rw [t3]; exact isB_fr F12 B3
  rw [← he] at hok2
  refine (rwrong_ok (by rw [t0]; omega) B3' (by rw [t3]; omega) (by rw [t2]; omega)).mono ?_
  rintro u g3 ⟨rfl, rfl⟩
  obtain ⟨W, hW⟩ : ∃ W, W = wrongS e := ⟨_, rfl⟩
  rw [← hW] at hok2 ⊢
  have hsX : storeObj (.cells (u8s f4.b) true 1) 0 32 (.agg #[.int .u8 0, .int .u8 0, .int .u8 0, .int .u8 0, .int .u8 0, .int .u8 0, .int .u8 0, .int .u8 0, .int .u8 0, .int .u8 0, .int .u8 0, .int .u8 0, .int .u8 0, .int .u8 0, .int .u8 0, .int .u8 0, .int .u8 0, .int .u8 0, .int .u8 0, .int .u8 0, .int .u8 0, .int .u8 0, .int .u8 0, .int .u8 0, .int .u8 0, .int .u8 0, .int .u8 0, .int .u8 0, .int .u8 0, .int .u8 0, .int .u8 0, .int .u8 0]) = some (.cells [.int .u8 0, .int .u8 0, .int .u8 0, .int .u8 0, .int .u8 0, .int .u8 0, .int .u8 0, .int .u8 0, .int .u8 0, .int .u8 0, .int .u8 0, .int .u8 0, .int .u8 0, .int .u8 0, .int .u8 0, .int .u8 0, .int .u8 0, .int .u8 0, .int .u8 0, .int .u8 0, .int .u8 0, .int .u8 0, .int .u8 0, .int .u8 0, .int .u8 0, .int .u8 0, .int .u8 0, .int .u8 0, .int .u8 0, .int .u8 0, .int .u8 0, .int .u8 0] true 1) := dig_store (l := zero32) rfl (by rw [u8s_length]; exact hx4.symm)
  have hlX : loadObj (.cells (u8s f4.b) true 1) 0 (some 32) = some (digV f4.b) := dig_load hx4.symm
  have hsY : storeObj (.cells [.int .u8 0, .int .u8 0, .int .u8 0, .int .u8 0, .int .u8 0, .int .u8 0, .int .u8 0, .int .u8 0, .int .u8 0, .int .u8 0, .int .u8 0, .int .u8 0, .int .u8 0, .int .u8 0, .int .u8 0, .int .u8 0, .int .u8 0, .int .u8 0, .int .u8 0, .int .u8 0, .int .u8 0, .int .u8 0, .int .u8 0, .int .u8 0, .int .u8 0, .int .u8 0, .int .u8 0, .int .u8 0, .int .u8 0, .int .u8 0, .int .u8 0, .int .u8 0] true 1) 0 32 (digV f4.b) = some (.cells (u8s f4.b) true 1) := dig_store hx4.symm rfl
  by_cases h5 : W = 0
  case neg =>
    have h5b : (W != 0) = true := by simpa using h5
    simp (disch := first|omega|(simp only [np,ns];try omega)) [r_ref09_Read, h5b, hfE, hfD, z2, z3, z5, c2', d2', hsE, hsD, hsD2, hlE, hlD]
    exact hP0 (by rw [hok2, decide_eq_false h5]; simp) _ (by repeat first | exact F2 | refine Fr_push ?_ | refine Fr_set ?_ (by omega))
  have h5b : (W != 0) = false := by simpa using h5
  have hwr0 : wrongS e = 0 := by rw [← hW]; exact h5
  obtain ⟨w1, w2, w3, w4, w5, w6⟩ := wrongS_ok hwr0
  have hbg : IsBytes g3 (.slice va L vc) bs := isB_fr F2 (hL ▸ hb)
  have ob1 := ofB_eq hbg
  simp (disch := first|omega|(simp only [np,ns];try omega)) [h5b, z0, z2, z3, z5, c3, q2', hlV, hlX, ob1]
  refine (rbytes_ok B3' hx4.symm (by omega) (by omega) (by omega) w3 w4).mono ?_
  rintro u g4 ⟨ya, yn, yc, rfl, Y⟩
  have obb := ofB_eq (isB_fr Y.fr hbg)
  have oby := ofB_eq Y.is
  obtain ⟨bb, hbb⟩ : ∃ x, x = bytesS e f4.b := ⟨_, rfl⟩
  rw [← hbb] at hok2 oby
  have c4 := (Y.fr.get g1.n (by have := F12.n; rw [hg2, VH.n_set, VH.n_push]; omega) (by simp)).trans c3
  have c5 := (Y.fr.get h.n (by have := F12.n; omega) (by simp)).trans c2'
  have d5 := (Y.fr.get Y1 (by have := F12.n; omega) (by simp)).trans d2'
  have q5 := (Y.fr.get Y2 (by have := F12.n; omega) (by simp)).trans q2'
  obtain ⟨P, hPP⟩ : ∃ P, P = (bb == bs) := ⟨_, rfl⟩
  have hok3 : Q = P := by
    rw [hok2, decide_eq_true hx4.symm, decide_eq_true (p := M ≤ 1125899906842624) (by omega), decide_eq_true h5, hPP]
    simp only [Bool.true_and]
    by_cases hq : bb = bs
    · rw [decide_eq_true hq, beq_iff_eq.2 hq]
    · rw [decide_eq_false hq, beq_eq_false_iff_ne.2 hq]
  have F4 := F2.trans Y.fr
  have ng2 : g3.n = g1.n + 1 := by rw [hg2, VH.n_set, VH.n_push]
  cases P with
  | true =>
    have hst4 : storeObj (.cells [.string ⟨#[]⟩, .int .i64 0, .string ⟨#[]⟩, .slice none 0 0] true 1) 0 4 (enV e (.slice a3 x3 y3)) = some (.cells [.string (strB f0.b), .int .i64 (M : Int), .string (strB f2.b), .slice a3 x3 y3] true 1) := by
      rw [he, hf5, hM]; rfl
    simp (disch := first|omega|(simp only [np,ns];try omega)) [r_ref09_Read, obb, oby, strB_toList, ← hPP, z2, z3, z5, c4, c5, d5, q5, hlV, hlX, hst4, hsY]
    refine ⟨(?_ : kEv _ (some 83) (ofB g4 (.slice va L vc))), ?_⟩
    · rw [obb]
      simp (disch := first|omega|(simp only [np,ns];try omega)) []
    refine ⟨by repeat first | exact F4 | refine Fr_push ?_ | refine Fr_set ?_ (by omega), ?_⟩
    rw [← hQ, hok3, if_pos rfl, ← hfs, ← he]
    refine ⟨a3, x3, y3, ?_, ?_, ?_⟩
    · rw [hf5]; rfl
    · have h1 := isB_fr Y.fr B3'
      have h2 : ∀ o o', Fr g4 ((g4.set h.n o).set Y1 o') [h.n, Y1] := fun o o' => (Fr.set _ _ (by simp)).trans (Fr.set _ _ (by simp))
      exact h1.fr (h2 _ _) (fun x hx => by have := N3 x hx; simp; omega)
    · intro x hx
      have := N3 x hx
      omega
  | false =>
    simp (disch := first|omega|(simp only [np,ns];try omega)) [r_ref09_Read, obb, oby, strB_toList, ← hPP, hfE, hfD, z2, z3, z5, c5, d5, hsE, hsD, hsD2, hlE, hlD]
    refine ⟨(?_ : kEv _ (some 83) (ofB g4 (.slice va L vc))), ?_⟩
    · rw [obb]
      simp (disch := first|omega|(simp only [np,ns];try omega)) []
    exact hP0 hok3 _ (by repeat first | exact F4 | refine Fr_push ?_ | refine Fr_set ?_ (by omega))

/-- a slice of texts. -/
def IsBss (h : VH) (v : Value) (bss : List (List UInt8)) : Prop :=
  ∃ a c, v = .slice a bss.length c ∧ (0 < bss.length → ∃ i o, a = some ⟨i, o, none⟩ ∧ i < h.n ∧ ∀ k (hk : k < bss.length), ∃ p m d, loadObj (h.get i) (o + k) none = some (.slice p m d) ∧ IsBytes h (.slice p m d) bss[k])
theorem IsBss.fr {h h' : VH} (F : Fr h h' []) {v : Value} {bss : List (List UInt8)} (H : IsBss h v bss) : IsBss h' v bss := by
  obtain ⟨a, c, rfl, hat⟩ := H
  refine ⟨a, c, rfl, fun h0 => ?_⟩
  obtain ⟨i, o, rfl, hi, hk⟩ := hat h0
  have hn := F.n
  refine ⟨i, o, rfl, by omega, fun k hk' => ?_⟩
  obtain ⟨p, m, d, l1, l2⟩ := hk k hk'
  exact ⟨p, m, d, by rw [F.get i hi (by simp)]; exact l1, isB_fr F l2⟩
theorem vsubR_drop {t : List UInt8} {bss : List (List UInt8)} {k : Nat} (hk : k < bss.length) (last : List UInt8) : vsubR t (bss.drop k) last =
    if okS bss[k] = false ∨ (enOf (readS bss[k]).1).t ≠ t then (3, last) else if ahOf (readS bss[k]).1 ≠ last then (90, last) else vsubR t (bss.drop (k + 1)) (shaS bss[k]) := by
  rw [List.drop_eq_getElem_cons hk]
  rfl
def VsP (t : List UInt8) (bss : List (List UInt8)) (d : List UInt8) (h : VH) (u : Value) (h' : VH) : Prop := u = .int .i64 (vsubS t bss d) ∧ Fr h h' []
theorem okS_len {b : List UInt8} (h : okS b = true) : (ahOf (readS b).1).length = 32 := by
  simp only [okS, Bool.and_eq_true, decide_eq_true_eq] at h
  omega

set_option maxHeartbeats 8000000 in
theorem vsub_ok {h : VH} {v : Value} {bss : List (List UInt8)} {t d : List UInt8} (hv : IsBss h v bss) (hl : ∀ b ∈ bss, b.length ≤ 1000000000) (hlen : bss.length ≤ 1000000000) (hd : d.length = 32) :
    PCalls Try.prog f_audit_VerifySub [v, .string (strB t), digV d] h (VsP t bss d h) := by
  refine PCalls_of_pw st_audit_VerifySub (by simp [n_audit_VerifySub]) ?_
  rw [b_audit_VerifySub]
  obtain ⟨va, vc, rfl, hat⟩ := hv
  obtain ⟨N, hN⟩ : ∃ N, N = bss.length := ⟨_, rfl⟩
  rw [← hN]
  have hcd : cellsL (digV d) = u8s d := rfl
  have hall : (u8s d).all Value.oneCell' = true := by simp [u8s, Value.oneCell']
  have hfD : fillC [.int .u8 0, .int .u8 0, .int .u8 0, .int .u8 0, .int .u8 0, .int .u8 0, .int .u8 0, .int .u8 0, .int .u8 0, .int .u8 0, .int .u8 0, .int .u8 0, .int .u8 0, .int .u8 0, .int .u8 0, .int .u8 0, .int .u8 0, .int .u8 0, .int .u8 0, .int .u8 0, .int .u8 0, .int .u8 0, .int .u8 0, .int .u8 0, .int .u8 0, .int .u8 0, .int .u8 0, .int .u8 0, .int .u8 0, .int .u8 0, .int .u8 0, .int .u8 0] [] = some [.int .u8 0, .int .u8 0, .int .u8 0, .int .u8 0, .int .u8 0, .int .u8 0, .int .u8 0, .int .u8 0, .int .u8 0, .int .u8 0, .int .u8 0, .int .u8 0, .int .u8 0, .int .u8 0, .int .u8 0, .int .u8 0, .int .u8 0, .int .u8 0, .int .u8 0, .int .u8 0, .int .u8 0, .int .u8 0, .int .u8 0, .int .u8 0, .int .u8 0, .int .u8 0, .int .u8 0, .int .u8 0, .int .u8 0, .int .u8 0, .int .u8 0, .int .u8 0] := rfl
  have hsD : storeObj (.cells [.int .u8 0, .int .u8 0, .int .u8 0, .int .u8 0, .int .u8 0, .int .u8 0, .int .u8 0, .int .u8 0, .int .u8 0, .int .u8 0, .int .u8 0, .int .u8 0, .int .u8 0, .int .u8 0, .int .u8 0, .int .u8 0, .int .u8 0, .int .u8 0, .int .u8 0, .int .u8 0, .int .u8 0, .int .u8 0, .int .u8 0, .int .u8 0, .int .u8 0, .int .u8 0, .int .u8 0, .int .u8 0, .int .u8 0, .int .u8 0, .int .u8 0, .int .u8 0] true 1) 0 32 (.agg #[.int .u8 0, .int .u8 0, .int .u8 0, .int .u8 0, .int .u8 0, .int .u8 0, .int .u8 0, .int .u8 0, .int .u8 0, .int .u8 0, .int .u8 0, .int .u8 0, .int .u8 0, .int .u8 0, .int .u8 0, .int .u8 0, .int .u8 0, .int .u8 0, .int .u8 0, .int .u8 0, .int .u8 0, .int .u8 0, .int .u8 0, .int .u8 0, .int .u8 0, .int .u8 0, .int .u8 0, .int .u8 0, .int .u8 0, .int .u8 0, .int .u8 0, .int .u8 0]) = some (.cells [.int .u8 0, .int .u8 0, .int .u8 0, .int .u8 0, .int .u8 0, .int .u8 0, .int .u8 0, .int .u8 0, .int .u8 0, .int .u8 0, .int .u8 0, .int .u8 0, .int .u8 0, .int .u8 0, .int .u8 0, .int .u8 0, .int .u8 0, .int .u8 0, .int .u8 0, .int .u8 0, .int .u8 0, .int .u8 0, .int .u8 0, .int .u8 0, .int .u8 0, .int .u8 0, .int .u8 0, .int .u8 0, .int .u8 0, .int .u8 0, .int .u8 0, .int .u8 0] true 1) := rfl
  obtain ⟨g0, hg0⟩ : ∃ x, x = (h.push (.cells (u8s d) true 1)).push (.cells [.int .u8 0, .int .u8 0, .int .u8 0, .int .u8 0, .int .u8 0, .int .u8 0, .int .u8 0, .int .u8 0, .int .u8 0, .int .u8 0, .int .u8 0, .int .u8 0, .int .u8 0, .int .u8 0, .int .u8 0, .int .u8 0, .int .u8 0, .int .u8 0, .int .u8 0, .int .u8 0, .int .u8 0, .int .u8 0, .int .u8 0, .int .u8 0, .int .u8 0, .int .u8 0, .int .u8 0, .int .u8 0, .int .u8 0, .int .u8 0, .int .u8 0, .int .u8 0] true 1) := ⟨_, rfl⟩
  have F0 : Fr h g0 [] := by rw [hg0]; exact Fr_push (Fr_push (Fr.refl _ _))
  have n0 : g0.n = h.n + 2 := by rw [hg0]; simp
  obtain ⟨pa, pb, _⟩ := VH.get_push2 h (.cells (u8s d) true 1) (.cells [.int .u8 0, .int .u8 0, .int .u8 0, .int .u8 0, .int .u8 0, .int .u8 0, .int .u8 0, .int .u8 0, .int .u8 0, .int .u8 0, .int .u8 0, .int .u8 0, .int .u8 0, .int .u8 0, .int .u8 0, .int .u8 0, .int .u8 0, .int .u8 0, .int .u8 0, .int .u8 0, .int .u8 0, .int .u8 0, .int .u8 0, .int .u8 0, .int .u8 0, .int .u8 0, .int .u8 0, .int .u8 0, .int .u8 0, .int .u8 0, .int .u8 0, .int .u8 0] true 1)
  rw [← hg0] at pa pb
  have hz : (VObj.cells [.int .u8 0, .int .u8 0, .int .u8 0, .int .u8 0, .int .u8 0, .int .u8 0, .int .u8 0, .int .u8 0, .int .u8 0, .int .u8 0, .int .u8 0, .int .u8 0, .int .u8 0, .int .u8 0, .int .u8 0, .int .u8 0, .int .u8 0, .int .u8 0, .int .u8 0, .int .u8 0, .int .u8 0, .int .u8 0, .int .u8 0, .int .u8 0, .int .u8 0, .int .u8 0, .int .u8 0, .int .u8 0, .int .u8 0, .int .u8 0, .int .u8 0, .int .u8 0] true 1) = .cells (u8s zero32) true 1 := rfl
  obtain ⟨Y, hY⟩ : ∃ Y, Y = h.n + 1 := ⟨_, rfl⟩
  rw [← hY] at pb
  have hset : g0.set Y (.cells [.int .u8 0, .int .u8 0, .int .u8 0, .int .u8 0, .int .u8 0, .int .u8 0, .int .u8 0, .int .u8 0, .int .u8 0, .int .u8 0, .int .u8 0, .int .u8 0, .int .u8 0, .int .u8 0, .int .u8 0, .int .u8 0, .int .u8 0, .int .u8 0, .int .u8 0, .int .u8 0, .int .u8 0, .int .u8 0, .int .u8 0, .int .u8 0, .int .u8 0, .int .u8 0, .int .u8 0, .int .u8 0, .int .u8 0, .int .u8 0, .int .u8 0, .int .u8 0] true 1) = g0 := by
    cases g0 with
    | mk n get =>
      simp only [VH.set, VH.mk.injEq, true_and]
      funext j
      split
      · rename_i hj; subst hj; exact pb.symm
      · rfl
  simp (disch := first|omega|(simp only [np,ns];try omega)) [B_audit_VerifySub, hcd, hall, hfD, ← hg0, ← hY, pb, hsD, hset]
  refine pw_loopN (fun k s g => ∃ last : List UInt8, last.length = 32 ∧ Fr h g [] ∧ g0.n ≤ g.n ∧ g.get h.n = .cells (u8s d) true 1 ∧ g.get Y = .cells (u8s last) true 1 ∧ vsubR t bss zero32 = vsubR t (bss.drop k) last ∧
    s 1 = .string (strB t) ∧ s 5 = .pointer (some ⟨h.n, 0, none⟩) ∧ s 7 = .pointer (some ⟨Y, 0, none⟩) ∧ s 14 = .slice va N vc ∧ s 15 = .int .i64 (N : Int) ∧ s 16 = .int .i64 (k : Int)) N ?_ ?_
  · exact ⟨zero32, rfl, F0, Nat.le_refl _, pa, pb.trans hz, rfl, by simp [upd_apply, s0_apply], by simp [upd_apply], by simp [upd_apply], by simp [upd_apply, s0_apply], by simp [upd_apply], by simp [upd_apply]⟩
  rintro k s g hk ⟨last, hll, F, hgn, gd, gY, hvs, z1, z5, z7, z14, z15, z16⟩
  have hld : loadObj (.cells (u8s d) true 1) 0 (some 32) = some (digV d) := dig_load hd
  have hll' : loadObj (.cells (u8s last) true 1) 0 (some 32) = some (digV last) := dig_load hll
  have hagg : ∀ X : List UInt8, digV X = .agg (u8s X).toArray := fun _ => rfl
  have fd := fits32 hd
  have fl := fits32 hll
  by_cases hlt : k < N
  case neg =>
    obtain rfl : k = N := by omega
    rw [List.drop_of_length_le (by omega)] at hvs
    have hcb := cellsB_u8s last d (by omega)
    have hv0 : vsubS t bss d = if last ≠ d then 70 else 0 := by
      unfold vsubS
      rw [hvs]
      by_cases hx : last = d <;> simp [vsubR, hx]
    by_cases hdd : last = d
    · rw [show (last == d) = true by simpa using hdd] at hcb
      simp (disch := first|omega|(simp only [np,ns];try omega)) [r_audit_VerifySub, z5, z7, z15, z16, gd, gY, hld, hll', hagg, fd, fl, hcb]
      exact ⟨by rw [hv0, if_neg (by simpa using hdd)], F⟩
    · rw [show (last == d) = false by simpa using hdd] at hcb
      simp (disch := first|omega|(simp only [np,ns];try omega)) [r_audit_VerifySub, z5, z7, z15, z16, gd, gY, hld, hll', hagg, fd, fl, hcb]
      exact ⟨by rw [hv0, if_pos hdd], F⟩
  have hltI : (k : Int) < (N : Int) := by omega
  obtain ⟨vi, vo, rfl, hvi, hel⟩ := hat (by omega)
  obtain ⟨p, m, c, l1, hb⟩ := hel k (by omega)
  have gvi : g.get vi = h.get vi := F.get vi hvi (by simp)
  have hbl := hl (bss[k]'(by omega)) (List.getElem_mem _)
  rw [vsubR_drop (by omega)] at hvs
  obtain ⟨b, hbe⟩ : ∃ b, b = bss[k]'(by omega) := ⟨_, rfl⟩
  rw [← hbe] at hvs hb hbl
  simp (disch := first|omega|(simp only [np,ns];try omega)) [z14, z15, z16, hlt, hltI, gvi, l1]
  refine (eread_ok (isB_fr F hb) hbl).mono ?_
  rintro u g1 ⟨F1, hR⟩
  have gd1 := (F1.get h.n (by omega) (by simp)).trans gd
  have gY1 := (F1.get Y (by omega) (by simp)).trans gY
  have hsE : ∀ (e : En) (p : Option Addr) (q r : Nat), storeObj (.cells [.string ⟨#[]⟩, .int .i64 0, .string ⟨#[]⟩, .slice none 0 0] true 1) 0 4 (enV e (.slice p q r)) = some (.cells [.string (strB e.t), .int .i64 e.at_, .string (strB e.w), .slice p q r] true 1) := fun _ _ _ _ => rfl
  have hsA : ∀ (a : List UInt8), a.length = 32 → storeObj (.cells [.int .u8 0, .int .u8 0, .int .u8 0, .int .u8 0, .int .u8 0, .int .u8 0, .int .u8 0, .int .u8 0, .int .u8 0, .int .u8 0, .int .u8 0, .int .u8 0, .int .u8 0, .int .u8 0, .int .u8 0, .int .u8 0, .int .u8 0, .int .u8 0, .int .u8 0, .int .u8 0, .int .u8 0, .int .u8 0, .int .u8 0, .int .u8 0, .int .u8 0, .int .u8 0, .int .u8 0, .int .u8 0, .int .u8 0, .int .u8 0, .int .u8 0, .int .u8 0] true 1) 0 32 (digV a) = some (.cells (u8s a) true 1) := fun a ha => dig_store ha rfl
  have hsA2 : ∀ (a : List UInt8), a.length = 32 → storeObj (.cells [.int .u8 0, .int .u8 0, .int .u8 0, .int .u8 0, .int .u8 0, .int .u8 0, .int .u8 0, .int .u8 0, .int .u8 0, .int .u8 0, .int .u8 0, .int .u8 0, .int .u8 0, .int .u8 0, .int .u8 0, .int .u8 0, .int .u8 0, .int .u8 0, .int .u8 0, .int .u8 0, .int .u8 0, .int .u8 0, .int .u8 0, .int .u8 0, .int .u8 0, .int .u8 0, .int .u8 0, .int .u8 0, .int .u8 0, .int .u8 0, .int .u8 0, .int .u8 0] true 1) 0 32 (.agg (u8s a).toArray) = some (.cells (u8s a) true 1) := fun a ha => dig_store ha rfl
  have n1 := F1.n
  have F01 := F.trans F1
  by_cases hok : okS b = true
  case neg =>
    have hokf : okS b = false := by simpa using hok
    rw [if_neg hok] at hR
    subst hR
    rw [if_pos (.inl hokf)] at hvs
    simp (disch := first|omega|(simp only [np,ns];try omega)) [r_audit_VerifySub, hsE, hsA zero32 rfl]
    exact ⟨by unfold vsubS; rw [hvs]; rfl, by repeat first | exact F01 | refine Fr_push ?_ | refine Fr_set ?_ (by omega)⟩
  rw [if_pos hok] at hR
  obtain ⟨ea, em, ec, rfl, heb, heid⟩ := hR
  have hAl := okS_len hok
  obtain ⟨e, he⟩ : ∃ e, e = enOf (readS b).1 := ⟨_, rfl⟩
  obtain ⟨A, hA⟩ : ∃ A, A = ahOf (readS b).1 := ⟨_, rfl⟩
  rw [← hA] at hAl hvs ⊢
  rw [← he] at hvs ⊢
  have fA := fits32 hAl
  have hlA : loadObj (.cells (u8s A) true 1) 0 (some 32) = some (digV A) := dig_load hAl
  by_cases ht : e.t = t
  case neg =>
    have htb : (e.t == t) = false := by simpa using ht
    rw [if_pos (.inr ht)] at hvs
    simp (disch := first|omega|(simp only [np,ns];try omega)) [r_audit_VerifySub, hsE, hsA A hAl, z1, ld4_0, strB_toList, htb]
    exact ⟨by unfold vsubS; rw [hvs]; rfl, by repeat first | exact F01 | refine Fr_push ?_ | refine Fr_set ?_ (by omega)⟩
  have htb : (e.t == t) = true := by simpa using ht
  rw [if_neg (by rw [hok]; simp [ht])] at hvs
  have hcb := cellsB_u8s A last (by omega)
  obtain ⟨g2, hg2⟩ : ∃ x, x = (((g1.push (.cells [.string ⟨#[]⟩, .int .i64 0, .string ⟨#[]⟩, .slice none 0 0] true 1)).push (.cells [.int .u8 0, .int .u8 0, .int .u8 0, .int .u8 0, .int .u8 0, .int .u8 0, .int .u8 0, .int .u8 0, .int .u8 0, .int .u8 0, .int .u8 0, .int .u8 0, .int .u8 0, .int .u8 0, .int .u8 0, .int .u8 0, .int .u8 0, .int .u8 0, .int .u8 0, .int .u8 0, .int .u8 0, .int .u8 0, .int .u8 0, .int .u8 0, .int .u8 0, .int .u8 0, .int .u8 0, .int .u8 0, .int .u8 0, .int .u8 0, .int .u8 0, .int .u8 0] true 1)).set g1.n (.cells [.string (strB e.t), .int .i64 e.at_, .string (strB e.w), .slice ea em ec] true 1)).set (g1.n + 1) (.cells (u8s A) true 1) := ⟨_, rfl⟩
  have F12 : Fr g1 g2 [] := by rw [hg2]; exact Fr_set (Fr_set (Fr_push (Fr_push (Fr.refl _ _))) (by simp)) (by simp)
  have n2 : g2.n = g1.n + 2 := by rw [hg2]; simp
  have q1 : g2.get g1.n = .cells [.string (strB e.t), .int .i64 e.at_, .string (strB e.w), .slice ea em ec] true 1 := by rw [hg2, VH.get_set_ne _ _ (by omega), VH.get_set_same]
  have q2 : g2.get (g1.n + 1) = .cells (u8s A) true 1 := by rw [hg2, VH.get_set_same]
  have gY2 := (F12.get Y (by omega) (by simp)).trans gY1
  have gd2 := (F12.get h.n (by omega) (by simp)).trans gd1
  by_cases hAL : A = last
  case neg =>
    rw [show (A == last) = false by simpa using hAL] at hcb
    rw [if_pos hAL] at hvs
    simp (disch := first|omega|(simp only [np,ns];try omega)) [r_audit_VerifySub, hsE, hsA A hAl, hsA2 A hAl, ← hg2, q1, q2, z1, z7, ld4_0, strB_toList, htb, gY2, hlA, hll', hagg, fA, fl, hcb]
    exact ⟨by unfold vsubS; rw [hvs]; rfl, F01.trans F12⟩
  rw [show (A == last) = true by simpa using hAL] at hcb
  rw [if_neg (by simpa using hAL)] at hvs
  simp (disch := first|omega|(simp only [np,ns];try omega)) [hsE, hsA A hAl, hsA2 A hAl, ← hg2, q1, q2, z1, z7, ld4_0, strB_toList, htb, gY2, hlA, hll', hagg, fA, fl, hcb]
  refine (sum_ok (isB_fr (F01.trans F12) hb) (by omega)).mono ?_
  rintro u g3 ⟨rfl, rfl⟩
  have hst : storeObj (.cells (u8s last) true 1) 0 32 (digV (shaS b)) = some (.cells (u8s (shaS b)) true 1) := dig_store (shaS_len _) (by rw [u8s_length]; exact hll)
  have hkk : IntKind.i64.wrap ((k : Int) + 1) = ((k + 1 : Nat) : Int) := by rw [i64_small (by omega) (by omega)]; omega
  have Fs : ∀ o, Fr h (g3.set Y o) [] := fun o => Fr_set (F01.trans F12) (by omega)
  have gds : ∀ o, (g3.set Y o).get h.n = .cells (u8s d) true 1 := fun o => by rw [VH.get_set_ne _ _ (by omega)]; exact gd2
  simp (disch := first|omega|(simp only [np,ns];try omega)) [z7, gY2, hst, z16, hkk]
  exact ⟨hlt, shaS b, shaS_len _, Fs _, by omega, gd2, rfl, hvs, z1, z5, z14, z15⟩
set_option maxHeartbeats 8000000 in
theorem rvsub_ok {h : VH} {v : Value} {bss : List (List UInt8)} {t d : List UInt8} (hv : IsBss h v bss) (hl : ∀ b ∈ bss, b.length ≤ 1000000000) (hlen : bss.length ≤ 1000000000) (hd : d.length = 32) :
    PCalls Try.prog f_ref09_VerifySub [v, .string (strB t), digV d] h (VsP t bss d h) := by
  refine PCalls_of_pw st_ref09_VerifySub (by simp [n_ref09_VerifySub]) ?_
  rw [b_ref09_VerifySub]
  obtain ⟨va, vc, rfl, hat⟩ := hv
  obtain ⟨N, hN⟩ : ∃ N, N = bss.length := ⟨_, rfl⟩
  rw [← hN]
  have hcd : cellsL (digV d) = u8s d := rfl
  have hall : (u8s d).all Value.oneCell' = true := by simp [u8s, Value.oneCell']
  have hfD : fillC [.int .u8 0, .int .u8 0, .int .u8 0, .int .u8 0, .int .u8 0, .int .u8 0, .int .u8 0, .int .u8 0, .int .u8 0, .int .u8 0, .int .u8 0, .int .u8 0, .int .u8 0, .int .u8 0, .int .u8 0, .int .u8 0, .int .u8 0, .int .u8 0, .int .u8 0, .int .u8 0, .int .u8 0, .int .u8 0, .int .u8 0, .int .u8 0, .int .u8 0, .int .u8 0, .int .u8 0, .int .u8 0, .int .u8 0, .int .u8 0, .int .u8 0, .int .u8 0] [] = some [.int .u8 0, .int .u8 0, .int .u8 0, .int .u8 0, .int .u8 0, .int .u8 0, .int .u8 0, .int .u8 0, .int .u8 0, .int .u8 0, .int .u8 0, .int .u8 0, .int .u8 0, .int .u8 0, .int .u8 0, .int .u8 0, .int .u8 0, .int .u8 0, .int .u8 0, .int .u8 0, .int .u8 0, .int .u8 0, .int .u8 0, .int .u8 0, .int .u8 0, .int .u8 0, .int .u8 0, .int .u8 0, .int .u8 0, .int .u8 0, .int .u8 0, .int .u8 0] := rfl
  have hsD : storeObj (.cells [.int .u8 0, .int .u8 0, .int .u8 0, .int .u8 0, .int .u8 0, .int .u8 0, .int .u8 0, .int .u8 0, .int .u8 0, .int .u8 0, .int .u8 0, .int .u8 0, .int .u8 0, .int .u8 0, .int .u8 0, .int .u8 0, .int .u8 0, .int .u8 0, .int .u8 0, .int .u8 0, .int .u8 0, .int .u8 0, .int .u8 0, .int .u8 0, .int .u8 0, .int .u8 0, .int .u8 0, .int .u8 0, .int .u8 0, .int .u8 0, .int .u8 0, .int .u8 0] true 1) 0 32 (.agg #[.int .u8 0, .int .u8 0, .int .u8 0, .int .u8 0, .int .u8 0, .int .u8 0, .int .u8 0, .int .u8 0, .int .u8 0, .int .u8 0, .int .u8 0, .int .u8 0, .int .u8 0, .int .u8 0, .int .u8 0, .int .u8 0, .int .u8 0, .int .u8 0, .int .u8 0, .int .u8 0, .int .u8 0, .int .u8 0, .int .u8 0, .int .u8 0, .int .u8 0, .int .u8 0, .int .u8 0, .int .u8 0, .int .u8 0, .int .u8 0, .int .u8 0, .int .u8 0]) = some (.cells [.int .u8 0, .int .u8 0, .int .u8 0, .int .u8 0, .int .u8 0, .int .u8 0, .int .u8 0, .int .u8 0, .int .u8 0, .int .u8 0, .int .u8 0, .int .u8 0, .int .u8 0, .int .u8 0, .int .u8 0, .int .u8 0, .int .u8 0, .int .u8 0, .int .u8 0, .int .u8 0, .int .u8 0, .int .u8 0, .int .u8 0, .int .u8 0, .int .u8 0, .int .u8 0, .int .u8 0, .int .u8 0, .int .u8 0, .int .u8 0, .int .u8 0, .int .u8 0] true 1) := rfl
  obtain ⟨g0, hg0⟩ : ∃ x, x = (h.push (.cells (u8s d) true 1)).push (.cells [.int .u8 0, .int .u8 0, .int .u8 0, .int .u8 0, .int .u8 0, .int .u8 0, .int .u8 0, .int .u8 0, .int .u8 0, .int .u8 0, .int .u8 0, .int .u8 0, .int .u8 0, .int .u8 0, .int .u8 0, .int .u8 0, .int .u8 0, .int .u8 0, .int .u8 0, .int .u8 0, .int .u8 0, .int .u8 0, .int .u8 0, .int .u8 0, .int .u8 0, .int .u8 0, .int .u8 0, .int .u8 0, .int .u8 0, .int .u8 0, .int .u8 0, .int .u8 0] true 1) := ⟨_, rfl⟩
  have F0 : Fr h g0 [] := by rw [hg0]; exact Fr_push (Fr_push (Fr.refl _ _))
  have n0 : g0.n = h.n + 2 := by rw [hg0]; simp
  obtain ⟨pa, pb, _⟩ := VH.get_push2 h (.cells (u8s d) true 1) (.cells [.int .u8 0, .int .u8 0, .int .u8 0, .int .u8 0, .int .u8 0, .int .u8 0, .int .u8 0, .int .u8 0, .int .u8 0, .int .u8 0, .int .u8 0, .int .u8 0, .int .u8 0, .int .u8 0, .int .u8 0, .int .u8 0, .int .u8 0, .int .u8 0, .int .u8 0, .int .u8 0, .int .u8 0, .int .u8 0, .int .u8 0, .int .u8 0, .int .u8 0, .int .u8 0, .int .u8 0, .int .u8 0, .int .u8 0, .int .u8 0, .int .u8 0, .int .u8 0] true 1)
  rw [← hg0] at pa pb
  have hz : (VObj.cells [.int .u8 0, .int .u8 0, .int .u8 0, .int .u8 0, .int .u8 0, .int .u8 0, .int .u8 0, .int .u8 0, .int .u8 0, .int .u8 0, .int .u8 0, .int .u8 0, .int .u8 0, .int .u8 0, .int .u8 0, .int .u8 0, .int .u8 0, .int .u8 0, .int .u8 0, .int .u8 0, .int .u8 0, .int .u8 0, .int .u8 0, .int .u8 0, .int .u8 0, .int .u8 0, .int .u8 0, .int .u8 0, .int .u8 0, .int .u8 0, .int .u8 0, .int .u8 0] true 1) = .cells (u8s zero32) true 1 := rfl
  obtain ⟨Y, hY⟩ : ∃ Y, Y = h.n + 1 := ⟨_, rfl⟩
  rw [← hY] at pb
  simp (disch := first|omega|(simp only [np,ns];try omega)) [B_ref09_VerifySub, hcd, hall, ← hg0]
  refine pw_loopN (fun k s g => ∃ last : List UInt8, last.length = 32 ∧ Fr h g [] ∧ g0.n ≤ g.n ∧ g.get h.n = .cells (u8s d) true 1 ∧ g.get Y = .cells (u8s last) true 1 ∧ vsubR t bss zero32 = vsubR t (bss.drop k) last ∧
    s 1 = .string (strB t) ∧ s 5 = .pointer (some ⟨h.n, 0, none⟩) ∧ s 7 = .pointer (some ⟨Y, 0, none⟩) ∧ s 0 = .slice va N vc ∧ s 8 = .int .i64 (k : Int)) N ?_ ?_
  · exact ⟨zero32, rfl, F0, Nat.le_refl _, pa, pb.trans hz, rfl, by simp [upd_apply, s0_apply], by simp [upd_apply], by simp [upd_apply, hY], by simp [upd_apply, s0_apply], by simp [upd_apply]⟩
  rintro k s g hk ⟨last, hll, F, hgn, gd, gY, hvs, z1, z5, z7, z0, z8⟩
  have hld : loadObj (.cells (u8s d) true 1) 0 (some 32) = some (digV d) := dig_load hd
  have hll' : loadObj (.cells (u8s last) true 1) 0 (some 32) = some (digV last) := dig_load hll
  have hagg : ∀ X : List UInt8, digV X = .agg (u8s X).toArray := fun _ => rfl
  have fd := fits32 hd
  have fl := fits32 hll
  by_cases hlt : k < N
  case neg =>
    have hkN : k = N := by omega
    rw [List.drop_of_length_le (by omega)] at hvs
    have hcb := cellsB_u8s last d (by omega)
    have hv0 : vsubS t bss d = if last ≠ d then 70 else 0 := by
      unfold vsubS
      rw [hvs]
      by_cases hx : last = d <;> simp [vsubR, hx]
    by_cases hdd : last = d
    · rw [show (last == d) = true by simpa using hdd] at hcb
      simp (disch := first|omega|(simp only [np,ns];try omega)) [r_ref09_VerifySub, z5, z7, z0, z8, eq_false hlt, gd, gY, hld, hll', hagg, fd, fl, hcb]
      exact ⟨by rw [hv0, if_neg (by simpa using hdd)], F⟩
    · rw [show (last == d) = false by simpa using hdd] at hcb
      simp (disch := first|omega|(simp only [np,ns];try omega)) [r_ref09_VerifySub, z5, z7, z0, z8, eq_false hlt, gd, gY, hld, hll', hagg, fd, fl, hcb]
      exact ⟨by rw [hv0, if_pos hdd], F⟩
  have hltI : (k : Int) < (N : Int) := by omega
  obtain ⟨vi, vo, rfl, hvi, hel⟩ := hat (by omega)
  obtain ⟨p, m, c, l1, hb⟩ := hel k (by omega)
  have gvi : g.get vi = h.get vi := F.get vi hvi (by simp)
  have hbl := hl (bss[k]'(by omega)) (List.getElem_mem _)
  rw [vsubR_drop (by omega)] at hvs
  obtain ⟨b, hbe⟩ : ∃ b, b = bss[k]'(by omega) := ⟨_, rfl⟩
  rw [← hbe] at hvs hb hbl
  simp (disch := first|omega|(simp only [np,ns];try omega)) [z0, z8, hlt, hltI, gvi, l1]
  refine (rread09_ok (isB_fr F hb) hbl).mono ?_
  rintro u g1 ⟨F1, hR⟩
  have gd1 := (F1.get h.n (by omega) (by simp)).trans gd
  have gY1 := (F1.get Y (by omega) (by simp)).trans gY
  have hsE : ∀ (e : En) (p : Option Addr) (q r : Nat), storeObj (.cells [.string ⟨#[]⟩, .int .i64 0, .string ⟨#[]⟩, .slice none 0 0] true 1) 0 4 (enV e (.slice p q r)) = some (.cells [.string (strB e.t), .int .i64 e.at_, .string (strB e.w), .slice p q r] true 1) := fun _ _ _ _ => rfl
  have hsA : ∀ (a : List UInt8), a.length = 32 → storeObj (.cells [.int .u8 0, .int .u8 0, .int .u8 0, .int .u8 0, .int .u8 0, .int .u8 0, .int .u8 0, .int .u8 0, .int .u8 0, .int .u8 0, .int .u8 0, .int .u8 0, .int .u8 0, .int .u8 0, .int .u8 0, .int .u8 0, .int .u8 0, .int .u8 0, .int .u8 0, .int .u8 0, .int .u8 0, .int .u8 0, .int .u8 0, .int .u8 0, .int .u8 0, .int .u8 0, .int .u8 0, .int .u8 0, .int .u8 0, .int .u8 0, .int .u8 0, .int .u8 0] true 1) 0 32 (digV a) = some (.cells (u8s a) true 1) := fun a ha => dig_store ha rfl
  have hsA2 : ∀ (a : List UInt8), a.length = 32 → storeObj (.cells [.int .u8 0, .int .u8 0, .int .u8 0, .int .u8 0, .int .u8 0, .int .u8 0, .int .u8 0, .int .u8 0, .int .u8 0, .int .u8 0, .int .u8 0, .int .u8 0, .int .u8 0, .int .u8 0, .int .u8 0, .int .u8 0, .int .u8 0, .int .u8 0, .int .u8 0, .int .u8 0, .int .u8 0, .int .u8 0, .int .u8 0, .int .u8 0, .int .u8 0, .int .u8 0, .int .u8 0, .int .u8 0, .int .u8 0, .int .u8 0, .int .u8 0, .int .u8 0] true 1) 0 32 (.agg (u8s a).toArray) = some (.cells (u8s a) true 1) := fun a ha => dig_store ha rfl
  have n1 := F1.n
  have F01 := F.trans F1
  by_cases hok : okS b = true
  case neg =>
    have hokf : okS b = false := by simpa using hok
    rw [if_neg hok] at hR
    subst hR
    rw [if_pos (.inl hokf)] at hvs
    simp (disch := first|omega|(simp only [np,ns];try omega)) [r_ref09_VerifySub, hsE, hsA zero32 rfl]
    exact ⟨by unfold vsubS; rw [hvs]; rfl, by repeat first | exact F01 | refine Fr_push ?_ | refine Fr_set ?_ (by omega)⟩
  rw [if_pos hok] at hR
  obtain ⟨ea, em, ec, rfl, heb, heid⟩ := hR
  have hAl := okS_len hok
  obtain ⟨e, he⟩ : ∃ e, e = enOf (readS b).1 := ⟨_, rfl⟩
  obtain ⟨A, hA⟩ : ∃ A, A = ahOf (readS b).1 := ⟨_, rfl⟩
  rw [← hA] at hAl hvs ⊢
  rw [← he] at hvs ⊢
  have fA := fits32 hAl
  have hlA : loadObj (.cells (u8s A) true 1) 0 (some 32) = some (digV A) := dig_load hAl
  by_cases ht : e.t = t
  case neg =>
    have htb : (e.t == t) = false := by simpa using ht
    rw [if_pos (.inr ht)] at hvs
    simp (disch := first|omega|(simp only [np,ns];try omega)) [r_ref09_VerifySub, hsE, hsA A hAl, z1, ld4_0, strB_toList, htb]
    exact ⟨by unfold vsubS; rw [hvs]; rfl, by repeat first | exact F01 | refine Fr_push ?_ | refine Fr_set ?_ (by omega)⟩
  have htb : (e.t == t) = true := by simpa using ht
  rw [if_neg (by rw [hok]; simp [ht])] at hvs
  have hcb := cellsB_u8s A last (by omega)
  obtain ⟨g2, hg2⟩ : ∃ x, x = (((g1.push (.cells [.string ⟨#[]⟩, .int .i64 0, .string ⟨#[]⟩, .slice none 0 0] true 1)).push (.cells [.int .u8 0, .int .u8 0, .int .u8 0, .int .u8 0, .int .u8 0, .int .u8 0, .int .u8 0, .int .u8 0, .int .u8 0, .int .u8 0, .int .u8 0, .int .u8 0, .int .u8 0, .int .u8 0, .int .u8 0, .int .u8 0, .int .u8 0, .int .u8 0, .int .u8 0, .int .u8 0, .int .u8 0, .int .u8 0, .int .u8 0, .int .u8 0, .int .u8 0, .int .u8 0, .int .u8 0, .int .u8 0, .int .u8 0, .int .u8 0, .int .u8 0, .int .u8 0] true 1)).set g1.n (.cells [.string (strB e.t), .int .i64 e.at_, .string (strB e.w), .slice ea em ec] true 1)).set (g1.n + 1) (.cells (u8s A) true 1) := ⟨_, rfl⟩
  have F12 : Fr g1 g2 [] := by rw [hg2]; exact Fr_set (Fr_set (Fr_push (Fr_push (Fr.refl _ _))) (by simp)) (by simp)
  have n2 : g2.n = g1.n + 2 := by rw [hg2]; simp
  have q1 : g2.get g1.n = .cells [.string (strB e.t), .int .i64 e.at_, .string (strB e.w), .slice ea em ec] true 1 := by rw [hg2, VH.get_set_ne _ _ (by omega), VH.get_set_same]
  have q2 : g2.get (g1.n + 1) = .cells (u8s A) true 1 := by rw [hg2, VH.get_set_same]
  have gY2 := (F12.get Y (by omega) (by simp)).trans gY1
  have gd2 := (F12.get h.n (by omega) (by simp)).trans gd1
  have gvi2 : g2.get vi = h.get vi := (F01.trans F12).get vi hvi (by simp)
  by_cases hAL : A = last
  case neg =>
    rw [show (A == last) = false by simpa using hAL] at hcb
    rw [if_pos hAL] at hvs
    simp (disch := first|omega|(simp only [np,ns];try omega)) [r_ref09_VerifySub, hsE, hsA A hAl, hsA2 A hAl, ← hg2, q1, q2, z1, z7, ld4_0, strB_toList, htb, gY2, hlA, hll', hagg, fA, fl, hcb]
    exact ⟨by unfold vsubS; rw [hvs]; rfl, F01.trans F12⟩
  rw [show (A == last) = true by simpa using hAL] at hcb
  rw [if_neg (by simpa using hAL)] at hvs
  simp (disch := first|omega|(simp only [np,ns];try omega)) [hsE, hsA A hAl, hsA2 A hAl, ← hg2, q1, q2, z1, z7, ld4_0, strB_toList, htb, gY2, hlA, hll', hagg, fA, fl, hcb, z0, z8, hlt, hltI, gvi2, l1]
  refine (rsum_ok (isB_fr (F01.trans F12) hb) (by omega)).mono ?_
  rintro u g3 ⟨rfl, rfl⟩
  have hst : storeObj (.cells (u8s last) true 1) 0 32 (digV (shaS b)) = some (.cells (u8s (shaS b)) true 1) := dig_store (shaS_len _) (by rw [u8s_length]; exact hll)
  have hkk : IntKind.i64.wrap ((k : Int) + 1) = ((k + 1 : Nat) : Int) := by rw [i64_small (by omega) (by omega)]; omega
  have Fs : ∀ o, Fr h (g3.set Y o) [] := fun o => Fr_set (F01.trans F12) (by omega)
  have gds : ∀ o, (g3.set Y o).get h.n = .cells (u8s d) true 1 := fun o => by rw [VH.get_set_ne _ _ (by omega)]; exact gd2
  simp (disch := first|omega|(simp only [np,ns];try omega)) [z7, gY2, hst, z8, hkk]
  exact ⟨hlt, shaS b, shaS_len _, Fs _, by omega, gd2, rfl, hvs, z1, z5, z0⟩

/- audit, part V: a tenant's entries (Of); AuditSubs. -/

/-- an entry's row, and its bytes, as a walk leaves them. -/
theorem items_at2 {B : Nat} {g : VH} {v1 v2 v3 : Value} {ts : List It} (I : ItemsAt B g v1 v2 v3 ts) {k : Nat} (hk : k < ts.length) :
    ∃ i1 o1 c1 ds1 i2 o2 c2 ds2 p m d a n c, v1 = .slice (some ⟨i1, o1, none⟩) ts.length c1 ∧ v2 = .slice (some ⟨i2, o2, none⟩) ts.length c2 ∧ i1 < g.n ∧ g.get i1 = .cells ds1 true 4 ∧ loadObj (.cells ds1 true 4) (o1 + k * 4) (some 4) = some (enV ts[k].e (.slice p m d)) ∧
      i2 < g.n ∧ g.get i2 = .cells ds2 true 1 ∧ loadObj (.cells ds2 true 1) (o2 + k) none = some (.slice a n c) ∧ IsBytes g (.slice a n c) ts[k].b := by
  obtain ⟨rows, e1, o1, h1⟩ := I.r1
  obtain ⟨rows2, e2, o2, h2⟩ := I.r2
  have hr1 : rows.length = ts.length := by rw [← e1]; simp
  have hr2 : rows2.length = ts.length := by rw [← e2]; simp
  rcases o1 with ⟨_, _, h0⟩ | ⟨i1, p1, c1, ds1, a1, a2, rfl, a3, a4, a5, a6⟩
  · omega
  rcases o2 with ⟨_, _, h0⟩ | ⟨i2, p2, c2, ds2, b1, b2, rfl, b3, b4, b5, b6⟩
  · omega
  have hk1 : k < rows.length := by omega
  have hk2 : k < rows2.length := by omega
  have hfl : ∀ x ∈ rows.map (fun p : It × Value => enL p.1.e p.2), x.length = 4 := fun x hx => by
    obtain ⟨t, ht, rfl⟩ := List.mem_map.1 hx
    rfl
  have hch := flat_chunk hfl (k := k) (by simpa using hk1)
  rw [← List.flatMap_def, ← a4, List.getElem_map, List.drop_drop] at hch
  obtain ⟨x, y, hs1⟩ := (h1 rows[k] (List.getElem_mem hk1)).1.shape
  obtain ⟨q1, _⟩ := h2 rows2[k] (List.getElem_mem hk2)
  obtain ⟨z, w, hs2⟩ := q1.shape
  have ht1 : rows[k].1 = ts[k] := by subst e1; simp
  have ht2 : rows2[k].1 = ts[k] := by rw [← List.getElem_map (h := by simpa using hk2) Prod.fst]; congr 1
  refine ⟨i1, p1, c1, ds1, i2, p2, c2, ds2, x, rows[k].1.e.b.length, y, z, rows2[k].1.b.length, w, rfl, rfl, a1, a3, ?_, b1, b3, ?_, ?_⟩
  · simp only [loadObj]
    have hl : ((ds1.drop (p1 + k * 4)).take 4).length = 4 := by rw [hch]; rfl
    rw [List.length_take, List.length_drop] at hl
    rw [if_pos (by omega), hch, ht1, hs1, ht1]
    rfl
  · have : (ds2.drop p2)[k]? = some rows2[k].2 := by rw [b4]; simp [hk2]
    rw [List.getElem?_drop] at this
    simpa [loadObj, hs2] using this
  · rw [← hs2, ← ht2]; exact q1
/-- texts gathered in an owned row; all of them lie below B, the row behind it. -/
structure OutI (B : Nat) (g : VH) (w : Value) (vs : List (Value × List UInt8)) : Prop where
  own : OwnSl g 1 w (vs.map Prod.fst) vs.length
  els : ∀ p ∈ vs, IsBytes g p.1 p.2 ∧ ∀ x ∈ idOf p.1, x < B
  ids : ∀ x ∈ idOf w, B ≤ x
theorem OutI.nil (B : Nat) (g : VH) : OutI B g (.slice none 0 0) [] := ⟨OwnSl.nil _ _, by simp, by simp [idOf]⟩
theorem OutI.fr {B : Nat} {g g' : VH} {w : Value} {vs : List (Value × List UInt8)} (E : OutI B g w vs) (F : Fr g g' []) : OutI B g' w vs :=
  ⟨E.own.fr F (by simp), fun p hp => ⟨isB_fr F (E.els p hp).1, (E.els p hp).2⟩, E.ids⟩
theorem OutI.app {B : Nat} {g : VH} {w : Value} {vs : List (Value × List UInt8)} (E : OutI B g w vs) {u : Value} {b : List UInt8} (hn : vs.length ≤ 1000000000) (hB : B ≤ g.n) (hu : IsBytes g u b ∧ ∀ x ∈ idOf u, x < B) :
    ∃ a c g', appendV g 1 24 w [u] 1 = some (.slice a (vs.length + 1) c, g') ∧ OutI B g' (.slice a (vs.length + 1) c) (vs ++ [(u, b)]) ∧ Fr g g' (idOf w) := by
  obtain ⟨w', g', h1, h2, h3, h4⟩ := E.own.append (bytes := 24) (ys := [u]) (k := 1) rfl (by omega)
  obtain ⟨a, c, rfl⟩ := h2.shapeN
  refine ⟨a, c, g', h1, ⟨by simpa using h2, fun p hp => ?_, fun x hx => ?_⟩, h3⟩
  · have hp' : IsBytes g p.1 p.2 ∧ ∀ x ∈ idOf p.1, x < B := by
      rcases List.mem_append.1 hp with hp | hp
      · exact E.els p hp
      · simp at hp; subst hp; exact hu
    exact ⟨hp'.1.fr h3 (fun x hx hx' => by have := hp'.2 x hx; have := E.ids x hx'; omega), hp'.2⟩
  · rcases h4 x hx with h | h
    · exact E.ids x h
    · omega
theorem OutI.bss {B : Nat} {g : VH} {w : Value} {vs : List (Value × List UInt8)} (E : OutI B g w vs) : IsBss g w (vs.map Prod.snd) := by
  rcases E.own with ⟨rfl, h1, h2⟩ | ⟨i, o, c, ds, h1, h2, rfl, h4, h5, h6, h7⟩
  · exact ⟨none, 0, by simp [h2], fun h => by simp [h2] at h⟩
  · refine ⟨_, c, by simp, fun _ => ⟨i, o, rfl, h1, fun k hk => ?_⟩⟩
    have hk' : k < vs.length := by simpa using hk
    obtain ⟨q1, _⟩ := E.els vs[k] (List.getElem_mem hk')
    obtain ⟨p, d, hs⟩ := q1.shape
    refine ⟨p, vs[k].2.length, d, ?_, by rw [← hs]; simpa using q1⟩
    have : (ds.drop o)[k]? = some vs[k].1 := by rw [h5]; simp [hk']
    rw [List.getElem?_drop] at this
    rw [h4]
    simpa [loadObj, hs] using this
theorem ofS_take {t : List UInt8} {ts : List It} {k : Nat} (hk : k < ts.length) : ofS t (ts.take (k + 1)) = if ts[k].e.t = t then ofS t (ts.take k) ++ [ts[k].b] else ofS t (ts.take k) := by
  rw [List.take_succ_eq_append_getElem hk, ofS_app]
  by_cases h : ts[k].e.t = t
  · rw [if_pos h]; congr 1; simp [ofS, h]
  · rw [if_neg h]; simp [ofS, h]

def OfP (h : VH) (bs t : List UInt8) (u : Value) (h' : VH) : Prop := Fr h h' [] ∧ ∃ a n c, u = .tuple #[.slice a n c, .int .i64 0] ∧ IsBss h' (.slice a n c) (ofS t (itemsS bs))
set_option maxHeartbeats 4000000 in
theorem of_ok {h : VH} {v : Value} {bs t : List UInt8} (hb : IsBytes h v bs) (hlen : bs.length ≤ 1000000000) (he : (walkS bs).err = 0) : PCalls Try.prog f_audit_Of [v, .string (strB t)] h (OfP h bs t) := by
  refine PCalls_of_pw st_audit_Of (by simp [n_audit_Of]) ?_
  rw [b_audit_Of]
  simp (disch := first|omega|(simp only [np,ns];try omega)) [B_audit_Of]
  refine (walk_ok hb hlen).mono ?_
  rintro u g1 ⟨F1, ae, ne, ce, al, nl, cl, ab, nb, cb, i, j, rfl, K, hs32, hi, hj, hn, I⟩
  rw [he]
  have hcn := items_count (bs.length + 1) bs zero32 []
  obtain ⟨ts, hts⟩ : ∃ ts, ts = itemsS bs := ⟨_, rfl⟩
  rw [show itemsR (bs.length + 1) bs zero32 [] = ts from hts.symm] at hcn
  unfold OfP
  rw [← hts] at I ⊢
  obtain ⟨at_, hat⟩ : ∃ x, x = (walkS bs).at_ := ⟨_, rfl⟩
  rw [← hat]
  obtain ⟨N, hN⟩ : ∃ N, N = ts.length := ⟨_, rfl⟩
  have hne : ne = N := by
    obtain ⟨_, _, o1, _⟩ := I.r1
    obtain ⟨_, _, hsh⟩ := o1.shapeN
    injection hsh with _ h2 _
    omega
  subst hne
  obtain ⟨g2, hg2⟩ : ∃ x, x = (g1.push (.cells [.slice none 0 0, .slice none 0 0, .slice none 0 0, .pointer none, .int .i64 0, .int .i64 0] true 1)).set g1.n (.cells [.slice ae ne ce, .slice al nl cl, .slice ab nb cb, .pointer (some ⟨i, 0, none⟩), .int .i64 0, .int .i64 (at_ : Int)] true 1) := ⟨_, rfl⟩
  have F2 : Fr g1 g2 [] := by rw [hg2]; exact Fr_set (Fr_push (Fr.refl _ _)) (Nat.le_refl _)
  have n2 : g2.n = g1.n + 1 := by rw [hg2]; simp
  have c2 : g2.get g1.n = .cells [.slice ae ne ce, .slice al nl cl, .slice ab nb cb, .pointer (some ⟨i, 0, none⟩), .int .i64 0, .int .i64 (at_ : Int)] true 1 := by rw [hg2, VH.get_set_same]
  have I2 := I.fr F2 (by simp)
  simp (disch := first|omega|(simp only [np,ns];try omega)) [st6_A, ← hg2, c2, ld6_0, ld6_4]
  refine pw_loopN (fun k s g => ∃ (wa : Option Addr) (wn wc : Nat) (vs : List (Value × List UInt8)), Fr g2 g [] ∧ OutI g2.n g (.slice wa wn wc) vs ∧ wn = vs.length ∧ vs.length ≤ k ∧ vs.map Prod.snd = ofS t (ts.take k) ∧
    s 1 = .string (strB t) ∧ s 6 = .pointer (some ⟨g1.n, 0, none⟩) ∧ s 7 = .slice wa wn wc ∧ s 18 = .slice ae ne ce ∧ s 19 = .int .i64 (ne : Int) ∧ s 20 = .int .i64 (k : Int)) ne ?_ ?_
  · exact ⟨none, 0, 0, [], Fr.refl _ _, OutI.nil _ _, rfl, by simp, by simp [ofS], by simp [upd_apply, s0_apply], by simp [upd_apply], by simp [upd_apply], by simp [upd_apply], by simp [upd_apply], by simp [upd_apply]⟩
  rintro k s g hk ⟨wa, wn, wc, vs, F, E, hwn, hvk, hvs, z1, z6, z7, z18, z19, z20⟩
  by_cases hlt : k < ne
  case neg =>
    obtain rfl : k = ne := by omega
    simp (disch := first|omega|(simp only [np,ns];try omega)) [r_audit_Of, z7, z19, z20]
    rw [List.take_of_length_le (by omega)] at hvs
    exact ⟨(F1.trans F2).trans F, wa, wn, wc, ⟨rfl, rfl, rfl⟩, by rw [← hvs]; exact E.bss⟩
  have hltI : (k : Int) < (ne : Int) := by omega
  have I3 := I2.fr F (by simp)
  obtain ⟨i1, o1, c1, ds1, i2, o2, c2', ds2, p, m, d, a, n, c, e1, e2, l1, g1', ld1, l2, g2', ld2, hbk⟩ := items_at2 I2 (k := k) (by omega)
  injection e1 with e11 e12 e13
  injection e2 with e21 e22 e23
  subst e11 e21
  have gi1 := (F.get i1 l1 (by simp)).trans g1'
  have gi2 := (F.get i2 l2 (by simp)).trans g2'
  have cg := (F.get g1.n (by omega) (by simp)).trans c2
  have hkk : IntKind.i64.wrap ((k : Int) + 1) = ((k + 1 : Nat) : Int) := by rw [i64_small (by omega) (by omega)]; omega
  obtain ⟨e, hee⟩ : ∃ e, e = (ts[k]'(by omega)).e := ⟨_, rfl⟩
  have hof := ofS_take (t := t) (ts := ts) (k := k) (by omega)
  rw [← hee] at ld1 hof
  have hsE : storeObj (.cells [.string ⟨#[]⟩, .int .i64 0, .string ⟨#[]⟩, .slice none 0 0] true 1) 0 4 (enV e (.slice p m d)) = some (.cells [.string (strB e.t), .int .i64 e.at_, .string (strB e.w), .slice p m d] true 1) := rfl
  have nF := F.n
  obtain ⟨g3, hg3⟩ : ∃ x, x = (g.push (.cells [.string ⟨#[]⟩, .int .i64 0, .string ⟨#[]⟩, .slice none 0 0] true 1)).set g.n (.cells [.string (strB e.t), .int .i64 e.at_, .string (strB e.w), .slice p m d] true 1) := ⟨_, rfl⟩
  have F3 : Fr g g3 [] := by rw [hg3]; exact Fr_set (Fr_push (Fr.refl _ _)) (Nat.le_refl _)
  have q3 : g3.get g.n = .cells [.string (strB e.t), .int .i64 e.at_, .string (strB e.w), .slice p m d] true 1 := by rw [hg3, VH.get_set_same]
  by_cases ht : e.t = t
  case neg =>
    have htb : (e.t == t) = false := by simpa using ht
    rw [if_neg ht] at hof
    simp (disch := first|omega|(simp only [np,ns];try omega)) [z1, z6, z7, z18, z19, z20, hlt, hltI, gi1, ld1, hsE, ← hg3, q3, ld4_0, strB_toList, htb, hkk]
    exact ⟨F.trans F3, wa, wn, wc, vs, E.fr F3, hwn, by omega, by rw [hof]; exact hvs, rfl, rfl, rfl⟩
  have htb : (e.t == t) = true := by simpa using ht
  rw [if_pos ht] at hof
  have gi2' := (F3.get i2 (by omega) (by simp)).trans gi2
  have cg3 := (F3.get g1.n (by omega) (by simp)).trans cg
  obtain ⟨g4, hg4⟩ : ∃ x, x = g3.push (.cells [.slice a n c] true 1) := ⟨_, rfl⟩
  have F4 : Fr g3 g4 [] := by rw [hg4]; exact Fr_push (Fr.refl _ _)
  have q4 : g4.get g3.n = .cells [.slice a n c] true 1 := by rw [hg4, VH.get_push_new]
  have F24 := F.trans (F3.trans F4)
  have hnl : nl = ts.length := by rw [← e22]
  obtain ⟨a5, c5, g5, hap, E5, F5⟩ := (E.fr (F3.trans F4)).app (u := .slice a n c) (b := (ts[k]'(by omega)).b) (by omega) F24.n ⟨isB_fr F24 hbk, fun x hx => isB_lt hbk x hx⟩
  have hfi : fillC [.slice none 0 0] [(0, 1, .slice a n c)] = some [.slice a n c] := rfl
  have hone : ([.slice a n c] : List Value).all Value.oneCell' = true := rfl
  have hro : rowObj (.cells [.slice a n c] true 1) 0 1 = some [.slice a n c] := rfl
  have hkn : k < nl := by omega
  have hknI : (k : Int) < (nl : Int) := by omega
  simp (disch := first|omega|(simp only [np,ns];try omega)) [z1, z6, z7, z18, z19, z20, hlt, hltI, gi1, ld1, hsE, ← hg3, q3, ld4_0, strB_toList, htb, cg3, ld6_1, hkn, hknI, gi2', ld2, hfi, hone, ← hg4, q4, hro, Option.bind_some, hap, hkk]
  have F25 : Fr g2 g5 [] := F24.trans' F5 (fun y hy => .inr (E.ids y hy))
  exact ⟨F25, a5, _, c5, _, E5, by simp, by simp; omega, by rw [hof, List.map_append, hvs]; rfl, rfl, rfl, rfl⟩

/- audit, part W: tenants' own chains (AuditSubs). -/

theorem ShV.arr {h : VH} {n : Nat} {v : Value} {k : Nat} (H : ShV h (.arr n 1 (.int .u8)) v k) : ∃ l : List UInt8, v = digV l ∧ l.length = n := by
  obtain ⟨cs, rfl, es, h1, h2, h3, h4⟩ := H
  obtain ⟨bs, b1, b2, b3⟩ := bytes_rows es h3
  exact ⟨bs, by rw [h2, b1]; rfl, by omega⟩
theorem IsEns.fr {h h' : VH} {v : Value} {es : List En} (F : Fr h h' []) (H : IsEns h v es) : IsEns h' v es := by
  obtain ⟨a, c, rfl, hat⟩ := H
  refine ⟨a, c, rfl, fun h0 => ?_⟩
  obtain ⟨i, o, rfl, hi, he, hk⟩ := hat h0
  have hg := F.get i hi (by simp)
  have hn := F.n
  refine ⟨i, o, rfl, by omega, by rw [hg]; exact he, fun k hk' => ?_⟩
  obtain ⟨p, m, d, l1, l2, l3⟩ := hk k hk'
  exact ⟨p, m, d, by rw [hg]; exact l1, by rw [hg]; exact l2, isB_fr F l3⟩
theorem IsBss.ro {h : VH} {v : Value} {es : List (List UInt8)} (H : IsBss h v es) : IsBss h.ro v es := by
  obtain ⟨a, c, rfl, hat⟩ := H
  refine ⟨a, c, rfl, fun h0 => ?_⟩
  obtain ⟨i, o, rfl, hi, hk⟩ := hat h0
  have hg : h.ro.get i = (h.get i).ro := rfl
  refine ⟨i, o, rfl, hi, fun k hk' => ?_⟩
  obtain ⟨p, m, d, l1, l3⟩ := hk k hk'
  refine ⟨p, m, d, ?_, l3.ro⟩
  rw [hg]
  cases hx : h.get i <;> rw [hx] at l1 <;> exact l1
theorem bss_rows {h : VH} : ∀ {es : List (List Value × Nat)}, (∀ x ∈ es, x.1.length = 1 ∧ Sh h (.sl 1 (.int .u8)) x.1 x.2) → ∃ bss : List (List UInt8), bss.length = es.length ∧ (∀ k (hk : k < bss.length) (hk' : k < es.length), ∃ w, es[k].1 = [w] ∧ IsBytes h w bss[k]) ∧ (∀ b ∈ bss, b.length ≤ (es.map (·.2)).sum) ∧ es.length ≤ (es.map (·.2)).sum
  | [], _ => ⟨[], rfl, fun k hk => by simp at hk, fun e he => by simp at he, by simp⟩
  | x :: r, H => by
    obtain ⟨bss, h1, h2, h3, h4⟩ := bss_rows (es := r) (fun y hy => H y (List.mem_cons_of_mem _ hy))
    obtain ⟨l1, l2⟩ := H x (List.mem_cons_self ..)
    obtain ⟨w, hw⟩ := list_one l1
    rw [hw] at l2
    obtain ⟨b, hb, hl⟩ := Sh.bytes l2
    refine ⟨b :: bss, by simp [h1], fun k hk hk' => ?_, fun y hy => ?_, by simp only [List.length_cons, List.map_cons, List.sum_cons]; omega⟩
    · cases k with
      | zero => exact ⟨w, hw, hb⟩
      | succ k => exact h2 k (by simpa using hk) (by simpa using hk')
    · simp only [List.map_cons, List.sum_cons]
      rcases List.mem_cons.1 hy with rfl | hy
      · omega
      · have := h3 y hy; omega
theorem Sh.bss {h : VH} {v : Value} {k : Nat} (H : Sh h (.sl 1 (.sl 1 (.int .u8))) [v] k) : ∃ bss, IsBss h v bss ∧ (∀ b ∈ bss, b.length ≤ k) ∧ bss.length ≤ k := by
  rcases H with ⟨h1, rfl⟩ | ⟨i, n, c, cs, ow, rows, h1, h2, h3, h4, h5, h6, h7, h8⟩
  · injection h1 with h1 _
    subst h1
    exact ⟨[], ⟨none, 0, rfl, fun h => by simp at h⟩, fun e he => by simp at he, by simp⟩
  · injection h1 with h1 _
    subst h1
    obtain ⟨bss, e1, e2, e3, e4⟩ := bss_rows h7
    have hn : n ≤ bss.length := by omega
    refine ⟨bss.take n, ⟨some ⟨i, 0, none⟩, c, by rw [List.length_take, Nat.min_eq_left hn], fun _ => ⟨i, 0, rfl, h3, fun k hk => ?_⟩⟩, fun e he => ?_, by rw [List.length_take]; omega⟩
    · have hk2 : k < bss.length := by rw [List.length_take] at hk; omega
      have hk3 : k < rows.length := by omega
      obtain ⟨w, w1, w2⟩ := e2 k hk2 hk3
      have hfl : ∀ x ∈ rows.map (·.1), x.length = 1 := fun x hx => by
        obtain ⟨y, hy, rfl⟩ := List.mem_map.1 hx
        exact (h7 y hy).1
      have hch := flat_chunk hfl (k := k) (by simpa using hk3)
      rw [← h6, List.getElem_map, w1, Nat.mul_one] at hch
      obtain ⟨p, d, rfl⟩ := w2.shape
      have hge : (bss.take n)[k] = bss[k] := by simp
      refine ⟨p, _, d, ?_, by rw [hge]; exact w2⟩
      rw [h4, Nat.zero_add]
      have h9 : ((cs.drop k).take 1)[0]? = some (.slice p bss[k].length d) := by rw [hch]; rfl
      rw [List.getElem?_take, if_pos (by decide), List.getElem?_drop, Nat.add_zero] at h9
      simpa [loadObj] using h9
    · have := e3 e (List.mem_of_mem_take he)
      omega
theorem names_fold : ∀ (es : List En) (S : MS), NamesOK S.subs → NamesOK (es.foldl stepM S).subs
  | [], _, h => h
  | e :: es, S, h => by
    rw [List.foldl_cons]
    refine names_fold es _ ?_
    by_cases hw : wrongS e = 0
    · rw [stepM_ok hw]
      exact sput_ok h (wrongS_ok hw).2.1
    · rw [stepM_bad hw]
      exact h
theorem made_names (es : List En) : NamesOK (madeS es).subs := names_fold _ _ ⟨by simp [ms0], by simp [ms0]⟩
theorem subs_fold : ∀ (es : List En) (S : MS), (es.foldl stepM S).subs.length ≤ S.subs.length + es.length
  | [], S => by simp
  | e :: es, S => by
    rw [List.foldl_cons, List.length_cons]
    have h1 := subs_fold es (stepM S e)
    have h2 : (stepM S e).subs.length ≤ S.subs.length + 1 := by
      by_cases hw : wrongS e = 0
      · rw [stepM_ok hw]; exact sput_length
      · rw [stepM_bad hw]; omega
    omega
theorem ins_fold (es : List En) : (madeS es).ins.length ≤ 40 := by
  have h := (fold_ins (es.take 40) ms0).2
  have e : madeS es = (es.take 40).foldl stepM ms0 := rfl
  rw [e, h]
  have h2 := List.length_filter_le (fun e => decide (wrongS e = 0)) (es.take 40)
  have h3 : (es.take 40).length ≤ 40 := by simp; omega
  simp [ms0]
  simp at h2 h3
  omega
theorem log_fold : ∀ (es : List En) (S : MS), (es.foldl stepM S).log.length ≤ S.log.length + es.length * 1048586
  | [], S => by simp
  | e :: es, S => by
    have h1 := log_fold es (stepM S e)
    have h2 : (stepM S e).log.length ≤ S.log.length + 1048586 := by
      unfold stepM
      have := fr_le (n := S.n) (l := S.l) (subs := S.subs) (e := e)
      by_cases h : wrongS e = 0
      · simp only [if_pos h, List.length_append]; omega
      · simp only [if_neg h]; omega
    rw [List.foldl_cons, List.length_cons, Nat.succ_mul]
    omega
theorem log_small (es : List En) : (madeS es).log.length ≤ 100000000 ∧ (madeS es).subs.length ≤ 40 := by
  have h := log_fold (es.take 40) ms0
  have h' := subs_fold (es.take 40) ms0
  have e : madeS es = (es.take 40).foldl stepM ms0 := rfl
  have h3 : (es.take 40).length ≤ 40 := by simp; omega
  have h4 : (es.take 40).length * 1048586 ≤ 40 * 1048586 := Nat.mul_le_mul_right _ h3
  rw [e]
  have h5 : ms0.log.length = 0 := rfl
  have h6 : ms0.subs.length = 0 := rfl
  omega
theorem ofS_le (t : List UInt8) (bs : List UInt8) : (∀ b ∈ ofS t (itemsS bs), b.length ≤ 131072) ∧ (ofS t (itemsS bs)).length ≤ bs.length := by
  refine ⟨fun b hb => ?_, ?_⟩
  · obtain ⟨i, hi, rfl⟩ := List.mem_map.1 hb
    exact items_b _ _ _ _ i (List.mem_filter.1 hi).1
  · have h1 := items_count (bs.length + 1) bs zero32 []
    have h2 := List.length_filter_le (fun i : It => decide (i.e.t = t)) (itemsS bs)
    unfold ofS
    rw [List.length_map]
    unfold itemsS at h2 ⊢
    omega
theorem add_sub {n : Nat} {l : List UInt8} {subs : Sbs} {e : En} {t : List UInt8} (h : e.t ≠ t) : sget t (addS n l subs e).subs = sget t subs := by
  unfold addS
  split
  · rfl
  · simp only
    rw [sget_sput, if_neg (fun e => h e.symm)]
theorem addS_ls {n : Nat} {l : List UInt8} {subs : Sbs} {e : En} (h : ∀ p ∈ subs, p.2.length = 32) : ∀ p ∈ (addS n l subs e).subs, p.2.length = 32 := by
  unfold addS
  split
  · exact h
  · exact sput_len (shaS_len _) h

set_option maxHeartbeats 16000000 in
theorem subs_ok' {h : VH} {v0 vo vr : Value} {es : List En} {eo : En} {t d : List UInt8} {raw : List (List UInt8)} (hv : IsEns h v0 es) (hes : ∀ e ∈ es, e.t.length ≤ 1048576 ∧ e.w.length ≤ 1048576 ∧ e.b.length ≤ 1048576) (hlen : es.length ≤ 1048576)
    (ho : IsBytes h vo eo.b) (hol : eo.t.length ≤ 1048576 ∧ eo.w.length ≤ 1048576 ∧ eo.b.length ≤ 1048576) (hr : IsBss h vr raw) (hrl : ∀ b ∈ raw, b.length ≤ 1048576) (hrn : raw.length ≤ 1048576) (hd : d.length = 32) :
    PCalls Try.prog f_law09_AuditSubs [v0, enV eo vo, .string (strB t), vr, digV d] h (fun u _ => u = .bool true) := by
  refine PCalls_of_pw st_law09_AuditSubs (by simp [n_law09_AuditSubs]) ?_
  rw [b_law09_AuditSubs]
  obtain ⟨oa, oc, rfl⟩ := ho.shape
  obtain ⟨LO, hLO⟩ : ∃ L, L = eo.b.length := ⟨_, rfl⟩
  rw [← hLO] at ho ⊢
  have hcd : cellsL (digV d) = u8s d := rfl
  have hall : (u8s d).all Value.oneCell' = true := by simp [u8s, Value.oneCell']
  have hce : cellsL (enV eo (.slice oa LO oc)) = [.string (strB eo.t), .int .i64 eo.at_, .string (strB eo.w), .slice oa LO oc] := rfl
  have hale : ([.string (strB eo.t), .int .i64 eo.at_, .string (strB eo.w), .slice oa LO oc] : List Value).all Value.oneCell' = true := rfl
  obtain ⟨g0, hg0⟩ : ∃ x, x = (h.push (.cells [.string (strB eo.t), .int .i64 eo.at_, .string (strB eo.w), .slice oa LO oc] true 1)).push (.cells (u8s d) true 1) := ⟨_, rfl⟩
  have F0 : Fr h g0 [] := by rw [hg0]; exact Fr_push (Fr_push (Fr.refl _ _))
  have n0 : g0.n = h.n + 2 := by rw [hg0]; simp
  obtain ⟨pa, pb, _⟩ := VH.get_push2 h (.cells [.string (strB eo.t), .int .i64 eo.at_, .string (strB eo.w), .slice oa LO oc] true 1) (.cells (u8s d) true 1)
  rw [← hg0] at pa pb
  have hld : loadObj (.cells (u8s d) true 1) 0 (some 32) = some (digV d) := dig_load hd
  obtain ⟨Y, hY⟩ : ∃ Y, Y = h.n + 1 := ⟨_, rfl⟩
  rw [← hY] at pb
  simp (disch := first|omega|(simp only [np,ns];try omega)) [B_law09_AuditSubs, hce, hale, hcd, hall, ← hg0, ← hY, pb, hld]
  refine (vsub_ok (hr.fr F0) (fun b hb => by have := hrl b hb; omega) (by omega) hd).mono ?_
  rintro u g1 ⟨rfl, F1⟩
  have pb1 := (F1.get Y (by omega) (by simp)).trans pb
  simp (disch := first|omega|(simp only [np,ns];try omega)) [← hY, pb1, hld]
  refine (rvsub_ok (hr.fr (F0.trans F1)) (fun b hb => by have := hrl b hb; omega) (by omega) hd).mono ?_
  rintro u g2 ⟨rfl, F2⟩
  have hVV : (vsubS t raw d != vsubS t raw d) = false := by simp
  have F02 := F0.trans (F1.trans F2)
  simp (disch := first|omega|(simp only [np,ns];try omega)) [hVV]
  refine (made_ok (IsEns.fr F02 hv) hes hlen).mono ?_
  rintro u g3 ⟨ir, v, al, cl, ai, ci, rfl, F3, R3, O3, I3, hir, hiv, hil, hii⟩
  have G := made_good es
  have hno := made_names es
  have hvs := @made_vsub es
  obtain ⟨hll, hsl⟩ := log_small es
  have hin := ins_fold es
  obtain ⟨S, hS⟩ : ∃ S, S = madeS es := ⟨_, rfl⟩
  rw [← hS] at R3 O3 G hno hvs hll hsl hin ⊢
  have nS : S.n ≤ 40 := by rw [G.n]; exact hin
  have wS := G.walkS
  have lx := OwnSl.bytes (bs := S.log) O3
  simp (disch := first|omega|(simp only [np,ns];try omega)) []
  refine (resume_ok lx (by omega)).mono ?_
  rintro u g4 ⟨i, j, rfl, K4, F4, hs4, hi4, hj4, _⟩
  rw [wS] at K4 hs4 ⊢
  simp only at K4 hs4 ⊢
  obtain ⟨L, hL⟩ : ∃ L, L = S.log.length := ⟨_, rfl⟩
  rw [← hL] at lx hll ⊢
  have hLL : ((L : Int) != (L : Int)) = false := by simp
  have lx4 := isB_fr F4 lx
  have R4 := R3.fr F4 (by simp) (by simp)
  have F04 := (F02.trans F3).trans F4
  have m2 := F2.n
  have m1 := F1.n
  have m3 := F3.n
  have m4 := F4.n
  have pa4 := ((F1.trans (F2.trans (F3.trans F4))).get h.n (by omega) (by simp)).trans pa
  simp (disch := first|omega|(simp only [np,ns];try omega)) [hLL]
  refine pw_loopN (fun k s g => Fr g4 g [] ∧ s 2 = .string (strB t) ∧ s 6 = .pointer (some ⟨h.n, 0, none⟩) ∧ s 11 = .slice al L cl ∧ s 12 = .pointer (some ⟨ir, 0, none⟩) ∧ s 14 = .pointer (some ⟨i, 0, none⟩) ∧ s 16 = .int .i64 (k : Int)) S.subs.length ?_ ?_
  · exact ⟨Fr.refl _ _, by simp [upd_apply, s0_apply], by simp [upd_apply], by simp [upd_apply], by simp [upd_apply], by simp [upd_apply], by simp [upd_apply]⟩
  rintro k s g hk ⟨F5, z2, z6, z11, z12, z14, z16⟩
  have R5 := R4.fr F5 (by simp) (by simp)
  have K5 := K4.fr F5
  have lx5 := isB_fr F5 lx4
  have pa5 := (F5.get h.n (by omega) (by simp)).trans pa4
  obtain ⟨sa, sc, hsh⟩ := R5.own.shapeN
  subst hsh
  obtain ⟨NS, hNS⟩ : ∃ NS, NS = S.subs.length := ⟨_, rfl⟩
  have hlds := rch_lds (ow := true) (e := 1) (n := S.n) (v := .slice sa NS sc) G.ll
  rw [← hNS] at R5 hk hsl
  have hrec := R5.rec_
  have hsX : ∀ (a : List UInt8), a.length = 32 → storeObj (.cells [.int .u8 0, .int .u8 0, .int .u8 0, .int .u8 0, .int .u8 0, .int .u8 0, .int .u8 0, .int .u8 0, .int .u8 0, .int .u8 0, .int .u8 0, .int .u8 0, .int .u8 0, .int .u8 0, .int .u8 0, .int .u8 0, .int .u8 0, .int .u8 0, .int .u8 0, .int .u8 0, .int .u8 0, .int .u8 0, .int .u8 0, .int .u8 0, .int .u8 0, .int .u8 0, .int .u8 0, .int .u8 0, .int .u8 0, .int .u8 0, .int .u8 0, .int .u8 0] true 1) 0 32 (digV a) = some (.cells (u8s a) true 1) := fun a ha => dig_store ha rfl
  by_cases hlt : k < NS
  case neg =>
    have hltI : ¬ (k : Int) < (NS : Int) := by omega
    simp (disch := first|omega|(simp only [np,ns];try omega)) [z12, z16, hrec, hlds, hlt, hltI, z14, z2]
    refine (sub_ok K5 hs4).mono ?_
    rintro u g6 ⟨rfl, F6⟩
    obtain ⟨D, hD⟩ : ∃ D, D = (sget t S.subs).getD zero32 := ⟨_, rfl⟩
    obtain ⟨B, hB⟩ : ∃ B, B = (sget t S.subs).isSome := ⟨_, rfl⟩
    have hDl : D.length = 32 := by rw [hD]; exact sget_len hs4
    rw [← hD, ← hB]
    obtain ⟨g7, hg7⟩ : ∃ x, x = (g6.push (.cells [.int .u8 0, .int .u8 0, .int .u8 0, .int .u8 0, .int .u8 0, .int .u8 0, .int .u8 0, .int .u8 0, .int .u8 0, .int .u8 0, .int .u8 0, .int .u8 0, .int .u8 0, .int .u8 0, .int .u8 0, .int .u8 0, .int .u8 0, .int .u8 0, .int .u8 0, .int .u8 0, .int .u8 0, .int .u8 0, .int .u8 0, .int .u8 0, .int .u8 0, .int .u8 0, .int .u8 0, .int .u8 0, .int .u8 0, .int .u8 0, .int .u8 0, .int .u8 0] true 1)).set g6.n (.cells (u8s D) true 1) := ⟨_, rfl⟩
    have F7 : Fr g6 g7 [] := by rw [hg7]; exact Fr_set (Fr_push (Fr.refl _ _)) (Nat.le_refl _)
    have q7 : g7.get g6.n = .cells (u8s D) true 1 := by rw [hg7, VH.get_set_same]
    have n7 : g7.n = g6.n + 1 := by rw [hg7]; simp
    have F57 := F6.trans F7
    have m5 := F5.n
    have m6 := F6.n
    have pa7 := (F57.get h.n (by omega) (by simp)).trans pa5
    have hlE : loadObj (.cells [.string (strB eo.t), .int .i64 eo.at_, .string (strB eo.w), .slice oa LO oc] true 1) 0 (some 4) = some (enV eo (.slice oa LO oc)) := rfl
    simp (disch := first|omega|(simp only [np,ns];try omega)) [hsX D hDl, ← hg7, z6, pa7, hlE, z14]
    have ho7 := isB_fr ((F04.trans F5).trans F57) ho
    refine (given_ok ho7 (by omega)).mono ?_
    rintro u g8 ⟨ba, bm, bc, rfl, B8⟩
    have K8 := (K5.fr F57).fr B8.fr
    simp (disch := first|omega|(simp only [np,ns];try omega)) [z14]
    refine (add_ok K8 hs4 B8.is (by omega) (by omega) (by omega) (by omega)).mono ?_
    intro u g9 hA
    obtain ⟨a9, am9, ac9, rfl, _, _, K9, F9⟩ := add_out K8 hA
    clear hA
    have m8 := B8.fr.n
    have hin9 : g6.n ≠ i ∧ g6.n ≠ j ∧ h.n ≠ i ∧ h.n ≠ j := by
      have := K5.lti
      have := K5.ltj
      omega
    have q9 := (F9.get g6.n (by omega) (by simp; omega)).trans ((B8.fr.get g6.n (by omega) (by simp)).trans q7)
    have pa9 := (F9.get h.n (by omega) (by simp; omega)).trans ((B8.fr.get h.n (by omega) (by simp)).trans pa7)
    simp (disch := first|omega|(simp only [np,ns];try omega)) [z14, z2]
    refine (sub_ok K9 (addS_ls hs4)).mono ?_
    rintro u g10 ⟨rfl, F10⟩
    obtain ⟨D2, hD2⟩ : ∃ D, D = (sget t (addS S.n S.l S.subs eo).subs).getD zero32 := ⟨_, rfl⟩
    obtain ⟨B2, hB2⟩ : ∃ B, B = (sget t (addS S.n S.l S.subs eo).subs).isSome := ⟨_, rfl⟩
    have hD2l : D2.length = 32 := by rw [hD2]; exact sget_len (addS_ls hs4)
    rw [← hD2, ← hB2]
    have m9 := F9.n
    have m10 := F10.n
    obtain ⟨g11, hg11⟩ : ∃ x, x = (g10.push (.cells [.int .u8 0, .int .u8 0, .int .u8 0, .int .u8 0, .int .u8 0, .int .u8 0, .int .u8 0, .int .u8 0, .int .u8 0, .int .u8 0, .int .u8 0, .int .u8 0, .int .u8 0, .int .u8 0, .int .u8 0, .int .u8 0, .int .u8 0, .int .u8 0, .int .u8 0, .int .u8 0, .int .u8 0, .int .u8 0, .int .u8 0, .int .u8 0, .int .u8 0, .int .u8 0, .int .u8 0, .int .u8 0, .int .u8 0, .int .u8 0, .int .u8 0, .int .u8 0] true 1)).set g10.n (.cells (u8s D2) true 1) := ⟨_, rfl⟩
    have F11 : Fr g10 g11 [] := by rw [hg11]; exact Fr_set (Fr_push (Fr.refl _ _)) (Nat.le_refl _)
    have q11 : g11.get g10.n = .cells (u8s D2) true 1 := by rw [hg11, VH.get_set_same]
    have F911 := F10.trans F11
    have q9' := (F911.get g6.n (by omega) (by simp)).trans q9
    have pa11 := (F911.get h.n (by omega) (by simp)).trans pa9
    have hlD : loadObj (.cells (u8s D) true 1) 0 (some 32) = some (digV D) := dig_load hDl
    have hlD2 : loadObj (.cells (u8s D2) true 1) 0 (some 32) = some (digV D2) := dig_load hD2l
    have hagg : ∀ X : List UInt8, digV X = .agg (u8s X).toArray := fun _ => rfl
    have hsX2 : ∀ (a : List UInt8), a.length = 32 → storeObj (.cells [.int .u8 0, .int .u8 0, .int .u8 0, .int .u8 0, .int .u8 0, .int .u8 0, .int .u8 0, .int .u8 0, .int .u8 0, .int .u8 0, .int .u8 0, .int .u8 0, .int .u8 0, .int .u8 0, .int .u8 0, .int .u8 0, .int .u8 0, .int .u8 0, .int .u8 0, .int .u8 0, .int .u8 0, .int .u8 0, .int .u8 0, .int .u8 0, .int .u8 0, .int .u8 0, .int .u8 0, .int .u8 0, .int .u8 0, .int .u8 0, .int .u8 0, .int .u8 0] true 1) 0 32 (.agg (u8s a).toArray) = some (.cells (u8s a) true 1) := fun a ha => dig_store ha rfl
    by_cases ht : eo.t = t
    · have htb : (eo.t == t) = true := by simpa using ht
      simp (disch := first|omega|(simp only [np,ns];try omega)) [hsX D2 hD2l, ← hg11, z6, z2, pa11, ld4_0, strB_toList, htb]
      refine (known_ok _).mono ?_
      rintro u g12 ⟨rfl, rfl⟩
      simp (disch := first|omega|(simp only [np,ns];try omega)) [r_law09_AuditSubs]
    · have htb : (eo.t == t) = false := by simpa using ht
      have hsg := add_sub (n := S.n) (l := S.l) (subs := S.subs) ht
      have hDD : D2 = D := by rw [hD2, hD, hsg]
      have hBB : B2 = B := by rw [hB2, hB, hsg]
      have fD := fits32 hDl
      have hcb := cellsB_u8s D D rfl
      rw [beq_self_eq_true] at hcb
      rw [hDD] at q11 hlD2 hg11
      have hbb : (B == B) = true := by simp
      simp (disch := first|omega|(simp only [np,ns];try omega)) [hDD, hBB, hsX2 D hDl, ← hg11, z6, z2, pa11, ld4_0, strB_toList, htb, q9', q11, hlD, hagg, fD, hcb, hbb]
      refine (known_ok _).mono ?_
      rintro u g12 ⟨rfl, rfl⟩
      simp (disch := first|omega|(simp only [np,ns];try omega)) [r_law09_AuditSubs]
  have hltI : (k : Int) < (NS : Int) := by omega
  obtain ⟨vi, vo', c', ds, e1, hvi, hvg, hvd, hvo, hvc, hel⟩ := R5.at_ (by omega)
  injection e1 with e11 e12 e13
  subst e11
  obtain ⟨x1, x2⟩ := hel k (by omega)
  rw [hvg] at x1 x2
  obtain ⟨nm, hnm⟩ : ∃ nm, nm = (S.subs[k]'(by omega)).1 := ⟨_, rfl⟩
  have hown := sget_own hno (k := k) (by omega)
  rw [← hnm] at x1 hown
  obtain ⟨dg, hdg⟩ : ∃ dg, dg = (S.subs[k]'(by omega)).2 := ⟨_, rfl⟩
  rw [← hdg] at hown
  have hdgl : dg.length = 32 := by rw [hdg]; exact hs4 _ (List.getElem_mem _)
  simp (disch := first|omega|(simp only [np,ns];try omega)) [z12, z16, hrec, hlds, hlt, hltI, hvg, x1, z11]
  refine (of_ok lx5 (by rw [← hL]; omega) (by rw [wS])).mono ?_
  rintro u g6 ⟨F6, ca, cn, cc, rfl, hbss⟩
  simp (disch := first|omega|(simp only [np,ns];try omega)) [z14]
  refine (sub_ok (K5.fr F6) hs4).mono ?_
  rintro u g7 ⟨rfl, F7⟩
  have hgd : (sget nm S.subs).getD zero32 = dg := by rw [hown]; rfl
  have hsm : (sget nm S.subs).isSome = true := by rw [hown]; rfl
  rw [hgd, hsm]
  obtain ⟨g8, hg8⟩ : ∃ x, x = (g7.push (.cells [.int .u8 0, .int .u8 0, .int .u8 0, .int .u8 0, .int .u8 0, .int .u8 0, .int .u8 0, .int .u8 0, .int .u8 0, .int .u8 0, .int .u8 0, .int .u8 0, .int .u8 0, .int .u8 0, .int .u8 0, .int .u8 0, .int .u8 0, .int .u8 0, .int .u8 0, .int .u8 0, .int .u8 0, .int .u8 0, .int .u8 0, .int .u8 0, .int .u8 0, .int .u8 0, .int .u8 0, .int .u8 0, .int .u8 0, .int .u8 0, .int .u8 0, .int .u8 0] true 1)).set g7.n (.cells (u8s dg) true 1) := ⟨_, rfl⟩
  have F8 : Fr g7 g8 [] := by rw [hg8]; exact Fr_set (Fr_push (Fr.refl _ _)) (Nat.le_refl _)
  have q8 : g8.get g7.n = .cells (u8s dg) true 1 := by rw [hg8, VH.get_set_same]
  have hlD : loadObj (.cells (u8s dg) true 1) 0 (some 32) = some (digV dg) := dig_load hdgl
  obtain ⟨ol1, ol2⟩ := ofS_le nm S.log
  simp (disch := first|omega|(simp only [np,ns];try omega)) [hsX dg hdgl, ← hg8, q8, hlD]
  refine (vsub_ok (hbss.fr (F7.trans F8)) (fun b hb => by have := ol1 b hb; omega) (by omega) hdgl).mono ?_
  rintro u g9 ⟨rfl, F9⟩
  have hv0 : vsubS nm (ofS nm (itemsS S.log)) dg = 0 := hvs hown
  have hkk : IntKind.i64.wrap ((k : Int) + 1) = ((k + 1 : Nat) : Int) := by rw [i64_small (by omega) (by omega)]; omega
  simp (disch := first|omega|(simp only [np,ns];try omega)) [hv0, z16, hkk]
  exact ⟨by omega, ((((F5.trans F6).trans F7).trans F8).trans F9), z2, z6, z11, z12, z14⟩
theorem subs_law' {h : VH} {us : List Value} {k : Nat} (H : ShA h [.sl 4 enT, enT, .str, .sl 1 (.sl 1 (.int .u8)), .arr 32 1 (.int .u8)] us k) (hk : k ≤ 1048576) :
    PCalls Try.prog f_law09_AuditSubs us h (fun u h' => u = .bool true ∧ h' = h) := by
  obtain ⟨v, r, k1, k2, rfl, h1, ⟨v2, r2, k3, k4, rfl, ⟨cs, rfl, hcs⟩, ⟨v3, r3, k5, k6, rfl, h3, ⟨v4, r4, k7, k8, rfl, h4, ⟨v5, r5, k9, k10, rfl, h5, ⟨rfl, _⟩, e5⟩, e4⟩, e3⟩, e2⟩, e1⟩ := H
  obtain ⟨es, a1, a2, a3⟩ := Sh.ens h1
  obtain ⟨eo, w, rfl, b1, b2, _⟩ := Sh.en hcs
  obtain ⟨t, rfl, ht⟩ := Sh.str (h := h) h3
  obtain ⟨raw, c1, c2, c3⟩ := Sh.bss h4
  obtain ⟨d, rfl, hd⟩ := ShV.arr h5
  exact ((subs_ok' (eo := eo) a1.ro (fun e he => by have := a2 e he; omega) (by omega) b1.ro ⟨by omega, by omega, by omega⟩ c1.ro (fun b hb => by have := c2 b hb; omega) (by omega) hd).mono fun u _ e => by subst e; exact ⟨rfl, rfl⟩).drop
end Go.Proofs.Ytdnkpgbggpbgaaa.Au
