/- audit, part L: the reference's names and what it says is wrong. -/
import Derived.Test.YtdnkpgbggpbgaaaAuI
import Derived.Test.YtdnkpgbggpbgaaaFsC
import Derived.Test.YtdnkpgbggpbgaaaWrN
set_option linter.unusedVariables false
set_option linter.unusedSimpArgs false
set_option maxRecDepth 100000
namespace Go.Proofs.Ytdnkpgbggpbgaaa.Au
open Go Go.RowKit Go.Proofs.Ytdnkpgbggpbgaaa.Pm Go.Proofs.Ytdnkpgbggpbgaaa.Fs Go.Proofs.Ytdnkpgbggpbgaaa.Wr Go.Proofs.Ytdnkpgbggpbgaaa.Sha




set_option maxHeartbeats 4000000 in
theorem rname_ok {h : VH} {t : List UInt8} (ht : t.length ≤ 140737488355328) : PCalls Try.prog f_ref09_Name [.string (strB t)] h (fun u h' => u = .bool (nameS t) ∧ h' = h) := by
  refine PCalls_of_pw st_ref09_Name (by simp [n_ref09_Name]) ?_
  rw [b_ref09_Name]
  obtain ⟨L, hL⟩ : ∃ L, L = t.length := ⟨_, rfl⟩
  have hsz : (strB t).size = L := by rw [strB_size, hL]
  by_cases h0 : L < 1
  · have h0I : (L : Int) < 1 := by omega
    have hres : nameS t = false := by unfold nameS; rw [decide_eq_false (by omega)]; simp
    simp (disch := first|omega|(simp only [np,ns];try omega)) [r_ref09_Name, B_ref09_Name, hsz, h0, h0I, hres]
  have h0I : ¬ (L : Int) < 1 := by omega
  by_cases h32 : 32 < L
  · have h32I : (32 : Int) < (L : Int) := by omega
    have hres : nameS t = false := by unfold nameS; rw [decide_eq_false (p := t.length ≤ 32) (by omega)]; simp
    simp (disch := first|omega|(simp only [np,ns];try omega)) [r_ref09_Name, B_ref09_Name, hsz, h0, h0I, h32, h32I, hres]
  have h32I : ¬ (32 : Int) < (L : Int) := by omega
  have h0p : 0 < t.length := by omega
  have hs0 : strAt (.string (strB t)) (.int .i64 0) = some (.int .u8 (t.getD 0 0).toNat) := by simpa using strAt_D (n := 0) (k := .i64) h0p
  obtain ⟨c, hc⟩ : ∃ c, c = (t.getD 0 0).toNat := ⟨_, rfl⟩
  rw [← hc] at hs0
  by_cases hlo : c < 97
  · have hloI : (c : Int) < 97 := by omega
    have hlf : lowC (t.getD 0 0) = false := by unfold lowC; rw [← hc, decide_eq_false (by omega)]; rfl
    have hres : nameS t = false := by unfold nameS; rw [hlf]; simp
    simp (disch := first|omega|(simp only [np,ns];try omega)) [r_ref09_Name, B_ref09_Name, hsz, h0, h0I, h32, h32I, hs0, hloI, hlo, hres]
  have hloI : ¬ (c : Int) < 97 := by omega
  by_cases hhi : 122 < c
  · have hhiI : (122 : Int) < (c : Int) := by omega
    have hlf : lowC (t.getD 0 0) = false := by unfold lowC; rw [← hc, decide_eq_false (p := c ≤ 122) (by omega)]; simp
    have hres : nameS t = false := by unfold nameS; rw [hlf]; simp
    simp (disch := first|omega|(simp only [np,ns];try omega)) [r_ref09_Name, B_ref09_Name, hsz, h0, h0I, h32, h32I, hs0, hloI, hlo, hhi, hhiI, hres]
  have hhiI : ¬ (122 : Int) < (c : Int) := by omega
  have hlow : lowC (t.getD 0 0) = true := by unfold lowC; rw [← hc, decide_eq_true (by omega), decide_eq_true (by omega)]; rfl
  simp (disch := first|omega|(simp only [np,ns];try omega)) [B_ref09_Name, hsz, h0, h0I, h32, h32I, hs0, hloI, hlo, hhi, hhiI]
  refine pw_loopN (fun k s g => g = h ∧ (t.take k).all nmC = true ∧ s 0 = .string (strB t) ∧ s 3 = .int .i64 (k : Int)) L ?_ ?_
  · refine ⟨rfl, by simp, by simp [upd_apply, s0_apply], by simp [upd_apply]⟩
  rintro k s g hk ⟨rfl, hall, e0, e3⟩
  by_cases hlt : k < L
  · have hltI : (k : Int) < (L : Int) := by omega
    have hld : strAt (.string (strB t)) (.int .i64 (k : Int)) = some (.int .u8 (t.getD k 0).toNat) := strAt_D (by omega)
    obtain ⟨d, hd⟩ : ∃ d, d = (t.getD k 0).toNat := ⟨_, rfl⟩
    rw [← hd] at hld
    have hkk : IntKind.i64.wrap ((k : Int) + 1) = ((k + 1 : Nat) : Int) := by rw [i64_small (by omega) (by omega)]; omega
    by_cases hok : nmC (t.getD k 0) = true
    · have hnx := all_take (by omega) hall hok
      simp only [nmC, lowC, ← hd, Bool.or_eq_true, Bool.and_eq_true, decide_eq_true_eq] at hok
      by_cases a1 : 97 ≤ d
      · have a1I : (97 : Int) ≤ (d : Int) := by omega
        have a2I : (d : Int) ≤ 122 := by omega
        simp (disch := first|omega|(simp only [np,ns];try omega)) [e0, e3, hsz, hltI, hlt, hld, a1I, a2I, hkk]
        exact List.all_eq_true.1 hnx
      · have a1I : ¬ (97 : Int) ≤ (d : Int) := by omega
        by_cases a2 : 48 ≤ d
        · have a2I : (48 : Int) ≤ (d : Int) := by omega
          have a3I : (d : Int) ≤ 57 := by omega
          simp (disch := first|omega|(simp only [np,ns];try omega)) [e0, e3, hsz, hltI, hlt, hld, a1I, a2I, a3I, hkk]
          exact List.all_eq_true.1 hnx
        · have a2I : ¬ (48 : Int) ≤ (d : Int) := by omega
          have a3 : ((d : Int) == 45) = true := by rw [beq_iff_eq]; omega
          simp (disch := first|omega|(simp only [np,ns];try omega)) [e0, e3, hsz, hltI, hlt, hld, a1I, a2I, a3, hkk]
          exact List.all_eq_true.1 hnx
    · have hno : nmC (t.getD k 0) = false := by simpa using hok
      have hfa := all_not (by omega) hno
      have hres : nameS t = false := by simp [nameS, hfa]
      have hok2 : ¬ ((97 ≤ d ∧ d ≤ 122) ∨ (48 ≤ d ∧ d ≤ 57) ∨ d = 45) := by
        intro hx
        apply hok
        simp only [nmC, lowC, ← hd, Bool.or_eq_true, Bool.and_eq_true, decide_eq_true_eq]
        omega
      have a3 : ((d : Int) == 45) = false := by rw [beq_eq_false_iff_ne]; omega
      by_cases a1 : 97 ≤ d
      · have a1I : (97 : Int) ≤ (d : Int) := by omega
        have a2I : ¬ (d : Int) ≤ 122 := by omega
        have a4I : (48 : Int) ≤ (d : Int) := by omega
        have a5I : ¬ (d : Int) ≤ 57 := by omega
        simp (disch := first|omega|(simp only [np,ns];try omega)) [r_ref09_Name, e0, e3, hsz, hltI, hlt, hld, a1I, a2I, a4I, a5I, a3, hres]
      · have a1I : ¬ (97 : Int) ≤ (d : Int) := by omega
        by_cases a2 : 48 ≤ d
        · have a4I : (48 : Int) ≤ (d : Int) := by omega
          have a5I : ¬ (d : Int) ≤ 57 := by omega
          simp (disch := first|omega|(simp only [np,ns];try omega)) [r_ref09_Name, e0, e3, hsz, hltI, hlt, hld, a1I, a4I, a5I, a3, hres]
        · have a4I : ¬ (48 : Int) ≤ (d : Int) := by omega
          simp (disch := first|omega|(simp only [np,ns];try omega)) [r_ref09_Name, e0, e3, hsz, hltI, hlt, hld, a1I, a4I, a3, hres]
  · obtain rfl : k = L := by omega
    have hft : t.all nmC = true := by rw [hL, List.take_length] at hall; exact hall
    have hres : nameS t = true := by unfold nameS; rw [hlow, hft, decide_eq_true (by omega), decide_eq_true (by omega)]; rfl
    simp (disch := first|omega|(simp only [np,ns];try omega)) [r_ref09_Name, e0, e3, hsz, hres]

set_option maxHeartbeats 4000000 in
theorem rwrong_ok' {h : VH} {e : En} {a : Option Addr} {n c : Nat} (ht : e.t.length ≤ 140737488355328) (hb : n = e.b.length) (hn : n < 9223372036854775808) (hw : e.w.length ≤ 140737488355328) : PCalls Try.prog f_ref09_Wrong [enV e (.slice a n c)] h (fun u _ => u = .int .i64 (wrongS e)) := by
  refine PCalls_of_pw st_ref09_Wrong (by simp [n_ref09_Wrong]) ?_
  rw [b_ref09_Wrong]
  obtain ⟨t, at_, w, b⟩ := e
  simp only at ht hb hw
  obtain ⟨W, hW⟩ : ∃ W, W = wrongS ⟨t, at_, w, b⟩ := ⟨_, rfl⟩
  rw [← hW]
  unfold wrongS at hW
  simp only at hW
  obtain ⟨L, hL⟩ : ∃ L, L = w.length := ⟨_, rfl⟩
  have hsz : (strB w).size = L := by rw [strB_size, hL]
  rw [← hb, ← hL] at hW
  obtain ⟨z0, hz0⟩ : ∃ z, t.isEmpty = z := ⟨_, rfl⟩
  simp (disch := first|omega|(simp only [np,ns];try omega)) [B_ref09_Wrong, enV, en_all, ld4_0, ld4_1, ld4_2, ld4_3, strB_toList, hz0, -pwOps_guard]
  generalize hKK : kSeq Try.prog (PC.cond (.t 13) _ _) _ = KK
  have tail : (¬ (t ≠ [] ∧ nameS t = false)) → ∀ (s : Slots) (g : VH), g.n = h.n + 1 → g.get h.n = .cells [.string (strB t), .int .i64 at_, .string (strB w), .slice a n c] true 1 → s 1 = .pointer (some ⟨h.n, 0, none⟩) → s 13 = .bool false → KK .normal s g := by
    intro hnm s g hgn hg e1 e13
    rw [if_neg hnm] at hW
    rw [← hKK]
    by_cases hA : at_ < 0
    · rw [if_pos (.inl hA)] at hW
      simp (disch := first|omega|(simp only [np,ns];try omega)) [r_ref09_Wrong, hgn, hg, e1, e13, hA, ld4_1, hW]
    by_cases hB : 1125899906842624 < at_
    · rw [if_pos (.inr hB)] at hW
      simp (disch := first|omega|(simp only [np,ns];try omega)) [r_ref09_Wrong, hgn, hg, e1, e13, hA, hB, ld4_1, hW]
    rw [if_neg (by omega)] at hW
    by_cases hC : 1 ≤ L
    · have hCI : (1 : Int) ≤ (L : Int) := by omega
      by_cases hD : L ≤ 32
      · have hDI : (L : Int) ≤ 32 := by omega
        rw [if_neg (by omega)] at hW
        simp (disch := first|omega|(simp only [np,ns];try omega)) [hgn, hg, e1, e13, hA, hB, hCI, hDI, hsz, ld4_1, ld4_2]
        refine pw_loopN (fun k s g => g.n = h.n + 1 ∧ g.get h.n = .cells [.string (strB t), .int .i64 at_, .string (strB w), .slice a n c] true 1 ∧ s 1 = .pointer (some ⟨h.n, 0, none⟩) ∧ s 3 = .bool (true && (w.take k).all visC) ∧ s 4 = .int .i64 (k : Int)) L ?_ ?_
        · exact ⟨hgn, hg, by simp [upd_apply, e1], by simp [upd_apply], by simp [upd_apply]⟩
        rintro k s2 g2 hk ⟨hn2, hg2, f1, f3, f4⟩
        by_cases hlt : k < L
        · have hltI : (k : Int) < (L : Int) := by omega
          have hld : strAt (.string (strB w)) (.int .i64 (k : Int)) = some (.int .u8 (w.getD k 0).toNat) := strAt_D (by omega)
          obtain ⟨d, hd⟩ : ∃ d, d = (w.getD k 0).toNat := ⟨_, rfl⟩
          rw [← hd] at hld
          have hkk : IntKind.i64.wrap ((k : Int) + 1) = ((k + 1 : Nat) : Int) := by rw [i64_small (by omega) (by omega)]; omega
          have hnx : (w.take (k + 1)).all visC = ((w.take k).all visC && visC (w.getD k 0)) := by
            have : w.getD k 0 = w[k]'(by omega) := by simp [List.getD, show k < w.length by omega]
            rw [List.take_succ_eq_append_getElem (by omega), List.all_append, this]
            simp
          obtain ⟨y, hy⟩ : ∃ y, y = (true && (w.take k).all visC) := ⟨_, rfl⟩
          obtain ⟨y2, hy2⟩ : ∃ y2, y2 = (true && (w.take (k + 1)).all visC) := ⟨_, rfl⟩
          have hyy : y2 = (y && visC (w.getD k 0)) := by rw [hy2, hnx, hy, Bool.and_assoc]
          rw [← hy] at f3
          suffices hs : ∀ s' : Slots, s' 1 = .pointer (some ⟨h.n, 0, none⟩) → s' 3 = .bool y2 → s' 4 = .int .i64 ((k + 1 : Nat) : Int) → (g2.n = h.n + 1 ∧ g2.get h.n = .cells [.string (strB t), .int .i64 at_, .string (strB w), .slice a n c] true 1 ∧ s' 1 = .pointer (some ⟨h.n, 0, none⟩) ∧ s' 3 = .bool (true && (w.take (k + 1)).all visC) ∧ s' 4 = .int .i64 ((k + 1 : Nat) : Int)) from by
            cases y with
            | false =>
              rw [Bool.false_and] at hyy
              simp (disch := first|omega|(simp only [np,ns];try omega)) [f1, f3, f4, hg2, ld4_2, hsz, hltI, hlt, hkk, -List.all_eq_true, -Bool.true_and, -Bool.and_eq_true, ← hy2, hyy, hn2]
            | true =>
              rw [Bool.true_and] at hyy
              by_cases b1 : 33 ≤ d
              · have b1I : (33 : Int) ≤ (d : Int) := by omega
                by_cases b2 : d ≤ 126
                · have b2I : (d : Int) ≤ 126 := by omega
                  have hv : visC (w.getD k 0) = true := by unfold visC; rw [← hd, decide_eq_true b1, decide_eq_true b2]; rfl
                  rw [hv] at hyy
                  simp (disch := first|omega|(simp only [np,ns];try omega)) [f1, f3, f4, hg2, ld4_2, hsz, hltI, hlt, hkk, hld, b1I, b2I, -List.all_eq_true, -Bool.true_and, -Bool.and_eq_true, ← hy2, hyy, hn2]
                · have b2I : ¬ (d : Int) ≤ 126 := by omega
                  have hv : visC (w.getD k 0) = false := by unfold visC; rw [← hd, decide_eq_true b1, decide_eq_false b2]; rfl
                  rw [hv] at hyy
                  simp (disch := first|omega|(simp only [np,ns];try omega)) [f1, f3, f4, hg2, ld4_2, hsz, hltI, hlt, hkk, hld, b1I, b2I, -List.all_eq_true, -Bool.true_and, -Bool.and_eq_true, ← hy2, hyy, hn2]
              · have b1I : ¬ (33 : Int) ≤ (d : Int) := by omega
                have hv : visC (w.getD k 0) = false := by unfold visC; rw [← hd, decide_eq_false b1]; rfl
                rw [hv] at hyy
                simp (disch := first|omega|(simp only [np,ns];try omega)) [f1, f3, f4, hg2, ld4_2, hsz, hltI, hlt, hkk, hld, b1I, -List.all_eq_true, -Bool.true_and, -Bool.and_eq_true, ← hy2, hyy, hn2]
          intro s' q1 q2 q3
          exact ⟨hn2, hg2, q1, by rw [q2, hy2], q3⟩
        · obtain rfl : k = L := by omega
          rw [hL, List.take_length] at f3
          obtain ⟨y, hy⟩ : ∃ y, w.all visC = y := ⟨_, rfl⟩
          rw [hy, Bool.true_and] at f3
          rw [hy] at hW
          cases y with
          | false =>
            rw [if_pos rfl] at hW
            simp (disch := first|omega|(simp only [np,ns];try omega)) [r_ref09_Wrong, f1, f3, f4, hg2, ld4_2, hsz, hW]
          | true =>
            rw [if_neg (by decide)] at hW
            by_cases hE : 65536 < n
            · have hEI : (65536 : Int) < (n : Int) := by omega
              rw [if_pos hE] at hW
              simp (disch := first|omega|(simp only [np,ns];try omega)) [r_ref09_Wrong, f1, f3, f4, hg2, hn2, ld4_2, ld4_3, hsz, hE, hEI, hW]
            · have hEI : ¬ (65536 : Int) < (n : Int) := by omega
              rw [if_neg hE] at hW
              simp (disch := first|omega|(simp only [np,ns];try omega)) [r_ref09_Wrong, f1, f3, f4, hg2, hn2, ld4_2, ld4_3, hsz, hE, hEI, hW]
      · have hDI : ¬ (L : Int) ≤ 32 := by omega
        rw [if_pos (.inr (by omega))] at hW
        simp (disch := first|omega|(simp only [np,ns];try omega)) [hgn, hg, e1, e13, hA, hB, hCI, hDI, hsz, ld4_1, ld4_2]
        refine pw_loopN (fun k s g => g.n = h.n + 1 ∧ g.get h.n = .cells [.string (strB t), .int .i64 at_, .string (strB w), .slice a n c] true 1 ∧ s 1 = .pointer (some ⟨h.n, 0, none⟩) ∧ s 3 = .bool (false && (w.take k).all visC) ∧ s 4 = .int .i64 (k : Int)) L ?_ ?_
        · exact ⟨hgn, hg, by simp [upd_apply, e1], by simp [upd_apply], by simp [upd_apply]⟩
        rintro k s2 g2 hk ⟨hn2, hg2, f1, f3, f4⟩
        by_cases hlt : k < L
        · have hltI : (k : Int) < (L : Int) := by omega
          have hld : strAt (.string (strB w)) (.int .i64 (k : Int)) = some (.int .u8 (w.getD k 0).toNat) := strAt_D (by omega)
          obtain ⟨d, hd⟩ : ∃ d, d = (w.getD k 0).toNat := ⟨_, rfl⟩
          rw [← hd] at hld
          have hkk : IntKind.i64.wrap ((k : Int) + 1) = ((k + 1 : Nat) : Int) := by rw [i64_small (by omega) (by omega)]; omega
          have hnx : (w.take (k + 1)).all visC = ((w.take k).all visC && visC (w.getD k 0)) := by
            have : w.getD k 0 = w[k]'(by omega) := by simp [List.getD, show k < w.length by omega]
            rw [List.take_succ_eq_append_getElem (by omega), List.all_append, this]
            simp
          obtain ⟨y, hy⟩ : ∃ y, y = (false && (w.take k).all visC) := ⟨_, rfl⟩
          obtain ⟨y2, hy2⟩ : ∃ y2, y2 = (false && (w.take (k + 1)).all visC) := ⟨_, rfl⟩
          have hyy : y2 = (y && visC (w.getD k 0)) := by rw [hy2, hnx, hy, Bool.and_assoc]
          rw [← hy] at f3
          suffices hs : ∀ s' : Slots, s' 1 = .pointer (some ⟨h.n, 0, none⟩) → s' 3 = .bool y2 → s' 4 = .int .i64 ((k + 1 : Nat) : Int) → (g2.n = h.n + 1 ∧ g2.get h.n = .cells [.string (strB t), .int .i64 at_, .string (strB w), .slice a n c] true 1 ∧ s' 1 = .pointer (some ⟨h.n, 0, none⟩) ∧ s' 3 = .bool (false && (w.take (k + 1)).all visC) ∧ s' 4 = .int .i64 ((k + 1 : Nat) : Int)) from by
            cases y with
            | false =>
              rw [Bool.false_and] at hyy
              simp (disch := first|omega|(simp only [np,ns];try omega)) [f1, f3, f4, hg2, ld4_2, hsz, hltI, hlt, hkk, -List.all_eq_true, -Bool.true_and, -Bool.and_eq_true, ← hy2, hyy, hn2]
            | true =>
              rw [Bool.false_and] at hy
              exact absurd hy (by decide)
          intro s' q1 q2 q3
          exact ⟨hn2, hg2, q1, by rw [q2, hy2], q3⟩
        · obtain rfl : k = L := by omega
          rw [hL, List.take_length] at f3
          rw [Bool.false_and] at f3
          simp (disch := first|omega|(simp only [np,ns];try omega)) [r_ref09_Wrong, f1, f3, f4, hg2, ld4_2, hsz, hW]
    · have hCI : ¬ (1 : Int) ≤ (L : Int) := by omega
      have hDI : True := trivial
      by_cases hD : True
      · rw [if_pos (.inl (by omega))] at hW
        simp (disch := first|omega|(simp only [np,ns];try omega)) [hgn, hg, e1, e13, hA, hB, hCI, hsz, ld4_1, ld4_2]
        refine pw_loopN (fun k s g => g.n = h.n + 1 ∧ g.get h.n = .cells [.string (strB t), .int .i64 at_, .string (strB w), .slice a n c] true 1 ∧ s 1 = .pointer (some ⟨h.n, 0, none⟩) ∧ s 3 = .bool (false && (w.take k).all visC) ∧ s 4 = .int .i64 (k : Int)) L ?_ ?_
        · exact ⟨hgn, hg, by simp [upd_apply, e1], by simp [upd_apply], by simp [upd_apply]⟩
        rintro k s2 g2 hk ⟨hn2, hg2, f1, f3, f4⟩
        by_cases hlt : k < L
        · have hltI : (k : Int) < (L : Int) := by omega
          have hld : strAt (.string (strB w)) (.int .i64 (k : Int)) = some (.int .u8 (w.getD k 0).toNat) := strAt_D (by omega)
          obtain ⟨d, hd⟩ : ∃ d, d = (w.getD k 0).toNat := ⟨_, rfl⟩
          rw [← hd] at hld
          have hkk : IntKind.i64.wrap ((k : Int) + 1) = ((k + 1 : Nat) : Int) := by rw [i64_small (by omega) (by omega)]; omega
          have hnx : (w.take (k + 1)).all visC = ((w.take k).all visC && visC (w.getD k 0)) := by
            have : w.getD k 0 = w[k]'(by omega) := by simp [List.getD, show k < w.length by omega]
            rw [List.take_succ_eq_append_getElem (by omega), List.all_append, this]
            simp
          obtain ⟨y, hy⟩ : ∃ y, y = (false && (w.take k).all visC) := ⟨_, rfl⟩
          obtain ⟨y2, hy2⟩ : ∃ y2, y2 = (false && (w.take (k + 1)).all visC) := ⟨_, rfl⟩
          have hyy : y2 = (y && visC (w.getD k 0)) := by rw [hy2, hnx, hy, Bool.and_assoc]
          rw [← hy] at f3
          suffices hs : ∀ s' : Slots, s' 1 = .pointer (some ⟨h.n, 0, none⟩) → s' 3 = .bool y2 → s' 4 = .int .i64 ((k + 1 : Nat) : Int) → (g2.n = h.n + 1 ∧ g2.get h.n = .cells [.string (strB t), .int .i64 at_, .string (strB w), .slice a n c] true 1 ∧ s' 1 = .pointer (some ⟨h.n, 0, none⟩) ∧ s' 3 = .bool (false && (w.take (k + 1)).all visC) ∧ s' 4 = .int .i64 ((k + 1 : Nat) : Int)) from by
            cases y with
            | false =>
              rw [Bool.false_and] at hyy
              simp (disch := first|omega|(simp only [np,ns];try omega)) [f1, f3, f4, hg2, ld4_2, hsz, hltI, hlt, hkk, -List.all_eq_true, -Bool.true_and, -Bool.and_eq_true, ← hy2, hyy, hn2]
            | true =>
              rw [Bool.false_and] at hy
              exact absurd hy (by decide)
          intro s' q1 q2 q3
          exact ⟨hn2, hg2, q1, by rw [q2, hy2], q3⟩
        · obtain rfl : k = L := by omega
          rw [hL, List.take_length] at f3
          rw [Bool.false_and] at f3
          simp (disch := first|omega|(simp only [np,ns];try omega)) [r_ref09_Wrong, f1, f3, f4, hg2, ld4_2, hsz, hW]
      · exact absurd trivial hD
  cases z0 with
  | true =>
    have h0 : t = [] := by simpa using hz0
    simp (disch := first|omega|(simp only [np,ns];try omega)) [ld4_0]
    refine tail (by simp [h0]) _ _ (by simp) (by simp) (by simp [upd_apply]) (by simp [upd_apply])
  | false =>
    have h0 : t ≠ [] := by simpa using hz0
    simp (disch := first|omega|(simp only [np,ns];try omega)) [ld4_0]
    refine (rname_ok ht).mono ?_
    rintro u g ⟨rfl, rfl⟩
    obtain ⟨z, hz⟩ : ∃ z, z = nameS t := ⟨_, rfl⟩
    rw [← hz]
    cases z with
    | true =>
      simp (disch := first|omega|(simp only [np,ns];try omega)) []
      refine tail (by rw [← hz]; simp) _ _ (by simp) (by simp) (by simp [upd_apply]) (by simp [upd_apply])
    | false =>
      rw [if_pos ⟨h0, hz.symm⟩] at hW
      simp (disch := first|omega|(simp only [np,ns];try omega)) [← hKK]
      simp (disch := first|omega|(simp only [np,ns];try omega)) [r_ref09_Wrong, hW]
theorem rwrong_ok {h : VH} {e : En} {v : Value} (ht : e.t.length ≤ 140737488355328) (hb : IsBytes h v e.b) (hn : e.b.length < 9223372036854775808) (hw : e.w.length ≤ 140737488355328) : PCalls Try.prog f_ref09_Wrong [enV e v] h (fun u h' => u = .int .i64 (wrongS e) ∧ h' = h) := by
  obtain ⟨a, c, rfl⟩ := hb.shape
  exact ((rwrong_ok' ht rfl hn hw).mono fun u _ e => by subst e; exact ⟨rfl, rfl⟩).drop

/- audit, part M: the reference's chain. -/

def rchL (n : Nat) (l : List UInt8) (v : Value) : List Value := .int .i64 (n : Int) :: (u8s l ++ [v])
section
variable {n : Nat} {l m : List UInt8} {ow : Bool} {e : Nat} {v : Value}
theorem rchL_len (hl : l.length = 32) : (rchL n l v).length = 34 := by simp [rchL, hl]
theorem rch_ld0 : loadObj (.cells (rchL n l v) ow e) 0 none = some (.int .i64 (n : Int)) := rfl
theorem rch_lds (hl : l.length = 32) : loadObj (.cells (rchL n l v) ow e) 33 none = some v := by
  have : (rchL n l v)[33]? = some v := by
    unfold rchL
    rw [List.getElem?_cons_succ, List.getElem?_append_right (by simp [hl])]
    simp [hl]
  simpa [loadObj] using this
theorem rch_drop (hl : l.length = 32) : ((rchL n l v).drop 1).take 32 = u8s l := by
  unfold rchL
  rw [List.drop_succ_cons, List.drop_zero, List.take_left' (by simp [hl])]
theorem rch_ldl (hl : l.length = 32) : loadObj (.cells (rchL n l v) ow e) 1 (some 32) = some (digV l) := by
  simp only [loadObj]
  rw [if_pos (by rw [rchL_len hl]; omega), rch_drop hl]
  rfl
theorem rch_st0 {k : Nat} : storeObj (.cells (rchL n l v) true e) 0 1 (.int .i64 (k : Int)) = some (.cells (rchL k l v) true e) := rfl
theorem rch_stl (hl : l.length = 32) (hm : m.length = 32) : storeObj (.cells (rchL n l v) true e) 1 32 (digV m) = some (.cells (rchL n m v) true e) := by
  have hw : wr (rchL n l v) 1 (u8s m) = rchL n m v := by
    unfold wr rchL
    have h1 : 1 + (u8s m).length = ((u8s l).length) + 1 := by simp [hl, hm]
    rw [h1, List.drop_succ_cons, List.drop_left]
    rfl
  have ha : (u8s m).all Value.oneCell' = true := by simp [u8s, Value.oneCell']
  have hc : cellsL (digV m) = u8s m := rfl
  simp only [storeObj, hc]
  rw [if_pos ⟨by simp [hm], by rw [rchL_len hl]; omega, ha⟩, hw]
theorem rch_sts (hl : l.length = 32) {p : Option Addr} {q r : Nat} : storeObj (.cells (rchL n l v) true e) 33 1 (.slice p q r) = some (.cells (rchL n l (.slice p q r)) true e) := by
  have hw : wr (rchL n l v) 33 [.slice p q r] = rchL n l (.slice p q r) := by
    unfold wr rchL
    rw [List.length_singleton, List.drop_succ_cons, List.take_succ_cons, List.take_left' (by simp [hl]), List.drop_of_length_le (by simp [hl])]
    simp
  have ha : ([Value.slice p q r]).all Value.oneCell' = true := rfl
  have hc : cellsL (.slice p q r) = [.slice p q r] := rfl
  simp only [storeObj, hc]
  rw [if_pos ⟨rfl, by rw [rchL_len hl]; omega, ha⟩, hw]
theorem rch_row (hl : l.length = 32) : rowObj (.cells (rchL n l v) ow e) 1 32 = some (u8s l) := by
  simp only [rowObj]
  rw [if_pos (by rw [rchL_len hl]; omega), rch_drop hl]
end
/-- a tenant's cells in the reference's list. -/
def subL (p : List UInt8 × List UInt8) : List Value := .string (strB p.1) :: u8s p.2
def subC (subs : Sbs) : List Value := subs.flatMap subL
structure RCh (h : VH) (i n : Nat) (l : List UInt8) (subs : Sbs) (v : Value) : Prop where
  rec_ : h.get i = .cells (rchL n l v) true 1
  own : OwnSl h 33 v (subC subs) subs.length
  lti : i < h.n
  ll : l.length = 32
  ls : ∀ p ∈ subs, p.2.length = 32
theorem RCh.fr {h h' : VH} {i n : Nat} {l : List UInt8} {subs : Sbs} {v : Value} {X : List Nat} (k : RCh h i n l subs v) (hf : Fr h h' X) (hi : i ∉ X) (hv : ∀ x ∈ idOf v, x ∉ X) : RCh h' i n l subs v :=
  ⟨(hf.get i k.lti hi).trans k.rec_, k.own.fr hf hv, Nat.lt_of_lt_of_le k.lti hf.n, k.ll, k.ls⟩
theorem RCh.notin {h : VH} {i n : Nat} {l : List UInt8} {subs : Sbs} {v : Value} (k : RCh h i n l subs v) : i ∉ idOf v := by
  intro hx
  obtain ⟨d, g⟩ := Wr.OwnSl.cells k.own i hx
  rw [k.rec_] at g
  injection g with _ _ e3
  exact absurd e3 (by decide)

set_option maxHeartbeats 4000000 in
theorem rpre_ok {h : VH} {i n : Nat} {l : List UInt8} {subs : Sbs} {v : Value} (k : RCh h i n l subs v) (hn : n < 9223372036854775808) : PCalls Try.prog f_ref09_Chain_Preimage [.pointer (some ⟨i, 0, none⟩)] h (fun u h' => ∃ a n' c, u = .slice a n' c ∧ Buf h h' (.slice a n' c) (be8 n ++ l)) := by
  refine PCalls_of_pw st_ref09_Chain_Preimage (by simp [n_ref09_Chain_Preimage]) ?_
  rw [b_ref09_Chain_Preimage]
  have hl := k.ll
  have hrec := k.rec_
  simp (disch := first|omega|(simp only [np,ns];try omega)) [B_ref09_Chain_Preimage]
  refine pw_loopN (fun k s g => ∃ (a : Option Addr) (m d : Nat), Buf h g (.slice a m d) ((be8 n).take k) ∧ s 0 = .pointer (some ⟨i, 0, none⟩) ∧ s 3 = .slice a m d ∧ s 4 = .int .i64 (7 - (k : Int))) 8 ?_ ?_
  · exact ⟨none, 0, 0, Buf.nil _, by simp [upd_apply, s0_apply], by simp [upd_apply], by simp [upd_apply]⟩
  rintro kk s g hk ⟨a, m, d, B, e0, e3, e4⟩
  have hgi := (B.fr.get i k.lti (by simp)).trans hrec
  by_cases hlt : kk < 8
  · obtain ⟨j, hj⟩ : ∃ j, j = 7 - kk := ⟨_, rfl⟩
    have e4' : s 4 = .int .i64 (j : Int) := by rw [e4]; congr 1; omega
    obtain ⟨J, hJ⟩ : ∃ J, J = 8 * j := ⟨_, rfl⟩
    have hge : (0 : Int) ≤ (j : Int) := by omega
    have hmul : IntKind.i64.wrap (8 * (j : Int)) = (J : Int) := by rw [i64_small (by omega) (by omega)]; omega
    have hJw : IntKind.u64.wrap (J : Int) = (J : Int) := by rw [wrapN_u64, Nat.mod_eq_of_lt (by omega)]
    have hnw : IntKind.u64.wrap (n : Int) = (n : Int) := by rw [wrapN_u64, Nat.mod_eq_of_lt (by omega)]
    have hge' : ¬ (J : Int) < 0 := by omega
    have hmin : min J 64 = J := by omega
    have hlb := low_byte n j
    rw [← hJ] at hlb
    obtain ⟨w, G, hap, B2⟩ := B.byte (UInt8.ofNat (n / 256 ^ j % 256)) (by have := be8_len n; simp; omega)
    have hb8 := be8_at (n := n) hlt
    rw [← hj] at hb8
    rw [← hb8] at B2
    obtain ⟨pa, pn, pc, rfl⟩ : ∃ a n c, w = .slice a n c := by
      obtain ⟨a, c, rfl⟩ := B2.shape
      exact ⟨_, _, _, rfl⟩
    obtain ⟨z, hz⟩ : ∃ z, z = ((UInt8.ofNat (n / 256 ^ j % 256)).toNat : Int) := ⟨_, rfl⟩
    rw [← hz] at hlb hap
    have hfz : fillC [.int .u8 0] [(0, 1, .int .u8 z)] = some [.int .u8 z] := rfl
    have hkk : IntKind.i64.wrap ((j : Int) - 1) = 7 - ((kk + 1 : Nat) : Int) := by rw [i64_small (by omega) (by omega)]; omega
    have hroz : rowObj (.cells [.int .u8 z] true 1) 0 1 = some [.int .u8 z] := rfl
    simp (disch := first|omega|(simp only [np,ns];try omega)) [e0, e3, e4', hgi, rch_ld0, hge, hge', hmul, hJw, hnw, hmin, hlb, hfz, hroz, hap, hkk]
    exact ⟨by omega, pa, pn, pc, B2, rfl, rfl, rfl⟩
  · obtain rfl : kk = 8 := by omega
    rw [List.take_of_length_le (by rw [be8_len]; omega)] at B
    have h34 : (rchL n l v).length = 34 := rchL_len hl
    have hx : IsBytes g (.slice (some ⟨i, 1, none⟩) 32 32) l := by
      have := BytesAt.is (h := g) (i := i) (o := 1) (c := 32) (bs := l) (by have := B.fr.n; have := k.lti; omega) (by omega) ⟨_, _, hgi, by rw [h34]; omega, by rw [hl]; exact rch_drop hl⟩
      rw [hl] at this
      exact this
    have hxs := hx.src
    obtain ⟨w, G, hap, B2⟩ := B.append l (by rw [be8_len]; omega)
    rw [hl] at hap
    obtain ⟨pa, pn, pc, rfl⟩ : ∃ a n c, w = .slice a n c := by
      obtain ⟨a, c, rfl⟩ := B2.shape
      exact ⟨_, _, _, rfl⟩
    simp (disch := first|omega|(simp only [np,ns];try omega)) [r_ref09_Chain_Preimage, e0, e3, e4, hgi, h34, hxs, hap]
    exact ⟨pa, pn, pc, ⟨rfl, rfl, rfl⟩, B2⟩

theorem rhead_ok {h : VH} {i n : Nat} {l : List UInt8} {subs : Sbs} {v : Value} (k : RCh h i n l subs v) (hn : n < 9223372036854775808) : PCalls Try.prog f_ref09_Chain_Head [.pointer (some ⟨i, 0, none⟩)] h (fun u h' => u = digV (shaS (be8 n ++ l)) ∧ Fr h h' []) := by
  refine PCalls_of_pw st_ref09_Chain_Head (by simp [n_ref09_Chain_Head]) ?_
  rw [b_ref09_Chain_Head]
  have F0 : Fr h (h.push (.cells [.int .u8 0, .int .u8 0, .int .u8 0, .int .u8 0, .int .u8 0, .int .u8 0, .int .u8 0, .int .u8 0, .int .u8 0, .int .u8 0, .int .u8 0, .int .u8 0, .int .u8 0, .int .u8 0, .int .u8 0, .int .u8 0, .int .u8 0, .int .u8 0, .int .u8 0, .int .u8 0, .int .u8 0, .int .u8 0, .int .u8 0, .int .u8 0, .int .u8 0, .int .u8 0, .int .u8 0, .int .u8 0, .int .u8 0, .int .u8 0, .int .u8 0, .int .u8 0] true 1)) [] := Fr_push (Fr.refl _ _)
  simp (disch := first|omega|(simp only [np,ns];try omega)) [B_ref09_Chain_Head]
  refine (rpre_ok (k.fr F0 (by simp) (fun _ _ => by simp)) hn).mono ?_
  rintro u g ⟨a, m, c, rfl, B⟩
  simp (disch := first|omega|(simp only [np,ns];try omega)) []
  refine (rsum_ok B.is (by simp [be8_len, k.ll])).mono ?_
  rintro u g2 ⟨rfl, rfl⟩
  have hgz := (B.fr.get h.n (by simp) (by simp)).trans (VH.get_push_new _ _)
  obtain ⟨X, hX⟩ : ∃ X, X = shaS (be8 n ++ l) := ⟨_, rfl⟩
  have hXl : X.length = 32 := by rw [hX]; exact shaS_len _
  rw [← hX]
  have hds : storeObj (.cells [.int .u8 0, .int .u8 0, .int .u8 0, .int .u8 0, .int .u8 0, .int .u8 0, .int .u8 0, .int .u8 0, .int .u8 0, .int .u8 0, .int .u8 0, .int .u8 0, .int .u8 0, .int .u8 0, .int .u8 0, .int .u8 0, .int .u8 0, .int .u8 0, .int .u8 0, .int .u8 0, .int .u8 0, .int .u8 0, .int .u8 0, .int .u8 0, .int .u8 0, .int .u8 0, .int .u8 0, .int .u8 0, .int .u8 0, .int .u8 0, .int .u8 0, .int .u8 0] true 1) 0 32 (digV X) = some (.cells (u8s X) true 1) := dig_store hXl rfl
  have hdl : loadObj (.cells (u8s X) true 1) 0 (some 32) = some (digV X) := dig_load hXl
  simp (disch := first|omega|(simp only [np,ns];try omega)) [r_ref09_Chain_Head, hgz, hds, hdl]
  exact Fr_set ((Fr_push (Fr.refl _ _)).trans B.fr) (Nat.le_refl _)

set_option maxHeartbeats 8000000 in
theorem rbytes_ok {h : VH} {e : En} {v : Value} {ah : List UInt8} (hb : IsBytes h v e.b) (ha : ah.length = 32) (ht : e.t.length ≤ 8000000) (hw : e.w.length ≤ 8000000) (hbl : e.b.length ≤ 8000000) (h0 : 0 ≤ e.at_) (h1 : e.at_ ≤ 1125899906842624) :
    PCalls Try.prog f_ref09_Bytes [enV e v, digV ah] h (fun u h' => ∃ a n c, u = .slice a n c ∧ Buf h h' (.slice a n c) (bytesS e ah)) := by
  refine PCalls_of_pw st_ref09_Bytes (by simp [n_ref09_Bytes]) ?_
  rw [b_ref09_Bytes]
  obtain ⟨va, vc, rfl⟩ := hb.shape
  obtain ⟨t, at_, w, b⟩ := e
  simp only at ht hw hbl h0 h1 hb
  obtain ⟨M, rfl⟩ : ∃ M : Nat, at_ = (M : Int) := ⟨at_.toNat, by omega⟩
  obtain ⟨T, hT⟩ : ∃ T, T = t.length := ⟨_, rfl⟩
  obtain ⟨W, hW⟩ : ∃ W, W = w.length := ⟨_, rfl⟩
  obtain ⟨N, hN⟩ : ∃ N, N = b.length := ⟨_, rfl⟩
  have hst : (strB t).size = T := by rw [strB_size, hT]
  have hsw : (strB w).size = W := by rw [strB_size, hW]
  have hTf : T ≤ 140737488355328 := by omega
  have hWf : W ≤ 140737488355328 := by omega
  rw [← hN]
  have hcd : cellsL (digV ah) = u8s ah := rfl
  have hall : (u8s ah).all Value.oneCell' = true := by simp [u8s, Value.oneCell']
  obtain ⟨G, hG⟩ : ∃ G, G = (h.push (.cells [.string (strB t), .int .i64 (M : Int), .string (strB w), .slice va N vc] true 1)).push (.cells (u8s ah) true 1) := ⟨_, rfl⟩
  have hGn : G.n = h.n + 2 := by rw [hG]; simp
  have hGe : G.get h.n = .cells [.string (strB t), .int .i64 (M : Int), .string (strB w), .slice va N vc] true 1 := by
    rw [hG, VH.get_push_lt _ _ (by simp), VH.get_push_new]
  have hGa : G.get (h.n + 1) = .cells (u8s ah) true 1 := by
    rw [hG]
    exact VH.get_push_new (h.push _) _
  have hGb : IsBytes G (.slice va N vc) b := by
    rw [hG, hN]
    exact isB_fr (Fr_push (Fr_push (Fr.refl _ _))) hb
  have hcv : IntKind.u64.wrap (M : Int) = (M : Int) := by
    rw [wrapN_u64, Nat.mod_eq_of_lt (by omega)]
  have hfl : fillC [.int .i64 0, .int .i64 0, .int .u64 0, .slice none 0 0] [(0, 1, .int .i64 2), (2, 1, .int .u64 (M : Int))] = some [.int .i64 2, .int .i64 0, .int .u64 (M : Int), .slice none 0 0] := rfl
  have hfk : ∀ (x : Int) (p : Option Addr) (q r : Nat), fillC [.int .i64 0, .int .i64 0, .int .u64 0, .slice none 0 0] [(0, 1, .int .i64 x), (1, 1, .int .i64 2), (3, 1, .slice p q r)] = some [.int .i64 x, .int .i64 2, .int .u64 0, .slice p q r] := fun _ _ _ _ => rfl
  have hrow : ∀ (p q : Option Addr), fillC [.int .i64 0, .int .i64 0, .int .u64 0, .slice none 0 0, .int .i64 0, .int .i64 0, .int .u64 0, .slice none 0 0, .int .i64 0, .int .i64 0, .int .u64 0, .slice none 0 0, .int .i64 0, .int .i64 0, .int .u64 0, .slice none 0 0, .int .i64 0, .int .i64 0, .int .u64 0, .slice none 0 0]
      [(0, 4, .agg #[.int .i64 1, .int .i64 2, .int .u64 0, .slice p T T]), (4, 4, .agg #[.int .i64 2, .int .i64 0, .int .u64 (M : Int), .slice none 0 0]), (8, 4, .agg #[.int .i64 3, .int .i64 2, .int .u64 0, .slice q W W]), (12, 4, .agg #[.int .i64 4, .int .i64 2, .int .u64 0, .slice va N vc]), (16, 4, .agg #[.int .i64 5, .int .i64 2, .int .u64 0, .slice (some ⟨h.n + 1, 0, none⟩) 32 32])]
      = some [.int .i64 1, .int .i64 2, .int .u64 0, .slice p T T, .int .i64 2, .int .i64 0, .int .u64 (M : Int), .slice none 0 0, .int .i64 3, .int .i64 2, .int .u64 0, .slice q W W, .int .i64 4, .int .i64 2, .int .u64 0, .slice va N vc, .int .i64 5, .int .i64 2, .int .u64 0, .slice (some ⟨h.n + 1, 0, none⟩) 32 32] := fun p q => rfl
  have hone : ∀ (p q : Option Addr), ([.int .i64 1, .int .i64 2, .int .u64 0, .slice p T T, .int .i64 2, .int .i64 0, .int .u64 (M : Int), .slice none 0 0, .int .i64 3, .int .i64 2, .int .u64 0, .slice q W W, .int .i64 4, .int .i64 2, .int .u64 0, .slice va N vc, .int .i64 5, .int .i64 2, .int .u64 0, .slice (some ⟨h.n + 1, 0, none⟩) 32 32] : List Value).all Value.oneCell' = true := fun p q => rfl
  have hGF : Fr h G [] := by rw [hG]; exact Fr_push (Fr_push (Fr.refl _ _))
  have hGx : IsBytes G (.slice (some ⟨h.n + 1, 0, none⟩) 32 32) ah := by
    rw [hG]
    exact box_b (g := h.push _) ha.symm
  have hfwf : ∀ f ∈ fdsE ⟨t, (M : Int), w, b⟩ ah, f.wf := by
    intro f hf
    simp only [fdsE, List.mem_cons, List.not_mem_nil, or_false] at hf
    have : (M : Int).toNat = M := rfl
    rcases hf with rfl | rfl | rfl | rfl | rfl <;> refine ⟨?_, ?_, ?_, ?_, ?_⟩ <;> (simp only [this]; omega)
  have hfbl : ∀ f ∈ fdsE ⟨t, (M : Int), w, b⟩ ah, f.b.length ≤ 8000000 := by
    intro f hf
    simp only [fdsE, List.mem_cons, List.not_mem_nil, or_false] at hf
    rcases hf with rfl | rfl | rfl | rfl | rfl <;> simp <;> omega
  simp (disch := first|omega|(simp only [np,ns];try omega)) [B_ref09_Bytes, enV, en_all, hcd, hall, ← hG, hGn, hGe, hGa, ha, hcv, hfl, ld4_0, ld4_1, ld4_2, ld4_3, hst, hsw, hTf, hWf, bytesV_strB, hfk, hrow, hone]
  refine ⟨?_, ?_⟩
  · have t0 := isB_fr (Fr_push (o := .cells (u8s w) true 1) (Fr.refl _ [])) (box_b (g := G) hT)
    have w0 := box_b (g := G.push (.cells (u8s t) true 1)) hW
    rw [hGn] at t0
    rw [VH.n_push, hGn] at w0
    have F2 := Fr_push (o := .cells (u8s w) true 1) (Fr_push (o := .cells (u8s t) true 1) (Fr.refl G []))
    have hfive := five_is (e := ⟨t, (M : Int), w, b⟩) (M := M) (ah := ah) t0 w0 (isB_fr F2 hGb) (isB_fr F2 hGx) rfl
    rw [show ((G.push (.cells (u8s t) true 1)).push (.cells (u8s w) true 1)).n = h.n + 2 + 1 + 1 by simp [hGn]] at hfive
    refine (rwrite_ok  hfive hfwf hfbl (by simp [fdsE])).mono ?_
    rintro u g5 ⟨ra, rn, rc, rfl, B5⟩
    simp (disch := first|omega|(simp only [np,ns];try omega)) [r_ref09_Bytes]
    exact ⟨ra, rn, rc, ⟨rfl, rfl, rfl⟩, Buf_fr (F := hGF.trans (Fr_push F2)) B5⟩
  · have w0 := isB_fr (Fr_push (o := .cells (u8s t) true 1) (Fr.refl _ [])) (box_b (g := G) hW)
    have t0 := box_b (g := G.push (.cells (u8s w) true 1)) hT
    rw [hGn] at w0
    rw [VH.n_push, hGn] at t0
    have F2 := Fr_push (o := .cells (u8s t) true 1) (Fr_push (o := .cells (u8s w) true 1) (Fr.refl G []))
    have hfive := five_is (e := ⟨t, (M : Int), w, b⟩) (M := M) (ah := ah) t0 w0 (isB_fr F2 hGb) (isB_fr F2 hGx) rfl
    rw [show ((G.push (.cells (u8s w) true 1)).push (.cells (u8s t) true 1)).n = h.n + 2 + 1 + 1 by simp [hGn]] at hfive
    refine (rwrite_ok  hfive hfwf hfbl (by simp [fdsE])).mono ?_
    rintro u g5 ⟨ra, rn, rc, rfl, B5⟩
    simp (disch := first|omega|(simp only [np,ns];try omega)) [r_ref09_Bytes]
    exact ⟨ra, rn, rc, ⟨rfl, rfl, rfl⟩, Buf_fr (F := hGF.trans (Fr_push F2)) B5⟩

/- audit, part N: the reference's tenants: sub and put. -/

theorem subL_len {p : List UInt8 × List UInt8} (h : p.2.length = 32) : (subL p).length = 33 := by simp [subL, h]
theorem subC_len : ∀ {subs : Sbs}, (∀ p ∈ subs, p.2.length = 32) → (subC subs).length = subs.length * 33
  | [], _ => rfl
  | p :: r, h => by
    have ih := subC_len (fun q hq => h q (List.mem_cons_of_mem _ hq))
    have := subL_len (h p (List.mem_cons_self ..))
    simp only [subC, List.flatMap_cons, List.length_append, List.length_cons] at ih ⊢
    omega
theorem subC_append (a b : Sbs) : subC (a ++ b) = subC a ++ subC b := by simp [subC]
theorem subs_split {subs : Sbs} {k : Nat} (hk : k < subs.length) : subs = subs.take k ++ subs[k] :: subs.drop (k + 1) := by
  rw [List.getElem_cons_drop]; simp
theorem subC_split {subs : Sbs} (h : ∀ p ∈ subs, p.2.length = 32) {k : Nat} (hk : k < subs.length) :
    subC subs = subC (subs.take k) ++ (subL subs[k] ++ subC (subs.drop (k + 1))) ∧ (subC (subs.take k)).length = k * 33 := by
  refine ⟨?_, ?_⟩
  · refine (congrArg subC (subs_split hk)).trans ?_
    rw [subC_append]
    rfl
  · rw [subC_len (fun p hp => h p (List.mem_of_mem_take hp)), List.length_take]
    congr 1
    omega
theorem sget_at {t : List UInt8} : ∀ {subs : Sbs} (k : Nat) (hk : k < subs.length), subs[k].1 = t → (∀ j (hj : j < k), (subs[j]'(by omega)).1 ≠ t) → sget t subs = some subs[k].2
  | p :: r, 0, hk, h1, _ => by simp only [List.getElem_cons_zero] at h1 ⊢; unfold sget; rw [if_pos h1.symm]
  | p :: r, k + 1, hk, h1, h2 => by
    have h0 := h2 0 (by omega)
    simp only [List.getElem_cons_zero] at h0
    simp only [List.getElem_cons_succ] at h1 ⊢
    unfold sget
    rw [if_neg (fun e => h0 e.symm)]
    exact sget_at k (by simpa using hk) h1 (fun j hj => by have := h2 (j + 1) (by omega); simpa using this)
theorem sget_none {t : List UInt8} : ∀ {subs : Sbs}, (∀ p ∈ subs, p.1 ≠ t) → sget t subs = none
  | [], _ => rfl
  | p :: r, h => by
    unfold sget
    rw [if_neg (fun e => h p (List.mem_cons_self ..) e.symm)]
    exact sget_none (fun q hq => h q (List.mem_cons_of_mem _ hq))
theorem sput_at {t d : List UInt8} : ∀ {subs : Sbs} (k : Nat) (hk : k < subs.length), subs[k].1 = t → (∀ j (hj : j < k), (subs[j]'(by omega)).1 ≠ t) → sput t d subs = subs.take k ++ (t, d) :: subs.drop (k + 1)
  | p :: r, 0, hk, h1, _ => by simp only [List.getElem_cons_zero] at h1; unfold sput; rw [if_pos h1.symm]; rfl
  | p :: r, k + 1, hk, h1, h2 => by
    have h0 := h2 0 (by omega)
    simp only [List.getElem_cons_zero] at h0
    simp only [List.getElem_cons_succ] at h1
    unfold sput
    rw [if_neg (fun e => h0 e.symm)]
    have := sput_at (d := d) k (by simpa using hk) h1 (fun j hj => by have := h2 (j + 1) (by omega); simpa using this)
    rw [this]; rfl
theorem sput_none {t d : List UInt8} : ∀ {subs : Sbs}, (∀ p ∈ subs, p.1 ≠ t) → sput t d subs = subs ++ [(t, d)]
  | [], _ => rfl
  | p :: r, h => by
    unfold sput
    rw [if_neg (fun e => h p (List.mem_cons_self ..) e.symm), sput_none (fun q hq => h q (List.mem_cons_of_mem _ hq))]
    rfl
theorem wr_drop {cs xs : List Value} {o p : Nat} (h1 : o ≤ p) (h2 : p ≤ cs.length) : (wr cs p xs).drop o = wr (cs.drop o) (p - o) xs := by
  unfold wr
  rw [List.append_assoc, List.append_assoc, List.drop_append_of_le_length (by rw [List.length_take]; omega), List.drop_take, List.drop_drop]
  congr 3
  omega
theorem wr_mid {a b c xs : List Value} (h : xs.length = b.length) : wr (a ++ (b ++ c)) a.length xs = a ++ (xs ++ c) := by
  unfold wr
  rw [List.take_left, h]
  have : a.length + b.length = (a ++ b).length := by simp
  rw [this, ← List.append_assoc a b c, List.drop_left]
  simp
/-- a tenant's cells in the list. -/
theorem RCh.at_ {h : VH} {i n : Nat} {l : List UInt8} {subs : Sbs} {v : Value} (K : RCh h i n l subs v) (hne : 0 < subs.length) : ∃ vi vo c ds, v = .slice (some ⟨vi, vo, none⟩) subs.length c ∧ vi < h.n ∧ h.get vi = .cells ds true 33 ∧ ds.drop vo = subC subs ∧ vo ≤ ds.length ∧ subs.length ≤ c ∧
    ∀ k (hk : k < subs.length), loadObj (h.get vi) (vo + k * 33) none = some (.string (strB subs[k].1)) ∧ loadObj (h.get vi) (vo + k * 33 + 1) (some 32) = some (digV subs[k].2) := by
  rcases K.own with ⟨_, _, h0⟩ | ⟨vi, vo, c, ds, h1, h2, rfl, hg, hd, hl, ho⟩
  · omega
  refine ⟨vi, vo, c, ds, rfl, h1, hg, hd, ho, h2, fun k hk => ?_⟩
  obtain ⟨s1, s2⟩ := subC_split K.ls hk
  have hdl : ds.length = vo + subs.length * 33 := by
    have := congrArg List.length hd
    rw [subC_len K.ls, List.length_drop] at this
    omega
  have hx : ds.drop (vo + k * 33) = subL subs[k] ++ subC (subs.drop (k + 1)) := by
    rw [← List.drop_drop, hd, s1, ← s2, List.drop_left]
  have hx1 : ds.drop (vo + k * 33 + 1) = u8s subs[k].2 ++ subC (subs.drop (k + 1)) := by
    rw [← List.drop_drop, hx]; rfl
  have hk32 : subs[k].2.length = 32 := K.ls _ (List.getElem_mem hk)
  refine ⟨?_, ?_⟩
  · rw [hg]
    have : ds[vo + k * 33]? = some (.string (strB subs[k].1)) := by
      have := congrArg (fun z : List Value => z[0]?) hx
      simpa [subL] using this
    simpa [loadObj] using this
  · rw [hg]
    simp only [loadObj]
    rw [if_pos (by omega), hx1, List.take_left' (by simp [hk32])]
    rfl

set_option maxHeartbeats 4000000 in
theorem rsub_ok {h : VH} {i n : Nat} {l t : List UInt8} {subs : Sbs} {v : Value} (K : RCh h i n l subs v) (hsl : subs.length ≤ 1000000000) : PCalls Try.prog f_ref09_Chain_Sub [.pointer (some ⟨i, 0, none⟩), .string (strB t)] h
    (fun u h' => u = .tuple #[digV ((sget t subs).getD zero32), .bool (sget t subs).isSome] ∧ Fr h h' []) := by
  refine PCalls_of_pw st_ref09_Chain_Sub (by simp [n_ref09_Chain_Sub]) ?_
  rw [b_ref09_Chain_Sub]
  have hl := K.ll
  have hrec := K.rec_
  obtain ⟨va, vn, vc, hv, hvn⟩ : ∃ a n c, v = .slice a n c ∧ n = subs.length := by
    obtain ⟨a, c, h⟩ := K.own.shapeN
    exact ⟨_, _, _, h, rfl⟩
  subst hv
  have hlm : ∀ {ow e}, loadObj (.cells (rchL n l (.slice va vn vc)) ow e) 33 none = some (.slice va vn vc) := rch_lds hl
  have hds : ∀ D : List UInt8, D.length = 32 → storeObj (.cells [.int .u8 0, .int .u8 0, .int .u8 0, .int .u8 0, .int .u8 0, .int .u8 0, .int .u8 0, .int .u8 0, .int .u8 0, .int .u8 0, .int .u8 0, .int .u8 0, .int .u8 0, .int .u8 0, .int .u8 0, .int .u8 0, .int .u8 0, .int .u8 0, .int .u8 0, .int .u8 0, .int .u8 0, .int .u8 0, .int .u8 0, .int .u8 0, .int .u8 0, .int .u8 0, .int .u8 0, .int .u8 0, .int .u8 0, .int .u8 0, .int .u8 0, .int .u8 0] true 1) 0 32 (digV D) = some (.cells (u8s D) true 1) := fun D hD => dig_store hD rfl
  have hdl : ∀ D : List UInt8, D.length = 32 → loadObj (.cells (u8s D) true 1) 0 (some 32) = some (digV D) := fun D hD => dig_load hD
  have hfD : fillC [.int .u8 0, .int .u8 0, .int .u8 0, .int .u8 0, .int .u8 0, .int .u8 0, .int .u8 0, .int .u8 0, .int .u8 0, .int .u8 0, .int .u8 0, .int .u8 0, .int .u8 0, .int .u8 0, .int .u8 0, .int .u8 0, .int .u8 0, .int .u8 0, .int .u8 0, .int .u8 0, .int .u8 0, .int .u8 0, .int .u8 0, .int .u8 0, .int .u8 0, .int .u8 0, .int .u8 0, .int .u8 0, .int .u8 0, .int .u8 0, .int .u8 0, .int .u8 0] [] = some [.int .u8 0, .int .u8 0, .int .u8 0, .int .u8 0, .int .u8 0, .int .u8 0, .int .u8 0, .int .u8 0, .int .u8 0, .int .u8 0, .int .u8 0, .int .u8 0, .int .u8 0, .int .u8 0, .int .u8 0, .int .u8 0, .int .u8 0, .int .u8 0, .int .u8 0, .int .u8 0, .int .u8 0, .int .u8 0, .int .u8 0, .int .u8 0, .int .u8 0, .int .u8 0, .int .u8 0, .int .u8 0, .int .u8 0, .int .u8 0, .int .u8 0, .int .u8 0] := rfl
  have hsD : storeObj (.cells [.int .u8 0, .int .u8 0, .int .u8 0, .int .u8 0, .int .u8 0, .int .u8 0, .int .u8 0, .int .u8 0, .int .u8 0, .int .u8 0, .int .u8 0, .int .u8 0, .int .u8 0, .int .u8 0, .int .u8 0, .int .u8 0, .int .u8 0, .int .u8 0, .int .u8 0, .int .u8 0, .int .u8 0, .int .u8 0, .int .u8 0, .int .u8 0, .int .u8 0, .int .u8 0, .int .u8 0, .int .u8 0, .int .u8 0, .int .u8 0, .int .u8 0, .int .u8 0] true 1) 0 32 (.agg #[.int .u8 0, .int .u8 0, .int .u8 0, .int .u8 0, .int .u8 0, .int .u8 0, .int .u8 0, .int .u8 0, .int .u8 0, .int .u8 0, .int .u8 0, .int .u8 0, .int .u8 0, .int .u8 0, .int .u8 0, .int .u8 0, .int .u8 0, .int .u8 0, .int .u8 0, .int .u8 0, .int .u8 0, .int .u8 0, .int .u8 0, .int .u8 0, .int .u8 0, .int .u8 0, .int .u8 0, .int .u8 0, .int .u8 0, .int .u8 0, .int .u8 0, .int .u8 0]) = some (.cells [.int .u8 0, .int .u8 0, .int .u8 0, .int .u8 0, .int .u8 0, .int .u8 0, .int .u8 0, .int .u8 0, .int .u8 0, .int .u8 0, .int .u8 0, .int .u8 0, .int .u8 0, .int .u8 0, .int .u8 0, .int .u8 0, .int .u8 0, .int .u8 0, .int .u8 0, .int .u8 0, .int .u8 0, .int .u8 0, .int .u8 0, .int .u8 0, .int .u8 0, .int .u8 0, .int .u8 0, .int .u8 0, .int .u8 0, .int .u8 0, .int .u8 0, .int .u8 0] true 1) := rfl
  have hlD : loadObj (.cells [.int .u8 0, .int .u8 0, .int .u8 0, .int .u8 0, .int .u8 0, .int .u8 0, .int .u8 0, .int .u8 0, .int .u8 0, .int .u8 0, .int .u8 0, .int .u8 0, .int .u8 0, .int .u8 0, .int .u8 0, .int .u8 0, .int .u8 0, .int .u8 0, .int .u8 0, .int .u8 0, .int .u8 0, .int .u8 0, .int .u8 0, .int .u8 0, .int .u8 0, .int .u8 0, .int .u8 0, .int .u8 0, .int .u8 0, .int .u8 0, .int .u8 0, .int .u8 0] true 1) 0 (some 32) = some (digV zero32) := rfl
  simp (disch := first|omega|(simp only [np,ns];try omega)) [B_ref09_Chain_Sub]
  refine pw_loopN (fun k s g => Fr h g [] ∧ g.get h.n = .cells [.int .u8 0, .int .u8 0, .int .u8 0, .int .u8 0, .int .u8 0, .int .u8 0, .int .u8 0, .int .u8 0, .int .u8 0, .int .u8 0, .int .u8 0, .int .u8 0, .int .u8 0, .int .u8 0, .int .u8 0, .int .u8 0, .int .u8 0, .int .u8 0, .int .u8 0, .int .u8 0, .int .u8 0, .int .u8 0, .int .u8 0, .int .u8 0, .int .u8 0, .int .u8 0, .int .u8 0, .int .u8 0, .int .u8 0, .int .u8 0, .int .u8 0, .int .u8 0] true 1 ∧ h.n < g.n ∧ (∀ j (hj : j < k) (hjs : j < subs.length), subs[j].1 ≠ t) ∧ s 0 = .pointer (some ⟨i, 0, none⟩) ∧ s 1 = .string (strB t) ∧ s 4 = .pointer (some ⟨h.n, 0, none⟩) ∧ s 6 = .int .i64 (k : Int)) vn ?_ ?_
  · exact ⟨Fr_push (Fr.refl _ _), VH.get_push_new _ _, by simp, fun j hj => by omega, by simp [upd_apply, s0_apply], by simp [upd_apply, s0_apply], by simp [upd_apply], by simp [upd_apply]⟩
  rintro k s g hk ⟨hf, hz, hgn, hno, e0, e1, e4, e6⟩
  have hgi := (hf.get i K.lti (by simp)).trans hrec
  by_cases hlt : k < vn
  · have hltI : (k : Int) < (vn : Int) := by omega
    obtain ⟨vi, vo, c, ds, hv, hvi, hvg, hvd, hvo, hvc, hat⟩ := K.at_ (by omega)
    injection hv with hv1 hv2 hv3
    subst hv1 hv3
    obtain ⟨l1, l2⟩ := hat k (by omega)
    have hgv : g.get vi = h.get vi := hf.get vi hvi (by simp)
    have hesz : eszObj (h.get vi) 33 = true := by rw [hvg]; rfl
    have hkk : IntKind.i64.wrap ((k : Int) + 1) = ((k + 1 : Nat) : Int) := by rw [i64_small (by omega) (by omega)]; omega
    obtain ⟨P, hP⟩ : ∃ P, P = subs[k]'(by omega) := ⟨_, rfl⟩
    rw [← hP] at l1 l2
    have hP32 : P.2.length = 32 := by rw [hP]; exact K.ls _ (List.getElem_mem _)
    by_cases ht : P.1 = t
    · have hb : (P.1 == t) = true := by simpa using ht
      have hsg := sget_at (t := t) k (by omega) (by rw [← hP]; exact ht) (fun j hj => hno j hj (by omega))
      rw [← hP] at hsg
      rw [hsg]
      simp (disch := first|omega|(simp only [np,ns];try omega)) [r_ref09_Chain_Sub, e0, e1, e4, e6, hgi, hlm, hlt, hltI, hgv, hesz, l1, l2, strB_toList, ht, hb, hz, hds P.2 hP32, hdl P.2 hP32]
      exact Fr_set hf (Nat.le_refl _)
    · have hb : (P.1 == t) = false := by simpa using ht
      simp (disch := first|omega|(simp only [np,ns];try omega)) [e0, e1, e4, e6, hgi, hlm, hlt, hltI, hgv, hesz, l1, l2, strB_toList, ht, hb, hkk]
      refine ⟨hf, hz, hgn, fun j hj hjs => ?_⟩
      by_cases hjk : j < k
      · exact hno j hjk hjs
      · obtain rfl : j = k := by omega
        rw [← hP]; exact ht
  · obtain rfl : k = vn := by omega
    have hsg : sget t subs = none := sget_none (fun p hp => by
      obtain ⟨j, hj, rfl⟩ := List.getElem_of_mem hp
      exact hno j (by omega) hj)
    rw [hsg]
    simp (disch := first|omega|(simp only [np,ns];try omega)) [r_ref09_Chain_Sub, e0, e1, e4, e6, hgi, hlm, hfD, hz, hsD, hlD]
    exact Fr_set hf (Nat.le_refl _)

set_option maxHeartbeats 8000000 in
theorem rput09_ok {h : VH} {i n : Nat} {l t : List UInt8} {subs : Sbs} {v w : Value} {bs : List UInt8} (K : RCh h i n l subs v) (hb : IsBytes h w bs) (hw : ∀ x ∈ idOf w, x ≠ i) (hn : n < 4611686018427387904) (hbl : bs.length ≤ 1000000000) (hsl : subs.length ≤ 1000000000) :
    PCalls Try.prog f_ref09_Chain_put [.pointer (some ⟨i, 0, none⟩), .string (strB t), w] h (fun u h' => ∃ v', RCh h' i (n + 1) (shaS (l ++ bs)) (sput t (shaS bs) subs) v' ∧ Fr h h' (i :: idOf v) ∧ ∀ x ∈ idOf v', x ∈ idOf v ∨ h.n ≤ x) := by
  refine PCalls_of_pw st_ref09_Chain_put (by simp [n_ref09_Chain_put]) ?_
  rw [b_ref09_Chain_put]
  have hl := K.ll
  have hrec := K.rec_
  have hlt := K.lti
  have hni := K.notin
  obtain ⟨va, vn, vc, hv, hvn⟩ : ∃ a n c, v = .slice a n c ∧ n = subs.length := by
    obtain ⟨a, c, h⟩ := K.own.shapeN
    exact ⟨_, _, _, h, rfl⟩
  subst hv
  obtain ⟨wa, wc, rfl⟩ := hb.shape
  obtain ⟨N, hN⟩ : ∃ N, N = bs.length := ⟨_, rfl⟩
  rw [← hN] at hb hw ⊢
  have h34 : (rchL n l (.slice va vn vc)).length = 34 := rchL_len hl
  have hlk : IsBytes h (.slice (some ⟨i, 1, none⟩) 32 32) l := by
    have := BytesAt.is (h := h) (i := i) (o := 1) (c := 32) (bs := l) hlt (by omega) ⟨_, _, hrec, by rw [h34]; omega, by rw [hl]; exact rch_drop hl⟩
    rw [hl] at this
    exact this
  obtain ⟨x1, g1, hap1, B1⟩ := (Buf.nil h).append l (by simp; omega)
  rw [List.nil_append] at B1
  obtain ⟨p1, q1, r1, rfl⟩ : ∃ a n c, x1 = .slice a n c := by
    obtain ⟨a, c, rfl⟩ := B1.shape
    exact ⟨_, _, _, rfl⟩
  rw [hl] at hap1
  have hls := hlk.src
  obtain ⟨x2, g2, hap2, B2⟩ := B1.append bs (by rw [hl]; omega)
  obtain ⟨p2, q2, r2, rfl⟩ : ∃ a n c, x2 = .slice a n c := by
    obtain ⟨a, c, rfl⟩ := B2.shape
    exact ⟨_, _, _, rfl⟩
  rw [← hN] at hap2
  have hws := (isB_fr B1.fr hb).src
  simp (disch := first|omega|(simp only [np,ns];try omega)) [B_ref09_Chain_put, hrec, h34, hls, hap1, hws, hap2]
  refine (rsum_ok B2.is (by simp; omega)).mono ?_
  rintro u g3 ⟨rfl, rfl⟩
  have e2 := (B2.fr.get i hlt (by simp)).trans hrec
  obtain ⟨X, hX⟩ : ∃ X, X = shaS (l ++ bs) := ⟨_, rfl⟩
  have hXl : X.length = 32 := by rw [hX]; exact shaS_len _
  rw [← hX]
  obtain ⟨M, hM⟩ : ∃ M, M = n + 1 := ⟨_, rfl⟩
  have hsum : IntKind.i64.wrap ((n : Int) + 1) = (M : Int) := by rw [i64_small (by omega) (by omega)]; omega
  rw [← hM]
  have hst : storeObj (.cells (rchL n l (.slice va vn vc)) true 1) 1 32 (digV X) = some (.cells (rchL n X (.slice va vn vc)) true 1) := rch_stl hl hXl
  obtain ⟨g4, hg4⟩ : ∃ x, x = g3.set i (.cells (rchL M X (.slice va vn vc)) true 1) := ⟨_, rfl⟩
  have F4 : Fr g3 g4 [i] := by rw [hg4]; exact Fr.set _ _ (by simp)
  have e4 : g4.get i = .cells (rchL M X (.slice va vn vc)) true 1 := by rw [hg4, VH.get_set_same]
  simp (disch := first|omega|(simp only [np,ns];try omega)) [e2, hst, rch_ld0, hsum, rch_st0, ← hg4]
  have hb4 : IsBytes g4 (.slice wa N wc) bs := (isB_fr B2.fr hb).fr F4 (fun x hx => by have := hw x hx; simp; exact this)
  refine (rsum_ok hb4 (by omega)).mono ?_
  rintro u g ⟨rfl, rfl⟩
  obtain ⟨D, hD⟩ : ∃ D, D = shaS bs := ⟨_, rfl⟩
  have hDl : D.length = 32 := by rw [hD]; exact shaS_len _
  rw [← hD]
  have hds : storeObj (.cells [.int .u8 0, .int .u8 0, .int .u8 0, .int .u8 0, .int .u8 0, .int .u8 0, .int .u8 0, .int .u8 0, .int .u8 0, .int .u8 0, .int .u8 0, .int .u8 0, .int .u8 0, .int .u8 0, .int .u8 0, .int .u8 0, .int .u8 0, .int .u8 0, .int .u8 0, .int .u8 0, .int .u8 0, .int .u8 0, .int .u8 0, .int .u8 0, .int .u8 0, .int .u8 0, .int .u8 0, .int .u8 0, .int .u8 0, .int .u8 0, .int .u8 0, .int .u8 0] true 1) 0 32 (digV D) = some (.cells (u8s D) true 1) := dig_store hDl rfl
  have hdl : loadObj (.cells (u8s D) true 1) 0 (some 32) = some (digV D) := dig_load hDl
  obtain ⟨g5, hg5⟩ : ∃ x, x = (g.push (.cells [.int .u8 0, .int .u8 0, .int .u8 0, .int .u8 0, .int .u8 0, .int .u8 0, .int .u8 0, .int .u8 0, .int .u8 0, .int .u8 0, .int .u8 0, .int .u8 0, .int .u8 0, .int .u8 0, .int .u8 0, .int .u8 0, .int .u8 0, .int .u8 0, .int .u8 0, .int .u8 0, .int .u8 0, .int .u8 0, .int .u8 0, .int .u8 0, .int .u8 0, .int .u8 0, .int .u8 0, .int .u8 0, .int .u8 0, .int .u8 0, .int .u8 0, .int .u8 0] true 1)).set g.n (.cells (u8s D) true 1) := ⟨_, rfl⟩
  have F5 : Fr g g5 [] := by rw [hg5]; exact Fr_set (Fr_push (Fr.refl _ _)) (Nat.le_refl _)
  have d5 : g5.get g.n = .cells (u8s D) true 1 := by rw [hg5, VH.get_set_same]
  have n5 : g5.n = g.n + 1 := by rw [hg5]; simp
  have m2 := B2.fr.n
  have m4 := F4.n
  have e5 := (F5.get i (by omega) (by simp)).trans e4
  have FH : Fr h g5 [i] := ((B2.fr.sub (by simp)).trans F4).trans (F5.sub (by simp))
  have K5 : RCh g5 i M X subs (.slice va vn vc) := ⟨e5, K.own.fr FH (fun x hx => by simp; exact fun e => hni (e ▸ hx)), by omega, hXl, K.ls⟩
  have hlm : ∀ {ow e}, loadObj (.cells (rchL M X (.slice va vn vc)) ow e) 33 none = some (.slice va vn vc) := rch_lds hXl
  simp (disch := first|omega|(simp only [np,ns];try omega)) [hds, ← hg5]
  refine pw_loopN (fun k s g' => g' = g5 ∧ (∀ j (hj : j < k) (hjs : j < subs.length), subs[j].1 ≠ t) ∧ s 0 = .pointer (some ⟨i, 0, none⟩) ∧ s 1 = .string (strB t) ∧ s 7 = .pointer (some ⟨g.n, 0, none⟩) ∧ s 8 = .int .i64 (k : Int)) vn ?_ ?_
  · exact ⟨rfl, fun j hj => by omega, by simp [upd_apply, s0_apply], by simp [upd_apply, s0_apply], by simp [upd_apply], by simp [upd_apply]⟩
  rintro k s g' hk ⟨rfl, hno, z0, z1, z7, z8⟩
  by_cases hkl : k < vn
  · have hltI : (k : Int) < (vn : Int) := by omega
    obtain ⟨vi, vo, c, ds, hv, hvi, hvg, hvd, hvo, hvc, hat⟩ := K5.at_ (by omega)
    injection hv with hv1 hv2 hv3
    subst hv1 hv3
    obtain ⟨l1, l2⟩ := hat k (by omega)
    have hesz : eszObj (.cells ds true 33) 33 = true := rfl
    have hkk : IntKind.i64.wrap ((k : Int) + 1) = ((k + 1 : Nat) : Int) := by rw [i64_small (by omega) (by omega)]; omega
    obtain ⟨P, hP⟩ : ∃ P, P = subs[k]'(by omega) := ⟨_, rfl⟩
    rw [← hP, hvg] at l1
    have hks : k < subs.length := by omega
    have hdsl : ds.length = vo + subs.length * 33 := by
      have := congrArg List.length hvd
      rw [subC_len K.ls, List.length_drop] at this
      omega
    have hall : (u8s D).all Value.oneCell' = true := by simp [u8s, Value.oneCell']
    have hsto : storeObj (.cells ds true 33) (vo + k * 33 + 1) 32 (digV D) = some (.cells (wr ds (vo + k * 33 + 1) (u8s D)) true 33) := by
      have hc : cellsL (digV D) = u8s D := rfl
      simp only [storeObj, hc]
      rw [if_pos ⟨by simp [hDl], by omega, hall⟩]
    by_cases ht : P.1 = t
    · have hb : (P.1 == t) = true := by simpa using ht
      have hsp := sput_at (t := t) (d := D) k hks (by rw [← hP]; exact ht) (fun j hj => hno j hj (by omega))
      simp (disch := first|omega|(simp only [np,ns];try omega)) [r_ref09_Chain_put, z0, z1, z7, z8, e5, hlm, hkl, hltI, hvg, hesz, l1, strB_toList, ht, hb, d5, hdl, hsto]
      obtain ⟨s1, s2⟩ := subC_split K.ls hks
      have hlen : (sput t D subs).length = vn := by rw [hsp]; simp; omega
      have hwr : (wr ds (vo + k * 33 + 1) (u8s D)).drop vo = subC (sput t D subs) := by
        rw [wr_drop (by omega) (by omega), hvd, s1, hsp, show vo + k * 33 + 1 - vo = k * 33 + 1 by omega]
        have ha : (subC (subs.take k) ++ [Value.string (strB P.1)]).length = k * 33 + 1 := by rw [List.length_append, s2]; rfl
        have hP2 : (u8s D).length = (u8s P.2).length := by rw [u8s_length, u8s_length, hDl, hP, K.ls _ (List.getElem_mem _)]
        have := wr_mid (a := subC (subs.take k) ++ [Value.string (strB P.1)]) (b := u8s P.2) (c := subC (subs.drop (k + 1))) hP2
        rw [ha] at this
        rw [← hP]
        have e1 : subC (subs.take k) ++ (subL P ++ subC (subs.drop (k + 1))) = (subC (subs.take k) ++ [Value.string (strB P.1)]) ++ (u8s P.2 ++ subC (subs.drop (k + 1))) := by
          simp [subL]
        rw [e1, this, subC_append, ht]
        simp [subC, subL]
      have hvne : vi ≠ i := fun e => by rw [e, e5] at hvg; injection hvg with _ _ e3; exact absurd e3 (by decide)
      refine ⟨_, ⟨?_, .inr ⟨vi, vo, vc, wr ds (vo + k * 33 + 1) (u8s D), by simp; exact hvi, by omega, by rw [hlen], VH.get_set_same _ _ _, hwr, ?_, ?_⟩, by simp; omega, hXl, sput_len hDl K.ls⟩, ?_, fun x hx => .inl hx⟩
      · rw [VH.get_set_ne _ _ (fun e => hvne e.symm)]; exact e5
      · rw [subC_len (sput_len hDl K.ls)]
      · have : (wr ds (vo + k * 33 + 1) (u8s D)).length = ds.length := by
          unfold wr
          simp only [List.length_append, List.length_take, List.length_drop, u8s_length, hDl]
          omega
        omega
      · exact (FH.sub (by simp)).trans (Fr.set _ _ (by simp [idOf]))
    · have hb : (P.1 == t) = false := by simpa using ht
      simp (disch := first|omega|(simp only [np,ns];try omega)) [z0, z1, z7, z8, e5, hlm, hkl, hltI, hvg, hesz, l1, strB_toList, ht, hb, hkk]
      intro j hj hjs
      by_cases hjk : j < k
      · exact hno j hjk hjs
      · obtain rfl : j = k := by omega
        rw [← hP]; exact ht
  · obtain rfl : k = vn := by omega
    have hne : ∀ p ∈ subs, p.1 ≠ t := fun p hp => by
      obtain ⟨j, hj, rfl⟩ := List.getElem_of_mem hp
      exact hno j (by omega) hj
    have hsp := sput_none (d := D) hne
    rw [hsp]
    have hf1 : fillC (.string ⟨#[]⟩ :: [.int .u8 0, .int .u8 0, .int .u8 0, .int .u8 0, .int .u8 0, .int .u8 0, .int .u8 0, .int .u8 0, .int .u8 0, .int .u8 0, .int .u8 0, .int .u8 0, .int .u8 0, .int .u8 0, .int .u8 0, .int .u8 0, .int .u8 0, .int .u8 0, .int .u8 0, .int .u8 0, .int .u8 0, .int .u8 0, .int .u8 0, .int .u8 0, .int .u8 0, .int .u8 0, .int .u8 0, .int .u8 0, .int .u8 0, .int .u8 0, .int .u8 0, .int .u8 0]) [(0, 1, .string (strB t)), (1, 32, digV D)] = some (subL (t, D)) := by
      have hc : cellsL (digV D) = u8s D := rfl
      have hz : (.string ⟨#[]⟩ :: [.int .u8 0, .int .u8 0, .int .u8 0, .int .u8 0, .int .u8 0, .int .u8 0, .int .u8 0, .int .u8 0, .int .u8 0, .int .u8 0, .int .u8 0, .int .u8 0, .int .u8 0, .int .u8 0, .int .u8 0, .int .u8 0, .int .u8 0, .int .u8 0, .int .u8 0, .int .u8 0, .int .u8 0, .int .u8 0, .int .u8 0, .int .u8 0, .int .u8 0, .int .u8 0, .int .u8 0, .int .u8 0, .int .u8 0, .int .u8 0, .int .u8 0, .int .u8 0] : List Value).length = 33 := rfl
      have hw1 : wr (.string ⟨#[]⟩ :: [.int .u8 0, .int .u8 0, .int .u8 0, .int .u8 0, .int .u8 0, .int .u8 0, .int .u8 0, .int .u8 0, .int .u8 0, .int .u8 0, .int .u8 0, .int .u8 0, .int .u8 0, .int .u8 0, .int .u8 0, .int .u8 0, .int .u8 0, .int .u8 0, .int .u8 0, .int .u8 0, .int .u8 0, .int .u8 0, .int .u8 0, .int .u8 0, .int .u8 0, .int .u8 0, .int .u8 0, .int .u8 0, .int .u8 0, .int .u8 0, .int .u8 0, .int .u8 0]) 0 [.string (strB t)] = .string (strB t) :: [.int .u8 0, .int .u8 0, .int .u8 0, .int .u8 0, .int .u8 0, .int .u8 0, .int .u8 0, .int .u8 0, .int .u8 0, .int .u8 0, .int .u8 0, .int .u8 0, .int .u8 0, .int .u8 0, .int .u8 0, .int .u8 0, .int .u8 0, .int .u8 0, .int .u8 0, .int .u8 0, .int .u8 0, .int .u8 0, .int .u8 0, .int .u8 0, .int .u8 0, .int .u8 0, .int .u8 0, .int .u8 0, .int .u8 0, .int .u8 0, .int .u8 0, .int .u8 0] := rfl
      have hw2 : wr (.string (strB t) :: [.int .u8 0, .int .u8 0, .int .u8 0, .int .u8 0, .int .u8 0, .int .u8 0, .int .u8 0, .int .u8 0, .int .u8 0, .int .u8 0, .int .u8 0, .int .u8 0, .int .u8 0, .int .u8 0, .int .u8 0, .int .u8 0, .int .u8 0, .int .u8 0, .int .u8 0, .int .u8 0, .int .u8 0, .int .u8 0, .int .u8 0, .int .u8 0, .int .u8 0, .int .u8 0, .int .u8 0, .int .u8 0, .int .u8 0, .int .u8 0, .int .u8 0, .int .u8 0]) 1 (u8s D) = subL (t, D) := by
        unfold wr
        rw [u8s_length, hDl]
        simp [subL]
      simp only [fillC, hc]
      rw [if_pos ⟨rfl, by rw [hz]; decide⟩, show cellsL (.string (strB t)) = [.string (strB t)] from rfl, hw1, if_pos ⟨by simp [hDl], by simp⟩, hw2]
    have hsl33 : (subL (t, D)).length = 33 := subL_len hDl
    have hf2 : fillC (.string ⟨#[]⟩ :: [.int .u8 0, .int .u8 0, .int .u8 0, .int .u8 0, .int .u8 0, .int .u8 0, .int .u8 0, .int .u8 0, .int .u8 0, .int .u8 0, .int .u8 0, .int .u8 0, .int .u8 0, .int .u8 0, .int .u8 0, .int .u8 0, .int .u8 0, .int .u8 0, .int .u8 0, .int .u8 0, .int .u8 0, .int .u8 0, .int .u8 0, .int .u8 0, .int .u8 0, .int .u8 0, .int .u8 0, .int .u8 0, .int .u8 0, .int .u8 0, .int .u8 0, .int .u8 0]) [(0, 33, .agg (subL (t, D)).toArray)] = some (subL (t, D)) := fillC_whole (v := .agg (subL (t, D)).toArray) (by show (subL (t, D)).length = 33; exact hsl33) rfl
    have ho2 : (subL (t, D)).all Value.oneCell' = true := by simp [subL, u8s, Value.oneCell']
    have hro : rowObj (.cells (subL (t, D)) true 33) 0 33 = some (subL (t, D)) := by
      simp [rowObj, hsl33, List.take_of_length_le]
    obtain ⟨g6, hg6⟩ : ∃ x, x = g'.push (.cells (subL (t, D)) true 33) := ⟨_, rfl⟩
    have F6 : Fr g' g6 [] := by rw [hg6]; exact Fr_push (Fr.refl _ _)
    have K6 := K5.fr F6 (by simp) (fun _ _ => by simp)
    have e6 := K6.rec_
    have c6 : g6.get g'.n = .cells (subL (t, D)) true 33 := by rw [hg6, VH.get_push_new]
    have n6 : g6.n = g'.n + 1 := by rw [hg6]; simp
    obtain ⟨w, g7, hap, own7, F7, hid⟩ := K6.own.append (bytes := 48) (ys := subL (t, D)) (k := 1) (by rw [hsl33]) (by omega)
    obtain ⟨ya, yn, yc, rfl⟩ : ∃ a n c, w = .slice a n c := by
      obtain ⟨a, c, rfl⟩ := own7.shapeN
      exact ⟨_, _, _, rfl⟩
    have hni6 := K6.notin
    have e7 := (F7.get i K6.lti hni6).trans e6
    have hsts : storeObj (.cells (rchL M X (.slice va k vc)) true 1) 33 1 (.slice ya yn yc) = some (.cells (rchL M X (.slice ya yn yc)) true 1) := rch_sts hXl
    simp (disch := first|omega|(simp only [np,ns];try omega)) [r_ref09_Chain_put, z0, z1, z7, z8, e5, hlm, d5, hdl, hf1, hf2, ho2, hro, ← hg6, c6, e6, hap, e7, hsts]
    have hidY : ∀ x ∈ idOf (.slice ya yn yc), x ∈ idOf (.slice va k vc) ∨ g6.n ≤ x := hid
    have hiY : ∀ x ∈ idOf (.slice ya yn yc), x ≠ i := fun x hx e => by
      rcases hidY x hx with h1 | h1
      · exact hni (e ▸ h1)
      · have := K6.lti; omega
    have FS : ∀ o, Fr g7 (g7.set i o) [i] := fun o => Fr.set _ _ (by simp)
    have hlen : (subs ++ [(t, D)]).length = subs.length + 1 := by simp
    refine ⟨.slice ya yn yc, ⟨VH.get_set_same _ _ _, ?_, by simp; have := F7.n; have := K6.lti; omega, hXl, ?_⟩, ?_, fun x hx => ?_⟩
    · rw [hlen, subC_append, show subC [(t, D)] = subL (t, D) by simp [subC]]
      exact own7.fr (FS _) (fun x hx => by simp; exact hiY x hx)
    · intro p hp
      rcases List.mem_append.1 hp with hp | hp
      · exact K.ls p hp
      · rw [List.mem_singleton.1 hp]; exact hDl
    · have q1 : Fr h g6 (i :: idOf (.slice va k vc)) := (FH.trans (F6.sub (by simp))).sub (by simp)
      exact (q1.trans (F7.sub (fun x hx => by simp [hx]))).trans (FS _ |>.sub (by simp))
    · rcases hidY x hx with h1 | h1
      · exact .inl h1
      · right; omega

/- audit, part O: the reference adds; chains alike. -/

def RAddP (h : VH) (i n : Nat) (l : List UInt8) (subs : Sbs) (v : Value) (e : En) (u : Value) (h' : VH) : Prop :=
  if wrongS e ≠ 0 then u = .tuple #[.slice none 0 0, .int .i64 (wrongS e)] ∧ Fr h h' [] else
  ∃ a m c v', u = .tuple #[.slice a m c, .int .i64 0] ∧ IsBytes h' (.slice a m c) (frameS (bytesS e (aheadS subs e.t))) ∧
    RCh h' i (n + 1) (shaS (l ++ bytesS e (aheadS subs e.t))) (sput e.t (shaS (bytesS e (aheadS subs e.t))) subs) v' ∧ Fr h h' (i :: idOf v) ∧ ∀ x ∈ idOf v', x ∈ idOf v ∨ h.n ≤ x

set_option maxHeartbeats 4000000 in
theorem radd_ok {h : VH} {i n : Nat} {l : List UInt8} {subs : Sbs} {v : Value} {e : En} {w : Value} (K : RCh h i n l subs v) (hb : IsBytes h w e.b) (ht : e.t.length ≤ 140737488355328) (hw : e.w.length ≤ 140737488355328) (hbl : e.b.length ≤ 140737488355328) (hn : n < 4611686018427387904) (hsl : subs.length ≤ 1000000000) :
    PCalls Try.prog f_ref09_Chain_Add [.pointer (some ⟨i, 0, none⟩), enV e w] h (RAddP h i n l subs v e) := by
  refine PCalls_of_pw st_ref09_Chain_Add (by simp [n_ref09_Chain_Add]) ?_
  rw [b_ref09_Chain_Add]
  obtain ⟨wa, wc, rfl⟩ := hb.shape
  obtain ⟨N, hN⟩ : ∃ N, N = e.b.length := ⟨_, rfl⟩
  rw [← hN] at hb ⊢
  obtain ⟨W, hW⟩ : ∃ W, W = wrongS e := ⟨_, rfl⟩
  have hP0 : W ≠ 0 → ∀ g, Fr h g [] → RAddP h i n l subs v e (.tuple #[.slice none 0 0, .int .i64 W]) g := by
    intro h0 g hf
    unfold RAddP
    rw [← hW, if_pos h0]
    exact ⟨rfl, hf⟩
  have hcell : cellsL (enV e (.slice wa N wc)) = [.string (strB e.t), .int .i64 e.at_, .string (strB e.w), .slice wa N wc] := rfl
  obtain ⟨g0, hg0⟩ : ∃ g0, g0 = h.push (.cells [.string (strB e.t), .int .i64 e.at_, .string (strB e.w), .slice wa N wc] true 1) := ⟨_, rfl⟩
  have F0 : Fr h g0 [] := by rw [hg0]; exact Fr_push (Fr.refl _ _)
  have c0 : g0.get h.n = .cells [.string (strB e.t), .int .i64 e.at_, .string (strB e.w), .slice wa N wc] true 1 := by rw [hg0, VH.get_push_new]
  have n0 : g0.n = h.n + 1 := by rw [hg0]; simp
  have hlden : loadObj (.cells [.string (strB e.t), .int .i64 e.at_, .string (strB e.w), .slice wa N wc] true 1) 0 (some 4) = some (enV e (.slice wa N wc)) := rfl
  have K0 := K.fr F0 (by simp) (fun _ _ => by simp)
  have hlt := K.lti
  have vlt : ∀ x ∈ idOf v, x < h.n := K.own.lt
  simp (disch := first|omega|(simp only [np,ns];try omega)) [B_ref09_Chain_Add, hcell, en_all, ← hg0, c0, hlden]
  refine (rwrong_ok ht (isB_fr F0 hb) (by omega) (by omega)).mono ?_
  rintro u g ⟨rfl, rfl⟩
  rw [← hW]
  by_cases h0 : W = 0
  · have hWb : (W != 0) = false := by rw [h0]; rfl
    have hw0 : wrongS e = 0 := by rw [← hW]; exact h0
    obtain ⟨w1, w2, w3, w4, w5, w6⟩ := wrongS_ok hw0
    simp (disch := first|omega|(simp only [np,ns];try omega)) [hWb, c0, ld4_0]
    refine (rsub_ok K0 hsl).mono ?_
    rintro u g1 ⟨rfl, F1⟩
    obtain ⟨A, hA⟩ : ∃ A, A = aheadS subs e.t := ⟨_, rfl⟩
    have hAl : A.length = 32 := by rw [hA]; exact sget_len K.ls
    rw [show (sget e.t subs).getD zero32 = A from hA.symm]
    have hds : storeObj (.cells [.int .u8 0, .int .u8 0, .int .u8 0, .int .u8 0, .int .u8 0, .int .u8 0, .int .u8 0, .int .u8 0, .int .u8 0, .int .u8 0, .int .u8 0, .int .u8 0, .int .u8 0, .int .u8 0, .int .u8 0, .int .u8 0, .int .u8 0, .int .u8 0, .int .u8 0, .int .u8 0, .int .u8 0, .int .u8 0, .int .u8 0, .int .u8 0, .int .u8 0, .int .u8 0, .int .u8 0, .int .u8 0, .int .u8 0, .int .u8 0, .int .u8 0, .int .u8 0] true 1) 0 32 (digV A) = some (.cells (u8s A) true 1) := dig_store hAl rfl
    have hdl : loadObj (.cells (u8s A) true 1) 0 (some 32) = some (digV A) := dig_load hAl
    obtain ⟨g2, hg2⟩ : ∃ x, x = (g1.push (.cells [.int .u8 0, .int .u8 0, .int .u8 0, .int .u8 0, .int .u8 0, .int .u8 0, .int .u8 0, .int .u8 0, .int .u8 0, .int .u8 0, .int .u8 0, .int .u8 0, .int .u8 0, .int .u8 0, .int .u8 0, .int .u8 0, .int .u8 0, .int .u8 0, .int .u8 0, .int .u8 0, .int .u8 0, .int .u8 0, .int .u8 0, .int .u8 0, .int .u8 0, .int .u8 0, .int .u8 0, .int .u8 0, .int .u8 0, .int .u8 0, .int .u8 0, .int .u8 0] true 1)).set g1.n (.cells (u8s A) true 1) := ⟨_, rfl⟩
    have F2 : Fr g1 g2 [] := by rw [hg2]; exact Fr_set (Fr_push (Fr.refl _ _)) (Nat.le_refl _)
    have d2 : g2.get g1.n = .cells (u8s A) true 1 := by rw [hg2, VH.get_set_same]
    have c2 := (F2.get h.n (by have := F1.n; omega) (by simp)).trans ((F1.get h.n (by omega) (by simp)).trans c0)
    have n1 := F1.n
    have n2 := F2.n
    have F02 := (F0.trans F1).trans F2
    simp (disch := first|omega|(simp only [np,ns];try omega)) [hds, ← hg2, c2, hlden, d2, hdl]
    refine (rbytes_ok (isB_fr F02 hb) hAl (by omega) (by omega) (by omega) w3 w4).mono ?_
    rintro u g3 ⟨a, m, c, rfl, B⟩
    obtain ⟨bs, hbs⟩ : ∃ b, b = bytesS e A := ⟨_, rfl⟩
    have hbsl : bs.length ≤ 1048576 := by rw [hbs]; exact bytesS_le _ _
    rw [← hbs] at B
    have hml : m = bs.length := by
      obtain ⟨a', c', h1⟩ := B.shape
      injection h1
    have c3 := (B.fr.get h.n (by omega) (by simp)).trans c2
    have F03 := F02.trans B.fr
    have n3 := B.fr.n
    simp (disch := first|omega|(simp only [np,ns];try omega)) [c3, ld4_0]
    refine (rput09_ok (K.fr F03 (by simp) (fun _ _ => by simp)) B.is (fun x hx => by have := B.ids x hx; omega) hn (by omega) hsl).mono ?_
    rintro u g4 ⟨v', K4, F4, hv4⟩
    have hcv : IntKind.u64.wrap (m : Int) = (m : Int) := by rw [wrapN_u64, Nat.mod_eq_of_lt (by omega)]
    simp (disch := first|omega|(simp only [np,ns];try omega)) [hcv]
    refine (rput_ok (bs := []) (n := m) (.inl ⟨rfl, rfl⟩) (by omega) (by simp)).mono ?_
    rintro u g5 ⟨⟨pa, pn, pc, rfl⟩, B5⟩
    rw [List.nil_append] at B5
    have hB4 : IsBytes g4 (.slice a m c) bs := B.is.fr F4 (fun x hx => by
      have := B.ids x hx
      simp only [List.mem_cons, not_or]
      exact ⟨by omega, fun hxv => by have := vlt x hxv; omega⟩)
    have hsrc := (isB_fr B5.fr hB4).src
    obtain ⟨x6, g6, hap, B6⟩ := B5.append bs (by have := varint_len10 (n := m) (by omega); omega)
    obtain ⟨qa, qn, qc, rfl⟩ : ∃ a n c, x6 = .slice a n c := by
      obtain ⟨a, c, rfl⟩ := B6.shape
      exact ⟨_, _, _, rfl⟩
    rw [← hml] at hap
    simp (disch := first|omega|(simp only [np,ns];try omega)) [r_ref09_Chain_Add, hsrc, hap]
    unfold RAddP
    rw [hw0, if_neg (by simp), ← hA, ← hbs]
    refine ⟨qa, qn, qc, v', rfl, ?_, K4.fr B6.fr (by simp) (fun _ _ => by simp), ?_, ?_⟩
    · have := B6.is
      rw [hml] at this
      exact this
    · exact ((F03.sub (by simp)).trans F4).trans (B6.fr.sub (by simp))
    · intro x hx
      rcases hv4 x hx with h1 | h1
      · exact .inl h1
      · right; omega
  · have hWb : (W != 0) = true := by simpa using h0
    simp (disch := first|omega|(simp only [np,ns];try omega)) [r_ref09_Chain_Add, hWb]
    exact hP0 h0 _ F0

/- audit, part P: chains alike. -/

/-- names are told once, and are short. -/
def NamesOK (subs : Sbs) : Prop := (subs.map (·.1)).Nodup ∧ ∀ p ∈ subs, p.1.length ≤ 32
theorem sput_names {t d : List UInt8} : ∀ {subs : Sbs} {x : List UInt8}, x ∈ (sput t d subs).map (·.1) → x = t ∨ x ∈ subs.map (·.1)
  | [], x, h => by simp [sput] at h; exact .inl h
  | p :: r, x, h => by
    unfold sput at h
    by_cases hp : t = p.1
    · rw [if_pos hp, List.map_cons] at h
      rcases List.mem_cons.1 h with h | h
      · exact .inl h
      · exact .inr (List.mem_cons_of_mem _ h)
    · rw [if_neg hp, List.map_cons] at h
      rcases List.mem_cons.1 h with h | h
      · exact .inr (by rw [h]; simp)
      · rcases sput_names h with h | h
        · exact .inl h
        · exact .inr (List.mem_cons_of_mem _ h)
theorem sput_nodup {t d : List UInt8} : ∀ {subs : Sbs}, (subs.map (·.1)).Nodup → ((sput t d subs).map (·.1)).Nodup
  | [], _ => by simp [sput]
  | p :: r, h => by
    rw [List.map_cons, List.nodup_cons] at h
    unfold sput
    by_cases hp : t = p.1
    · rw [if_pos hp, List.map_cons, List.nodup_cons]
      exact ⟨by rw [hp]; exact h.1, h.2⟩
    · rw [if_neg hp, List.map_cons, List.nodup_cons]
      exact ⟨fun hx => by
        rcases sput_names hx with h1 | h1
        · exact hp h1.symm
        · exact h.1 h1, sput_nodup h.2⟩
theorem sput_ok {t d : List UInt8} {subs : Sbs} (h : NamesOK subs) (ht : t.length ≤ 32) : NamesOK (sput t d subs) := by
  refine ⟨sput_nodup h.1, fun p hp => ?_⟩
  rcases sput_names (List.mem_map_of_mem (f := (·.1)) hp) with h1 | h1
  · rw [h1]; exact ht
  · obtain ⟨q, hq, hqe⟩ := List.mem_map.1 h1
    rw [← hqe]; exact h.2 q hq
theorem sget_own {subs : Sbs} (h : NamesOK subs) {k : Nat} (hk : k < subs.length) : sget subs[k].1 subs = some subs[k].2 := by
  refine sget_at k hk rfl (fun j hj he => ?_)
  have h1 := h.1
  have hjl : j < (subs.map (·.1)).length := by simp; omega
  have hkl : k < (subs.map (·.1)).length := by simp; omega
  have := List.pairwise_iff_getElem.1 h1 j k hjl hkl hj
  exact this (by simpa using he)
theorem sput_length {t d : List UInt8} : ∀ {subs : Sbs}, (sput t d subs).length ≤ subs.length + 1
  | [] => by simp [sput]
  | p :: r => by
    unfold sput
    by_cases hp : t = p.1
    · rw [if_pos hp]; simp
    · rw [if_neg hp]
      have := sput_length (t := t) (d := d) (subs := r)
      simp only [List.length_cons]
      omega
/- audit, part Q: any entries are chained. -/

structure AS where
  fr : List UInt8
  w : Int
  n : Nat
  l : List UInt8
  subs : Sbs
def addS (n : Nat) (l : List UInt8) (subs : Sbs) (e : En) : AS :=
  if wrongS e ≠ 0 then ⟨[], wrongS e, n, l, subs⟩ else
  ⟨frameS (bytesS e (aheadS subs e.t)), 0, n + 1, shaS (l ++ bytesS e (aheadS subs e.t)), sput e.t (shaS (bytesS e (aheadS subs e.t))) subs⟩
theorem add_out {h h' : VH} {i j n : Nat} {l : List UInt8} {subs : Sbs} {e : En} {u : Value} (K : Chain h i j n l subs) (H : AddP h i j n l subs e u h') :
    ∃ a m c, u = .tuple #[.slice a m c, .int .i64 (addS n l subs e).w] ∧ OwnSl h' 1 (.slice a m c) (u8s (addS n l subs e).fr) (addS n l subs e).fr.length ∧ (∀ x ∈ idOf (.slice a m c), h.n ≤ x) ∧ Chain h' i j (addS n l subs e).n (addS n l subs e).l (addS n l subs e).subs ∧ Fr h h' [i, j] := by
  unfold AddP at H
  unfold addS
  by_cases h0 : wrongS e ≠ 0
  · rw [if_pos h0] at H ⊢
    obtain ⟨rfl, hf⟩ := H
    exact ⟨none, 0, 0, rfl, OwnSl.nil _ _, by simp [idOf], K.fr hf, hf.sub (by simp)⟩
  · rw [if_neg h0] at H ⊢
    obtain ⟨a, m, c, rfl, h1, h2, h3, h4⟩ := H
    exact ⟨a, m, c, rfl, h1, h2, h3, h4⟩
theorem radd_out {h h' : VH} {i n : Nat} {l : List UInt8} {subs : Sbs} {e : En} {u v : Value} (K : RCh h i n l subs v) (H : RAddP h i n l subs v e u h') :
    ∃ a m c v', u = .tuple #[.slice a m c, .int .i64 (addS n l subs e).w] ∧ IsBytes h' (.slice a m c) (addS n l subs e).fr ∧ RCh h' i (addS n l subs e).n (addS n l subs e).l (addS n l subs e).subs v' ∧ Fr h h' (i :: idOf v) ∧ ∀ x ∈ idOf v', x ∈ idOf v ∨ h.n ≤ x := by
  unfold RAddP at H
  unfold addS
  by_cases h0 : wrongS e ≠ 0
  · rw [if_pos h0] at H ⊢
    obtain ⟨rfl, hf⟩ := H
    exact ⟨none, 0, 0, v, rfl, .inl ⟨rfl, rfl⟩, K.fr hf (by simp) (fun _ _ => by simp), hf.sub (by simp), fun x hx => .inl hx⟩
  · rw [if_neg h0] at H ⊢
    obtain ⟨a, m, c, v', rfl, h1, h2, h3, h4⟩ := H
    exact ⟨a, m, c, v', rfl, h1, h2, h3, h4⟩
theorem addS_facts {n : Nat} {l : List UInt8} {subs : Sbs} (e : En) (hno : NamesOK subs) : NamesOK (addS n l subs e).subs ∧ (addS n l subs e).n ≤ n + 1 ∧ (addS n l subs e).subs.length ≤ subs.length + 1 ∧ (addS n l subs e).fr.length ≤ 100000000 := by
  unfold addS
  by_cases h0 : wrongS e ≠ 0
  · rw [if_pos h0]
    exact ⟨hno, by simp, by simp, by simp⟩
  · rw [if_neg h0]
    have := wrongS_ok (by simpa using h0 : wrongS e = 0)
    refine ⟨sput_ok hno this.2.1, Nat.le_refl _, sput_length, ?_⟩
    have h1 := bytesS_le e (aheadS subs e.t)
    have h2 := varint_len10 (n := (bytesS e (aheadS subs e.t)).length) (by omega)
    simp only [frameS, List.length_append]
    omega

/-- a slice of entries. -/
def IsEns (h : VH) (v : Value) (es : List En) : Prop :=
  ∃ a c, v = .slice a es.length c ∧ (0 < es.length → ∃ i o, a = some ⟨i, o, none⟩ ∧ i < h.n ∧ eszObj (h.get i) 4 = true ∧ ∀ k (hk : k < es.length), ∃ p m d, loadObj (h.get i) (o + k * 4) (some 4) = some (enV es[k] (.slice p m d)) ∧ loadObj (h.get i) (o + k * 4 + 3) none = some (.slice p m d) ∧ IsBytes h (.slice p m d) es[k].b)

theorem flat_chunk {sz : Nat} : ∀ {l : List (List Value)}, (∀ x ∈ l, x.length = sz) → ∀ {k : Nat} (hk : k < l.length), (l.flatten.drop (k * sz)).take sz = l[k]
  | [], _, k, hk => by simp at hk
  | x :: l, h, 0, hk => by
    have := h x (List.mem_cons_self ..)
    simp [← this]
  | x :: l, h, k + 1, hk => by
    have h1 := h x (List.mem_cons_self ..)
    have := flat_chunk (l := l) (fun y hy => h y (List.mem_cons_of_mem _ hy)) (k := k) (by simpa using hk)
    rw [List.flatten_cons, show (k + 1) * sz = x.length + k * sz by rw [Nat.succ_mul]; omega, ← List.drop_drop, List.drop_left']
    · simpa using this
    · rfl
theorem flat_len {sz : Nat} : ∀ {l : List (List Value)}, (∀ x ∈ l, x.length = sz) → l.flatten.length = l.length * sz
  | [], _ => by simp
  | x :: l, h => by
    have h1 := h x (List.mem_cons_self ..)
    have h2 := flat_len (l := l) (fun y hy => h y (List.mem_cons_of_mem _ hy))
    rw [List.flatten_cons, List.length_append, List.length_cons, h2, h1, Nat.succ_mul]
    omega
theorem ens_rows {h : VH} : ∀ {es : List (List Value × Nat)}, (∀ x ∈ es, x.1.length = 4 ∧ Sh h enT x.1 x.2) → ∃ ens : List En, ens.length = es.length ∧ (∀ k (hk : k < ens.length) (hk' : k < es.length), ∃ w, es[k].1 = enL ens[k] w ∧ IsBytes h w ens[k].b) ∧ (∀ e ∈ ens, e.t.length ≤ (es.map (·.2)).sum ∧ e.w.length ≤ (es.map (·.2)).sum ∧ e.b.length ≤ (es.map (·.2)).sum) ∧ es.length ≤ (es.map (·.2)).sum
  | [], _ => ⟨[], rfl, fun k hk => by simp at hk, fun e he => by simp at he, by simp⟩
  | x :: r, H => by
    obtain ⟨ens, h1, h2, h3, h4⟩ := ens_rows (es := r) (fun y hy => H y (List.mem_cons_of_mem _ hy))
    obtain ⟨e, w, he, hb, hl, _⟩ := Sh.en (H x (List.mem_cons_self ..)).2
    refine ⟨e :: ens, by simp [h1], fun k hk hk' => ?_, fun y hy => ?_, by simp only [List.length_cons, List.map_cons, List.sum_cons]; omega⟩
    · cases k with
      | zero => exact ⟨w, he, hb⟩
      | succ k => exact h2 k (by simpa using hk) (by simpa using hk')
    · simp only [List.map_cons, List.sum_cons]
      rcases List.mem_cons.1 hy with rfl | hy
      · omega
      · have := h3 y hy; omega
theorem Sh.ens {h : VH} {v : Value} {k : Nat} (H : Sh h (.sl 4 enT) [v] k) : ∃ es, IsEns h v es ∧ (∀ e ∈ es, e.t.length ≤ k ∧ e.w.length ≤ k ∧ e.b.length ≤ k) ∧ es.length ≤ k := by
  rcases H with ⟨h1, rfl⟩ | ⟨i, n, c, cs, ow, rows, h1, h2, h3, h4, h5, h6, h7, h8⟩
  · injection h1 with h1 _
    subst h1
    exact ⟨[], ⟨none, 0, rfl, fun h => by simp at h⟩, fun e he => by simp at he, by simp⟩
  · injection h1 with h1 _
    subst h1
    obtain ⟨ens, e1, e2, e3, e4⟩ := ens_rows h7
    have hn : n ≤ ens.length := by omega
    refine ⟨ens.take n, ⟨some ⟨i, 0, none⟩, c, by rw [List.length_take, Nat.min_eq_left hn], fun _ => ⟨i, 0, rfl, h3, by rw [h4]; rfl, fun k hk => ?_⟩⟩, fun e he => ?_, by rw [List.length_take]; omega⟩
    · have hk2 : k < ens.length := by rw [List.length_take] at hk; omega
      have hk3 : k < rows.length := by omega
      obtain ⟨w, w1, w2⟩ := e2 k hk2 hk3
      have hfl : ∀ x ∈ rows.map (·.1), x.length = 4 := fun x hx => by
        obtain ⟨y, hy, rfl⟩ := List.mem_map.1 hx
        exact (h7 y hy).1
      have hch := flat_chunk hfl (k := k) (by simpa using hk3)
      rw [← h6, List.getElem_map, w1] at hch
      obtain ⟨p, d, rfl⟩ := w2.shape
      have hcl : cs.length = rows.length * 4 := by
        rw [h6, flat_len hfl, List.length_map]
      have hge : (ens.take n)[k] = ens[k] := by simp
      obtain ⟨q0, q1, q2, q3⟩ := getElem_of_take4 hch
      refine ⟨p, _, d, ?_, ?_, by rw [hge]; exact w2⟩
      · rw [h4, hge, Nat.zero_add]
        simp only [loadObj]
        rw [if_pos (by omega), hch]
        rfl
      · rw [h4, Nat.zero_add]
        exact q3
    · have := e3 e (List.mem_of_mem_take he)
      omega
theorem IsEns.ro {h : VH} {v : Value} {es : List En} (H : IsEns h v es) : IsEns h.ro v es := by
  obtain ⟨a, c, rfl, hat⟩ := H
  refine ⟨a, c, rfl, fun h0 => ?_⟩
  obtain ⟨i, o, rfl, hi, he, hk⟩ := hat h0
  have hg : h.ro.get i = (h.get i).ro := rfl
  refine ⟨i, o, rfl, hi, ?_, fun k hk' => ?_⟩
  · rw [hg]
    cases hx : h.get i <;> rw [hx] at he <;> exact he
  · obtain ⟨p, m, d, l1, l2, l3⟩ := hk k hk'
    refine ⟨p, m, d, ?_, ?_, l3.ro⟩
    · rw [hg]
      cases hx : h.get i <;> rw [hx] at l1 <;> exact l1
    · rw [hg]
      cases hx : h.get i <;> rw [hx] at l2 <;> exact l2
end Go.Proofs.Ytdnkpgbggpbgaaa.Au
