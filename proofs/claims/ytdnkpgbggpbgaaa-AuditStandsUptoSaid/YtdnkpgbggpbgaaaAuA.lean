/- audit, part A: entries, names, what is wrong with an entry (the program). -/
import Derived.Test.YtdnkpgbggpbgaaaFsA
import Derived.Test.YtdnkpgbggpbgaaaFsA
import Derived.Test.YtdnkpgbggpbgaaaShaI
import Derived.Test.YtdnkpgbggpbgaaaWrE
set_option linter.unusedVariables false
set_option linter.unusedSimpArgs false
set_option maxRecDepth 100000
namespace Go.Proofs.Ytdnkpgbggpbgaaa.Au
open Go Go.RowKit Go.Proofs.Ytdnkpgbggpbgaaa.Pm Go.Proofs.Ytdnkpgbggpbgaaa.Fs Go.Proofs.Ytdnkpgbggpbgaaa.Wr Go.Proofs.Ytdnkpgbggpbgaaa.Sha



structure En where
  t : List UInt8
  at_ : Int
  w : List UInt8
  b : List UInt8
def enL (e : En) (v : Value) : List Value := [.string (strB e.t), .int .i64 e.at_, .string (strB e.w), v]
def enV (e : En) (v : Value) : Value := .agg #[.string (strB e.t), .int .i64 e.at_, .string (strB e.w), v]

def lowC (b : UInt8) : Bool := decide (97 ≤ b.toNat) && decide (b.toNat ≤ 122)
def nmC (b : UInt8) : Bool := lowC b || (decide (48 ≤ b.toNat) && decide (b.toNat ≤ 57)) || decide (b.toNat = 45)
def nameS (t : List UInt8) : Bool := decide (0 < t.length) && decide (t.length ≤ 32) && lowC (t.getD 0 0) && t.all nmC
def visC (b : UInt8) : Bool := decide (33 ≤ b.toNat) && decide (b.toNat ≤ 126)
def wrongS (e : En) : Int :=
  if e.t ≠ [] ∧ nameS e.t = false then 100 else
  if e.at_ < 0 ∨ 1125899906842624 < e.at_ then 1 else
  if e.w.length < 1 ∨ 32 < e.w.length then 3 else
  if e.w.all visC = false then 3 else
  if 65536 < e.b.length then 4 else 0

theorem all_take {p : UInt8 → Bool} {l : List UInt8} {k : Nat} (hk : k < l.length) (h : (l.take k).all p = true) (h2 : p (l.getD k 0) = true) : (l.take (k + 1)).all p = true := by
  rw [List.take_succ_eq_append_getElem hk, List.all_append, h]
  have : l.getD k 0 = l[k] := by simp [List.getD, hk]
  rw [this] at h2
  simp [h2]
theorem all_not {p : UInt8 → Bool} {l : List UInt8} {k : Nat} (hk : k < l.length) (h2 : p (l.getD k 0) = false) : l.all p = false := by
  have : l.getD k 0 = l[k] := by simp [List.getD, hk]
  rw [this] at h2
  rw [List.all_eq_false]
  exact ⟨l[k], List.getElem_mem hk, by simp [h2]⟩
/-- the bytes of a text. -/
theorem textAt (g : VH) (bs : List UInt8) {n : Nat} (hn : n = bs.length) {j : Nat} (hj : j < n) :
    loadObj (.cells (u8s bs) true 1) j none = some (.int .u8 (bs.getD j 0).toNat) := by
  subst hn
  have : (u8s bs)[j]? = some (.int .u8 (bs.getD j 0).toNat) := by
    rw [List.getElem?_eq_getElem (by simpa using hj)]
    simp [List.getD, hj]
  simpa [loadObj] using this

set_option maxHeartbeats 4000000 in
theorem name_ok' {h : VH} {t : List UInt8} (ht : t.length ≤ 140737488355328) : PCalls Try.prog f_audit_name [.string (strB t)] h (fun u _ => u = .bool (nameS t)) := by
  refine PCalls_of_pw st_audit_name (by simp [n_audit_name]) ?_
  rw [b_audit_name]
  obtain ⟨L, hL⟩ : ∃ L, L = t.length := ⟨_, rfl⟩
  have hsz : (strB t).size = L := by rw [strB_size, hL]
  by_cases h32 : 32 < L
  · have h32I : (32 : Int) < (L : Int) := by omega
    simp (disch := first|omega|(simp only [np,ns];try omega)) [r_audit_name, B_audit_name, hsz, h32, h32I]
    simp [nameS]; omega
  have h32I : ¬ (32 : Int) < (L : Int) := by omega
  by_cases h0 : L = 0
  · have : t = [] := List.eq_nil_of_length_eq_zero (by omega)
    have he : t.isEmpty = true := by rw [this]; rfl
    have hres : nameS t = false := by rw [this]; rfl
    simp (disch := first|omega|(simp only [np,ns];try omega)) [r_audit_name, B_audit_name, hsz, h32, h32I, strB_toList, he, hres]
  have he : t.isEmpty = false := by
    cases t with
    | nil => exact absurd (by simpa using hL) h0
    | cons _ _ => rfl
  have h0p : 0 < t.length := by omega
  have hs0 : strAt (.string (strB t)) (.int .i64 0) = some (.int .u8 (t.getD 0 0).toNat) := by simpa using strAt_D (n := 0) (k := .i64) h0p
  obtain ⟨c, hc⟩ : ∃ c, c = (t.getD 0 0).toNat := ⟨_, rfl⟩
  rw [← hc] at hs0
  by_cases hlo : c < 97
  · have hloI : (c : Int) < 97 := by omega
    have hlf : lowC (t.getD 0 0) = false := by unfold lowC; rw [← hc, decide_eq_false (by omega)]; rfl
    have hres : nameS t = false := by unfold nameS; rw [hlf]; simp
    simp (disch := first|omega|(simp only [np,ns];try omega)) [r_audit_name, B_audit_name, hsz, h32, h32I, strB_toList, he, hs0, hloI, hlo, hres]
  have hloI : ¬ (c : Int) < 97 := by omega
  by_cases hhi : 122 < c
  · have hhiI : (122 : Int) < (c : Int) := by omega
    have hlf : lowC (t.getD 0 0) = false := by unfold lowC; rw [← hc, decide_eq_false (p := c ≤ 122) (by omega)]; simp
    have hres : nameS t = false := by unfold nameS; rw [hlf]; simp
    simp (disch := first|omega|(simp only [np,ns];try omega)) [r_audit_name, B_audit_name, hsz, h32, h32I, strB_toList, he, hs0, hloI, hlo, hhi, hhiI, hres]
  have hhiI : ¬ (122 : Int) < (c : Int) := by omega
  have hlow : lowC (t.getD 0 0) = true := by unfold lowC; rw [← hc, decide_eq_true (by omega), decide_eq_true (by omega)]; rfl
  have hfit : L ≤ 140737488355328 := by omega
  simp (disch := first|omega|(simp only [np,ns];try omega)) [B_audit_name, hsz, h32, h32I, strB_toList, he, hs0, hloI, hlo, hhi, hhiI, hfit, bytesV_strB]
  refine pw_loopN (fun k s g => g.n = h.n + 1 ∧ g.get h.n = .cells (u8s t) true 1 ∧ (t.take k).all nmC = true ∧ s 23 = .slice (some ⟨h.n, 0, none⟩) L L ∧ s 24 = .int .i64 (L : Int) ∧ s 25 = .int .i64 (k : Int)) L ?_ ?_
  · refine ⟨by simp, by simp, by simp, by simp [upd_apply], by simp [upd_apply], by simp [upd_apply]⟩
  rintro k s g hk ⟨hn, hg, hall, e23, e24, e25⟩
  by_cases hlt : k < L
  · have hltI : (k : Int) < (L : Int) := by omega
    have hld := textAt g t hL hlt
    obtain ⟨d, hd⟩ : ∃ d, d = (t.getD k 0).toNat := ⟨_, rfl⟩
    rw [← hd] at hld
    have hkk : IntKind.i64.wrap ((k : Int) + 1) = ((k + 1 : Nat) : Int) := by rw [i64_small (by omega) (by omega)]; omega
    by_cases hok : nmC (t.getD k 0) = true
    · have hnx := all_take (by omega) hall hok
      simp only [nmC, lowC, ← hd, Bool.or_eq_true, Bool.and_eq_true, decide_eq_true_eq] at hok
      by_cases a1 : d < 97
      · have a1I : (d : Int) < 97 := by omega
        by_cases a2 : d < 48
        · have a2I : (d : Int) < 48 := by omega
          have a3 : ((d : Int) == 45) = true := by rw [beq_iff_eq]; omega
          have a3n : ((d : Int) != 45) = false := by rw [bne, a3]; rfl
          simp (disch := first|omega|(simp only [np,ns];try omega)) [e23, e24, e25, hltI, hlt, hn, hg, hld, a1I, a2I, a3n, hkk]
          exact List.all_eq_true.1 hnx
        · have a2I : ¬ (d : Int) < 48 := by omega
          by_cases a4 : 57 < d
          · exfalso; omega
          · have a4I : ¬ (57 : Int) < (d : Int) := by omega
            simp (disch := first|omega|(simp only [np,ns];try omega)) [e23, e24, e25, hltI, hlt, hn, hg, hld, a1I, a2I, a4I, hkk]
            exact List.all_eq_true.1 hnx
      · have a1I : ¬ (d : Int) < 97 := by omega
        have a2I : ¬ (122 : Int) < (d : Int) := by omega
        simp (disch := first|omega|(simp only [np,ns];try omega)) [e23, e24, e25, hltI, hlt, hn, hg, hld, a1I, a2I, hkk]
        exact List.all_eq_true.1 hnx
    · have hno : nmC (t.getD k 0) = false := by simpa using hok
      have hfa := all_not (by omega) hno
      have hres : nameS t = false := by simp [nameS, hfa]
      have hok2 : ¬ ((97 ≤ d ∧ d ≤ 122) ∨ (48 ≤ d ∧ d ≤ 57) ∨ d = 45) := by
        intro hx
        apply hok
        simp only [nmC, lowC, ← hd, Bool.or_eq_true, Bool.and_eq_true, decide_eq_true_eq]
        omega
      have a3n : ((d : Int) != 45) = true := by rw [bne_iff_ne]; omega
      by_cases a1 : d < 97
      · have a1I : (d : Int) < 97 := by omega
        by_cases a2 : d < 48
        · have a2I : (d : Int) < 48 := by omega
          simp (disch := first|omega|(simp only [np,ns];try omega)) [r_audit_name, e23, e24, e25, hltI, hlt, hn, hg, hld, a1I, a2I, a3n, hres]
        · have a2I : ¬ (d : Int) < 48 := by omega
          have a4I : (57 : Int) < (d : Int) := by omega
          simp (disch := first|omega|(simp only [np,ns];try omega)) [r_audit_name, e23, e24, e25, hltI, hlt, hn, hg, hld, a1I, a2I, a4I, a3n, hres]
      · have a1I : ¬ (d : Int) < 97 := by omega
        have a2I : (122 : Int) < (d : Int) := by omega
        have a5I : ¬ (d : Int) < 48 := by omega
        have a4I : (57 : Int) < (d : Int) := by omega
        simp (disch := first|omega|(simp only [np,ns];try omega)) [r_audit_name, e23, e24, e25, hltI, hlt, hn, hg, hld, a1I, a2I, a4I, a5I, a3n, hres]
  · obtain rfl : k = L := by omega
    have hft : t.all nmC = true := by rw [hL, List.take_length] at hall; exact hall
    have hres : nameS t = true := by unfold nameS; rw [hlow, hft, decide_eq_true (by omega), decide_eq_true (by omega)]; rfl
    simp (disch := first|omega|(simp only [np,ns];try omega)) [r_audit_name, e23, e24, e25, hres]

theorem name_ok {h : VH} {t : List UInt8} (ht : t.length ≤ 140737488355328) : PCalls Try.prog f_audit_name [.string (strB t)] h (fun u h' => u = .bool (nameS t) ∧ h' = h) :=
  ((name_ok' ht).mono fun u _ e => by subst e; exact ⟨rfl, rfl⟩).drop

section
variable {a b c d : Value} {ow : Bool} {e : Nat}
theorem en_all {x y : ByteArray} {z : Int} {p : Option Addr} {q r : Nat} : ([Value.string x, .int .i64 z, .string y, .slice p q r]).all Value.oneCell' = true := rfl
end

set_option maxHeartbeats 4000000 in
theorem wrong_ok' {h : VH} {e : En} {a : Option Addr} {n c : Nat} (ht : e.t.length ≤ 140737488355328) (hb : n = e.b.length) (hn : n < 9223372036854775808) (hw : e.w.length ≤ 9223372036854775807) : PCalls Try.prog f_audit_Entry_wrong [enV e (.slice a n c)] h (fun u _ => u = .int .i64 (wrongS e)) := by
  refine PCalls_of_pw st_audit_Entry_wrong (by simp [n_audit_Entry_wrong]) ?_
  rw [b_audit_Entry_wrong]
  obtain ⟨t, at_, w, b⟩ := e
  simp only at ht hb hw
  obtain ⟨W, hW⟩ : ∃ W, W = wrongS ⟨t, at_, w, b⟩ := ⟨_, rfl⟩
  rw [← hW]
  unfold wrongS at hW
  simp only at hW
  obtain ⟨L, hL⟩ : ∃ L, L = w.length := ⟨_, rfl⟩
  have hsz : (strB w).size = L := by rw [strB_size, hL]
  rw [← hb, ← hL] at hW
  obtain ⟨z0, hz0⟩ : ∃ z, t.isEmpty = z := ⟨_, rfl⟩
  simp (disch := first|omega|(simp only [np,ns];try omega)) [B_audit_Entry_wrong, enV, en_all, Wr.ld4_0, Wr.ld4_1, Wr.ld4_2, Wr.ld4_3, strB_toList, hz0, -pwOps_guard]
  generalize hKK : kSeq Try.prog (PC.cond (.t 5) _ _) _ = KK
  have tail : (¬ (t ≠ [] ∧ nameS t = false)) → ∀ (s : Slots) (g : VH), g.n = h.n + 1 → g.get h.n = .cells [.string (strB t), .int .i64 at_, .string (strB w), .slice a n c] true 1 → s 1 = .pointer (some ⟨h.n, 0, none⟩) → s 5 = .bool false → KK .normal s g := by
    intro hnm s g hgn hg e1 e5
    rw [if_neg hnm] at hW
    rw [← hKK]
    by_cases hA : at_ < 0
    · rw [if_pos (.inl hA)] at hW
      simp (disch := first|omega|(simp only [np,ns];try omega)) [r_audit_Entry_wrong, hgn, hg, e1, e5, hA, Wr.ld4_1, hW]
    by_cases hB : 1125899906842624 < at_
    · rw [if_pos (.inr hB)] at hW
      simp (disch := first|omega|(simp only [np,ns];try omega)) [r_audit_Entry_wrong, hgn, hg, e1, e5, hA, hB, Wr.ld4_1, hW]
    rw [if_neg (by omega)] at hW
    by_cases hC : L < 1
    · have hCI : (L : Int) < 1 := by omega
      rw [if_pos (.inl hC)] at hW
      simp (disch := first|omega|(simp only [np,ns];try omega)) [r_audit_Entry_wrong, hgn, hg, e1, e5, hA, hB, hC, hCI, hsz, Wr.ld4_1, Wr.ld4_2, hW]
    have hCI : ¬ (L : Int) < 1 := by omega
    by_cases hD : 32 < L
    · have hDI : (32 : Int) < (L : Int) := by omega
      rw [if_pos (.inr hD)] at hW
      simp (disch := first|omega|(simp only [np,ns];try omega)) [r_audit_Entry_wrong, hgn, hg, e1, e5, hA, hB, hC, hCI, hD, hDI, hsz, Wr.ld4_1, Wr.ld4_2, hW]
    have hDI : ¬ (32 : Int) < (L : Int) := by omega
    rw [if_neg (by omega)] at hW
    have hfit : L ≤ 140737488355328 := by omega
    simp (disch := first|omega|(simp only [np,ns];try omega)) [hgn, hg, e1, e5, hA, hB, hC, hCI, hD, hDI, hsz, Wr.ld4_1, Wr.ld4_2, hfit, bytesV_strB]
    refine pw_loopN (fun k s g => g.n = h.n + 2 ∧ g.get h.n = .cells [.string (strB t), .int .i64 at_, .string (strB w), .slice a n c] true 1 ∧ g.get (h.n + 1) = .cells (u8s w) true 1 ∧ (w.take k).all visC = true ∧ s 1 = .pointer (some ⟨h.n, 0, none⟩) ∧ s 37 = .slice (some ⟨h.n + 1, 0, none⟩) L L ∧ s 38 = .int .i64 (L : Int) ∧ s 39 = .int .i64 (k : Int)) L ?_ ?_
    · refine ⟨by simp [hgn], ?_, ?_, by simp, by simp [upd_apply, e1], by simp [upd_apply], by simp [upd_apply], by simp [upd_apply]⟩
      · rw [VH.get_push_lt _ _ (by omega), hg]
      · rw [← hgn, VH.get_push_new]
    rintro k s2 g2 hk ⟨hn2, hg2, hg3, hall, f1, f37, f38, f39⟩
    by_cases hlt : k < L
    · have hltI : (k : Int) < (L : Int) := by omega
      have hld := textAt g w hL hlt
      obtain ⟨d, hd⟩ : ∃ d, d = (w.getD k 0).toNat := ⟨_, rfl⟩
      rw [← hd] at hld
      have hkk : IntKind.i64.wrap ((k : Int) + 1) = ((k + 1 : Nat) : Int) := by rw [i64_small (by omega) (by omega)]; omega
      have hno : ¬ (33 ≤ d ∧ d ≤ 126) → W = 3 := by
        intro hx
        have : visC (w.getD k 0) = false := by
          simp only [visC, ← hd]
          rw [← Bool.not_eq_true, Bool.and_eq_true, decide_eq_true_eq, decide_eq_true_eq]
          exact hx
        rw [hW, if_pos (all_not (by omega) this)]
      by_cases a1 : d < 33
      · have a1I : (d : Int) < 33 := by omega
        have := hno (by omega)
        simp (disch := first|omega|(simp only [np,ns];try omega)) [r_audit_Entry_wrong, f1, f37, f38, f39, hltI, hlt, hn2, hg3, hld, a1I, this]
      have a1I : ¬ (d : Int) < 33 := by omega
      by_cases a2 : 126 < d
      · have a2I : (126 : Int) < (d : Int) := by omega
        have := hno (by omega)
        simp (disch := first|omega|(simp only [np,ns];try omega)) [r_audit_Entry_wrong, f1, f37, f38, f39, hltI, hlt, hn2, hg3, hld, a1I, a2I, this]
      have a2I : ¬ (126 : Int) < (d : Int) := by omega
      have hok : visC (w.getD k 0) = true := by
        simp only [visC, ← hd]
        rw [decide_eq_true (by omega), decide_eq_true (by omega)]; rfl
      have hnx := all_take (by omega) hall hok
      simp (disch := first|omega|(simp only [np,ns];try omega)) [f1, f37, f38, f39, hltI, hlt, hn2, hg2, hg3, hld, a1I, a2I, hkk]
      exact List.all_eq_true.1 hnx
    · obtain rfl : k = L := by omega
      have hft : w.all visC = true := by rw [hL, List.take_length] at hall; exact hall
      rw [if_neg (by rw [hft]; decide)] at hW
      by_cases hE : 65536 < n
      · have hEI : (65536 : Int) < (n : Int) := by omega
        rw [if_pos hE] at hW
        simp (disch := first|omega|(simp only [np,ns];try omega)) [r_audit_Entry_wrong, f1, f37, f38, f39, hn2, hg2, Wr.ld4_3, hE, hEI, hW]
      · have hEI : ¬ (65536 : Int) < (n : Int) := by omega
        rw [if_neg hE] at hW
        simp (disch := first|omega|(simp only [np,ns];try omega)) [r_audit_Entry_wrong, f1, f37, f38, f39, hn2, hg2, Wr.ld4_3, hE, hEI, hW]
  cases z0 with
  | true =>
    have h0 : t = [] := by simpa using hz0
    simp (disch := first|omega|(simp only [np,ns];try omega)) [Wr.ld4_0]
    refine tail (by simp [h0]) _ _ (by simp) (by simp) (by simp [upd_apply]) (by simp [upd_apply])
  | false =>
    have h0 : t ≠ [] := by simpa using hz0
    simp (disch := first|omega|(simp only [np,ns];try omega)) [Wr.ld4_0]
    refine (name_ok ht).mono ?_
    rintro u g ⟨rfl, rfl⟩
    obtain ⟨z, hz⟩ : ∃ z, z = nameS t := ⟨_, rfl⟩
    rw [← hz]
    cases z with
    | true =>
      simp (disch := first|omega|(simp only [np,ns];try omega)) []
      refine tail (by rw [← hz]; simp) _ _ (by simp) (by simp) (by simp [upd_apply]) (by simp [upd_apply])
    | false =>
      rw [if_pos ⟨h0, hz.symm⟩] at hW
      simp (disch := first|omega|(simp only [np,ns];try omega)) [← hKK]
      simp (disch := first|omega|(simp only [np,ns];try omega)) [r_audit_Entry_wrong, hW]
theorem wrong_ok {h : VH} {e : En} {v : Value} (ht : e.t.length ≤ 140737488355328) (hb : IsBytes h v e.b) (hn : e.b.length < 9223372036854775808) (hw : e.w.length ≤ 9223372036854775807) : PCalls Try.prog f_audit_Entry_wrong [enV e v] h (fun u h' => u = .int .i64 (wrongS e) ∧ h' = h) := by
  obtain ⟨a, c, rfl⟩ := hb.shape
  exact ((wrong_ok' ht rfl hn hw).mono fun u _ e => by subst e; exact ⟨rfl, rfl⟩).drop

/- audit, part B: an entry's bytes, texts joined, a chain (the program). -/

def fdsE (e : En) (a : List UInt8) : List Wr.Fd := [⟨1, 2, 0, e.t⟩, ⟨2, 0, e.at_.toNat, []⟩, ⟨3, 2, 0, e.w⟩, ⟨4, 2, 0, e.b⟩, ⟨5, 2, 0, a⟩]
def bytesS (e : En) (a : List UInt8) : List UInt8 := (writeS (fdsE e a)).1

theorem st4_k {a b c d : Value} {x y z : Int} {p : Option Addr} {q r : Nat} : storeObj (.cells [a, b, c, d] true 1) 0 4 (.agg #[.int .i64 x, .int .i64 y, .int .u64 z, .slice p q r]) = some (.cells [.int .i64 x, .int .i64 y, .int .u64 z, .slice p q r] true 1) := rfl
theorem eb1_ok {h : VH} {x : Int} {a : Option Addr} {n c : Nat} : PCalls Try.prog f_audit_Entry_bytes_1 [.int .i64 x, .slice a n c] h (fun u h' => u = .agg #[.int .i64 x, .int .i64 2, .int .u64 0, .slice a n c] ∧ Fr h h' []) := by
  refine PCalls_of_pw st_audit_Entry_bytes_1 (by simp [n_audit_Entry_bytes_1]) ?_
  rw [b_audit_Entry_bytes_1]
  have hf : ∀ v : Value, fillC [.int .i64 0, .int .i64 0, .int .u64 0, v] [(0, 1, .int .i64 x), (1, 1, .int .i64 2), (3, 1, .slice a n c)] = some [.int .i64 x, .int .i64 2, .int .u64 0, .slice a n c] := fun v => rfl
  simp (disch := first|omega|(simp only [np,ns];try omega)) [r_audit_Entry_bytes_1, B_audit_Entry_bytes_1, hf, st4_k, ld4_all]
  exact Fr_set (Fr_push (Fr.refl _ _)) (Nat.le_refl _)

theorem Buf_fr {h h0 g : VH} {w : Value} {l : List UInt8} (F : Fr h h0 []) (B : Buf h0 g w l) : Buf h g w l := ⟨B.own, F.trans B.fr, fun i hi => Nat.le_trans F.n (B.ids i hi)⟩
theorem box_b {g : VH} {l : List UInt8} {n : Nat} (hn : n = l.length) : IsBytes (g.push (.cells (u8s l) true 1)) (.slice (some ⟨g.n, 0, none⟩) n n) l := by
  subst hn
  exact BytesAt.is (by simp) (Nat.le_refl _) ⟨u8s l, true, VH.get_push_new _ _, by simp [u8s], by simp [u8s, List.take_of_length_le]⟩
theorem five_is {g : VH} {e : En} {M : Nat} {ah : List UInt8} {v1 v3 v4 v5 : Value} (h1 : IsBytes g v1 e.t) (h3 : IsBytes g v3 e.w) (h4 : IsBytes g v4 e.b) (h5 : IsBytes g v5 ah) (hM : e.at_ = (M : Int)) :
    IsFds (g.push (.cells [.int .i64 1, .int .i64 2, .int .u64 0, v1, .int .i64 2, .int .i64 0, .int .u64 (M : Int), .slice none 0 0, .int .i64 3, .int .i64 2, .int .u64 0, v3, .int .i64 4, .int .i64 2, .int .u64 0, v4, .int .i64 5, .int .i64 2, .int .u64 0, v5] true 4)) (.slice (some ⟨g.n, 0, none⟩) 5 5) (fdsE e ah) := by
  refine .inr ⟨g.n, 0, 5, _, true, by simp, Nat.le_refl _, rfl, VH.get_push_new _ _, by simp [fdsE], ?_⟩
  have hp : ∀ {v : Value} {bs : List UInt8}, IsBytes g v bs → ∀ o, IsBytes (g.push o) v bs := fun hb o => isB_fr (Fr_push (Fr.refl _ _)) hb
  have hMn : (e.at_.toNat : Int) = (M : Int) := by rw [hM]; rfl
  exact ⟨rfl, rfl, rfl, hp h1 _, rfl, rfl, by rw [← hMn], .inl ⟨rfl, rfl⟩, rfl, rfl, rfl, hp h3 _, rfl, rfl, rfl, hp h4 _, rfl, rfl, rfl, hp h5 _, trivial⟩

set_option maxHeartbeats 8000000 in
theorem ebytes_ok {h : VH} {e : En} {v : Value} {ah : List UInt8} (hb : IsBytes h v e.b) (ha : ah.length = 32) (ht : e.t.length ≤ 8000000) (hw : e.w.length ≤ 8000000) (hbl : e.b.length ≤ 8000000) (h0 : 0 ≤ e.at_) (h1 : e.at_ ≤ 1125899906842624) :
    PCalls Try.prog f_audit_Entry_bytes [enV e v, digV ah] h (fun u h' => ∃ a n c, u = .slice a n c ∧ Buf h h' (.slice a n c) (bytesS e ah)) := by
  refine PCalls_of_pw st_audit_Entry_bytes (by simp [n_audit_Entry_bytes]) ?_
  rw [b_audit_Entry_bytes]
  obtain ⟨va, vc, rfl⟩ := hb.shape
  obtain ⟨t, at_, w, b⟩ := e
  simp only at ht hw hbl h0 h1 hb
  obtain ⟨M, rfl⟩ : ∃ M : Nat, at_ = (M : Int) := ⟨at_.toNat, by omega⟩
  obtain ⟨T, hT⟩ : ∃ T, T = t.length := ⟨_, rfl⟩
  obtain ⟨W, hW⟩ : ∃ W, W = w.length := ⟨_, rfl⟩
  obtain ⟨N, hN⟩ : ∃ N, N = b.length := ⟨_, rfl⟩
  have hst : (strB t).size = T := by rw [strB_size, hT]
  have hsw : (strB w).size = W := by rw [strB_size, hW]
  have hTf : T ≤ 140737488355328 := by omega
  have hWf : W ≤ 140737488355328 := by omega
  rw [← hN]
  have hcd : cellsL (digV ah) = u8s ah := rfl
  have hall : (u8s ah).all Value.oneCell' = true := by simp [u8s, Value.oneCell']
  obtain ⟨G, hG⟩ : ∃ G, G = (h.push (.cells [.string (strB t), .int .i64 (M : Int), .string (strB w), .slice va N vc] true 1)).push (.cells (u8s ah) true 1) := ⟨_, rfl⟩
  have hGn : G.n = h.n + 2 := by rw [hG]; simp
  have hGe : G.get h.n = .cells [.string (strB t), .int .i64 (M : Int), .string (strB w), .slice va N vc] true 1 := by
    rw [hG, VH.get_push_lt _ _ (by simp), VH.get_push_new]
  have hGa : G.get (h.n + 1) = .cells (u8s ah) true 1 := by
    rw [hG]
    exact VH.get_push_new (h.push _) _
  have hGb : IsBytes G (.slice va N vc) b := by
    rw [hG, hN]
    exact isB_fr (Fr_push (Fr_push (Fr.refl _ _))) hb
  have hcv : IntKind.u64.wrap (M : Int) = (M : Int) := by
    rw [wrapN_u64, Nat.mod_eq_of_lt (by omega)]
  have hfl : fillC [.int .i64 0, .int .i64 0, .int .u64 0, .slice none 0 0] [(0, 1, .int .i64 2), (2, 1, .int .u64 (M : Int))] = some [.int .i64 2, .int .i64 0, .int .u64 (M : Int), .slice none 0 0] := rfl
  simp (disch := first|omega|(simp only [np,ns];try omega)) [B_audit_Entry_bytes, enV, en_all, hcd, hall, ← hG, hGn, hGe, hGa, ha, hcv, hfl, ld4_0, ld4_1, ld4_2, ld4_3, hst, hsw, hTf, hWf, bytesV_strB]
  have hGF : Fr h G [] := by rw [hG]; exact Fr_push (Fr_push (Fr.refl _ _))
  have hGx : IsBytes G (.slice (some ⟨h.n + 1, 0, none⟩) 32 32) ah := by
    rw [hG]
    exact box_b (g := h.push _) ha.symm
  have hfwf : ∀ f ∈ fdsE ⟨t, (M : Int), w, b⟩ ah, f.wf := by
    intro f hf
    simp only [fdsE, List.mem_cons, List.not_mem_nil, or_false] at hf
    have : (M : Int).toNat = M := rfl
    rcases hf with rfl | rfl | rfl | rfl | rfl <;> refine ⟨?_, ?_, ?_, ?_, ?_⟩ <;> (simp only [this]; omega)
  have hfbl : ∀ f ∈ fdsE ⟨t, (M : Int), w, b⟩ ah, f.b.length ≤ 8000000 := by
    intro f hf
    simp only [fdsE, List.mem_cons, List.not_mem_nil, or_false] at hf
    rcases hf with rfl | rfl | rfl | rfl | rfl <;> simp <;> omega
  refine ⟨⟨?_, ?_⟩, ?_⟩
  · refine ⟨rfl, (eb1_ok).mono ?_⟩
    rintro u g1 ⟨rfl, F0⟩
    have t0 := box_b (g := G) hT
    have t1 := isB_fr F0 t0
    have F1 := (Fr_push (o := .cells (u8s t) true 1) (Fr.refl G [])).trans F0
    rw [hGn] at t1
    have e1 : g1.get h.n = .cells [.string (strB t), .int .i64 (M : Int), .string (strB w), .slice va N vc] true 1 := (F1.get _ (by omega) (by simp)).trans hGe
    have a1 : g1.get (h.n + 1) = .cells (u8s ah) true 1 := (F1.get _ (by omega) (by simp)).trans hGa
    have n1 := F1.n
    simp (disch := first|omega|(simp only [np,ns];try omega)) [e1, a1, ld4_0, ld4_1, ld4_2, ld4_3, hst, hsw, hTf, hWf, hcv, ha, bytesV_strB, hGn]
    refine ⟨rfl, (eb1_ok).mono ?_⟩
    rintro u g2 ⟨rfl, F02⟩
    have w2 := isB_fr F02 (box_b (g := g1) hW)
    have F2 := F1.trans ((Fr_push (o := .cells (u8s w) true 1) (Fr.refl g1 [])).trans F02)
    have F12 := (Fr_push (o := .cells (u8s w) true 1) (Fr.refl g1 [])).trans F02
    have t2 := isB_fr F12 t1
    have e2 : g2.get h.n = .cells [.string (strB t), .int .i64 (M : Int), .string (strB w), .slice va N vc] true 1 := (F2.get _ (by omega) (by simp)).trans hGe
    have a2 : g2.get (h.n + 1) = .cells (u8s ah) true 1 := (F2.get _ (by omega) (by simp)).trans hGa
    have n2 := F2.n
    simp (disch := first|omega|(simp only [np,ns];try omega)) [e2, a2, ld4_0, ld4_1, ld4_2, ld4_3, hst, hsw, hTf, hWf, hcv, ha, bytesV_strB, hGn]
    refine ⟨rfl, (eb1_ok).mono ?_⟩
    rintro u g3 ⟨rfl, F03⟩
    have F3 := F2.trans F03
    have e3 : g3.get h.n = .cells [.string (strB t), .int .i64 (M : Int), .string (strB w), .slice va N vc] true 1 := (F3.get _ (by omega) (by simp)).trans hGe
    have a3 : g3.get (h.n + 1) = .cells (u8s ah) true 1 := (F3.get _ (by omega) (by simp)).trans hGa
    have n3 := F3.n
    simp (disch := first|omega|(simp only [np,ns];try omega)) [e3, a3, ld4_0, ld4_1, ld4_2, ld4_3, hst, hsw, hTf, hWf, hcv, ha, bytesV_strB, hGn]
    refine ⟨rfl, (eb1_ok).mono ?_⟩
    rintro u g4 ⟨rfl, F04⟩
    have F4 := F3.trans F04
    have e4 : g4.get h.n = .cells [.string (strB t), .int .i64 (M : Int), .string (strB w), .slice va N vc] true 1 := (F4.get _ (by omega) (by simp)).trans hGe
    have a4 : g4.get (h.n + 1) = .cells (u8s ah) true 1 := (F4.get _ (by omega) (by simp)).trans hGa
    have n4 := F4.n
    have F24 := F03.trans F04
    have t4 := isB_fr F24 t2
    have w4 := isB_fr F24 w2
    have b4 : IsBytes g4 (.slice va N vc) b := isB_fr F4 hGb
    have x4 : IsBytes g4 (.slice (some ⟨h.n + 1, 0, none⟩) 32 32) ah := isB_fr F4 hGx
    have hrow : ∀ (p q : Option Addr), fillC [.int .i64 0, .int .i64 0, .int .u64 0, .slice none 0 0, .int .i64 0, .int .i64 0, .int .u64 0, .slice none 0 0, .int .i64 0, .int .i64 0, .int .u64 0, .slice none 0 0, .int .i64 0, .int .i64 0, .int .u64 0, .slice none 0 0, .int .i64 0, .int .i64 0, .int .u64 0, .slice none 0 0]
      [(0, 4, .agg #[.int .i64 1, .int .i64 2, .int .u64 0, .slice p T T]), (4, 4, .agg #[.int .i64 2, .int .i64 0, .int .u64 (M : Int), .slice none 0 0]), (8, 4, .agg #[.int .i64 3, .int .i64 2, .int .u64 0, .slice q W W]), (12, 4, .agg #[.int .i64 4, .int .i64 2, .int .u64 0, .slice va N vc]), (16, 4, .agg #[.int .i64 5, .int .i64 2, .int .u64 0, .slice (some ⟨h.n + 1, 0, none⟩) 32 32])]
      = some [.int .i64 1, .int .i64 2, .int .u64 0, .slice p T T, .int .i64 2, .int .i64 0, .int .u64 (M : Int), .slice none 0 0, .int .i64 3, .int .i64 2, .int .u64 0, .slice q W W, .int .i64 4, .int .i64 2, .int .u64 0, .slice va N vc, .int .i64 5, .int .i64 2, .int .u64 0, .slice (some ⟨h.n + 1, 0, none⟩) 32 32] := fun p q => rfl
    have hone : ∀ (p q : Option Addr), ([.int .i64 1, .int .i64 2, .int .u64 0, .slice p T T, .int .i64 2, .int .i64 0, .int .u64 (M : Int), .slice none 0 0, .int .i64 3, .int .i64 2, .int .u64 0, .slice q W W, .int .i64 4, .int .i64 2, .int .u64 0, .slice va N vc, .int .i64 5, .int .i64 2, .int .u64 0, .slice (some ⟨h.n + 1, 0, none⟩) 32 32] : List Value).all Value.oneCell' = true := fun p q => rfl
    simp (disch := first|omega|(simp only [np,ns];try omega)) [e4, a4, hrow, hone, ld4_0, ld4_1, ld4_2, ld4_3, hst, hsw, hTf, hWf, hcv, ha, bytesV_strB, hGn]
    have hfive := five_is (e := ⟨t, (M : Int), w, b⟩) (M := M) (ah := ah) t4 w4 b4 x4 rfl
    refine (write_ok hfive (hfwf) (hfbl) (by simp [fdsE])).mono ?_
    rintro u g5 ⟨ra, rn, rc, rfl, B5⟩
    simp (disch := first|omega|(simp only [np,ns];try omega)) [r_audit_Entry_bytes]
    exact ⟨ra, rn, rc, ⟨rfl, rfl, rfl⟩, Buf_fr (F := hGF.trans (Fr_push F4)) B5⟩
  · refine ⟨rfl, (eb1_ok).mono ?_⟩
    rintro u g1 ⟨rfl, F0⟩
    have t0 := isB_fr (Fr_push (o := .cells (u8s w) true 1) (Fr.refl _ [])) (box_b (g := G) hT)
    have w0 := box_b (g := G.push (.cells (u8s t) true 1)) hW
    have t1 := isB_fr F0 t0
    have w1 := isB_fr F0 w0
    have F1 := (Fr_push (o := .cells (u8s w) true 1) (Fr_push (o := .cells (u8s t) true 1) (Fr.refl G []))).trans F0
    rw [hGn] at t1
    rw [VH.n_push, hGn] at w1
    have e1 : g1.get h.n = .cells [.string (strB t), .int .i64 (M : Int), .string (strB w), .slice va N vc] true 1 := (F1.get _ (by omega) (by simp)).trans hGe
    have a1 : g1.get (h.n + 1) = .cells (u8s ah) true 1 := (F1.get _ (by omega) (by simp)).trans hGa
    have n1 := F1.n
    simp (disch := first|omega|(simp only [np,ns];try omega)) [e1, a1, ld4_0, ld4_1, ld4_2, ld4_3, hst, hsw, hTf, hWf, hcv, ha, bytesV_strB, hGn]
    refine ⟨rfl, (eb1_ok).mono ?_⟩
    rintro u g2 ⟨rfl, F02⟩
    have w2 := isB_fr F02 w1
    have F2 := F1.trans F02
    have t2 := isB_fr F02 t1
    have e2 : g2.get h.n = .cells [.string (strB t), .int .i64 (M : Int), .string (strB w), .slice va N vc] true 1 := (F2.get _ (by omega) (by simp)).trans hGe
    have a2 : g2.get (h.n + 1) = .cells (u8s ah) true 1 := (F2.get _ (by omega) (by simp)).trans hGa
    have n2 := F2.n
    simp (disch := first|omega|(simp only [np,ns];try omega)) [e2, a2, ld4_0, ld4_1, ld4_2, ld4_3, hst, hsw, hTf, hWf, hcv, ha, bytesV_strB, hGn]
    refine ⟨rfl, (eb1_ok).mono ?_⟩
    rintro u g3 ⟨rfl, F03⟩
    have F3 := F2.trans F03
    have e3 : g3.get h.n = .cells [.string (strB t), .int .i64 (M : Int), .string (strB w), .slice va N vc] true 1 := (F3.get _ (by omega) (by simp)).trans hGe
    have a3 : g3.get (h.n + 1) = .cells (u8s ah) true 1 := (F3.get _ (by omega) (by simp)).trans hGa
    have n3 := F3.n
    simp (disch := first|omega|(simp only [np,ns];try omega)) [e3, a3, ld4_0, ld4_1, ld4_2, ld4_3, hst, hsw, hTf, hWf, hcv, ha, bytesV_strB, hGn]
    refine ⟨rfl, (eb1_ok).mono ?_⟩
    rintro u g4 ⟨rfl, F04⟩
    have F4 := F3.trans F04
    have e4 : g4.get h.n = .cells [.string (strB t), .int .i64 (M : Int), .string (strB w), .slice va N vc] true 1 := (F4.get _ (by omega) (by simp)).trans hGe
    have a4 : g4.get (h.n + 1) = .cells (u8s ah) true 1 := (F4.get _ (by omega) (by simp)).trans hGa
    have n4 := F4.n
    have F24 := F03.trans F04
    have t4 := isB_fr F24 t2
    have w4 := isB_fr F24 w2
    have b4 : IsBytes g4 (.slice va N vc) b := isB_fr F4 hGb
    have x4 : IsBytes g4 (.slice (some ⟨h.n + 1, 0, none⟩) 32 32) ah := isB_fr F4 hGx
    have hrow : ∀ (p q : Option Addr), fillC [.int .i64 0, .int .i64 0, .int .u64 0, .slice none 0 0, .int .i64 0, .int .i64 0, .int .u64 0, .slice none 0 0, .int .i64 0, .int .i64 0, .int .u64 0, .slice none 0 0, .int .i64 0, .int .i64 0, .int .u64 0, .slice none 0 0, .int .i64 0, .int .i64 0, .int .u64 0, .slice none 0 0]
      [(0, 4, .agg #[.int .i64 1, .int .i64 2, .int .u64 0, .slice p T T]), (4, 4, .agg #[.int .i64 2, .int .i64 0, .int .u64 (M : Int), .slice none 0 0]), (8, 4, .agg #[.int .i64 3, .int .i64 2, .int .u64 0, .slice q W W]), (12, 4, .agg #[.int .i64 4, .int .i64 2, .int .u64 0, .slice va N vc]), (16, 4, .agg #[.int .i64 5, .int .i64 2, .int .u64 0, .slice (some ⟨h.n + 1, 0, none⟩) 32 32])]
      = some [.int .i64 1, .int .i64 2, .int .u64 0, .slice p T T, .int .i64 2, .int .i64 0, .int .u64 (M : Int), .slice none 0 0, .int .i64 3, .int .i64 2, .int .u64 0, .slice q W W, .int .i64 4, .int .i64 2, .int .u64 0, .slice va N vc, .int .i64 5, .int .i64 2, .int .u64 0, .slice (some ⟨h.n + 1, 0, none⟩) 32 32] := fun p q => rfl
    have hone : ∀ (p q : Option Addr), ([.int .i64 1, .int .i64 2, .int .u64 0, .slice p T T, .int .i64 2, .int .i64 0, .int .u64 (M : Int), .slice none 0 0, .int .i64 3, .int .i64 2, .int .u64 0, .slice q W W, .int .i64 4, .int .i64 2, .int .u64 0, .slice va N vc, .int .i64 5, .int .i64 2, .int .u64 0, .slice (some ⟨h.n + 1, 0, none⟩) 32 32] : List Value).all Value.oneCell' = true := fun p q => rfl
    simp (disch := first|omega|(simp only [np,ns];try omega)) [e4, a4, hrow, hone, ld4_0, ld4_1, ld4_2, ld4_3, hst, hsw, hTf, hWf, hcv, ha, bytesV_strB, hGn]
    have hfive := five_is (e := ⟨t, (M : Int), w, b⟩) (M := M) (ah := ah) t4 w4 b4 x4 rfl
    refine (write_ok hfive (hfwf) (hfbl) (by simp [fdsE])).mono ?_
    rintro u g5 ⟨ra, rn, rc, rfl, B5⟩
    simp (disch := first|omega|(simp only [np,ns];try omega)) [r_audit_Entry_bytes]
    exact ⟨ra, rn, rc, ⟨rfl, rfl, rfl⟩, Buf_fr (F := hGF.trans (Fr_push F4)) B5⟩
  · refine ⟨rfl, (eb1_ok).mono ?_⟩
    rintro u g1 ⟨rfl, F0⟩
    have w0 := isB_fr (Fr_push (o := .cells (u8s t) true 1) (Fr.refl _ [])) (box_b (g := G) hW)
    have t0 := box_b (g := G.push (.cells (u8s w) true 1)) hT
    have t1 := isB_fr F0 t0
    have w1 := isB_fr F0 w0
    have F1 := (Fr_push (o := .cells (u8s t) true 1) (Fr_push (o := .cells (u8s w) true 1) (Fr.refl G []))).trans F0
    rw [VH.n_push, hGn] at t1
    rw [hGn] at w1
    have e1 : g1.get h.n = .cells [.string (strB t), .int .i64 (M : Int), .string (strB w), .slice va N vc] true 1 := (F1.get _ (by omega) (by simp)).trans hGe
    have a1 : g1.get (h.n + 1) = .cells (u8s ah) true 1 := (F1.get _ (by omega) (by simp)).trans hGa
    have n1 := F1.n
    simp (disch := first|omega|(simp only [np,ns];try omega)) [e1, a1, ld4_0, ld4_1, ld4_2, ld4_3, hst, hsw, hTf, hWf, hcv, ha, bytesV_strB, hGn]
    refine ⟨rfl, (eb1_ok).mono ?_⟩
    rintro u g2 ⟨rfl, F02⟩
    have w2 := isB_fr F02 w1
    have F2 := F1.trans F02
    have t2 := isB_fr F02 t1
    have e2 : g2.get h.n = .cells [.string (strB t), .int .i64 (M : Int), .string (strB w), .slice va N vc] true 1 := (F2.get _ (by omega) (by simp)).trans hGe
    have a2 : g2.get (h.n + 1) = .cells (u8s ah) true 1 := (F2.get _ (by omega) (by simp)).trans hGa
    have n2 := F2.n
    simp (disch := first|omega|(simp only [np,ns];try omega)) [e2, a2, ld4_0, ld4_1, ld4_2, ld4_3, hst, hsw, hTf, hWf, hcv, ha, bytesV_strB, hGn]
    refine ⟨rfl, (eb1_ok).mono ?_⟩
    rintro u g3 ⟨rfl, F03⟩
    have F3 := F2.trans F03
    have e3 : g3.get h.n = .cells [.string (strB t), .int .i64 (M : Int), .string (strB w), .slice va N vc] true 1 := (F3.get _ (by omega) (by simp)).trans hGe
    have a3 : g3.get (h.n + 1) = .cells (u8s ah) true 1 := (F3.get _ (by omega) (by simp)).trans hGa
    have n3 := F3.n
    simp (disch := first|omega|(simp only [np,ns];try omega)) [e3, a3, ld4_0, ld4_1, ld4_2, ld4_3, hst, hsw, hTf, hWf, hcv, ha, bytesV_strB, hGn]
    refine ⟨rfl, (eb1_ok).mono ?_⟩
    rintro u g4 ⟨rfl, F04⟩
    have F4 := F3.trans F04
    have e4 : g4.get h.n = .cells [.string (strB t), .int .i64 (M : Int), .string (strB w), .slice va N vc] true 1 := (F4.get _ (by omega) (by simp)).trans hGe
    have a4 : g4.get (h.n + 1) = .cells (u8s ah) true 1 := (F4.get _ (by omega) (by simp)).trans hGa
    have n4 := F4.n
    have F24 := F03.trans F04
    have t4 := isB_fr F24 t2
    have w4 := isB_fr F24 w2
    have b4 : IsBytes g4 (.slice va N vc) b := isB_fr F4 hGb
    have x4 : IsBytes g4 (.slice (some ⟨h.n + 1, 0, none⟩) 32 32) ah := isB_fr F4 hGx
    have hrow : ∀ (p q : Option Addr), fillC [.int .i64 0, .int .i64 0, .int .u64 0, .slice none 0 0, .int .i64 0, .int .i64 0, .int .u64 0, .slice none 0 0, .int .i64 0, .int .i64 0, .int .u64 0, .slice none 0 0, .int .i64 0, .int .i64 0, .int .u64 0, .slice none 0 0, .int .i64 0, .int .i64 0, .int .u64 0, .slice none 0 0]
      [(0, 4, .agg #[.int .i64 1, .int .i64 2, .int .u64 0, .slice p T T]), (4, 4, .agg #[.int .i64 2, .int .i64 0, .int .u64 (M : Int), .slice none 0 0]), (8, 4, .agg #[.int .i64 3, .int .i64 2, .int .u64 0, .slice q W W]), (12, 4, .agg #[.int .i64 4, .int .i64 2, .int .u64 0, .slice va N vc]), (16, 4, .agg #[.int .i64 5, .int .i64 2, .int .u64 0, .slice (some ⟨h.n + 1, 0, none⟩) 32 32])]
      = some [.int .i64 1, .int .i64 2, .int .u64 0, .slice p T T, .int .i64 2, .int .i64 0, .int .u64 (M : Int), .slice none 0 0, .int .i64 3, .int .i64 2, .int .u64 0, .slice q W W, .int .i64 4, .int .i64 2, .int .u64 0, .slice va N vc, .int .i64 5, .int .i64 2, .int .u64 0, .slice (some ⟨h.n + 1, 0, none⟩) 32 32] := fun p q => rfl
    have hone : ∀ (p q : Option Addr), ([.int .i64 1, .int .i64 2, .int .u64 0, .slice p T T, .int .i64 2, .int .i64 0, .int .u64 (M : Int), .slice none 0 0, .int .i64 3, .int .i64 2, .int .u64 0, .slice q W W, .int .i64 4, .int .i64 2, .int .u64 0, .slice va N vc, .int .i64 5, .int .i64 2, .int .u64 0, .slice (some ⟨h.n + 1, 0, none⟩) 32 32] : List Value).all Value.oneCell' = true := fun p q => rfl
    simp (disch := first|omega|(simp only [np,ns];try omega)) [e4, a4, hrow, hone, ld4_0, ld4_1, ld4_2, ld4_3, hst, hsw, hTf, hWf, hcv, ha, bytesV_strB, hGn]
    have hfive := five_is (e := ⟨t, (M : Int), w, b⟩) (M := M) (ah := ah) t4 w4 b4 x4 rfl
    refine (write_ok hfive (hfwf) (hfbl) (by simp [fdsE])).mono ?_
    rintro u g5 ⟨ra, rn, rc, rfl, B5⟩
    simp (disch := first|omega|(simp only [np,ns];try omega)) [r_audit_Entry_bytes]
    exact ⟨ra, rn, rc, ⟨rfl, rfl, rfl⟩, Buf_fr (F := hGF.trans (Fr_push F4)) B5⟩

/- audit, part C: texts joined, a chain's new, text, head, length, sub, put (the program). -/

theorem take_oneL {ls : List (List UInt8)} {k : Nat} (hk : k < ls.length) : (ls.take (k + 1)).flatten = (ls.take k).flatten ++ ls[k] := by
  rw [List.take_succ_eq_append_getElem hk, List.flatten_append, List.flatten_cons, List.flatten_nil, List.append_nil]
theorem flat_take_le (ls : List (List UInt8)) (k : Nat) : (ls.take k).flatten.length ≤ ls.flatten.length := by
  conv => rhs; rw [← List.take_append_drop k ls, List.flatten_append, List.length_append]
  exact Nat.le_add_right _ _

set_option maxHeartbeats 4000000 in
theorem joined_ok {h : VH} {i n c : Nat} {cs : List Value} {ow : Bool} {ls : List (List UInt8)} (hi : i < h.n) (hg : h.get i = .cells cs ow 1) (hn : n = ls.length) (hc : cs.length = n)
    (hb : ∀ k (hk : k < ls.length), ∃ a m d, cs[k]? = some (.slice a m d) ∧ IsBytes h (.slice a m d) ls[k]) (hl : ls.flatten.length ≤ 140737488355328) (hnn : n ≤ 1000000) :
    PCalls Try.prog f_audit_joined [.slice (some ⟨i, 0, none⟩) n c] h (fun u h' => ∃ a n c, u = .slice a n c ∧ Buf h h' (.slice a n c) ls.flatten) := by
  refine PCalls_of_pw st_audit_joined (by simp [n_audit_joined]) ?_
  rw [b_audit_joined]
  simp (disch := first|omega|(simp only [np,ns];try omega)) [B_audit_joined]
  refine pw_loopN (fun k s g => ∃ (a : Option Addr) (m d : Nat), Buf h g (.slice a m d) (ls.take k).flatten ∧ s 3 = .slice a m d ∧ s 6 = .slice (some ⟨i, 0, none⟩) n c ∧ s 7 = .int .i64 (n : Int) ∧ s 8 = .int .i64 (k : Int)) n ?_ ?_
  · exact ⟨none, 0, 0, by simpa using Buf.nil h, by simp [upd_apply], by simp [upd_apply], by simp [upd_apply], by simp [upd_apply]⟩
  rintro k s g hk ⟨a, m, d, B, e3, e6, e7, e8⟩
  by_cases hlt : k < n
  · have hltI : (k : Int) < (n : Int) := by omega
    obtain ⟨xa, xm, xd, hx, hxb⟩ := hb k (by omega)
    have hgg : g.get i = .cells cs ow 1 := (B.fr.get i hi (by simp)).trans hg
    have hld : ∀ j, j = k → loadObj (.cells cs ow 1) j none = some (.slice xa xm xd) := by rintro j rfl; simpa [loadObj] using hx
    have hld1 := hld k rfl
    have hxs := (isB_fr B.fr hxb).src
    have hml : xm = (ls[k]'(by omega)).length := by
      obtain ⟨a', c', h1⟩ := hxb.shape
      injection h1
    obtain ⟨w, G, hap, B2⟩ := B.append (ls[k]'(by omega)) (by
      have := flat_take_le ls (k + 1)
      rw [take_oneL (by omega), List.length_append] at this
      omega)
    rw [← take_oneL (by omega)] at B2
    rw [← hml] at hap
    obtain ⟨pa, pn, pc, rfl⟩ : ∃ a n c, w = .slice a n c := by
      obtain ⟨a, c, rfl⟩ := B2.shape
      exact ⟨_, _, _, rfl⟩
    have hkk : IntKind.i64.wrap ((k : Int) + 1) = ((k + 1 : Nat) : Int) := by rw [i64_small (by omega) (by omega)]; omega
    have h1k : eszObj (.cells cs ow 1) 1 = true := rfl
    simp (disch := first|omega|(simp only [np,ns];try omega)) [e3, e6, e7, e8, hlt, hltI, hgg, hld1, hxs, hap, hkk, hc]
    exact ⟨pa, _, pc, B2, ⟨rfl, rfl, rfl⟩⟩
  · obtain rfl : k = n := by omega
    rw [hn, List.take_length] at B
    simp (disch := first|omega|(simp only [np,ns];try omega)) [r_audit_joined, e3, e6, e7, e8]
    exact ⟨a, m, d, ⟨rfl, rfl, rfl⟩, B⟩
theorem joined2_ok {h : VH} {a1 a2 : Option Addr} {n1 c1 n2 c2 : Nat} {l1 l2 : List UInt8} (h1 : IsBytes h (.slice a1 n1 c1) l1) (h2 : IsBytes h (.slice a2 n2 c2) l2) (hl : l1.length + l2.length ≤ 140737488355328) :
    PCalls Try.prog f_audit_joined [.slice (some ⟨h.n, 0, none⟩) 2 2] (h.push (.cells [.slice a1 n1 c1, .slice a2 n2 c2] true 1)) (fun u h' => ∃ a n c, u = .slice a n c ∧ Buf h h' (.slice a n c) (l1 ++ l2)) := by
  have hF : Fr h (h.push (.cells [.slice a1 n1 c1, .slice a2 n2 c2] true 1)) [] := Fr_push (Fr.refl _ _)
  refine (joined_ok (ls := [l1, l2]) (by simp) (VH.get_push_new _ _) rfl rfl ?_ (by simpa using hl) (by simp)).mono ?_
  · intro k hk
    match k, hk with
    | 0, _ => exact ⟨a1, n1, c1, rfl, isB_fr hF h1⟩
    | 1, _ => exact ⟨a2, n2, c2, rfl, isB_fr hF h2⟩
  · rintro u h' ⟨a, n, c, rfl, B⟩
    exact ⟨a, n, c, rfl, Buf_fr hF (by simpa using B)⟩

def be8 (n : Nat) : List UInt8 := (lowB 8 n).reverse
theorem be8_len (n : Nat) : (be8 n).length = 8 := by simp [be8, lowB_length]
theorem be8_at {n k : Nat} (hk : k < 8) : (be8 n).take (k + 1) = (be8 n).take k ++ [UInt8.ofNat (n / 256 ^ (7 - k) % 256)] := by
  rw [List.take_succ_eq_append_getElem (by rw [be8_len]; exact hk)]
  congr 2
  have h1 : (be8 n)[k]? = some (UInt8.ofNat (n / 256 ^ (7 - k) % 256)) := by
    unfold be8
    rw [List.getElem?_reverse (by rw [lowB_length]; exact hk), lowB_length]
    exact lowB_at 8 n _ (by omega)
  rw [List.getElem?_eq_getElem (by rw [be8_len]; exact hk)] at h1
  exact Option.some.inj h1

set_option maxHeartbeats 4000000 in
theorem text_ok {h : VH} {n : Nat} {l : List UInt8} (hl : l.length = 32) : PCalls Try.prog f_audit_text [.int .i64 (n : Int), digV l] h (fun u h' => ∃ a n' c, u = .slice a n' c ∧ Buf h h' (.slice a n' c) (be8 n ++ l)) := by
  refine PCalls_of_pw st_audit_text (by simp [n_audit_text]) ?_
  rw [b_audit_text]
  have hcd : cellsL (digV l) = u8s l := rfl
  have hall : (u8s l).all Value.oneCell' = true := by simp [u8s, Value.oneCell']
  simp (disch := first|omega|(simp only [np,ns];try omega)) [B_audit_text, hcd, hall]
  refine pw_loopN (fun k s g => ∃ (a : Option Addr) (m d : Nat), Buf (h.push (.cells (u8s l) true 1)) g (.slice a m d) ((be8 n).take k) ∧ s 0 = .int .i64 (n : Int) ∧ s 3 = .pointer (some ⟨h.n, 0, none⟩) ∧ s 5 = .slice a m d ∧ s 6 = .int .i64 (56 - 8 * (k : Int))) 8 ?_ ?_
  · exact ⟨none, 0, 0, Buf.nil _, by simp [upd_apply, s0_apply], by simp [upd_apply], by simp [upd_apply], by simp [upd_apply]⟩
  rintro k s g hk ⟨a, m, d, B, e0, e3, e5, e6⟩
  by_cases hlt : k < 8
  · obtain ⟨j, hj⟩ : ∃ j, j = 7 - k := ⟨_, rfl⟩
    obtain ⟨J, hJ⟩ : ∃ J, J = 8 * j := ⟨_, rfl⟩
    have e6' : s 6 = .int .i64 (J : Int) := by rw [e6]; congr 1; omega
    have hge : (0 : Int) ≤ (J : Int) := by omega
    have hge' : ¬ (J : Int) < 0 := by omega
    have hmin : min J 64 = J := by omega
    have hlb := low_byte n j
    rw [← hJ] at hlb
    obtain ⟨w, G, hap, B2⟩ := B.byte (UInt8.ofNat (n / 256 ^ j % 256)) (by have := be8_len n; simp; omega)
    have hb8 := be8_at (n := n) hlt
    rw [← hj] at hb8
    rw [← hb8] at B2
    obtain ⟨pa, pn, pc, rfl⟩ : ∃ a n c, w = .slice a n c := by
      obtain ⟨a, c, rfl⟩ := B2.shape
      exact ⟨_, _, _, rfl⟩
    obtain ⟨z, hz⟩ : ∃ z, z = ((UInt8.ofNat (n / 256 ^ j % 256)).toNat : Int) := ⟨_, rfl⟩
    rw [← hz] at hlb hap
    have hfz : fillC [.int .u8 0] [(0, 1, .int .u8 z)] = some [.int .u8 z] := rfl
    have hkk : IntKind.i64.wrap ((J : Int) - 8) = 56 - 8 * ((k + 1 : Nat) : Int) := by rw [i64_small (by omega) (by omega)]; omega
    have hroz : rowObj (.cells [.int .u8 z] true 1) 0 1 = some [.int .u8 z] := rfl
    simp (disch := first|omega|(simp only [np,ns];try omega)) [e0, e3, e5, e6', hge, hge', hmin, hlb, hfz, hroz, hap, hkk]
    exact ⟨by omega, pa, pn, pc, B2, rfl, rfl, rfl⟩
  · obtain rfl : k = 8 := by omega
    rw [List.take_of_length_le (by rw [be8_len]; omega)] at B
    have hgx : g.get h.n = .cells (u8s l) true 1 := (B.fr.get _ (by simp) (by simp)).trans (VH.get_push_new _ _)
    have hx : IsBytes g (.slice (some ⟨h.n, 0, none⟩) 32 32) l := isB_fr B.fr (box_b hl.symm)
    have hxs := hx.src
    obtain ⟨w, G, hap, B2⟩ := B.append l (by rw [be8_len]; omega)
    rw [hl] at hap
    obtain ⟨pa, pn, pc, rfl⟩ : ∃ a n c, w = .slice a n c := by
      obtain ⟨a, c, rfl⟩ := B2.shape
      exact ⟨_, _, _, rfl⟩
    simp (disch := first|omega|(simp only [np,ns];try omega)) [r_audit_text, e0, e3, e5, e6, hgx, hl, hxs, hap]
    exact ⟨pa, pn, pc, ⟨rfl, rfl, rfl⟩, Buf_fr (Fr_push (Fr.refl _ _)) B2⟩

/- audit, part D: a chain (the program): new, length, head, sub, put. -/

abbrev Ents := List (Value × Value × Nat)
abbrev Sbs := List (List UInt8 × List UInt8)
def sget (t : List UInt8) : Sbs → Option (List UInt8)
  | [] => none
  | p :: r => if t = p.1 then some p.2 else sget t r
def sput (t d : List UInt8) : Sbs → Sbs
  | [] => [(t, d)]
  | p :: r => if t = p.1 then (t, d) :: r else p :: sput t d r
/-- a map's entries: the tenants' digests. -/
def SubsR (es : Ents) (subs : Sbs) : Prop := es.map (fun e => (e.1, e.2.1)) = subs.map (fun p => (Value.string (strB p.1), digV p.2))
theorem keq_str {a b : List UInt8} : keq (.string (strB a)) (.string (strB b)) = decide (a = b) := rfl
theorem mget_subs {t : List UInt8} : ∀ {es : Ents} {subs : Sbs}, SubsR es subs → mget (.string (strB t)) es = (sget t subs).map digV
  | [], [], _ => rfl
  | [], p :: r, h => by simp [SubsR] at h
  | e :: r, [], h => by simp [SubsR] at h
  | e :: r, p :: q, h => by
    unfold SubsR at h
    rw [List.map_cons, List.map_cons] at h
    injection h with h1 h2
    injection h1 with h1 h3
    unfold mget sget
    rw [h1, h3, keq_str]
    by_cases hp : t = p.1
    · rw [decide_eq_true hp, if_pos rfl, if_pos hp]; rfl
    · rw [decide_eq_false hp, if_neg (by simp), if_neg hp]
      exact mget_subs h2
theorem mput_subs {t d : List UInt8} {c : Nat} : ∀ {es : Ents} {subs : Sbs}, SubsR es subs → SubsR (mput (.string (strB t)) (digV d) c es) (sput t d subs)
  | [], [], _ => rfl
  | [], p :: r, h => by simp [SubsR] at h
  | e :: r, [], h => by simp [SubsR] at h
  | e :: r, p :: q, h => by
    unfold SubsR at h
    rw [List.map_cons, List.map_cons] at h
    injection h with h1 h2
    injection h1 with h1 h3
    unfold mput sput
    rw [h1, keq_str]
    by_cases hp : t = p.1
    · rw [decide_eq_true hp, if_pos rfl, if_pos hp]
      unfold SubsR
      rw [List.map_cons, List.map_cons, h2]
    · rw [decide_eq_false hp, if_neg (by simp), if_neg hp]
      have ih := mput_subs (t := t) (d := d) (c := c) (es := r) (subs := q) h2
      unfold SubsR at ih ⊢
      rw [List.map_cons, List.map_cons, ih, h1, h3]
theorem keys_subs : ∀ {es : Ents} {subs : Sbs}, SubsR es subs → keysFit .s es = true
  | [], _, _ => rfl
  | e :: r, [], h => by simp [SubsR] at h
  | e :: r, p :: q, h => by
    unfold SubsR at h
    rw [List.map_cons, List.map_cons] at h
    injection h with h1 h2
    injection h1 with h1 h3
    have ih := keys_subs (es := r) (subs := q) h2
    unfold keysFit at ih ⊢
    rw [List.all_cons, ih, h1]; rfl

def chL (n : Nat) (l : List UInt8) (j : Nat) : List Value := .int .i64 (n : Int) :: (u8s l ++ [.map (some j)])
section
variable {n j : Nat} {l m : List UInt8} {ow : Bool} {e : Nat}
theorem chL_len (hl : l.length = 32) : (chL n l j).length = 34 := by simp [chL, hl]
theorem ch_ld0 : loadObj (.cells (chL n l j) ow e) 0 none = some (.int .i64 (n : Int)) := rfl
theorem ch_ldm (hl : l.length = 32) : loadObj (.cells (chL n l j) ow e) 33 none = some (.map (some j)) := by
  have : (chL n l j)[33]? = some (.map (some j)) := by
    unfold chL
    rw [List.getElem?_cons_succ, List.getElem?_append_right (by simp [hl])]
    simp [hl]
  simpa [loadObj] using this
theorem ch_drop (hl : l.length = 32) : ((chL n l j).drop 1).take 32 = u8s l := by
  unfold chL
  rw [List.drop_succ_cons, List.drop_zero, List.take_left' (by simp [hl])]
theorem ch_ldl (hl : l.length = 32) : loadObj (.cells (chL n l j) ow e) 1 (some 32) = some (digV l) := by
  simp only [loadObj]
  rw [if_pos (by rw [chL_len hl]; omega), ch_drop hl]
  rfl
theorem ch_st0 {k : Nat} : storeObj (.cells (chL n l j) true e) 0 1 (.int .i64 (k : Int)) = some (.cells (chL k l j) true e) := rfl
theorem ch_stl (hl : l.length = 32) (hm : m.length = 32) : storeObj (.cells (chL n l j) true e) 1 32 (digV m) = some (.cells (chL n m j) true e) := by
  have hw : wr (chL n l j) 1 (u8s m) = chL n m j := by
    unfold wr chL
    have h1 : 1 + (u8s m).length = ((u8s l).length) + 1 := by simp [hl, hm]
    rw [h1, List.drop_succ_cons, List.drop_left]
    rfl
  have ha : (u8s m).all Value.oneCell' = true := by simp [u8s, Value.oneCell']
  have hc : cellsL (digV m) = u8s m := rfl
  simp only [storeObj, hc]
  rw [if_pos ⟨by simp [hm], by rw [chL_len hl]; omega, ha⟩, hw]
theorem ch_row (hl : l.length = 32) : rowObj (.cells (chL n l j) ow e) 1 32 = some (u8s l) := by
  simp only [rowObj]
  rw [if_pos (by rw [chL_len hl]; omega), ch_drop hl]
end
structure Chain (h : VH) (i j n : Nat) (l : List UInt8) (subs : Sbs) : Prop where
  rec_ : h.get i = .cells (chL n l j) true 1
  map_ : ∃ es clk, h.get j = .map es clk true ∧ SubsR es subs
  ne : i ≠ j
  lti : i < h.n
  ltj : j < h.n
  ll : l.length = 32
theorem Chain.fr {h h' : VH} {i j n : Nat} {l : List UInt8} {subs : Sbs} (k : Chain h i j n l subs) (hf : Fr h h' []) : Chain h' i j n l subs := by
  obtain ⟨es, clk, h1, h2⟩ := k.map_
  exact ⟨by rw [hf.get i k.lti (by simp)]; exact k.rec_, ⟨es, clk, by rw [hf.get j k.ltj (by simp)]; exact h1, h2⟩, k.ne, Nat.lt_of_lt_of_le k.lti hf.n, Nat.lt_of_lt_of_le k.ltj hf.n, k.ll⟩
def zero32 : List UInt8 := List.replicate 32 0
theorem zero32_len : zero32.length = 32 := rfl

theorem new_ok (h : VH) : PCalls Try.prog f_audit_New [] h (fun u h' => u = .pointer (some ⟨h.n + 1, 0, none⟩) ∧ Chain h' (h.n + 1) h.n 0 zero32 [] ∧ Fr h h' []) := by
  refine PCalls_of_pw st_audit_New (by simp [n_audit_New]) ?_
  rw [b_audit_New]
  have hf : ∀ z, fillC ((Value.int .i64 0) :: ([.int .u8 0, .int .u8 0, .int .u8 0, .int .u8 0, .int .u8 0, .int .u8 0, .int .u8 0, .int .u8 0, .int .u8 0, .int .u8 0, .int .u8 0, .int .u8 0, .int .u8 0, .int .u8 0, .int .u8 0, .int .u8 0, .int .u8 0, .int .u8 0, .int .u8 0, .int .u8 0, .int .u8 0, .int .u8 0, .int .u8 0, .int .u8 0, .int .u8 0, .int .u8 0, .int .u8 0, .int .u8 0, .int .u8 0, .int .u8 0, .int .u8 0, .int .u8 0] ++ [z])) [(33, 1, .map (some h.n))] = some (chL 0 zero32 h.n) := fun z => rfl
  have hf' := hf (.map none)
  simp only [List.cons_append, List.nil_append] at hf'
  have hc : cellsL (.agg (chL 0 zero32 h.n).toArray) = chL 0 zero32 h.n := rfl
  have ha : (chL 0 zero32 h.n).all Value.oneCell' = true := rfl
  simp (disch := first|omega|(simp only [np,ns];try omega)) [r_audit_New, B_audit_New, hf', hc, ha]
  refine ⟨⟨?_, ⟨[], 0, ?_, rfl⟩, by omega, by simp, by simp; omega, rfl⟩, ?_⟩
  · exact VH.get_push_at (by simp)
  · rw [VH.get_push_lt _ _ (by simp), VH.get_push_new]
  · exact Fr_push (Fr_push (Fr.refl _ _))

theorem len_ok {h : VH} {i j n : Nat} {l : List UInt8} {subs : Sbs} (k : Chain h i j n l subs) : PCalls Try.prog f_audit_Chain_Len [.pointer (some ⟨i, 0, none⟩)] h (fun u h' => u = .int .i64 (n : Int) ∧ h' = h) := by
  refine PCalls_of_pw st_audit_Chain_Len (by simp [n_audit_Chain_Len]) ?_
  rw [b_audit_Chain_Len]
  simp (disch := first|omega|(simp only [np,ns];try omega)) [r_audit_Chain_Len, B_audit_Chain_Len, k.rec_, ch_ld0]

theorem head_ok {h : VH} {i j n : Nat} {l : List UInt8} {subs : Sbs} (k : Chain h i j n l subs) : PCalls Try.prog f_audit_Chain_Head [.pointer (some ⟨i, 0, none⟩)] h (fun u h' => u = digV (shaS (be8 n ++ l)) ∧ Fr h h' []) := by
  refine PCalls_of_pw st_audit_Chain_Head (by simp [n_audit_Chain_Head]) ?_
  rw [b_audit_Chain_Head]
  have hl := k.ll
  have h0 := k.rec_
  have h1 := k.lti
  have hl1 : ∀ {ow e}, loadObj (.cells (chL n l j) ow e) 1 (some 32) = some (digV l) := ch_ldl hl
  simp (disch := first|omega|(simp only [np,ns];try omega)) [B_audit_Chain_Head, h0, ch_ld0, hl1]
  refine (text_ok hl).mono ?_
  rintro u g ⟨a, m, c, rfl, B⟩
  simp (disch := first|omega|(simp only [np,ns];try omega)) []
  refine (sum_ok B.is (by simp [be8_len, hl])).mono ?_
  rintro u g2 ⟨rfl, rfl⟩
  have hgz := (B.fr.get h.n (by simp) (by simp)).trans (VH.get_push_new _ _)
  obtain ⟨X, hX⟩ : ∃ X, X = shaS (be8 n ++ l) := ⟨_, rfl⟩
  have hXl : X.length = 32 := by rw [hX]; exact shaS_len _
  rw [← hX]
  have hds : storeObj (.cells [.int .u8 0, .int .u8 0, .int .u8 0, .int .u8 0, .int .u8 0, .int .u8 0, .int .u8 0, .int .u8 0, .int .u8 0, .int .u8 0, .int .u8 0, .int .u8 0, .int .u8 0, .int .u8 0, .int .u8 0, .int .u8 0, .int .u8 0, .int .u8 0, .int .u8 0, .int .u8 0, .int .u8 0, .int .u8 0, .int .u8 0, .int .u8 0, .int .u8 0, .int .u8 0, .int .u8 0, .int .u8 0, .int .u8 0, .int .u8 0, .int .u8 0, .int .u8 0] true 1) 0 32 (digV X) = some (.cells (u8s X) true 1) := dig_store hXl rfl
  have hdl : loadObj (.cells (u8s X) true 1) 0 (some 32) = some (digV X) := dig_load hXl
  simp (disch := first|omega|(simp only [np,ns];try omega)) [r_audit_Chain_Head, hgz, hds, hdl]
  exact Fr_set ((Fr_push (Fr.refl _ _)).trans B.fr) (Nat.le_refl _)

theorem sget_len {t : List UInt8} : ∀ {subs : Sbs}, (∀ p ∈ subs, p.2.length = 32) → ((sget t subs).getD zero32).length = 32
  | [], _ => rfl
  | p :: r, h => by
    unfold sget
    by_cases hp : t = p.1
    · rw [if_pos hp]; exact h p (List.mem_cons_self ..)
    · rw [if_neg hp]; exact sget_len (fun q hq => h q (List.mem_cons_of_mem _ hq))
theorem sput_len {t d : List UInt8} (hd : d.length = 32) : ∀ {subs : Sbs}, (∀ p ∈ subs, p.2.length = 32) → ∀ p ∈ sput t d subs, p.2.length = 32
  | [], _, p, hp => by simp [sput] at hp; subst hp; exact hd
  | x :: r, h, p, hp => by
    unfold sput at hp
    by_cases hx : t = x.1
    · rw [if_pos hx] at hp
      rcases List.mem_cons.1 hp with rfl | hp
      · exact hd
      · exact h p (List.mem_cons_of_mem _ hp)
    · rw [if_neg hx] at hp
      rcases List.mem_cons.1 hp with rfl | hp
      · exact h _ (List.mem_cons_self ..)
      · exact sput_len hd (fun q hq => h q (List.mem_cons_of_mem _ hq)) p hp
theorem sub_ok {h : VH} {i j n : Nat} {l t : List UInt8} {subs : Sbs} (k : Chain h i j n l subs) (hs : ∀ p ∈ subs, p.2.length = 32) : PCalls Try.prog f_audit_Chain_Sub [.pointer (some ⟨i, 0, none⟩), .string (strB t)] h
    (fun u h' => u = .tuple #[digV ((sget t subs).getD zero32), .bool (sget t subs).isSome] ∧ Fr h h' []) := by
  refine PCalls_of_pw st_audit_Chain_Sub (by simp [n_audit_Chain_Sub]) ?_
  rw [b_audit_Chain_Sub]
  have hl := k.ll
  have h0 := k.rec_
  have h1 := k.lti
  have h2 := k.ltj
  obtain ⟨es, clk, hm, hr⟩ := k.map_
  have hk := keys_subs hr
  have hg := mget_subs (t := t) hr
  have hfit : fitK .s (.string (strB t)) = true := rfl
  have hlm : ∀ {ow e}, loadObj (.cells (chL n l j) ow e) 33 none = some (.map (some j)) := ch_ldm hl
  obtain ⟨D, hD⟩ : ∃ D, D = (sget t subs).getD zero32 := ⟨_, rfl⟩
  have hDl : D.length = 32 := by rw [hD]; exact sget_len hs
  have hmv : mval true (.agg #[.int .u8 0, .int .u8 0, .int .u8 0, .int .u8 0, .int .u8 0, .int .u8 0, .int .u8 0, .int .u8 0, .int .u8 0, .int .u8 0, .int .u8 0, .int .u8 0, .int .u8 0, .int .u8 0, .int .u8 0, .int .u8 0, .int .u8 0, .int .u8 0, .int .u8 0, .int .u8 0, .int .u8 0, .int .u8 0, .int .u8 0, .int .u8 0, .int .u8 0, .int .u8 0, .int .u8 0, .int .u8 0, .int .u8 0, .int .u8 0, .int .u8 0, .int .u8 0]) ((sget t subs).map digV) = .tuple #[digV D, .bool (sget t subs).isSome] := by
    rw [hD]
    cases sget t subs <;> rfl
  rw [← hD]
  obtain ⟨Z, hZ⟩ : ∃ Z, Z = (sget t subs).isSome := ⟨_, rfl⟩
  rw [← hZ] at hmv ⊢
  have hds : ∀ f, storeObj (.cells (tab 32 f) true 1) 0 32 (digV D) = some (.cells (u8s D) true 1) := fun f => dig_store hDl (by simp)
  have hds' : storeObj (.cells [.int .u8 0, .int .u8 0, .int .u8 0, .int .u8 0, .int .u8 0, .int .u8 0, .int .u8 0, .int .u8 0, .int .u8 0, .int .u8 0, .int .u8 0, .int .u8 0, .int .u8 0, .int .u8 0, .int .u8 0, .int .u8 0, .int .u8 0, .int .u8 0, .int .u8 0, .int .u8 0, .int .u8 0, .int .u8 0, .int .u8 0, .int .u8 0, .int .u8 0, .int .u8 0, .int .u8 0, .int .u8 0, .int .u8 0, .int .u8 0, .int .u8 0, .int .u8 0] true 1) 0 32 (digV D) = some (.cells (u8s D) true 1) := dig_store hDl rfl
  have hdl : loadObj (.cells (u8s D) true 1) 0 (some 32) = some (digV D) := dig_load hDl
  simp (disch := first|omega|(simp only [np,ns];try omega)) [r_audit_Chain_Sub, B_audit_Chain_Sub, h0, hlm, hm, hk, hg, hfit, hmv, hds, hds', hdl]
  repeat first | exact Fr.refl _ _ | refine Fr_push ?_ | refine Fr_set ?_ (by simp; try omega)

theorem put_ok {h : VH} {i j n : Nat} {l t : List UInt8} {subs : Sbs} {v : Value} {bs : List UInt8} (k : Chain h i j n l subs) (hb : IsBytes h v bs) (hv : ∀ x ∈ idOf v, x ≠ i) (hn : n < 4611686018427387904) (hbl : bs.length ≤ 1000000000) :
    PCalls Try.prog f_audit_Chain_put [.pointer (some ⟨i, 0, none⟩), .string (strB t), v] h (fun u h' => Chain h' i j (n + 1) (shaS (l ++ bs)) (sput t (shaS bs) subs) ∧ Fr h h' [i, j]) := by
  refine PCalls_of_pw st_audit_Chain_put (by simp [n_audit_Chain_put]) ?_
  rw [b_audit_Chain_put]
  have hl := k.ll
  have h0 := k.rec_
  have h1 := k.lti
  have h2 := k.ltj
  have hne := k.ne
  obtain ⟨es, clk, hm, hr⟩ := k.map_
  obtain ⟨va, vc, rfl⟩ := hb.shape
  obtain ⟨L, hL⟩ : ∃ L, L = bs.length := ⟨_, rfl⟩
  rw [← hL] at hb hv ⊢
  have hrow : ∀ (p : Option Addr) (q r : Nat), fillC [.slice none 0 0, .slice none 0 0] [(0, 1, .slice (some ⟨i, 1, none⟩) 32 32), (1, 1, .slice p q r)] = some [.slice (some ⟨i, 1, none⟩) 32 32, .slice p q r] := fun p q r => rfl
  have hone : ∀ (p : Option Addr) (q r : Nat), ([Value.slice (some ⟨i, 1, none⟩) 32 32, .slice p q r]).all Value.oneCell' = true := fun p q r => rfl
  have h34 : (chL n l j).length = 34 := chL_len hl
  simp (disch := first|omega|(simp only [np,ns];try omega)) [B_audit_Chain_put, h0, h34, hrow, hone]
  have hlk : IsBytes h (.slice (some ⟨i, 1, none⟩) 32 32) l := by
    have := BytesAt.is (h := h) (i := i) (o := 1) (c := 32) (bs := l) h1 (by omega) ⟨_, _, h0, by rw [h34]; omega, by rw [hl]; exact ch_drop hl⟩
    rw [hl] at this
    exact this
  refine (joined2_ok hlk hb (by omega)).mono ?_
  rintro u g ⟨a, m, c, rfl, B⟩
  simp (disch := first|omega|(simp only [np,ns];try omega)) []
  refine (sum_ok B.is (by simp; omega)).mono ?_
  rintro u g2 ⟨rfl, rfl⟩
  have e0 := (B.fr.get i h1 (by simp)).trans h0
  obtain ⟨X, hX⟩ : ∃ X, X = shaS (l ++ bs) := ⟨_, rfl⟩
  have hXl : X.length = 32 := by rw [hX]; exact shaS_len _
  rw [← hX]
  have hst : storeObj (.cells (chL n l j) true 1) 1 32 (digV X) = some (.cells (chL n X j) true 1) := ch_stl hl hXl
  have hlm : ∀ {ow e}, loadObj (.cells (chL n X j) ow e) 33 none = some (.map (some j)) := ch_ldm hXl
  obtain ⟨g3, hg3⟩ : ∃ g3, g3 = g2.set i (.cells (chL n X j) true 1) := ⟨_, rfl⟩
  have e3 : g3.get i = .cells (chL n X j) true 1 := by rw [hg3, VH.get_set_same]
  simp (disch := first|omega|(simp only [np,ns];try omega)) [e0, hst, ← hg3, e3, hlm]
  have F23 : Fr g2 g3 [i] := by rw [hg3]; exact Fr.set _ _ (by simp)
  have hb3 : IsBytes g3 (.slice va L vc) bs := (isB_fr B.fr hb).fr F23 (fun x hx => by simp; exact hv x hx)
  refine (sum_ok hb3 (by omega)).mono ?_
  rintro u g4 ⟨rfl, rfl⟩
  have m3 : g4.get j = .map es clk true := by
    rw [F23.get _ (by have := B.fr.n; omega) (by simp; omega), B.fr.get _ h2 (by simp)]; exact hm
  have n3 := F23.n
  have hk := keys_subs hr
  have hfit : fitK .s (.string (strB t)) = true := rfl
  obtain ⟨N, hN⟩ : ∃ N, N = n + 1 := ⟨_, rfl⟩
  have hsum : IntKind.i64.wrap ((n : Int) + 1) = (N : Int) := by rw [i64_small (by omega) (by omega)]; omega
  rw [← hN]
  have hji : j ≠ i := fun e => hne e.symm
  simp (disch := first|omega|(simp only [np,ns];try omega)) [r_audit_Chain_put, e3, hlm, m3, hk, hfit, hne, hji, ch_ld0, hsum, ch_st0]
  have nn : h.n ≤ g4.n := Nat.le_trans B.fr.n n3
  refine ⟨⟨VH.get_set_same _ _ _, ⟨mput (.string (strB t)) (digV (shaS bs)) clk es, mtick (.string (strB t)) clk es, ?_, mput_subs hr⟩, hne, by simp; omega, by simp; omega, hXl⟩, ?_⟩
  · rw [VH.get_set_ne _ _ hji, VH.get_set_same]
  · have f1 : Fr h g4 [i, j] := (B.fr.sub (by simp)).trans (F23.sub (by simp))
    exact (f1.trans (Fr.set _ _ (by simp))).trans (Fr.set _ _ (by simp))

/- audit, part E: a number is put (the program), an entry is added. -/

theorem wr_next {l : List UInt8} {x : Value} {R : List Value} {b : UInt8} : wr (u8s l ++ x :: R) (0 + l.length * 1) [.int .u8 (b.toNat : Int)] = u8s (l ++ [b]) ++ R := by
  unfold wr
  have h1 : 0 + l.length * 1 = (u8s l).length := by simp
  rw [h1, List.take_left, List.length_singleton]
  have h2 : (u8s l).length + 1 = (u8s l ++ [x]).length := by simp
  rw [h2, show u8s l ++ x :: R = (u8s l ++ [x]) ++ R by simp, List.drop_left, u8s_append]
  rfl

set_option maxHeartbeats 4000000 in
theorem room_ok {h : VH} {i : Nat} {ds : List Value} (hi : i < h.n) (hg0 : h.get i = .cells ds true 1) (hds : ds.length = 10) {n : Nat} (hn : n < 18446744073709551616) :
    PCalls Try.prog f_wire_grown [.slice (some ⟨i, 0, none⟩) 0 10, .int .u64 (n : Int)] h (fun u h' => u = .slice (some ⟨i, 0, none⟩) (varint n).length 10 ∧ Fr h h' [i] ∧ ∃ R, h'.get i = .cells (u8s (varint n) ++ R) true 1 ∧ (varint n).length ≤ 10) := by
  refine PCalls_of_pw st_wire_grown (by simp [n_wire_grown]) ?_
  rw [b_wire_grown]
  simp (disch := first|omega|(simp only [np,ns];try omega)) [B_wire_grown]
  refine pw_loopN (fun k s g => ∃ (l' : List UInt8) (n' : Nat) (R : List Value), s 0 = .slice (some ⟨i, 0, none⟩) k 10 ∧ s 1 = .int .u64 (n' : Int) ∧ Fr h g [i] ∧ g.get i = .cells (u8s l' ++ R) true 1 ∧ k + R.length = 10 ∧ varint n = l' ++ varint n' ∧ n' < 2 ^ (70 - 7 * k) ∧ n' < 18446744073709551616 ∧ l'.length = k) 10 ?_ ?_
  · exact ⟨[], n, ds, by simp [upd_apply, s0_apply], by simp [upd_apply, s0_apply], Fr.refl _ _, hg0, by omega, rfl, by omega, hn, rfl⟩
  · rintro k s g hk ⟨l', n', R, h0', h1, hf, hg, hR, he, hlt, hn', hll⟩
    have hk10 : k < 10 := by
      by_cases hk9 : k < 10
      · exact hk9
      · obtain rfl : k = 10 := by omega
        have h0 : n' = 0 := by simp at hlt; exact hlt
        subst h0
        have := congrArg List.length he
        have h10 := varint_len10 hn
        rw [List.length_append, hll, varint_lt (n := 0) (by omega)] at this
        simp at this
        omega
    obtain ⟨x, R', rfl⟩ : ∃ x R', R = x :: R' := by
      cases R with
      | nil => simp at hR; omega
      | cons x r => exact ⟨_, _, rfl⟩
    have hroom : ∀ (b : UInt8), appendV (g.push (.cells [.int .u8 (b.toNat : Int)] true 1)) 1 1 (.slice (some ⟨i, 0, none⟩) k 10) [.int .u8 (b.toNat : Int)] 1 = some (.slice (some ⟨i, 0, none⟩) (k + 1) 10, (g.push (.cells [.int .u8 (b.toNat : Int)] true 1)).set i (.cells (u8s (l' ++ [b]) ++ R') true 1)) := by
      intro b
      rw [appendV_room (k := 1) (cs := u8s l' ++ x :: R') (by omega) (by rw [VH.get_push_lt _ _ (by have := hf.n; omega)]; exact hg) (by simp at hR ⊢; omega) (by omega) (by simp at hR ⊢; omega)]
      rw [← hll, wr_next]
    have hrow : ∀ x, rowObj (.cells [x] true 1) 0 1 = some [x] := fun x => rfl
    have hfr : ∀ b : UInt8, Fr h ((g.push (.cells [.int .u8 (b.toNat : Int)] true 1)).set i (.cells (u8s (l' ++ [b]) ++ R') true 1)) [i] := fun b => (hf.trans (Fr.push _ _ _)).trans (Fr.set _ _ (by simp))
    by_cases hg' : 127 < n'
    · have hgI : (127 : Int) < (n' : Int) := by omega
      have hgN : ¬ n' < 128 := by omega
      obtain ⟨C, hC⟩ : ∃ C, C = UInt8.ofNat (n' % 128 + 128) := ⟨_, rfl⟩
      obtain ⟨D, hD⟩ : ∃ D, D = UInt8.ofNat n' := ⟨_, rfl⟩
      have hw1 : IntKind.u8.wrap (n' : Int) = (D.toNat : Int) := by rw [hD]; exact u8_wrapN n'
      have hw2 : Go.bits .or .u8 (D.toNat : Int) 128 = (C.toNat : Int) := by rw [or128, hD, or128_eq, hC]
      have hfill : fillC [.int .u8 0] [(0, 1, .int .u8 (C.toNat : Int))] = some [.int .u8 (C.toNat : Int)] := fill1 rfl
      have hone : [Value.int .u8 (C.toNat : Int)].all Value.oneCell' = true := rfl
      have hap := hroom C
      obtain ⟨G, hG⟩ : ∃ G, G = (g.push (.cells [.int .u8 (C.toNat : Int)] true 1)).set i (.cells (u8s (l' ++ [C]) ++ R') true 1) := ⟨_, rfl⟩
      have hGg : G.get i = .cells (u8s (l' ++ [C]) ++ R') true 1 := by rw [hG, VH.get_set_same]
      have hGf : Fr h G [i] := by rw [hG]; exact hfr C
      rw [← hG] at hap
      obtain ⟨k1, hk1⟩ : ∃ k1, k1 = k + 1 := ⟨_, rfl⟩
      rw [← hk1] at hap
      simp (disch := first|omega|(simp only [np,ns];try omega)) [h0', h1, hgI, hg', shr7, hw1, hw2, hfill, hone, hrow, hap]
      refine ⟨hk10, hk1, l' ++ [C], n' / 128, by omega, hGf, R', hGg, ?_, ?_, ?_, by omega, by simp; omega⟩
      · simp at hR; omega
      · rw [he, varint_ge hgN, hC]; simp
      · rw [show 70 - 7 * k = 7 + (70 - 7 * (k + 1)) by omega, Nat.pow_add] at hlt
        exact Nat.div_lt_of_lt_mul (by omega)
    · have hgI : ¬ (127 : Int) < (n' : Int) := by omega
      have hgN : n' < 128 := by omega
      obtain ⟨D, hD⟩ : ∃ D, D = UInt8.ofNat n' := ⟨_, rfl⟩
      have hw1 : IntKind.u8.wrap (n' : Int) = (D.toNat : Int) := by rw [hD]; exact u8_wrapN n'
      have hfill : fillC [.int .u8 0] [(0, 1, .int .u8 (D.toNat : Int))] = some [.int .u8 (D.toNat : Int)] := fill1 rfl
      have hone : [Value.int .u8 (D.toNat : Int)].all Value.oneCell' = true := rfl
      have hap := hroom D
      have hv : varint n = l' ++ [D] := by rw [he, varint_lt hgN, hD]
      have hvl : (varint n).length = k + 1 := by rw [hv]; simp; omega
      obtain ⟨k1, hk1⟩ : ∃ k1, k1 = k + 1 := ⟨_, rfl⟩
      obtain ⟨G, hG⟩ : ∃ G, G = (g.push (.cells [.int .u8 (D.toNat : Int)] true 1)).set i (.cells (u8s (l' ++ [D]) ++ R') true 1) := ⟨_, rfl⟩
      have hGg : G.get i = .cells (u8s (l' ++ [D]) ++ R') true 1 := by rw [hG, VH.get_set_same]
      have hGf : Fr h G [i] := by rw [hG]; exact hfr D
      rw [← hG, ← hk1] at hap
      rw [hvl, ← hk1]
      simp (disch := first|omega|(simp only [np,ns];try omega)) [r_wire_grown, h0', h1, hgI, hg', shr7, hw1, hfill, hone, hrow, hap]
      exact ⟨hGf, ⟨R', by rw [hv]; exact hGg⟩, by omega⟩

set_option maxHeartbeats 4000000 in
theorem wput_ok {h : VH} {n : Nat} (hn : n < 18446744073709551616) : PCalls Try.prog f_wire_Put [.slice none 0 0, .int .u64 (n : Int)] h
    (fun u h' => ∃ a k c, u = .slice a k c ∧ k = (varint n).length ∧ IsBytes h' (.slice a k c) (varint n) ∧ Fr h h' []) := by
  refine PCalls_of_pw st_wire_Put (by simp [n_wire_Put]) ?_
  rw [b_wire_Put]
  have hap : ∀ (g : VH) (p : Option Addr) (a b : Nat), appendV g 1 1 (.slice p a b) [] 0 = some (.slice p a b, g) := fun _ _ _ _ => rfl
  simp (disch := first|omega|(simp only [np,ns];try omega)) [B_wire_Put, hap]
  refine (room_ok (i := h.n) (ds := madeRow [.int .u8 0] 10) (by simp) (VH.get_push_new _ _) (by decide) hn).mono ?_
  rintro u g ⟨rfl, hf, R, hg, hl⟩
  simp (disch := first|omega|(simp only [np,ns];try omega)) [r_wire_Put]
  refine ⟨_, _, _, ⟨rfl, rfl, rfl⟩, rfl, BytesAt.is (by have := hf.n; simp at this; omega) hl ⟨_, _, hg, by simp, by simp [List.take_left']⟩, ?_⟩
  exact (Fr_push (Fr.refl _ _)).trans' hf (fun y hy => .inr (by simp at hy; omega))

theorem nameS_len {t : List UInt8} (h : nameS t = true) : t.length ≤ 32 := by
  unfold nameS at h
  simp only [Bool.and_eq_true, decide_eq_true_eq] at h
  omega
theorem wrongS_ok {e : En} (h : wrongS e = 0) : (e.t = [] ∨ nameS e.t = true) ∧ e.t.length ≤ 32 ∧ 0 ≤ e.at_ ∧ e.at_ ≤ 1125899906842624 ∧ e.w.length ≤ 32 ∧ e.b.length ≤ 65536 := by
  unfold wrongS at h
  by_cases h1 : e.t ≠ [] ∧ nameS e.t = false
  · rw [if_pos h1] at h; exact absurd h (by decide)
  rw [if_neg h1] at h
  by_cases h2 : e.at_ < 0 ∨ 1125899906842624 < e.at_
  · rw [if_pos h2] at h; exact absurd h (by decide)
  rw [if_neg h2] at h
  by_cases h3 : e.w.length < 1 ∨ 32 < e.w.length
  · rw [if_pos h3] at h; exact absurd h (by decide)
  rw [if_neg h3] at h
  by_cases h4 : e.w.all visC = false
  · rw [if_pos h4] at h; exact absurd h (by decide)
  rw [if_neg h4] at h
  by_cases h5 : 65536 < e.b.length
  · rw [if_pos h5] at h; exact absurd h (by decide)
  have ht : e.t = [] ∨ nameS e.t = true := by
    by_cases h0 : e.t = []
    · exact .inl h0
    · refine .inr ?_
      cases hn : nameS e.t with
      | true => rfl
      | false => exact absurd ⟨h0, hn⟩ h1
  refine ⟨ht, ?_, by omega, by omega, by omega, by omega⟩
  rcases ht with h0 | h0
  · rw [h0]; simp
  · exact nameS_len h0
theorem writeS_le (fs : List Wr.Fd) : (writeS fs).1.length ≤ 1048576 := by
  unfold writeS
  split
  · simp
  · split
    · simp
    · split
      · simp
      · simp only; omega
theorem bytesS_le (e : En) (a : List UInt8) : (bytesS e a).length ≤ 1048576 := writeS_le _

def frameS (bs : List UInt8) : List UInt8 := varint bs.length ++ bs
def aheadS (subs : Sbs) (t : List UInt8) : List UInt8 := (sget t subs).getD zero32

def AddP (h : VH) (i j n : Nat) (l : List UInt8) (subs : Sbs) (e : En) (u : Value) (h' : VH) : Prop :=
  if wrongS e ≠ 0 then u = .tuple #[.slice none 0 0, .int .i64 (wrongS e)] ∧ Fr h h' [] else
  ∃ a m c, u = .tuple #[.slice a m c, .int .i64 0] ∧ OwnSl h' 1 (.slice a m c) (u8s (frameS (bytesS e (aheadS subs e.t)))) (frameS (bytesS e (aheadS subs e.t))).length ∧ (∀ x ∈ idOf (.slice a m c), h.n ≤ x) ∧
    Chain h' i j (n + 1) (shaS (l ++ bytesS e (aheadS subs e.t))) (sput e.t (shaS (bytesS e (aheadS subs e.t))) subs) ∧ Fr h h' [i, j]

set_option maxHeartbeats 4000000 in
theorem add_ok {h : VH} {i j n : Nat} {l : List UInt8} {subs : Sbs} {e : En} {v : Value} (k : Chain h i j n l subs) (hs : ∀ p ∈ subs, p.2.length = 32) (hb : IsBytes h v e.b) (ht : e.t.length ≤ 140737488355328) (hw : e.w.length ≤ 140737488355328) (hbl : e.b.length ≤ 140737488355328) (hn : n < 4611686018427387904) :
    PCalls Try.prog f_audit_Chain_Add [.pointer (some ⟨i, 0, none⟩), enV e v] h (AddP h i j n l subs e) := by
  refine PCalls_of_pw st_audit_Chain_Add (by simp [n_audit_Chain_Add]) ?_
  rw [b_audit_Chain_Add]
  obtain ⟨va, vc, rfl⟩ := hb.shape
  obtain ⟨N, hN⟩ : ∃ N, N = e.b.length := ⟨_, rfl⟩
  rw [← hN] at hb ⊢
  obtain ⟨W, hW⟩ : ∃ W, W = wrongS e := ⟨_, rfl⟩
  have hP0 : W ≠ 0 → ∀ g, Fr h g [] → AddP h i j n l subs e (.tuple #[.slice none 0 0, .int .i64 W]) g := by
    intro h0 g hf
    unfold AddP
    rw [← hW, if_pos h0]
    exact ⟨rfl, hf⟩
  have hl := k.ll
  have h1 := k.lti
  have h2 := k.ltj
  obtain ⟨es, clk, hm, hr⟩ := k.map_
  have hk := keys_subs hr
  have hgt := mget_subs (t := e.t) hr
  have hfit : fitK .s (.string (strB e.t)) = true := rfl
  have hlm : ∀ {ow e}, loadObj (.cells (chL n l j) ow e) 33 none = some (.map (some j)) := ch_ldm hl
  have hAl : (aheadS subs e.t).length = 32 := sget_len hs
  have hmv : mval false (.agg #[.int .u8 0, .int .u8 0, .int .u8 0, .int .u8 0, .int .u8 0, .int .u8 0, .int .u8 0, .int .u8 0, .int .u8 0, .int .u8 0, .int .u8 0, .int .u8 0, .int .u8 0, .int .u8 0, .int .u8 0, .int .u8 0, .int .u8 0, .int .u8 0, .int .u8 0, .int .u8 0, .int .u8 0, .int .u8 0, .int .u8 0, .int .u8 0, .int .u8 0, .int .u8 0, .int .u8 0, .int .u8 0, .int .u8 0, .int .u8 0, .int .u8 0, .int .u8 0]) ((sget e.t subs).map digV) = digV (aheadS subs e.t) := by
    unfold aheadS
    cases sget e.t subs <;> rfl
  have hcell : cellsL (enV e (.slice va N vc)) = [.string (strB e.t), .int .i64 e.at_, .string (strB e.w), .slice va N vc] := rfl
  obtain ⟨g0, hg0⟩ : ∃ g0, g0 = h.push (.cells [.string (strB e.t), .int .i64 e.at_, .string (strB e.w), .slice va N vc] true 1) := ⟨_, rfl⟩
  have F0 : Fr h g0 [] := by rw [hg0]; exact Fr_push (Fr.refl _ _)
  have c0 : g0.get h.n = .cells [.string (strB e.t), .int .i64 e.at_, .string (strB e.w), .slice va N vc] true 1 := by rw [hg0, VH.get_push_new]
  have n0 : h.n < g0.n := by rw [hg0]; simp
  have hlden : loadObj (.cells [.string (strB e.t), .int .i64 e.at_, .string (strB e.w), .slice va N vc] true 1) 0 (some 4) = some (enV e (.slice va N vc)) := rfl
  have k0 := k.fr F0
  have e0 := k0.rec_
  have em0 := (F0.get j h2 (by simp)).trans hm
  simp (disch := first|omega|(simp only [np,ns];try omega)) [B_audit_Chain_Add, hcell, en_all, ← hg0, c0, hlden]
  refine (wrong_ok ht (isB_fr F0 hb) (by omega) (by omega)).mono ?_
  rintro u g ⟨rfl, rfl⟩
  rw [← hW]
  by_cases h0 : W = 0
  · have hWb : (W != 0) = false := by rw [h0]; rfl
    have hw0 : wrongS e = 0 := by rw [← hW]; exact h0
    obtain ⟨w1, w2, w3, w4, w5, w6⟩ := wrongS_ok hw0
    simp (disch := first|omega|(simp only [np,ns];try omega)) [hWb, c0, hlden, e0, em0, hlm, hk, hfit, hgt, hmv, ld4_0]
    refine (ebytes_ok (isB_fr F0 hb) hAl (by omega) (by omega) (by omega) w3 w4).mono ?_
    rintro u g1 ⟨a, m, c, rfl, B⟩
    obtain ⟨bs, hbs⟩ : ∃ b, b = bytesS e (aheadS subs e.t) := ⟨_, rfl⟩
    have hbsl : bs.length ≤ 1048576 := by rw [hbs]; exact bytesS_le _ _
    rw [← hbs] at B
    have hml : m = bs.length := by
      obtain ⟨a', c', h1⟩ := B.shape
      injection h1
    have c1 := (B.fr.get _ n0 (by simp)).trans c0
    simp (disch := first|omega|(simp only [np,ns];try omega)) [c1, ld4_0]
    have F1 := F0.trans B.fr
    refine (put_ok (k.fr F1) B.is (fun x hx => by have := B.ids x hx; omega) hn (by omega)).mono ?_
    rintro u g2 ⟨K2, F2⟩
    have c2 := (F2.get h.n (by have := B.fr.n; omega) (by simp; omega)).trans c1
    have hcv : IntKind.u64.wrap (m : Int) = (m : Int) := by rw [wrapN_u64, Nat.mod_eq_of_lt (by omega)]
    simp (disch := first|omega|(simp only [np,ns];try omega)) [hcv]
    refine (wput_ok (by omega)).mono ?_
    rintro u g3 ⟨pa, pn, pc, rfl, hpn, hpb, F3⟩
    have hrow : fillC [.slice none 0 0, .slice none 0 0] [(0, 1, .slice pa pn pc), (1, 1, .slice a m c)] = some [.slice pa pn pc, .slice a m c] := rfl
    have hone : ([Value.slice pa pn pc, .slice a m c]).all Value.oneCell' = true := rfl
    have hB2 : IsBytes g2 (.slice a m c) bs := B.is.fr F2 (fun x hx => by have := B.ids x hx; simp; omega)
    have hB3 := isB_fr F3 hB2
    simp (disch := first|omega|(simp only [np,ns];try omega)) [hrow, hone]
    refine (joined2_ok hpb hB3 (by have := varint_len10 (n := m) (by omega); omega)).mono ?_
    rintro u g4 ⟨ja, jn, jc, rfl, J⟩
    simp (disch := first|omega|(simp only [np,ns];try omega)) [r_audit_Chain_Add]
    unfold AddP
    rw [hw0, if_neg (by simp), ← hbs]
    have F34 := F3.trans J.fr
    refine ⟨ja, jn, jc, rfl, ?_, ?_, K2.fr F34, ?_⟩
    · have := J.own
      rw [hml] at this
      exact this
    · intro x hx
      have h5 := J.ids x hx
      have h6 := F1.n
      have h7 := F2.n
      have h8 := F3.n
      omega
    · have q1 : Fr h g1 [i, j] := F1.sub (by simp)
      have q2 := q1.trans F2
      exact q2.trans (F34.sub (by simp))
  · have hWb : (W != 0) = true := by simpa using h0
    simp (disch := first|omega|(simp only [np,ns];try omega)) [r_audit_Chain_Add, hWb]
    exact hP0 h0 _ F0
end Go.Proofs.Ytdnkpgbggpbgaaa.Au
