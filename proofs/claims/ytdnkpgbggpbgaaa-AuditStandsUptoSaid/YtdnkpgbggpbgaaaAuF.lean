/- audit, part F: a log is cut, an entry is read (the program). -/
import Derived.Test.YtdnkpgbggpbgaaaAuA
import Derived.Test.YtdnkpgbggpbgaaaWrN
set_option linter.unusedVariables false
set_option linter.unusedSimpArgs false
set_option maxRecDepth 100000
namespace Go.Proofs.Ytdnkpgbggpbgaaa.Au
open Go Go.RowKit Go.Proofs.Ytdnkpgbggpbgaaa.Pm Go.Proofs.Ytdnkpgbggpbgaaa.Fs Go.Proofs.Ytdnkpgbggpbgaaa.Wr Go.Proofs.Ytdnkpgbggpbgaaa.Sha



/-- a frame out of bytes: its text, the bytes taken, what is wrong. -/
def cutS (bs : List UInt8) : List UInt8 × Nat × Int :=
  if (getS 0 0 bs).2.2 = 8 then ([], 0, 8) else
  if (getS 0 0 bs).2.2 ≠ 0 ∨ (varint (getS 0 0 bs).1).length ≠ (getS 0 0 bs).2.1 ∨ 131072 < (getS 0 0 bs).1 then ([], 0, 3) else
  if bs.length - (getS 0 0 bs).2.1 < (getS 0 0 bs).1 then ([], 0, 8) else
  ((bs.drop (getS 0 0 bs).2.1).take (getS 0 0 bs).1, (getS 0 0 bs).2.1 + (getS 0 0 bs).1, 0)

def CutP (h : VH) (v : Value) (bs : List UInt8) (at_ : Nat) (u : Value) (h' : VH) : Prop :=
  Fr h h' [] ∧ ∃ a n c, u = .tuple #[.slice a n c, .int .i64 (if (cutS (bs.drop at_)).2.2 = 0 then ((at_ + (cutS (bs.drop at_)).2.1 : Nat) : Int) else 0), .int .i64 (cutS (bs.drop at_)).2.2] ∧
    IsBytes h' (.slice a n c) (cutS (bs.drop at_)).1 ∧ ∀ x ∈ idOf (.slice a n c), x ∈ idOf v

set_option maxHeartbeats 4000000 in
theorem cut_ok {h : VH} {v : Value} {bs : List UInt8} (hb : IsBytes h v bs) {at_ : Nat} (ha : at_ < bs.length) (hlen : bs.length ≤ 1000000000) :
    PCalls Try.prog f_audit_cut [v, .int .i64 (at_ : Int)] h (CutP h v bs at_) := by
  refine PCalls_of_pw st_audit_cut (by simp [n_audit_cut]) ?_
  rw [b_audit_cut]
  obtain ⟨i, o, c, hi, hc, rfl, hat⟩ := nil_at hb (by omega)
  obtain ⟨L, hL⟩ : ∃ L, L = bs.length := ⟨_, rfl⟩
  rw [← hL]
  rw [← hL] at hb
  have herr : ∀ (e : Int) (g : VH), e ≠ 0 → cutS (bs.drop at_) = ([], 0, e) → Fr h g [] → CutP h (.slice (some ⟨i, o, none⟩) L c) bs at_ (.tuple #[.slice none 0 0, .int .i64 0, .int .i64 e]) g := by
    intro e g he hr hf
    refine ⟨hf, none, 0, 0, by rw [hr, if_neg he], by rw [hr]; exact .inl ⟨rfl, rfl⟩, by simp [idOf]⟩
  simp (disch := first|omega|(simp only [np,ns];try omega)) [B_audit_cut]
  refine (get_ok hb (by omega) hlen).mono ?_
  rintro u g ⟨rfl, rfl⟩
  obtain ⟨T, hT⟩ : ∃ T, T = bs.drop at_ := ⟨_, rfl⟩
  have hTl : T.length = L - at_ := by rw [hT, hL]; simp
  have hcut : ∀ q, q = getS 0 0 T → cutS T = if q.2.2 = 8 then ([], 0, 8) else if q.2.2 ≠ 0 ∨ (varint q.1).length ≠ q.2.1 ∨ 131072 < q.1 then ([], 0, 3) else if T.length - q.2.1 < q.1 then ([], 0, 8) else ((T.drop q.2.1).take q.1, q.2.1 + q.1, 0) := by
    rintro q rfl; rfl
  rw [← hT] at herr ⊢
  obtain ⟨s1, s2, s3⟩ := getS_spec T 0 0 (by omega) (by omega)
  generalize getS 0 0 T = q at hcut s1 s2 s3 ⊢
  have hcut := hcut q rfl
  obtain ⟨n, k, e⟩ := q
  simp only at hcut s1 s2 s3 ⊢
  by_cases h8 : e = 8
  · have h8b : (e == 8) = true := by simpa using h8
    have h80 : ¬ e = 0 := by omega
    rw [if_pos h8] at hcut
    simp (disch := first|omega|(simp only [np,ns];try omega)) [r_audit_cut, h8b, h8]
    exact herr 8 _ (by decide) hcut (Fr.refl _ _)
  have h8b : (e == 8) = false := by simpa using h8
  rw [if_neg h8] at hcut
  by_cases h0 : e = 0
  · subst h0
    have hk := s2 rfl
    have hm1 : IntKind.i64.wrap (((at_ + k : Nat) : Int) - (at_ : Int)) = (k : Int) := by rw [i64_small (by omega) (by omega)]; omega
    obtain ⟨A, hA⟩ : ∃ A, A = at_ + k := ⟨_, rfl⟩
    rw [← hA] at hm1
    rw [← hA]
    simp (disch := first|omega|(simp only [np,ns];try omega)) [hm1]
    refine (wput_ok s1).mono ?_
    rintro u g1 ⟨pa, pn, pc, rfl, hpn, hpb, F1⟩
    rw [← hpn] at hcut
    by_cases hv : pn = k
    · have hvb : ((pn : Int) != (k : Int)) = false := by rw [hv]; simp
      by_cases hbig : 131072 < n
      · have hbigI : (131072 : Int) < (n : Int) := by omega
        rw [if_pos (.inr (.inr hbig))] at hcut
        simp (disch := first|omega|(simp only [np,ns];try omega)) [r_audit_cut, hm1, hvb, hbig, hbigI]
        exact herr 3 _ (by decide) hcut F1
      have hbigI : ¬ (131072 : Int) < (n : Int) := by omega
      rw [if_neg (by omega)] at hcut
      have hcv : IntKind.i64.wrap (n : Int) = (n : Int) := i64_small (by omega) (by omega)
      have hsub : IntKind.i64.wrap ((L : Int) - (A : Int)) = ((L - A : Nat) : Int) := by rw [i64_small (by omega) (by omega)]; omega
      obtain ⟨B, hB⟩ : ∃ B, B = L - A := ⟨_, rfl⟩
      rw [← hB] at hsub
      have hTB : T.length - k = B := by omega
      rw [hTB] at hcut
      by_cases hsh : B < n
      · have hshI : (B : Int) < (n : Int) := by omega
        rw [if_pos hsh] at hcut
        simp (disch := first|omega|(simp only [np,ns];try omega)) [r_audit_cut, hm1, hvb, hbig, hbigI, hcv, hsub, hsh, hshI]
        exact herr 8 _ (by decide) hcut F1
      have hshI : ¬ (B : Int) < (n : Int) := by omega
      rw [if_neg hsh] at hcut
      have hadd : IntKind.i64.wrap ((A : Int) + (n : Int)) = ((A + n : Nat) : Int) := by rw [i64_small (by omega) (by omega)]; omega
      obtain ⟨D, hD⟩ : ∃ D, D = A + n := ⟨_, rfl⟩
      rw [← hD] at hadd
      obtain ⟨cs, own, hcs, hcl, hct⟩ := hat
      have hg1 : g1.get i = .cells cs own 1 := (F1.get i hi (by simp)).trans hcs
      have hAD : A ≤ D := by omega
      have hDL : D ≤ L := by omega
      have hDc : D ≤ c := by omega
      simp (disch := first|omega|(simp only [np,ns];try omega)) [r_audit_cut, hm1, hvb, hbig, hbigI, hcv, hsub, hsh, hshI, hadd, hg1, hAD, hDL, hDc]
      have hDA : D - A = n := by omega
      have hAn : k + n = D - at_ := by omega
      rw [hDA]
      refine ⟨F1, some ⟨i, o + A, none⟩, n, c - A, ?_, ?_, fun x hx => hx⟩
      · rw [← hT, hcut]
        simp only [if_true]
        rw [hAn, show at_ + (D - at_) = D by omega]
      · rw [← hT, hcut]
        have := isB_sub (h := g1) (i := i) (o := o) (c := c - A) (a := A) (n := n) (bs := bs) (by have := F1.n; omega) ⟨cs, own, hg1, hcl, hct⟩ (by omega) (by omega)
        rw [hT, List.drop_drop, ← hA]
        exact this
    · have hvb : ((pn : Int) != (k : Int)) = true := by rw [bne_iff_ne]; omega
      rw [if_pos (.inr (.inl hv))] at hcut
      simp (disch := first|omega|(simp only [np,ns];try omega)) [r_audit_cut, hm1, hvb]
      exact herr 3 _ (by decide) hcut F1
  · have h0b : (e != 0) = true := by simpa using h0
    rw [if_pos (.inl h0)] at hcut
    simp (disch := first|omega|(simp only [np,ns];try omega)) [r_audit_cut, h8b, h0b]
    exact herr 3 _ (by decide) hcut (Fr.refl _ _)

/-- an entry out of its bytes, with what stood ahead of it. -/
def enOf (fs : List Wr.Fd) : En := ⟨(fs.getD 0 zeroF).b, ((fs.getD 1 zeroF).n : Int), (fs.getD 2 zeroF).b, (fs.getD 3 zeroF).b⟩
def ahOf (fs : List Wr.Fd) : List UInt8 := (fs.getD 4 zeroF).b
def okS (bs : List UInt8) : Bool :=
  decide ((readS bs).2.1 = 0) && decide ((readS bs).1.length = 5) && decide ((ahOf (readS bs).1).length = 32) && decide (((readS bs).1.getD 1 zeroF).n ≤ 1125899906842624) &&
    decide (wrongS (enOf (readS bs).1) = 0) && decide (bytesS (enOf (readS bs).1) (ahOf (readS bs).1) = bs)

def ReadEP (h : VH) (bs : List UInt8) (u : Value) (h' : VH) : Prop :=
  Fr h h' [] ∧ if okS bs = true then ∃ a n c, u = .tuple #[enV (enOf (readS bs).1) (.slice a n c), digV (ahOf (readS bs).1), .bool true] ∧ IsBytes h' (.slice a n c) (enOf (readS bs).1).b ∧ (∀ x ∈ idOf (.slice a n c), h.n ≤ x)
  else u = .tuple #[enV ⟨[], 0, [], []⟩ (.slice none 0 0), digV zero32, .bool false]

set_option maxHeartbeats 4000000 in
theorem eread_ok {h : VH} {v : Value} {bs : List UInt8} (hb : IsBytes h v bs) (hlen : bs.length ≤ 1000000000) :
    PCalls Try.prog f_audit_read [v] h (ReadEP h bs) := by
  refine PCalls_of_pw st_audit_read (by simp [n_audit_read]) ?_
  rw [b_audit_read]
  obtain ⟨va, vc, rfl⟩ := hb.shape
  obtain ⟨L, hL⟩ : ∃ L, L = bs.length := ⟨_, rfl⟩
  rw [← hL]
  rw [← hL] at hb
  obtain ⟨Q, hQ⟩ : ∃ Q, Q = okS bs := ⟨_, rfl⟩
  have hP0 : Q = false → ∀ g, Fr h g [] → ReadEP h bs (.tuple #[enV ⟨[], 0, [], []⟩ (.slice none 0 0), digV zero32, .bool false]) g := by
    intro h0 g hf
    refine ⟨hf, ?_⟩
    rw [← hQ, h0, if_neg (by simp)]
  obtain ⟨g0, hg0⟩ : ∃ g0, g0 = (h.push (.cells [.string ⟨#[]⟩, .int .i64 0, .string ⟨#[]⟩, .slice none 0 0] true 1)).push (.cells [.int .u8 0, .int .u8 0, .int .u8 0, .int .u8 0, .int .u8 0, .int .u8 0, .int .u8 0, .int .u8 0, .int .u8 0, .int .u8 0, .int .u8 0, .int .u8 0, .int .u8 0, .int .u8 0, .int .u8 0, .int .u8 0, .int .u8 0, .int .u8 0, .int .u8 0, .int .u8 0, .int .u8 0, .int .u8 0, .int .u8 0, .int .u8 0, .int .u8 0, .int .u8 0, .int .u8 0, .int .u8 0, .int .u8 0, .int .u8 0, .int .u8 0, .int .u8 0] true 1) := ⟨_, rfl⟩
  have F0 : Fr h g0 [] := by rw [hg0]; exact Fr_push (Fr_push (Fr.refl _ _))
  have n0 : g0.n = h.n + 2 := by rw [hg0]; simp
  have c0 : g0.get h.n = .cells [.string ⟨#[]⟩, .int .i64 0, .string ⟨#[]⟩, .slice none 0 0] true 1 := by rw [hg0, VH.get_push_lt _ _ (by simp), VH.get_push_new]
  have d0 : g0.get (h.n + 1) = .cells [.int .u8 0, .int .u8 0, .int .u8 0, .int .u8 0, .int .u8 0, .int .u8 0, .int .u8 0, .int .u8 0, .int .u8 0, .int .u8 0, .int .u8 0, .int .u8 0, .int .u8 0, .int .u8 0, .int .u8 0, .int .u8 0, .int .u8 0, .int .u8 0, .int .u8 0, .int .u8 0, .int .u8 0, .int .u8 0, .int .u8 0, .int .u8 0, .int .u8 0, .int .u8 0, .int .u8 0, .int .u8 0, .int .u8 0, .int .u8 0, .int .u8 0, .int .u8 0] true 1 := by rw [hg0]; exact VH.get_push_new (h.push _) _
  have hfE : fillC [.string ⟨#[]⟩, .int .i64 0, .string ⟨#[]⟩, .slice none 0 0] [] = some [.string ⟨#[]⟩, .int .i64 0, .string ⟨#[]⟩, .slice none 0 0] := rfl
  have hfD : fillC [.int .u8 0, .int .u8 0, .int .u8 0, .int .u8 0, .int .u8 0, .int .u8 0, .int .u8 0, .int .u8 0, .int .u8 0, .int .u8 0, .int .u8 0, .int .u8 0, .int .u8 0, .int .u8 0, .int .u8 0, .int .u8 0, .int .u8 0, .int .u8 0, .int .u8 0, .int .u8 0, .int .u8 0, .int .u8 0, .int .u8 0, .int .u8 0, .int .u8 0, .int .u8 0, .int .u8 0, .int .u8 0, .int .u8 0, .int .u8 0, .int .u8 0, .int .u8 0] [] = some [.int .u8 0, .int .u8 0, .int .u8 0, .int .u8 0, .int .u8 0, .int .u8 0, .int .u8 0, .int .u8 0, .int .u8 0, .int .u8 0, .int .u8 0, .int .u8 0, .int .u8 0, .int .u8 0, .int .u8 0, .int .u8 0, .int .u8 0, .int .u8 0, .int .u8 0, .int .u8 0, .int .u8 0, .int .u8 0, .int .u8 0, .int .u8 0, .int .u8 0, .int .u8 0, .int .u8 0, .int .u8 0, .int .u8 0, .int .u8 0, .int .u8 0, .int .u8 0] := rfl
  have hsE : ∀ a b c d, storeObj (.cells [a, b, c, d] true 1) 0 4 (.agg #[.string ⟨#[]⟩, .int .i64 0, .string ⟨#[]⟩, .slice none 0 0]) = some (.cells [.string ⟨#[]⟩, .int .i64 0, .string ⟨#[]⟩, .slice none 0 0] true 1) := fun _ _ _ _ => rfl
  have hsD : storeObj (.cells [.int .u8 0, .int .u8 0, .int .u8 0, .int .u8 0, .int .u8 0, .int .u8 0, .int .u8 0, .int .u8 0, .int .u8 0, .int .u8 0, .int .u8 0, .int .u8 0, .int .u8 0, .int .u8 0, .int .u8 0, .int .u8 0, .int .u8 0, .int .u8 0, .int .u8 0, .int .u8 0, .int .u8 0, .int .u8 0, .int .u8 0, .int .u8 0, .int .u8 0, .int .u8 0, .int .u8 0, .int .u8 0, .int .u8 0, .int .u8 0, .int .u8 0, .int .u8 0] true 1) 0 32 (.agg #[.int .u8 0, .int .u8 0, .int .u8 0, .int .u8 0, .int .u8 0, .int .u8 0, .int .u8 0, .int .u8 0, .int .u8 0, .int .u8 0, .int .u8 0, .int .u8 0, .int .u8 0, .int .u8 0, .int .u8 0, .int .u8 0, .int .u8 0, .int .u8 0, .int .u8 0, .int .u8 0, .int .u8 0, .int .u8 0, .int .u8 0, .int .u8 0, .int .u8 0, .int .u8 0, .int .u8 0, .int .u8 0, .int .u8 0, .int .u8 0, .int .u8 0, .int .u8 0]) = some (.cells [.int .u8 0, .int .u8 0, .int .u8 0, .int .u8 0, .int .u8 0, .int .u8 0, .int .u8 0, .int .u8 0, .int .u8 0, .int .u8 0, .int .u8 0, .int .u8 0, .int .u8 0, .int .u8 0, .int .u8 0, .int .u8 0, .int .u8 0, .int .u8 0, .int .u8 0, .int .u8 0, .int .u8 0, .int .u8 0, .int .u8 0, .int .u8 0, .int .u8 0, .int .u8 0, .int .u8 0, .int .u8 0, .int .u8 0, .int .u8 0, .int .u8 0, .int .u8 0] true 1) := rfl
  have hsX : ∀ l : List UInt8, l.length = 32 → storeObj (.cells (u8s l) true 1) 0 32 (.agg #[.int .u8 0, .int .u8 0, .int .u8 0, .int .u8 0, .int .u8 0, .int .u8 0, .int .u8 0, .int .u8 0, .int .u8 0, .int .u8 0, .int .u8 0, .int .u8 0, .int .u8 0, .int .u8 0, .int .u8 0, .int .u8 0, .int .u8 0, .int .u8 0, .int .u8 0, .int .u8 0, .int .u8 0, .int .u8 0, .int .u8 0, .int .u8 0, .int .u8 0, .int .u8 0, .int .u8 0, .int .u8 0, .int .u8 0, .int .u8 0, .int .u8 0, .int .u8 0]) = some (.cells [.int .u8 0, .int .u8 0, .int .u8 0, .int .u8 0, .int .u8 0, .int .u8 0, .int .u8 0, .int .u8 0, .int .u8 0, .int .u8 0, .int .u8 0, .int .u8 0, .int .u8 0, .int .u8 0, .int .u8 0, .int .u8 0, .int .u8 0, .int .u8 0, .int .u8 0, .int .u8 0, .int .u8 0, .int .u8 0, .int .u8 0, .int .u8 0, .int .u8 0, .int .u8 0, .int .u8 0, .int .u8 0, .int .u8 0, .int .u8 0, .int .u8 0, .int .u8 0] true 1) := fun l hl => dig_store (l := zero32) rfl (by simp [hl])
  have hlE : loadObj (.cells [.string ⟨#[]⟩, .int .i64 0, .string ⟨#[]⟩, .slice none 0 0] true 1) 0 (some 4) = some (enV ⟨[], 0, [], []⟩ (.slice none 0 0)) := rfl
  have hlD : loadObj (.cells [.int .u8 0, .int .u8 0, .int .u8 0, .int .u8 0, .int .u8 0, .int .u8 0, .int .u8 0, .int .u8 0, .int .u8 0, .int .u8 0, .int .u8 0, .int .u8 0, .int .u8 0, .int .u8 0, .int .u8 0, .int .u8 0, .int .u8 0, .int .u8 0, .int .u8 0, .int .u8 0, .int .u8 0, .int .u8 0, .int .u8 0, .int .u8 0, .int .u8 0, .int .u8 0, .int .u8 0, .int .u8 0, .int .u8 0, .int .u8 0, .int .u8 0, .int .u8 0] true 1) 0 (some 32) = some (digV zero32) := rfl
  simp (disch := first|omega|(simp only [np,ns];try omega)) [B_audit_read, ← hg0]
  refine (nread_ok (isB_fr F0 (hL ▸ hb)) hlen).mono ?_
  rintro u g ⟨ra, rn, rc, rfl, B⟩
  have hwf := readS_wf bs
  obtain ⟨E1, hE1⟩ : ∃ x, x = (readS bs).2.1 := ⟨_, rfl⟩
  obtain ⟨fs, hfs⟩ : ∃ x, x = (readS bs).1 := ⟨_, rfl⟩
  have hok : Q = (decide (E1 = 0) && decide (fs.length = 5) && decide ((ahOf fs).length = 32) && decide ((fs.getD 1 zeroF).n ≤ 1125899906842624) && decide (wrongS (enOf fs) = 0) && decide (bytesS (enOf fs) (ahOf fs) = bs)) := by
    rw [hQ, hE1, hfs]; rfl
  rw [← hE1]
  rw [← hfs] at B hwf
  have c1 := (B.fr.get h.n (by omega) (by simp)).trans c0
  have d1 := (B.fr.get (h.n + 1) (by omega) (by simp)).trans d0
  have n1 := B.fr.n
  by_cases h1 : E1 = 0
  case neg =>
    have h1b : (E1 != 0) = true := by simpa using h1
    simp (disch := first|omega|(simp only [np,ns];try omega)) [r_audit_read, h1b, hfE, hfD, c1, d1, hsE, hsD, hlE, hlD]
    exact hP0 (by rw [hok, decide_eq_false h1]; simp) _ (Fr_set (Fr_set (F0.trans B.fr) (by simp)) (by simp))
  have h1b : (E1 != 0) = false := by simpa using h1
  have hrn : rn = fs.length := by
    obtain ⟨a', c', h1⟩ := B.shape
    injection h1
  by_cases h2 : rn = 5
  case neg =>
    have h2b : ((rn : Int) != 5) = true := by rw [bne_iff_ne]; omega
    simp (disch := first|omega|(simp only [np,ns];try omega)) [r_audit_read, h1b, h2b, hfE, hfD, c1, d1, hsE, hsD, hlE, hlD]
    exact hP0 (by rw [hok, decide_eq_false (p := fs.length = 5) (by omega)]; simp) _ (Fr_set (Fr_set (F0.trans B.fr) (by simp)) (by simp))
  obtain ⟨fi, fo, fc, hfi, hfn, hv, hesz, hat⟩ := B.at_ (by omega)
  obtain ⟨f0, f1, f2, f3, f4, hf5⟩ : ∃ f0 f1 f2 f3 f4, fs = [f0, f1, f2, f3, f4] := by
    match fs, (hrn.symm.trans h2) with
    | [f0, f1, f2, f3, f4], _ => exact ⟨f0, f1, f2, f3, f4, rfl⟩
  rw [hf5] at hv hat hwf
  injection hv with hv1 hv2 hv3
  subst hv1
  subst hv3
  subst h2
  obtain ⟨w0, A0, N0⟩ := hat 0 (by simp)
  obtain ⟨w1, A1, N1⟩ := hat 1 (by simp)
  obtain ⟨w2, A2, N2⟩ := hat 2 (by simp)
  obtain ⟨w3, A3, N3⟩ := hat 3 (by simp)
  obtain ⟨w4, A4, N4⟩ := hat 4 (by simp)
  simp only [List.getElem_cons_zero, List.getElem_cons_succ] at A0 A1 A2 A3 A4
  obtain ⟨a0, x0, y0, hw0, hx0⟩ : ∃ a n c, w0 = .slice a n c ∧ n = f0.b.length := by
    obtain ⟨a, c, h⟩ := A0.bytes.shape
    exact ⟨_, _, _, h, rfl⟩
  obtain ⟨a2, x2, y2, hw2, hx2⟩ : ∃ a n c, w2 = .slice a n c ∧ n = f2.b.length := by
    obtain ⟨a, c, h⟩ := A2.bytes.shape
    exact ⟨_, _, _, h, rfl⟩
  obtain ⟨a3, x3, y3, hw3, hx3⟩ : ∃ a n c, w3 = .slice a n c ∧ n = f3.b.length := by
    obtain ⟨a, c, h⟩ := A3.bytes.shape
    exact ⟨_, _, _, h, rfl⟩
  obtain ⟨a4, x4, y4, hw4, hx4⟩ : ∃ a n c, w4 = .slice a n c ∧ n = f4.b.length := by
    obtain ⟨a, c, h⟩ := A4.bytes.shape
    exact ⟨_, _, _, h, rfl⟩
  subst hw0 hw2 hw3 hw4
  have l4 := A4.l3
  have l1 := A1.l2
  have l0 := A0.l3
  have l2 := A2.l3
  have l3 := A3.l3
  simp only [Nat.add_assoc, Nat.reduceMul, Nat.reduceAdd, Nat.zero_mul, Nat.zero_add, Nat.add_zero] at l0 l1 l2 l3 l4
  have hok2 : Q = (decide (f4.b.length = 32) && decide (f1.n ≤ 1125899906842624) && decide (wrongS (enOf fs) = 0) && decide (bytesS (enOf fs) f4.b = bs)) := by
    rw [hok, hf5, decide_eq_true h1]
    simp [ahOf]
  by_cases h3 : x4 = 32
  case neg =>
    have h3b : ((x4 : Int) != 32) = true := by rw [bne_iff_ne]; omega
    simp (disch := first|omega|(simp only [np,ns];try omega)) [r_audit_read, h1b, hesz, l4, h3b, hfE, hfD, c1, d1, hsE, hsD, hlE, hlD]
    exact hP0 (by rw [hok2, decide_eq_false (p := f4.b.length = 32) (by omega)]; simp) _ (Fr_set (Fr_set (F0.trans B.fr) (by simp)) (by simp))
  subst h3
  obtain ⟨M, hM⟩ : ∃ M, M = f1.n := ⟨_, rfl⟩
  rw [← hM] at l1 hok2
  by_cases h4 : 1125899906842624 < M
  case pos =>
    have h4I : (1125899906842624 : Int) < (M : Int) := by omega
    simp (disch := first|omega|(simp only [np,ns];try omega)) [r_audit_read, h1b, hesz, l4, l1, h4, h4I, hfE, hfD, c1, d1, hsE, hsD, hlE, hlD]
    exact hP0 (by rw [hok2, decide_eq_false (p := M ≤ 1125899906842624) (by omega)]; simp) _ (Fr_set (Fr_set (F0.trans B.fr) (by simp)) (by simp))
  have h4I : ¬ (1125899906842624 : Int) < (M : Int) := by omega
  have src4 := A4.bytes.src
  have hd32 : ([.int .u8 0, .int .u8 0, .int .u8 0, .int .u8 0, .int .u8 0, .int .u8 0, .int .u8 0, .int .u8 0, .int .u8 0, .int .u8 0, .int .u8 0, .int .u8 0, .int .u8 0, .int .u8 0, .int .u8 0, .int .u8 0, .int .u8 0, .int .u8 0, .int .u8 0, .int .u8 0, .int .u8 0, .int .u8 0, .int .u8 0, .int .u8 0, .int .u8 0, .int .u8 0, .int .u8 0, .int .u8 0, .int .u8 0, .int .u8 0, .int .u8 0, .int .u8 0] : List Value).length = 32 := rfl
  have hwr : wr [.int .u8 0, .int .u8 0, .int .u8 0, .int .u8 0, .int .u8 0, .int .u8 0, .int .u8 0, .int .u8 0, .int .u8 0, .int .u8 0, .int .u8 0, .int .u8 0, .int .u8 0, .int .u8 0, .int .u8 0, .int .u8 0, .int .u8 0, .int .u8 0, .int .u8 0, .int .u8 0, .int .u8 0, .int .u8 0, .int .u8 0, .int .u8 0, .int .u8 0, .int .u8 0, .int .u8 0, .int .u8 0, .int .u8 0, .int .u8 0, .int .u8 0, .int .u8 0] 0 (u8s f4.b) = u8s f4.b := wr_all (by rw [hd32, u8s_length, hx4])
  have h4l : (u8s f4.b).length = 32 := by rw [u8s_length, hx4]
  obtain ⟨g1, hg1⟩ : ∃ x, x = g.set (h.n + 1) (.cells (u8s f4.b) true 1) := ⟨_, rfl⟩
  have G1 : Fr g g1 [h.n + 1] := by rw [hg1]; exact Fr.set _ _ (by simp)
  have F1 : Fr h g1 [] := by rw [hg1]; exact Fr_set (F0.trans B.fr) (by omega)
  have c2 := (G1.get h.n (by omega) (by simp)).trans c1
  have d2 : g1.get (h.n + 1) = .cells (u8s f4.b) true 1 := by rw [hg1, VH.get_set_same]
  have gfi : g1.get fi = g.get fi := G1.get fi hfi (by simp; omega)
  have B0 := ofB_eq (A0.bytes.fr G1 (fun x hx => by have := N0 x hx; simp; omega))
  have B2 := ofB_eq (A2.bytes.fr G1 (fun x hx => by have := N2 x hx; simp; omega))
  have B3 := A3.bytes.fr G1 (fun x hx => by have := N3 x hx; simp; omega)
  have hM2 : IntKind.i64.wrap (M : Int) = (M : Int) := i64_small (by omega) (by omega)
  have hfl : ∀ x y z, fillC [.string ⟨#[]⟩, .int .i64 0, .string ⟨#[]⟩, .slice none 0 0] [(0, 1, .string x), (1, 1, .int .i64 (M : Int)), (2, 1, .string y), (3, 1, .slice z x3 y3)] = some [.string x, .int .i64 (M : Int), .string y, .slice z x3 y3] := fun _ _ _ => rfl
  have hsV : ∀ a b c d x y z, storeObj (.cells [a, b, c, d] true 1) 0 4 (.agg #[.string x, .int .i64 (M : Int), .string y, .slice z x3 y3]) = some (.cells [.string x, .int .i64 (M : Int), .string y, .slice z x3 y3] true 1) := fun _ _ _ _ _ _ _ => rfl
  have hlV : loadObj (.cells [.string (strB f0.b), .int .i64 (M : Int), .string (strB f2.b), .slice a3 x3 y3] true 1) 0 (some 4) = some (enV (enOf fs) (.slice a3 x3 y3)) := by rw [hf5, hM]; rfl
  obtain ⟨g2, hg2⟩ : ∃ x, x = g1.set h.n (.cells [.string (strB f0.b), .int .i64 (M : Int), .string (strB f2.b), .slice a3 x3 y3] true 1) := ⟨_, rfl⟩
  have G2 : Fr g1 g2 [h.n] := by rw [hg2]; exact Fr.set _ _ (by simp)
  have F2 : Fr h g2 [] := by rw [hg2]; exact Fr_set F1 (by omega)
  have c3 : g2.get h.n = .cells [.string (strB f0.b), .int .i64 (M : Int), .string (strB f2.b), .slice a3 x3 y3] true 1 := by rw [hg2, VH.get_set_same]
  have d3 := (G2.get (h.n + 1) (by have := G1.n; omega) (by simp)).trans d2
  simp (disch := first|omega|(simp only [np,ns];try omega)) [h1b, hesz, l4, l1, h4, h4I, d1, hd32, hwr, src4, h4l, hx4.symm, ← hg1, c2, d2, gfi, l0, l2, l3, B0, B2, hM2, hfl, hsV, ← hg2, c3, d3, hlV]
  have ng2 : h.n + 1 < g2.n := by have := G2.n; have := G1.n; omega
  obtain ⟨e, he⟩ : ∃ e, e = enOf fs := ⟨_, rfl⟩
  have q0 : e.t = f0.b := by rw [he, hf5]; rfl
  have q1 : e.at_ = (M : Int) := by rw [he, hf5, hM]; rfl
  have q2 : e.w = f2.b := by rw [he, hf5]; rfl
  have q3 : e.b = f3.b := by rw [he, hf5]; rfl
  have m0 := (hwf.1 f0 (by simp)).2
  have m2 := (hwf.1 f2 (by simp)).2
  have m3 := (hwf.1 f3 (by simp)).2
  have B3' : IsBytes g2 (.slice a3 x3 y3) e.b := by rw [q3]; exact B3.fr G2 (fun x hx => by have := N3 x hx; simp; omega)
  rw [← he] at hok2 hlV ⊢
  refine (wrong_ok (by rw [q0]; omega) B3' (by rw [q3]; omega) (by rw [q2]; omega)).mono ?_
  rintro u g ⟨rfl, rfl⟩
  obtain ⟨W, hW⟩ : ∃ W, W = wrongS e := ⟨_, rfl⟩
  rw [← hW] at hok2 ⊢
  by_cases h5 : W = 0
  case neg =>
    have h5b : (W == 0) = false := by simpa using h5
    simp (disch := first|omega|(simp only [np,ns];try omega)) [r_audit_read, h5b, hfE, hfD, c3, d3, hsE, hsX f4.b hx4.symm, hlE, hlD]
    exact hP0 (by rw [hok2, decide_eq_false h5]; simp) _ (Fr_set (Fr_set F2 (by simp)) (by simp))
  have h5b : (W == 0) = true := by simpa using h5
  have hwr0 : wrongS e = 0 := by rw [← hW]; exact h5
  obtain ⟨w1, w2, w3, w4, w5, w6⟩ := wrongS_ok hwr0
  have hbg : IsBytes g (.slice va L vc) bs := isB_fr F2 (hL ▸ hb)
  have ob1 := ofB_eq hbg
  have hlX : loadObj (.cells (u8s f4.b) true 1) 0 (some 32) = some (digV f4.b) := dig_load hx4.symm
  simp (disch := first|omega|(simp only [np,ns];try omega)) [h5b, c3, d3, hlV, hlX, ob1]
  refine (ebytes_ok B3' hx4.symm (by omega) (by omega) (by omega) w3 w4).mono ?_
  rintro u g3 ⟨ya, yn, yc, rfl, Y⟩
  have ob2 := ofB_eq (isB_fr Y.fr hbg)
  have ob3 := ofB_eq Y.is
  obtain ⟨bb, hbb⟩ : ∃ x, x = bytesS e f4.b := ⟨_, rfl⟩
  rw [← hbb] at hok2 ob3
  have c4 := (Y.fr.get h.n (by omega) (by simp)).trans c3
  have d4 := (Y.fr.get (h.n + 1) (by omega) (by simp)).trans d3
  obtain ⟨P, hPP⟩ : ∃ P, P = (bb == bs) := ⟨_, rfl⟩
  have hok3 : Q = P := by
    rw [hok2, decide_eq_true hx4.symm, decide_eq_true (p := M ≤ 1125899906842624) (by omega), decide_eq_true h5, hPP]
    simp only [Bool.true_and]
    by_cases hq : bb = bs
    · rw [decide_eq_true hq, beq_iff_eq.2 hq]
    · rw [decide_eq_false hq, beq_eq_false_iff_ne.2 hq]
  have hlX' : loadObj (.cells (u8s f4.b) true 1) 0 (some 32) = some (digV f4.b) := dig_load hx4.symm
  cases P with
  | true =>
    have hst4 : storeObj (.cells [.string (strB f0.b), .int .i64 (M : Int), .string (strB f2.b), .slice a3 x3 y3] true 1) 0 4 (enV e (.slice a3 x3 y3)) = some (.cells [.string (strB f0.b), .int .i64 (M : Int), .string (strB f2.b), .slice a3 x3 y3] true 1) := by
      rw [he, hf5, hM]; rfl
    have hst5 : storeObj (.cells (u8s f4.b) true 1) 0 32 (digV f4.b) = some (.cells (u8s f4.b) true 1) := dig_store hx4.symm (by simp [hx4])
    simp (disch := first|omega|(simp only [np,ns];try omega)) [r_audit_read, ob2, ob3, strB_toList, ← hPP, c4, d4, hlV, hlX, hst4, hst5]
    refine ⟨(?_ : kEv _ (some 71) (ofB g3 (.slice va L vc))), ?_⟩
    · rw [ob2]
      simp (disch := first|omega|(simp only [np,ns];try omega)) []
    refine ⟨Fr_set (Fr_set (F2.trans Y.fr) (by simp)) (by simp), ?_⟩
    rw [← hQ, hok3, if_pos rfl, ← hfs, ← he]
    refine ⟨a3, x3, y3, ?_, ?_, ?_⟩
    · rw [hf5]; rfl
    · have h1 := isB_fr Y.fr B3'
      have h2 : ∀ o o', Fr g3 ((g3.set h.n o).set (h.n + 1) o') [h.n, h.n + 1] := fun o o' => (Fr.set _ _ (by simp)).trans (Fr.set _ _ (by simp))
      exact h1.fr (h2 _ _) (fun x hx => by have := N3 x hx; simp; omega)
    · intro x hx
      have := N3 x hx
      omega
  | false =>
    simp (disch := first|omega|(simp only [np,ns];try omega)) [r_audit_read, ob2, ob3, strB_toList, ← hPP, hfE, hfD, c4, d4, hsE, hsX f4.b hx4.symm, hlE, hlD]
    refine ⟨(?_ : kEv _ (some 71) (ofB g3 (.slice va L vc))), ?_⟩
    · rw [ob2]
      simp (disch := first|omega|(simp only [np,ns];try omega)) []
    exact hP0 hok3 _ (Fr_set (Fr_set (F2.trans Y.fr) (by simp)) (by simp))

/- audit, part G: a log is walked (the program). -/

theorem fitsK_u8s : ∀ (l : List UInt8), fitsK (List.replicate l.length (.i .u8)) (u8s l) = true
  | [] => rfl
  | b :: r => by
    have := fitsK_u8s r
    simp only [List.length_cons, List.replicate_succ, u8s, List.map_cons, fitsK, Bool.and_eq_true]
    exact ⟨rfl, this⟩
theorem fits32 {l : List UInt8} (hl : l.length = 32) : fitsK [.i .u8, .i .u8, .i .u8, .i .u8, .i .u8, .i .u8, .i .u8, .i .u8, .i .u8, .i .u8, .i .u8, .i .u8, .i .u8, .i .u8, .i .u8, .i .u8, .i .u8, .i .u8, .i .u8, .i .u8, .i .u8, .i .u8, .i .u8, .i .u8, .i .u8, .i .u8, .i .u8, .i .u8, .i .u8, .i .u8, .i .u8, .i .u8] (u8s l) = true := by
  have := fitsK_u8s l
  rw [hl] at this
  exact this
theorem cellsB_u8s : ∀ (a b : List UInt8), a.length = b.length → cellsB (u8s a) (u8s b) = (a == b)
  | [], [], _ => rfl
  | x :: a, y :: b, h => by
    have ih := cellsB_u8s a b (by simpa using h)
    simp only [u8s, List.map_cons, cellsB] at ih ⊢
    have : cellB (.int .u8 (x.toNat : Int)) (.int .u8 (y.toNat : Int)) = (x == y) := by
      by_cases hxy : x = y
      · subst hxy; simp [cellB]
      · have : ¬ ((x.toNat : Int) = (y.toNat : Int)) := fun h => hxy (UInt8.toNat_inj.1 (by omega))
        show ((x.toNat : Int) == (y.toNat : Int)) = (x == y)
        rw [beq_eq_false_iff_ne.2 this, beq_eq_false_iff_ne.2 hxy]
    rw [ih, this]
    rfl
  | [], _ :: _, h => by simp at h
  | _ :: _, [], h => by simp at h

/-- a log, entry by entry: the chain behind it, what is wrong, the bytes taken. -/
structure WS where
  n : Nat
  l : List UInt8
  subs : Sbs
  err : Int
  at_ : Nat
def walkR : Nat → List UInt8 → Nat → List UInt8 → Sbs → WS
  | 0, _, n, l, subs => ⟨n, l, subs, 0, 0⟩
  | f + 1, bs, n, l, subs =>
    if bs.length = 0 then ⟨n, l, subs, 0, 0⟩ else
    if (cutS bs).2.2 ≠ 0 then ⟨n, l, subs, (cutS bs).2.2, 0⟩ else
    if okS (cutS bs).1 = false then ⟨n, l, subs, 3, 0⟩ else
    if ahOf (readS (cutS bs).1).1 ≠ aheadS subs (enOf (readS (cutS bs).1).1).t then ⟨n, l, subs, 90, 0⟩ else
    let r := walkR f (bs.drop (cutS bs).2.1) (n + 1) (shaS (l ++ (cutS bs).1)) (sput (enOf (readS (cutS bs).1).1).t (shaS (cutS bs).1) subs)
    ⟨r.n, r.l, r.subs, r.err, (cutS bs).2.1 + r.at_⟩
theorem walkR_succ (f : Nat) (bs : List UInt8) (n : Nat) (l : List UInt8) (subs : Sbs) : walkR (f + 1) bs n l subs =
    if bs.length = 0 then ⟨n, l, subs, 0, 0⟩ else
    if (cutS bs).2.2 ≠ 0 then ⟨n, l, subs, (cutS bs).2.2, 0⟩ else
    if okS (cutS bs).1 = false then ⟨n, l, subs, 3, 0⟩ else
    if ahOf (readS (cutS bs).1).1 ≠ aheadS subs (enOf (readS (cutS bs).1).1).t then ⟨n, l, subs, 90, 0⟩ else
    let r := walkR f (bs.drop (cutS bs).2.1) (n + 1) (shaS (l ++ (cutS bs).1)) (sput (enOf (readS (cutS bs).1).1).t (shaS (cutS bs).1) subs)
    ⟨r.n, r.l, r.subs, r.err, (cutS bs).2.1 + r.at_⟩ := rfl
def walkS (bs : List UInt8) : WS := walkR (bs.length + 1) bs 0 zero32 []
theorem cutS_spec {bs : List UInt8} (h : (cutS bs).2.2 = 0) : 0 < (cutS bs).2.1 ∧ (cutS bs).2.1 ≤ bs.length ∧ (cutS bs).1.length ≤ 131072 ∧ (cutS bs).1.length ≤ (cutS bs).2.1 := by
  obtain ⟨s1, s2, s3⟩ := getS_spec bs 0 0 (by omega) (by omega)
  unfold cutS at h ⊢
  generalize getS 0 0 bs = q at s1 s2 s3 h
  obtain ⟨n, k, e⟩ := q
  simp only at s1 s2 s3 h ⊢
  by_cases h1 : e = 8
  · rw [if_pos h1] at h; exact absurd h (by simp)
  rw [if_neg h1] at h ⊢
  by_cases h2 : e ≠ 0 ∨ (varint n).length ≠ k ∨ 131072 < n
  · rw [if_pos h2] at h; exact absurd h (by simp)
  rw [if_neg h2] at h ⊢
  by_cases h3 : bs.length - k < n
  · rw [if_pos h3] at h; exact absurd h (by simp)
  rw [if_neg h3]
  have := s2 (by omega)
  refine ⟨by simp only; omega, by simp only; omega, by simp only [List.length_take, List.length_drop]; omega, by simp only [List.length_take, List.length_drop]; omega⟩

theorem FrX_push {h g : VH} {X : List Nat} (hf : Fr h g X) {o : VObj} : Fr h (g.push o) X := hf.trans (Fr.push _ _ _)
theorem FrX_set {h g : VH} {X : List Nat} (hf : Fr h g X) {o : VObj} {i : Nat} (hi : i ∈ X ∨ h.n ≤ i) : Fr h (g.set i o) X := hf.trans' (Fr.set _ _ (X := [i]) (by simp)) (fun y hy => by simp at hy; subst hy; exact hi)
theorem Chain.frX {h h' : VH} {i j n : Nat} {l : List UInt8} {subs : Sbs} {X : List Nat} (k : Chain h i j n l subs) (hf : Fr h h' X) (hi : i ∉ X) (hj : j ∉ X) : Chain h' i j n l subs := by
  obtain ⟨es, clk, h1, h2⟩ := k.map_
  exact ⟨by rw [hf.get i k.lti hi]; exact k.rec_, ⟨es, clk, by rw [hf.get j k.ltj hj]; exact h1, h2⟩, k.ne, Nat.lt_of_lt_of_le k.lti hf.n, Nat.lt_of_lt_of_le k.ltj hf.n, k.ll⟩
/-- an entry that was read: what it says, its bytes, the link ahead of it. -/
structure It where
  e : En
  b : List UInt8
  l : List UInt8
def itemsR : Nat → List UInt8 → List UInt8 → Sbs → List It
  | 0, _, _, _ => []
  | f + 1, bs, l, subs =>
    if bs.length = 0 then [] else
    if (cutS bs).2.2 ≠ 0 then [] else
    if okS (cutS bs).1 = false then [] else
    if ahOf (readS (cutS bs).1).1 ≠ aheadS subs (enOf (readS (cutS bs).1).1).t then [] else
    ⟨enOf (readS (cutS bs).1).1, (cutS bs).1, l⟩ :: itemsR f (bs.drop (cutS bs).2.1) (shaS (l ++ (cutS bs).1)) (sput (enOf (readS (cutS bs).1).1).t (shaS (cutS bs).1) subs)
theorem itemsR_succ (f : Nat) (bs : List UInt8) (l : List UInt8) (subs : Sbs) : itemsR (f + 1) bs l subs =
    if bs.length = 0 then [] else
    if (cutS bs).2.2 ≠ 0 then [] else
    if okS (cutS bs).1 = false then [] else
    if ahOf (readS (cutS bs).1).1 ≠ aheadS subs (enOf (readS (cutS bs).1).1).t then [] else
    ⟨enOf (readS (cutS bs).1).1, (cutS bs).1, l⟩ :: itemsR f (bs.drop (cutS bs).2.1) (shaS (l ++ (cutS bs).1)) (sput (enOf (readS (cutS bs).1).1).t (shaS (cutS bs).1) subs) := rfl
def itemsS (bs : List UInt8) : List It := itemsR (bs.length + 1) bs zero32 []
/-- the entries, their bytes, the links, as a walk leaves them; B: below all of it. -/
structure ItemsAt (B : Nat) (g : VH) (v1 v2 v3 : Value) (ts : List It) : Prop where
  r1 : ∃ rows : List (It × Value), rows.map Prod.fst = ts ∧ OwnSl g 4 v1 (rows.flatMap fun p => enL p.1.e p.2) ts.length ∧ ∀ p ∈ rows, IsBytes g p.2 p.1.e.b ∧ ∀ x ∈ idOf p.2, B ≤ x
  r2 : ∃ rows : List (It × Value), rows.map Prod.fst = ts ∧ OwnSl g 1 v2 (rows.map Prod.snd) ts.length ∧ ∀ p ∈ rows, IsBytes g p.2 p.1.b ∧ ∀ x ∈ idOf p.2, B ≤ x
  r3 : OwnSl g 32 v3 (ts.flatMap fun t => u8s t.l) ts.length
  i1 : ∀ x ∈ idOf v1, B ≤ x
  i2 : ∀ x ∈ idOf v2, B ≤ x
  i3 : ∀ x ∈ idOf v3, B ≤ x
theorem ItemsAt.fr {B : Nat} {g g' : VH} {v1 v2 v3 : Value} {ts : List It} {X : List Nat} (k : ItemsAt B g v1 v2 v3 ts) (hf : Fr g g' X) (hX : ∀ x ∈ X, x < B) : ItemsAt B g' v1 v2 v3 ts := by
  have hs : ∀ v : Value, (∀ x ∈ idOf v, B ≤ x) → ∀ x ∈ idOf v, x ∉ X := fun v hv x hx hx' => by have := hv x hx; have := hX x hx'; omega
  obtain ⟨rows, e1, o1, h1⟩ := k.r1
  obtain ⟨rows2, e2, o2, h2⟩ := k.r2
  exact ⟨⟨rows, e1, o1.fr hf (hs _ k.i1), fun p hp => ⟨(h1 p hp).1.fr hf (hs _ (h1 p hp).2), (h1 p hp).2⟩⟩, ⟨rows2, e2, o2.fr hf (hs _ k.i2), fun p hp => ⟨(h2 p hp).1.fr hf (hs _ (h2 p hp).2), (h2 p hp).2⟩⟩, k.r3.fr hf (hs _ k.i3), k.i1, k.i2, k.i3⟩
theorem ItemsAt.mono {B B' : Nat} {g : VH} {v1 v2 v3 : Value} {ts : List It} (k : ItemsAt B g v1 v2 v3 ts) (h : B' ≤ B) : ItemsAt B' g v1 v2 v3 ts := by
  obtain ⟨rows, e1, o1, h1⟩ := k.r1
  obtain ⟨rows2, e2, o2, h2⟩ := k.r2
  exact ⟨⟨rows, e1, o1, fun p hp => ⟨(h1 p hp).1, fun x hx => Nat.le_trans h ((h1 p hp).2 x hx)⟩⟩, ⟨rows2, e2, o2, fun p hp => ⟨(h2 p hp).1, fun x hx => Nat.le_trans h ((h2 p hp).2 x hx)⟩⟩, k.r3, fun x hx => Nat.le_trans h (k.i1 x hx), fun x hx => Nat.le_trans h (k.i2 x hx), fun x hx => Nat.le_trans h (k.i3 x hx)⟩
/-- what a walk tells. -/
def WalkP (h : VH) (bs : List UInt8) (u : Value) (h' : VH) : Prop :=
  Fr h h' [] ∧ ∃ ae ne ce al nl cl ab nb cb i j, u = .agg #[.slice ae ne ce, .slice al nl cl, .slice ab nb cb, .pointer (some ⟨i, 0, none⟩), .int .i64 (walkS bs).err, .int .i64 ((walkS bs).at_ : Int)] ∧
    Chain h' i j (walkS bs).n (walkS bs).l (walkS bs).subs ∧ (∀ p ∈ (walkS bs).subs, p.2.length = 32) ∧ h.n ≤ i ∧ h.n ≤ j ∧ (walkS bs).n ≤ bs.length ∧ ItemsAt h.n h' (.slice ae ne ce) (.slice al nl cl) (.slice ab nb cb) (itemsS bs)

def wsL (v1 v2 v3 : Value) (i at_ : Nat) : List Value := [v1, v2, v3, .pointer (some ⟨i, 0, none⟩), .int .i64 0, .int .i64 (at_ : Int)]
/-- what a walk holds while it goes on. -/
def SepV (W : Nat) (v v1 v2 v3 : Value) : Prop := ∀ x ∈ idOf v, W < x ∧ x ∉ idOf v1 ∧ x ∉ idOf v2 ∧ x ∉ idOf v3
structure WSt (h g : VH) (W i j at_ : Nat) (v1 v2 v3 : Value) (t1 t2 t3 : List It) (n : Nat) (l : List UInt8) (subs : Sbs) : Prop where
  r1 : ∃ rows : List (It × Value), rows.map Prod.fst = t1 ∧ OwnSl g 4 v1 (rows.flatMap fun p => enL p.1.e p.2) t1.length ∧ ∀ p ∈ rows, IsBytes g p.2 p.1.e.b ∧ SepV W p.2 v1 v2 v3
  r2 : ∃ rows : List (It × Value), rows.map Prod.fst = t2 ∧ OwnSl g 1 v2 (rows.map Prod.snd) t2.length ∧ ∀ p ∈ rows, IsBytes g p.2 p.1.b ∧ SepV W p.2 v1 v2 v3
  r3 : OwnSl g 32 v3 (t3.flatMap fun t => u8s t.l) t3.length
  id1 : ∀ x ∈ idOf v1, W < x
  id2 : ∀ x ∈ idOf v2, W < x
  id3 : ∀ x ∈ idOf v3, W < x
  chain : Chain g i j n l subs
  fr : Fr h g []
  lt : W < g.n
  z6 : g.get h.n = .cells [.slice none 0 0, .slice none 0 0, .slice none 0 0, .pointer none, .int .i64 0, .int .i64 0] true 1
  rec_ : g.get W = .cells (wsL v1 v2 v3 i at_) true 1
  iW : i < W
  jW : j < W
  hi : h.n < i
  hj : h.n < j
theorem own_disj {h : VH} {e e' : Nat} {v v' : Value} {c c' : List Value} {n n' : Nat} (h1 : OwnSl h e v c n) (h2 : OwnSl h e' v' c' n') (hne : e ≠ e') : ∀ x ∈ idOf v, x ∉ idOf v' := by
  intro x hx hx'
  obtain ⟨d1, g1⟩ := Wr.OwnSl.cells h1 x hx
  obtain ⟨d2, g2⟩ := Wr.OwnSl.cells h2 x hx'
  rw [g1] at g2
  injection g2 with _ _ e3
  exact hne e3
theorem rowsFr {g g' : VH} {X : List Nat} {W : Nat} {rows : List (It × Value)} {v1 v2 v3 : Value} {f : It × Value → List UInt8} (hf : Fr g g' X) (hX : ∀ x ∈ X, x ≤ W ∨ x ∈ idOf v1 ∨ x ∈ idOf v2 ∨ x ∈ idOf v3) (h : ∀ p ∈ rows, IsBytes g p.2 (f p) ∧ SepV W p.2 v1 v2 v3) :
    ∀ p ∈ rows, IsBytes g' p.2 (f p) ∧ SepV W p.2 v1 v2 v3 := fun p hp => ⟨(h p hp).1.fr hf (fun x hx hx' => by
    obtain ⟨s0, s1, s2, s3⟩ := (h p hp).2 x hx
    rcases hX x hx' with h1 | h1 | h1 | h1
    · omega
    · exact s1 h1
    · exact s2 h1
    · exact s3 h1), (h p hp).2⟩
theorem rowsSep {g : VH} {W : Nat} {rows : List (It × Value)} {v1 v2 v3 w1 w2 w3 : Value} {f : It × Value → List UInt8} (h : ∀ p ∈ rows, IsBytes g p.2 (f p) ∧ SepV W p.2 v1 v2 v3)
    (h1 : ∀ x ∈ idOf w1, x ∈ idOf v1 ∨ g.n ≤ x) (h2 : ∀ x ∈ idOf w2, x ∈ idOf v2 ∨ g.n ≤ x) (h3 : ∀ x ∈ idOf w3, x ∈ idOf v3 ∨ g.n ≤ x) : ∀ p ∈ rows, IsBytes g p.2 (f p) ∧ SepV W p.2 w1 w2 w3 := fun p hp => ⟨(h p hp).1, fun x hx => by
    obtain ⟨s0, s1, s2, s3⟩ := (h p hp).2 x hx
    have hlt := isB_lt (h p hp).1 x hx
    exact ⟨s0, fun hx' => (h1 x hx').elim s1 (fun h => by omega), fun hx' => (h2 x hx').elim s2 (fun h => by omega), fun hx' => (h3 x hx').elim s3 (fun h => by omega)⟩⟩
section
variable {h g : VH} {W i j at_ : Nat} {v1 v2 v3 : Value} {t1 t2 t3 : List It} {n : Nat} {l : List UInt8} {subs : Sbs}
theorem WSt.own1 (k : WSt h g W i j at_ v1 v2 v3 t1 t2 t3 n l subs) : ∃ c, OwnSl g 4 v1 c t1.length := let ⟨_, _, o, _⟩ := k.r1; ⟨_, o⟩
theorem WSt.own2 (k : WSt h g W i j at_ v1 v2 v3 t1 t2 t3 n l subs) : ∃ c, OwnSl g 1 v2 c t2.length := let ⟨_, _, o, _⟩ := k.r2; ⟨_, o⟩
theorem WSt.own3 (k : WSt h g W i j at_ v1 v2 v3 t1 t2 t3 n l subs) : ∃ c, OwnSl g 32 v3 c t3.length := ⟨_, k.r3⟩
theorem WSt.items {ts : List It} (k : WSt h g W i j at_ v1 v2 v3 ts ts ts n l subs) : ItemsAt (W + 1) g v1 v2 v3 ts := by
  obtain ⟨rows, e1, o1, h1⟩ := k.r1
  obtain ⟨rows2, e2, o2, h2⟩ := k.r2
  exact ⟨⟨rows, e1, o1, fun p hp => ⟨(h1 p hp).1, fun x hx => ((h1 p hp).2 x hx).1⟩⟩, ⟨rows2, e2, o2, fun p hp => ⟨(h2 p hp).1, fun x hx => ((h2 p hp).2 x hx).1⟩⟩, k.r3, k.id1, k.id2, k.id3⟩
theorem WSt.low (k : WSt h g W i j at_ v1 v2 v3 t1 t2 t3 n l subs) {g' : VH} {X : List Nat} (hf : Fr g g' X) (hX : ∀ x ∈ X, x ≤ W) {at2 n' : Nat} {l' : List UInt8} {subs' : Sbs} (hc : Chain g' i j n' l' subs') (hr : g'.get W = .cells (wsL v1 v2 v3 i at2) true 1) (hz : g'.get h.n = g.get h.n) (hh : ∀ x ∈ X, h.n ≤ x) : WSt h g' W i j at2 v1 v2 v3 t1 t2 t3 n' l' subs' := by
  obtain ⟨rows, e1, o1, h1⟩ := k.r1
  obtain ⟨rows2, e2, o2, h2⟩ := k.r2
  have hs : ∀ v : Value, (∀ x ∈ idOf v, W < x) → ∀ x ∈ idOf v, x ∉ X := fun v hv x hx hx' => by have := hv x hx; have := hX x hx'; omega
  exact ⟨⟨rows, e1, o1.fr hf (hs _ k.id1), rowsFr hf (fun x hx => .inl (hX x hx)) h1⟩, ⟨rows2, e2, o2.fr hf (hs _ k.id2), rowsFr hf (fun x hx => .inl (hX x hx)) h2⟩, k.r3.fr hf (hs _ k.id3), k.id1, k.id2, k.id3, hc, k.fr.trans' hf (fun y hy => .inr (hh y hy)),
    Nat.lt_of_lt_of_le k.lt hf.n, hz.trans k.z6, hr, k.iW, k.jW, k.hi, k.hj⟩
theorem WSt.step (k : WSt h g W i j at_ v1 v2 v3 t1 t2 t3 n l subs) {g' : VH} (hf : Fr g g' []) : WSt h g' W i j at_ v1 v2 v3 t1 t2 t3 n l subs := by
  have hn : h.n < g.n := by have := k.iW; have := k.hi; have := k.lt; omega
  exact k.low hf (by simp) (k.chain.fr hf) ((hf.get _ k.lt (by simp)).trans k.rec_) (hf.get _ hn (by simp)) (by simp)
theorem WSt.chained (k : WSt h g W i j at_ v1 v2 v3 t1 t2 t3 n l subs) {g' : VH} {n' : Nat} {l' : List UInt8} {subs' : Sbs} (hc : Chain g' i j n' l' subs') (hf : Fr g g' [i, j]) : WSt h g' W i j at_ v1 v2 v3 t1 t2 t3 n' l' subs' := by
  have q1 := k.iW
  have q2 := k.jW
  have q3 := k.hi
  have q4 := k.hj
  have q5 := k.lt
  exact k.low hf (by simp; omega) hc ((hf.get _ k.lt (by simp; omega)).trans k.rec_) (hf.get _ (by omega) (by simp; omega)) (by simp; omega)
theorem WSt.moved (k : WSt h g W i j at_ v1 v2 v3 t1 t2 t3 n l subs) {at2 : Nat} : WSt h (g.set W (.cells (wsL v1 v2 v3 i at2) true 1)) W i j at2 v1 v2 v3 t1 t2 t3 n l subs := by
  have q1 := k.iW
  have q2 := k.jW
  have q3 := k.hi
  have q4 := k.hj
  have q5 := k.lt
  have hf : Fr g (g.set W (.cells (wsL v1 v2 v3 i at2) true 1)) [W] := Fr.set _ _ (by simp)
  exact k.low hf (by simp) (k.chain.frX hf (by simp; omega) (by simp; omega)) (VH.get_set_same _ _ _) (hf.get _ (by omega) (by simp; omega)) (by simp; omega)
theorem WSt.app1 (k : WSt h g W i j at_ v1 v2 v3 t1 t2 t3 n l subs) {t : It} {v : Value} (hv : IsBytes g v t.e.b) (hs : SepV W v v1 v2 v3) (hb : t1.length < 1000000000) :
    ∃ a m c g', appendV g 4 64 v1 (enL t.e v) 1 = some (.slice a m c, g') ∧ Fr g g' (idOf v1) ∧ g'.get W = .cells (wsL v1 v2 v3 i at_) true 1 ∧ WSt h (g'.set W (.cells (wsL (.slice a m c) v2 v3 i at_) true 1)) W i j at_ (.slice a m c) v2 v3 (t1 ++ [t]) t2 t3 n l subs := by
  obtain ⟨rows, e1, o1, h1⟩ := k.r1
  obtain ⟨rows2, e2, o2, h2⟩ := k.r2
  have o3 := k.r3
  have q1 := k.iW
  have q2 := k.jW
  have q3 := k.hi
  have q4 := k.hj
  have q5 := k.lt
  obtain ⟨w, g', hap, o, hf, hid⟩ := o1.append (bytes := 64) (ys := enL t.e v) (k := 1) rfl (by omega)
  obtain ⟨a, c, rfl⟩ := o.shapeN
  have hW : W ∉ idOf v1 := fun hx => by have := k.id1 W hx; omega
  have hrec := (hf.get W q5 hW).trans k.rec_
  have hnew : ∀ x ∈ idOf (.slice a (t1.length + 1) c), W < x := fun x hx => by
    rcases hid x hx with h1 | h1
    · exact k.id1 x h1
    · omega
  have FW : ∀ ob, Fr g' (g'.set W ob) [W] := fun ob => Fr.set _ _ (by simp)
  have hn := hf.n
  have go : ∀ {rows : List (It × Value)} {f : It × Value → List UInt8}, (∀ p ∈ rows, IsBytes g p.2 (f p) ∧ SepV W p.2 v1 v2 v3) → ∀ ob, ∀ p ∈ rows, IsBytes (g'.set W ob) p.2 (f p) ∧ SepV W p.2 (.slice a (t1.length + 1) c) v2 v3 := fun hr ob =>
    rowsFr (FW ob) (fun x hx => .inl (by simp at hx; omega)) (fun p hp => ⟨(rowsFr hf (fun x hx => .inr (.inl hx)) hr p hp).1, (rowsSep hr hid (fun x hx => .inl hx) (fun x hx => .inl hx) p hp).2⟩)
  have hrow : ∀ p ∈ rows ++ [(t, v)], IsBytes g p.2 p.1.e.b ∧ SepV W p.2 v1 v2 v3 := fun p hp => by
    rcases List.mem_append.1 hp with hp | hp
    · exact h1 p hp
    · simp at hp; subst hp; exact ⟨hv, hs⟩
  refine ⟨a, _, c, g', hap, hf, hrec, ⟨⟨rows ++ [(t, v)], by simp [e1], ?_, go hrow _⟩, ⟨rows2, e2, (o2.fr hf (fun x hx hx' => own_disj o2 o1 (by decide) x hx hx')).fr (FW _) (fun x hx => by have := k.id2 x hx; simp; omega), go h2 _⟩,
    (o3.fr hf (fun x hx hx' => own_disj o3 o1 (by decide) x hx hx')).fr (FW _) (fun x hx => by have := k.id3 x hx; simp; omega), hnew, k.id2, k.id3, ?_, ?_, by simp; omega, ?_, VH.get_set_same _ _ _, q1, q2, q3, q4⟩⟩
  · rw [List.flatMap_append, List.length_append, List.flatMap_singleton]
    exact o.fr (FW _) (fun x hx => by have := hnew x hx; simp; omega)
  · exact (k.chain.frX hf (fun hx => by have := k.id1 i hx; omega) (fun hx => by have := k.id1 j hx; omega)).frX (FW _) (by simp; omega) (by simp; omega)
  · exact (k.fr.trans' hf (fun y hy => .inr (by have := k.id1 y hy; omega))).trans' (FW _) (fun y hy => .inr (by simp at hy; omega))
  · rw [VH.get_set_ne _ _ (by omega), hf.get _ (by omega) (fun hx => by have := k.id1 _ hx; omega)]; exact k.z6
theorem WSt.app2 (k : WSt h g W i j at_ v1 v2 v3 t1 t2 t3 n l subs) {t : It} {v : Value} (hv : IsBytes g v t.b) (hs : SepV W v v1 v2 v3) (hb : t2.length < 1000000000) :
    ∃ a m c g', appendV g 1 24 v2 [v] 1 = some (.slice a m c, g') ∧ Fr g g' (idOf v2) ∧ g'.get W = .cells (wsL v1 v2 v3 i at_) true 1 ∧ WSt h (g'.set W (.cells (wsL v1 (.slice a m c) v3 i at_) true 1)) W i j at_ v1 (.slice a m c) v3 t1 (t2 ++ [t]) t3 n l subs := by
  obtain ⟨rows, e1, o1, h1⟩ := k.r1
  obtain ⟨rows2, e2, o2, h2⟩ := k.r2
  have o3 := k.r3
  have q1 := k.iW
  have q2 := k.jW
  have q3 := k.hi
  have q4 := k.hj
  have q5 := k.lt
  obtain ⟨w, g', hap, o, hf, hid⟩ := o2.append (bytes := 24) (ys := [v]) (k := 1) rfl (by omega)
  obtain ⟨a, c, rfl⟩ := o.shapeN
  have hW : W ∉ idOf v2 := fun hx => by have := k.id2 W hx; omega
  have hrec := (hf.get W q5 hW).trans k.rec_
  have hnew : ∀ x ∈ idOf (.slice a (t2.length + 1) c), W < x := fun x hx => by
    rcases hid x hx with h1 | h1
    · exact k.id2 x h1
    · omega
  have FW : ∀ ob, Fr g' (g'.set W ob) [W] := fun ob => Fr.set _ _ (by simp)
  have hn := hf.n
  have go : ∀ {rows : List (It × Value)} {f : It × Value → List UInt8}, (∀ p ∈ rows, IsBytes g p.2 (f p) ∧ SepV W p.2 v1 v2 v3) → ∀ ob, ∀ p ∈ rows, IsBytes (g'.set W ob) p.2 (f p) ∧ SepV W p.2 v1 (.slice a (t2.length + 1) c) v3 := fun hr ob =>
    rowsFr (FW ob) (fun x hx => .inl (by simp at hx; omega)) (fun p hp => ⟨(rowsFr hf (fun x hx => .inr (.inr (.inl hx))) hr p hp).1, (rowsSep hr (fun x hx => .inl hx) hid (fun x hx => .inl hx) p hp).2⟩)
  have hrow : ∀ p ∈ rows2 ++ [(t, v)], IsBytes g p.2 p.1.b ∧ SepV W p.2 v1 v2 v3 := fun p hp => by
    rcases List.mem_append.1 hp with hp | hp
    · exact h2 p hp
    · simp at hp; subst hp; exact ⟨hv, hs⟩
  refine ⟨a, _, c, g', hap, hf, hrec, ⟨⟨rows, e1, (o1.fr hf (fun x hx hx' => own_disj o1 o2 (by decide) x hx hx')).fr (FW _) (fun x hx => by have := k.id1 x hx; simp; omega), go h1 _⟩, ⟨rows2 ++ [(t, v)], by simp [e2], ?_, go hrow _⟩,
    (o3.fr hf (fun x hx hx' => own_disj o3 o2 (by decide) x hx hx')).fr (FW _) (fun x hx => by have := k.id3 x hx; simp; omega), k.id1, hnew, k.id3, ?_, ?_, by simp; omega, ?_, VH.get_set_same _ _ _, q1, q2, q3, q4⟩⟩
  · rw [List.map_append, List.length_append]
    exact o.fr (FW _) (fun x hx => by have := hnew x hx; simp; omega)
  · exact (k.chain.frX hf (fun hx => by have := k.id2 i hx; omega) (fun hx => by have := k.id2 j hx; omega)).frX (FW _) (by simp; omega) (by simp; omega)
  · exact (k.fr.trans' hf (fun y hy => .inr (by have := k.id2 y hy; omega))).trans' (FW _) (fun y hy => .inr (by simp at hy; omega))
  · rw [VH.get_set_ne _ _ (by omega), hf.get _ (by omega) (fun hx => by have := k.id2 _ hx; omega)]; exact k.z6
theorem WSt.app3 (k : WSt h g W i j at_ v1 v2 v3 t1 t2 t3 n l subs) {t : It} (ht : t.l.length = 32) (hb : t3.length < 1000000000) :
    ∃ a m c g', appendV g 32 32 v3 (u8s t.l) 1 = some (.slice a m c, g') ∧ Fr g g' (idOf v3) ∧ g'.get W = .cells (wsL v1 v2 v3 i at_) true 1 ∧ WSt h (g'.set W (.cells (wsL v1 v2 (.slice a m c) i at_) true 1)) W i j at_ v1 v2 (.slice a m c) t1 t2 (t3 ++ [t]) n l subs := by
  obtain ⟨rows, e1, o1, h1⟩ := k.r1
  obtain ⟨rows2, e2, o2, h2⟩ := k.r2
  have o3 := k.r3
  have q1 := k.iW
  have q2 := k.jW
  have q3 := k.hi
  have q4 := k.hj
  have q5 := k.lt
  obtain ⟨w, g', hap, o, hf, hid⟩ := o3.append (bytes := 32) (ys := u8s t.l) (k := 1) (by simp [ht]) (by omega)
  obtain ⟨a, c, rfl⟩ := o.shapeN
  have hW : W ∉ idOf v3 := fun hx => by have := k.id3 W hx; omega
  have hrec := (hf.get W q5 hW).trans k.rec_
  have hnew : ∀ x ∈ idOf (.slice a (t3.length + 1) c), W < x := fun x hx => by
    rcases hid x hx with h1 | h1
    · exact k.id3 x h1
    · omega
  have FW : ∀ ob, Fr g' (g'.set W ob) [W] := fun ob => Fr.set _ _ (by simp)
  have hn := hf.n
  have go : ∀ {rows : List (It × Value)} {f : It × Value → List UInt8}, (∀ p ∈ rows, IsBytes g p.2 (f p) ∧ SepV W p.2 v1 v2 v3) → ∀ ob, ∀ p ∈ rows, IsBytes (g'.set W ob) p.2 (f p) ∧ SepV W p.2 v1 v2 (.slice a (t3.length + 1) c) := fun hr ob =>
    rowsFr (FW ob) (fun x hx => .inl (by simp at hx; omega)) (fun p hp => ⟨(rowsFr hf (fun x hx => .inr (.inr (.inr hx))) hr p hp).1, (rowsSep hr (fun x hx => .inl hx) (fun x hx => .inl hx) hid p hp).2⟩)
  refine ⟨a, _, c, g', hap, hf, hrec, ⟨⟨rows, e1, (o1.fr hf (fun x hx hx' => own_disj o1 o3 (by decide) x hx hx')).fr (FW _) (fun x hx => by have := k.id1 x hx; simp; omega), go h1 _⟩, ⟨rows2, e2, (o2.fr hf (fun x hx hx' => own_disj o2 o3 (by decide) x hx hx')).fr (FW _) (fun x hx => by have := k.id2 x hx; simp; omega), go h2 _⟩,
    ?_, k.id1, k.id2, hnew, ?_, ?_, by simp; omega, ?_, VH.get_set_same _ _ _, q1, q2, q3, q4⟩⟩
  · rw [List.flatMap_append, List.length_append, List.flatMap_singleton]
    exact o.fr (FW _) (fun x hx => by have := hnew x hx; simp; omega)
  · exact (k.chain.frX hf (fun hx => by have := k.id3 i hx; omega) (fun hx => by have := k.id3 j hx; omega)).frX (FW _) (by simp; omega) (by simp; omega)
  · exact (k.fr.trans' hf (fun y hy => .inr (by have := k.id3 y hy; omega))).trans' (FW _) (fun y hy => .inr (by simp at hy; omega))
  · rw [VH.get_set_ne _ _ (by omega), hf.get _ (by omega) (fun hx => by have := k.id3 _ hx; omega)]; exact k.z6
end

section
variable {a b c d e f : Value} {ow : Bool} {z : Nat} {p : Option Addr} {q r : Nat}
theorem ld6_0 : loadObj (.cells [a, b, c, d, e, f] ow z) 0 none = some a := rfl
theorem ld6_1 : loadObj (.cells [a, b, c, d, e, f] ow z) 1 none = some b := rfl
theorem ld6_2 : loadObj (.cells [a, b, c, d, e, f] ow z) 2 none = some c := rfl
theorem ld6_3 : loadObj (.cells [a, b, c, d, e, f] ow z) 3 none = some d := rfl
theorem ld6_4 : loadObj (.cells [a, b, c, d, e, f] ow z) 4 none = some e := rfl
theorem ld6_5 : loadObj (.cells [a, b, c, d, e, f] ow z) 5 none = some f := rfl
theorem ld6_A : loadObj (.cells [a, b, c, d, e, f] ow z) 0 (some 6) = some (.agg #[a, b, c, d, e, f]) := rfl
theorem st6_0 : storeObj (.cells [a, b, c, d, e, f] true z) 0 1 (.slice p q r) = some (.cells [.slice p q r, b, c, d, e, f] true z) := rfl
theorem st6_1 : storeObj (.cells [a, b, c, d, e, f] true z) 1 1 (.slice p q r) = some (.cells [a, .slice p q r, c, d, e, f] true z) := rfl
theorem st6_2 : storeObj (.cells [a, b, c, d, e, f] true z) 2 1 (.slice p q r) = some (.cells [a, b, .slice p q r, d, e, f] true z) := rfl
theorem st6_4 {k : IntKind} {x : Int} : storeObj (.cells [a, b, c, d, e, f] true z) 4 1 (.int k x) = some (.cells [a, b, c, d, .int k x, f] true z) := rfl
theorem st6_5 {k : IntKind} {x : Int} : storeObj (.cells [a, b, c, d, e, f] true z) 5 1 (.int k x) = some (.cells [a, b, c, d, e, .int k x] true z) := rfl
theorem st6_A {p1 p2 p3 p4 : Option Addr} {q1 q2 q3 r1 r2 r3 : Nat} {k l : IntKind} {x y : Int} : storeObj (.cells [a, b, c, d, e, f] true z) 0 6 (.agg #[.slice p1 q1 r1, .slice p2 q2 r2, .slice p3 q3 r3, .pointer p4, .int k x, .int l y]) = some (.cells [.slice p1 q1 r1, .slice p2 q2 r2, .slice p3 q3 r3, .pointer p4, .int k x, .int l y] true z) := rfl
end

/- audit, part H: a log is walked (the program's walk). -/

set_option maxHeartbeats 8000000 in
theorem walk_ok {h : VH} {v : Value} {bs : List UInt8} (hb : IsBytes h v bs) (hlen : bs.length ≤ 1000000000) :
    PCalls Try.prog f_audit_walk [v] h (WalkP h bs) := by
  refine PCalls_of_pw st_audit_walk (by simp [n_audit_walk]) ?_
  rw [b_audit_walk]
  obtain ⟨va, vc, rfl⟩ := hb.shape
  obtain ⟨L, hL⟩ : ∃ L, L = bs.length := ⟨_, rfl⟩
  rw [← hL]
  rw [← hL] at hb
  simp (disch := first|omega|(simp only [np,ns];try omega)) [B_audit_walk]
  refine (new_ok _).mono ?_
  rintro u g ⟨rfl, K0, F0⟩
  have hfl : ∀ p, fillC [.slice none 0 0, .slice none 0 0, .slice none 0 0, .pointer none, .int .i64 0, .int .i64 0] [(3, 1, .pointer p)] = some [.slice none 0 0, .slice none 0 0, .slice none 0 0, .pointer p, .int .i64 0, .int .i64 0] := fun p => rfl
  obtain ⟨W, hW⟩ : ∃ W, W = g.n := ⟨_, rfl⟩
  rw [VH.n_push] at K0
  obtain ⟨i, hi⟩ : ∃ i, i = h.n + 1 + 1 := ⟨_, rfl⟩
  obtain ⟨j, hj⟩ : ∃ j, j = h.n + 1 := ⟨_, rfl⟩
  have n0 := F0.n
  rw [VH.n_push] at n0
  have f6 : fillC [.slice none 0 0, .slice none 0 0, .slice none 0 0, .pointer none, .int .i64 0, .int .i64 0] [(3, 1, .pointer (some ⟨h.n + 1 + 1, 0, none⟩))] = some [.slice none 0 0, .slice none 0 0, .slice none 0 0, .pointer (some ⟨h.n + 1 + 1, 0, none⟩), .int .i64 0, .int .i64 0] := rfl
  have iW : i < W := by rw [hW, hi]; exact K0.lti
  have jW : j < W := by rw [hW, hj]; exact K0.ltj
  have hP : ∀ (g g0 : VH) (n at_ : Nat) (l : List UInt8) (subs : Sbs) (err : Int) (ae : Option Addr) (ne ce : Nat) (al : Option Addr) (nl cl : Nat) (ab : Option Addr) (nb cb : Nat) (ts : List It), Fr h g [] → Fr g0 g [W, h.n] → Chain g0 i j n l subs → ItemsAt (W + 1) g0 (.slice ae ne ce) (.slice al nl cl) (.slice ab nb cb) ts → (∀ p ∈ subs, p.2.length = 32) → walkS bs = ⟨n, l, subs, err, at_⟩ → itemsS bs = ts → n ≤ L →
      WalkP h bs (.agg #[.slice ae ne ce, .slice al nl cl, .slice ab nb cb, .pointer (some ⟨i, 0, none⟩), .int .i64 err, .int .i64 (at_ : Int)]) g := by
    intro g g0 n at_ l subs err ae ne ce al nl cl ab nb cb ts hf hf0 hk hit hs hw hts hn
    exact ⟨hf, ae, ne, ce, al, nl, cl, ab, nb, cb, i, j, by rw [hw], by rw [hw]; exact hk.frX hf0 (by simp; omega) (by simp; omega), by rw [hw]; exact hs, by omega, by omega, by rw [hw, ← hL]; exact hn, by rw [hts]; exact (hit.fr hf0 (by simp; omega)).mono (by omega)⟩
  have z6 := (F0.get h.n (by simp) (by simp)).trans (VH.get_push_new _ _)
  simp (disch := first|omega|(simp only [np,ns];try omega)) [hfl, st6_A]
  refine pw_loopN (fun k s g' => ∃ (at_ f n : Nat) (l : List UInt8) (subs : Sbs) (ae : Option Addr) (ne ce : Nat) (al : Option Addr) (nl cl : Nat) (ab : Option Addr) (nb cb : Nat) (ts : List It),
      s 0 = .slice va L vc ∧ s 2 = .pointer (some ⟨h.n, 0, none⟩) ∧ s 3 = .pointer (some ⟨W, 0, none⟩) ∧
      WSt h g' W i j at_ (.slice ae ne ce) (.slice al nl cl) (.slice ab nb cb) ts ts ts n l subs ∧
      (∀ p ∈ subs, p.2.length = 32) ∧ k ≤ at_ ∧ at_ ≤ L ∧ ts.length ≤ at_ ∧ n ≤ at_ ∧ L ≤ f + at_ ∧ itemsS bs = ts ++ itemsR (f + 1) (bs.drop at_) l subs ∧
      walkS bs = ⟨(walkR (f + 1) (bs.drop at_) n l subs).n, (walkR (f + 1) (bs.drop at_) n l subs).l, (walkR (f + 1) (bs.drop at_) n l subs).subs, (walkR (f + 1) (bs.drop at_) n l subs).err, at_ + (walkR (f + 1) (bs.drop at_) n l subs).at_⟩) L ?_ ?_
  · have FG : ∀ o o', Fr g ((g.push o).set g.n o') [] := fun o o' => Fr_set (Fr_push (Fr.refl _ _)) (Nat.le_refl _)
    refine ⟨0, L, 0, zero32, [], none, 0, 0, none, 0, 0, none, 0, 0, [], by simp [upd_apply, s0_apply], by simp [upd_apply], by simp [upd_apply, hW], ⟨⟨[], rfl, OwnSl.nil _ _, by simp⟩, ⟨[], rfl, OwnSl.nil _ _, by simp⟩, OwnSl.nil _ _, by simp [idOf], by simp [idOf], by simp [idOf], ?_, ?_, ?_, ?_, ?_, iW, jW, by omega, by omega⟩, by simp, by omega, by omega, by simp, by omega, by omega, by unfold itemsS; rw [← hL]; simp, ?_⟩
    · rw [hi, hj]; exact K0.fr (FG _ _)
    · exact ((Fr_push (Fr.refl _ _)).trans F0).trans (FG _ _)
    · simp [hW]
    · rw [VH.get_set_ne _ _ (by omega), VH.get_push_lt _ _ (by omega)]; exact z6
    · rw [hW, VH.get_set_same, hi]; rfl
    · unfold walkS; rw [← hL]; simp
  rintro k s g' hk ⟨at_, f, n, l, subs, ae, ne, ce, al, nl, cl, ab, nb, cb, ts, e0, e2, e3, S0, hs32, hka, haL, q1, q4, hfL, hits, hws⟩
  have hF := S0.fr
  have K := S0.chain
  have gW := S0.rec_
  have gz := S0.z6
  have hWn := S0.lt
  unfold wsL at gW
  by_cases hlt : at_ < L
  case neg =>
    obtain rfl : at_ = L := by omega
    have hd0 : (bs.drop at_).length = 0 := by simp; omega
    rw [walkR_succ, if_pos hd0] at hws
    rw [itemsR_succ, if_pos hd0, List.append_nil] at hits
    simp (disch := first|omega|(simp only [np,ns];try omega)) [r_audit_walk, e0, e2, e3, gW, gz, ld6_5, ld6_A, st6_A]
    refine hP _ _ _ _ _ _ _ _ _ _ _ _ _ _ _ _ _ ?_ ?_ K S0.items hs32 hws hits (by omega)
    · exact Fr_set hF (Nat.le_refl _)
    · exact FrX_set (Fr.refl _ _) (by simp)
  have hltI : (at_ : Int) < (L : Int) := by omega
  have hd0 : (bs.drop at_).length ≠ 0 := by simp; omega
  rw [walkR_succ, if_neg hd0] at hws
  rw [itemsR_succ, if_neg hd0] at hits
  simp (disch := first|omega|(simp only [np,ns];try omega)) [e0, e3, gW, ld6_5, hlt, hltI]
  have hbg := isB_fr hF hb
  refine (cut_ok (hL ▸ hbg) (by omega) hlen).mono ?_
  rintro u g1 ⟨F1, la, lm, lc, rfl, hlb, hlid⟩
  obtain ⟨T, hT⟩ : ∃ T, T = bs.drop at_ := ⟨_, rfl⟩
  have hTl : T.length = L - at_ := by rw [hT, hL]; simp
  rw [← hT] at hws hits hlb ⊢
  have hsp := @cutS_spec T
  have hdd : ∀ m, T.drop m = bs.drop (at_ + m) := fun m => by rw [hT, List.drop_drop]
  generalize cutS T = C at hws hits hlb hsp ⊢
  obtain ⟨X, tk, e1⟩ := C
  simp only at hws hits hlb hsp ⊢
  have S1 := S0.step F1
  have gW1 := S1.rec_
  have gz1 := S1.z6
  unfold wsL at gW1
  have m1 := F1.n
  by_cases he1 : e1 = 0
  case neg =>
    have he1b : (e1 != 0) = true := by simpa using he1
    rw [if_pos he1] at hws
    rw [if_pos he1, List.append_nil] at hits
    simp (disch := first|omega|(simp only [np,ns];try omega)) [r_audit_walk, e0, e2, e3, he1b, gW1, gz1, st6_4, ld6_A, st6_A]
    refine hP _ _ _ _ _ _ _ _ _ _ _ _ _ _ _ _ _ ?_ ?_ S1.chain S1.items hs32 hws hits (by omega)
    · repeat first | exact S1.fr | refine Fr_push ?_ | refine Fr_set ?_ (by omega)
    · repeat first | exact Fr.refl _ _ | refine FrX_push ?_ | refine FrX_set ?_ (by simp)
  subst he1
  obtain ⟨t1, t2, t3, t4⟩ := hsp rfl
  rw [if_neg (by simp)] at hws hits
  simp (disch := first|omega|(simp only [np,ns];try omega)) [e0, e3, gW1, ld6_4]
  refine (eread_ok hlb (by omega)).mono ?_
  rintro u g2 ⟨F2, hR⟩
  have S2 := S1.step F2
  have gW2 := S2.rec_
  have gz2 := S2.z6
  unfold wsL at gW2
  have m2 := F2.n
  have hs7 : ∀ (e : En) (p : Option Addr) (q r : Nat), storeObj (.cells [.string ⟨#[]⟩, .int .i64 0, .string ⟨#[]⟩, .slice none 0 0] true 1) 0 4 (enV e (.slice p q r)) = some (.cells [.string (strB e.t), .int .i64 e.at_, .string (strB e.w), .slice p q r] true 1) := fun _ _ _ _ => rfl
  have hs8 : ∀ (a : List UInt8), a.length = 32 → storeObj (.cells [.int .u8 0, .int .u8 0, .int .u8 0, .int .u8 0, .int .u8 0, .int .u8 0, .int .u8 0, .int .u8 0, .int .u8 0, .int .u8 0, .int .u8 0, .int .u8 0, .int .u8 0, .int .u8 0, .int .u8 0, .int .u8 0, .int .u8 0, .int .u8 0, .int .u8 0, .int .u8 0, .int .u8 0, .int .u8 0, .int .u8 0, .int .u8 0, .int .u8 0, .int .u8 0, .int .u8 0, .int .u8 0, .int .u8 0, .int .u8 0, .int .u8 0, .int .u8 0] true 1) 0 32 (digV a) = some (.cells (u8s a) true 1) := fun a ha => dig_store ha rfl
  by_cases hok : okS X = true
  case neg =>
    rw [if_neg hok] at hR
    have hokf : okS X = false := by simpa using hok
    rw [if_pos hokf] at hws
    rw [if_pos hokf, List.append_nil] at hits
    subst hR
    simp (disch := first|omega|(simp only [np,ns];try omega)) [r_audit_walk, e0, e2, e3, hs7, hs8 zero32 rfl, gW2, gz2, st6_4, ld6_A, st6_A]
    refine hP _ _ _ _ _ _ _ _ _ _ _ _ _ _ _ _ _ ?_ ?_ S2.chain S2.items hs32 hws hits (by omega)
    · repeat first | exact S2.fr | refine Fr_push ?_ | refine Fr_set ?_ (by omega)
    · repeat first | exact Fr.refl _ _ | refine FrX_push ?_ | refine FrX_set ?_ (by simp)
  rw [if_pos hok] at hR
  rw [if_neg (by rw [hok]; simp)] at hws hits
  obtain ⟨ea, em, ec, rfl, heb, heid⟩ := hR
  obtain ⟨e, he⟩ : ∃ e, e = enOf (readS X).1 := ⟨_, rfl⟩
  obtain ⟨A, hA⟩ : ∃ A, A = ahOf (readS X).1 := ⟨_, rfl⟩
  have hAl : A.length = 32 := by
    simp only [okS, ← hA, Bool.and_eq_true, decide_eq_true_eq] at hok
    omega
  rw [← he, ← hA] at hws hits ⊢
  rw [← he] at heb
  obtain ⟨B, hB⟩ : ∃ B, B = aheadS subs e.t := ⟨_, rfl⟩
  have hBl : B.length = 32 := by rw [hB]; exact sget_len hs32
  rw [← hB] at hws hits
  obtain ⟨g3, hg3⟩ : ∃ x, x = (((g2.push (.cells [.string ⟨#[]⟩, .int .i64 0, .string ⟨#[]⟩, .slice none 0 0] true 1)).push (.cells [.int .u8 0, .int .u8 0, .int .u8 0, .int .u8 0, .int .u8 0, .int .u8 0, .int .u8 0, .int .u8 0, .int .u8 0, .int .u8 0, .int .u8 0, .int .u8 0, .int .u8 0, .int .u8 0, .int .u8 0, .int .u8 0, .int .u8 0, .int .u8 0, .int .u8 0, .int .u8 0, .int .u8 0, .int .u8 0, .int .u8 0, .int .u8 0, .int .u8 0, .int .u8 0, .int .u8 0, .int .u8 0, .int .u8 0, .int .u8 0, .int .u8 0, .int .u8 0] true 1)).set g2.n (.cells [.string (strB e.t), .int .i64 e.at_, .string (strB e.w), .slice ea em ec] true 1)).set (g2.n + 1) (.cells (u8s A) true 1) := ⟨_, rfl⟩
  have F3 : Fr g2 g3 [] := by rw [hg3]; exact Fr_set (Fr_set (Fr_push (Fr_push (Fr.refl _ _))) (by simp)) (by simp)
  have S3 := S2.step F3
  have gW3 := S3.rec_
  have gz3 := S3.z6
  unfold wsL at gW3
  have y1 : g3.get g2.n = .cells [.string (strB e.t), .int .i64 e.at_, .string (strB e.w), .slice ea em ec] true 1 := by rw [hg3, VH.get_set_ne _ _ (by omega), VH.get_set_same]
  have y2 : g3.get (g2.n + 1) = .cells (u8s A) true 1 := by rw [hg3, VH.get_set_same]
  have m3 : g3.n = g2.n + 2 := by rw [hg3]; simp
  have hlA : loadObj (.cells (u8s A) true 1) 0 (some 32) = some (.agg (u8s A).toArray) := dig_load hAl
  have hl3 := K.ll
  obtain ⟨es, clk, em3, hr3⟩ := S3.chain.map_
  have c3 := S3.chain.rec_
  have hk3 := keys_subs hr3
  have hgt := mget_subs (t := e.t) hr3
  have hfit : fitK .s (.string (strB e.t)) = true := rfl
  have hlm : ∀ {ow e}, loadObj (.cells (chL n l j) ow e) 33 none = some (.map (some j)) := ch_ldm hl3
  have hmv : mval false (.agg #[.int .u8 0, .int .u8 0, .int .u8 0, .int .u8 0, .int .u8 0, .int .u8 0, .int .u8 0, .int .u8 0, .int .u8 0, .int .u8 0, .int .u8 0, .int .u8 0, .int .u8 0, .int .u8 0, .int .u8 0, .int .u8 0, .int .u8 0, .int .u8 0, .int .u8 0, .int .u8 0, .int .u8 0, .int .u8 0, .int .u8 0, .int .u8 0, .int .u8 0, .int .u8 0, .int .u8 0, .int .u8 0, .int .u8 0, .int .u8 0, .int .u8 0, .int .u8 0]) ((sget e.t subs).map digV) = .agg (u8s B).toArray := by
    rw [hB]
    unfold aheadS
    cases sget e.t subs <;> rfl
  have hf1 := fits32 hAl
  have hf2 := fits32 hBl
  have hcb := cellsB_u8s A B (by rw [hAl, hBl])
  by_cases hAB : A = B
  case neg =>
    have hABb : (A == B) = false := by simpa using hAB
    rw [hABb] at hcb
    rw [if_pos hAB] at hws
    rw [if_pos hAB, List.append_nil] at hits
    simp (disch := first|omega|(simp only [np,ns];try omega)) [r_audit_walk, e0, e2, e3, hs7, hs8 A hAl, ← hg3, gW3, gz3, y1, y2, hlA, c3, em3, hk3, hgt, hfit, hlm, hmv, hf1, hf2, hcb, ld4_0, ld6_3, st6_4, ld6_A, st6_A]
    refine hP _ _ _ _ _ _ _ _ _ _ _ _ _ _ _ _ _ ?_ ?_ S3.chain S3.items hs32 hws hits (by omega)
    · repeat first | exact S3.fr | refine Fr_push ?_ | refine Fr_set ?_ (by omega)
    · repeat first | exact Fr.refl _ _ | refine FrX_push ?_ | refine FrX_set ?_ (by simp)
  have hABb : (A == B) = true := by simpa using hAB
  rw [hABb] at hcb
  rw [if_neg (by simpa using hAB)] at hws hits
  simp only at hws
  rw [hdd] at hws hits
  obtain ⟨it, hit⟩ : ∃ it : It, it = ⟨e, X, l⟩ := ⟨_, rfl⟩
  rw [← hit] at hits
  -- the entry
  have hrow4 : fillC [.string ⟨#[]⟩, .int .i64 0, .string ⟨#[]⟩, .slice none 0 0] [(0, 4, .agg #[.string (strB e.t), .int .i64 e.at_, .string (strB e.w), .slice ea em ec])] = some [.string (strB e.t), .int .i64 e.at_, .string (strB e.w), .slice ea em ec] := rfl
  have hro4 : rowObj (.cells [.string (strB e.t), .int .i64 e.at_, .string (strB e.w), .slice ea em ec] true 4) 0 4 = some [.string (strB e.t), .int .i64 e.at_, .string (strB e.w), .slice ea em ec] := rfl
  have S4 := S3.step (Fr_push (o := .cells [.string (strB e.t), .int .i64 e.at_, .string (strB e.w), .slice ea em ec] true 4) (Fr.refl _ _))
  have ite : it.e = e := by rw [hit]
  have itb : it.b = X := by rw [hit]
  have itl : it.l = l := by rw [hit]
  have heS : SepV W (.slice ea em ec) (.slice ae ne ce) (.slice al nl cl) (.slice ab nb cb) := fun x hx => by
    have h1 := heid x hx
    obtain ⟨_, o1⟩ := S1.own1
    obtain ⟨_, o2⟩ := S1.own2
    obtain ⟨_, o3⟩ := S1.own3
    have h2 := S1.lt
    exact ⟨by omega, fun h => by have := o1.lt x h; omega, fun h => by have := o2.lt x h; omega, fun h => by have := o3.lt x h; omega⟩
  obtain ⟨xa, xm, xc, g4, hap1, hf4, gW4, S5⟩ := S4.app1 (t := it) (v := .slice ea em ec) (by rw [ite]; exact isB_fr (Fr_push (Fr.refl _ _)) (isB_fr F3 heb)) heS (by omega)
  rw [ite] at hap1
  unfold enL at hap1
  obtain ⟨g5, hg5⟩ : ∃ x, x = g4.set W (.cells (wsL (.slice xa xm xc) (.slice al nl cl) (.slice ab nb cb) i at_) true 1) := ⟨_, rfl⟩
  rw [← hg5] at S5
  have gW5 := S5.rec_
  have w4 := hf4.n
  have v1n : g2.n ∉ idOf (.slice ae ne ce) := fun hx => by
    obtain ⟨c, o⟩ := S2.own1
    have := o.lt _ hx
    omega
  have y5 : g5.get g2.n = .cells [.string (strB e.t), .int .i64 e.at_, .string (strB e.w), .slice ea em ec] true 1 := by
    rw [hg5, VH.get_set_ne _ _ (by omega), hf4.get _ (by simp; omega) v1n, VH.get_push_lt _ _ (by omega)]; exact y1
  have m5 : g3.n ≤ g5.n := by rw [hg5]; simp at w4 ⊢; omega
  unfold wsL at gW4 gW5 hg5
  -- the line
  have hlid' : ∀ x ∈ idOf (.slice la lm lc), x < h.n := fun x hx => isB_lt hb x (hlid x hx)
  have line : ∀ {p q : VH} {Y : List Nat}, IsBytes p (.slice la lm lc) X → Fr p q Y → (∀ y ∈ Y, h.n ≤ y) → IsBytes q (.slice la lm lc) X := by
    intro p q Y hp hf hy
    exact hp.fr hf (fun x hx hxy => by have := hlid' x hx; have := hy x hxy; omega)
  have FW5 : Fr g4 g5 [W] := by rw [hg5]; exact Fr.set _ _ (by simp)
  have hlb4 : IsBytes g4 (.slice la lm lc) X := line (isB_fr (Fr_push (Fr.refl _ _)) (isB_fr F3 (isB_fr F2 hlb))) hf4 (fun y hy => by have := S0.id1 y hy; omega)
  have hlb5 : IsBytes g5 (.slice la lm lc) X := line hlb4 FW5 (fun y hy => by simp at hy; omega)
  have hls := hlb5.src
  obtain ⟨lw, g6, hap2, B6⟩ := (Buf.nil g5).append X (by simp; omega)
  rw [List.nil_append] at B6
  obtain ⟨ba, bn, bc, rfl⟩ : ∃ a n c, lw = .slice a n c := by
    obtain ⟨a, c, rfl⟩ := B6.shape
    exact ⟨_, _, _, rfl⟩
  have hlm' : lm = X.length := by
    obtain ⟨a', c', h1⟩ := hlb.shape
    injection h1
  rw [← hlm'] at hap2
  have S6 := (S5.step B6.fr).step (Fr_push (o := .cells [.slice ba bn bc] true 1) (Fr.refl _ _))
  have hbS : SepV W (.slice ba bn bc) (.slice xa xm xc) (.slice al nl cl) (.slice ab nb cb) := fun x hx => by
    have h1 := B6.ids x hx
    obtain ⟨_, o1⟩ := S5.own1
    obtain ⟨_, o2⟩ := S5.own2
    obtain ⟨_, o3⟩ := S5.own3
    have h2 := S5.lt
    exact ⟨by omega, fun h => by have := o1.lt x h; omega, fun h => by have := o2.lt x h; omega, fun h => by have := o3.lt x h; omega⟩
  obtain ⟨xa2, xm2, xc2, g7, hap3, hf7, gW7, S8⟩ := S6.app2 (t := it) (v := .slice ba bn bc) (by rw [itb]; exact isB_fr (Fr_push (Fr.refl _ _)) B6.own.bytes) hbS (by omega)
  obtain ⟨g8, hg8⟩ : ∃ x, x = g7.set W (.cells (wsL (.slice xa xm xc) (.slice xa2 xm2 xc2) (.slice ab nb cb) i at_) true 1) := ⟨_, rfl⟩
  rw [← hg8] at S8
  have gW8 := S8.rec_
  have w7 := hf7.n
  have w6 := B6.fr.n
  have gW6 : g6.get W = .cells (wsL (.slice xa xm xc) (.slice al nl cl) (.slice ab nb cb) i at_) true 1 := (S5.step B6.fr).rec_
  unfold wsL at gW6 gW7 gW8 hg8
  have hro1 : rowObj (.cells [.slice ba bn bc] true 1) 0 1 = some [.slice ba bn bc] := rfl
  have hfi1 : fillC [.slice none 0 0] [(0, 1, .slice ba bn bc)] = some [.slice ba bn bc] := rfl
  have hon1 : ([Value.slice ba bn bc]).all Value.oneCell' = true := rfl
  simp (disch := first|omega|(simp only [np,ns];try omega)) [e0, e3, hs7, hs8 A hAl, ← hg3, gW3, y1, y2, hlA, c3, em3, hk3, hgt, hfit, hlm, hmv, hf1, hf2, hcb, ld4_0, ld6_3, ld6_0, ld4_all, hrow4, en_all, hro4, hap1, gW4, st6_0, ← hg5, gW5, ld6_1, hls, hap2, gW6, hfi1, hon1, hro1, hap3, gW7, st6_1, ← hg8, gW8, ld6_2]
  -- what stood ahead
  have c8 := S8.chain.rec_
  have hll : loadObj (.cells (chL n l j) true 1) 1 (some 32) = some (digV l) := ch_ldl hl3
  have hfl2 : fillC [.int .u8 0, .int .u8 0, .int .u8 0, .int .u8 0, .int .u8 0, .int .u8 0, .int .u8 0, .int .u8 0, .int .u8 0, .int .u8 0, .int .u8 0, .int .u8 0, .int .u8 0, .int .u8 0, .int .u8 0, .int .u8 0, .int .u8 0, .int .u8 0, .int .u8 0, .int .u8 0, .int .u8 0, .int .u8 0, .int .u8 0, .int .u8 0, .int .u8 0, .int .u8 0, .int .u8 0, .int .u8 0, .int .u8 0, .int .u8 0, .int .u8 0, .int .u8 0] [(0, 32, digV l)] = some (u8s l) := fillC_whole (v := digV l) (by show (u8s l).length = 32; simp [hl3]) rfl
  have hon2 : (u8s l).all Value.oneCell' = true := by simp [u8s, Value.oneCell']
  have hro2 : rowObj (.cells (u8s l) true 32) 0 32 = some (u8s l) := by
    have h1 : (u8s l).length = 32 := by simp [hl3]
    simp [rowObj, h1, List.take_of_length_le]
  have S9 := S8.step (Fr_push (o := .cells (u8s l) true 32) (Fr.refl _ _))
  obtain ⟨xa3, xm3, xc3, g9, hap4, hf9, gW9, S10⟩ := S9.app3 (t := it) (by rw [itl]; exact hl3) (by omega)
  rw [itl] at hap4
  obtain ⟨g10, hg10⟩ : ∃ x, x = g9.set W (.cells (wsL (.slice xa xm xc) (.slice xa2 xm2 xc2) (.slice xa3 xm3 xc3) i at_) true 1) := ⟨_, rfl⟩
  rw [← hg10] at S10
  have gW10 := S10.rec_
  have w9 := hf9.n
  unfold wsL at gW9 gW10 hg10
  have FW8 : Fr g7 g8 [W] := by rw [hg8]; exact Fr.set _ _ (by simp)
  have FW10 : Fr g9 g10 [W] := by rw [hg10]; exact Fr.set _ _ (by simp)
  have v2n : g2.n ∉ idOf (.slice al nl cl) := fun hx => by
    obtain ⟨c, o⟩ := S2.own2
    have := o.lt _ hx
    omega
  have v3n : g2.n ∉ idOf (.slice ab nb cb) := fun hx => by
    obtain ⟨c, o⟩ := S2.own3
    have := o.lt _ hx
    omega
  rw [VH.n_push] at w7 w9
  have w8 := FW8.n
  have w10 := FW10.n
  have y6 := (B6.fr.get _ (by omega) (by simp)).trans y5
  have y7 : g7.get g2.n = .cells [.string (strB e.t), .int .i64 e.at_, .string (strB e.w), .slice ea em ec] true 1 := by
    rw [hf7.get _ (by simp; omega) v2n, VH.get_push_lt _ _ (by omega)]; exact y6
  have y8 := (FW8.get g2.n (by omega) (by simp; omega)).trans y7
  have y9 : g9.get g2.n = .cells [.string (strB e.t), .int .i64 e.at_, .string (strB e.w), .slice ea em ec] true 1 := by
    rw [hf9.get _ (by simp; omega) v3n, VH.get_push_lt _ _ (by omega)]; exact y8
  have y10 := (FW10.get g2.n (by omega) (by simp; omega)).trans y9
  have hlb6 := isB_fr (Fr_push (o := .cells [.slice ba bn bc] true 1) (Fr.refl _ _)) (isB_fr B6.fr hlb5)
  have hlb8 := line (line hlb6 hf7 (fun y hy => by have := S0.id2 y hy; omega)) FW8 (fun y hy => by simp at hy; omega)
  have hlb9 := line (isB_fr (Fr_push (o := .cells (u8s l) true 32) (Fr.refl _ _)) hlb8) hf9 (fun y hy => by have := S0.id3 y hy; omega)
  have hlb10 := line hlb9 FW10 (fun y hy => by simp at hy; omega)
  simp (disch := first|omega|(simp only [np,ns];try omega)) [e0, e3, c8, gW8, ld6_2, hll, hfl2, hon2, hro2, hap4, gW9, st6_2, ← hg10, gW10, ld6_3, y10, ld4_0]
  refine (put_ok S10.chain hlb10 (fun x hx => by have := hlid' x hx; omega) (by omega) (by omega)).mono ?_
  rintro u g11 ⟨K11, F11⟩
  have S11 := S10.chained K11 F11
  have gW11 := S11.rec_
  have S12 := S11.moved (at2 := at_ + tk)
  obtain ⟨D, hD⟩ : ∃ D, D = at_ + tk := ⟨_, rfl⟩
  rw [← hD] at S12 hws hits
  obtain ⟨g12, hg12⟩ : ∃ x, x = g11.set W (.cells (wsL (.slice xa xm xc) (.slice xa2 xm2 xc2) (.slice xa3 xm3 xc3) i D) true 1) := ⟨_, rfl⟩
  rw [← hg12] at S12
  unfold wsL at gW11 hg12
  simp (disch := first|omega|(simp only [np,ns];try omega)) [e0, e3, gW11, st6_5, ← hg12]
  rw [show (at_ : Int) + (tk : Int) = (D : Int) by omega, ← hg12]
  obtain ⟨f', rfl⟩ : ∃ f', f = f' + 1 := ⟨f - 1, by omega⟩
  rw [show L - at_ = L - at_ from rfl] at hTl
  refine ⟨by omega, e2, D, f', n + 1, shaS (l ++ X), sput e.t (shaS X) subs, xa, xm, xc, xa2, xm2, xc2, xa3, xm3, xc3, ts ++ [it], S12, fun a b hab => sput_len (shaS_len _) hs32 (a, b) hab, by omega, by omega, by simp; omega, by omega, by omega, by rw [hits]; simp, ?_⟩
  rw [hws]
  congr 1
  omega
end Go.Proofs.Ytdnkpgbggpbgaaa.Au
