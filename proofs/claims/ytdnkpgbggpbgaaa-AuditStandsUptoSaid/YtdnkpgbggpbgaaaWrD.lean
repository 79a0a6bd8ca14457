/- wire, part D: fields are read (the program). -/
import Derived.Test.YtdnkpgbggpbgaaaWrC
set_option linter.unusedVariables false
set_option linter.unusedSimpArgs false
set_option maxRecDepth 100000
namespace Go.Proofs.Ytdnkpgbggpbgaaa.Wr
open Go Go.RowKit Go.Proofs.Ytdnkpgbggpbgaaa.Pm Go.Proofs.Ytdnkpgbggpbgaaa.Fs
attribute [-simp] BitVec.toNat_or BitVec.toNat_xor BitVec.toNat_add BitVec.toNat_and BitVec.toNat_not BitVec.toNat_shiftLeft BitVec.toNat_ushiftRight

def zeroF : Fd := ⟨0, 0, 0, []⟩
/-- a field out of bytes: the field, how many bytes it took, what is wrong. -/
def nextS (bs : List UInt8) : Fd × Nat × Int :=
  if (getS 0 0 bs).2.2 ≠ 0 then (zeroF, 0, (getS 0 0 bs).2.2) else
  if (getS 0 0 bs).1 / 8 < 1 ∨ 536870911 < (getS 0 0 bs).1 / 8 then (zeroF, 0, 30) else
  if (getS 0 0 bs).1 % 8 = 0 then
    (⟨((getS 0 0 bs).1 / 8 : Nat), 0, (getS 0 0 (bs.drop (getS 0 0 bs).2.1)).1, []⟩, (getS 0 0 bs).2.1 + (getS 0 0 (bs.drop (getS 0 0 bs).2.1)).2.1, (getS 0 0 (bs.drop (getS 0 0 bs).2.1)).2.2)
  else if (getS 0 0 bs).1 % 8 = 1 then
    if (bs.drop (getS 0 0 bs).2.1).length < 8 then (zeroF, 0, 8) else (⟨((getS 0 0 bs).1 / 8 : Nat), 1, numB ((bs.drop (getS 0 0 bs).2.1).take 8), []⟩, (getS 0 0 bs).2.1 + 8, 0)
  else if (getS 0 0 bs).1 % 8 = 5 then
    if (bs.drop (getS 0 0 bs).2.1).length < 4 then (zeroF, 0, 8) else (⟨((getS 0 0 bs).1 / 8 : Nat), 5, numB ((bs.drop (getS 0 0 bs).2.1).take 4), []⟩, (getS 0 0 bs).2.1 + 4, 0)
  else if (getS 0 0 bs).1 % 8 = 2 then
    let q := getS 0 0 (bs.drop (getS 0 0 bs).2.1)
    if q.2.2 ≠ 0 then (zeroF, 0, q.2.2) else
    if (bs.drop ((getS 0 0 bs).2.1 + q.2.1)).length < q.1 then (zeroF, 0, 8) else
    (⟨((getS 0 0 bs).1 / 8 : Nat), 2, 0, (bs.drop ((getS 0 0 bs).2.1 + q.2.1)).take q.1⟩, (getS 0 0 bs).2.1 + q.2.1 + q.1, 0)
  else (zeroF, 0, 30)

theorem getS_spec : ∀ (l : List UInt8) (k acc : Nat), k ≤ 9 → acc < 18446744073709551616 → (getS k acc l).1 < 18446744073709551616 ∧ ((getS k acc l).2.2 = 0 → k < (getS k acc l).2.1 ∧ (getS k acc l).2.1 ≤ k + l.length) ∧ ((getS k acc l).2.2 = 0 ∨ (getS k acc l).2.2 = 8 ∨ (getS k acc l).2.2 = 30)
  | [], k, acc, hk, ha => ⟨by simp [getS], by simp [getS], by simp [getS]⟩
  | c :: r, k, acc, hk, ha => by
    rw [getS_cons]
    split
    · simp
    · split
      · refine ⟨or_lt64 ha (Nat.mod_lt _ (by decide)), by simp, .inl rfl⟩
      · split
        · simp
        · obtain ⟨h1, h2, h3⟩ := getS_spec r (k + 1) _ (by omega) (or_lt64 (a := acc) (b := ((c.toNat &&& 127) * 2 ^ (7 * k)) % 18446744073709551616) ha (Nat.mod_lt _ (by decide)))
          refine ⟨h1, fun e => ?_, h3⟩
          have := h2 e
          simp
          omega
theorem key_shr (n : Nat) : Int.fdiv (n : Int) 8 = ((n / 8 : Nat) : Int) := shr_u n 3
theorem key_and {n : Nat} (hn : n < 18446744073709551616) : Go.bits .and .u64 (n : Int) 7 = ((n % 8 : Nat) : Int) := by
  have := bits_and_u64_nat n 7 hn (by decide)
  rw [show (7 : Nat) = 2 ^ 3 - 1 by decide, Nat.and_two_pow_sub_one_eq_mod] at this
  exact this
theorem isB_sub {h : VH} {i o c a n : Nat} {bs : List UInt8} (hi : i < h.n) (hat : BytesAt h i o bs) (hn : a + n ≤ bs.length) (hc : n ≤ c) : IsBytes h (.slice (some ⟨i, o + a, none⟩) n c) ((bs.drop a).take n) := by
  have h1 := hat.sub a n hn
  have hl : ((bs.drop a).take n).length = n := by simp; omega
  have := BytesAt.is hi (c := c) (by omega) h1
  rwa [hl] at this
theorem take8 {l : List UInt8} (h : l.length = 8) : ∃ a b c d e f g i, l = [a, b, c, d, e, f, g, i] := by
  match l, h with
  | [a, b, c, d, e, f, g, i], _ => exact ⟨a, b, c, d, e, f, g, i, rfl⟩
theorem take4 {l : List UInt8} (h : l.length = 4) : ∃ a b c d, l = [a, b, c, d] := by
  match l, h with
  | [a, b, c, d], _ => exact ⟨a, b, c, d, rfl⟩
theorem low_ok {h : VH} {v : Value} {l : List UInt8} (hb : IsBytes h v l) (hl : l.length = 8 ∨ l.length = 4) : PCalls Try.prog f_wire_low [v] h (fun u h' => u = .int .u64 (numB l : Int) ∧ h' = h) := by
  rcases hl with hl | hl
  · obtain ⟨a, b, c, d, e, f, g, i, rfl⟩ := take8 hl
    exact low8_ok hb
  · obtain ⟨a, b, c, d, rfl⟩ := take4 hl
    exact low4_ok hb
theorem nil_at {h : VH} {v : Value} {bs : List UInt8} (hb : IsBytes h v bs) (hne : 0 < bs.length) : ∃ i o c, i < h.n ∧ bs.length ≤ c ∧ v = .slice (some ⟨i, o, none⟩) bs.length c ∧ BytesAt h i o bs := by
  rcases hb.cases with ⟨_, rfl⟩ | h1
  · simp at hne
  · exact h1

/-- what 'next' tells: the field's bytes are new. -/
def NextP (h : VH) (bs : List UInt8) (at_ : Nat) (u : Value) (h' : VH) : Prop :=
  Fr h h' [] ∧ ∃ (a b c : Int) (p : Option Addr) (q r : Nat) (e : Int), u = .tuple #[.agg #[.int .i64 a, .int .i64 b, .int .u64 c, .slice p q r], .int .i64 e, .int .i64 (nextS (bs.drop at_)).2.2] ∧
    ((nextS (bs.drop at_)).2.2 = 0 → a = (nextS (bs.drop at_)).1.num ∧ b = (nextS (bs.drop at_)).1.ty ∧ c = ((nextS (bs.drop at_)).1.n : Int) ∧ e = ((at_ + (nextS (bs.drop at_)).2.1 : Nat) : Int) ∧
      IsBytes h' (.slice p q r) (nextS (bs.drop at_)).1.b ∧ ∀ i ∈ idOf (.slice p q r), h.n ≤ i)
set_option maxHeartbeats 4000000 in
theorem next_ok {h : VH} {v : Value} {bs : List UInt8} (hb : IsBytes h v bs) {at_ : Nat} (ha : at_ < bs.length) (hlen : bs.length ≤ 1000000000) :
    PCalls Try.prog f_wire_next [v, .int .i64 (at_ : Int)] h (NextP h bs at_) := by
  refine PCalls_of_pw st_wire_next (by simp [n_wire_next]) ?_
  rw [b_wire_next]
  obtain ⟨T, hT⟩ : ∃ T, T = bs.drop at_ := ⟨_, rfl⟩
  obtain ⟨i, o, c, hi, hc, rfl, hat⟩ := nil_at hb (by omega)
  obtain ⟨L, hL⟩ : ∃ L, L = bs.length := ⟨_, rfl⟩
  have hTl : T.length = L - at_ := by rw [hT, hL]; simp
  simp (disch := first|omega|(simp only [np,ns];try omega)) [B_wire_next]
  obtain ⟨H, hH⟩ : ∃ H, H = h.push (.cells [.int .i64 0, .int .i64 0, .int .u64 0, .slice none 0 0] true 1) := ⟨_, rfl⟩
  rw [← hH]
  have hf0 : Fr h H [] := by rw [hH]; exact Fr.push _ _ _
  have hb0 := isB_fr hf0 hb
  refine (get_ok hb0 (Nat.le_of_lt ha) hlen).mono ?_
  rintro u g1 ⟨rfl, rfl⟩
  rw [← hT]
  obtain ⟨s1, s2, s3⟩ := getS_spec T 0 0 (by omega) (by omega)
  generalize hq : getS 0 0 T = q at s1 s2 s3
  obtain ⟨key, k, e⟩ := q
  simp only at s1 s2 s3 ⊢
  have hg1n : g1.n = h.n + 1 := by rw [hH]; rfl
  have hg1o : g1.get h.n = .cells [.int .i64 0, .int .i64 0, .int .u64 0, .slice none 0 0] true 1 := by rw [hH]; exact VH.get_push_new _ _
  clear hH
  have hfin : ∀ (e : Int) (g : VH) (cs : List Value), e ≠ 0 → Fr h g [] → (nextS T).2.2 = e → ∀ (a b c : Int) (p : Option Addr) (q r : Nat) (d : Int), NextP h bs at_ (.tuple #[.agg #[.int .i64 a, .int .i64 b, .int .u64 c, .slice p q r], .int .i64 d, .int .i64 e]) g := by
    intro e g cs he hf hn a b c p q r d
    refine ⟨hf, a, b, c, p, q, r, d, ?_, ?_⟩
    · rw [← hT, hn]
    · rw [← hT, hn]; exact fun h0 => absurd h0 he
  by_cases he : e = 0
  · subst he
    obtain ⟨k1, k2⟩ := s2 rfl
    have hsh := key_shr key
    have han := key_and s1
    obtain ⟨N, hN⟩ : ∃ N, N = key / 8 := ⟨_, rfl⟩
    obtain ⟨Y, hY⟩ : ∃ Y, Y = key % 8 := ⟨_, rfl⟩
    rw [← hN] at hsh
    rw [← hY] at han
    have hY8 : Y < 8 := by omega
    have hYw : IntKind.i64.wrap (Y : Int) = (Y : Int) := i64_small (by omega) (by omega)
    obtain ⟨M, hM⟩ : ∃ M : Int, M = if (536870912 : Int) < (N : Int) then 536870912 else (N : Int) := ⟨_, rfl⟩
    by_cases hbig : 536870911 < N
    · have hns : (nextS T).2.2 = 30 := by unfold nextS; rw [hq]; simp [← hN, hbig]
      have hMv : M = 536870912 := by rw [hM]; split <;> omega
      rw [hMv] at hM
      simp (disch := first|omega|(simp only [np,ns];try omega)) [r_wire_next, hsh, han, ← hM, hYw, fill4_2, fill4_0, st4_all, ld4_all, ld4_0, hg1o]
      exact hfin 30 _ [] (by decide) (Fr_set (Fr_set (Fr_push hf0) (by omega)) (by omega)) hns _ _ _ _ _ _ _
    have hMv : M = (N : Int) := by rw [hM]; split <;> omega
    rw [hMv] at hM
    have hNw : IntKind.i64.wrap (N : Int) = (N : Int) := i64_small (by omega) (by omega)
    by_cases hzero : N = 0
    · have hns : (nextS T).2.2 = 30 := by unfold nextS; rw [hq]; simp [← hN, hzero]
      simp (disch := first|omega|(simp only [np,ns];try omega)) [r_wire_next, hsh, han, ← hM, hzero, hYw, fill4_2, fill4_0, st4_all, ld4_all, ld4_0, hg1o]
      exact hfin 30 _ [] (by decide) (Fr_set (Fr_set (Fr_push hf0) (by omega)) (by omega)) hns _ _ _ _ _ _ _
    have hN1 : ¬ (N : Int) < 1 := by omega
    have hN2 : ¬ (536870911 : Int) < (N : Int) := by omega
    have hdd : ∀ j, (bs.drop (at_ + j)) = T.drop j := fun j => by rw [hT, List.drop_drop]
    obtain ⟨G, hG⟩ : ∃ G, G = (g1.push (.cells [.int .i64 0, .int .i64 0, .int .u64 0, .slice none 0 0] true 1)).set g1.n (.cells [.int .i64 (N : Int), .int .i64 (Y : Int), .int .u64 0, .slice none 0 0] true 1) := ⟨_, rfl⟩
    have hGF : Fr h G [] := by rw [hG]; exact Fr_set (Fr_push hf0) (by omega)
    have hGn : G.n = h.n + 2 := by rw [hG]; simp; omega
    have hGo : G.get h.n = .cells [.int .i64 0, .int .i64 0, .int .u64 0, .slice none 0 0] true 1 := by rw [hG, VH.get_set_ne _ _ (by omega), VH.get_push_lt _ _ (by omega), hg1o]
    have hG9 : G.get g1.n = .cells [.int .i64 (N : Int), .int .i64 (Y : Int), .int .u64 0, .slice none 0 0] true 1 := by rw [hG, VH.get_set_same]
    have hbG := isB_fr hGF hb
    have hatG : BytesAt G i o bs := hat.congr (hGF.get i hi (by simp))
    have hiG : i < G.n := by omega
    have hok : ∀ (F : Fd) (kk : Nat) (g : VH) (p : Option Addr) (q r : Nat) (d : Int), d = ((at_ + kk : Nat) : Int) → nextS T = (F, kk, 0) → Fr h g [] → IsBytes g (.slice p q r) F.b → (∀ i ∈ idOf (.slice p q r), h.n ≤ i) →
        NextP h bs at_ (.tuple #[.agg #[.int .i64 F.num, .int .i64 F.ty, .int .u64 (F.n : Int), .slice p q r], .int .i64 d, .int .i64 0]) g := by
      intro F kk g p q r d hd hn hf hby hid
      subst hd
      refine ⟨hf, F.num, F.ty, (F.n : Int), p, q, r, ((at_ + kk : Nat) : Int), ?_, ?_⟩
      · rw [← hT, hn]
      · rw [← hT, hn]
        exact fun _ => ⟨rfl, rfl, rfl, rfl, hby, hid⟩
    have hnilB : ∀ g : VH, IsBytes g (.slice none 0 0) [] := fun g => .inl ⟨rfl, rfl⟩
    have hkL : at_ + k ≤ bs.length := by omega
    have hnk : (nextS T) = (if Y = 0 then
        (⟨(N : Nat), 0, (getS 0 0 (T.drop k)).1, []⟩, k + (getS 0 0 (T.drop k)).2.1, (getS 0 0 (T.drop k)).2.2)
      else if Y = 1 then if (T.drop k).length < 8 then (zeroF, 0, 8) else (⟨(N : Nat), 1, numB ((T.drop k).take 8), []⟩, k + 8, 0)
      else if Y = 5 then if (T.drop k).length < 4 then (zeroF, 0, 8) else (⟨(N : Nat), 5, numB ((T.drop k).take 4), []⟩, k + 4, 0)
      else if Y = 2 then
        if (getS 0 0 (T.drop k)).2.2 ≠ 0 then (zeroF, 0, (getS 0 0 (T.drop k)).2.2) else
        if (T.drop (k + (getS 0 0 (T.drop k)).2.1)).length < (getS 0 0 (T.drop k)).1 then (zeroF, 0, 8) else
        (⟨(N : Nat), 2, 0, (T.drop (k + (getS 0 0 (T.drop k)).2.1)).take (getS 0 0 (T.drop k)).1⟩, k + (getS 0 0 (T.drop k)).2.1 + (getS 0 0 (T.drop k)).1, 0)
      else (zeroF, 0, 30)) := by
      unfold nextS
      rw [hq]
      simp only [← hN, ← hY]
      rw [if_neg (by simp), if_neg (by omega)]
    clear hN hq s2 s3
    have hgetk := get_ok hbG (at_ := at_ + k) hkL hlen
    rw [show ((at_ + k : Nat) : Int) = (at_ : Int) + (k : Int) from Int.natCast_add .., hdd] at hgetk
    obtain ⟨t1, t2, t3⟩ := getS_spec (T.drop k) 0 0 (by omega) (by omega)
    generalize getS 0 0 (T.drop k) = q2 at hgetk hnk t1 t2 t3
    obtain ⟨n2, k2, e2⟩ := q2
    simp only at hgetk hnk t1 t2 t3
    by_cases hY0 : Y = 0
    · have hY0I : (Y : Int) = 0 := by omega
      rw [if_pos hY0] at hnk
      rw [hY0I] at hG hG9
      simp (disch := first|omega|(simp only [np,ns];try omega)) [hsh, han, ← hM, hNw, hN1, hN2, hbig, hzero, hYw, hY0, fill4_2, fill4_0, st4_all, ld4_all, ld4_0, ld4_1, hg1o]
      rw [← hG]
      refine hgetk.mono ?_
      rintro u g2 ⟨rfl, rfl⟩
      have hF3 : ∀ a b, Fr h ((g2.set g1.n a).set h.n b) [] := fun a b => Fr_set (Fr_set hGF (by omega)) (by omega)
      simp (disch := first|omega|(simp only [np,ns];try omega)) [r_wire_next, hG9, hGo, st4_2, ld4_all, st4_all]
      by_cases he2 : e2 = 0
      · subst he2
        simp (disch := first|omega|(simp only [np,ns];try omega)) []
        exact hok _ _ _ none 0 0 _ (by omega) hnk (hF3 _ _) (hnilB _) (by simp [idOf])
      · rw [if_neg he2]
        exact hfin e2 _ [] he2 (hF3 _ _) (by rw [hnk]) _ _ _ _ _ _ _
    rw [if_neg hY0] at hnk
    have hY0b : ((Y : Int) == 0) = false := by simp; omega
    by_cases hY1 : Y = 1 ∨ Y = 5
    · obtain ⟨S, hS, hnS⟩ : ∃ S : Nat, (S = 8 ∨ S = 4) ∧ (if (Y : Int) = 1 then (8 : Int) else 4) = (S : Int) ∧ (nextS T = if (T.drop k).length < S then (zeroF, 0, 8) else (⟨(N : Nat), (Y : Int), numB ((T.drop k).take S), []⟩, k + S, 0)) := by
        rcases hY1 with rfl | rfl
        · exact ⟨8, .inl rfl, by simp, by rw [hnk, if_pos rfl]; rfl⟩
        · exact ⟨4, .inr rfl, by simp, by rw [hnk, if_neg (by decide), if_pos rfl]; rfl⟩
      obtain ⟨hSv, hnS⟩ := hnS
      have hY15 : ((Y : Int) == 1) = true ∨ (((Y : Int) == 1) = false ∧ ((Y : Int) == 5) = true) := by
        rcases hY1 with rfl | rfl
        · exact .inl rfl
        · exact .inr ⟨rfl, rfl⟩
      have hlenD : (T.drop k).length = bs.length - (at_ + k) := by simp; omega
      rcases hY15 with hb1 | ⟨hb1, hb5⟩
      · have e63a : IntKind.i64.wrap ((bs.length : Int) - ((at_ : Int) + (k : Int))) = (bs.length : Int) - ((at_ : Int) + (k : Int)) := i64_small (by omega) (by omega)
        have eS : IntKind.i64.wrap ((at_ : Int) + (k : Int) + (S : Int)) = (at_ : Int) + (k : Int) + (S : Int) := i64_small (by omega) (by omega)
        simp (disch := first|omega|(simp only [np,ns];try omega)) [hsh, han, ← hM, hNw, hN1, hN2, hbig, hzero, hYw, hY0b, hb1, fill4_2, fill4_0, st4_all, ld4_all, ld4_0, ld4_1, hg1o]
        refine size_ok.mono ?_
        rintro u g2 ⟨rfl, rfl⟩
        rw [hSv]
        rw [← hG]
        by_cases hsm : (bs.length : Int) - ((at_ : Int) + (k : Int)) < (S : Int)
        · have hn8 : nextS T = (zeroF, 0, 8) := by rw [hnS, if_pos (by omega)]
          simp (disch := first|omega|(simp only [np,ns];try omega)) [r_wire_next, e63a, hsm, hG9, hGo, fill4_0, st4_all, ld4_all]
          exact hfin 8 _ [] (by decide) (Fr_set hGF (by omega)) (by rw [hn8]) _ _ _ _ _ _ _
        · have hnok : nextS T = (⟨(N : Nat), (Y : Int), numB ((T.drop k).take S), []⟩, k + S, 0) := by rw [hnS, if_neg (by omega)]
          have hsub := isB_sub (c := c - (at_ + k)) (a := at_ + k) (n := S) hiG hatG (by omega) (by omega)
          rw [hdd] at hsub
          have hez := hatG.esz
          have hbd : (0 : Int) ≤ (at_ : Int) + (k : Int) := by omega
          have hb2 : (at_ : Int) + (k : Int) ≤ (at_ : Int) + (k : Int) + (S : Int) ∧ (at_ : Int) + (k : Int) + (S : Int) ≤ (c : Int) := by omega
          have hlo : bound (some (.int .i64 ((at_ : Int) + (k : Int)))) (at_ + k + S) 0 = some (at_ + k) := by rw [bound_some (by omega)]; congr 1
          have hhi : bound (some (.int .i64 ((at_ : Int) + (k : Int) + (S : Int)))) c bs.length = some (at_ + k + S) := by rw [bound_some (by omega)]; congr 1
          have hsubS : at_ + k + S - (at_ + k) = S := by omega
          simp (disch := first|omega|(simp only [np,ns];try omega)) [e63a, eS, hsm, hG9, hGo, hez, hlo, hhi, hsubS]
          refine (low_ok hsub (by rw [List.length_take, hlenD]; omega)).mono ?_
          rintro u g2 ⟨rfl, rfl⟩
          have hF3 : ∀ a b, Fr h ((g2.set g1.n a).set h.n b) [] := fun a b => Fr_set (Fr_set hGF (by omega)) (by omega)
          simp (disch := first|omega|(simp only [np,ns];try omega)) [r_wire_next, hG9, hGo, st4_2, ld4_all, st4_all, eS]
          exact hok _ _ _ none 0 0 _ (by omega) hnok (hF3 _ _) (hnilB _) (by simp [idOf])
      · have e63a : IntKind.i64.wrap ((bs.length : Int) - ((at_ : Int) + (k : Int))) = (bs.length : Int) - ((at_ : Int) + (k : Int)) := i64_small (by omega) (by omega)
        have eS : IntKind.i64.wrap ((at_ : Int) + (k : Int) + (S : Int)) = (at_ : Int) + (k : Int) + (S : Int) := i64_small (by omega) (by omega)
        simp (disch := first|omega|(simp only [np,ns];try omega)) [hsh, han, ← hM, hNw, hN1, hN2, hbig, hzero, hYw, hY0b, hb1, hb5, fill4_2, fill4_0, st4_all, ld4_all, ld4_0, ld4_1, hg1o]
        refine size_ok.mono ?_
        rintro u g2 ⟨rfl, rfl⟩
        rw [hSv]
        rw [← hG]
        by_cases hsm : (bs.length : Int) - ((at_ : Int) + (k : Int)) < (S : Int)
        · have hn8 : nextS T = (zeroF, 0, 8) := by rw [hnS, if_pos (by omega)]
          simp (disch := first|omega|(simp only [np,ns];try omega)) [r_wire_next, e63a, hsm, hG9, hGo, fill4_0, st4_all, ld4_all]
          exact hfin 8 _ [] (by decide) (Fr_set hGF (by omega)) (by rw [hn8]) _ _ _ _ _ _ _
        · have hnok : nextS T = (⟨(N : Nat), (Y : Int), numB ((T.drop k).take S), []⟩, k + S, 0) := by rw [hnS, if_neg (by omega)]
          have hsub := isB_sub (c := c - (at_ + k)) (a := at_ + k) (n := S) hiG hatG (by omega) (by omega)
          rw [hdd] at hsub
          have hez := hatG.esz
          have hbd : (0 : Int) ≤ (at_ : Int) + (k : Int) := by omega
          have hb2 : (at_ : Int) + (k : Int) ≤ (at_ : Int) + (k : Int) + (S : Int) ∧ (at_ : Int) + (k : Int) + (S : Int) ≤ (c : Int) := by omega
          have hlo : bound (some (.int .i64 ((at_ : Int) + (k : Int)))) (at_ + k + S) 0 = some (at_ + k) := by rw [bound_some (by omega)]; congr 1
          have hhi : bound (some (.int .i64 ((at_ : Int) + (k : Int) + (S : Int)))) c bs.length = some (at_ + k + S) := by rw [bound_some (by omega)]; congr 1
          have hsubS : at_ + k + S - (at_ + k) = S := by omega
          simp (disch := first|omega|(simp only [np,ns];try omega)) [e63a, eS, hsm, hG9, hGo, hez, hlo, hhi, hsubS]
          refine (low_ok hsub (by rw [List.length_take, hlenD]; omega)).mono ?_
          rintro u g2 ⟨rfl, rfl⟩
          have hF3 : ∀ a b, Fr h ((g2.set g1.n a).set h.n b) [] := fun a b => Fr_set (Fr_set hGF (by omega)) (by omega)
          simp (disch := first|omega|(simp only [np,ns];try omega)) [r_wire_next, hG9, hGo, st4_2, ld4_all, st4_all, eS]
          exact hok _ _ _ none 0 0 _ (by omega) hnok (hF3 _ _) (hnilB _) (by simp [idOf])
    rw [if_neg (fun e => hY1 (.inl e)), if_neg (fun e => hY1 (.inr e))] at hnk
    have hY1b : ((Y : Int) == 1) = false := by simp; omega
    have hY5b : ((Y : Int) == 5) = false := by simp; omega
    by_cases hY2 : Y = 2
    · rw [if_pos hY2] at hnk
      have hY2b : ((Y : Int) == 2) = true := by simp; omega
      simp (disch := first|omega|(simp only [np,ns];try omega)) [hsh, han, ← hM, hNw, hN1, hN2, hbig, hzero, hYw, hY0b, hY1b, hY5b, hY2b, fill4_2, fill4_0, st4_all, ld4_all, ld4_0, ld4_1, hg1o]
      rw [← hG]
      refine hgetk.mono ?_
      rintro u g2 ⟨rfl, rfl⟩
      have hF3 : ∀ b, Fr h (g2.set h.n b) [] := fun b => Fr_set hGF (by omega)
      by_cases he2 : e2 = 0
      · subst he2
        rw [if_neg (by simp)] at hnk
        obtain ⟨t4, t5⟩ := t2 rfl
        have hdl : (T.drop k).length = bs.length - (at_ + k) := by simp; omega
        have hdl2 : (T.drop (k + k2)).length = bs.length - (at_ + k + k2) := by simp; omega
        rw [hdl2] at hnk
        have e63 : IntKind.i64.wrap ((bs.length : Int) - ((at_ : Int) + (k : Int) + (k2 : Int))) = (bs.length : Int) - ((at_ : Int) + (k : Int) + (k2 : Int)) := i64_small (by omega) (by omega)
        have e64 : IntKind.u64.wrap ((bs.length : Int) - ((at_ : Int) + (k : Int) + (k2 : Int))) = (bs.length : Int) - ((at_ : Int) + (k : Int) + (k2 : Int)) := u64_small (by omega) (by omega)
        by_cases hsh2 : bs.length - (at_ + k + k2) < n2
        · rw [if_pos hsh2] at hnk
          have hshI : (bs.length : Int) - ((at_ : Int) + (k : Int) + (k2 : Int)) < (n2 : Int) := by omega
          simp (disch := first|omega|(simp only [np,ns];try omega)) [r_wire_next, e63, e64, hshI, hG9, hGo, ld4_all, st4_all]
          exact hfin 8 _ [] (by decide) (hF3 _) (by rw [hnk]) _ _ _ _ _ _ _
        · rw [if_neg hsh2] at hnk
          have hshI : ¬ (bs.length : Int) - ((at_ : Int) + (k : Int) + (k2 : Int)) < (n2 : Int) := by omega
          have en2 : IntKind.i64.wrap (n2 : Int) = (n2 : Int) := i64_small (by omega) (by omega)
          have eS : IntKind.i64.wrap ((at_ : Int) + (k : Int) + (k2 : Int) + (n2 : Int)) = (at_ : Int) + (k : Int) + (k2 : Int) + (n2 : Int) := i64_small (by omega) (by omega)
          have hsub := isB_sub (c := c - (at_ + k + k2)) (a := at_ + k + k2) (n := n2) hiG hatG (by omega) (by omega)
          rw [Nat.add_assoc at_ k k2, hdd, ← Nat.add_assoc at_ k k2] at hsub
          have hez := hatG.esz
          have hlo : bound (some (.int .i64 ((at_ : Int) + (k : Int) + (k2 : Int)))) (at_ + k + k2 + n2) 0 = some (at_ + k + k2) := by rw [bound_some (by omega)]; congr 1
          have hhi : bound (some (.int .i64 ((at_ : Int) + (k : Int) + (k2 : Int) + (n2 : Int)))) c bs.length = some (at_ + k + k2 + n2) := by rw [bound_some (by omega)]; congr 1
          have hsubS : at_ + k + k2 + n2 - (at_ + k + k2) = n2 := by omega
          obtain ⟨BB, hBB⟩ : ∃ BB, BB = (T.drop (k + k2)).take n2 := ⟨_, rfl⟩
          have hBBl : BB.length = n2 := by rw [hBB, List.length_take, hdl2]; omega
          rw [← hBB] at hsub hnk
          obtain ⟨w', g', hap, hbuf⟩ := (Buf.nil g2).append BB (by simp; omega)
          have hsrc := hsub.src
          rw [hBBl, List.nil_append] at *
          obtain ⟨wa, wn, wc, rfl⟩ : ∃ a n c, w' = .slice a n c := by
            obtain ⟨a, c, rfl⟩ := hbuf.shape
            exact ⟨_, _, _, rfl⟩
          have hgo1 : g'.get g1.n = .cells [.int .i64 (N : Int), .int .i64 (Y : Int), .int .u64 0, .slice none 0 0] true 1 := (hbuf.fr.get _ (by omega) (by simp)).trans hG9
          have hgo0 : g'.get h.n = .cells [.int .i64 0, .int .i64 0, .int .u64 0, .slice none 0 0] true 1 := (hbuf.fr.get _ (by omega) (by simp)).trans hGo
          have hfg : Fr h g' [] := hGF.trans hbuf.fr
          have hbi : IsBytes ((g'.set g1.n (.cells [.int .i64 (N : Int), .int .i64 (Y : Int), .int .u64 0, .slice wa wn wc] true 1)).set h.n (.cells [.int .i64 (N : Int), .int .i64 (Y : Int), .int .u64 0, .slice wa wn wc] true 1)) (.slice wa wn wc) BB := by
            have h1 : Fr g' ((g'.set g1.n (.cells [.int .i64 (N : Int), .int .i64 (Y : Int), .int .u64 0, .slice wa wn wc] true 1)).set h.n (.cells [.int .i64 (N : Int), .int .i64 (Y : Int), .int .u64 0, .slice wa wn wc] true 1)) [g1.n, h.n] :=
              (Fr.set _ _ (by simp)).trans (Fr.set _ _ (by simp))
            refine hbuf.is.fr h1 fun j hj hx => ?_
            have := hbuf.ids j hj
            simp at hx
            omega
          have hgn := hbuf.fr.n
          simp (disch := first|omega|(simp only [np,ns];try omega)) [r_wire_next, e63, e64, hshI, hG9, hGo, hez, en2, eS, hlo, hhi, hsubS, hsrc, hap, hgo1, hgo0, st4_3, ld4_all, st4_all]
          have hfin2 := hok _ _ _ wa wn wc ((at_ : Int) + (k : Int) + (k2 : Int) + (n2 : Int)) (by omega) hnk (Fr_set (i := h.n) (o := .cells [.int .i64 (N : Int), .int .i64 (Y : Int), .int .u64 0, .slice wa wn wc] true 1) (Fr_set (i := g1.n) (o := .cells [.int .i64 (N : Int), .int .i64 (Y : Int), .int .u64 0, .slice wa wn wc] true 1) hfg (by omega)) (by omega)) hbi (fun j hj => by have := hbuf.ids j hj; omega)
          have hY2I : (Y : Int) = 2 := by omega
          rw [hY2I] at hfin2 ⊢
          exact hfin2
      · rw [if_pos he2] at hnk
        have he2b : (e2 == 0) = false := by simpa using he2
        simp (disch := first|omega|(simp only [np,ns];try omega)) [r_wire_next, he2, he2b, hG9, hGo, ld4_all, st4_all]
        exact hfin e2 _ [] he2 (hF3 _) (by rw [hnk]) _ _ _ _ _ _ _
    · rw [if_neg hY2] at hnk
      have hY2b : ((Y : Int) == 2) = false := by simp; omega
      simp (disch := first|omega|(simp only [np,ns];try omega)) [r_wire_next, hsh, han, ← hM, hNw, hN1, hN2, hbig, hzero, hYw, hY0b, hY1b, hY5b, hY2b, fill4_2, fill4_0, st4_all, ld4_all, ld4_0, ld4_1, hg1o]
      rw [← hG]
      exact hfin 30 _ [] (by decide) (Fr_set hGF (by omega)) (by rw [hnk]) _ _ _ _ _ _ _
  · have heb : (e != 0) = true := by simpa using he
    have hns : (nextS T).2.2 = e := by unfold nextS; rw [hq]; simp [he]
    simp (disch := first|omega|(simp only [np,ns];try omega)) [r_wire_next, he, heb, hg1o, fill4_0, st4_all, ld4_all]
    exact (hfin e _ [] he (Fr_set hf0 (Nat.le_refl _)) hns _ _ _ _ _ _ _)
end Go.Proofs.Ytdnkpgbggpbgaaa.Wr
