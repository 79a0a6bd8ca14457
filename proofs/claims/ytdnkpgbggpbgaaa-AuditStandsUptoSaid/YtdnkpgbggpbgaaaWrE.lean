/- wire, part E: messages are read (the program). -/
import Derived.Test.YtdnkpgbggpbgaaaWrD
set_option linter.unusedVariables false
set_option linter.unusedSimpArgs false
set_option maxRecDepth 100000
namespace Go.Proofs.Ytdnkpgbggpbgaaa.Wr
open Go Go.RowKit Go.Proofs.Ytdnkpgbggpbgaaa.Pm Go.Proofs.Ytdnkpgbggpbgaaa.Fs
attribute [-simp] BitVec.toNat_or BitVec.toNat_xor BitVec.toNat_add BitVec.toNat_and BitVec.toNat_not BitVec.toNat_shiftLeft BitVec.toNat_ushiftRight

theorem nextS_spec {l : List UInt8} (h : (nextS l).2.2 = 0) : 0 < (nextS l).2.1 ∧ (nextS l).2.1 ≤ l.length ∧ (nextS l).1.b.length ≤ (nextS l).2.1 ∧ (nextS l).1.n < 18446744073709551616 ∧ 1 ≤ (nextS l).1.num ∧ (nextS l).1.num < 536870912 ∧ 0 ≤ (nextS l).1.ty ∧ (nextS l).1.ty < 8 := by
  obtain ⟨s1, s2, s3⟩ := getS_spec l 0 0 (by omega) (by omega)
  unfold nextS at h ⊢
  generalize getS 0 0 l = q at s1 s2 s3 h
  obtain ⟨key, k, e⟩ := q
  simp only at s1 s2 s3 h ⊢
  obtain ⟨t1, t2, t3⟩ := getS_spec (l.drop k) 0 0 (by omega) (by omega)
  generalize getS 0 0 (l.drop k) = q2 at t1 t2 t3 h
  obtain ⟨n2, k2, e2⟩ := q2
  simp only at t1 t2 t3 h ⊢
  by_cases he : e = 0
  · subst he
    have hs2 := s2 rfl
    rw [if_neg (by simp)] at h ⊢
    by_cases hb : key / 8 < 1 ∨ 536870911 < key / 8
    · rw [if_pos hb] at h; exact absurd h (by simp)
    rw [if_neg hb] at h ⊢
    by_cases h0 : key % 8 = 0
    · rw [if_pos h0] at h ⊢
      simp only at h ⊢
      have h2 := t2 h
      simp only [List.length_drop] at h2
      refine ⟨by omega, by omega, by simp, t1, by omega, by omega, by omega, by omega⟩
    rw [if_neg h0] at h ⊢
    by_cases h1 : key % 8 = 1
    · rw [if_pos h1] at h ⊢
      by_cases hl : (l.drop k).length < 8
      · rw [if_pos hl] at h; exact absurd h (by simp)
      rw [if_neg hl] at h ⊢
      have hlt : numB ((l.drop k).take 8) < 256 ^ 8 := by
        have := numB_lt ((l.drop k).take 8)
        rwa [List.length_take, show min 8 (l.drop k).length = 8 by omega] at this
      simp only [List.length_drop] at hl
      dsimp only
      refine ⟨by omega, by omega, by simp, by omega, by omega, by omega, by omega, by omega⟩
    rw [if_neg h1] at h ⊢
    by_cases h5 : key % 8 = 5
    · rw [if_pos h5] at h ⊢
      by_cases hl : (l.drop k).length < 4
      · rw [if_pos hl] at h; exact absurd h (by simp)
      rw [if_neg hl] at h ⊢
      have hlt : numB ((l.drop k).take 4) < 256 ^ 4 := by
        have := numB_lt ((l.drop k).take 4)
        rwa [List.length_take, show min 4 (l.drop k).length = 4 by omega] at this
      simp only [List.length_drop] at hl
      dsimp only
      refine ⟨by omega, by omega, by simp, by omega, by omega, by omega, by omega, by omega⟩
    rw [if_neg h5] at h ⊢
    by_cases h2 : key % 8 = 2
    · rw [if_pos h2] at h ⊢
      by_cases he2 : e2 = 0
      · subst he2
        rw [if_neg (by simp)] at h ⊢
        by_cases hl : (l.drop (k + k2)).length < n2
        · rw [if_pos hl] at h; exact absurd h (by simp)
        rw [if_neg hl] at h ⊢
        have h3 := t2 rfl
        simp only [List.length_drop] at hl h3
        dsimp only
        refine ⟨by omega, by omega, by simp only [List.length_take, List.length_drop]; omega, by omega, by omega, by omega, by omega, by omega⟩
      · rw [if_pos he2] at h; exact absurd h he2
    · rw [if_neg h2] at h; exact absurd h (by simp)
  · rw [if_pos he] at h; exact absurd h he

/-- a message's fields: out of bytes, behind cnt fields that were read. -/
def readR : Nat → Nat → List UInt8 → List Fd × Int × Nat
  | 0, _, _ => ([], 8, 0)
  | f + 1, cnt, l =>
    if l.length = 0 then ([], 0, 0) else if cnt = 4096 then ([], 7, 0) else
    if (nextS l).2.2 ≠ 0 then ([], (nextS l).2.2, 0) else
    ((nextS l).1 :: (readR f (cnt + 1) (l.drop (nextS l).2.1)).1, (readR f (cnt + 1) (l.drop (nextS l).2.1)).2.1, (nextS l).2.1 + (readR f (cnt + 1) (l.drop (nextS l).2.1)).2.2)
theorem readR_succ (f cnt : Nat) (l : List UInt8) : readR (f + 1) cnt l = if l.length = 0 then ([], 0, 0) else if cnt = 4096 then ([], 7, 0) else
    if (nextS l).2.2 ≠ 0 then ([], (nextS l).2.2, 0) else
    ((nextS l).1 :: (readR f (cnt + 1) (l.drop (nextS l).2.1)).1, (readR f (cnt + 1) (l.drop (nextS l).2.1)).2.1, (nextS l).2.1 + (readR f (cnt + 1) (l.drop (nextS l).2.1)).2.2) := rfl
def readS (bs : List UInt8) : List Fd × Int × Nat :=
  if 1048576 < bs.length then ([], 4, 0) else
  if (readR (bs.length + 1) 0 bs).2.1 = 0 then ((readR (bs.length + 1) 0 bs).1, 0, 0) else ([], (readR (bs.length + 1) 0 bs).2.1, (readR (bs.length + 1) 0 bs).2.2)
theorem FBuf.sh {h0 g : VH} {w : Value} {fs : List Fd} (hb : FBuf h0 g w fs) : ∃ a n c, w = .slice a n c ∧ n = fs.length := by
  obtain ⟨a, c, rfl⟩ := hb.shape
  exact ⟨_, _, _, rfl, rfl⟩
/-- what Read tells. -/
def ReadP (h : VH) (bs : List UInt8) (u : Value) (h' : VH) : Prop :=
  ∃ a n c, u = .tuple #[.slice a n c, .int .i64 (readS bs).2.1, .int .i64 ((readS bs).2.2 : Int)] ∧ FBuf h h' (.slice a n c) (readS bs).1

set_option maxHeartbeats 4000000 in
theorem read_ok {h : VH} {v : Value} {bs : List UInt8} (hb : IsBytes h v bs) (hlen : bs.length ≤ 1000000000) :
    PCalls Try.prog f_wire_Read [v] h (ReadP h bs) := by
  refine PCalls_of_pw st_wire_Read (by simp [n_wire_Read]) ?_
  rw [b_wire_Read]
  obtain ⟨va, vc, rfl⟩ := hb.shape
  obtain ⟨L, hL⟩ : ∃ L, L = bs.length := ⟨_, rfl⟩
  have hnil : ∀ g, Fr h g [] → FBuf h g (.slice none 0 0) [] := fun g hg => (FBuf.nil h).step hg
  have herr : ∀ (e : Int) (p : Nat) (g : VH), readS bs = ([], e, p) → Fr h g [] → ReadP h bs (.tuple #[.slice none 0 0, .int .i64 e, .int .i64 (p : Int)]) g := by
    intro e p g hr hf
    exact ⟨none, 0, 0, by rw [hr], by rw [hr]; exact hnil g hf⟩
  rw [← hL] at hb ⊢
  by_cases hbig : 1048576 < L
  · have hbigI : (1048576 : Int) < (L : Int) := by omega
    simp (disch := first|omega|(simp only [np,ns];try omega)) [r_wire_Read, B_wire_Read, hbig, hbigI]
    exact herr 4 0 _ (by unfold readS; rw [if_pos (by omega)]) (Fr.refl _ _)
  have hbigI : ¬ (1048576 : Int) < (L : Int) := by omega
  obtain ⟨R, hR⟩ : ∃ R, R = readR (L + 1) 0 bs := ⟨_, rfl⟩
  have hrs : readS bs = if R.2.1 = 0 then (R.1, 0, 0) else ([], R.2.1, R.2.2) := by unfold readS; rw [if_neg (by omega), ← hL, ← hR]
  simp (disch := first|omega|(simp only [np,ns];try omega)) [B_wire_Read, hbig, hbigI]
  refine pw_loopN (fun k s g => ∃ (at_ f : Nat) (fs : List Fd) (a : Option Addr) (n c : Nat), FBuf h g (.slice a n c) fs ∧ n = fs.length ∧ at_ ≤ L ∧ k ≤ at_ ∧ L ≤ f + at_ ∧ fs.length ≤ 4096 ∧ (∀ x ∈ fs, x.b.length ≤ L) ∧
    R = (fs ++ (readR (f + 1) fs.length (bs.drop at_)).1, (readR (f + 1) fs.length (bs.drop at_)).2.1, at_ + (readR (f + 1) fs.length (bs.drop at_)).2.2) ∧
    s 0 = .slice va L vc ∧ s 5 = .slice a n c ∧ s 6 = .int .i64 (at_ : Int)) L ?_ ?_
  · exact ⟨0, L, [], none, 0, 0, hnil _ (Fr.refl _ _), rfl, by omega, by omega, by omega, by simp, by simp, by rw [hR]; simp, by simp [upd_apply, s0_apply], by simp [upd_apply], by simp [upd_apply]⟩
  rintro k s g hk ⟨at_, f, fs, ba, bn, bc, hB, hbn, hat, hka, hfa, hfs, hfb, hRe, e0, e5, e6⟩
  by_cases hlt : at_ < L
  · have hltI : (at_ : Int) < (L : Int) := by omega
    have hl0 : (bs.drop at_).length ≠ 0 := by simp; omega
    rw [readR_succ, if_neg hl0] at hRe
    by_cases hfull : bn = 4096
    · have hfI : ((bn : Int) == 4096) = true := by simp; omega
      rw [if_pos (by omega)] at hRe
      simp (disch := first|omega|(simp only [np,ns];try omega)) [r_wire_Read, e0, e5, e6, hltI, hlt, hfI]
      exact herr 7 at_ _ (by rw [hrs, hRe]; rfl) hB.fr
    have hfI : ((bn : Int) == 4096) = false := by simp; omega
    rw [if_neg (by omega)] at hRe
    simp (disch := first|omega|(simp only [np,ns];try omega)) [e0, e5, e6, hltI, hlt, hfI]
    have hbg := isB_fr hB.fr hb
    rw [hL] at hbg
    rw [hL]
    refine (next_ok hbg (at_ := at_) (by omega) hlen).mono ?_
    rintro u g2 ⟨hf2, xa, xb, xc, p, q, r, e, rfl, hok⟩
    rw [← hL]
    obtain ⟨T, hT⟩ : ∃ T, T = bs.drop at_ := ⟨_, rfl⟩
    rw [← hT] at hRe hok ⊢
    have hsp := @nextS_spec T
    have hTl : T.length = L - at_ := by rw [hT, hL]; simp
    have hdd : ∀ j, T.drop j = bs.drop (at_ + j) := fun j => by rw [hT, List.drop_drop]
    generalize nextS T = q0 at hRe hok hsp ⊢
    obtain ⟨F, kk, e1⟩ := q0
    simp only at hRe hok hsp ⊢
    by_cases he : e1 = 0
    · subst he
      obtain ⟨rfl, rfl, rfl, rfl, hby, hid⟩ := hok rfl
      obtain ⟨k1, k2, k3, k4, k5, k6, k7, k8⟩ := hsp rfl
      rw [if_neg (by simp), hdd] at hRe
      have hst : ∀ a b c d, storeObj (.cells [a, b, c, d] true 1) 0 4 (.agg #[.int .i64 F.num, .int .i64 F.ty, .int .u64 (F.n : Int), .slice p q r]) = some (.cells [.int .i64 F.num, .int .i64 F.ty, .int .u64 (F.n : Int), .slice p q r] true 1) := fun _ _ _ _ => rfl
      obtain ⟨g3, hg3⟩ : ∃ g3, g3 = (g2.push (.cells [.int .i64 0, .int .i64 0, .int .u64 0, .slice none 0 0] true 1)).set g2.n (.cells [.int .i64 F.num, .int .i64 F.ty, .int .u64 (F.n : Int), .slice p q r] true 1) := ⟨_, rfl⟩
      have hf3 : Fr g2 g3 [] := by rw [hg3]; exact Fr_set (Fr_push (Fr.refl _ _)) (Nat.le_refl _)
      have hg3o : g3.get g2.n = .cells [.int .i64 F.num, .int .i64 F.ty, .int .u64 (F.n : Int), .slice p q r] true 1 := by rw [hg3, VH.get_set_same]
      have hB3 := (hB.step hf2).step hf3
      obtain ⟨wa, wn, wc, g4, hap, hB4⟩ := hB3.append (f := F) (isB_fr hf3 hby) (by omega)
      have hfl : fillC [.int .i64 0, .int .i64 0, .int .u64 0, .slice none 0 0] [(0, 4, .agg #[.int .i64 F.num, .int .i64 F.ty, .int .u64 (F.n : Int), .slice p q r])] = some (fdL F (.slice p q r)) := rfl
      have hone : (fdL F (.slice p q r)).all Value.oneCell' = true := rfl
      have hrow : rowObj (.cells (fdL F (.slice p q r)) true 4) 0 4 = some (fdL F (.slice p q r)) := rfl
      have e1I : (at_ : Int) + (kk : Int) = ((at_ + kk : Nat) : Int) := by omega
      simp (disch := first|omega|(simp only [np,ns];try omega)) [e0, e5, e6, ← hg3, hg3o, hst, ld4_all, hfl, hone, hrow, hap]
      have hwn : wn = (fs ++ [F]).length := by
        obtain ⟨a', c', h1⟩ := hB4.shape
        injection h1
      obtain ⟨f', rfl⟩ : ∃ f', f = f' + 1 := ⟨f - 1, by omega⟩
      refine ⟨by omega, at_ + kk, f', fs ++ [F], wa, wn, wc, hB4, hwn, by omega, by omega, by omega, by simp; omega, ?_, ?_, ⟨rfl, rfl, rfl⟩, by omega⟩
      · intro x hx
        rcases List.mem_append.1 hx with hx | hx
        · exact hfb x hx
        · rw [List.mem_singleton.1 hx]; omega
      · rw [hRe]
        simp [Nat.add_assoc]
    · have heb : (e1 != 0) = true := by simpa using he
      rw [if_pos he] at hRe
      have hst : ∀ a b c d, storeObj (.cells [a, b, c, d] true 1) 0 4 (.agg #[.int .i64 xa, .int .i64 xb, .int .u64 xc, .slice p q r]) = some (.cells [.int .i64 xa, .int .i64 xb, .int .u64 xc, .slice p q r] true 1) := fun _ _ _ _ => rfl
      simp (disch := first|omega|(simp only [np,ns];try omega)) [r_wire_Read, e0, e5, e6, heb, hst]
      exact herr e1 at_ _ (by rw [hrs, hRe]; simp [he]) (Fr_set (Fr_push (hB.fr.trans hf2)) (by have := hB.fr.n; have := hf2.n; omega))
  · obtain rfl : at_ = L := by omega
    have hd : (bs.drop at_).length = 0 := by simp; omega
    rw [readR_succ, if_pos hd] at hRe
    simp (disch := first|omega|(simp only [np,ns];try omega)) [r_wire_Read, e0, e5, e6]
    have hrs2 : readS bs = (fs, 0, 0) := by rw [hrs, hRe]; simp
    exact ⟨ba, bn, bc, by rw [hrs2]; rfl, by rw [hrs2]; exact hB⟩

theorem readR_wf : ∀ (f cnt : Nat) (l : List UInt8), cnt ≤ 4096 → (∀ x ∈ (readR f cnt l).1, x.wf ∧ x.b.length ≤ l.length) ∧ cnt + (readR f cnt l).1.length ≤ 4096
  | 0, cnt, l, hc => ⟨fun x hx => by simp [readR] at hx, by simp [readR]; omega⟩
  | f + 1, cnt, l, hc => by
    rw [readR_succ]
    by_cases h0 : l.length = 0
    · rw [if_pos h0]; exact ⟨fun x hx => by simp at hx, by simp; omega⟩
    rw [if_neg h0]
    by_cases h1 : cnt = 4096
    · rw [if_pos h1]; exact ⟨fun x hx => by simp at hx, by simp; omega⟩
    rw [if_neg h1]
    by_cases h2 : (nextS l).2.2 ≠ 0
    · rw [if_pos h2]; exact ⟨fun x hx => by simp at hx, by simp; omega⟩
    rw [if_neg h2]
    have h2 : (nextS l).2.2 = 0 := by simpa using h2
    obtain ⟨k1, k2, k3, k4, k5, k6, k7, k8⟩ := nextS_spec h2
    obtain ⟨i1, i2⟩ := readR_wf f (cnt + 1) (l.drop (nextS l).2.1) (by omega)
    refine ⟨fun x hx => ?_, by simp only [List.length_cons]; omega⟩
    rcases List.mem_cons.1 hx with rfl | hx
    · exact ⟨⟨by omega, by omega, by omega, by omega, k4⟩, by omega⟩
    · obtain ⟨j1, j2⟩ := i1 x hx
      simp only [List.length_drop] at j2
      exact ⟨j1, by omega⟩
theorem readS_wf (bs : List UInt8) : (∀ x ∈ (readS bs).1, x.wf ∧ x.b.length ≤ bs.length) ∧ (readS bs).1.length ≤ 4096 := by
  obtain ⟨h1, h2⟩ := readR_wf (bs.length + 1) 0 bs (by omega)
  unfold readS
  by_cases hb : 1048576 < bs.length
  · rw [if_pos hb]; exact ⟨fun x hx => by simp at hx, by simp⟩
  rw [if_neg hb]
  split
  · exact ⟨h1, by simpa using h2⟩
  · exact ⟨fun x hx => by simp at hx, by simp⟩
end Go.Proofs.Ytdnkpgbggpbgaaa.Wr
