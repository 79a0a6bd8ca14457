/- wire, part N: messages are read, and what is told is new. -/
import Derived.Test.YtdnkpgbggpbgaaaWrE
set_option linter.unusedVariables false
set_option linter.unusedSimpArgs false
set_option maxRecDepth 100000
namespace Go.Proofs.Ytdnkpgbggpbgaaa.Wr
open Go Go.RowKit Go.Proofs.Ytdnkpgbggpbgaaa.Pm Go.Proofs.Ytdnkpgbggpbgaaa.Fs
attribute [-simp] BitVec.toNat_or BitVec.toNat_xor BitVec.toNat_add BitVec.toNat_and BitVec.toNat_not BitVec.toNat_shiftLeft BitVec.toNat_ushiftRight


theorem FdOut.append {X : List Nat} : ∀ {cs : List Value} (k : Nat), cs.length = 4 * k → FdOut X cs → ∀ {ds : List Value}, FdOut X ds → FdOut X (cs ++ ds)
  | [], 0, _, _, _, h => h
  | _ :: _ :: _ :: w :: r, k + 1, hl, ⟨h1, h2⟩, ds, h => ⟨h1, FdOut.append k (by simp at hl; omega) h2 h⟩
  | [], k + 1, hl, _, _, _ => by simp at hl
  | [_], k, hl, _, _, _ => by simp at hl; omega
  | [_, _], k, hl, _, _, _ => by simp at hl; omega
  | [_, _, _], k, hl, _, _, _ => by simp at hl; omega
  | _ :: _ :: _ :: _ :: _, 0, hl, _, _, _ => by simp at hl
theorem FdL.atO {h : VH} {X : List Nat} : ∀ {cs : List Value} {fs : List Fd}, FdL h cs fs → FdOut X cs → ∀ (k : Nat) (hk : k < fs.length), ∃ w, (cs.drop (4 * k)).take 4 = fdL fs[k] w ∧ IsBytes h w fs[k].b ∧ ∀ i ∈ idOf w, i ∉ X
  | _ :: _ :: _ :: w :: r, f :: fs, ⟨h1, h2, h3, h4, h5⟩, ⟨k1, k2⟩, 0, _ => ⟨w, by subst h1 h2 h3; rfl, h4, k1⟩
  | _ :: _ :: _ :: w :: r, f :: fs, ⟨h1, h2, h3, h4, h5⟩, ⟨k1, k2⟩, k + 1, hk => by
    obtain ⟨w', e1, e2, e3⟩ := h5.atO k2 k (by simpa using hk)
    exact ⟨w', by rw [show 4 * (k + 1) = 4 * k + 4 by omega]; exact e1, e2, e3⟩
  | [], [], _, _, k, hk => by simp at hk
  | [], _ :: _, h, _, _, _ => h.elim
  | [_], [], h, _, _, _ => h.elim
  | [_], _ :: _, h, _, _, _ => h.elim
  | [_, _], [], h, _, _, _ => h.elim
  | [_, _], _ :: _, h, _, _, _ => h.elim
  | [_, _, _], [], h, _, _, _ => h.elim
  | [_, _, _], _ :: _, h, _, _, _ => h.elim
  | _ :: _ :: _ :: _ :: _, [], h, _, _, _ => h.elim

/-- a list of fields, gathered in a row that is owned; the fields' bytes are new too. -/
structure FBufN (h0 g : VH) (w : Value) (fs : List Fd) : Prop where
  own : ∃ cs, OwnSl g 4 w cs fs.length ∧ FdL g cs fs ∧ FdOut (List.range h0.n) cs
  fr : Fr h0 g []
  ids : ∀ i ∈ idOf w, h0.n ≤ i
theorem FBufN.nil (h : VH) : FBufN h h (.slice none 0 0) [] := ⟨⟨[], OwnSl.nil _ _, trivial, trivial⟩, Fr.refl _ _, fun i hi => by simp [idOf] at hi⟩
theorem FBufN.shape {h0 g : VH} {w : Value} {fs : List Fd} (hb : FBufN h0 g w fs) : ∃ a c, w = .slice a fs.length c := by
  obtain ⟨cs, ho, _⟩ := hb.own
  exact ho.shapeN
theorem FBufN.step {h0 g g' : VH} {w : Value} {fs : List Fd} (hb : FBufN h0 g w fs) (hf : Fr g g' []) : FBufN h0 g' w fs := by
  obtain ⟨cs, ho, hl, hx⟩ := hb.own
  exact ⟨⟨cs, ho.fr hf (fun i _ => by simp), hl.mono fun _ _ => isB_fr hf, hx⟩, hb.fr.trans hf, hb.ids⟩
theorem FBufN.append {h0 g : VH} {w : Value} {fs : List Fd} (hb : FBufN h0 g w fs) {f : Fd} {u : Value} (hu : IsBytes g u f.b) (hnew : ∀ x ∈ idOf u, h0.n ≤ x) (hl : fs.length < 1000000000000) :
    ∃ a n c g', appendV (g.push (.cells (fdL f u) true 4)) 4 48 w (fdL f u) 1 = some (.slice a n c, g') ∧ FBufN h0 g' (.slice a n c) (fs ++ [f]) := by
  have hb2 := hb.step (Fr.push g (.cells (fdL f u) true 4) [])
  have hu2 := isB_fr (Fr.push g (.cells (fdL f u) true 4) []) hu
  obtain ⟨cs, ho, hc, hxo⟩ := hb2.own
  obtain ⟨w', g', hap, ho', hf, hid⟩ := ho.append (bytes := 48) (ys := fdL f u) (k := 1) rfl (by omega)
  obtain ⟨a, c, rfl⟩ := ho'.shapeN
  have hcl := hc.length
  refine ⟨_, _, _, g', hap, ⟨⟨cs ++ fdL f u, by rw [List.length_append]; exact ho', ?_, ?_⟩, hb2.fr.trans' hf (fun y hy => .inr (hb2.ids y hy)), fun i hi => ?_⟩⟩
  · have hx := OwnSl.cells ho
    have h1 : FdL (g.push (.cells (fdL f u) true 4)) (fdL f u) [f] := FdL.one hu2
    exact (hc.fr hf (hc.out hx)).append (h1.fr hf (h1.out hx))
  · refine FdOut.append fs.length hcl hxo ⟨fun i hi => ?_, trivial⟩
    have := hnew i hi
    simp; omega
  · rcases hid i hi with h1 | h1
    · exact hb2.ids i h1
    · exact Nat.le_trans hb2.fr.n h1
theorem FBufN.at_ {h0 h : VH} {v : Value} {fs : List Fd} (hb : FBufN h0 h v fs) (hne : 0 < fs.length) : ∃ i o c, i < h.n ∧ h0.n ≤ i ∧ v = .slice (some ⟨i, o, none⟩) fs.length c ∧ eszObj (h.get i) 4 = true ∧ ∀ k (hk : k < fs.length), ∃ w, FdAt h i (o + k * 4) fs[k] w ∧ ∀ x ∈ idOf w, h0.n ≤ x := by
  obtain ⟨cs, ho, hl, hx⟩ := hb.own
  rcases ho with ⟨_, _, h0⟩ | ⟨i, o, c, ds, hi, hc, rfl, hg, hd, hln, hoo⟩
  · omega
  have hid := hb.ids i (by simp [idOf])
  have hdl : ds.length = o + 4 * fs.length := by
    have := congrArg List.length hd
    simp at this
    omega
  refine ⟨i, o, c, hi, hid, rfl, by rw [hg]; rfl, fun k hk => ?_⟩
  obtain ⟨w, h1, h2, h3⟩ := hl.atO hx k hk
  rw [← hd, List.drop_drop, Nat.mul_comm 4 k] at h1
  obtain ⟨e0, e1, e2, e3⟩ := getElem_of_take4 h1
  refine ⟨w, ⟨?_, by rw [hg]; exact e0, by rw [hg]; exact e1, by rw [hg]; exact e2, by rw [hg]; exact e3, h2⟩, fun x hx' => ?_⟩
  · rw [hg]
    simp only [loadObj]
    rw [if_pos (by omega), h1]
    rfl
  · have := h3 x hx'
    simp at this
    omega
/-- what Read tells. -/
def ReadN (h : VH) (bs : List UInt8) (u : Value) (h' : VH) : Prop :=
  ∃ a n c, u = .tuple #[.slice a n c, .int .i64 (readS bs).2.1, .int .i64 ((readS bs).2.2 : Int)] ∧ FBufN h h' (.slice a n c) (readS bs).1

set_option maxHeartbeats 4000000 in
theorem nread_ok {h : VH} {v : Value} {bs : List UInt8} (hb : IsBytes h v bs) (hlen : bs.length ≤ 1000000000) :
    PCalls Try.prog f_wire_Read [v] h (ReadN h bs) := by
  refine PCalls_of_pw st_wire_Read (by simp [n_wire_Read]) ?_
  rw [b_wire_Read]
  obtain ⟨va, vc, rfl⟩ := hb.shape
  obtain ⟨L, hL⟩ : ∃ L, L = bs.length := ⟨_, rfl⟩
  have hnil : ∀ g, Fr h g [] → FBufN h g (.slice none 0 0) [] := fun g hg => (FBufN.nil h).step hg
  have herr : ∀ (e : Int) (p : Nat) (g : VH), readS bs = ([], e, p) → Fr h g [] → ReadN h bs (.tuple #[.slice none 0 0, .int .i64 e, .int .i64 (p : Int)]) g := by
    intro e p g hr hf
    exact ⟨none, 0, 0, by rw [hr], by rw [hr]; exact hnil g hf⟩
  rw [← hL] at hb ⊢
  by_cases hbig : 1048576 < L
  · have hbigI : (1048576 : Int) < (L : Int) := by omega
    simp (disch := first|omega|(simp only [np,ns];try omega)) [r_wire_Read, B_wire_Read, hbig, hbigI]
    exact herr 4 0 _ (by unfold readS; rw [if_pos (by omega)]) (Fr.refl _ _)
  have hbigI : ¬ (1048576 : Int) < (L : Int) := by omega
  obtain ⟨R, hR⟩ : ∃ R, R = readR (L + 1) 0 bs := ⟨_, rfl⟩
  have hrs : readS bs = if R.2.1 = 0 then (R.1, 0, 0) else ([], R.2.1, R.2.2) := by unfold readS; rw [if_neg (by omega), ← hL, ← hR]
  simp (disch := first|omega|(simp only [np,ns];try omega)) [B_wire_Read, hbig, hbigI]
  refine pw_loopN (fun k s g => ∃ (at_ f : Nat) (fs : List Fd) (a : Option Addr) (n c : Nat), FBufN h g (.slice a n c) fs ∧ n = fs.length ∧ at_ ≤ L ∧ k ≤ at_ ∧ L ≤ f + at_ ∧ fs.length ≤ 4096 ∧ (∀ x ∈ fs, x.b.length ≤ L) ∧
    R = (fs ++ (readR (f + 1) fs.length (bs.drop at_)).1, (readR (f + 1) fs.length (bs.drop at_)).2.1, at_ + (readR (f + 1) fs.length (bs.drop at_)).2.2) ∧
    s 0 = .slice va L vc ∧ s 5 = .slice a n c ∧ s 6 = .int .i64 (at_ : Int)) L ?_ ?_
  · exact ⟨0, L, [], none, 0, 0, hnil _ (Fr.refl _ _), rfl, by omega, by omega, by omega, by simp, by simp, by rw [hR]; simp, by simp [upd_apply, s0_apply], by simp [upd_apply], by simp [upd_apply]⟩
  rintro k s g hk ⟨at_, f, fs, ba, bn, bc, hB, hbn, hat, hka, hfa, hfs, hfb, hRe, e0, e5, e6⟩
  by_cases hlt : at_ < L
  · have hltI : (at_ : Int) < (L : Int) := by omega
    have hl0 : (bs.drop at_).length ≠ 0 := by simp; omega
    rw [readR_succ, if_neg hl0] at hRe
    by_cases hfull : bn = 4096
    · have hfI : ((bn : Int) == 4096) = true := by simp; omega
      rw [if_pos (by omega)] at hRe
      simp (disch := first|omega|(simp only [np,ns];try omega)) [r_wire_Read, e0, e5, e6, hltI, hlt, hfI]
      exact herr 7 at_ _ (by rw [hrs, hRe]; rfl) hB.fr
    have hfI : ((bn : Int) == 4096) = false := by simp; omega
    rw [if_neg (by omega)] at hRe
    simp (disch := first|omega|(simp only [np,ns];try omega)) [e0, e5, e6, hltI, hlt, hfI]
    have hbg := isB_fr hB.fr hb
    rw [hL] at hbg
    rw [hL]
    refine (next_ok hbg (at_ := at_) (by omega) hlen).mono ?_
    rintro u g2 ⟨hf2, xa, xb, xc, p, q, r, e, rfl, hok⟩
    have hnn := hB.fr.n
    rw [← hL]
    obtain ⟨T, hT⟩ : ∃ T, T = bs.drop at_ := ⟨_, rfl⟩
    rw [← hT] at hRe hok ⊢
    have hsp := @nextS_spec T
    have hTl : T.length = L - at_ := by rw [hT, hL]; simp
    have hdd : ∀ j, T.drop j = bs.drop (at_ + j) := fun j => by rw [hT, List.drop_drop]
    generalize nextS T = q0 at hRe hok hsp ⊢
    obtain ⟨F, kk, e1⟩ := q0
    simp only at hRe hok hsp ⊢
    by_cases he : e1 = 0
    · subst he
      obtain ⟨rfl, rfl, rfl, rfl, hby, hid⟩ := hok rfl
      obtain ⟨k1, k2, k3, k4, k5, k6, k7, k8⟩ := hsp rfl
      rw [if_neg (by simp), hdd] at hRe
      have hst : ∀ a b c d, storeObj (.cells [a, b, c, d] true 1) 0 4 (.agg #[.int .i64 F.num, .int .i64 F.ty, .int .u64 (F.n : Int), .slice p q r]) = some (.cells [.int .i64 F.num, .int .i64 F.ty, .int .u64 (F.n : Int), .slice p q r] true 1) := fun _ _ _ _ => rfl
      obtain ⟨g3, hg3⟩ : ∃ g3, g3 = (g2.push (.cells [.int .i64 0, .int .i64 0, .int .u64 0, .slice none 0 0] true 1)).set g2.n (.cells [.int .i64 F.num, .int .i64 F.ty, .int .u64 (F.n : Int), .slice p q r] true 1) := ⟨_, rfl⟩
      have hf3 : Fr g2 g3 [] := by rw [hg3]; exact Fr_set (Fr_push (Fr.refl _ _)) (Nat.le_refl _)
      have hg3o : g3.get g2.n = .cells [.int .i64 F.num, .int .i64 F.ty, .int .u64 (F.n : Int), .slice p q r] true 1 := by rw [hg3, VH.get_set_same]
      have hB3 := (hB.step hf2).step hf3
      obtain ⟨wa, wn, wc, g4, hap, hB4⟩ := hB3.append (f := F) (isB_fr hf3 hby) (fun x hx => by have := hid x hx; omega) (by omega)
      have hfl : fillC [.int .i64 0, .int .i64 0, .int .u64 0, .slice none 0 0] [(0, 4, .agg #[.int .i64 F.num, .int .i64 F.ty, .int .u64 (F.n : Int), .slice p q r])] = some (fdL F (.slice p q r)) := rfl
      have hone : (fdL F (.slice p q r)).all Value.oneCell' = true := rfl
      have hrow : rowObj (.cells (fdL F (.slice p q r)) true 4) 0 4 = some (fdL F (.slice p q r)) := rfl
      have e1I : (at_ : Int) + (kk : Int) = ((at_ + kk : Nat) : Int) := by omega
      simp (disch := first|omega|(simp only [np,ns];try omega)) [e0, e5, e6, ← hg3, hg3o, hst, ld4_all, hfl, hone, hrow, hap]
      have hwn : wn = (fs ++ [F]).length := by
        obtain ⟨a', c', h1⟩ := hB4.shape
        injection h1
      obtain ⟨f', rfl⟩ : ∃ f', f = f' + 1 := ⟨f - 1, by omega⟩
      refine ⟨by omega, at_ + kk, f', fs ++ [F], wa, wn, wc, hB4, hwn, by omega, by omega, by omega, by simp; omega, ?_, ?_, ⟨rfl, rfl, rfl⟩, by omega⟩
      · intro x hx
        rcases List.mem_append.1 hx with hx | hx
        · exact hfb x hx
        · rw [List.mem_singleton.1 hx]; omega
      · rw [hRe]
        simp [Nat.add_assoc]
    · have heb : (e1 != 0) = true := by simpa using he
      rw [if_pos he] at hRe
      have hst : ∀ a b c d, storeObj (.cells [a, b, c, d] true 1) 0 4 (.agg #[.int .i64 xa, .int .i64 xb, .int .u64 xc, .slice p q r]) = some (.cells [.int .i64 xa, .int .i64 xb, .int .u64 xc, .slice p q r] true 1) := fun _ _ _ _ => rfl
      simp (disch := first|omega|(simp only [np,ns];try omega)) [r_wire_Read, e0, e5, e6, heb, hst]
      exact herr e1 at_ _ (by rw [hrs, hRe]; simp [he]) (Fr_set (Fr_push (hB.fr.trans hf2)) (by have := hB.fr.n; have := hf2.n; omega))
  · obtain rfl : at_ = L := by omega
    have hd : (bs.drop at_).length = 0 := by simp; omega
    rw [readR_succ, if_pos hd] at hRe
    simp (disch := first|omega|(simp only [np,ns];try omega)) [r_wire_Read, e0, e5, e6]
    have hrs2 : readS bs = (fs, 0, 0) := by rw [hrs, hRe]; simp
    exact ⟨ba, bn, bc, by rw [hrs2]; rfl, by rw [hrs2]; exact hB⟩

/- wire, part Ga: what is written is read again (plain). -/


theorem u8_of_lt {n : Nat} (h : n < 256) : (UInt8.ofNat n).toNat = n := by rw [UInt8.toNat_ofNat']; exact Nat.mod_eq_of_lt h
theorem or_shl (a b k : Nat) (h : a < 2 ^ k) : a ||| b * 2 ^ k = a + b * 2 ^ k := by rw [Nat.or_comm, or_add b a k h, Nat.add_comm]
/-- a varint is read: whatever follows it. -/
theorem getS_varint : ∀ (k acc n : Nat) (r : List UInt8), k ≤ 9 → acc < 2 ^ (7 * k) → n * 2 ^ (7 * k) < 18446744073709551616 → getS k acc (varint n ++ r) = (acc + n * 2 ^ (7 * k), k + (varint n).length, 0) := by
  intro k
  have main : ∀ (j k acc n : Nat) (r : List UInt8), j + k = 9 → acc < 2 ^ (7 * k) → n * 2 ^ (7 * k) < 18446744073709551616 → getS k acc (varint n ++ r) = (acc + n * 2 ^ (7 * k), k + (varint n).length, 0) := by
    intro j
    induction j with
    | zero =>
      intro k acc n r hk hacc hn
      obtain rfl : k = 9 := by omega
      have hn2 : n < 2 := by omega
      have hn1 : n < 128 := by omega
      rw [varint_lt hn1]
      simp only [List.cons_append, List.nil_append, List.length_cons, List.length_nil]
      rw [getS_cons, u8_of_lt (by omega), if_neg (by omega), if_pos hn1, Nat.mod_eq_of_lt hn, or_shl _ _ _ hacc]
    | succ j ih =>
      intro k acc n r hk hacc hn
      by_cases hn1 : n < 128
      · rw [varint_lt hn1]
        simp only [List.cons_append, List.nil_append, List.length_cons, List.length_nil]
        rw [getS_cons, u8_of_lt (by omega), if_neg (by omega), if_pos hn1, Nat.mod_eq_of_lt hn, or_shl _ _ _ hacc]
      · rw [varint_ge hn1]
        simp only [List.cons_append, List.length_cons]
        have hc : n % 128 + 128 < 256 := by omega
        have hand : (n % 128 + 128) &&& 127 = n % 128 := by
          rw [show (127 : Nat) = 2 ^ 7 - 1 by decide, Nat.and_two_pow_sub_one_eq_mod]
          omega
        have hp : 2 ^ (7 * (k + 1)) = 128 * 2 ^ (7 * k) := by rw [Nat.mul_add, Nat.pow_add, Nat.mul_comm]
        have hpos : 0 < 2 ^ (7 * k) := Nat.pow_pos (by decide)
        have hle : n % 128 * 2 ^ (7 * k) ≤ n * 2 ^ (7 * k) := Nat.mul_le_mul_right _ (Nat.mod_le _ _)
        have hsplit : n * 2 ^ (7 * k) = n % 128 * 2 ^ (7 * k) + n / 128 * 2 ^ (7 * (k + 1)) := by
          rw [hp, ← Nat.mul_assoc, ← Nat.add_mul]
          congr 1
          omega
        rw [getS_cons, u8_of_lt hc, if_neg (by omega), if_neg (by omega), if_neg (by omega), hand, Nat.mod_eq_of_lt (by omega), or_shl _ _ _ hacc]
        have hacc2 : acc + n % 128 * 2 ^ (7 * k) < 2 ^ (7 * (k + 1)) := by
          have h1 : n % 128 * 2 ^ (7 * k) ≤ 127 * 2 ^ (7 * k) := Nat.mul_le_mul_right _ (by omega)
          omega
        rw [ih (k + 1) _ (n / 128) r (by omega) hacc2 (by omega)]
        simp only [Prod.mk.injEq, and_true]
        constructor <;> omega
  intro acc n r hk
  exact main (9 - k) k acc n r (by omega)
theorem get_varint {n : Nat} (hn : n < 18446744073709551616) (r : List UInt8) : getS 0 0 (varint n ++ r) = (n, (varint n).length, 0) := by
  have := getS_varint 0 0 n r (by omega) (by decide) (by simpa using hn)
  simpa using this
theorem numB_low : ∀ (k n : Nat), n < 256 ^ k → numB (lowB k n) = n
  | 0, n, h => by simp at h; subst h; rfl
  | k + 1, n, h => by
    simp only [lowB, numB]
    rw [u8_of_lt (by omega), numB_low k (n / 256) (by rw [Nat.pow_succ] at h; exact Nat.div_lt_of_lt_mul (by omega))]
    omega

theorem key_split {f : Fd} (hk : okF f = true) : (8 * f.num + f.ty).toNat / 8 = f.num.toNat ∧ (8 * f.num + f.ty).toNat % 8 = f.ty.toNat ∧ ((f.num.toNat : Nat) : Int) = f.num ∧ ((f.ty.toNat : Nat) : Int) = f.ty ∧ 1 ≤ f.num.toNat ∧ f.num.toNat ≤ 536870911 := by
  obtain ⟨h1, h2⟩ := okF_num hk
  have := okF_ty hk
  omega
theorem bits_of {f : Fd} (hk : okF f = true) : (f.ty = 0 → f.b = []) ∧ (f.ty = 1 → f.b = []) ∧ (f.ty = 5 → f.b = [] ∧ f.n < 4294967296) ∧ (f.ty = 2 → f.n = 0) := by
  unfold okF at hk
  simp only [Bool.and_eq_true] at hk
  obtain ⟨_, hk⟩ := hk
  refine ⟨fun e => ?_, fun e => ?_, fun e => ?_, fun e => ?_⟩
  · rw [if_pos e] at hk; simpa using hk
  · rw [if_neg (by omega), if_pos e] at hk; simpa using hk
  · rw [if_neg (by omega), if_neg (by omega), if_pos e] at hk; simpa using hk
  · rw [if_neg (by omega), if_neg (by omega), if_neg (by omega), if_pos e] at hk; simpa using hk
theorem drop_len (a b : List UInt8) : (a ++ b).drop a.length = b := by simp
/-- a field is read. -/
theorem next_enc {f : Fd} (hk : okF f = true) (hn : f.n < 18446744073709551616) (hb : f.b.length < 1000000000) (r : List UInt8) : nextS (encF f ++ r) = (f, (encF f).length, 0) := by
  obtain ⟨e1, e2, e3, e4, e5, e6⟩ := key_split hk
  have hkl := key_lt hk
  obtain ⟨b0, b1, b5, b2⟩ := bits_of hk
  have henc : encF f = varint (8 * f.num + f.ty).toNat ++ ((if f.ty = 0 then varint f.n else if f.ty = 1 then lowB 8 f.n else if f.ty = 5 then lowB 4 f.n else if f.ty = 2 then varint f.b.length else []) ++ f.b) := by unfold encF headF; rw [List.append_assoc]
  generalize (8 * f.num + f.ty).toNat = K at *
  obtain ⟨N, hN⟩ : ∃ N, N = f.num.toNat := ⟨_, rfl⟩
  rw [← hN] at e1 e3 e5 e6
  have hn1 : ¬ (N < 1 ∨ 536870911 < N) := by omega
  rcases okF_ty hk with h0 | h1 | h5 | h2
  · have hT : K % 8 = 0 := by omega
    rw [if_pos h0, b0 h0, List.append_nil] at henc
    rw [henc, List.append_assoc]
    unfold nextS
    rw [get_varint (by omega)]
    simp only [e1, hT]
    rw [if_neg (by simp), if_neg hn1, if_pos trivial, drop_len, get_varint hn]
    simp only [List.length_append, Prod.mk.injEq, and_true]
    cases f
    simp only at *
    rw [e3, h0, b0 h0]
  · have hT : K % 8 = 1 := by omega
    rw [if_neg (by omega), if_pos h1, b1 h1, List.append_nil] at henc
    rw [henc, List.append_assoc]
    unfold nextS
    rw [get_varint (by omega)]
    have hl : (lowB 8 f.n ++ r).length = 8 + r.length := by simp [lowB_length]
    have ht : ((lowB 8 f.n ++ r).take 8) = lowB 8 f.n := by
      rw [List.take_append_of_le_length (by rw [lowB_length]; omega), List.take_of_length_le (by rw [lowB_length]; omega)]
    simp only [e1, hT]
    rw [if_neg (by simp), if_neg hn1, if_neg (by decide), if_pos trivial, drop_len, if_neg (by omega), ht, numB_low 8 f.n (by omega)]
    simp only [List.length_append, lowB_length, Prod.mk.injEq, and_true]
    cases f
    simp only at *
    rw [e3, h1, b1 h1]
  · obtain ⟨bb, bn⟩ := b5 h5
    have hT : K % 8 = 5 := by omega
    rw [if_neg (by omega), if_neg (by omega), if_pos h5, bb, List.append_nil] at henc
    rw [henc, List.append_assoc]
    unfold nextS
    rw [get_varint (by omega)]
    have hl : (lowB 4 f.n ++ r).length = 4 + r.length := by simp [lowB_length]
    have ht : ((lowB 4 f.n ++ r).take 4) = lowB 4 f.n := by
      rw [List.take_append_of_le_length (by rw [lowB_length]; omega), List.take_of_length_le (by rw [lowB_length]; omega)]
    simp only [e1, hT]
    rw [if_neg (by simp), if_neg hn1, if_neg (by decide), if_neg (by decide), if_pos trivial, drop_len, if_neg (by omega), ht, numB_low 4 f.n (by omega)]
    simp only [List.length_append, lowB_length, Prod.mk.injEq, and_true]
    cases f
    simp only at *
    rw [e3, h5, bb]
  · have hT : K % 8 = 2 := by omega
    rw [if_neg (by omega), if_neg (by omega), if_neg (by omega), if_pos h2] at henc
    rw [henc, List.append_assoc, List.append_assoc]
    unfold nextS
    rw [get_varint (by omega)]
    have hd : (varint K ++ (varint f.b.length ++ (f.b ++ r))).drop ((varint K).length + (varint f.b.length).length) = f.b ++ r := by
      rw [← List.append_assoc, ← List.length_append, drop_len]
    simp only [e1, hT]
    rw [if_neg (by simp), if_neg hn1, if_neg (by decide), if_neg (by decide), if_neg (by decide), if_pos trivial, drop_len, get_varint (by omega)]
    simp only
    rw [if_neg (by simp), hd, if_neg (by simp), List.take_append_of_le_length (Nat.le_refl _), List.take_length]
    simp only [List.length_append, Prod.mk.injEq, and_true]
    refine ⟨?_, by omega⟩
    cases f
    simp only at *
    rw [e3, h2, b2 h2]
theorem encF_pos (f : Fd) : 0 < (encF f).length := by
  have := List.length_pos_iff.2 (varint_ne (8 * f.num + f.ty).toNat)
  unfold encF headF
  simp
  omega
/-- whole fields, and what follows them. -/
theorem readR_enc : ∀ (fs : List Fd) (fu cnt : Nat) (r : List UInt8), (∀ f ∈ fs, okF f = true ∧ f.n < 18446744073709551616 ∧ f.b.length < 1000000000) → cnt + fs.length ≤ 4096 → fs.length < fu →
    readR fu cnt (encL fs ++ r) = (fs ++ (readR (fu - fs.length) (cnt + fs.length) r).1, (readR (fu - fs.length) (cnt + fs.length) r).2.1, (encL fs).length + (readR (fu - fs.length) (cnt + fs.length) r).2.2)
  | [], fu, cnt, r, _, _, _ => by simp [encL]
  | f :: fs, fu, cnt, r, h, hc, hf => by
    obtain ⟨fu, rfl⟩ : ∃ q, fu = q + 1 := ⟨fu - 1, by omega⟩
    obtain ⟨h1, h2, h3⟩ := h f (by simp)
    have he : encL (f :: fs) ++ r = encF f ++ (encL fs ++ r) := by simp [encL]
    have hp := encF_pos f
    simp only [List.length_cons] at hc hf
    have hne : ¬ (encF f ++ (encL fs ++ r)).length = 0 := by rw [List.length_append]; omega
    rw [he, readR_succ, if_neg hne, if_neg (by omega), next_enc h1 h2 h3]
    simp only
    rw [if_neg (by simp), drop_len, readR_enc fs fu (cnt + 1) r (fun x hx => h x (by simp [hx])) (by omega) (by omega)]
    rw [show fu + 1 - (f :: fs).length = fu - fs.length by simp, show cnt + (f :: fs).length = cnt + 1 + fs.length by simp; omega]
    simp only [List.cons_append, Prod.mk.injEq, true_and]
    simp [encL]
    omega
theorem readS_enc {fs : List Fd} (h : ∀ f ∈ fs, okF f = true ∧ f.n < 18446744073709551616 ∧ f.b.length < 1000000000) (hc : fs.length ≤ 4096) (hl : (encL fs).length ≤ 1048576) (hfl : fs.length ≤ (encL fs).length) : readS (encL fs) = (fs, 0, 0) := by
  have := readR_enc fs ((encL fs).length + 1) 0 [] h (by omega) (by omega)
  rw [List.append_nil] at this
  obtain ⟨q, hq⟩ : ∃ q, (encL fs).length + 1 - fs.length = q + 1 := ⟨(encL fs).length - fs.length, by omega⟩
  have e : readR (q + 1) (0 + fs.length) [] = ([], 0, 0) := by rw [readR_succ, if_pos List.length_nil]
  rw [hq, e] at this
  unfold readS
  rw [if_neg (by omega), this]
  simp
theorem encL_ge (fs : List Fd) : fs.length ≤ (encL fs).length := by
  induction fs with
  | nil => simp [encL]
  | cons f fs ih =>
    have := encF_pos f
    have e : encL (f :: fs) = encF f ++ encL fs := by simp [encL]
    rw [e]
    simp
    omega
theorem tdiv_n (n k : Nat) : Int.tdiv (n : Int) (k : Int) = ((n / k : Nat) : Int) := by
  rw [Int.tdiv_eq_ediv_of_nonneg (by omega)]; simp
theorem tmod_n (n k : Nat) : Int.tmod (n : Int) (k : Int) = ((n % k : Nat) : Int) := by
  rw [Int.tmod_eq_emod_of_nonneg (by omega)]; simp
theorem rput_ok {h : VH} {v : Value} {bs : List UInt8} (hb : IsBytes h v bs) {n : Nat} (hn : n < 18446744073709551616) (hl : bs.length ≤ 100000000) :
    PCalls Try.prog f_ref02_Put [v, .int .u64 (n : Int)] h (fun u h' => (∃ a k c, u = .slice a k c) ∧ Buf h h' u (bs ++ varint n)) := by
  refine PCalls_of_pw st_ref02_Put (by simp [n_ref02_Put]) ?_
  rw [b_ref02_Put]
  obtain ⟨va, vc, rfl⟩ := hb.shape
  obtain ⟨w0, g0, hap0, hbuf0⟩ := (Buf.nil h).append bs (by simp; omega)
  rw [List.nil_append] at hbuf0
  obtain ⟨xa, xn, xc, rfl⟩ : ∃ a n c, w0 = .slice a n c := by
    obtain ⟨a, c, rfl⟩ := hbuf0.shape
    exact ⟨_, _, _, rfl⟩
  have hsrc := hb.src
  obtain ⟨L, hL⟩ : ∃ L, L = bs.length := ⟨_, rfl⟩
  rw [← hL] at hsrc hap0 ⊢
  simp (disch := first|omega|(simp only [np,ns];try omega)) [B_ref02_Put, hsrc, hap0]
  refine pw_loopN (fun k s g => ∃ (l' : List UInt8) (n' : Nat) (w : Value), s 5 = w ∧ s 1 = .int .u64 (n' : Int) ∧ Buf h g w l' ∧ bs ++ varint n = l' ++ varint n' ∧ n' < 2 ^ (70 - 7 * k) ∧ n' < 18446744073709551616 ∧ l'.length = L + k ∧ (∃ a k c, w = .slice a k c)) 10 ?_ ?_
  · exact ⟨bs, n, _, by simp [upd_apply, s0_apply], by simp [upd_apply, s0_apply], hbuf0, rfl, by omega, hn, by omega, _, _, _, rfl⟩
  · rintro k s g hk ⟨l', n', w, h0', h1, hb', he, hlt, hn', hll, a, q, c, rfl⟩
    by_cases hg : 128 ≤ n'
    · have hgI : (128 : Int) ≤ (n' : Int) := by omega
      have hgN : ¬ n' < 128 := by omega
      have hk10 : k < 10 := by
        by_cases hk9 : k < 10
        · exact hk9
        · obtain rfl : k = 10 := by omega
          simp at hlt
          omega
      obtain ⟨C, hC⟩ : ∃ C, C = UInt8.ofNat (n' % 128 + 128) := ⟨_, rfl⟩
      have hm : Int.tmod (n' : Int) 128 = ((n' % 128 : Nat) : Int) := tmod_n n' 128
      have hd : Int.tdiv (n' : Int) 128 = ((n' / 128 : Nat) : Int) := tdiv_n n' 128
      obtain ⟨M, hM⟩ : ∃ M, M = n' % 128 := ⟨_, rfl⟩
      obtain ⟨Q, hQ⟩ : ∃ Q, Q = n' / 128 := ⟨_, rfl⟩
      rw [← hM] at hm hC
      rw [← hQ] at hd
      have hw1 : IntKind.u64.wrap ((M : Int) + 128) = ((M + 128 : Nat) : Int) := by rw [u64_small (by omega) (by omega)]; omega
      have hw2 : IntKind.u8.wrap ((M : Int) + 128) = (C.toNat : Int) := by rw [hC, show (M : Int) + 128 = ((M + 128 : Nat) : Int) by omega]; exact u8_wrapN _
      have hwQ : IntKind.u64.wrap (Q : Int) = (Q : Int) := u64_small (by omega) (by omega)
      obtain ⟨w', g', hap, hb2⟩ := hb'.byte C (by omega)
      obtain ⟨xa, xn, xc, rfl⟩ : ∃ a n c, w' = .slice a n c := by
        obtain ⟨a, c, rfl⟩ := hb2.shape
        exact ⟨_, _, _, rfl⟩
      have hfill : fillC [.int .u8 0] [(0, 1, .int .u8 (C.toNat : Int))] = some [.int .u8 (C.toNat : Int)] := fill1 rfl
      have hone : [Value.int .u8 (C.toNat : Int)].all Value.oneCell' = true := rfl
      have hrow : ∀ x, rowObj (.cells [x] true 1) 0 1 = some [x] := fun x => rfl
      simp (disch := first|omega|(simp only [np,ns];try omega)) [h0', h1, hgI, hg, hm, hd, hw1, hw2, hwQ, hfill, hone, hrow, hap]
      rw [hC, hM] at hb2
      refine ⟨hk10, _, Q, rfl, hb2, ?_, ?_, by omega, by simp; omega⟩
      · rw [he, varint_ge hgN, hQ]; simp
      · rw [show 70 - 7 * k = 7 + (70 - 7 * (k + 1)) by omega, Nat.pow_add] at hlt
        rw [hQ]
        exact Nat.div_lt_of_lt_mul (by omega)
    · have hgI : ¬ (128 : Int) ≤ (n' : Int) := by omega
      have hgN : n' < 128 := by omega
      obtain ⟨D, hD⟩ : ∃ D, D = UInt8.ofNat n' := ⟨_, rfl⟩
      have hw1 : IntKind.u8.wrap (n' : Int) = (D.toNat : Int) := by rw [hD]; exact u8_wrapN n'
      obtain ⟨w', g', hap, hb2⟩ := hb'.byte D (by omega)
      obtain ⟨xa, xn, xc, rfl⟩ : ∃ a n c, w' = .slice a n c := by
        obtain ⟨a, c, rfl⟩ := hb2.shape
        exact ⟨_, _, _, rfl⟩
      have hfill : fillC [.int .u8 0] [(0, 1, .int .u8 (D.toNat : Int))] = some [.int .u8 (D.toNat : Int)] := fill1 rfl
      have hone : [Value.int .u8 (D.toNat : Int)].all Value.oneCell' = true := rfl
      have hrow : ∀ x, rowObj (.cells [x] true 1) 0 1 = some [x] := fun x => rfl
      simp (disch := first|omega|(simp only [np,ns];try omega)) [r_ref02_Put, h0', h1, hgI, hg, hw1, hfill, hone, hrow, hap]
      rw [hD] at hb2
      rw [he, varint_lt hgN]
      exact hb2

theorem Buf.base {h0 h1 g : VH} {w : Value} {l : List UInt8} (hf : Fr h0 h1 []) (hb : Buf h1 g w l) : Buf h0 g w l := ⟨hb.own, hf.trans hb.fr, fun i hi => Nat.le_trans hf.n (hb.ids i hi)⟩
set_option maxHeartbeats 8000000 in
theorem rwrite_ok {h : VH} {v : Value} {fs : List Fd} (hv : IsFds h v fs) (hwf : ∀ f ∈ fs, f.wf) (hbl : ∀ f ∈ fs, f.b.length ≤ 8000000) (hlen : fs.length ≤ 100000000) :
    PCalls Try.prog f_ref02_Write [v] h (fun u h' => ∃ a n c, u = .tuple #[.slice a n c, .int .i64 (writeS fs).2] ∧ Buf h h' (.slice a n c) (writeS fs).1) := by
  refine PCalls_of_pw st_ref02_Write (by simp [n_ref02_Write]) ?_
  rw [b_ref02_Write]
  obtain ⟨va, vc, rfl⟩ := hv.shape
  obtain ⟨L, hL⟩ : ∃ L, L = fs.length := ⟨_, rfl⟩
  have hnilB : ∀ g, Fr h g [] → Buf h g (.slice none 0 0) [] := fun g hg => (Buf.nil h).step hg
  rw [← hL]
  by_cases hbig : 4096 < L
  · have hbigI : (4096 : Int) < (L : Int) := by omega
    have hw : writeS fs = ([], 7) := by unfold writeS; rw [if_pos (by omega)]
    rw [hw]
    simp (disch := first|omega|(simp only [np,ns];try omega)) [r_ref02_Write, B_ref02_Write, hbig, hbigI]
    exact ⟨_, _, _, ⟨rfl, rfl, rfl⟩, hnilB h (Fr.refl _ _)⟩
  have hbigI : ¬ (4096 : Int) < (L : Int) := by omega
  simp (disch := first|omega|(simp only [np,ns];try omega)) [B_ref02_Write, hbig, hbigI]
  refine pw_loopN (fun k s g => ∃ (a : Option Addr) (n c : Nat) (long : Bool), Fr h g [] ∧ (∀ x ∈ fs.take k, okF x = true) ∧ (long = false → Buf h g (.slice a n c) (encL (fs.take k)) ∧ n = (encL (fs.take k)).length ∧ n ≤ 1048576) ∧ (long = true → 1048576 < (encL (fs.take k)).length) ∧
    s 0 = .slice va L vc ∧ s 4 = .slice a n c ∧ s 5 = .bool long ∧ s 6 = .int .i64 (k : Int)) L ?_ ?_
  · exact ⟨none, 0, 0, false, Fr.refl _ _, by simp, fun _ => ⟨by simpa [encL] using Buf.nil h, by simp [encL], by omega⟩, by simp, by simp [upd_apply, s0_apply], by simp [upd_apply, s0_apply], by simp [upd_apply, s0_apply], by simp [upd_apply, s0_apply]⟩
  rintro k s g hk ⟨ba, bn, bc, long, hfr, hall, hno, hyes, e0, e4, e5, e6⟩
  by_cases hlt : k < L
  · have hltI : (k : Int) < (L : Int) := by omega
    have hkf : k < fs.length := by omega
    obtain ⟨i, o, c, hi, hc, hva, hez, hat⟩ := hv.at_ (by omega)
    rw [← hL] at hva hc
    injection hva with hva1 _ hva3
    subst hva1
    subst hva3
    obtain ⟨w, hA0⟩ := hat k hkf
    have hA := hA0.fr hfr hi
    have hmem : fs[k] ∈ fs := List.getElem_mem hkf
    have htk := encL_take hkf
    have htk1 := take_one hkf
    have htot := encL_take_le fs (k + 1)
    obtain ⟨f, hf⟩ : ∃ f, f = fs[k] := ⟨_, rfl⟩
    rw [← hf] at hA0 hA hmem htk htk1
    rw [htk, List.length_append] at htot
    obtain ⟨FL, hFL⟩ : ∃ FL, FL = f.b.length := ⟨_, rfl⟩
    have hfb := hbl f hmem
    obtain ⟨wa, wc, hwv⟩ := hA.bytes.shape
    rw [← hFL] at hwv
    subst hwv
    obtain ⟨hn1, hn2, ht1, ht2, hn⟩ := hwf f hmem
    have eW : IntKind.i64.wrap ((k : Int) + 1) = ((k + 1 : Nat) : Int) := by rw [i64_small (by omega) (by omega)]; omega
    have hAll := hA.all
    have hst : ∀ a b c d, storeObj (.cells [a, b, c, d] true 1) 0 4 (fdV f (.slice wa FL wc)) = some (.cells [.int .i64 f.num, .int .i64 f.ty, .int .u64 (f.n : Int), .slice wa FL wc] true 1) := fun _ _ _ _ => rfl
    obtain ⟨g1, hg1⟩ : ∃ g1, g1 = (g.push (.cells [.int .i64 0, .int .i64 0, .int .u64 0, .slice none 0 0] true 1)).set g.n (.cells [.int .i64 f.num, .int .i64 f.ty, .int .u64 (f.n : Int), .slice wa FL wc] true 1) := ⟨_, rfl⟩
    have hg1o : g1.get g.n = .cells [.int .i64 f.num, .int .i64 f.ty, .int .u64 (f.n : Int), .slice wa FL wc] true 1 := by rw [hg1, VH.get_set_same]
    have hf1 : Fr g g1 [] := by rw [hg1]; exact Fr_set (Fr_push (Fr.refl _ _)) (Nat.le_refl _)
    have hg1n : g1.n = g.n + 1 := by rw [hg1]; rfl
    have hF1 := hfr.trans hf1
    have bz : ∀ n : Nat, ((n : Int) == 0) = decide (n = 0) := fun n => by by_cases h : n = 0 <;> simp [h]
    -- not right: refused
    have hbad : okF f = false → writeS fs = ([], 30) := by
      intro hok
      unfold writeS
      rw [if_neg (by omega), if_pos]
      rw [List.all_eq_false]
      exact ⟨f, hmem, by simp [hok]⟩
    by_cases hok : okF f = true
    · obtain ⟨h1, h2⟩ := okF_num hok
      obtain ⟨b0, b1, b5, b2⟩ := bits_of hok
      obtain ⟨K, hK⟩ : ∃ K, K = (8 * f.num + f.ty).toNat := ⟨_, rfl⟩
      have hKl : K < 4294967296 := by rw [hK]; exact key_lt hok
      have hty8 := okF_ty hok
      have e8n : IntKind.i64.wrap (8 * f.num) = 8 * f.num := i64_small (by omega) (by omega)
      have e8t : IntKind.i64.wrap (8 * f.num + f.ty) = 8 * f.num + f.ty := i64_small (by omega) (by omega)
      have e8u : IntKind.u64.wrap (8 * f.num + f.ty) = (K : Int) := by rw [u64_small (by omega) (by omega)]; omega
      have hallk : ∀ x ∈ fs.take (k + 1), okF x = true := by
        rw [htk1]
        intro x hx
        rcases List.mem_append.1 hx with hx | hx
        · exact hall x hx
        · rw [List.mem_singleton.1 hx]; exact hok
      have hegf := encF_b f
      simp (disch := first|omega|(simp only [np,ns];try omega)) [e0, e4, e5, e6, hltI, hlt, hAll, hst, ← hg1, hg1o, ld4_0, ld4_1, ld4_2, ld4_3, h1, h2]
      generalize hK2 : kBlock 2 _ = K2
      have A : ∀ (s : Slots) (g' : VH), g' = g1 → s 0 = .slice (some ⟨i, o, none⟩) L vc → s 4 = .slice ba bn bc → s 5 = .bool long → s 6 = .int .i64 (k : Int) → s 7 = .pointer (some ⟨g.n, 0, none⟩) → s 8 = .bool true → K2 .normal s g' := by
        rintro s g' rfl e0 e4 e5 e6 e7 e8
        rw [← hK2]
        cases long
        · obtain ⟨hB, hbn, hble⟩ := hno rfl
          have hB1 := hB.step hf1
          simp (disch := first|omega|(simp only [np,ns];try omega)) [e0, e4, e5, e6, e7, e8, hg1o, ld4_0, ld4_1, ld4_2, ld4_3, e8n, e8t, e8u]
          refine (rput_ok (bs := []) (n := K) (.inl ⟨rfl, rfl⟩) (by omega) (by simp)).mono ?_
          rintro u g2 ⟨⟨pa, pn, pc, rfl⟩, P1⟩
          rw [List.nil_append] at P1
          have hg2o : g2.get g.n = .cells [.int .i64 f.num, .int .i64 f.ty, .int .u64 (f.n : Int), .slice wa FL wc] true 1 := (P1.fr.get _ (by omega) (by simp)).trans hg1o
          simp (disch := first|omega|(simp only [np,ns];try omega)) [e7, hg2o, ld4_1]
          generalize hK3 : kBlock 3 _ = K3
          have tail : ∀ (s : Slots) (g3 : VH) (a : Option Addr) (n c : Nat), Buf g' g3 (.slice a n c) (headF f) → s 0 = .slice (some ⟨i, o, none⟩) L vc → s 4 = .slice ba bn bc → s 6 = .int .i64 (k : Int) → s 7 = .pointer (some ⟨g.n, 0, none⟩) → s 9 = .slice a n c → s 5 = .bool false → K3 .normal s g3 := by
            intro s g3 a n c hP e0 e4 e6 e7 e9 e5
            rw [← hK3]
            have hg3o : g3.get g.n = .cells [.int .i64 f.num, .int .i64 f.ty, .int .u64 (f.n : Int), .slice wa FL wc] true 1 := (hP.fr.get _ (by omega) (by simp)).trans hg1o
            have hB3 := hB1.step hP.fr
            have hF3 := hB3.fr
            have hpn : n = (headF f).length := by
              obtain ⟨a', c', h1⟩ := hP.shape
              injection h1
            have hhl := headF_len hok hn (by omega)
            have hel : (encF f).length = n + FL := by rw [hpn, hFL]; simp [encF]
            have w1 : IntKind.i64.wrap (1048576 - (bn : Int)) = 1048576 - (bn : Int) := i64_small (by omega) (by omega)
            have w2 : IntKind.i64.wrap ((n : Int) + (FL : Int)) = (n : Int) + (FL : Int) := i64_small (by omega) (by omega)
            have hkn : (encL (fs.take (k + 1))).length = bn + (encF f).length := by rw [htk, List.length_append, hbn]
            by_cases hbig1 : (1048576 : Int) - (bn : Int) < (FL : Int)
            · simp (disch := first|omega|(simp only [np,ns];try omega)) [e0, e4, e6, e7, e9, e5, hg3o, ld4_3, w1, w2, hbig1, eW]
              exact ⟨hlt, hF3, hallk, by omega⟩
            by_cases hbig2 : (1048576 : Int) - (bn : Int) < (n : Int) + (FL : Int)
            · simp (disch := first|omega|(simp only [np,ns];try omega)) [e0, e4, e6, e7, e9, e5, hg3o, ld4_3, w1, w2, hbig1, hbig2, eW]
              exact ⟨hlt, hF3, hallk, by omega⟩
            have hsrc := hP.is.src
            obtain ⟨w4, g4, hap4, G4⟩ := (Gr.start hB3.own).append (headF f) (by omega)
            have hB4 := Gr.buf hB3 G4
            rw [← hpn] at hap4
            obtain ⟨xa, xn, xc, rfl⟩ : ∃ a n c, w4 = .slice a n c := by
              obtain ⟨a, c, rfl⟩ := hB4.shape
              exact ⟨_, _, _, rfl⟩
            have hg4o : g4.get g.n = .cells [.int .i64 f.num, .int .i64 f.ty, .int .u64 (f.n : Int), .slice wa FL wc] true 1 :=
              (G4.fr.get _ (by have := hP.fr.n; omega) (fun hx => by have := hB.own.lt _ hx; omega)).trans hg3o
            have hsrcB := (isB_fr hB4.fr hA0.bytes).src
            obtain ⟨w5, g5, hap5, hB5⟩ := hB4.append f.b (by rw [List.length_append]; omega)
            rw [← hFL] at hap5
            have hB5 : Buf h g5 w5 (encL (fs.take (k + 1))) := by
              rw [htk]
              unfold encF
              rw [← List.append_assoc]
              exact hB5
            obtain ⟨ya, yn, yc, rfl⟩ : ∃ a n c, w5 = .slice a n c := by
              obtain ⟨a, c, rfl⟩ := hB5.shape
              exact ⟨_, _, _, rfl⟩
            have hyn : yn = (encL (fs.take (k + 1))).length := by
              obtain ⟨a', c', h1⟩ := hB5.shape
              injection h1
            simp (disch := first|omega|(simp only [np,ns];try omega)) [e0, e4, e6, e7, e9, e5, hg3o, ld4_3, w1, w2, hbig1, hbig2, eW, hsrc, hap4, hg4o, hsrcB, hap5]
            exact ⟨hlt, hB5.fr, hallk, ya, yn, yc, ⟨hB5, hyn, by omega⟩, rfl, rfl, rfl⟩
          have hhd : headF f = varint K ++ (if f.ty = 0 then varint f.n else if f.ty = 1 then lowB 8 f.n else if f.ty = 5 then lowB 4 f.n else if f.ty = 2 then varint f.b.length else []) := by unfold headF; rw [← hK]
          have hKlen := varint_len10 (n := K) (by omega)
          have done : ∀ (s : Slots) (g3 : VH) (a : Option Addr) (n c : Nat), Buf g2 g3 (.slice a n c) (headF f) → s 0 = .slice (some ⟨i, o, none⟩) L vc → s 4 = .slice ba bn bc → s 6 = .int .i64 (k : Int) → s 7 = .pointer (some ⟨g.n, 0, none⟩) → s 9 = .slice a n c → s 5 = .bool false → K3 .normal s g3 :=
            fun s g3 a n c hP => tail s g3 a n c (Buf.base P1.fr hP)
          rcases hty8 with h0 | h1t | h5t | h2t
          · have h0p : (f.ty == 0) = true := by simpa using h0
            simp (disch := first|omega|(simp only [np,ns];try omega)) [hg2o, ld4_2, h0p, e7]
            refine (rput_ok P1.is hn (by omega)).mono ?_
            rintro u g3 ⟨⟨qa, qn, qc, rfl⟩, P2⟩
            simp (disch := first|omega|(simp only [np,ns];try omega)) []
            exact done _ _ qa qn qc (by rw [hhd, if_pos h0]; exact P2) (by simp [upd_apply, e0]) (by simp [upd_apply, e4]) (by simp [upd_apply, e6]) (by simp [upd_apply, e7]) (by simp [upd_apply]) (by simp [upd_apply, e5])
          · have h0b : (f.ty == 0) = false := by rw [h1t]; rfl
            have h1p : (f.ty == 1) = true := by rw [h1t]; rfl
            have h5b : (f.ty == 5) = false := by rw [h1t]; rfl
            simp (disch := first|omega|(simp only [np,ns];try omega)) [hg2o, ld4_1, h0b, h1p, h5b, e7]
            have hdM : headF f = varint K ++ lowB 8 f.n := by rw [hhd, if_neg (by omega), if_pos h1t]
            refine pw_loopN (fun j s g3 => ∃ a n c, Buf g' g3 (.slice a n c) (varint K ++ (lowB 8 f.n).take j) ∧ s 0 = .slice (some ⟨i, o, none⟩) L vc ∧ s 4 = .slice ba bn bc ∧ s 6 = .int .i64 (k : Int) ∧ s 7 = .pointer (some ⟨g.n, 0, none⟩) ∧ s 9 = .slice a n c ∧ s 5 = .bool false ∧ s 10 = .int .i64 8 ∧ s 11 = .int .i64 (j : Int)) 8 ?_ ?_
            · exact ⟨pa, pn, pc, by simpa using P1, by simp [upd_apply, e0], by simp [upd_apply, e4], by simp [upd_apply, e6], by simp [upd_apply, e7], by simp [upd_apply], by simp [upd_apply, e5], by simp [upd_apply], by simp [upd_apply]⟩
            rintro j s g3 hj ⟨a, n, c, hP, e0, e4, e6, e7, e9, e5, e10, e11⟩
            by_cases hjlt : j < 8
            · have hjI : (j : Int) < 8 := by omega
              obtain ⟨D, hD⟩ : ∃ D, D = UInt8.ofNat (f.n / 256 ^ j % 256) := ⟨_, rfl⟩
              have hlow := low_byte f.n j
              rw [← hD] at hlow
              have e8 : IntKind.i64.wrap (8 * (j : Int)) = 8 * (j : Int) := i64_small (by omega) (by omega)
              have e8u : IntKind.u64.wrap (8 * (j : Int)) = 8 * (j : Int) := u64_small (by omega) (by omega)
              have e1' : IntKind.i64.wrap ((j : Int) + 1) = ((j + 1 : Nat) : Int) := by rw [i64_small (by omega) (by omega)]; omega
              have hge : ¬ (8 * (j : Int)) < 0 := by omega
              have emin : min (8 * (j : Int)).toNat 64 = 8 * j := by omega
              have hoD : [Value.int .u8 (D.toNat : Int)].all Value.oneCell' = true := rfl
              have hfill : ∀ x, fillC [.int .u8 0] [(0, 1, .int .u8 x)] = some [.int .u8 x] := fun x => fill1 rfl
              have hrow : ∀ x, rowObj (.cells [x] true 1) 0 1 = some [x] := fun x => rfl
              have hg3o : g3.get g.n = .cells [.int .i64 f.num, .int .i64 f.ty, .int .u64 (f.n : Int), .slice wa FL wc] true 1 := (hP.fr.get _ (by omega) (by simp)).trans hg1o
              obtain ⟨w', g4, hap, hP4⟩ := hP.byte D (by simp [lowB_length]; omega)
              obtain ⟨qa, qn, qc, rfl⟩ : ∃ a n c, w' = .slice a n c := by
                obtain ⟨a, c, rfl⟩ := hP4.shape
                exact ⟨_, _, _, rfl⟩
              simp (disch := first|omega|(simp only [np,ns];try omega)) [e0, e4, e6, e7, e9, e5, e10, e11, hjI, hjlt, hg3o, ld4_2, e8, e8u, hge, emin, hlow, hfill, hoD, hrow, hap, e1']
              rw [List.append_assoc, hD, ← lowB_take hjlt] at hP4
              exact ⟨_, _, _, hP4, rfl, rfl, rfl⟩
            · obtain rfl : j = 8 := by omega
              simp (disch := first|omega|(simp only [np,ns];try omega)) [e0, e4, e6, e7, e9, e5, e10, e11]
              exact tail _ _ a n c (by rw [hdM]; simpa [lowB_length, List.take_of_length_le] using hP) e0 e4 e6 e7 e9 e5
          · have h0b : (f.ty == 0) = false := by rw [h5t]; rfl
            have h1b : (f.ty == 1) = false := by rw [h5t]; rfl
            have h5p : (f.ty == 5) = true := by rw [h5t]; rfl
            simp (disch := first|omega|(simp only [np,ns];try omega)) [hg2o, ld4_1, h0b, h1b, h5p, e7]
            have hdM : headF f = varint K ++ lowB 4 f.n := by rw [hhd, if_neg (by omega), if_neg (by omega), if_pos h5t]
            refine pw_loopN (fun j s g3 => ∃ a n c, Buf g' g3 (.slice a n c) (varint K ++ (lowB 4 f.n).take j) ∧ s 0 = .slice (some ⟨i, o, none⟩) L vc ∧ s 4 = .slice ba bn bc ∧ s 6 = .int .i64 (k : Int) ∧ s 7 = .pointer (some ⟨g.n, 0, none⟩) ∧ s 9 = .slice a n c ∧ s 5 = .bool false ∧ s 10 = .int .i64 4 ∧ s 11 = .int .i64 (j : Int)) 4 ?_ ?_
            · exact ⟨pa, pn, pc, by simpa using P1, by simp [upd_apply, e0], by simp [upd_apply, e4], by simp [upd_apply, e6], by simp [upd_apply, e7], by simp [upd_apply], by simp [upd_apply, e5], by simp [upd_apply], by simp [upd_apply]⟩
            rintro j s g3 hj ⟨a, n, c, hP, e0, e4, e6, e7, e9, e5, e10, e11⟩
            by_cases hjlt : j < 4
            · have hjI : (j : Int) < 4 := by omega
              obtain ⟨D, hD⟩ : ∃ D, D = UInt8.ofNat (f.n / 256 ^ j % 256) := ⟨_, rfl⟩
              have hlow := low_byte f.n j
              rw [← hD] at hlow
              have e8 : IntKind.i64.wrap (8 * (j : Int)) = 8 * (j : Int) := i64_small (by omega) (by omega)
              have e8u : IntKind.u64.wrap (8 * (j : Int)) = 8 * (j : Int) := u64_small (by omega) (by omega)
              have e1' : IntKind.i64.wrap ((j : Int) + 1) = ((j + 1 : Nat) : Int) := by rw [i64_small (by omega) (by omega)]; omega
              have hge : ¬ (8 * (j : Int)) < 0 := by omega
              have emin : min (8 * (j : Int)).toNat 64 = 8 * j := by omega
              have hoD : [Value.int .u8 (D.toNat : Int)].all Value.oneCell' = true := rfl
              have hfill : ∀ x, fillC [.int .u8 0] [(0, 1, .int .u8 x)] = some [.int .u8 x] := fun x => fill1 rfl
              have hrow : ∀ x, rowObj (.cells [x] true 1) 0 1 = some [x] := fun x => rfl
              have hg3o : g3.get g.n = .cells [.int .i64 f.num, .int .i64 f.ty, .int .u64 (f.n : Int), .slice wa FL wc] true 1 := (hP.fr.get _ (by omega) (by simp)).trans hg1o
              obtain ⟨w', g4, hap, hP4⟩ := hP.byte D (by simp [lowB_length]; omega)
              obtain ⟨qa, qn, qc, rfl⟩ : ∃ a n c, w' = .slice a n c := by
                obtain ⟨a, c, rfl⟩ := hP4.shape
                exact ⟨_, _, _, rfl⟩
              simp (disch := first|omega|(simp only [np,ns];try omega)) [e0, e4, e6, e7, e9, e5, e10, e11, hjI, hjlt, hg3o, ld4_2, e8, e8u, hge, emin, hlow, hfill, hoD, hrow, hap, e1']
              rw [List.append_assoc, hD, ← lowB_take hjlt] at hP4
              exact ⟨_, _, _, hP4, rfl, rfl, rfl⟩
            · obtain rfl : j = 4 := by omega
              simp (disch := first|omega|(simp only [np,ns];try omega)) [e0, e4, e6, e7, e9, e5, e10, e11]
              exact tail _ _ a n c (by rw [hdM]; simpa [lowB_length, List.take_of_length_le] using hP) e0 e4 e6 e7 e9 e5
          · have h0b : (f.ty == 0) = false := by rw [h2t]; rfl
            have h1b : (f.ty == 1) = false := by rw [h2t]; rfl
            have h5b : (f.ty == 5) = false := by rw [h2t]; rfl
            have h2p : (f.ty == 2) = true := by rw [h2t]; rfl
            have hLw : IntKind.u64.wrap (FL : Int) = (FL : Int) := u64_small (by omega) (by omega)
            simp (disch := first|omega|(simp only [np,ns];try omega)) [hg2o, ld4_3, h0b, h1b, h5b, h2p, e7, hLw]
            refine (rput_ok (n := FL) P1.is (by omega) (by omega)).mono ?_
            rintro u g3 ⟨⟨qa, qn, qc, rfl⟩, P2⟩
            simp (disch := first|omega|(simp only [np,ns];try omega)) []
            exact done _ _ qa qn qc (by rw [hhd, if_neg (by omega), if_neg (by omega), if_neg (by omega), if_pos h2t, ← hFL]; exact P2) (by simp [upd_apply, e0]) (by simp [upd_apply, e4]) (by simp [upd_apply, e6]) (by simp [upd_apply, e7]) (by simp [upd_apply]) (by simp [upd_apply, e5])
        · have hlong := hyes rfl
          simp (disch := first|omega|(simp only [np,ns];try omega)) [e0, e4, e5, e6, e7, e8, eW]
          exact ⟨hlt, hF1, hallk, by rw [htk, List.length_append]; omega⟩
      have hnum : (FL = 0 → f.ty = 0 ∨ f.ty = 1 ∨ f.ty = 5 → True) := fun _ _ => trivial
      rcases hty8 with h0 | h1t | h5t | h2t
      · have h0p : (f.ty == 0) = true := by simpa using h0
        have hx : ((FL : Int) == 0) = true := by rw [hFL, b0 h0]; rfl
        simp (disch := first|omega|(simp only [np,ns];try omega)) [hg1o, ld4_3, h0p, hx]
        exact A _ _ rfl (by simp [upd_apply, e0]) (by simp [upd_apply, e4]) (by simp [upd_apply, e5]) (by simp [upd_apply, e6]) (by simp [upd_apply]) (by simp [upd_apply])
      · have h0b : (f.ty == 0) = false := by rw [h1t]; rfl
        have h1p : (f.ty == 1) = true := by rw [h1t]; rfl
        have hx : ((FL : Int) == 0) = true := by rw [hFL, b1 h1t]; rfl
        simp (disch := first|omega|(simp only [np,ns];try omega)) [hg1o, ld4_3, h0b, h1p, hx]
        exact A _ _ rfl (by simp [upd_apply, e0]) (by simp [upd_apply, e4]) (by simp [upd_apply, e5]) (by simp [upd_apply, e6]) (by simp [upd_apply]) (by simp [upd_apply])
      · have h0b : (f.ty == 0) = false := by rw [h5t]; rfl
        have h1b : (f.ty == 1) = false := by rw [h5t]; rfl
        have h2b : (f.ty == 2) = false := by rw [h5t]; rfl
        have h5p : (f.ty == 5) = true := by rw [h5t]; rfl
        have hx : ((FL : Int) == 0) = true := by rw [hFL, (b5 h5t).1]; rfl
        have hy : (f.n : Int) < 4294967296 := by have := (b5 h5t).2; omega
        simp (disch := first|omega|(simp only [np,ns];try omega)) [hg1o, ld4_2, ld4_3, h0b, h1b, h2b, h5p, hx, hy]
        exact A _ _ rfl (by simp [upd_apply, e0]) (by simp [upd_apply, e4]) (by simp [upd_apply, e5]) (by simp [upd_apply, e6]) (by simp [upd_apply]) (by simp [upd_apply])
      · have h0b : (f.ty == 0) = false := by rw [h2t]; rfl
        have h1b : (f.ty == 1) = false := by rw [h2t]; rfl
        have h2p : (f.ty == 2) = true := by rw [h2t]; rfl
        have hx : ((f.n : Int) == 0) = true := by rw [b2 h2t]; rfl
        simp (disch := first|omega|(simp only [np,ns];try omega)) [hg1o, ld4_2, h0b, h1b, h2p, hx]
        exact A _ _ rfl (by simp [upd_apply, e0]) (by simp [upd_apply, e4]) (by simp [upd_apply, e5]) (by simp [upd_apply, e6]) (by simp [upd_apply]) (by simp [upd_apply])
    · have hok : okF f = false := by simpa using hok
      rw [hbad hok]
      have fin : ∀ g', Fr h g' [] → (∃ a n c, Value.tuple #[Value.slice none 0 0, Value.int .i64 30] = .tuple #[.slice a n c, .int .i64 30] ∧ Buf h g' (.slice a n c) []) := fun g' hg' => ⟨_, _, _, rfl, hnilB _ hg'⟩
      have hokd : okF f = (decide (1 ≤ f.num) && decide (f.num < 536870912) && (if f.ty = 0 then decide (FL = 0) else if f.ty = 1 then decide (FL = 0) else if f.ty = 5 then decide (FL = 0) && decide (f.n < 4294967296) else if f.ty = 2 then decide (f.n = 0) else false)) := by
        unfold okF; rw [hFL]
      rw [hok] at hokd
      by_cases h1 : 1 ≤ f.num
      · by_cases h2 : f.num < 536870912
        · by_cases h0 : f.ty = 0
          · have h0p : (f.ty == 0) = true := by simpa using h0
            have hx : ((FL : Int) == 0) = false := by
              have : ¬ FL = 0 := fun e => by simp [h1, h2, h0, e] at hokd
              simp; omega
            simp (disch := first|omega|(simp only [np,ns];try omega)) [r_ref02_Write, e0, e4, e5, e6, hltI, hlt, hAll, hst, ← hg1, hg1o, ld4_0, ld4_1, ld4_2, ld4_3, h1, h2, h0p, hx]
            exact ⟨_, _, _, ⟨rfl, rfl, rfl⟩, hnilB _ hF1⟩
          have h0b : (f.ty == 0) = false := by simpa using h0
          by_cases h1t : f.ty = 1
          · have h1p : (f.ty == 1) = true := by simpa using h1t
            have hx : ((FL : Int) == 0) = false := by
              have : ¬ FL = 0 := fun e => by simp [h1, h2, h0, e, h1t] at hokd
              simp; omega
            simp (disch := first|omega|(simp only [np,ns];try omega)) [r_ref02_Write, e0, e4, e5, e6, hltI, hlt, hAll, hst, ← hg1, hg1o, ld4_0, ld4_1, ld4_2, ld4_3, h1, h2, h0b, h1p, hx]
            exact ⟨_, _, _, ⟨rfl, rfl, rfl⟩, hnilB _ hF1⟩
          have h1b : (f.ty == 1) = false := by simpa using h1t
          by_cases h2t : f.ty = 2
          · have h2p : (f.ty == 2) = true := by simpa using h2t
            have hx : ((f.n : Int) == 0) = false := by
              have : ¬ f.n = 0 := fun e => by simp [h1, h2, h0, h1t, h2t, e] at hokd
              simp; omega
            simp (disch := first|omega|(simp only [np,ns];try omega)) [r_ref02_Write, e0, e4, e5, e6, hltI, hlt, hAll, hst, ← hg1, hg1o, ld4_0, ld4_1, ld4_2, ld4_3, h1, h2, h0b, h1b, h2p, hx]
            exact ⟨_, _, _, ⟨rfl, rfl, rfl⟩, hnilB _ hF1⟩
          have h2b : (f.ty == 2) = false := by simpa using h2t
          by_cases h5t : f.ty = 5
          · have h5p : (f.ty == 5) = true := by simpa using h5t
            by_cases hx : FL = 0
            · have hy : ¬ f.n < 4294967296 := fun e => by simp [h1, h2, h0, h1t, h2t, h5t, hx, e] at hokd
              have hyI : ¬ (f.n : Int) < 4294967296 := by omega
              have hxb : ((FL : Int) == 0) = true := by simp; omega
              simp (disch := first|omega|(simp only [np,ns];try omega)) [r_ref02_Write, e0, e4, e5, e6, hltI, hlt, hAll, hst, ← hg1, hg1o, ld4_0, ld4_1, ld4_2, ld4_3, h1, h2, h0b, h1b, h2b, h5p, hxb, hyI]
              exact ⟨_, _, _, ⟨rfl, rfl, rfl⟩, hnilB _ hF1⟩
            · have hxb : ((FL : Int) == 0) = false := by simp; omega
              simp (disch := first|omega|(simp only [np,ns];try omega)) [r_ref02_Write, e0, e4, e5, e6, hltI, hlt, hAll, hst, ← hg1, hg1o, ld4_0, ld4_1, ld4_2, ld4_3, h1, h2, h0b, h1b, h2b, h5p, hxb]
              exact ⟨_, _, _, ⟨rfl, rfl, rfl⟩, hnilB _ hF1⟩
          have h5b : (f.ty == 5) = false := by simpa using h5t
          simp (disch := first|omega|(simp only [np,ns];try omega)) [r_ref02_Write, e0, e4, e5, e6, hltI, hlt, hAll, hst, ← hg1, hg1o, ld4_0, ld4_1, ld4_2, ld4_3, h1, h2, h0b, h1b, h2b, h5b]
          exact ⟨_, _, _, ⟨rfl, rfl, rfl⟩, hnilB _ hF1⟩
        · by_cases h0 : f.ty = 0
          · have h0p : (f.ty == 0) = true := by simpa using h0
            simp (disch := first|omega|(simp only [np,ns];try omega)) [r_ref02_Write, e0, e4, e5, e6, hltI, hlt, hAll, hst, ← hg1, hg1o, ld4_0, ld4_1, ld4_2, ld4_3, h1, h2, h0p]
            exact ⟨_, _, _, ⟨rfl, rfl, rfl⟩, hnilB _ hF1⟩
          have h0b : (f.ty == 0) = false := by simpa using h0
          by_cases h1t : f.ty = 1
          · have h1p : (f.ty == 1) = true := by simpa using h1t
            simp (disch := first|omega|(simp only [np,ns];try omega)) [r_ref02_Write, e0, e4, e5, e6, hltI, hlt, hAll, hst, ← hg1, hg1o, ld4_0, ld4_1, ld4_2, ld4_3, h1, h2, h0b, h1p]
            exact ⟨_, _, _, ⟨rfl, rfl, rfl⟩, hnilB _ hF1⟩
          have h1b : (f.ty == 1) = false := by simpa using h1t
          by_cases h2t : f.ty = 2
          · have h2p : (f.ty == 2) = true := by simpa using h2t
            simp (disch := first|omega|(simp only [np,ns];try omega)) [r_ref02_Write, e0, e4, e5, e6, hltI, hlt, hAll, hst, ← hg1, hg1o, ld4_0, ld4_1, ld4_2, ld4_3, h1, h2, h0b, h1b, h2p]
            exact ⟨_, _, _, ⟨rfl, rfl, rfl⟩, hnilB _ hF1⟩
          have h2b : (f.ty == 2) = false := by simpa using h2t
          by_cases h5t : f.ty = 5
          · have h5p : (f.ty == 5) = true := by simpa using h5t
            simp (disch := first|omega|(simp only [np,ns];try omega)) [r_ref02_Write, e0, e4, e5, e6, hltI, hlt, hAll, hst, ← hg1, hg1o, ld4_0, ld4_1, ld4_2, ld4_3, h1, h2, h0b, h1b, h2b, h5p]
            exact ⟨_, _, _, ⟨rfl, rfl, rfl⟩, hnilB _ hF1⟩
          have h5b : (f.ty == 5) = false := by simpa using h5t
          simp (disch := first|omega|(simp only [np,ns];try omega)) [r_ref02_Write, e0, e4, e5, e6, hltI, hlt, hAll, hst, ← hg1, hg1o, ld4_0, ld4_1, ld4_2, ld4_3, h1, h2, h0b, h1b, h2b, h5b]
          exact ⟨_, _, _, ⟨rfl, rfl, rfl⟩, hnilB _ hF1⟩
      · by_cases h0 : f.ty = 0
        · have h0p : (f.ty == 0) = true := by simpa using h0
          simp (disch := first|omega|(simp only [np,ns];try omega)) [r_ref02_Write, e0, e4, e5, e6, hltI, hlt, hAll, hst, ← hg1, hg1o, ld4_0, ld4_1, ld4_2, ld4_3, h1, h0p]
          exact ⟨_, _, _, ⟨rfl, rfl, rfl⟩, hnilB _ hF1⟩
        have h0b : (f.ty == 0) = false := by simpa using h0
        by_cases h1t : f.ty = 1
        · have h1p : (f.ty == 1) = true := by simpa using h1t
          simp (disch := first|omega|(simp only [np,ns];try omega)) [r_ref02_Write, e0, e4, e5, e6, hltI, hlt, hAll, hst, ← hg1, hg1o, ld4_0, ld4_1, ld4_2, ld4_3, h1, h0b, h1p]
          exact ⟨_, _, _, ⟨rfl, rfl, rfl⟩, hnilB _ hF1⟩
        have h1b : (f.ty == 1) = false := by simpa using h1t
        by_cases h2t : f.ty = 2
        · have h2p : (f.ty == 2) = true := by simpa using h2t
          simp (disch := first|omega|(simp only [np,ns];try omega)) [r_ref02_Write, e0, e4, e5, e6, hltI, hlt, hAll, hst, ← hg1, hg1o, ld4_0, ld4_1, ld4_2, ld4_3, h1, h0b, h1b, h2p]
          exact ⟨_, _, _, ⟨rfl, rfl, rfl⟩, hnilB _ hF1⟩
        have h2b : (f.ty == 2) = false := by simpa using h2t
        by_cases h5t : f.ty = 5
        · have h5p : (f.ty == 5) = true := by simpa using h5t
          simp (disch := first|omega|(simp only [np,ns];try omega)) [r_ref02_Write, e0, e4, e5, e6, hltI, hlt, hAll, hst, ← hg1, hg1o, ld4_0, ld4_1, ld4_2, ld4_3, h1, h0b, h1b, h2b, h5p]
          exact ⟨_, _, _, ⟨rfl, rfl, rfl⟩, hnilB _ hF1⟩
        have h5b : (f.ty == 5) = false := by simpa using h5t
        simp (disch := first|omega|(simp only [np,ns];try omega)) [r_ref02_Write, e0, e4, e5, e6, hltI, hlt, hAll, hst, ← hg1, hg1o, ld4_0, ld4_1, ld4_2, ld4_3, h1, h0b, h1b, h2b, h5b]
        exact ⟨_, _, _, ⟨rfl, rfl, rfl⟩, hnilB _ hF1⟩
  · obtain rfl : k = L := by omega
    have hall : fs.all okF = true := by rw [hL, List.take_length] at hall; exact List.all_eq_true.2 hall
    have e : fs.take k = fs := by rw [hL]; exact List.take_length
    have hwS : writeS fs = if 1048576 < (encL fs).length then ([], 4) else (encL fs, 0) := by
      unfold writeS
      rw [if_neg (by omega), if_neg (by simp [hall])]
    rw [e] at hno hyes
    cases long
    · obtain ⟨hB, hbn, hble⟩ := hno rfl
      have hw : writeS fs = (encL fs, 0) := by rw [hwS, if_neg (by omega)]
      rw [hw]
      simp (disch := first|omega|(simp only [np,ns];try omega)) [r_ref02_Write, e0, e4, e5, e6]
      exact ⟨_, _, _, ⟨rfl, rfl, rfl⟩, hB⟩
    · have hw : writeS fs = ([], 4) := by rw [hwS, if_pos (hyes rfl)]
      rw [hw]
      simp (disch := first|omega|(simp only [np,ns];try omega)) [r_ref02_Write, e0, e4, e5, e6]
      exact ⟨_, _, _, ⟨rfl, rfl, rfl⟩, hnilB _ hfr⟩

/- wire, part S: bytes are spoilt; lists alike; the law of what is written. -/

theorem xor90 (b : UInt8) : Go.bits .xor .u8 (b.toNat : Int) 90 = ((b ^^^ 90).toNat : Int) := by
  have := bits_xor_u8 b.toBitVec 90#8
  simpa [BitVec.toNat_or, BitVec.toNat_add, BitVec.toNat_and, BitVec.toNat_xor] using this
theorem drop_set_u8 {ds : List Value} {o k : Nat} {bs : List UInt8} (h : ds.drop o = u8s bs) (x : UInt8) : (ds.set (o + k) (.int .u8 (x.toNat : Int))).drop o = u8s (bs.set k x) := by
  rw [List.drop_set, if_neg (by omega), show o + k - o = k by omega, h]
  simp [u8s, List.map_set]
set_option maxHeartbeats 2000000 in
theorem spoil_ok {h : VH} {v : Value} {bs : List UInt8} (hs : OwnSl h 1 v (u8s bs) bs.length) (hlen : bs.length ≤ 100000000) : PCalls Try.prog f_ref02_Spoil [v] h (fun u h' => Fr h h' (idOf v)) := by
  refine PCalls_of_pw st_ref02_Spoil (by simp [n_ref02_Spoil]) ?_
  rw [b_ref02_Spoil]
  obtain ⟨L, hL⟩ : ∃ L, L = bs.length := ⟨_, rfl⟩
  obtain ⟨va, vc, rfl⟩ := hs.shapeN
  rw [← hL] at hs ⊢
  simp (disch := first|omega|(simp only [np,ns];try omega)) [B_ref02_Spoil]
  refine pw_loopN (fun k s g => ∃ bs' : List UInt8, bs'.length = L ∧ OwnSl g 1 (.slice va L vc) (u8s bs') L ∧ Fr h g (idOf (.slice va L vc)) ∧ s 0 = .slice va L vc ∧ s 2 = .int .i64 (k : Int)) L ?_ ?_
  · exact ⟨bs, hL.symm, hs, Fr.refl _ _, by simp [upd_apply, s0_apply], by simp [upd_apply, s0_apply]⟩
  rintro k s g hk ⟨bs', hbl, ho, hf, e0, e2⟩
  by_cases hlt : k < L
  · have hltI : (k : Int) < (L : Int) := by omega
    rcases ho with ⟨h1, _, h3⟩ | ⟨i, o, c, ds, hi, hc, hv, hg, hd, hdl, hole⟩
    · omega
    · injection hv with hv1 _ hv3
      subst hv1
      subst hv3
      have hdsl : ds.length = o + L := by
        have := congrArg List.length hd
        simp at this
        omega
      have hkb : k < bs'.length := by omega
      have hld : loadObj (.cells ds true 1) (o + k) none = some (.int .u8 (bs'[k].toNat : Int)) := by
        rw [loadObj_one]
        have h5 : (ds.drop o)[k]? = some (.int .u8 (bs'[k].toNat : Int)) := by
          rw [hd]
          simp [u8s, List.getElem?_eq_getElem hkb]
        rwa [List.getElem?_drop] at h5
      obtain ⟨X, hX⟩ : ∃ X, X = bs'[k] := ⟨_, rfl⟩
      rw [← hX] at hld
      obtain ⟨Y, hY⟩ : ∃ Y, Y = X ^^^ 90 := ⟨_, rfl⟩
      have hxor := xor90 X
      rw [← hY] at hxor
      have hst := storeObj_int (cs := ds) (e := 1) (o := o + k) (k := .u8) (n := (Y.toNat : Int)) (by omega)
      have eW : IntKind.i64.wrap ((k : Int) + 1) = ((k + 1 : Nat) : Int) := by rw [i64_small (by omega) (by omega)]; omega
      simp (disch := first|omega|(simp only [np,ns];try omega)) [e0, e2, hltI, hlt, hg, hld, hxor, hst, eW]
      refine ⟨bs'.set k Y, by simpa using hbl, ?_, hf.trans (Fr.set _ _ (by simp [idOf]))⟩
      refine .inr ⟨i, o, vc, ds.set (o + k) (.int .u8 (Y.toNat : Int)), hi, hc, rfl, VH.get_set_same _ _ _, drop_set_u8 hd Y, by simp; omega, by simp; omega⟩
  · obtain rfl : k = L := by omega
    obtain ⟨g1, hg1⟩ : ∃ g1, g1 = g.push (.cells [.int .u8 99] true 1) := ⟨_, rfl⟩
    have hf1 : Fr g g1 [] := by rw [hg1]; exact Fr_push (Fr.refl _ _)
    have hg1o : g1.get g.n = .cells [.int .u8 99] true 1 := by rw [hg1, VH.get_push_new]
    obtain ⟨w', g', hap, ho', hf', hid⟩ := (ho.fr hf1 (fun _ _ => by simp)).append (bytes := 1) (ys := u8s [99]) (k := 1) (by simp [u8s]) (by omega)
    have hap : appendV g1 1 1 (.slice va k vc) [.int .u8 99] 1 = some (w', g') := hap
    have hfill : fillC [.int .u8 0] [(0, 1, .int .u8 99)] = some [.int .u8 99] := rfl
    have hone : [Value.int .u8 99].all Value.oneCell' = true := rfl
    have hrow : rowObj (.cells [.int .u8 99] true 1) 0 1 = some [.int .u8 99] := rfl
    rcases ho' with ⟨h1, _, h3⟩ | ⟨i, o, c, ds, hi, hc, hv, hg, hd, hdl, hole⟩
    · omega
    · have hdsl : ds.length = o + (k + 1) := by
        have := congrArg List.length hd
        simp [u8s] at this
        simp [u8s] at hdl
        omega
      have hst := storeObj_int (cs := ds) (e := 1) (o := o + k) (k := .u8) (n := 98) (by omega)
      have eW : IntKind.i64.wrap ((k : Int) + 1 - 1) = (k : Int) := by rw [i64_small (by omega) (by omega)]; omega
      have hk1 : (k : Int) < (k : Int) + 1 := by omega
      subst hv
      have hlt : k < k + 1 := by omega
      simp (disch := first|omega|(simp only [np,ns];try omega)) [r_ref02_Spoil, e0, e2, hfill, hone, ← hg1, hg1o, hrow, hap, eW, hk1, hlt, hg, hst]
      have hix : i ∈ idOf (.slice va k vc) ∨ h.n ≤ i := by
        rcases hid i (by simp [idOf]) with h5 | h5
        · exact .inl h5
        · have := hf.n; have := hf1.n; exact .inr (by omega)
      have F1 : Fr h g' (idOf (.slice va k vc)) := (hf.trans (hf1.sub (fun x hx => by simp at hx))).trans hf'
      exact F1.trans' (Fr.set _ _ (X := [i]) (by simp)) (fun y hy => by simp at hy; subst hy; exact hix)
end Go.Proofs.Ytdnkpgbggpbgaaa.Wr
