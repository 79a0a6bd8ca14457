/- audit, part N: the plain laws: what a log's bytes are, given what a walk tells. -/
import Derived.Test.YtdnkpgbggpbgaaaAuM
set_option linter.unusedVariables false
set_option linter.unusedSimpArgs false
namespace Go.Proofs.Ytdnkpgbggpbgaaa.Au
open Go Go.RowKit Go.Proofs.Ytdnkpgbggpbgaaa.Pm Go.Proofs.Ytdnkpgbggpbgaaa.Wr Go.Proofs.Ytdnkpgbggpbgaaa.Sha

/-- what is read as a number is at least as long as the number is written, and if as long it is so written. -/
theorem getS_inv : ∀ (j k acc : Nat) (bs : List UInt8), j + k = 9 → acc < 2 ^ (7 * k) → (getS k acc bs).2.2 = 0 →
    ∃ n m, getS k acc bs = (acc + n * 2 ^ (7 * k), k + m, 0) ∧ m ≤ bs.length ∧ (varint n).length ≤ m ∧ (m = (varint n).length → bs.take m = varint n) := by
  intro j
  induction j with
  | zero =>
    intro k acc bs hk hacc h
    obtain rfl : k = 9 := by omega
    cases bs with
    | nil => simp [getS] at h
    | cons c r =>
      rw [getS_cons] at h ⊢
      by_cases h1 : 1 < c.toNat
      · rw [if_pos ⟨rfl, h1⟩] at h; simp at h
      · rw [if_neg (by omega)] at h ⊢
        have hc : c.toNat < 128 := by omega
        rw [if_pos hc] at h ⊢
        refine ⟨c.toNat, 1, ?_, by simp, ?_, fun _ => ?_⟩
        · rw [Nat.mod_eq_of_lt (by omega), or_shl _ _ _ hacc]
        · rw [varint_lt hc]; simp
        · rw [varint_lt hc]; simp
  | succ j ih =>
    intro k acc bs hk hacc h
    cases bs with
    | nil => simp [getS] at h
    | cons c r =>
      have hk9 : ¬ (k = 9 ∧ 1 < c.toNat) := by omega
      have hk9' : ¬ 9 ≤ k := by omega
      have hpos : 0 < 2 ^ (7 * k) := Nat.pow_pos (by decide)
      have hp : 2 ^ (7 * (k + 1)) = 128 * 2 ^ (7 * k) := by rw [Nat.mul_add, Nat.pow_add, Nat.mul_comm]
      have hple : 2 ^ (7 * k) ≤ 2 ^ 56 := Nat.pow_le_pow_right (by decide) (by omega)
      have hc256 := c.toNat_lt
      rw [getS_cons, if_neg hk9] at h ⊢
      by_cases hc : c.toNat < 128
      · rw [if_pos hc] at h ⊢
        refine ⟨c.toNat, 1, ?_, by simp, ?_, fun _ => ?_⟩
        · have h1 : c.toNat * 2 ^ (7 * k) ≤ 127 * 2 ^ 56 := Nat.mul_le_mul (by omega) hple
          rw [Nat.mod_eq_of_lt (by omega), or_shl _ _ _ hacc]
        · rw [varint_lt hc]; simp
        · rw [varint_lt hc]; simp
      · rw [if_neg hc, if_neg hk9'] at h ⊢
        have hand : c.toNat &&& 127 = c.toNat - 128 := by
          rw [show (127 : Nat) = 2 ^ 7 - 1 by decide, Nat.and_two_pow_sub_one_eq_mod]
          omega
        obtain ⟨lo, hlo⟩ : ∃ lo, lo = c.toNat - 128 := ⟨_, rfl⟩
        have hlo1 : lo < 128 := by omega
        have h1 : lo * 2 ^ (7 * k) ≤ 127 * 2 ^ (7 * k) := Nat.mul_le_mul_right _ (by omega)
        rw [hand, ← hlo, Nat.mod_eq_of_lt (by omega), or_shl _ _ _ hacc] at h ⊢
        obtain ⟨n, m, e1, e2, e3, e4⟩ := ih (k + 1) (acc + lo * 2 ^ (7 * k)) r (by omega) (by omega) h
        have hv : ∀ (hn : 0 < n), varint (lo + 128 * n) = c :: varint n := by
          intro hn
          rw [varint_ge (by omega)]
          congr 1
          · rw [show (lo + 128 * n) % 128 + 128 = c.toNat by omega]; simp
          · congr 1; omega
        have hv0 : n = 0 → varint (lo + 128 * n) = [UInt8.ofNat lo] := by
          intro hn
          subst hn
          exact varint_lt (by omega)
        have hvn : 1 ≤ (varint n).length := by
          have := varint_ne n
          cases hq : varint n with
          | nil => exact absurd hq this
          | cons _ _ => simp
        refine ⟨lo + 128 * n, 1 + m, ?_, by simp; omega, ?_, fun hm => ?_⟩
        · rw [e1]
          simp only [Prod.mk.injEq, and_true]
          refine ⟨?_, by omega⟩
          rw [hp, Nat.add_mul, Nat.mul_comm 128 (2 ^ (7 * k)), ← Nat.mul_assoc, Nat.mul_comm 128 n, Nat.mul_assoc n 128, Nat.mul_comm 128 (2 ^ (7 * k)), ← Nat.mul_assoc]
          omega
        · by_cases hn : 0 < n
          · rw [hv hn, List.length_cons]; omega
          · rw [hv0 (by omega)]; simp
        · by_cases hn : 0 < n
          · rw [hv hn, List.length_cons] at hm
            rw [hv hn, Nat.add_comm 1 m, List.take_succ_cons, e4 (by omega)]
          · rw [hv0 (by omega)] at hm
            simp at hm
            omega
theorem cutS_back {bs : List UInt8} (h : (cutS bs).2.2 = 0) : bs = frameS (cutS bs).1 ++ bs.drop (cutS bs).2.1 := by
  obtain ⟨n, k, e, hg⟩ : ∃ n k e, getS 0 0 bs = (n, k, e) := ⟨_, _, _, rfl⟩
  unfold cutS at h ⊢
  rw [hg] at h ⊢
  simp only at h ⊢
  by_cases h1 : e = 8
  · rw [if_pos h1] at h; simp at h
  rw [if_neg h1] at h ⊢
  by_cases h2 : e ≠ 0 ∨ (varint n).length ≠ k ∨ 131072 < n
  · rw [if_pos h2] at h; simp at h
  rw [if_neg h2] at h ⊢
  by_cases h3 : bs.length - k < n
  · rw [if_pos h3] at h; simp at h
  rw [if_neg h3]
  have he : e = 0 := by
    by_cases he : e = 0
    · exact he
    · exact absurd (.inl he) h2
  have hk : (varint n).length = k := by
    by_cases hk : (varint n).length = k
    · exact hk
    · exact absurd (.inr (.inl hk)) h2
  obtain ⟨n', m, e1, e2, e3, e4⟩ := getS_inv 9 0 0 bs (by omega) (by decide) (by rw [hg]; exact he)
  rw [hg] at e1
  simp only [Nat.mul_zero, Nat.pow_zero, Nat.mul_one, Nat.zero_add, Prod.mk.injEq] at e1
  obtain ⟨r1, r2, _⟩ := e1
  subst r1
  subst r2
  have h5 := e4 hk.symm
  have h6 : ((bs.drop k).take n).length = n := by simp; omega
  simp only
  unfold frameS
  rw [h6, ← h5, List.append_assoc, ← List.drop_drop, List.take_append_drop, List.take_append_drop]
def linkS (l : List UInt8) (ts : List It) : List UInt8 := ts.foldl (fun l t => shaS (l ++ t.b)) l
def Linked : List UInt8 → List It → Prop
  | _, [] => True
  | l, t :: ts => t.l = l ∧ Linked (shaS (l ++ t.b)) ts
theorem walk_told : ∀ (f : Nat) (bs : List UInt8) (n : Nat) (l : List UInt8) (subs : Sbs), (walkR f bs n l subs).n = n + (itemsR f bs l subs).length ∧ (walkR f bs n l subs).l = linkS l (itemsR f bs l subs) ∧ Linked l (itemsR f bs l subs)
  | 0, bs, n, l, subs => ⟨rfl, rfl, trivial⟩
  | f + 1, bs, n, l, subs => by
    rw [walkR_succ, itemsR_succ]
    by_cases h1 : bs.length = 0
    · rw [if_pos h1, if_pos h1]; exact ⟨rfl, rfl, trivial⟩
    rw [if_neg h1, if_neg h1]
    by_cases h2 : (cutS bs).2.2 ≠ 0
    · rw [if_pos h2, if_pos h2]; exact ⟨rfl, rfl, trivial⟩
    rw [if_neg h2, if_neg h2]
    by_cases h3 : okS (cutS bs).1 = false
    · rw [if_pos h3, if_pos h3]; exact ⟨rfl, rfl, trivial⟩
    rw [if_neg h3, if_neg h3]
    by_cases h4 : ahOf (readS (cutS bs).1).1 ≠ aheadS subs (enOf (readS (cutS bs).1).1).t
    · rw [if_pos h4, if_pos h4]; exact ⟨rfl, rfl, trivial⟩
    rw [if_neg h4, if_neg h4]
    obtain ⟨i1, i2, i3⟩ := walk_told f (bs.drop (cutS bs).2.1) (n + 1) (shaS (l ++ (cutS bs).1)) (sput (enOf (readS (cutS bs).1).1).t (shaS (cutS bs).1) subs)
    exact ⟨by simp only [List.length_cons]; rw [i1]; omega, i2, rfl, i3⟩
theorem walk_log : ∀ (f : Nat) (bs : List UInt8) (n : Nat) (l : List UInt8) (subs : Sbs), bs.length < f → (walkR f bs n l subs).err = 0 → bs = (itemsR f bs l subs).flatMap fun t => frameS t.b
  | 0, bs, n, l, subs, h, _ => by omega
  | f + 1, bs, n, l, subs, h, he => by
    rw [walkR_succ] at he
    rw [itemsR_succ]
    by_cases h1 : bs.length = 0
    · rw [if_pos h1]; exact List.eq_nil_of_length_eq_zero h1
    rw [if_neg h1] at he ⊢
    by_cases h2 : (cutS bs).2.2 ≠ 0
    · rw [if_pos h2] at he; exact absurd he h2
    rw [if_neg h2] at he ⊢
    by_cases h3 : okS (cutS bs).1 = false
    · rw [if_pos h3] at he; simp at he
    rw [if_neg h3] at he ⊢
    by_cases h4 : ahOf (readS (cutS bs).1).1 ≠ aheadS subs (enOf (readS (cutS bs).1).1).t
    · rw [if_pos h4] at he; simp at he
    rw [if_neg h4] at he ⊢
    have h2' : (cutS bs).2.2 = 0 := by simpa using h2
    obtain ⟨c1, c2, _⟩ := cutS_spec h2'
    have ih := walk_log f (bs.drop (cutS bs).2.1) (n + 1) (shaS (l ++ (cutS bs).1)) (sput (enOf (readS (cutS bs).1).1).t (shaS (cutS bs).1) subs) (by simp; omega) he
    rw [List.flatMap_cons, ← ih]
    exact cutS_back h2'
def it0 : It := ⟨⟨[], 0, [], []⟩, [], []⟩
/-- the last place at which two walks differ. -/
def collD (xs ys : List It) : Nat → List UInt8 × List UInt8 × Bool
  | 0 => ([], [], false)
  | i + 1 => if (xs.getD i it0).l ++ (xs.getD i it0).b ≠ (ys.getD i it0).l ++ (ys.getD i it0).b then ((xs.getD i it0).l ++ (xs.getD i it0).b, (ys.getD i it0).l ++ (ys.getD i it0).b, true) else collD xs ys i
theorem linkS_snoc (l : List UInt8) (ts : List It) (t : It) : linkS l (ts ++ [t]) = shaS (linkS l ts ++ t.b) := by simp [linkS, List.foldl_append]
theorem linked_at : ∀ {ts : List It} {l : List UInt8}, Linked l ts → ∀ {i : Nat} (hi : i < ts.length), ts[i].l = linkS l (ts.take i)
  | [], _, _, i, hi => by simp at hi
  | t :: ts, l, h, 0, hi => h.1
  | t :: ts, l, h, i + 1, hi => by
    rw [List.getElem_cons_succ, List.take_succ_cons]
    exact linked_at h.2 (by simpa using hi)
theorem linkS_len {l : List UInt8} (hl : l.length = 32) : ∀ (ts : List It), (linkS l ts).length = 32 := by
  intro ts
  induction ts generalizing l with
  | nil => exact hl
  | cons t ts ih => exact ih (shaS_len _)
theorem coll_law {l : List UInt8} (hl : l.length = 32) {xs ys : List It} (hx : Linked l xs) (hy : Linked l ys) (hlen : xs.length = ys.length) : ∀ (i : Nat), i ≤ xs.length → linkS l (xs.take i) = linkS l (ys.take i) →
    ((collD xs ys i).2.2 = true ∧ (collD xs ys i).1 ≠ (collD xs ys i).2.1 ∧ shaS (collD xs ys i).1 = shaS (collD xs ys i).2.1) ∨ ((collD xs ys i) = ([], [], false) ∧ (xs.take i).map (·.b) = (ys.take i).map (·.b))
  | 0, _, _ => .inr ⟨rfl, by simp⟩
  | i + 1, hi, hk => by
    have hi1 : i < xs.length := by omega
    have hi2 : i < ys.length := by omega
    have gx : xs.getD i it0 = xs[i] := by simp [List.getD, hi1]
    have gy : ys.getD i it0 = ys[i] := by simp [List.getD, hi2]
    have lx := linked_at hx hi1
    have ly := linked_at hy hi2
    rw [List.take_succ_eq_append_getElem hi1, List.take_succ_eq_append_getElem hi2, linkS_snoc, linkS_snoc, ← lx, ← ly] at hk
    unfold collD
    rw [gx, gy]
    by_cases hd : xs[i].l ++ xs[i].b ≠ ys[i].l ++ ys[i].b
    · rw [if_pos hd]
      exact .inl ⟨rfl, hd, hk⟩
    · rw [if_neg hd]
      have hd : xs[i].l ++ xs[i].b = ys[i].l ++ ys[i].b := by simpa using hd
      have hll : xs[i].l.length = ys[i].l.length := by rw [lx, ly, linkS_len hl, linkS_len hl]
      obtain ⟨q1, q2⟩ := List.append_inj hd hll
      rcases coll_law hl hx hy hlen i (by omega) (by rw [← lx, ← ly]; exact q1) with h | ⟨h1, h2⟩
      · exact .inl h
      · refine .inr ⟨h1, ?_⟩
        rw [List.take_succ_eq_append_getElem hi1, List.take_succ_eq_append_getElem hi2, List.map_append, List.map_append, h2]
        simp [q2]
theorem be8_inj {n m : Nat} (hn : n < 18446744073709551616) (hm : m < 18446744073709551616) {l l' : List UInt8} (h : be8 n ++ l = be8 m ++ l') : n = m ∧ l = l' := by
  obtain ⟨h1, h2⟩ := List.append_inj h (by rw [be8_len, be8_len])
  refine ⟨?_, h2⟩
  unfold be8 at h1
  have h3 : lowB 8 n = lowB 8 m := by simpa using congrArg List.reverse h1
  have h4 := numB_low 8 n (by omega)
  have h5 := numB_low 8 m (by omega)
  rw [← h4, ← h5, h3]
def textW (bs : List UInt8) : List UInt8 := be8 (walkS bs).n ++ (walkS bs).l
/-- a log is accepted under a head. -/
def accS (bs hd : List UInt8) : Bool := decide ((walkS bs).err = 0) && decide (shaS (textW bs) = hd)
def collS (a b hd : List UInt8) : List UInt8 × List UInt8 × Bool :=
  if accS a hd = false ∨ accS b hd = false then ([], [], false) else
  if textW a ≠ textW b then (textW a, textW b, true) else collD (itemsS a) (itemsS b) (itemsS a).length
theorem items_log {bs : List UInt8} (h : (walkS bs).err = 0) : bs = (itemsS bs).flatMap fun t => frameS t.b := walk_log _ _ _ _ _ (by omega) h
theorem items_told (bs : List UInt8) : (walkS bs).n = (itemsS bs).length ∧ (walkS bs).l = linkS zero32 (itemsS bs) ∧ Linked zero32 (itemsS bs) := by
  have h := walk_told (bs.length + 1) bs 0 zero32 []
  rw [Nat.zero_add] at h
  exact h
theorem coll_two {a b hd : List UInt8} (ha : accS a hd = true) (hb : accS b hd = true) (na : (walkS a).n < 18446744073709551616) (nb : (walkS b).n < 18446744073709551616) :
    ((collS a b hd).2.2 = true ∧ (collS a b hd).1 ≠ (collS a b hd).2.1 ∧ shaS (collS a b hd).1 = shaS (collS a b hd).2.1) ∨ (collS a b hd = ([], [], false) ∧ a = b) := by
  unfold collS
  rw [if_neg (by rw [ha, hb]; simp)]
  simp only [accS, Bool.and_eq_true, decide_eq_true_eq] at ha hb
  by_cases ht : textW a ≠ textW b
  · rw [if_pos ht]
    exact .inl ⟨rfl, ht, by rw [ha.2, hb.2]⟩
  rw [if_neg ht]
  have ht : textW a = textW b := by simpa using ht
  obtain ⟨e1, e2⟩ := be8_inj na nb ht
  obtain ⟨a1, a2, a3⟩ := items_told a
  obtain ⟨b1, b2, b3⟩ := items_told b
  have hlen : (itemsS a).length = (itemsS b).length := by omega
  have hk : linkS zero32 ((itemsS a).take (itemsS a).length) = linkS zero32 ((itemsS b).take (itemsS a).length) := by
    rw [List.take_of_length_le (Nat.le_refl _), List.take_of_length_le (by omega), ← a2, ← b2, e2]
  rcases coll_law zero32_len a3 b3 hlen (itemsS a).length (Nat.le_refl _) hk with h | ⟨h1, h2⟩
  · exact .inl h
  · refine .inr ⟨h1, ?_⟩
    rw [List.take_of_length_le (Nat.le_refl _), List.take_of_length_le (by omega)] at h2
    rw [items_log ha.1, items_log hb.1]
    have h3 : ∀ ts : List It, ts.flatMap (fun t => frameS t.b) = (ts.map (·.b)).flatMap frameS := fun ts => by rw [List.flatMap_map]
    rw [h3, h3, h2]
theorem items_frame {e : En} {l : List UInt8} {subs : Sbs} (h : wrongS e = 0) (hs : ∀ p ∈ subs, p.2.length = 32) (f : Nat) (r : List UInt8) :
    itemsR (f + 1) (frameS (bytesS e (aheadS subs e.t)) ++ r) l subs = ⟨e, bytesS e (aheadS subs e.t), l⟩ :: itemsR f r (shaS (l ++ bytesS e (aheadS subs e.t))) (sput e.t (shaS (bytesS e (aheadS subs e.t))) subs) := by
  have ha : (aheadS subs e.t).length = 32 := sget_len hs
  obtain ⟨h1, h2, h3⟩ := fds_enc h ha
  obtain ⟨b1, b2⟩ := en_back (a := aheadS subs e.t) h
  have hok := okS_back h ha
  have hbl : (bytesS e (aheadS subs e.t)).length ≤ 131072 := by rw [h2]; omega
  have hc := cutS_frame hbl r
  generalize hB : bytesS e (aheadS subs e.t) = B at *
  have hne : (frameS B ++ r).length ≠ 0 := by
    have := varint_ne B.length
    have hl : (varint B.length).length ≠ 0 := fun h0 => this (List.eq_nil_of_length_eq_zero h0)
    simp only [frameS, List.length_append]
    omega
  rw [itemsR_succ, if_neg hne, hc]
  simp only
  rw [if_neg (by simp), if_neg (by rw [hok]; simp), h3]
  simp only [b1, b2]
  rw [if_neg (by simp), List.drop_left]
/- audit, part P: what the reference made is accepted under its head, and its entries are those that went in. -/
structure Good (S : MS) : Prop where
  ls : ∀ p ∈ S.subs, p.2.length = 32
  ll : S.l.length = 32
  walk : ∀ f r, walkR (f + S.ins.length) (S.log ++ r) 0 zero32 [] = ⟨(walkR f r S.n S.l S.subs).n, (walkR f r S.n S.l S.subs).l, (walkR f r S.n S.l S.subs).subs, (walkR f r S.n S.l S.subs).err, S.log.length + (walkR f r S.n S.l S.subs).at_⟩
  items : ∃ ts : List It, ts.map (·.e) = S.ins ∧ ∀ f r, itemsR (f + S.ins.length) (S.log ++ r) zero32 [] = ts ++ itemsR f r S.l S.subs
  le : S.ins.length ≤ S.log.length
  n : S.n = S.ins.length
  oks : ∀ e ∈ S.ins, wrongS e = 0
theorem Good.zero : Good ms0 := ⟨by simp [ms0], rfl, fun f r => by simp [ms0], ⟨[], rfl, fun f r => by simp [ms0]⟩, by simp [ms0], rfl, by simp [ms0]⟩
theorem stepM_bad {S : MS} {e : En} (h : wrongS e ≠ 0) : stepM S e = S := by
  unfold stepM addS
  rw [if_neg h, if_pos h, if_neg h]
theorem stepM_ok {S : MS} {e : En} (h : wrongS e = 0) : stepM S e = ⟨S.log ++ frameS (bytesS e (aheadS S.subs e.t)), S.n + 1, shaS (S.l ++ bytesS e (aheadS S.subs e.t)), sput e.t (shaS (bytesS e (aheadS S.subs e.t))) S.subs, S.ins ++ [e]⟩ := by
  unfold stepM addS
  rw [if_pos h, if_neg (by simpa using h), if_pos h]
theorem frameS_pos (b : List UInt8) : 1 ≤ (frameS b).length := by
  have := List.length_pos_iff.2 (varint_ne b.length)
  unfold frameS
  rw [List.length_append]
  omega
theorem Good.step {S : MS} (G : Good S) (e : En) : Good (stepM S e) := by
  by_cases h : wrongS e = 0
  case neg => rw [stepM_bad h]; exact G
  rw [stepM_ok h]
  refine ⟨?_, shaS_len _, ?_, ?_, ?_, ?_, ?_⟩
  · exact sput_len (shaS_len _) G.ls
  · intro f r
    have h1 := G.walk (f + 1) (frameS (bytesS e (aheadS S.subs e.t)) ++ r)
    have h2 := walk_frame (n := S.n) (l := S.l) h G.ls f r
    simp only [List.append_assoc, List.length_append, List.length_singleton]
    rw [show f + (S.ins.length + 1) = f + 1 + S.ins.length by omega, h1, h2]
    simp only [Nat.add_assoc]
  · obtain ⟨ts, t1, t2⟩ := G.items
    refine ⟨ts ++ [⟨e, bytesS e (aheadS S.subs e.t), S.l⟩], by simp [t1], fun f r => ?_⟩
    have h1 := t2 (f + 1) (frameS (bytesS e (aheadS S.subs e.t)) ++ r)
    have h2 := items_frame (l := S.l) h G.ls f r
    simp only [List.append_assoc, List.length_append, List.length_singleton]
    rw [show f + (S.ins.length + 1) = f + 1 + S.ins.length by omega, h1, h2]
    simp
  · have := frameS_pos (bytesS e (aheadS S.subs e.t))
    have := G.le
    simp only [List.length_append, List.length_singleton]
    omega
  · simp only [List.length_append, List.length_singleton]; rw [G.n]
  · intro x hx
    rcases List.mem_append.1 hx with hx | hx
    · exact G.oks x hx
    · simp at hx; subst hx; exact h
theorem Good.fold : ∀ (es : List En) {S : MS}, Good S → Good (es.foldl stepM S)
  | [], _, G => G
  | e :: es, _, G => Good.fold es (G.step e)
theorem made_good (es : List En) : Good (madeS es) := Good.fold _ Good.zero
theorem Good.walkS {S : MS} (G : Good S) : walkS S.log = ⟨S.n, S.l, S.subs, 0, S.log.length⟩ := by
  have h1 := G.walk (S.log.length + 1 - S.ins.length) []
  have h2 := G.le
  rw [show S.log.length + 1 - S.ins.length + S.ins.length = S.log.length + 1 by omega, List.append_nil] at h1
  obtain ⟨q, hq⟩ : ∃ q, S.log.length + 1 - S.ins.length = q + 1 := ⟨S.log.length - S.ins.length, by omega⟩
  rw [hq] at h1
  have h3 : walkR (q + 1) [] S.n S.l S.subs = ⟨S.n, S.l, S.subs, 0, 0⟩ := by rw [walkR_succ]; rfl
  rw [h3] at h1
  exact h1
theorem Good.items_e {S : MS} (G : Good S) : (itemsS S.log).map (·.e) = S.ins := by
  obtain ⟨ts, t1, t2⟩ := G.items
  have h1 := t2 (S.log.length + 1 - S.ins.length) []
  have h2 := G.le
  rw [show S.log.length + 1 - S.ins.length + S.ins.length = S.log.length + 1 by omega, List.append_nil] at h1
  obtain ⟨q, hq⟩ : ∃ q, S.log.length + 1 - S.ins.length = q + 1 := ⟨S.log.length - S.ins.length, by omega⟩
  rw [hq] at h1
  have h3 : itemsR (q + 1) [] S.l S.subs = [] := by rw [itemsR_succ]; rfl
  rw [h3, List.append_nil] at h1
  unfold itemsS
  rw [h1, t1]
/-- the head of what was made. -/
def headS (S : MS) : List UInt8 := shaS (be8 S.n ++ S.l)
theorem headS_len (S : MS) : (headS S).length = 32 := shaS_len _
theorem Good.acc {S : MS} (G : Good S) : accS S.log (headS S) = true := by
  unfold accS textW headS
  rw [G.walkS]
  simp
theorem Good.acc_other {S : MS} (G : Good S) {hd : List UInt8} (h : hd ≠ headS S) : accS S.log hd = false := by
  unfold accS textW
  rw [G.walkS]
  unfold headS at h
  simp [Ne.symm h]
theorem collD_self (xs : List It) : ∀ i, collD xs xs i = ([], [], false)
  | 0 => rfl
  | i + 1 => by
    unfold collD
    rw [if_neg (by simp)]
    exact collD_self xs i
theorem coll_self (a hd : List UInt8) : collS a a hd = ([], [], false) := by
  unfold collS
  split
  · rfl
  · rw [if_neg (by simp)]
    exact collD_self _ _
/-- a list of entries makes what those of it that are right make. -/
theorem fold_ins : ∀ (es : List En) (S : MS), es.foldl stepM S = (es.filter fun e => decide (wrongS e = 0)).foldl stepM S ∧ (es.foldl stepM S).ins = S.ins ++ es.filter fun e => decide (wrongS e = 0)
  | [], S => ⟨rfl, by simp⟩
  | e :: es, S => by
    obtain ⟨i1, i2⟩ := fold_ins es (stepM S e)
    by_cases h : wrongS e = 0
    · rw [List.filter_cons, if_pos (by simpa using h)]
      refine ⟨i1, ?_⟩
      rw [List.foldl_cons, i2, stepM_ok h]
      simp
    · rw [List.filter_cons, if_neg (by simpa using h), List.foldl_cons, stepM_bad h]
      exact fold_ins es S
theorem made_ins {a b : List En} (h : (madeS a).ins = (madeS b).ins) : madeS a = madeS b := by
  obtain ⟨a1, a2⟩ := fold_ins (a.take 40) ms0
  obtain ⟨b1, b2⟩ := fold_ins (b.take 40) ms0
  have ha : madeS a = (a.take 40).foldl stepM ms0 := rfl
  have hb : madeS b = (b.take 40).foldl stepM ms0 := rfl
  rw [ha, hb] at h ⊢
  rw [a2, b2] at h
  rw [a1, b1]
  have h : (a.take 40).filter (fun e => decide (wrongS e = 0)) = (b.take 40).filter fun e => decide (wrongS e = 0) := by simpa [ms0] using h
  rw [h]

/-- an edit: if it is accepted, two texts with one digest are found, or it is the log. -/
theorem edit_law {S : MS} (G : Good S) {x : List UInt8} (nS : S.n < 18446744073709551616) (nx : (walkS x).n < 18446744073709551616) :
    (accS x (headS S) = true ∧ x ≠ S.log → (collS S.log x (headS S)).2.2 = true ∧ (collS S.log x (headS S)).1 ≠ (collS S.log x (headS S)).2.1 ∧ shaS (collS S.log x (headS S)).1 = shaS (collS S.log x (headS S)).2.1) ∧
    (¬ (accS x (headS S) = true ∧ x ≠ S.log) → collS S.log x (headS S) = ([], [], false)) := by
  refine ⟨fun ⟨h1, h2⟩ => ?_, fun h => ?_⟩
  · rcases coll_two G.acc h1 (by rw [G.walkS]; exact nS) nx with h | ⟨_, h⟩
    · exact h
    · exact absurd h.symm h2
  · by_cases h1 : accS x (headS S) = true
    · have h2 : x = S.log := by
        by_cases h2 : x = S.log
        · exact h2
        · exact absurd ⟨h1, h2⟩ h
      rw [h2]
      exact coll_self _ _
    · unfold collS
      rw [if_pos (.inr (by simpa using h1))]
/-- two lists of entries with one head. -/
theorem heads_law {S T : MS} (GS : Good S) (GT : Good T) (nS : S.n < 18446744073709551616) (nT : T.n < 18446744073709551616) (hh : headS S = headS T) (hne : S.ins ≠ T.ins) :
    (collS S.log T.log (headS S)).2.2 = true ∧ (collS S.log T.log (headS S)).1 ≠ (collS S.log T.log (headS S)).2.1 ∧ shaS (collS S.log T.log (headS S)).1 = shaS (collS S.log T.log (headS S)).2.1 := by
  have h1 : accS T.log (headS S) = true := by rw [hh]; exact GT.acc
  rcases coll_two GS.acc h1 (by rw [GS.walkS]; exact nS) (by rw [GT.walkS]; exact nT) with h | ⟨_, h⟩
  · exact h
  · exfalso
    apply hne
    rw [← GS.items_e, ← GT.items_e, h]
theorem heads_other {S T : MS} (GT : Good T) (hh : headS S ≠ headS T) : collS S.log T.log (headS S) = ([], [], false) := by
  unfold collS
  rw [if_pos (.inr (GT.acc_other hh))]
/-- how long the texts are. -/
theorem items_b : ∀ (f : Nat) (bs l : List UInt8) (subs : Sbs), ∀ t ∈ itemsR f bs l subs, t.b.length ≤ 131072
  | 0, _, _, _, t, h => by simp [itemsR] at h
  | f + 1, bs, l, subs, t, h => by
    rw [itemsR_succ] at h
    split at h
    · simp at h
    split at h
    · simp at h
    rename_i h2
    split at h
    · simp at h
    split at h
    · simp at h
    rcases List.mem_cons.1 h with rfl | h
    · exact (cutS_spec (by simpa using h2)).2.2.1
    · exact items_b f _ _ _ t h
theorem collD_len {xs ys : List It} (hx : ∀ t ∈ xs, t.l.length = 32 ∧ t.b.length ≤ 131072) (hy : ∀ t ∈ ys, t.l.length = 32 ∧ t.b.length ≤ 131072) : ∀ i, (collD xs ys i).1.length ≤ 200000 ∧ (collD xs ys i).2.1.length ≤ 200000
  | 0 => by simp [collD]
  | i + 1 => by
    have hg : ∀ (zs : List It), (∀ t ∈ zs, t.l.length = 32 ∧ t.b.length ≤ 131072) → ((zs.getD i it0).l ++ (zs.getD i it0).b).length ≤ 200000 := by
      intro zs hz
      by_cases hi : i < zs.length
      · have : zs.getD i it0 = zs[i] := by simp [List.getD, hi]
        rw [this, List.length_append]
        have := hz zs[i] (List.getElem_mem hi)
        omega
      · have : zs.getD i it0 = it0 := by simp [List.getD, hi]
        rw [this]
        simp [it0]
    unfold collD
    split
    · exact ⟨hg xs hx, hg ys hy⟩
    · exact collD_len hx hy i
theorem items_count : ∀ (f : Nat) (bs l : List UInt8) (subs : Sbs), (itemsR f bs l subs).length ≤ bs.length
  | 0, _, _, _ => by simp [itemsR]
  | f + 1, bs, l, subs => by
    rw [itemsR_succ]
    split
    · simp
    split
    · simp
    rename_i h2
    split
    · simp
    split
    · simp
    have h3 := cutS_spec (show (cutS bs).2.2 = 0 by simpa using h2)
    have h4 := items_count f (bs.drop (cutS bs).2.1) (shaS (l ++ (cutS bs).1)) (sput (enOf (readS (cutS bs).1).1).t (shaS (cutS bs).1) subs)
    rw [List.length_drop] at h4
    rw [List.length_cons]
    omega
theorem walk_n (bs : List UInt8) : (walkS bs).n ≤ bs.length := by
  rw [(items_told bs).1]
  exact items_count _ _ _ _
theorem collS_len (a b hd : List UInt8) : (collS a b hd).1.length ≤ 200000 ∧ (collS a b hd).2.1.length ≤ 200000 := by
  have hl : ∀ x : List UInt8, (textW x).length = 40 := fun x => by
    unfold textW
    rw [List.length_append, be8_len, (items_told x).2.1, linkS_len zero32_len]
  have hi : ∀ x : List UInt8, ∀ t ∈ itemsS x, t.l.length = 32 ∧ t.b.length ≤ 131072 := fun x t ht => by
    refine ⟨?_, items_b _ _ _ _ t ht⟩
    obtain ⟨k, hk, rfl⟩ := List.getElem_of_mem ht
    rw [linked_at (items_told x).2.2 hk]
    exact linkS_len zero32_len _
  unfold collS
  split
  · simp
  split
  · simp [hl]
  · exact collD_len (hi a) (hi b) _
/- audit, part T: tenants' own chains. -/
/-- entries held against a tenant: what is wrong, the last digest. -/
def vsubR (t : List UInt8) : List (List UInt8) → List UInt8 → Int × List UInt8
  | [], last => (0, last)
  | b :: r, last => if okS b = false ∨ (enOf (readS b).1).t ≠ t then (3, last) else if ahOf (readS b).1 ≠ last then (90, last) else vsubR t r (shaS b)
def vsubS (t : List UInt8) (bs : List (List UInt8)) (sub : List UInt8) : Int := if (vsubR t bs zero32).1 ≠ 0 then (vsubR t bs zero32).1 else if (vsubR t bs zero32).2 ≠ sub then 70 else 0
theorem vsubR_len {t : List UInt8} : ∀ {bs : List (List UInt8)} {last : List UInt8}, last.length = 32 → (vsubR t bs last).2.length = 32
  | [], _, h => h
  | b :: r, last, h => by
    unfold vsubR
    split
    · exact h
    split
    · exact h
    · exact vsubR_len (shaS_len _)
theorem vsubR_app {t : List UInt8} : ∀ {xs ys : List (List UInt8)} {last : List UInt8}, (vsubR t xs last).1 = 0 → vsubR t (xs ++ ys) last = vsubR t ys (vsubR t xs last).2
  | [], _, _, _ => rfl
  | b :: r, ys, last, h => by
    unfold vsubR at h
    rw [List.cons_append]
    conv => lhs; unfold vsubR
    conv => rhs; arg 3; unfold vsubR
    by_cases h1 : okS b = false ∨ (enOf (readS b).1).t ≠ t
    · rw [if_pos h1] at h; simp at h
    rw [if_neg h1] at h ⊢
    rw [if_neg h1]
    by_cases h2 : ahOf (readS b).1 ≠ last
    · rw [if_pos h2] at h; simp at h
    rw [if_neg h2] at h ⊢
    rw [if_neg h2]
    exact vsubR_app h
theorem sget_sput {t u d : List UInt8} : ∀ {s : Sbs}, sget t (sput u d s) = if t = u then some d else sget t s
  | [] => by
    unfold sput
    simp only [sget]
  | p :: s => by
    have ih := @sget_sput t u d s
    unfold sput
    by_cases hu : u = p.1
    · rw [if_pos hu]
      simp only [sget]
      by_cases ht : t = u
      · simp [ht, hu]
      · rw [if_neg ht]
        have : t ≠ p.1 := fun e => ht (e.trans hu.symm)
        simp [ht, this]
    · rw [if_neg hu]
      simp only [sget]
      by_cases ht : t = p.1
      · have : t ≠ u := fun e => hu (e ▸ ht)
        simp [ht, this, Ne.symm hu]
      · simp only [ht, if_false]
        exact ih
/-- the bytes of a tenant's entries. -/
def ofS (t : List UInt8) (ts : List It) : List (List UInt8) := (ts.filter fun i => decide (i.e.t = t)).map (·.b)
theorem ofS_app (t : List UInt8) (a b : List It) : ofS t (a ++ b) = ofS t a ++ ofS t b := by simp [ofS]
theorem Good.items_step {S : MS} (G : Good S) {e : En} (h : wrongS e = 0) : itemsS (stepM S e).log = itemsS S.log ++ [⟨e, bytesS e (aheadS S.subs e.t), S.l⟩] := by
  obtain ⟨ts, t1, t2⟩ := G.items
  have nil : ∀ q l s, itemsR (q + 1) [] l s = [] := fun q l s => by rw [itemsR_succ]; rfl
  have a1 : itemsS S.log = ts := by
    have h1 := t2 (S.log.length + 1 - S.ins.length) []
    have h2 := G.le
    rw [show S.log.length + 1 - S.ins.length + S.ins.length = S.log.length + 1 by omega, List.append_nil] at h1
    obtain ⟨q, hq⟩ : ∃ q, S.log.length + 1 - S.ins.length = q + 1 := ⟨S.log.length - S.ins.length, by omega⟩
    rw [hq, nil, List.append_nil] at h1
    exact h1
  obtain ⟨F, hF⟩ : ∃ F, F = frameS (bytesS e (aheadS S.subs e.t)) := ⟨_, rfl⟩
  have hp := frameS_pos (bytesS e (aheadS S.subs e.t))
  rw [← hF] at hp
  have hl : (stepM S e).log = S.log ++ F := by rw [stepM_ok h, hF]
  have h2 := G.le
  obtain ⟨q, hq⟩ : ∃ q, (stepM S e).log.length + 1 = (q + 1 + 1) + S.ins.length := ⟨(stepM S e).log.length - S.ins.length - 1, by rw [hl, List.length_append]; omega⟩
  unfold itemsS at a1 ⊢
  rw [hq, hl, t2 (q + 1 + 1) F, a1]
  congr 1
  have := items_frame (l := S.l) h G.ls (q + 1) []
  rw [List.append_nil, ← hF, nil] at this
  exact this
theorem ok_bytes {e : En} {a : List UInt8} (h : wrongS e = 0) (ha : a.length = 32) : okS (bytesS e a) = true ∧ enOf (readS (bytesS e a)).1 = e ∧ ahOf (readS (bytesS e a)).1 = a := by
  obtain ⟨_, _, h3⟩ := fds_enc h ha
  obtain ⟨b1, b2⟩ := en_back (a := a) h
  rw [h3]
  exact ⟨okS_back h ha, b1, b2⟩
theorem subs_law : ∀ (es : List En) (S : MS), Good S → (∀ t, vsubR t (ofS t (itemsS S.log)) zero32 = (0, aheadS S.subs t)) → ∀ t, vsubR t (ofS t (itemsS (es.foldl stepM S).log)) zero32 = (0, aheadS (es.foldl stepM S).subs t)
  | [], S, _, h => h
  | e :: es, S, G, h => by
    rw [List.foldl_cons]
    refine subs_law es _ (G.step e) (fun t => ?_)
    by_cases hw : wrongS e = 0
    case neg => rw [stepM_bad hw]; exact h t
    rw [G.items_step hw, ofS_app]
    rw [vsubR_app (by rw [h t])]
    rw [h t]
    have hs : (stepM S e).subs = sput e.t (shaS (bytesS e (aheadS S.subs e.t))) S.subs := by rw [stepM_ok hw]
    have ha : (aheadS S.subs e.t).length = 32 := sget_len G.ls
    obtain ⟨o1, o2, o3⟩ := ok_bytes hw ha
    by_cases ht : e.t = t
    · have hof : ofS t [⟨e, bytesS e (aheadS S.subs e.t), S.l⟩] = [bytesS e (aheadS S.subs e.t)] := by simp [ofS, ht]
      rw [hof]
      simp only [vsubR]
      rw [if_neg (by rw [o1, o2]; simp [ht]), if_neg (by rw [o3, ht]; simp), hs]
      unfold aheadS
      rw [sget_sput, if_pos ht.symm]
      rfl
    · have hof : ofS t [⟨e, bytesS e (aheadS S.subs e.t), S.l⟩] = [] := by simp [ofS, ht]
      rw [hof, hs]
      simp only [vsubR]
      unfold aheadS
      rw [sget_sput, if_neg (fun h => ht h.symm)]
theorem made_subs (es : List En) (t : List UInt8) : vsubR t (ofS t (itemsS (madeS es).log)) zero32 = (0, aheadS (madeS es).subs t) :=
  subs_law (es.take 40) ms0 Good.zero (fun t => rfl) t
theorem made_vsub (es : List En) {t d : List UInt8} (h : sget t (madeS es).subs = some d) : vsubS t (ofS t (itemsS (madeS es).log)) d = 0 := by
  unfold vsubS
  rw [made_subs es t]
  simp [aheadS, h]
end Go.Proofs.Ytdnkpgbggpbgaaa.Au
