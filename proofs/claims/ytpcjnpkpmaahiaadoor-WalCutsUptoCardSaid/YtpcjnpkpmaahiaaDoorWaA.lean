/- wal, part A: frames, in plain Lean. -/
import Derived.Test.YtpcjnpkpmaahiaaDoorWaS
set_option linter.unusedVariables false
set_option linter.unusedSimpArgs false
set_option maxRecDepth 100000
namespace Go.Proofs.YtpcjnpkpmaahiaaDoor.Wa
open Go Go.RowKit Go.Proofs.YtpcjnpkpmaahiaaDoor.Pm

def headS (q : Nat) (b : List UInt8) : List UInt8 := varint q ++ varint b.length ++ b
def frameS (q : Nat) (b : List UInt8) : List UInt8 := headS q b ++ lowB 4 (sumS (headS q b)).toNat
theorem frame_len (q : Nat) (b : List UInt8) : (frameS q b).length = (varint q).length + ((varint b.length).length + (b.length + 4)) := by
  simp [frameS, headS, lowB_length]
theorem frame_parts (q : Nat) (b : List UInt8) : frameS q b = varint q ++ (varint b.length ++ (b ++ lowB 4 (sumS (headS q b)).toNat)) := by
  simp [frameS, headS]
def badC : Nat × List UInt8 × Nat := (0, [], 0)
def cut2 (bs : List UInt8) (q p : Nat) (g : Nat × Nat × Int) : Nat × List UInt8 × Nat :=
  if g.2.2 ≠ 0 ∨ 65536 < g.1 ∨ bs.length - (p + g.2.1) < g.1 then badC else
  if frameS q ((bs.drop (p + g.2.1)).take g.1) = bs.take (frameS q ((bs.drop (p + g.2.1)).take g.1)).length then (q, (bs.drop (p + g.2.1)).take g.1, (frameS q ((bs.drop (p + g.2.1)).take g.1)).length) else badC
def cutS (bs : List UInt8) : Nat × List UInt8 × Nat :=
  if (getS 0 0 bs).2.2 ≠ 0 ∨ (getS 0 0 bs).1 = 0 then badC else cut2 bs (getS 0 0 bs).1 (getS 0 0 bs).2.1 (getS 0 0 (bs.drop (getS 0 0 bs).2.1))
theorem cut_frame {q : Nat} {b : List UInt8} (h1 : 1 ≤ q) (h2 : q < 18446744073709551616) (hb : b.length ≤ 65536) (r : List UInt8) : cutS (frameS q b ++ r) = (q, b, (frameS q b).length) := by
  have e : frameS q b ++ r = varint q ++ (varint b.length ++ (b ++ (lowB 4 (sumS (headS q b)).toNat ++ r))) := by rw [frame_parts]; simp
  have g1 : getS 0 0 (frameS q b ++ r) = (q, (varint q).length, 0) := by rw [e]; exact get_varint h2 _
  have d1 : (frameS q b ++ r).drop (varint q).length = varint b.length ++ (b ++ (lowB 4 (sumS (headS q b)).toNat ++ r)) := by rw [e]; simp
  have g2 : getS 0 0 ((frameS q b ++ r).drop (varint q).length) = (b.length, (varint b.length).length, 0) := by rw [d1]; exact get_varint (by omega) _
  have d2 : ((frameS q b ++ r).drop ((varint q).length + (varint b.length).length)).take b.length = b := by
    rw [← List.drop_drop, d1]; simp
  have hl := frame_len q b
  unfold cutS
  rw [g1]
  simp only [ne_eq, not_true, false_or]
  rw [if_neg (by omega), g2]
  unfold cut2
  simp only [ne_eq, not_true, false_or]
  rw [if_neg (by rw [List.length_append]; omega), d2, if_pos (by simp)]
theorem cut_nil : cutS [] = badC := rfl
theorem cut_short {q : Nat} {b : List UInt8} (h1 : 1 ≤ q) (h2 : q < 18446744073709551616) (hb : b.length ≤ 65536) {m : Nat} (hm : m < (frameS q b).length) : cutS ((frameS q b).take m) = badC := by
  obtain ⟨t, ht⟩ : ∃ t, t = lowB 4 (sumS (headS q b)).toNat := ⟨_, rfl⟩
  have e : frameS q b = varint q ++ (varint b.length ++ (b ++ t)) := by rw [frame_parts, ht]
  have hl := frame_len q b
  by_cases c1 : m < (varint q).length
  · have : (frameS q b).take m = (varint q).take m := by rw [e, List.take_append_of_le_length (by omega)]
    unfold cutS
    rw [this, get_short h2 c1, if_pos (.inl (by decide))]
  obtain ⟨m1, hm1⟩ : ∃ m1, m = (varint q).length + m1 := ⟨m - (varint q).length, by omega⟩
  have e1 : (frameS q b).take m = varint q ++ (varint b.length ++ (b ++ t)).take m1 := by rw [e, hm1, List.take_length_add_append]
  have g1 : getS 0 0 ((frameS q b).take m) = (q, (varint q).length, 0) := by rw [e1]; exact get_varint h2 _
  have d1 : ((frameS q b).take m).drop (varint q).length = (varint b.length ++ (b ++ t)).take m1 := by rw [e1]; simp
  have ll : ((frameS q b).take m).length = m := by rw [List.length_take]; omega
  unfold cutS
  rw [g1]
  simp only [ne_eq, not_true, false_or]
  rw [if_neg (by omega), d1]
  by_cases c2 : m1 < (varint b.length).length
  · rw [List.take_append_of_le_length (by omega), get_short (by omega) c2]
    unfold cut2
    rw [if_pos (.inl (by decide))]
  obtain ⟨m2, hm2⟩ : ∃ m2, m1 = (varint b.length).length + m2 := ⟨m1 - (varint b.length).length, by omega⟩
  rw [hm2, List.take_length_add_append, get_varint (by omega)]
  unfold cut2
  simp only [ne_eq, not_true, false_or]
  by_cases c3 : m2 < b.length
  · rw [if_pos (.inr (by rw [ll]; omega))]
  rw [if_neg (by rw [ll]; omega)]
  have d2 : (((frameS q b).take m).drop ((varint q).length + (varint b.length).length)).take b.length = b := by
    rw [← List.drop_drop, d1, hm2, List.take_length_add_append, List.drop_left', List.take_take]
    · rw [Nat.min_eq_left (by omega)]; simp
    · rfl
  rw [d2, if_neg]
  intro h
  have := congrArg List.length h
  rw [List.length_take, List.length_take] at this
  omega
theorem cut_spec (bs : List UInt8) : cutS bs = badC ∨ ∃ q b, cutS bs = (q, b, (frameS q b).length) ∧ 1 ≤ q ∧ q < 18446744073709551616 ∧ b.length ≤ 65536 ∧ frameS q b = bs.take (frameS q b).length := by
  unfold cutS
  split
  · exact .inl rfl
  · rename_i h0
    unfold cut2
    split
    · exact .inl rfl
    · rename_i h1
      split
      · rename_i h2
        have := (getS_spec bs 0 0 (by omega) (by omega)).1
        refine .inr ⟨_, _, rfl, by omega, this, ?_, h2⟩
        rw [List.length_take]
        omega
      · exact .inl rfl
theorem frame_pos (q : Nat) (b : List UInt8) : 5 ≤ (frameS q b).length := by
  have h1 := List.length_pos_iff.2 (varint_ne q)
  rw [frame_len]
  omega
/-- good frames, p: the number of the one ahead. -/
def goodR : Nat → Option Nat → List UInt8 → List (Nat × List UInt8) × Nat
  | 0, _, _ => ([], 0)
  | f + 1, p, bs => if (cutS bs).2.2 = 0 ∨ (∃ x, p = some x ∧ (cutS bs).1 ≠ x + 1) then ([], 0) else
    (((cutS bs).1, (cutS bs).2.1) :: (goodR f (some (cutS bs).1) (bs.drop (cutS bs).2.2)).1, (cutS bs).2.2 + (goodR f (some (cutS bs).1) (bs.drop (cutS bs).2.2)).2)
def goodS (bs : List UInt8) : List (Nat × List UInt8) × Nat := goodR (bs.length + 1) none bs
def framesS : Nat → List (List UInt8) → List UInt8
  | _, [] => []
  | q, b :: l => frameS q b ++ framesS (q + 1) l
def numS : Nat → List (List UInt8) → List (Nat × List UInt8)
  | _, [] => []
  | q, b :: l => (q, b) :: numS (q + 1) l
theorem goodR_frames : ∀ (l : List (List UInt8)) (q f : Nat) (p : Option Nat) (r : List UInt8), (p = none ∨ p = some (q - 1)) → 1 ≤ q → q + l.length ≤ 18446744073709551616 → (∀ b ∈ l, b.length ≤ 65536) → cutS r = badC → l.length < f →
    goodR f p (framesS q l ++ r) = (numS q l, (framesS q l).length)
  | [], q, f, p, r, hp, hq, hn, hb, hr, hf => by
    cases f with
    | zero => rfl
    | succ f => simp [goodR, framesS, numS, hr, badC]
  | b :: l, q, f, p, r, hp, hq, hn, hb, hr, hf => by
    cases f with
    | zero => simp at hf
    | succ f =>
      simp only [List.length_cons] at hn hf
      have hc : cutS (framesS q (b :: l) ++ r) = (q, b, (frameS q b).length) := by
        simp only [framesS, List.append_assoc]
        exact cut_frame hq (by omega) (hb b (List.mem_cons_self ..)) _
      have hpos := frame_pos q b
      have ih := goodR_frames l (q + 1) f (some q) r (.inr rfl) (by omega) (by omega) (fun x hx => hb x (List.mem_cons_of_mem _ hx)) hr (by omega)
      simp only [goodR, hc]
      rw [if_neg]
      · simp only [framesS, List.append_assoc, drop_len, ih, numS, List.length_append]
      · rintro (h | ⟨x, hx, h⟩)
        · omega
        · rcases hp with hp | hp
          · rw [hp] at hx; cases hx
          · rw [hp] at hx; injection hx with hx; omega
theorem numS_length : ∀ (q : Nat) (l : List (List UInt8)), (numS q l).length = l.length
  | _, [] => rfl
  | q, b :: l => by simp [numS, numS_length]
theorem numS_what : ∀ (q : Nat) (l : List (List UInt8)), (numS q l).map (·.2) = l
  | _, [] => rfl
  | q, b :: l => by simp [numS, numS_what]
theorem numS_last : ∀ (q : Nat) (l : List (List UInt8)), l ≠ [] → ((numS q l).getLast?.map (·.1)) = some (q + l.length - 1)
  | q, [b], _ => by simp [numS]
  | q, b :: c :: l, _ => by
    have := numS_last (q + 1) (c :: l) (by simp)
    simp only [numS, List.getLast?_cons_cons, List.length_cons] at this ⊢
    rw [this]
    congr 1
    omega
def lastS (l : List (Nat × List UInt8)) : Nat := ((l.getLast?).map (·.1)).getD 0
theorem good_bounds : ∀ (f : Nat) (p : Option Nat) (bs : List UInt8), (goodR f p bs).2 ≤ bs.length ∧ (∀ x ∈ (goodR f p bs).1, 1 ≤ x.1 ∧ x.1 < 18446744073709551616 ∧ x.2.length ≤ 65536) ∧ (goodR f p bs).1.length ≤ (goodR f p bs).2
  | 0, _, _ => by simp [goodR]
  | f + 1, p, bs => by
    simp only [goodR]
    split
    · simp
    · rename_i h
      rcases cut_spec bs with hc | ⟨q, b, hc, h1, h2, h3, h4⟩
      · exact absurd (.inl (by rw [hc]; rfl)) h
      · have hpos := frame_pos q b
        have hle : (frameS q b).length ≤ bs.length := by
          have := congrArg List.length h4
          rw [List.length_take] at this
          omega
        obtain ⟨i1, i2, i3⟩ := good_bounds f (some q) (bs.drop (frameS q b).length)
        rw [hc]
        simp only
        rw [List.length_drop] at i1
        refine ⟨by omega, fun x hx => ?_, by simp only [List.length_cons]; omega⟩
        rcases List.mem_cons.1 hx with rfl | hx
        · exact ⟨h1, h2, h3⟩
        · exact i2 x hx
end Go.Proofs.YtpcjnpkpmaahiaaDoor.Wa
