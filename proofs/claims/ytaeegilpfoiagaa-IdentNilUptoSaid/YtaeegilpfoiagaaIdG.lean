/- ident, part G: there and back. -/
import Derived.Test.YtaeegilpfoiagaaIdF
set_option linter.unusedVariables false
set_option linter.unusedSimpArgs false
set_option maxRecDepth 100000
namespace Go.Proofs.Ytaeegilpfoiagaa.Id
open Go Go.RowKit Go.Proofs.Ytaeegilpfoiagaa.Pm Go.Proofs.Ytaeegilpfoiagaa.Fs

theorem lead_is (s : List UInt8) : IsLen (good s) (min s.length 32) (leadS s) := lenP_is _ _
theorem nameS_all {a : List UInt8} (h : nameS a = true) : a ≠ [] ∧ a.length ≤ 32 ∧ ∀ i, i < a.length → good a i = true := by
  unfold nameS at h
  simp only [Bool.and_eq_true, decide_eq_true_eq] at h
  have hi := lead_is a
  rw [h.2] at hi
  exact ⟨h.1, by have := hi.le; omega, hi.all⟩
theorem nameS_of {a : List UInt8} (h1 : a ≠ []) (h2 : a.length ≤ 32) (h3 : ∀ i, i < a.length → good a i = true) : nameS a = true := by
  unfold nameS
  rw [decide_eq_true h1, Bool.true_and]
  refine decide_eq_true ?_
  exact IsLen.eq ⟨by omega, h3, .inl (by omega)⟩
theorem good_append {a r : List UInt8} {i : Nat} (h : i < a.length) : good (a ++ r) i = good a i := by
  unfold good
  have : (a ++ r).getD i 0 = a.getD i 0 := by simp [List.getD, List.getElem?_append_left h]
  rw [this]
theorem good_take {s : List UInt8} {n i : Nat} (h : i < n) : good (s.take n) i = good s i := by
  unfold good
  have : (s.take n).getD i 0 = s.getD i 0 := by simp [List.getD, List.getElem?_take, h]
  rw [this]
/-- a name, and behind it what can not stand in one. -/
theorem lead_app {a r : List UInt8} (h : nameS a = true) (hr : r = [] ∨ isMid (r.getD 0 0) = false) : leadS (a ++ r) = a.length := by
  obtain ⟨h1, h2, h3⟩ := nameS_all h
  have hpos : a.length ≠ 0 := fun h => h1 (List.eq_nil_of_length_eq_zero h)
  refine IsLen.eq ⟨by rw [List.length_append]; omega, fun i hi => by rw [good_append hi]; exact h3 i hi, ?_⟩
  rcases hr with rfl | hr
  · exact .inl (by rw [List.append_nil]; omega)
  · by_cases h32 : a.length = 32
    · exact .inl (by rw [List.length_append]; omega)
    · refine .inr ?_
      unfold good
      rw [if_neg hpos]
      have : (a ++ r).getD a.length 0 = r.getD 0 0 := by simp [List.getD, List.getElem?_append_right]
      rw [this]
      exact hr
theorem lead_name {s : List UInt8} (h : leadS s ≠ 0) : nameS (s.take (leadS s)) = true := by
  have hi := lead_is s
  have hle := leadS_le s
  have hl : (s.take (leadS s)).length = leadS s := by simp; omega
  refine nameS_of ?_ (by omega) (fun i hi' => ?_)
  · intro h2
    rw [h2] at hl
    exact h hl.symm
  · rw [good_take (by omega)]
    exact hi.all i (by omega)
theorem same_take {s t : List UInt8} (h : sameS s t = t.length) : s.take t.length = t := by
  have hi := same_is s t
  rw [h] at hi
  have hle := (sameS_le s t).1
  apply List.ext_getElem (by simp; omega)
  intro i h1 h2
  have := hi.all i h2
  simp only [List.getD, beq_iff_eq] at this
  rw [List.getElem?_eq_getElem (by omega), List.getElem?_eq_getElem h2] at this
  simpa using this
theorem same_app (t r : List UInt8) : sameS (t ++ r) t = t.length := by
  refine ((same_is (t ++ r) t).uniq ⟨by rw [List.length_append]; omega, fun i hi => ?_, .inl (by rw [List.length_append]; omega)⟩)
  simp [List.getD, List.getElem?_append_left hi]
theorem drop_app (a r : List UInt8) (n : Nat) (h : n = a.length) : (a ++ r).drop n = r := by subst h; simp
theorem take_app (a r : List UInt8) (n : Nat) (h : n = a.length) : (a ++ r).take n = a := by subst h; simp
theorem parse_print {a b : List UInt8} {c : Bool} (h : rightS a b = true) : parseS (printL a b c) = prV a b c 0 0 := by
  unfold rightS at h
  simp only [Bool.and_eq_true] at h
  obtain ⟨ha, hb⟩ := h
  obtain ⟨ha1, ha2, _⟩ := nameS_all ha
  obtain ⟨hb1, hb2, _⟩ := nameS_all hb
  have hap : a.length ≠ 0 := fun h => ha1 (List.eq_nil_of_length_eq_zero h)
  have hbp : b.length ≠ 0 := fun h => hb1 (List.eq_nil_of_length_eq_zero h)
  obtain ⟨e, he⟩ : ∃ e, e = if c then adminB else [] := ⟨_, rfl⟩
  obtain ⟨s, hs⟩ : ∃ s, s = printL a b c := ⟨_, rfl⟩
  have hs1 : s = schemeB ++ (a ++ (47 :: (b ++ e))) := by rw [hs, printL, ← he]; simp
  have hs2 : s = (schemeB ++ a) ++ (47 :: (b ++ e)) := by rw [hs1]; simp
  have hs3 : s = (schemeB ++ a ++ [47]) ++ (b ++ e) := by rw [hs1]; simp
  have hs4 : s = (schemeB ++ a ++ [47] ++ b) ++ e := by rw [hs1]; simp
  have hl7 : schemeB.length = 7 := rfl
  have h7 : sameS s schemeB = 7 := by rw [hs1]; exact same_app schemeB _
  have d1 : s.drop 7 = a ++ (47 :: (b ++ e)) := by rw [hs1]; exact drop_app _ _ _ rfl
  have n1 : a.length = leadS (s.drop 7) := by rw [d1, lead_app ha (.inr rfl)]
  have d2 : s.drop (7 + a.length) = 47 :: (b ++ e) := by rw [hs2]; exact drop_app _ _ _ (by simp [hl7])
  have d3 : s.drop (7 + a.length + 1) = b ++ e := by rw [hs3]; exact drop_app _ _ _ (by simp [hl7]; try omega)
  have he2 : e = [] ∨ isMid (e.getD 0 0) = false := by
    cases c with
    | true => right; rw [he]; rfl
    | false => left; rw [he]; rfl
  have n2 : b.length = leadS (s.drop (7 + a.length + 1)) := by rw [d3, lead_app hb he2]
  have hok : ¬ (a.length = 0 ∨ ¬ (s.drop (7 + a.length)).take 1 = [47]) := by rw [d2]; simp [hap]
  have t1 : (s.take (7 + a.length)).drop 7 = a := by
    rw [hs2, take_app _ _ _ (by simp [hl7])]
    exact drop_app _ _ _ rfl
  have t2 : (s.take (7 + a.length + 1 + b.length)).drop (7 + a.length + 1) = b := by
    rw [hs4, take_app _ _ _ (by simp [hl7]; try omega)]
    exact drop_app _ _ _ (by simp [hl7]; try omega)
  have hlen : s.length = 7 + a.length + 1 + b.length + e.length := by rw [hs4]; simp [hl7]; omega
  have d4 : s.drop (7 + a.length + 1 + b.length) = e := by rw [hs4]; exact drop_app _ _ _ (by simp [hl7]; try omega)
  rw [← hs]
  cases c with
  | true =>
    have hel : e.length = 6 := by rw [he]; rfl
    rw [parseS_4 (by omega) n1 hok n2 hbp rfl (by omega) ⟨by rw [d4, he]; rfl, by omega⟩, t1, t2]
  | false =>
    have hel : e.length = 0 := by rw [he]; rfl
    rw [parseS_3 (by omega) n1 hok n2 hbp rfl (by omega), t1, t2]
theorem take_len {s : List UInt8} {x y z : Nat} (h : y ≤ z) (hz : z ≤ s.length) : s.take z = s.take y ++ (s.take z).drop y := by
  have := List.take_append_drop y (s.take z)
  rw [List.take_take, Nat.min_eq_left h] at this
  exact this.symm
theorem print_parse {s x y : List UInt8} {c : Bool} {e n : Nat} (h : parseS s = prV x y c e n) (he : e = 0) : rightS x y = true ∧ printL x y c = s := by
  subst he
  have hinj : ∀ {x' y' : List UInt8} {c' : Bool} {e' n' : Nat}, prV x' y' c' e' n' = prV x y c 0 n → x' = x ∧ y' = y ∧ c' = c ∧ e' = 0 := by
    intro x' y' c' e' n' h
    simp only [prV, idV, Value.tuple.injEq, Array.mk.injEq, List.cons.injEq, Value.agg.injEq, Value.string.injEq, Value.bool.injEq, Value.int.injEq, true_and, and_true] at h
    obtain ⟨⟨h1, h2, h3⟩, h4, h5⟩ := h
    exact ⟨strB_inj h1, strB_inj h2, h3, by omega⟩
  by_cases h7 : sameS s schemeB < 7
  · rw [parseS_bad h7] at h
    have := (hinj h).2.2.2
    omega
  have hle7 := sameS_le s schemeB
  have e7 : sameS s schemeB = schemeB.length := by
    have h2 : schemeB.length = 7 := rfl
    omega
  have hl7 : schemeB.length = 7 := rfl
  have s7 : s.take 7 = schemeB := same_take e7
  by_cases h1 : leadS (s.drop 7) = 0 ∨ ¬ (s.drop (7 + leadS (s.drop 7))).take 1 = [47]
  · rw [parseS_1 h7 rfl h1] at h
    have := (hinj h).2.2.2
    omega
  by_cases h2 : leadS (s.drop (7 + leadS (s.drop 7) + 1)) = 0
  · rw [parseS_2 h7 rfl h1 h2] at h
    have := (hinj h).2.2.2
    omega
  obtain ⟨n1, hn1⟩ : ∃ n1, n1 = leadS (s.drop 7) := ⟨_, rfl⟩
  rw [← hn1] at h1 h2
  obtain ⟨n2, hn2⟩ : ∃ n2, n2 = leadS (s.drop (7 + n1 + 1)) := ⟨_, rfl⟩
  rw [← hn2] at h2
  obtain ⟨a, ha⟩ : ∃ a, a = 7 + n1 + 1 + n2 := ⟨_, rfl⟩
  have h1' : n1 ≠ 0 ∧ (s.drop (7 + n1)).take 1 = [47] := by
    refine ⟨fun h => h1 (.inl h), ?_⟩
    by_cases h3 : (s.drop (7 + n1)).take 1 = [47]
    · exact h3
    · exact absurd (.inr h3) h1
  have hle1 := (leadS_le (s.drop 7)).1
  have hle2 := (leadS_le (s.drop (7 + n1 + 1))).1
  rw [← hn1, List.length_drop] at hle1
  rw [← hn2, List.length_drop] at hle2
  have hlt : 7 + n1 < s.length := by
    rcases Nat.lt_or_ge (7 + n1) s.length with h3 | h3
    · exact h3
    · have := h1'.2
      rw [List.drop_of_length_le h3] at this; simp at this
  have nx : nameS ((s.take (7 + n1)).drop 7) = true := by
    have := lead_name (s := s.drop 7) (by rw [← hn1]; exact h1'.1)
    rw [← hn1] at this
    rw [List.drop_take, show 7 + n1 - 7 = n1 by omega]
    exact this
  have ny : nameS ((s.take a).drop (7 + n1 + 1)) = true := by
    have := lead_name (s := s.drop (7 + n1 + 1)) (by rw [← hn2]; exact h2)
    rw [← hn2] at this
    rw [List.drop_take, show a - (7 + n1 + 1) = n2 by omega]
    exact this
  have p1 : s.take (7 + n1) = schemeB ++ (s.take (7 + n1)).drop 7 := by
    have := take_len (s := s) (x := 0) (y := 7) (z := 7 + n1) (by omega) (by omega)
    rw [s7] at this; exact this
  have p2 : s.take (7 + n1 + 1) = s.take (7 + n1) ++ [47] := by rw [List.take_add, h1'.2]
  have p3 : s.take a = s.take (7 + n1 + 1) ++ (s.take a).drop (7 + n1 + 1) := take_len (x := 0) (by omega) (by omega)
  have p4 : s = s.take a ++ s.drop a := (List.take_append_drop a s).symm
  have fin : ∀ c' : Bool, s.drop a = (if c' then adminB else []) → printL ((s.take (7 + n1)).drop 7) ((s.take a).drop (7 + n1 + 1)) c' = s := by
    intro c' hc
    unfold printL
    rw [← hc, ← p1, ← p2, ← p3, ← p4]
  by_cases h3 : a = s.length
  · rw [parseS_3 h7 hn1 h1 hn2 h2 ha h3] at h
    obtain ⟨rfl, rfl, rfl, _⟩ := hinj h
    exact ⟨by unfold rightS; rw [nx, ny]; rfl, fin false (by rw [List.drop_of_length_le (by omega)]; rfl)⟩
  · by_cases h4 : sameS (s.drop a) adminB = 6 ∧ a + 6 = s.length
    · rw [parseS_4 h7 hn1 h1 hn2 h2 ha h3 h4] at h
      obtain ⟨rfl, rfl, rfl, _⟩ := hinj h
      refine ⟨by unfold rightS; rw [nx, ny]; rfl, fin true ?_⟩
      have := same_take (s := s.drop a) (t := adminB) h4.1
      rw [List.take_of_length_le (by rw [List.length_drop]; show s.length - a ≤ 6; omega)] at this
      rw [this]; rfl
    · rw [parseS_5 h7 hn1 h1 hn2 h2 ha h3 rfl (fun h5 => h4 ⟨h5.1, by have := h5.2; omega⟩)] at h
      have := (hinj h).2.2.2
      omega
end Go.Proofs.Ytaeegilpfoiagaa.Id
