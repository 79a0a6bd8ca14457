/- The pure machine, part Mr: ranges over maps that stay as they are meanwhile. -/
import Derived.Test.YtaeegilpfoiagaaPmZa
set_option linter.unusedVariables false
set_option linter.unusedSimpArgs false
namespace Go.Proofs.Ytaeegilpfoiagaa.Pm
open Go.RowKit

abbrev Ent := Value × Value × Nat
def leftE (es : List Ent) (seen : List Nat) : List Ent := es.filter fun e => !seen.contains e.2.2
theorem pnextM_at {g : VH} {q j clk : Nat} {seen : List Nat} {es : List Ent} {ow : Bool} (hq : g.get q = .miter (some j) clk seen clk) (hj : g.get j = .map es clk ow) (hb : ∀ e ∈ es, e.2.2 < clk) :
    pnextM (.pointer (some ⟨q, 0, none⟩)) g = some ((if (leftE es seen).isEmpty = true then [(.tuple #[.bool false], g)] else []) ++
      (leftE es seen).map fun e => (.tuple #[.bool true, e.1, e.2.1], g.set q (.miter (some j) clk (seen ++ [e.2.2]) clk))) := by
  have h1 : (leftE es seen).filter (fun e => decide (e.2.2 < clk)) = leftE es seen := by
    rw [List.filter_eq_self]
    intro e he
    exact decide_eq_true (hb e ((List.mem_filter.1 he).1))
  have h2 : (leftE es seen).filter (fun e => decide (clk ≤ e.2.2)) = [] := by
    rw [List.filter_eq_nil_iff]
    intro e he
    have := hb e ((List.mem_filter.1 he).1)
    simp; omega
  have h3 : (!seen.isEmpty && !es.isEmpty && es.all (fun e => decide (clk ≤ e.2.2))) = false := by
    cases es with
    | nil => simp
    | cons e r =>
      have := hb e (List.mem_cons_self ..)
      have : decide (clk ≤ e.2.2) = false := decide_eq_false (by omega)
      simp [this]
  have h4 : miterL es clk seen = ((leftE es seen).isEmpty, leftE es seen) := by
    show (((leftE es seen).filter (fun e => decide (e.2.2 < clk))).isEmpty, ((leftE es seen).filter (fun e => decide (e.2.2 < clk))) ++ ((leftE es seen).filter (fun e => decide (clk ≤ e.2.2)))) = _
    rw [h1, h2, List.append_nil]
  simp only [pnextM, hq, hj, h3, h4]
  simp

theorem mborn_mem : ∀ {es : List Ent} {e : Ent}, (es.map (·.2.2)).Nodup → e ∈ es → mborn e.2.2 es = some (e.1, e.2.1)
  | [], _, _, h => by cases h
  | x :: r, e, hn, h => by
    simp only [List.map_cons, List.nodup_cons] at hn
    simp only [mborn]
    rcases List.mem_cons.1 h with rfl | h
    · simp
    · have : ¬ x.2.2 = e.2.2 := fun he => hn.1 (he ▸ List.mem_map_of_mem h)
      rw [if_neg (by simpa using this)]
      exact mborn_mem hn.2 h

/-- one 'next' of a range over a map, of which 'dn' is done and 'td' is to be done. -/
theorem range_next {α : Type} {ent : α → Ent} {P : Program} {r : List GI} {s : Slots} {d : Option Nat} {K : Slots → VH → Prop} {g : VH} {q j clk : Nat} {ow : Bool} {rs dn td : List α} {es : List Ent}
    (hes : es = rs.map ent) (hp : (dn ++ td).Perm rs) (hnd : (rs.map fun x => (ent x).2.2).Nodup) (hlt : ∀ x ∈ rs, (ent x).2.2 < clk)
    (hq : g.get q = .miter (some j) clk (dn.map fun x => (ent x).2.2) clk) (hj : g.get j = .map es clk ow)
    (h0 : td = [] → pwOps P r (putS s d (.tuple #[.bool false])) g K)
    (h1 : ∀ x a b sn, td = a ++ x :: b → sn = (dn ++ [x]).map (fun x => (ent x).2.2) → (sn.getLast?.bind fun st => mborn st es) = some ((ent x).1, (ent x).2.1) →
      pwOps P r (putS s d (.tuple #[.bool true, (ent x).1, (ent x).2.1])) (g.set q (.miter (some j) clk sn clk)) K) :
    kNext P r s d K (pnextM (.pointer (some ⟨q, 0, none⟩)) g) := by
  have hesn : (es.map (·.2.2)).Nodup := by rw [hes, List.map_map]; exact hnd
  have hnd2 : ((dn ++ td).map fun x => (ent x).2.2).Nodup := (hp.map _).nodup_iff.2 hnd
  rw [List.map_append, List.nodup_append] at hnd2
  rw [pnextM_at hq hj (fun e he => by
    rw [hes] at he
    obtain ⟨x, hx, rfl⟩ := List.mem_map.1 he
    exact hlt x hx)]
  have hleft : ∀ e, e ∈ leftE es (dn.map fun x => (ent x).2.2) ↔ ∃ x ∈ td, ent x = e := by
    intro e
    unfold leftE
    rw [List.mem_filter, hes, List.mem_map]
    constructor
    · rintro ⟨⟨x, hx, rfl⟩, hs⟩
      rcases List.mem_append.1 (hp.mem_iff.2 hx) with hx | hx
      · exfalso
        simp at hs
        exact hs x hx rfl
      · exact ⟨x, hx, rfl⟩
    · rintro ⟨x, hx, rfl⟩
      refine ⟨⟨x, hp.mem_iff.1 (List.mem_append_right _ hx), rfl⟩, ?_⟩
      simp
      intro y hy he
      exact hnd2.2.2 _ (List.mem_map_of_mem hy) _ (List.mem_map_of_mem hx) he
  intro p hpm
  rcases List.mem_append.1 hpm with hpm | hpm
  · split at hpm
    · rename_i hem
      simp at hpm
      subst hpm
      refine h0 ?_
      cases td with
      | nil => rfl
      | cons x b =>
        have := (hleft (ent x)).2 ⟨x, List.mem_cons_self .., rfl⟩
        rw [List.isEmpty_iff] at hem
        rw [hem] at this
        cases this
    · cases hpm
  · obtain ⟨e, he, rfl⟩ := List.mem_map.1 hpm
    obtain ⟨x, hx, rfl⟩ := (hleft e).1 he
    obtain ⟨a, b, hab⟩ := List.append_of_mem hx
    have := h1 x a b _ hab rfl (by
      rw [List.map_append, List.map_cons, List.map_nil, List.getLast?_append]
      simp only [List.getLast?_singleton, Option.some_or, Option.bind_some]
      exact mborn_mem hesn (by rw [hes]; exact List.mem_map_of_mem (hp.mem_iff.1 (List.mem_append_right _ hx))))
    rw [List.map_append] at this
    exact this
theorem perm_step {α : Type} {dn td a b rs : List α} {x : α} (hp : (dn ++ td).Perm rs) (h : td = a ++ x :: b) : ((dn ++ [x]) ++ (a ++ b)).Perm rs ∧ (a ++ b).length < td.length := by
  subst h
  refine ⟨List.Perm.trans ?_ hp, by simp⟩
  rw [List.append_assoc]
  exact (List.perm_middle (a := x) (l₁ := a) (l₂ := b)).symm.append_left dn
/-! ### ranges over functions -/
theorem pw_rangeF_rule {P : Program} {fr : Ref} {ps : List Nat} {a b : PC} {s : Slots} {h : VH} {Q : Exit → Slots → VH → Prop} {g : FuncId} {first cap : Array Value} (hf : ev s fr = .func (.func g) first cap) (hi : isFn P g = true)
    (hc : ∀ L : LoopKey, (∀ (i : Nat) (args : List Value) (h1 : VH) (pe : Option Code) (R : Value → VH → Prop), h1.get i = .loop L .ready pe → args.length = ps.length →
        pw P a (putAll s ps args) h1 (fun e s2 h2 => match e with
          | .normal => ∃ pe2, h2.get i = .loop L .ready pe2 ∧ pw P b s2 (h2.set i (.loop L .busy pe2)) (rndEnd i L R)
          | _ => False) → PYield P i args h1 R) →
      PCalls P g (first.toList ++ [.func (.yield h.n) #[] #[]] ++ cap.toList) (h.push (.loop L .ready none)) (rngEnd h.n L s Q)) : pw P (.rangeF fr ps a b) s h Q :=
  ⟨g, first, cap, hf, hi, fun L _ _ hy => hc L hy⟩
/-- a round that has begun. -/
def kRound (P : Program) (b : PC) (i : Nat) (L : LoopKey) (R : Value → VH → Prop) : Exit → Slots → VH → Prop := fun e s2 h2 => match e with
  | .normal => ∃ pe2, h2.get i = .loop L .ready pe2 ∧ pw P b s2 (h2.set i (.loop L .busy pe2)) (rndEnd i L R)
  | _ => False
theorem kRound_normal {P : Program} {b : PC} {i : Nat} {L : LoopKey} {R : Value → VH → Prop} {s : Slots} {h : VH} : kRound P b i L R .normal s h = ∃ pe2, h.get i = .loop L .ready pe2 ∧ pw P b s (h.set i (.loop L .busy pe2)) (rndEnd i L R) := Eq.trans rfl rfl
theorem rndEnd_normal {i : Nat} {L : LoopKey} {R : Value → VH → Prop} {s : Slots} {h : VH} {pe : Option Code} (hg : h.get i = .loop L .busy pe) (hR : R (.bool true) (h.set i (.loop L .ready none))) : rndEnd i L R .normal s h := ⟨⟨pe, hg⟩, hR⟩
theorem rndEnd_exit {i id : Nat} {L : LoopKey} {R : Value → VH → Prop} {s : Slots} {h : VH} {pe : Option Code} (hg : h.get i = .loop L .busy pe) (hR : R (.bool false) (h.set i (.loop L .done (some (.exit id))))) : rndEnd i L R (.exit id) s h := ⟨⟨pe, hg⟩, hR⟩
end Go.Proofs.Ytaeegilpfoiagaa.Pm
