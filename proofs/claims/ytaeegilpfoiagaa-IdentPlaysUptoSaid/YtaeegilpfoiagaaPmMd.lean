/- The pure machine, part Md: ranges over maps out of which entries go meanwhile. -/
import Derived.Test.YtaeegilpfoiagaaPmMr
set_option linter.unusedVariables false
set_option linter.unusedSimpArgs false
namespace Go.Proofs.Ytaeegilpfoiagaa.Pm
open Go.RowKit

/-- one 'next' of a range over a map, of which nothing new has come. -/
theorem range_next_del {P : Program} {r : List GI} {s : Slots} {d : Option Nat} {K : Slots → VH → Prop} {g : VH} {q j clk : Nat} {ow : Bool} {es : List Ent} {seen : List Nat}
    (hnd : (es.map (·.2.2)).Nodup) (hlt : ∀ e ∈ es, e.2.2 < clk) (hq : g.get q = .miter (some j) clk seen clk) (hj : g.get j = .map es clk ow)
    (h0 : (∀ e ∈ es, e.2.2 ∈ seen) → pwOps P r (putS s d (.tuple #[.bool false])) g K)
    (h1 : ∀ e ∈ es, e.2.2 ∉ seen → ∀ sn, sn = seen ++ [e.2.2] → (sn.getLast?.bind fun st => mborn st es) = some (e.1, e.2.1) →
      pwOps P r (putS s d (.tuple #[.bool true, e.1, e.2.1])) (g.set q (.miter (some j) clk sn clk)) K) :
    kNext P r s d K (pnextM (.pointer (some ⟨q, 0, none⟩)) g) := by
  rw [pnextM_at hq hj hlt]
  have hleft : ∀ e, e ∈ leftE es seen ↔ e ∈ es ∧ e.2.2 ∉ seen := by
    intro e
    unfold leftE
    rw [List.mem_filter]
    simp
  intro p hpm
  rcases List.mem_append.1 hpm with hpm | hpm
  · split at hpm
    · rename_i hem
      simp at hpm
      subst hpm
      refine h0 fun e he => ?_
      by_cases hs : e.2.2 ∈ seen
      · exact hs
      · have := (hleft e).2 ⟨he, hs⟩
        rw [List.isEmpty_iff] at hem
        rw [hem] at this
        cases this
    · cases hpm
  · obtain ⟨e, he, rfl⟩ := List.mem_map.1 hpm
    obtain ⟨h2, h3⟩ := (hleft e).1 he
    exact h1 e h2 h3 _ rfl (by
      rw [List.getLast?_append]
      simp only [List.getLast?_singleton, Option.some_or, Option.bind_some]
      exact mborn_mem hnd h2)
end Go.Proofs.Ytaeegilpfoiagaa.Pm
