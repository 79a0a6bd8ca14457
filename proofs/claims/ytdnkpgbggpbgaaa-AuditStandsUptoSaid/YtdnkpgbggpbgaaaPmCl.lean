/- The pure machine, part Cl: a map's clone, out of the shelf's contract. -/
import Derived.Test.YtdnkpgbggpbgaaaPmZa
import Derived.Shelf.SlMaps.Clone
set_option linter.unusedVariables false
set_option linter.unusedSimpArgs false
namespace Go.Proofs.Ytdnkpgbggpbgaaa.Pm
open Go.RowKit

/-- what the shelf says of a clone. -/
def ClonesM (P : Program) (f : FuncId) : Prop := ∀ (b : Nat) (es : Array MapEntry) (clock : Nat) (w : World), w.heap[b]? = some (.map es clock) →
    Calls P f #[.map (some b)] w fun e w' => e = .returned (.map (some w.heap.size)) ∧ w' = w.alloc (.map es clock)

theorem MapRel.push {m : Mp} {es : List (Value × Value × Nat)} {mes : Array MapEntry} (h : MapRel m es mes) (i : Info) : MapRel (m.push i) es mes :=
  ⟨h.1, fun j x e hx he => by
    obtain ⟨h1, h2, h3⟩ := h.2 j x e hx he
    exact ⟨h1.mono (m.push_le i), h2.mono (m.push_le i), h3⟩⟩
theorem cloneM_ok {P : Program} {f : FuncId} (hf : ClonesM P f) {h : VH} {j clk : Nat} {es : List (Value × Value × Nat)} {ow : Bool} (hj : j < h.n) (hg : h.get j = .map es clk ow) :
    PCalls P f [.map (some j)] h (fun u h' => u = .map (some h.n) ∧ h' = h.push (.map es clk true)) := by
  intro B w0 m w args' S ha
  match hargs : args'.toList, ha with
  | [x], ha =>
    have hx := ha.2 0 _ x rfl rfl
    have hjm : j < m.n := by rw [S.n]; exact hj
    have hob := S.obj j hjm
    rw [hg] at hob
    cases hx with
    | map _ =>
      obtain ⟨mes, hb, hr⟩ := hob
      have hae : args' = #[.map (some (m.at_ j).blk)] := by
        apply Array.toList_inj.1
        rw [hargs]
      rw [hae]
      refine (hf _ mes clk w hb).mono ?_
      rintro e w' ⟨rfl, rfl⟩
      have hr' : MapRel (m.push ⟨w.heap.size, 0, 0, 0⟩) es mes := MapRel.push hr _
      have S' := S.push (.map mes clk) (.map es clk true) ⟨w.heap.size, 0, 0, 0⟩ rfl ⟨mes, heap_alloc_new' w _, hr'⟩
      have hv := VR.map (m := m.push ⟨w.heap.size, 0, 0, 0⟩) (i := m.n) (by simp)
      rw [Mp.at_push_new] at hv
      exact ⟨_, .map (some h.n), .map (some w.heap.size), _, rfl, ⟨rfl, rfl⟩, m.push_le _, S', by rw [← S.n]; exact hv⟩
  | [], ha => exact absurd ha.1 (by simp)
  | _ :: _ :: _, ha => exact absurd ha.1 (by simp)
end Go.Proofs.Ytdnkpgbggpbgaaa.Pm
