/- disk, part G: told. -/
import Derived.Test.YtpcjnpkpmaahiaaDoorDkF
import Derived.Deep.RegionWith
import Derived.Below
set_option linter.unusedVariables false
set_option linter.unusedSimpArgs false
set_option maxRecDepth 20000
set_option maxHeartbeats 4000000
namespace Go.Proofs.YtpcjnpkpmaahiaaDoor.Dk
open Go.RowKit Go.Extern.Stop Go.Stop Go.Extern

theorem cell_new (w : World) (o : Obj) (a : Addr) (h : a.block < w.heap.size) : (w.alloc o).cell? a = w.cell? a := World.cell?_alloc_lt _ _ a h
theorem cell_lt {w : World} {a : Addr} {v : Value} (h : w.cell? a = some v) : a.block < w.heap.size := by
  rcases Nat.lt_or_ge a.block w.heap.size with h1 | h1
  · exact h1
  · simp [World.cell?, Array.getElem?_eq_none h1] at h
/-- errors.As(fault, &f), f a variable of the call's own: what was there is there. -/
theorem as_fault (e : Addr) (B : Nat) (w : World) (hg : w.cell? ⟨1, 0, none⟩ = some (.iface 129 (.agg #[.pointer (some ⟨2, 88, none⟩)]))) (ht : w.cell? ⟨B, 0, none⟩ = some (.pointer none)) (hf : w.frozen? ⟨B, 0, none⟩ = false) :
    Calls Tryd.prog 58 #[.iface 105 (.pointer (some e)), .iface 112 (.pointer (some ⟨B, 0, none⟩))] w fun ev w' => ev = .returned (.bool true) ∧ (Below B w w' ∧ w'.cell? ⟨B, 0, none⟩ = some (.pointer (some e))) := by
  have hB : B < w.heap.size := cell_lt ht
  refine (as_hit e ⟨B, 0, none⟩ _ w hg ht hf).mono ?_
  rintro ev w' ⟨rfl, rfl⟩
  refine ⟨rfl, ?_, ?_⟩
  · refine Below.setCell (p := ⟨B, 0, none⟩) ?_ (Nat.le_refl B) _
    refine Below.alloc (Below.alloc (Below.alloc (Below.alloc (Below.refl _ _) (Nat.le_of_lt hB) _) ?_ _) ?_ _) ?_ _ <;> simp <;> omega
  · refine World.cell?_setCell_same _ _ _ (u := .pointer none) ?_
    rw [cell_new _ _ _ (by simp; omega), cell_new _ _ _ (by simp; omega), cell_new _ _ _ (by simp; omega), cell_new _ _ _ hB]
    exact ht
/-- told, at a fault that says 'there is none'. -/
theorem told_none (pb po : Nat) (b : Addr) (w : World) (h0 : w.cell? ⟨0, 0, none⟩ = some (.iface 144 (.pointer (some b)))) (h1 : w.cell? ⟨pb, po + 1, none⟩ = some (.int .i64 5)) :
    Calls Tryd.prog 46 #[.iface 105 (.pointer (some ⟨pb, po, none⟩))] w fun e w' => e = .returned (.int .i64 5) ∧ Below w.heap.size w w' := by
  have k0 : ∀ o, (w.alloc o).cell? ⟨0, 0, none⟩ = some (.iface 144 (.pointer (some b))) := fun o => (cell_new _ _ _ (cell_lt h0)).trans h0
  have k1 : ∀ o, (w.alloc o).cell? ⟨pb, po + 1, none⟩ = some (.int .i64 5) := fun o => (cell_new _ _ _ (cell_lt h1)).trans h1
  go_enter Tryd.func46, Tryd.ntmps46
  go_wp2_with (first
    | (go_at_call 57; refine (is_fault pb po b 5 _ ?_ ?_).mono ?_; exact k0 _; exact k1 _; rintro e w' ⟨rfl, rfl⟩))
  go_ret
  exact ⟨rfl, Below.alloc (Below.refl _ _) (Nat.le_refl _) _⟩
/-- told, at another fault. -/
theorem told_other (pb po : Nat) (b : Addr) (k : Int) (hk : k ≠ 5) (w : World) (h0 : w.cell? ⟨0, 0, none⟩ = some (.iface 144 (.pointer (some b)))) (hg : w.cell? ⟨1, 0, none⟩ = some (.iface 129 (.agg #[.pointer (some ⟨2, 88, none⟩)]))) (h1 : w.cell? ⟨pb, po + 1, none⟩ = some (.int .i64 k)) :
    Calls Tryd.prog 46 #[.iface 105 (.pointer (some ⟨pb, po, none⟩))] w fun e w' => e = .returned (.int .i64 k) ∧ Below w.heap.size w w' := by
  have k0 : ∀ o, (w.alloc o).cell? ⟨0, 0, none⟩ = some (.iface 144 (.pointer (some b))) := fun o => (cell_new _ _ _ (cell_lt h0)).trans h0
  have kg : ∀ o, (w.alloc o).cell? ⟨1, 0, none⟩ = some (.iface 129 (.agg #[.pointer (some ⟨2, 88, none⟩)])) := fun o => (cell_new _ _ _ (cell_lt hg)).trans hg
  have k1 : ∀ o, (w.alloc o).cell? ⟨pb, po + 1, none⟩ = some (.int .i64 k) := fun o => (cell_new _ _ _ (cell_lt h1)).trans h1
  have hf : decide (k = 5) = false := decide_eq_false hk
  have hlt := cell_lt h1
  go_enter Tryd.func46, Tryd.ntmps46
  go_wp2_with (first
    | (go_at_call 57; refine (is_fault pb po b k _ ?_ ?_).mono ?_; exact k0 _; exact k1 _; rw [hf]; rintro e w' ⟨rfl, rfl⟩)
    | (go_at_call 58; refine (as_fault ⟨pb, po, none⟩ w.heap.size _ ?_ ?_ ?_).mono ?_; exact kg _; simp; simp; rintro e w' ⟨rfl, hbl, hc⟩; have hp := (hbl.cell (p := ⟨pb, po + 1, none⟩) hlt).trans (k1 _)))
  go_ret
  exact ⟨rfl, (Below.alloc (Below.refl _ _) (Nat.le_refl _) _).trans hbl⟩
end Go.Proofs.YtpcjnpkpmaahiaaDoor.Dk
