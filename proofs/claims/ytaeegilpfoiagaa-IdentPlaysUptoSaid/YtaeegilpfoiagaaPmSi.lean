/- The pure machine, part Si: the library's sort of int64s, out of the shelf's contract. -/
import Derived.Test.YtaeegilpfoiagaaPmZa
import Derived.Shelf.SortG.Plain
set_option linter.unusedVariables false
set_option linter.unusedSimpArgs false
namespace Go.Proofs.Ytaeegilpfoiagaa.Pm
open Go.RowKit Go.Sort

def intsV (ss : List Int) : List Value := ss.map (Value.int .i64)
@[simp] theorem intsV_length (ss : List Int) : (intsV ss).length = ss.length := by simp [intsV]
abbrev sortZ (ss : List Int) : List Int := ss.mergeSort fun x y => decide (x ≤ y)

/-- what the shelf says of a sort. -/
def SortsI (P : Program) (f : FuncId) : Prop := ∀ (blk off cap : Nat) (ss : List Int) (w : World), Holds (Value.int .i64) w blk off ss.toArray → blk < w.heap.size → ss.length < 4611686018427387904 →
    Calls P f #[.slice (some ⟨blk, off, none⟩) ss.length cap] w fun e w' =>
      e = .returned (.tuple #[]) ∧ ∃ n os, w' = grow (putRow (Value.int .i64) (Sort.ahead w n) blk off (sortZ ss).toArray) os

theorem grown_sortedI {w : World} {n blk off : Nat} {d : Array Int} {os : Array Obj} : w.grownBy (grow (putRow (Value.int .i64) (Sort.ahead w n) blk off d) os) (some blk) := by
  refine ⟨rfl, rfl, rfl, by simp, fun k hk hne => ?_⟩
  have hne' : blk ≠ k := fun e => hne (by rw [e])
  rw [heap_grow_old _ _ (by simpa using hk)]
  simp [putRow, mapBlock, Array.getElem?_modify, hne']

theorem sortI_ok {P : Program} {f : FuncId} (hf : SortsI P f) {h : VH} {i o c : Nat} {cs : List Value} {ss : List Int} (hi : i < h.n) (hg : h.get i = .cells cs true 1) (hne : 0 < ss.length)
    (hrow : (cs.drop o).take ss.length = intsV ss) (hl : o + ss.length ≤ cs.length) (hc : ss.length ≤ c) (hsz : ss.length < 4611686018427387904) :
    PCalls P f [.slice (some ⟨i, o, none⟩) ss.length c] h (fun u h' => u = .tuple #[] ∧ h' = h.set i (.cells (wr cs o (intsV (sortZ ss))) true 1)) := by
  intro B w0 m w args' S ha
  have hlen : (sortZ ss).length = ss.length := List.length_mergeSort _
  match hargs : args'.toList, ha with
  | [x], ha =>
    have hx := ha.2 0 _ x rfl rfl
    have him : i < m.n := by rw [S.n]; exact hi
    have hob := S.obj i him
    rw [hg] at hob
    obtain ⟨h1, h2, h3, h4, h5⟩ := hob
    obtain ⟨c', e, fr, hb, hs, hfr⟩ := h5 rfl
    have hblk : (m.at_ i).blk < w.heap.size := (Array.getElem?_eq_some_iff.1 hb).1
    have cell : ∀ j, j < ss.length → w.cell? ⟨(m.at_ i).blk, (m.at_ i).base + o + j, none⟩ = some ((Value.int .i64) (ss.toArray)[j]!) := by
      intro j hj
      have hr : ((cs.drop o).take ss.length)[j]? = (intsV ss)[j]? := by rw [hrow]
      rw [List.getElem?_take, if_pos hj, List.getElem?_drop] at hr
      have hss : (intsV ss)[j]? = some (.int .i64 ss[j]) := by simp [intsV, hj]
      obtain ⟨v', hcv, hv⟩ := h4 (o + j) _ (hr.trans hss)
      rw [hv.1.int_inv] at hcv
      rw [Nat.add_assoc, hcv]
      simp [hj]
    have holds : Holds (Value.int .i64) w (m.at_ i).blk ((m.at_ i).base + o) ss.toArray := by
      intro j hj
      have hj : j < ss.length := by simpa using hj
      refine ⟨cell j hj, ?_⟩
      have := hfr.free (j := (m.at_ i).base + o + j) (by omega)
      simp only [World.frozen?, hb]
      simpa using this
    obtain ⟨cap, rfl⟩ : ∃ cap, x = .slice (some ⟨(m.at_ i).blk, (m.at_ i).base + o, none⟩) ss.length cap := by
      generalize ss.length = N at *
      cases hx with
      | sl _ _ _ _ _ => exact ⟨_, rfl⟩
      | slE a _ => omega
    have hae : args' = #[.slice (some ⟨(m.at_ i).blk, (m.at_ i).base + o, none⟩) ss.length cap] := by
      apply Array.toList_inj.1
      rw [hargs]
    rw [hae]
    refine (hf _ _ cap ss w holds hblk hsz).mono ?_
    rintro e w' ⟨rfl, n, os, rfl⟩
    refine ⟨m, .tuple #[], .tuple #[], _, rfl, ⟨rfl, rfl⟩, m.le_refl, ?_, VR.closed m rfl⟩
    refine S.upd him (by rw [hg]; rfl) _ grown_sortedI ?_
    have hwl : (wr cs o (intsV (sortZ ss))).length = cs.length := by
      unfold wr
      simp [hlen]
      omega
    refine ⟨h1, by rw [hwl]; exact h2, fun _ => by simp; omega, fun j v hj => ?_, fun _ => ?_⟩
    · by_cases hin : o ≤ j ∧ j < o + ss.length
      · obtain ⟨k, rfl⟩ : ∃ k, j = o + k := ⟨j - o, by omega⟩
        have hk : k < ss.length := by omega
        have hv : v = .int .i64 ((sortZ ss)[k]'(by omega)) := by
          unfold wr at hj
          rw [List.append_assoc, List.getElem?_append_right (by simp; omega), List.length_take, Nat.min_eq_left (by omega), show o + k - o = k by omega, List.getElem?_append_left (by simp [hlen]; exact hk)] at hj
          rw [show (intsV (sortZ ss))[k]? = some (.int .i64 ((sortZ ss)[k]'(by omega))) by simp [intsV, hlen, hk]] at hj
          injection hj with hj
          exact hj.symm
        subst hv
        refine ⟨_, ?_, VR.int _ _, rfl⟩
        rw [cell?_grow _ _ _ (by simpa using hblk)]
        have := cell?_putRow (Value.int .i64) (Sort.ahead w n) (m.at_ i).blk ((m.at_ i).base + o) ss.toArray (sortZ ss).toArray (holds_ahead _ _ _ _ _ _ holds) (by simp [hlen]) k (by simp [hlen]; exact hk)
        rw [Nat.add_assoc] at this
        rw [this]
        simp [hlen, hk]
      · have hjc : cs[j]? = some v := by
          unfold wr at hj
          by_cases hlo : j < o
          · rwa [List.append_assoc, List.getElem?_append_left (by simp; omega), List.getElem?_take, if_pos hlo] at hj
          · have hjl : j < cs.length := by
              have := (List.getElem?_eq_some_iff.1 hj).1
              simp [hlen] at this
              omega
            rwa [List.getElem?_append_right (by simp [hlen]; omega), List.getElem?_drop, show o + (intsV (sortZ ss)).length + (j - (List.take o cs ++ intsV (sortZ ss)).length) = j by simp [hlen]; omega] at hj
        obtain ⟨v', hcv, hv⟩ := h4 j v hjc
        refine ⟨v', ?_, hv⟩
        rw [cell?_grow _ _ _ (by simpa using hblk), cell?_putRow_other _ _ _ _ _ _ (.inr (by simp [hlen]; omega)), cell?_ahead]
        exact hcv
    · refine ⟨putCells (Value.int .i64) ((m.at_ i).base + o) (sortZ ss).toArray c', e, fr, ?_, by simp [putCells]; exact hs, hfr⟩
      rw [heap_grow_old _ _ (by simpa using hblk)]
      simp [putRow, mapBlock, Array.getElem?_modify, hb, onCells]
  | [], ha => exact absurd ha.1 (by simp)
  | _ :: _ :: _, ha => exact absurd ha.1 (by simp)
end Go.Proofs.Ytaeegilpfoiagaa.Pm
