/- The pure machine, part D: each instruction's meaning holds of the model's operation. -/
import Derived.Test.YtdnkpgbggpbgaaaPmC
import Derived.Laws.Cells
import Derived.Laws.Slices
set_option linter.unusedVariables false
set_option linter.unusedSimpArgs false
namespace Go.Proofs.Ytdnkpgbggpbgaaa.Pm
open Go.RowKit

def nxv : Next → Option Value
  | .value v => some v
  | .skip => some undef
  | _ => none

def StepOK (P : Program) (N : Nat) (o : Oper) (i : I) : Prop :=
  ∀ (B : Nat) (w0 : World) (m : Mp) (h : VH) (w : World) (s : Slots) (a : Act) (v : Value) (h' : VH), Sim B w0 m h w → SR N m s a.tmps → pstep i s h = some (v, h') →
    ∃ m' nx v' w', (execOp a.eval o).run P w = .ok nx w' ∧ nxv nx = some v' ∧ m.le m' ∧ Sim B w0 m' h' w' ∧ VR m' v v'

/-- the blocks of w are as they were. -/
def Same (w w1 : World) : Prop := ∀ b, b < w.heap.size → w1.heap[b]? = w.heap[b]?
theorem Same.refl (w : World) : Same w w := fun _ _ => rfl
theorem Same.cell {w w1 : World} (h : Same w w1) {ad : Addr} {v : Value} (hc : w.cell? ad = some v) : w1.cell? ad = some v := by
  rw [World.cell?_of_block (w := w) (h _ (World.block_lt_of_cell? w ad hc))]
  exact hc

/-- nothing of memory turns; in whatever world has the same blocks it is so. -/
def ReadOK (P : Program) (N : Nat) (o : Oper) (i : I) : Prop :=
  ∀ (B : Nat) (w0 : World) (m : Mp) (h : VH) (w : World) (s : Slots) (a : Act) (v : Value) (h' : VH), Sim B w0 m h w → SR N m s a.tmps → pstep i s h = some (v, h') →
    h' = h ∧ ∃ v', VR m v v' ∧ ∀ w1, Same w w1 → (execOp a.eval o).run P w1 = .ok (.value v') w1
theorem ReadOK.step {P : Program} {N : Nat} {o : Oper} {i : I} (hr : ReadOK P N o i) : StepOK P N o i := by
  intro B w0 m h w s a v h' S hs hp
  obtain ⟨rfl, v', hv, hrun⟩ := hr B w0 m h w s a v h' S hs hp
  exact ⟨m, _, v', w, hrun w (Same.refl w), rfl, m.le_refl, S, hv⟩
theorem plain_ok {P : Program} {o : Oper} {a : Act} {B : Nat} {w0 : World} {m : Mp} {h : VH} {w : World} {v v' : Value} (S : Sim B w0 m h w) (hr : ∀ w1, Same w w1 → (execOp a.eval o).run P w1 = .ok (.value v') w1) (hv : VR m v v') :
    h = h ∧ ∃ v', VR m v v' ∧ ∀ w1, Same w w1 → (execOp a.eval o).run P w1 = .ok (.value v') w1 :=
  ⟨rfl, v', hv, hr⟩

def VRL (m : Mp) (xs ys : List Value) : Prop := xs.length = ys.length ∧ ∀ (j : Nat) (x y : Value), xs[j]? = some x → ys[j]? = some y → VR m x y

theorem list_choose {Q : Nat → Value → Value → Prop} : ∀ (cs : List Value) (k : Nat), (∀ j v, cs[j]? = some v → ∃ v', Q (k + j) v v') → ∃ ys : List Value, ys.length = cs.length ∧ ∀ j v, cs[j]? = some v → ∃ v', ys[j]? = some v' ∧ Q (k + j) v v'
  | [], _, _ => ⟨[], rfl, fun j v h => by simp at h⟩
  | c :: cs, k, h => by
    obtain ⟨c', hc⟩ := h 0 c rfl
    obtain ⟨ys, hl, hy⟩ := list_choose cs (k + 1) (fun j v hj => by
      have := h (j + 1) v (by simpa using hj)
      rwa [show k + (j + 1) = k + 1 + j by omega] at this)
    refine ⟨c' :: ys, by simp [hl], fun j v hj => ?_⟩
    cases j with
    | zero => simp at hj; subst hj; exact ⟨c', rfl, hc⟩
    | succ j =>
      simp at hj
      obtain ⟨v', h1, h2⟩ := hy j v hj
      exact ⟨v', by simpa using h1, by rwa [show k + 1 + j = k + (j + 1) by omega] at h2⟩

theorem cell_of {B : Nat} {w0 : World} {m : Mp} {h : VH} {w : World} (S : Sim B w0 m h w) {i : Nat} (hi : i < m.n) {cs : List Value} {own : Bool} {esz : Nat} (hg : h.get i = .cells cs own esz) {o : Nat} {v : Value} (hv : cs[o]? = some v) :
    ∃ v', w.cell? ⟨(m.at_ i).blk, (m.at_ i).base + o, none⟩ = some v' ∧ VR m v v' := by
  have := S.obj i hi
  rw [hg] at this
  obtain ⟨v', h1, h2⟩ := this.2.2.2.1 o v hv
  exact ⟨v', h1, h2.1⟩

theorem cellC_of {B : Nat} {w0 : World} {m : Mp} {h : VH} {w : World} (S : Sim B w0 m h w) {i : Nat} (hi : i < m.n) {cs : List Value} {own : Bool} {esz : Nat} (hg : h.get i = .cells cs own esz) : cs.all Value.oneCell' = true := by
  have := S.obj i hi
  rw [hg] at this
  refine List.all_eq_true.2 fun x hx => ?_
  obtain ⟨j, hj, rfl⟩ := List.mem_iff_getElem.1 hx
  obtain ⟨v', _, h2⟩ := this.2.2.2.1 j _ (List.getElem?_eq_getElem hj)
  exact h2.2

theorem row_of {B : Nat} {w0 : World} {m : Mp} {h : VH} {w : World} (S : Sim B w0 m h w) {i : Nat} (hi : i < m.n) {cs : List Value} {own : Bool} {esz : Nat} (hg : h.get i = .cells cs own esz) {o n : Nat} (hn : o + n ≤ cs.length) :
    ∃ ys : List Value, ys.length = n ∧ (∀ j y, ys[j]? = some y → w.cell? ⟨(m.at_ i).blk, (m.at_ i).base + o + j, none⟩ = some y) ∧ VRL m ((cs.drop o).take n) ys := by
  have hlen : ((cs.drop o).take n).length = n := by simp; omega
  obtain ⟨ys, hl, hy⟩ := list_choose (Q := fun j v v' => w.cell? ⟨(m.at_ i).blk, (m.at_ i).base + o + j, none⟩ = some v' ∧ VR m v v') ((cs.drop o).take n) 0 (fun j v hj => by
    have hj' : cs[o + j]? = some v := by
      rw [List.getElem?_take] at hj
      split at hj
      · rwa [List.getElem?_drop] at hj
      · cases hj
    obtain ⟨v', h1, h2⟩ := cell_of S hi hg hj'
    exact ⟨v', by rw [Nat.zero_add, Nat.add_assoc]; exact h1, h2⟩)
  refine ⟨ys, by rw [hl, hlen], fun j y hj => ?_, by rw [hl], fun j x y hx hy' => ?_⟩
  · have hjl : j < ((cs.drop o).take n).length := by
      have := (List.getElem?_eq_some_iff.1 hj).1
      omega
    obtain ⟨v', h1, h2, _⟩ := hy j _ (List.getElem?_eq_getElem hjl)
    rw [hj] at h1
    injection h1 with h1
    subst h1
    rwa [Nat.zero_add] at h2
  · obtain ⟨v', h1, _, h3⟩ := hy j x hx
    rw [hy'] at h1
    injection h1 with h1
    subst h1
    exact h3

theorem addr_add (b o n : Nat) : Addr.add ⟨b, o, none⟩ n = ⟨b, o + n, none⟩ := Addr.add_lit b o n

theorem VRL.agg {m : Mp} {xs ys : List Value} (h : VRL m xs ys) : VR m (.agg xs.toArray) (.agg ys.toArray) := by
  refine .agg _ _ (by simpa using h.1) (fun j hj hj' => ?_)
  have h1 : j < xs.length := by simpa using hj
  have h2 : j < ys.length := by simpa using hj'
  simpa using h.2 j _ _ (List.getElem?_eq_getElem h1) (List.getElem?_eq_getElem h2)

theorem VRL.mono {m m' : Mp} (hm : m.le m') {xs ys : List Value} (h : VRL m xs ys) : VRL m' xs ys := ⟨h.1, fun j x y hx hy => (h.2 j x y hx hy).mono hm⟩
theorem VRL.one {m : Mp} {v v' : Value} (h : VR m v v') : VRL m [v] [v'] := ⟨rfl, fun j x y hx hy => by
  cases j with
  | zero => simp at hx hy; subst hx hy; exact h
  | succ j => simp at hx⟩

theorem VR.cells {m : Mp} {v v' : Value} (h : VR m v v') : VRL m (cellsL v) (cellsL v') := by
  have h0 := h
  cases h <;> try exact VRL.one h0
  case agg a a' ha h1 =>
    refine ⟨by simpa [cellsL, Value.cells] using ha, fun j x y hx hy => ?_⟩
    simp only [cellsL, Value.cells, Array.getElem?_toList] at hx hy
    obtain ⟨hx1, rfl⟩ := Array.getElem?_eq_some_iff.1 hx
    obtain ⟨hy1, rfl⟩ := Array.getElem?_eq_some_iff.1 hy
    exact h1 j hx1 hy1


theorem oneCell_VR {m : Mp} {v v' : Value} (h : VR m v v') : v'.oneCell' = v.oneCell' := by cases h <;> rfl

/-! ### stores -/
theorem run_storeCells_own {P : Program} {blk : Nat} {e : TypeId} {fr : Nat × Nat} : ∀ (xs : List Value) (w : World) (c' : Array Value) (o k : Nat),
    w.heap[blk]? = some (.cells c' e fr) → (∀ x ∈ xs, x.oneCell' = true) → o + k + xs.length ≤ c'.size → (∀ j, j < xs.length → ¬ (fr.1 ≤ o + k + j ∧ o + k + j < fr.2)) →
    ∃ w' c'', (storeCells ⟨blk, o, none⟩ xs k).run P w = .ok () w' ∧ w.grownBy w' (some blk) ∧ w'.heap.size = w.heap.size ∧ w'.heap[blk]? = some (.cells c'' e fr) ∧ c''.size = c'.size ∧
      (∀ j, o + k ≤ j → j < o + k + xs.length → c''[j]? = xs[j - (o + k)]?) ∧ (∀ j, ¬ (o + k ≤ j ∧ j < o + k + xs.length) → c''[j]? = c'[j]?)
  | [], w, c', o, k, hb, _, _, _ => ⟨w, c', rfl, ⟨rfl, rfl, rfl, Nat.le_refl _, fun _ _ _ => rfl⟩, rfl, hb, rfl, fun j h1 h2 => by simp at h2; omega, fun _ _ => rfl⟩
  | x :: xs, w, c', o, k, hb, h1, hsz, hfr => by
    simp only [List.length_cons] at hsz hfr
    have hx := h1 x (List.mem_cons_self ..)
    have hlt : o + k < c'.size := by omega
    have hcell : w.cell? ⟨blk, o + k, none⟩ = some c'[o + k] := by simp [World.cell?, hb, hlt]
    have hfz : w.frozen? ⟨blk, o + k, none⟩ = false := by
      have := hfr 0 (by omega)
      simp only [Nat.add_zero] at this
      simp only [World.frozen?, hb]
      simp only [Bool.and_eq_false_iff, decide_eq_false_iff_not]
      by_cases h : fr.1 ≤ o + k
      · right; intro h'; exact this ⟨h, h'⟩
      · left; exact h
    have hrun : (store ((⟨blk, o, none⟩ : Addr).add k) x).run P w = .ok () (w.setCell ⟨blk, o + k, none⟩ x) := by
      rw [addr_add, run_store P w _ x .plain hx, hcell]
      simp [hfz]
    have hb1 : (w.setCell ⟨blk, o + k, none⟩ x).heap[blk]? = some (.cells (c'.setIfInBounds (o + k) x) e fr) := by
      simp [World.setCell, Array.getElem?_modify, hb]
    obtain ⟨w', c'', hr, hg, hs, hb2, hsz2, hin, hout⟩ := run_storeCells_own xs (w.setCell ⟨blk, o + k, none⟩ x) (c'.setIfInBounds (o + k) x) o (k + 1) hb1 (fun y hy => h1 y (List.mem_cons_of_mem _ hy)) (by simp; omega)
      (fun j hj => by have := hfr (j + 1) (by omega); rwa [show o + (k + 1) + j = o + k + (j + 1) by omega])
    refine ⟨w', c'', ?_, ?_, by rw [hs]; simp, hb2, by rw [hsz2]; simp, ?_, ?_⟩
    · simp only [storeCells, Sem.run_bind, hrun, Result.andThen_ok]
      exact hr
    · refine ⟨hg.os, hg.tape, hg.output, by have := hg.size; simpa using this, fun j hj hne => ?_⟩
      rw [hg.block j (by simpa using hj) hne]
      have hne' : j ≠ blk := fun e => hne (by rw [e])
      simp only [World.setCell, Array.getElem?_modify]
      rw [if_neg (fun e => hne' e.symm)]
    · intro j hj1 hj2
      by_cases hj : j = o + k
      · subst hj
        rw [hout _ (by omega)]
        simp [hlt]
      · rw [hin j (by omega) (by simp only [List.length_cons] at hj2; omega)]
        rw [show j - (o + k) = (j - (o + (k + 1))) + 1 by omega]
        simp
    · intro j hj
      simp only [List.length_cons] at hj
      rw [hout j (by omega), Array.getElem?_setIfInBounds]
      rw [if_neg (by omega)]

theorem wr_length {cs xs : List Value} {o : Nat} (h : o + xs.length ≤ cs.length) : (wr cs o xs).length = cs.length := by
  simp [wr]; omega
theorem wr_get {cs xs : List Value} {o : Nat} (h : o + xs.length ≤ cs.length) (j : Nat) : (wr cs o xs)[j]? = if o ≤ j ∧ j < o + xs.length then xs[j - o]? else cs[j]? := by
  unfold wr
  by_cases h1 : j < o
  · rw [if_neg (by omega), List.append_assoc, List.getElem?_append_left (by simp; omega), List.getElem?_take, if_pos h1]
  · by_cases h2 : j < o + xs.length
    · rw [if_pos ⟨by omega, h2⟩, List.getElem?_append_left (by simp; omega), List.getElem?_append_right (by simp; omega)]
      congr 1
      simp
      omega
    · rw [if_neg (by omega), List.getElem?_append_right (by simp; omega), List.getElem?_drop]
      congr 1
      simp
      omega

/-- a store into an owned row: the run, and what is so behind it. -/
theorem store_own {P : Program} {B : Nat} {w0 : World} {m : Mp} {h : VH} {w : World} (S : Sim B w0 m h w) {i : Nat} (hi : i < m.n) {cs : List Value} {esz : Nat} (hg : h.get i = .cells cs true esz) {o : Nat} {xs ys : List Value}
    (hxy : VRL m xs ys) (hfit : o + xs.length ≤ cs.length) (h1 : xs.all Value.oneCell' = true) :
    ∃ w', (storeCells ⟨(m.at_ i).blk, (m.at_ i).base + o, none⟩ ys).run P w = .ok () w' ∧ Sim B w0 m (h.set i (.cells (wr cs o xs) true esz)) w' := by
  have ho := S.obj i hi
  rw [hg] at ho
  obtain ⟨he, hlim, hlt, hcells, hown⟩ := ho
  obtain ⟨c', e, fr, hb, hsz, hfr⟩ := hown rfl
  have hone : ∀ y ∈ ys, y.oneCell' = true := by
    intro y hy
    obtain ⟨j, hj, rfl⟩ := List.mem_iff_getElem.1 hy
    have hjx : j < xs.length := by rw [hxy.1]; exact hj
    rw [oneCell_VR (hxy.2 j _ _ (List.getElem?_eq_getElem hjx) (List.getElem?_eq_getElem hj))]
    exact List.all_eq_true.1 h1 _ (List.getElem_mem hjx)
  have hl := hxy.1
  obtain ⟨w', c'', hr, hgr, hs, hb', hsz', hin, hout⟩ := run_storeCells_own (P := P) ys w c' ((m.at_ i).base + o) 0 hb hone (by omega) (fun j hj => by
    exact hfr.free (by omega))
  simp only [Nat.add_zero] at hin hout
  refine ⟨w', hr, S.upd hi (by rw [hg]; rfl) _ hgr ?_⟩
  refine ⟨he, by rw [wr_length hfit]; exact hlim, by rw [hs]; exact hlt, fun j v hj => ?_, fun _ => ⟨c'', e, fr, hb', by rw [hsz']; exact hsz, hfr⟩⟩
  rw [wr_get hfit] at hj
  have hcell : w'.cell? ⟨(m.at_ i).blk, (m.at_ i).base + j, none⟩ = c''[(m.at_ i).base + j]? := by simp [World.cell?, hb']
  rw [hcell]
  split at hj
  · rename_i hjr
    have hjx : j - o < xs.length := by omega
    have hjy : j - o < ys.length := by omega
    rw [hin _ (by omega) (by omega)]
    rw [show (m.at_ i).base + j - ((m.at_ i).base + o) = j - o by omega]
    exact ⟨ys[j - o], List.getElem?_eq_getElem hjy, hxy.2 _ _ _ hj (List.getElem?_eq_getElem hjy), List.all_eq_true.1 h1 _ (List.mem_of_getElem? hj)⟩
  · rename_i hjr
    rw [hout _ (by omega)]
    obtain ⟨v', h2, h3⟩ := hcells j v hj
    have h2' : c'[(m.at_ i).base + j]? = some v' := by simpa [World.cell?, hb] using h2
    exact ⟨v', h2', h3⟩

end Go.Proofs.Ytdnkpgbggpbgaaa.Pm
