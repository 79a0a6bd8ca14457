/- The pure machine, part Y: tools for walks: loops that count, cuts, rows that are told by a function, parts of bytes. -/
import Derived.Test.YtdnkpgbggpbgaaaPmR
set_option linter.unusedVariables false
set_option linter.unusedSimpArgs false
namespace Go.Proofs.Ytdnkpgbggpbgaaa.Pm
open Go.RowKit

def kLoopN (J : Nat → Slots → VH → Prop) (N n : Nat) (Q : Exit → Slots → VH → Prop) : Exit → Slots → VH → Prop := fun e s' h' => match e with
  | .normal => n < N ∧ J (n + 1) s' h'
  | e => Q e s' h'
section
variable {P : Program} {s : Slots} {h : VH} {Q : Exit → Slots → VH → Prop} {J : Nat → Slots → VH → Prop} {N n : Nat}
theorem kLoopN_normal : kLoopN J N n Q .normal s h = (n < N ∧ J (n + 1) s h) := Eq.trans rfl rfl
theorem kLoopN_ret : kLoopN J N n Q .ret s h = Q .ret s h := Eq.trans rfl rfl
theorem kLoopN_exit {i : Nat} : kLoopN J N n Q (.exit i) s h = Q (.exit i) s h := Eq.trans rfl rfl
theorem kLoopN_goto {i : Nat} : kLoopN J N n Q (.goto i) s h = Q (.goto i) s h := Eq.trans rfl rfl
theorem pw_mono {P : Program} {pc : PC} {s : Slots} {h : VH} : ∀ {Q Q' : Exit → Slots → VH → Prop}, (∀ e s h, Q e s h → Q' e s h) → pw P pc s h Q → pw P pc s h Q' := by
  induction pc generalizing s h with
  | skip => intro Q Q' hq hp; exact hq _ _ _ hp
  | ops l =>
    intro Q Q' hq hp
    have key : ∀ (l : List GI) (s : Slots) (h : VH), pwOps P l s h (Q .normal) → pwOps P l s h (Q' .normal) := by
      intro l
      induction l with
      | nil => intro s h hp; exact hq _ _ _ hp
      | cons g r ih =>
        intro s h hp
        simp only [pwOps] at hp ⊢
        split at hp
        · rename_i hw
          rw [if_pos hw]
          split at hp
          · exact hp.mono fun v h' hk => ih _ _ hk
          · split at hp
            · exact ⟨hp.1, hp.2.mono fun v h' hk => ih _ _ hk⟩
            · exact hp.mono fun v h' hk => ih _ _ hk
            · exact hp.elim
          · split at hp
            · exact fun q hq' => ih _ _ (hp q hq')
            · exact hp.elim
          · split at hp
            · exact ih _ _ hp
            · exact hp.elim
        · rename_i hw
          rw [if_neg hw]
          exact ih _ _ hp
    exact key l s h hp
  | quiet l =>
    intro Q Q' hq hp
    have key : ∀ (l : List GI) (s : Slots), pwQ P l s h (fun s' => Q .normal s' h) → pwQ P l s h (fun s' => Q' .normal s' h) := by
      intro l
      induction l with
      | nil => intro s hp; exact hq _ _ _ hp
      | cons g r ih =>
        intro s hp
        simp only [pwQ] at hp ⊢
        split at hp
        · rename_i hw
          rw [if_pos hw]
          split at hp
          · obtain ⟨v, h1, h2, h3⟩ := hp
            exact ⟨v, h1, h2, ih _ h3⟩
          · split at hp
            · rename_i hr
              rw [if_pos hr]
              split at hp
              · exact ih _ hp
              · exact hp.elim
            · exact hp.elim
        · rename_i hw
          rw [if_neg hw]
          exact ih _ hp
    exact key l s hp
  | draw l =>
    intro Q Q' hq hp
    have one : ∀ (g : GI) (s : Slots) (h : VH) (K K' : Slots → VH → Prop), (∀ s h, K s h → K' s h) → pwOps P [g] s h K → pwOps P [g] s h K' := by
      intro g s h K K' hk hp
      simp only [pwOps] at hp ⊢
      split at hp
      · rename_i hw
        rw [if_pos hw]
        split at hp
        · exact hp.mono fun v h' => hk _ _
        · split at hp
          · exact ⟨hp.1, hp.2.mono fun v h' => hk _ _⟩
          · exact hp.mono fun v h' => hk _ _
          · exact hp.elim
        · split at hp
          · exact fun q hq' => hk _ _ (hp q hq')
          · exact hp.elim
        · split at hp
          · exact hk _ _ hp
          · exact hp.elim
      · rename_i hw
        rw [if_neg hw]
        exact hk _ _ hp
    have key : ∀ (l : List DI) (s : Slots) (h : VH), pwD P l s h (Q .normal) → pwD P l s h (Q' .normal) := by
      intro l
      induction l with
      | nil => intro s h hp; exact hq _ _ _ hp
      | cons d r ih =>
        intro s h hp
        simp only [pwD] at hp ⊢
        exact one _ _ _ _ _ (fun s h hk => ⟨hk.1, ih _ _ hk.2⟩) hp
    exact key l s h hp
  | drawT t =>
    intro Q Q' hq hp
    have one : ∀ (g : GI) (s : Slots) (h : VH) (K K' : Slots → VH → Prop), (∀ s h, K s h → K' s h) → pwOps P [g] s h K → pwOps P [g] s h K' := by
      intro g s h K K' hk hp
      simp only [pwOps] at hp ⊢
      split at hp
      · rename_i hw
        rw [if_pos hw]
        split at hp
        · exact hp.mono fun v h' => hk _ _
        · split at hp
          · exact ⟨hp.1, hp.2.mono fun v h' => hk _ _⟩
          · exact hp.mono fun v h' => hk _ _
          · exact hp.elim
        · split at hp
          · exact fun q hq' => hk _ _ (hp q hq')
          · exact hp.elim
        · split at hp
          · exact hk _ _ hp
          · exact hp.elim
      · rename_i hw
        rw [if_neg hw]
        exact hk _ _ hp
    have key : ∀ (l : DT) (s : Slots) (h : VH), pwT P l s h (Q .normal) → pwT P l s h (Q' .normal) := by
      intro l
      induction l with
      | nil => intro s h hp; exact hq _ _ _ hp
      | step d r ih =>
        intro s h hp
        simp only [pwT] at hp ⊢
        exact one _ _ _ _ _ (fun s h hk => ⟨hk.1, ih _ _ hk.2⟩) hp
      | alt a b iha ihb =>
        intro s h hp
        exact ⟨iha s h hp.1, ihb s h hp.2⟩
    exact key t s h hp
  | seq a b iha ihb =>
    intro Q Q' hq hp
    refine iha ?_ hp
    intro e s' h' hk
    cases e <;> first
      | exact ihb hq hk
      | exact hq _ _ _ hk
  | cond c a b iha ihb =>
    intro Q Q' hq hp
    simp only [pw] at hp ⊢
    split at hp
    · exact ⟨fun ht => iha hq (hp.1 ht), fun ht => ihb hq (hp.2 ht)⟩
    · exact hp.elim
  | block id b ih =>
    intro Q Q' hq hp
    refine ih ?_ hp
    intro e s' h' hk
    cases e with
    | exit i =>
      simp only at hk ⊢
      split at hk
      · rename_i hi; rw [if_pos hi]; exact hq _ _ _ hk
      · rename_i hi; rw [if_neg hi]; exact hq _ _ _ hk
    | _ => exact hq _ _ _ hk
  | loop b ih =>
    intro Q Q' hq hp
    obtain ⟨J, n, h0, hr⟩ := hp
    refine ⟨J, n, h0, fun n s h hj => ih ?_ (hr n s h hj)⟩
    intro e s' h' hk
    cases e <;> first
      | exact hk
      | exact hq _ _ _ hk
  | exit id => intro Q Q' hq hp; exact hq _ _ _ hp
  | ret => intro Q Q' hq hp; exact hq _ _ _ hp
  | label l => intro Q Q' hq hp; exact hq _ _ _ hp
  | goto l => intro Q Q' hq hp; exact hq _ _ _ hp
  | scope b ih =>
    intro Q Q' hq hp
    refine ih ?_ hp
    intro e s' h' hk
    cases e <;> first
      | exact hk
      | exact hq _ _ _ hk
  | scopeL b l t ih iht =>
    intro Q Q' hq hp
    refine ih ?_ hp
    intro e s' h' hk
    cases e with
    | goto l' =>
      refine ⟨hk.1, iht ?_ hk.2⟩
      intro e s' h' hk
      cases e <;> first
        | exact hk
        | exact hq _ _ _ hk
    | _ => exact hq _ _ _ hk
  | rangeF fr ps a b iha ihb =>
    intro Q Q' hq hp
    obtain ⟨g, first, cap, h1, h2, h3⟩ := hp
    refine ⟨g, first, cap, h1, h2, fun L hs hps hr => (h3 L hs hps hr).mono ?_⟩
    rintro v h' ⟨st, pe, k1, k2, k3⟩
    refine ⟨st, pe, k1, k2, ?_⟩
    cases pe with
    | none => exact hq _ _ _ k3
    | some j => cases j <;> first | exact hq _ _ _ k3 | exact k3

/-- a loop whose rounds are counted up to N. -/
theorem pw_loopN {b : PC} (J : Nat → Slots → VH → Prop) (N : Nat) (h0 : J 0 s h) (hr : ∀ n s h, n ≤ N → J n s h → pw P b s h (kLoopN J N n Q)) : pw P (.loop b) s h Q := by
  refine pw_loop (fun k s h => ∃ n, n ≤ N ∧ k = N - n ∧ J n s h) N ⟨0, Nat.zero_le _, rfl, h0⟩ ?_
  rintro k s h ⟨n, hn, rfl, hj⟩
  refine pw_mono ?_ (hr n s h hn hj)
  intro e s' h' hk
  cases e with
  | normal =>
    obtain ⟨h1, h2⟩ := hk
    exact ⟨N - (n + 1), by omega, n + 1, h1, rfl, h2⟩
  | _ => exact hk
/-- what follows is told only what R says. -/
theorem kSeq_cut {b : PC} {s : Slots} {h : VH} (R : Slots → VH → Prop) (h1 : R s h) (h2 : ∀ s h, R s h → pw P b s h Q) : kSeq P b Q .normal s h := h2 s h h1
end

/-! ### conditions that a discharger settles -/
section
variable {P : Program} {r : List GI} {s : Slots} {h : VH} {d : Option Nat} {K : Slots → VH → Prop} {KQ : Slots → Prop}
theorem kStep_if {c : Prop} [Decidable c] {x : Option (Value × VH)} (hc : c) : kStep P r s d K (if c then x else none) = kStep P r s d K x := by rw [if_pos hc]
theorem kStep_ifn {c : Prop} [Decidable c] {x y : Option (Value × VH)} (hc : ¬ c) : kStep P r s d K (if c then x else y) = kStep P r s d K y := by rw [if_neg hc]
theorem kStep_dif {c : Prop} [Decidable c] {x : c → Option (Value × VH)} (hc : c) : kStep P r s d K (if hc : c then x hc else none) = kStep P r s d K (x hc) := by rw [dif_pos hc]
theorem kQ_if {c : Prop} [Decidable c] {x : Option (Value × VH)} (hc : c) : kQ P r s h d KQ (if c then x else none) = kQ P r s h d KQ x := by rw [if_pos hc]
theorem kQ_ifn {c : Prop} [Decidable c] {x y : Option (Value × VH)} (hc : ¬ c) : kQ P r s h d KQ (if c then x else y) = kQ P r s h d KQ y := by rw [if_neg hc]
theorem kQ_dif {c : Prop} [Decidable c] {x : c → Option (Value × VH)} (hc : c) : kQ P r s h d KQ (if hc : c then x hc else none) = kQ P r s h d KQ (x hc) := by rw [dif_pos hc]
theorem kEv_if {c : Prop} [Decidable c] {x : Option (Value × VH)} (hc : c) : kEv s d (if c then x else none) = kEv s d x := by rw [if_pos hc]
end
theorem oneC_int {k : IntKind} {n : Int} : (Value.int k n).oneCell' = true := rfl
theorem oneC_bool {b : Bool} : (Value.bool b).oneCell' = true := rfl
theorem oneC_string {b : ByteArray} : (Value.string b).oneCell' = true := rfl
theorem oneC_slice {a : Option Addr} {n c : Nat} : (Value.slice a n c).oneCell' = true := rfl
theorem oneC_pointer {a : Option Addr} : (Value.pointer a).oneCell' = true := rfl
theorem oneC_map {a : Option Nat} : (Value.map a).oneCell' = true := rfl
theorem bound_none {lim d : Nat} : bound none lim d = some d := rfl
theorem bound_some {k : IntKind} {j : Int} {lim d : Nat} (h : 0 ≤ j ∧ j ≤ lim) : bound (some (.int k j)) lim d = some j.toNat := by simp only [bound]; rw [if_pos h]
theorem toNat_add' {a b : Int} (ha : 0 ≤ a) (hb : 0 ≤ b) : (a + b).toNat = a.toNat + b.toNat := by omega
theorem toNat_sub' {a b : Int} (hb : 0 ≤ b) (h : b ≤ a) : (a - b).toNat = a.toNat - b.toNat := by omega
theorem toNat_mul' {a b : Int} (ha : 0 ≤ a) (hb : 0 ≤ b) : (a * b).toNat = a.toNat * b.toNat := Int.toNat_mul ha hb
theorem i64_small {n : Int} (h : -9223372036854775808 ≤ n) (h2 : n < 9223372036854775808) : IntKind.i64.wrap n = n := by
  rw [IntKind.wrap_i64]; omega
theorem u64_small {n : Int} (h : 0 ≤ n) (h2 : n < 18446744073709551616) : IntKind.u64.wrap n = n := by
  obtain ⟨k, rfl⟩ := Int.eq_ofNat_of_zero_le h
  rw [wrapN_u64, Nat.mod_eq_of_lt (by omega)]

/-! ### rows told by a function -/
def tab (N : Nat) (f : Nat → Value) : List Value := (List.range N).map f
@[simp] theorem tab_length (N : Nat) (f : Nat → Value) : (tab N f).length = N := by simp [tab]
theorem tab_get (N : Nat) (f : Nat → Value) (i : Nat) : (tab N f)[i]? = if i < N then some (f i) else none := by
  unfold tab
  rw [List.getElem?_map]
  split
  · rename_i h; rw [List.getElem?_range h]; rfl
  · rename_i h; rw [List.getElem?_eq_none (by simpa using h)]; rfl
theorem tab_at {N : Nat} {f : Nat → Value} {i : Nat} (h : i < N) : (tab N f)[i]? = some (f i) := by rw [tab_get, if_pos h]
theorem tab_set {N : Nat} {f : Nat → Value} {i : Nat} {v : Value} : (tab N f).set i v = tab N (fun j => if j = i then v else f j) := by
  apply List.ext_getElem?
  intro j
  rw [List.getElem?_set, tab_get, tab_get, tab_length]
  by_cases hj : i = j
  · subst hj; simp
  · have : ¬ j = i := fun e => hj e.symm
    simp [hj, this]
theorem tab_wr {N : Nat} {f : Nat → Value} {i : Nat} {v : Value} (h : i < N) : wr (tab N f) i [v] = tab N (fun j => if j = i then v else f j) := by
  rw [wr_one (by simpa using h), tab_set]
theorem tab_congr {N : Nat} {f g : Nat → Value} (h : ∀ i, i < N → f i = g i) : tab N f = tab N g := List.map_congr_left fun i hi => h i (by simpa using hi)
theorem tab_all {N : Nat} {f : Nat → Value} {p : Value → Bool} (h : ∀ i, i < N → p (f i) = true) : (tab N f).all p = true := by
  simp only [tab, List.all_map, List.all_eq_true, List.mem_range]
  exact h

@[simp] theorem VH.set_set (h : VH) (i : Nat) (a b : VObj) : (h.set i a).set i b = h.set i b := by
  unfold VH.set
  congr 1
  funext j
  simp only
  split <;> rfl
theorem VH.set_self {h : VH} {i : Nat} {a : VObj} (hg : h.get i = a) : h.set i a = h := by
  cases h with
  | mk n get =>
    unfold VH.set
    congr 1
    funext j
    simp only
    split
    · rename_i hj; subst hj; exact hg.symm
    · rfl

/-! ### what is done to an object -/
def loadObj (ob : VObj) (o : Nat) (n : Option Nat) : Option Value :=
  match ob with
  | .cells cs _ _ =>
    match n with
    | none => cs[o]?
    | some n => if o + n ≤ cs.length then some (.agg ((cs.drop o).take n).toArray) else none
  | _ => none
theorem loadAt_obj {h : VH} {i o : Nat} {n : Option Nat} : loadAt h i o n = loadObj (h.get i) o n := by
  unfold loadAt loadObj
  cases h.get i <;> rfl
def storeObj (ob : VObj) (o n : Nat) (x : Value) : Option VObj :=
  match ob with
  | .cells cs true esz => if (cellsL x).length = n ∧ o + n ≤ cs.length ∧ (cellsL x).all Value.oneCell' then some (.cells (wr cs o (cellsL x)) true esz) else none
  | _ => none
theorem storeAt_obj {h : VH} {i o n : Nat} {x : Value} : storeAt h i o n x = (storeObj (h.get i) o n x).map (h.set i ·) := by
  unfold storeAt storeObj
  cases h.get i with
  | cells cs ow e =>
    cases ow with
    | false => rfl
    | true => simp only; split <;> rfl
  | _ => rfl
def rowObj (ob : VObj) (o n : Nat) : Option (List Value) :=
  match ob with
  | .cells cs _ _ => if o + n ≤ cs.length then some ((cs.drop o).take n) else none
  | _ => none
theorem rowOf_obj {h : VH} {i o n : Nat} : rowOf h i o n = rowObj (h.get i) o n := by
  unfold rowOf rowObj
  cases h.get i <;> rfl
def eszObj (ob : VObj) (esz : Nat) : Bool :=
  match ob with
  | .cells _ _ e => e == esz
  | _ => false
theorem eszIs_obj {h : VH} {i e : Nat} : eszIs h i e = eszObj (h.get i) e := by
  unfold eszIs eszObj
  cases h.get i <;> rfl
theorem eszObj_cells {cs : List Value} {ow : Bool} {e e' : Nat} : eszObj (.cells cs ow e) e' = (e == e') := rfl
theorem loadObj_tab {N : Nat} {f : Nat → Value} {ow : Bool} {e o : Nat} (h : o < N) : loadObj (.cells (tab N f) ow e) o none = some (f o) := by
  simp only [loadObj]
  exact tab_at h
theorem loadObj_one {cs : List Value} {ow : Bool} {e o : Nat} : loadObj (.cells cs ow e) o none = cs[o]? := rfl
theorem loadObj_all {cs : List Value} {ow : Bool} {e n : Nat} (h : cs.length = n) : loadObj (.cells cs ow e) 0 (some n) = some (.agg cs.toArray) := by
  simp only [loadObj, Nat.zero_add, List.drop_zero]
  rw [if_pos (by omega), List.take_of_length_le (by omega)]
theorem loadObj_tabN {N : Nat} {f : Nat → Value} {ow : Bool} {e : Nat} : loadObj (.cells (tab N f) ow e) 0 (some N) = some (.agg (tab N f).toArray) := loadObj_all (by simp)
theorem storeObj_tab {N : Nat} {f : Nat → Value} {e o : Nat} {x : Value} (h : o < N) (hx : cellsL x = [x]) (h1 : x.oneCell' = true) : storeObj (.cells (tab N f) true e) o 1 x = some (.cells (tab N fun j => if j = o then x else f j) true e) := by
  show (if (cellsL x).length = 1 ∧ o + 1 ≤ (tab N f).length ∧ (cellsL x).all Value.oneCell' then some (VObj.cells (wr (tab N f) o (cellsL x)) true e) else none) = _
  rw [if_pos ⟨by rw [hx]; rfl, by simp; omega, by rw [hx]; simp [h1]⟩, hx, tab_wr h]
theorem storeObj_tab_int {N : Nat} {f : Nat → Value} {e o : Nat} {k : IntKind} {n : Int} (h : o < N) : storeObj (.cells (tab N f) true e) o 1 (.int k n) = some (.cells (tab N fun j => if j = o then .int k n else f j) true e) := storeObj_tab h rfl rfl
theorem storeObj_all {cs : List Value} {e n : Nat} {a : Array Value} (h1 : a.size = n) (h2 : cs.length = n) (h3 : a.toList.all Value.oneCell' = true) : storeObj (.cells cs true e) 0 n (.agg a) = some (.cells a.toList true e) := by
  have hl : a.toList.length = n := by simpa using h1
  have hc : cellsL (.agg a) = a.toList := rfl
  show (if (cellsL (.agg a)).length = n ∧ 0 + n ≤ cs.length ∧ (cellsL (.agg a)).all Value.oneCell' then some (VObj.cells (wr cs 0 (cellsL (.agg a))) true e) else none) = _
  rw [if_pos ⟨by rw [hc]; exact hl, by omega, by rw [hc]; exact h3⟩, hc, wr_all (by omega)]
theorem storeObj_int {cs : List Value} {e o : Nat} {k : IntKind} {n : Int} (h : o < cs.length) : storeObj (.cells cs true e) o 1 (.int k n) = some (.cells (cs.set o (.int k n)) true e) := by
  have hc : cellsL (.int k n) = [.int k n] := rfl
  show (if (cellsL (.int k n)).length = 1 ∧ o + 1 ≤ cs.length ∧ (cellsL (.int k n)).all Value.oneCell' then some (VObj.cells (wr cs o (cellsL (.int k n))) true e) else none) = _
  rw [if_pos ⟨rfl, by omega, rfl⟩, hc, wr_one h]

theorem srcCells_at {h : VH} {e i o n c : Nat} {sp : Option Nat} : srcCells h e (.slice (some ⟨i, o, sp⟩) n c) = rowObj (h.get i) o (n * e) := by
  simp only [srcCells, if_true, rowOf_obj]
theorem srcCells_nil {h : VH} {e n c : Nat} : srcCells h e (.slice none n c) = some [] := rfl
theorem VH.get_push_at {h : VH} {o : VObj} {j : Nat} (hj : h.n ≤ j ∧ j ≤ h.n) : (h.push o).get j = o := by
  obtain rfl : j = h.n := by omega
  exact VH.get_push_new h o
theorem VH.get_push4 (h : VH) (a b c d : VObj) : ((((h.push a).push b).push c).push d).get h.n = a ∧ ((((h.push a).push b).push c).push d).get (h.n + 1) = b ∧ ((((h.push a).push b).push c).push d).get (h.n + 1 + 1) = c ∧ ((((h.push a).push b).push c).push d).get (h.n + 1 + 1 + 1) = d ∧ ∀ j, j < h.n → ((((h.push a).push b).push c).push d).get j = h.get j := by
  refine ⟨by simp [VH.get_push, show ¬ h.n = h.n + 1 + 1 by omega, show ¬ h.n = h.n + 1 + 1 + 1 by omega], ?_⟩
  refine ⟨by simp [VH.get_push, show ¬ h.n = h.n + 1 + 1 by omega, show ¬ h.n = h.n + 1 + 1 + 1 by omega], ?_⟩
  refine ⟨by simp [VH.get_push, show ¬ h.n = h.n + 1 + 1 by omega, show ¬ h.n = h.n + 1 + 1 + 1 by omega], ?_⟩
  refine ⟨by simp [VH.get_push], ?_⟩
  intro j hj
  simp [VH.get_push, show j ≠ h.n by omega, show j ≠ (h.n + 1) by omega, show j ≠ (h.n + 1 + 1) by omega, show j ≠ (h.n + 1 + 1 + 1) by omega]
theorem VH.get_push3 (h : VH) (a b c : VObj) : (((h.push a).push b).push c).get h.n = a ∧ (((h.push a).push b).push c).get (h.n + 1) = b ∧ (((h.push a).push b).push c).get (h.n + 1 + 1) = c ∧ ∀ j, j < h.n → (((h.push a).push b).push c).get j = h.get j := by
  refine ⟨by simp [VH.get_push, show ¬ h.n = h.n + 1 + 1 by omega, show ¬ h.n = h.n + 1 + 1 + 1 by omega], ?_⟩
  refine ⟨by simp [VH.get_push, show ¬ h.n = h.n + 1 + 1 by omega, show ¬ h.n = h.n + 1 + 1 + 1 by omega], ?_⟩
  refine ⟨by simp [VH.get_push], ?_⟩
  intro j hj
  simp [VH.get_push, show j ≠ h.n by omega, show j ≠ (h.n + 1) by omega, show j ≠ (h.n + 1 + 1) by omega]
theorem VH.get_push2 (h : VH) (a b : VObj) : ((h.push a).push b).get h.n = a ∧ ((h.push a).push b).get (h.n + 1) = b ∧ ∀ j, j < h.n → ((h.push a).push b).get j = h.get j := by
  refine ⟨by simp [VH.get_push, show ¬ h.n = h.n + 1 + 1 by omega, show ¬ h.n = h.n + 1 + 1 + 1 by omega], ?_⟩
  refine ⟨by simp [VH.get_push], ?_⟩
  intro j hj
  simp [VH.get_push, show j ≠ h.n by omega, show j ≠ (h.n + 1) by omega]

/-! ### parts of bytes -/
/-- bytes that are there: the id, the place. -/
def BytesAt (h : VH) (i o : Nat) (bs : List UInt8) : Prop := ∃ cs own, h.get i = .cells cs own 1 ∧ o + bs.length ≤ cs.length ∧ (cs.drop o).take bs.length = u8s bs
theorem BytesAt.sub {h : VH} {i o : Nat} {bs : List UInt8} (hb : BytesAt h i o bs) (a n : Nat) (hn : a + n ≤ bs.length) : BytesAt h i (o + a) ((bs.drop a).take n) := by
  obtain ⟨cs, own, h1, h2, h3⟩ := hb
  have hl : ((bs.drop a).take n).length = n := by simp; omega
  refine ⟨cs, own, h1, by rw [hl]; omega, ?_⟩
  rw [hl]
  have e : ((cs.drop o).take bs.length).drop a = u8s (bs.drop a) := by rw [h3]; simp [u8s]
  have e2 : (((cs.drop o).take bs.length).drop a).take n = u8s ((bs.drop a).take n) := by rw [e]; simp [u8s]
  rw [← e2, List.drop_take, List.take_take, List.drop_drop]
  congr 1
  omega
theorem BytesAt.is {h : VH} {i o c : Nat} {bs : List UInt8} (hi : i < h.n) (hc : bs.length ≤ c) (hb : BytesAt h i o bs) : IsBytes h (.slice (some ⟨i, o, none⟩) bs.length c) bs := by
  obtain ⟨cs, own, h1, h2, h3⟩ := hb
  exact .inr ⟨i, o, c, cs, own, ⟨hi, hc⟩, rfl, h1, h2, h3⟩
theorem IsBytes.cases {h : VH} {v : Value} {bs : List UInt8} (hb : IsBytes h v bs) : (v = .slice none 0 0 ∧ bs = []) ∨ ∃ i o c, i < h.n ∧ bs.length ≤ c ∧ v = .slice (some ⟨i, o, none⟩) bs.length c ∧ BytesAt h i o bs := by
  rcases hb with hb | ⟨i, o, c, cs, own, h0, h1, h2, h3, h4⟩
  · exact .inl hb
  · exact .inr ⟨i, o, c, h0.1, h0.2, h1, cs, own, h2, h3, h4⟩
theorem BytesAt.at_ {h : VH} {i o : Nat} {bs : List UInt8} (hb : BytesAt h i o bs) {k : Nat} (hk : k < bs.length) : loadObj (h.get i) (o + k) none = some (.int .u8 (bs[k]'hk).toNat) := by
  obtain ⟨cs, own, h1, h2, h3⟩ := hb
  rw [h1]
  exact IsBytes.at_ h3 hk
theorem BytesAt.esz {h : VH} {i o : Nat} {bs : List UInt8} (hb : BytesAt h i o bs) : eszObj (h.get i) 1 = true := by
  obtain ⟨cs, own, h1, _⟩ := hb
  rw [h1]; rfl
theorem BytesAt.row {h : VH} {i o : Nat} {bs : List UInt8} (hb : BytesAt h i o bs) : rowObj (h.get i) o bs.length = some (u8s bs) := by
  obtain ⟨cs, own, h1, h2, h3⟩ := hb
  rw [h1]
  simp only [rowObj]
  rw [if_pos h2, h3]
theorem BytesAt.congr {h h' : VH} {i o : Nat} {bs : List UInt8} (hb : BytesAt h i o bs) (hg : h'.get i = h.get i) : BytesAt h' i o bs := by
  obtain ⟨cs, own, h1, h2, h3⟩ := hb
  exact ⟨cs, own, by rw [hg]; exact h1, h2, h3⟩
end Go.Proofs.Ytdnkpgbggpbgaaa.Pm
