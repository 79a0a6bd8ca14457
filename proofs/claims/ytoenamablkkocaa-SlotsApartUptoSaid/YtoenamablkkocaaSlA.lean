/- slots, part A: a table in fixed turns, in plain Lean. Rows are Fa's tenants: en = how many slots the first job has had; starts of jobs are 0. -/
import Derived.Test.YtoenamablkkocaaFaP
set_option linter.unusedVariables false
set_option linter.unusedSimpArgs false
namespace Go.Proofs.Ytoenamablkkocaa.Sl
open Go Go.RowKit Go.Proofs.Ytoenamablkkocaa.Pm Go.Proofs.Ytoenamablkkocaa.Fa

structure Tb where
  ts : List Tn
  sl : Nat
def tb0 : Tb := ⟨[], 0⟩
def bare (t : Tn) : Tn := { t with l := [], en := 0 }
/-- what the table's scheduler is: the tenants, no job. -/
def fairOf (T : Tb) : Sc := ⟨T.ts.map bare, 0, [], 0⟩
def setT (T : Tb) (nm : List UInt8) (w : Int) : Int × Tb :=
  if w < 1 ∨ 16 < w then (1, T) else
  match findT nm T.ts with
  | some t => if t.l = [] then (0, { T with ts := putT { t with w := w.toNat } T.ts }) else (200, T)
  | none => if idleS T.ts = false then (200, T) else if 16 ≤ T.ts.length then (7, T) else (0, { T with ts := insT ⟨nm, w.toNat, 0, []⟩ T.ts })
def pushT (T : Tb) (nm : List UInt8) (j : Jb) : Int × Tb :=
  match findT nm T.ts with
  | none => (5, T)
  | some t => if j.cost < 1 ∨ 1000 < j.cost then (1, T) else if 16 ≤ t.l.length then (200, T) else (0, { T with ts := putT { t with l := t.l ++ [⟨j, 0⟩] } T.ts })
def turnT (T : Tb) : List UInt8 := ((T.ts[T.sl % T.ts.length]?).map (·.nm)).getD []
structure Sv where
  slot : Nat
  ten : List UInt8
  j : Jb
  done : Bool
  some : Bool
def rowStep (t : Tn) : (Jb × Bool × Bool) × Tn := match t.l with
  | [] => ((job0, false, false), t)
  | w :: r => if t.en + 1 = w.j.cost then ((w.j, true, true), { t with l := r, en := 0 }) else ((w.j, false, true), { t with en := t.en + 1 })
def stepT (T : Tb) : Sv × Tb := match findT (turnT T) T.ts with
  | none => (⟨T.sl, turnT T, job0, false, false⟩, { T with sl := T.sl + 1 })
  | some t => (⟨T.sl, turnT T, (rowStep t).1.1, (rowStep t).1.2.1, (rowStep t).1.2.2⟩, ⟨putT (rowStep t).2 T.ts, T.sl + 1⟩)
def aheadT (T : Tb) (nm : List UInt8) : Int := match findT nm T.ts with
  | none => 0
  | some t => sumC t.l - t.en
def waitT (T : Tb) (nm : List UInt8) : Nat := match findT nm T.ts with
  | none => 0
  | some t => t.l.length
def namesT (T : Tb) : List (List UInt8) := T.ts.map (·.nm)

structure OkR (b : Nat) (t : Tn) : Prop where
  w1 : 1 ≤ t.w
  w16 : t.w ≤ 16
  en0 : 0 ≤ t.en
  enb : t.en ≤ b
  len : t.l.length ≤ 16
  wk : ∀ w ∈ t.l, 1 ≤ w.j.cost ∧ w.j.cost ≤ 1000
structure OkTb (T : Tb) : Prop where
  ord : Ord T.ts
  len : T.ts.length ≤ 16
  ten : ∀ t ∈ T.ts, OkR T.sl t
theorem OkR.mono {b b' : Nat} {t : Tn} (k : OkR b t) (h : b ≤ b') : OkR b' t := ⟨k.w1, k.w16, k.en0, by have := k.enb; omega, k.len, k.wk⟩
theorem tb0_ok : OkTb tb0 := ⟨List.Pairwise.nil, by simp [tb0], by simp [tb0]⟩
theorem OkTb.put {T : Tb} (k : OkTb T) {x : Tn} {n : Nat} (hn : T.sl ≤ n) (hx : OkR n x) : OkTb ⟨putT x T.ts, n⟩ :=
  ⟨putT_ord k.ord, by rw [putT_length]; exact k.len, fun t ht => (mem_putT ht).elim (fun e => e ▸ hx) (fun h => (k.ten t h).mono hn)⟩
theorem OkTb.find {T : Tb} (k : OkTb T) {nm : List UInt8} {t : Tn} (h : findT nm T.ts = some t) : OkR T.sl t := k.ten t (findT_some h).1
theorem setT_ok {T : Tb} (k : OkTb T) (nm : List UInt8) (w : Int) : OkTb (setT T nm w).2 := by
  unfold setT
  split
  · exact k
  rename_i hw
  split
  · rename_i t ht
    split
    · rename_i hl
      have := k.find ht
      exact k.put (Nat.le_refl _) ⟨by show 1 ≤ w.toNat; omega, by show w.toNat ≤ 16; omega, this.en0, this.enb, this.len, this.wk⟩
    · exact k
  · rename_i hf
    split
    · exact k
    split
    · exact k
    · rename_i h16
      refine ⟨insT_ord k.ord (findT_none hf), ?_, fun t ht => ?_⟩
      · have := (insT_perm (⟨nm, w.toNat, 0, []⟩ : Tn) T.ts).length_eq
        simp only [List.length_cons] at this
        show (insT _ T.ts).length ≤ 16
        omega
      · have h1 := (insT_perm (⟨nm, w.toNat, 0, []⟩ : Tn) T.ts).mem_iff.1 ht
        rcases List.mem_cons.1 h1 with rfl | h1
        · exact ⟨by show 1 ≤ w.toNat; omega, by show w.toNat ≤ 16; omega, by simp, by simp, by simp, by simp⟩
        · exact k.ten t h1
theorem pushT_ok {T : Tb} (k : OkTb T) (nm : List UInt8) (j : Jb) : OkTb (pushT T nm j).2 := by
  unfold pushT
  split
  · exact k
  · rename_i t ht
    split
    · exact k
    split
    · exact k
    · rename_i h1 h2
      have := k.find ht
      refine k.put (Nat.le_refl _) ⟨this.w1, this.w16, this.en0, this.enb, by simp; omega, fun w hw => ?_⟩
      rcases List.mem_append.1 hw with hw | hw
      · exact this.wk w hw
      · simp at hw; subst hw; show 1 ≤ j.cost ∧ j.cost ≤ 1000; omega
theorem rowStep_nm (t : Tn) : (rowStep t).2.nm = t.nm := by
  unfold rowStep
  split
  · rfl
  · split <;> rfl
theorem rowStep_ok {b : Nat} {t : Tn} (k : OkR b t) : OkR (b + 1) (rowStep t).2 := by
  have h1 := k.enb
  have h2 := k.en0
  have h3 := k.len
  have h4 := k.wk
  unfold rowStep
  split
  · exact k.mono (by omega)
  · rename_i w r hl
    rw [hl] at h3 h4
    split
    · exact ⟨k.w1, k.w16, by simp, by simp; omega, by simp at h3; show r.length ≤ 16; omega, fun x hx => h4 x (List.mem_cons_of_mem _ hx)⟩
    · exact ⟨k.w1, k.w16, by show 0 ≤ t.en + 1; omega, by show t.en + 1 ≤ ((b + 1 : Nat) : Int); omega, k.len, k.wk⟩
theorem stepT_ok {T : Tb} (k : OkTb T) : OkTb (stepT T).2 := by
  unfold stepT
  split
  · exact ⟨k.ord, k.len, fun t ht => (k.ten t ht).mono (by show T.sl ≤ T.sl + 1; omega)⟩
  · rename_i t ht
    exact k.put (Nat.le_succ _) (rowStep_ok (k.find ht))
theorem putT_nmT (x : Tn) (T : Tb) : namesT ⟨putT x T.ts, T.sl⟩ = namesT T := putT_names x T.ts
theorem stepT_names (T : Tb) : namesT (stepT T).2 = namesT T := by
  unfold stepT
  split
  · rfl
  · exact putT_names _ _
theorem stepT_sl (T : Tb) : (stepT T).2.sl = T.sl + 1 := by
  unfold stepT
  split <;> rfl
theorem stepT_out (T : Tb) : (stepT T).1.slot = T.sl ∧ (stepT T).1.ten = turnT T := by
  unfold stepT
  split <;> exact ⟨rfl, rfl⟩
theorem pushT_names (T : Tb) (nm : List UInt8) (j : Jb) : namesT (pushT T nm j).2 = namesT T := by
  unfold pushT
  split
  · rfl
  · split
    · rfl
    split
    · rfl
    · exact putT_names _ _
theorem pushT_sl (T : Tb) (nm : List UInt8) (j : Jb) : (pushT T nm j).2.sl = T.sl := by
  unfold pushT
  split
  · rfl
  · split
    · rfl
    split <;> rfl
theorem turnT_names {T : Tb} : turnT T = ((namesT T)[T.sl % (namesT T).length]?).getD [] := by
  unfold turnT namesT
  rw [List.getElem?_map, List.length_map]

/-! ### what is one's own -/
structure Own (own : List UInt8) (T U : Tb) : Prop where
  sl : T.sl = U.sl
  nms : namesT T = namesT U
  row : findT own T.ts = findT own U.ts
theorem Own.turn {own : List UInt8} {T U : Tb} (k : Own own T U) : turnT T = turnT U := by rw [turnT_names, turnT_names, k.sl, k.nms]
theorem Own.wait {own : List UInt8} {T U : Tb} (k : Own own T U) : waitT T own = waitT U own := by unfold waitT; rw [k.row]
theorem Own.ahead {own : List UInt8} {T U : Tb} (k : Own own T U) : aheadT T own = aheadT U own := by unfold aheadT; rw [k.row]
theorem push_other {own nm : List UInt8} (hne : nm ≠ own) (T : Tb) (j : Jb) : findT own (pushT T nm j).2.ts = findT own T.ts := by
  unfold pushT
  split
  · rfl
  · rename_i t ht
    have hnm := (findT_some ht).2
    split
    · rfl
    split
    · rfl
    · show findT own (putT _ T.ts) = _
      rw [findT_putT, if_neg (fun e => hne (hnm ▸ e.symm))]
theorem Own.left {own nm : List UInt8} {T U : Tb} (k : Own own T U) (hne : nm ≠ own) (j : Jb) : Own own (pushT T nm j).2 U :=
  ⟨by rw [pushT_sl, k.sl], by rw [pushT_names, k.nms], by rw [push_other hne, k.row]⟩
theorem Own.right {own nm : List UInt8} {T U : Tb} (k : Own own T U) (hne : nm ≠ own) (j : Jb) : Own own T (pushT U nm j).2 :=
  ⟨by rw [pushT_sl, k.sl], by rw [pushT_names, k.nms], by rw [push_other hne, k.row]⟩
theorem Own.push {own : List UInt8} {T U : Tb} (k : Own own T U) (j : Jb) : (pushT T own j).1 = (pushT U own j).1 ∧ Own own (pushT T own j).2 (pushT U own j).2 := by
  have hr := k.row
  refine ⟨?_, by rw [pushT_sl, pushT_sl, k.sl], by rw [pushT_names, pushT_names, k.nms], ?_⟩
  · unfold pushT
    rw [hr]
    cases findT own U.ts with
    | none => rfl
    | some t =>
      simp only
      split
      · rfl
      split <;> rfl
  · unfold pushT
    rw [hr]
    cases hu : findT own U.ts with
    | none => simp only; rw [hr]
    | some t =>
      have hnm := (findT_some hu).2
      simp only
      split
      · exact hr
      split
      · exact hr
      · show findT own (putT _ T.ts) = findT own (putT _ U.ts)
        rw [findT_putT, findT_putT, hr]
theorem step_other {own : List UInt8} {T : Tb} (hne : turnT T ≠ own) : findT own (stepT T).2.ts = findT own T.ts := by
  unfold stepT
  split
  · rfl
  · rename_i t ht
    show findT own (putT _ T.ts) = _
    rw [findT_putT, if_neg]
    rw [rowStep_nm, (findT_some ht).2]
    exact fun e => hne e.symm
theorem Own.step {own : List UInt8} {T U : Tb} (k : Own own T U) : Own own (stepT T).2 (stepT U).2 ∧ (turnT T = own → (stepT T).1 = (stepT U).1) := by
  have ht := k.turn
  have hsl := k.sl
  have hr := k.row
  refine ⟨⟨by rw [stepT_sl, stepT_sl, k.sl], by rw [stepT_names, stepT_names, k.nms], ?_⟩, fun e => ?_⟩
  · by_cases e : turnT T = own
    · have e2 : turnT U = own := ht ▸ e
      unfold stepT
      rw [e, e2, hr]
      cases hu : findT own U.ts with
      | none => simp only; rw [hr]
      | some t =>
        show findT own (putT _ T.ts) = findT own (putT _ U.ts)
        rw [findT_putT, findT_putT, hr]
    · rw [step_other e, step_other (ht ▸ e), hr]
  · have e2 : turnT U = own := ht ▸ e
    unfold stepT
    rw [e, e2, hr]
    cases findT own U.ts <;> simp [hsl]
end Go.Proofs.Ytoenamablkkocaa.Sl
