/- fair, part A: what a scheduler is and does, in plain Lean; how a heap holds one. -/
import Derived.Test.YtoenamablkkocaaPmZa
import Derived.Sort.Walk0
set_option linter.unusedVariables false
set_option linter.unusedSimpArgs false
namespace Go.Proofs.Ytoenamablkkocaa.Fa
open Go Go.RowKit Go.Proofs.Ytoenamablkkocaa.Pm

structure Jb where
  id : Int
  cost : Int
deriving DecidableEq
structure Wk where
  j : Jb
  st : Int
deriving DecidableEq
structure Tn where
  nm : List UInt8
  w : Nat
  en : Int
  l : List Wk
deriving DecidableEq
/-- tenants in the order of their names. -/
structure Sc where
  ts : List Tn
  ck : Int
  sv : List UInt8
  had : Int
deriving DecidableEq

def findT (nm : List UInt8) : List Tn → Option Tn
  | [] => none
  | t :: r => if t.nm = nm then some t else findT nm r
/-- a tenant of that name is put in the place of the one that is there. -/
def putT (x : Tn) : List Tn → List Tn
  | [] => []
  | t :: r => if t.nm = x.nm then x :: r else t :: putT x r
/-- a new one, behind those with lesser names. -/
def insT (x : Tn) : List Tn → List Tn
  | [] => [x]
  | t :: r => if t.nm < x.nm then t :: insT x r else x :: t :: r
def idleS (ts : List Tn) : Bool := ts.all fun t => t.l.isEmpty
def nextF (a : List UInt8 × Int × Bool) (t : Tn) : List UInt8 × Int × Bool :=
  match t.l with
  | [] => a
  | w :: _ => if a.2.2 = false ∨ w.st < a.2.1 then (t.nm, w.st, true) else a
def nextS (ts : List Tn) : List UInt8 × Int × Bool := ts.foldl nextF ([], 0, false)
def restS (ts : List Tn) : List Tn := ts.map fun t => { t with en := 0 }

def setS (S : Sc) (nm : List UInt8) (w : Int) : Int × Sc :=
  if w < 1 ∨ 16 < w then (1, S) else
  match findT nm S.ts with
  | some t => if t.l = [] then (0, { S with ts := putT { t with w := w.toNat, en := S.ck } S.ts }) else (200, S)
  | none => if 16 ≤ S.ts.length then (7, S) else (0, { S with ts := insT ⟨nm, w.toNat, S.ck, []⟩ S.ts })
def startS (S : Sc) (t : Tn) : Int := if S.ck < t.en then t.en else S.ck
def pushS (S : Sc) (nm : List UInt8) (j : Jb) : Int × Sc :=
  match findT nm S.ts with
  | none => (5, S)
  | some t => if j.cost < 1 ∨ 1000 < j.cost then (1, S) else if 16 ≤ t.l.length then (200, S) else
    (0, { S with ts := putT { t with l := t.l ++ [⟨j, startS S t⟩], en := startS S t + j.cost * ((720720 / t.w : Nat) : Int) } S.ts })
def job0 : Jb := ⟨0, 0⟩
def headW (nm : List UInt8) (ts : List Tn) : Wk := ((findT nm ts).bind fun t => t.l.head?).getD ⟨job0, 0⟩
/-- whom a slot serves: if no job is begun, the next one. -/
def begunS (S : Sc) : Sc := if S.had = 0 then { S with sv := (nextS S.ts).1, ck := (headW (nextS S.ts).1 S.ts).st } else S
def popT (nm : List UInt8) (ts : List Tn) : List Tn :=
  match findT nm ts with
  | some t => putT { t with l := t.l.tail } ts
  | none => ts
structure Out where
  nm : List UInt8
  j : Jb
  dn : Bool
  ok : Bool
deriving DecidableEq
def servedS (S : Sc) : Out × Sc :=
  if S.had + 1 < (headW S.sv S.ts).j.cost then (⟨S.sv, (headW S.sv S.ts).j, false, true⟩, { S with had := S.had + 1 }) else
  (⟨S.sv, (headW S.sv S.ts).j, true, true⟩,
    if idleS (popT S.sv S.ts) = true then { S with ts := restS (popT S.sv S.ts), ck := 0, had := 0 } else { S with ts := popT S.sv S.ts, had := 0 })
def stepS (S : Sc) : Out × Sc := if idleS S.ts = true then (⟨[], job0, false, false⟩, S) else servedS (begunS S)
def waitS (S : Sc) (nm : List UInt8) : Nat := match findT nm S.ts with
  | some t => t.l.length
  | none => 0
def sumC (l : List Wk) : Int := (l.map (·.j.cost)).sum
def aheadS (S : Sc) (nm : List UInt8) : Int := match findT nm S.ts with
  | some t => sumC t.l - (if S.sv = nm then S.had else 0)
  | none => 0
def weightsS (S : Sc) : Int × Nat := ((S.ts.map fun t => (t.w : Int)).sum, S.ts.length)
def dropS (S : Sc) : Int × Sc := ((S.ts.map fun t => (t.l.length : Int)).sum, { S with ts := S.ts.map fun t => { t with l := [], en := 0 }, ck := 0, had := 0 })

/-- names in order, each one once. -/
def Ord (ts : List Tn) : Prop := ts.Pairwise fun a b => a.nm < b.nm
structure OkT (b : Int) (t : Tn) : Prop where
  w1 : 1 ≤ t.w
  w16 : t.w ≤ 16
  en0 : 0 ≤ t.en
  enb : t.en ≤ b
  len : t.l.length ≤ 16
  wk : ∀ w ∈ t.l, 1 ≤ w.j.cost ∧ w.j.cost ≤ 1000 ∧ 0 ≤ w.st ∧ w.st ≤ b
/-- what stands always; b: what no clock is above. -/
structure OkS (b : Int) (S : Sc) : Prop where
  ord : Ord S.ts
  ten : ∀ t ∈ S.ts, OkT b t
  len : S.ts.length ≤ 16
  ck0 : 0 ≤ S.ck
  ckb : S.ck ≤ b
  had0 : 0 ≤ S.had
  bsy : 0 < S.had → ∃ t w r, t ∈ S.ts ∧ t.nm = S.sv ∧ t.l = w :: r ∧ S.had < w.j.cost

/-! ### tenants found and put -/
theorem findT_some {nm : List UInt8} {t : Tn} : ∀ {ts : List Tn}, findT nm ts = some t → t ∈ ts ∧ t.nm = nm
  | [], h => by cases h
  | x :: r, h => by
    simp only [findT] at h
    split at h
    · rename_i hx
      injection h with h
      subst h
      exact ⟨List.mem_cons_self .., hx⟩
    · obtain ⟨h1, h2⟩ := findT_some h
      exact ⟨List.mem_cons_of_mem _ h1, h2⟩
theorem findT_none {nm : List UInt8} : ∀ {ts : List Tn}, findT nm ts = none → ∀ t ∈ ts, t.nm ≠ nm
  | [], h => by simp
  | x :: r, h => by
    simp only [findT] at h
    split at h
    · cases h
    · rename_i hx
      intro t ht
      rcases List.mem_cons.1 ht with rfl | ht
      · exact hx
      · exact findT_none h t ht
def Uni (ts : List Tn) : Prop := (ts.map (·.nm)).Nodup
theorem Ord.uni {ts : List Tn} (h : Ord ts) : Uni ts := by
  unfold Uni
  rw [List.nodup_iff_pairwise_ne, List.pairwise_map]
  refine h.imp ?_
  intro a b hab e
  rw [e] at hab
  exact List.lt_irrefl _ hab
theorem findT_mem {t : Tn} : ∀ {ts : List Tn}, Uni ts → t ∈ ts → findT t.nm ts = some t
  | [], _, h => by cases h
  | x :: r, hu, h => by
    simp only [Uni, List.map_cons, List.nodup_cons] at hu
    simp only [findT]
    rcases List.mem_cons.1 h with rfl | h
    · rw [if_pos rfl]
    · rw [if_neg, findT_mem hu.2 h]
      intro e
      exact hu.1 (e ▸ List.mem_map_of_mem h)
theorem findT_perm {a b : List Tn} (hp : a.Perm b) (hu : Uni b) (nm : List UInt8) : findT nm a = findT nm b := by
  have hua : Uni a := (hp.map _).nodup_iff.2 hu
  cases h : findT nm a with
  | some t =>
    obtain ⟨h1, h2⟩ := findT_some h
    rw [← h2, findT_mem hu (hp.mem_iff.1 h1)]
  | none =>
    cases h' : findT nm b with
    | none => rfl
    | some t =>
      obtain ⟨h1, h2⟩ := findT_some h'
      exact absurd h2 (findT_none h t (hp.mem_iff.2 h1))
theorem putT_names (x : Tn) : ∀ (ts : List Tn), (putT x ts).map (·.nm) = ts.map (·.nm)
  | [] => rfl
  | t :: r => by
    simp only [putT]
    split
    · rename_i h; simp [h]
    · simp [putT_names x r]
theorem putT_ord {x : Tn} {ts : List Tn} (h : Ord ts) : Ord (putT x ts) := by
  unfold Ord at h ⊢
  have := (List.pairwise_map (f := fun t : Tn => t.nm) (R := fun a b => a < b) (l := putT x ts))
  rw [← this, putT_names, List.pairwise_map]
  exact h
theorem putT_length (x : Tn) (ts : List Tn) : (putT x ts).length = ts.length := by
  have := congrArg List.length (putT_names x ts)
  simpa using this
theorem mem_putT {x t : Tn} : ∀ {ts : List Tn}, t ∈ putT x ts → t = x ∨ t ∈ ts
  | [], h => by cases h
  | y :: r, h => by
    simp only [putT] at h
    split at h
    · rcases List.mem_cons.1 h with rfl | h
      · exact .inl rfl
      · exact .inr (List.mem_cons_of_mem _ h)
    · rcases List.mem_cons.1 h with rfl | h
      · exact .inr (List.mem_cons_self ..)
      · exact (mem_putT h).imp id (List.mem_cons_of_mem _)
theorem findT_putT {x : Tn} {nm : List UInt8} : ∀ {ts : List Tn}, findT nm (putT x ts) = if nm = x.nm then (findT nm ts).map fun _ => x else findT nm ts
  | [] => by simp [putT, findT]
  | y :: r => by
    simp only [putT]
    split
    · rename_i h
      simp only [findT]
      by_cases hn : nm = x.nm
      · subst hn; simp [h]
      · have h1 : ¬ x.nm = nm := fun e => hn e.symm
        have h2 : ¬ y.nm = nm := fun e => h1 (h ▸ e)
        simp [hn, h1, h2]
    · rename_i h
      simp only [findT, findT_putT (ts := r)]
      by_cases hn : nm = x.nm
      · subst hn; simp [h]
      · simp [hn]
/-- the one of that name is at a place, and the put one takes it. -/
theorem putT_at {x t : Tn} : ∀ {ts : List Tn}, Uni ts → findT x.nm ts = some t → ∃ a b, ts = a ++ t :: b ∧ putT x ts = a ++ x :: b
  | [], _, h => by cases h
  | y :: r, hu, h => by
    simp only [findT] at h
    simp only [putT]
    split at h
    · rename_i hx
      injection h with h
      subst h
      exact ⟨[], r, rfl, by rw [if_pos hx]; rfl⟩
    · rename_i hx
      simp only [Uni, List.map_cons, List.nodup_cons] at hu
      obtain ⟨a, b, h1, h2⟩ := putT_at hu.2 h
      exact ⟨y :: a, b, by rw [h1]; rfl, by rw [if_neg hx, h2]; rfl⟩
theorem insT_perm (x : Tn) : ∀ (ts : List Tn), (insT x ts).Perm (x :: ts)
  | [] => List.Perm.refl _
  | t :: r => by
    simp only [insT]
    split
    · exact ((insT_perm x r).cons t).trans (List.Perm.swap x t r)
    · exact List.Perm.refl _
theorem insT_ord {x : Tn} : ∀ {ts : List Tn}, Ord ts → (∀ t ∈ ts, t.nm ≠ x.nm) → Ord (insT x ts)
  | [], _, _ => by simp [insT, Ord]
  | t :: r, h, hn => by
    simp only [insT]
    have h' : Ord (t :: r) := h
    simp only [Ord, List.pairwise_cons] at h
    split
    · rename_i hlt
      simp only [Ord, List.pairwise_cons]
      refine ⟨fun y hy => ?_, insT_ord h.2 (fun y hy => hn y (List.mem_cons_of_mem _ hy))⟩
      rcases List.mem_cons.1 ((insT_perm x r).mem_iff.1 hy) with rfl | hy
      · exact hlt
      · exact h.1 y hy
    · rename_i hlt
      have hxt : x.nm < t.nm := by
        have := hn t (List.mem_cons_self ..)
        rcases List.le_total x.nm t.nm with hle | hle
        · exact Std.lt_of_le_of_ne hle (fun e => this e.symm)
        · exact absurd (Std.lt_of_le_of_ne hle this) hlt
      simp only [Ord, List.pairwise_cons]
      refine ⟨fun y hy => ?_, h.1, h.2⟩
      rcases List.mem_cons.1 hy with rfl | hy
      · exact hxt
      · exact List.lt_trans hxt (h.1 y hy)
theorem ord_unique {a b : List Tn} (hp : a.Perm b) (ha : Ord a) (hb : Ord b) : a = b :=
  hp.eq_of_pairwise (fun x y _ _ h1 h2 => absurd (List.lt_trans h1 h2) (List.lt_irrefl _)) ha hb
end Go.Proofs.Ytoenamablkkocaa.Fa
