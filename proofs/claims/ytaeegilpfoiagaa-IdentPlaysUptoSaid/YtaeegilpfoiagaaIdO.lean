/- ident, part O: sessions in a list: what a table says, in plain Lean. -/
import Derived.Test.YtaeegilpfoiagaaIdL
set_option linter.unusedVariables false
set_option linter.unusedSimpArgs false
set_option maxRecDepth 100000
namespace Go.Proofs.Ytaeegilpfoiagaa.Id
open Go Go.RowKit Go.Proofs.Ytaeegilpfoiagaa.Pm Go.Proofs.Ytaeegilpfoiagaa.Fs

structure Ss where
  id : Int
  x : List UInt8
  y : List UInt8
  z : Bool
  o : Int
  b : Nat
def entS (s : Ss) : Value × Value × Nat := (.int .i64 s.id, sesV s.x s.y s.z s.o, s.b)
def findS (k : Int) : List Ss → Option Ss
  | [] => none
  | s :: r => if k = s.id then some s else findS k r
def renS (k o : Int) (L : List Ss) : List Ss := L.map fun s => if s.id = k then { s with o := o } else s
def delS (k : Int) (L : List Ss) : List Ss := L.filter fun s => decide (s.id ≠ k)
def expS (now : Int) (L : List Ss) : List Ss := L.filter fun s => decide (now < s.o)
structure OkL (L : List Ss) (last : Int) (clk : Nat) : Prop where
  ids : L.Pairwise fun a b => a.id < b.id
  pos : ∀ s ∈ L, 1 ≤ s.id
  le : ∀ s ∈ L, s.id ≤ last
  bnd : (L.map (·.b)).Nodup
  lt : ∀ s ∈ L, s.b < clk
theorem OkL.nil : OkL [] 0 0 := ⟨.nil, by simp, by simp, by simp, by simp⟩
theorem OkL.tail {s : Ss} {r : List Ss} {last : Int} {clk : Nat} (k : OkL (s :: r) last clk) : OkL r last clk := by
  have h1 := k.bnd
  rw [List.map_cons, List.nodup_cons] at h1
  exact ⟨(List.pairwise_cons.1 k.ids).2, fun x hx => k.pos x (List.mem_cons_of_mem _ hx), fun x hx => k.le x (List.mem_cons_of_mem _ hx), h1.2, fun x hx => k.lt x (List.mem_cons_of_mem _ hx)⟩
theorem OkL.filter {L : List Ss} {last : Int} {clk : Nat} (k : OkL L last clk) (p : Ss → Bool) : OkL (L.filter p) last clk :=
  ⟨k.ids.filter p, fun x hx => k.pos x (List.mem_filter.1 hx).1, fun x hx => k.le x (List.mem_filter.1 hx).1, k.bnd.sublist (List.filter_sublist.map _), fun x hx => k.lt x (List.mem_filter.1 hx).1⟩
theorem OkL.ren {L : List Ss} {last : Int} {clk : Nat} (k : OkL L last clk) (i o : Int) : OkL (renS i o L) last clk := by
  have hid : ∀ s : Ss, (if s.id = i then { s with o := o } else s).id = s.id := fun s => by split <;> rfl
  have hb : ∀ s : Ss, (if s.id = i then { s with o := o } else s).b = s.b := fun s => by split <;> rfl
  refine ⟨?_, ?_, ?_, ?_, ?_⟩
  · refine (List.pairwise_map).2 (k.ids.imp fun {a b} h => ?_)
    rw [hid, hid]; exact h
  · intro s hs
    obtain ⟨a, ha, rfl⟩ := List.mem_map.1 hs
    rw [hid]; exact k.pos a ha
  · intro s hs
    obtain ⟨a, ha, rfl⟩ := List.mem_map.1 hs
    rw [hid]; exact k.le a ha
  · unfold renS
    rw [List.map_map]
    have : ((fun s : Ss => s.b) ∘ fun s => if s.id = i then { s with o := o } else s) = fun s => s.b := funext fun s => hb s
    rw [this]; exact k.bnd
  · intro s hs
    obtain ⟨a, ha, rfl⟩ := List.mem_map.1 hs
    rw [hb]; exact k.lt a ha
theorem OkL.open_ {L : List Ss} {last : Int} {clk : Nat} (k : OkL L last clk) (hl : 0 ≤ last) (x y : List UInt8) (z : Bool) (o : Int) : OkL (L ++ [Ss.mk (last + 1) x y z o clk]) (last + 1) (clk + 1) := by
  refine ⟨?_, ?_, ?_, ?_, ?_⟩
  · refine List.pairwise_append.2 ⟨k.ids, List.pairwise_singleton _ _, fun a ha b hb => ?_⟩
    simp at hb; subst hb
    have := k.le a ha
    show a.id < last + 1
    omega
  · intro s hs
    rcases List.mem_append.1 hs with hs | hs
    · exact k.pos s hs
    · simp at hs; subst hs; show 1 ≤ last + 1; omega
  · intro s hs
    rcases List.mem_append.1 hs with hs | hs
    · have := k.le s hs; omega
    · simp at hs; subst hs; exact Int.le_refl _
  · rw [List.map_append, List.nodup_append]
    refine ⟨k.bnd, by simp, fun a ha b hb => ?_⟩
    obtain ⟨s, hs, rfl⟩ := List.mem_map.1 ha
    simp at hb; subst hb
    have := k.lt s hs
    omega
  · intro s hs
    rcases List.mem_append.1 hs with hs | hs
    · have := k.lt s hs; omega
    · simp at hs; subst hs; show clk < clk + 1; omega
theorem OkL.es {L : List Ss} {last : Int} {clk : Nat} (k : OkL L last clk) : EsOK (L.map entS) last :=
  ⟨fun e he => by obtain ⟨s, hs, rfl⟩ := List.mem_map.1 he; exact ⟨_, _, _, _, rfl⟩, fun e he => by obtain ⟨s, hs, rfl⟩ := List.mem_map.1 he; exact ⟨_, rfl, k.le s hs⟩⟩

theorem keq_t {k : Int} {s : Ss} (h : k = s.id) : keq (.int .i64 k) (entS s).1 = true := by show (k == s.id) = true; simpa using h
theorem keq_f {k : Int} {s : Ss} (h : ¬ k = s.id) : ¬ keq (.int .i64 k) (entS s).1 = true := by show ¬ (k == s.id) = true; simpa using h
theorem mget_S (k : Int) : ∀ (L : List Ss), mget (.int .i64 k) (L.map entS) = (findS k L).map fun s => sesV s.x s.y s.z s.o
  | [] => rfl
  | s :: r => by
    have ih := mget_S k r
    simp only [List.map_cons, mget, findS]
    by_cases h : k = s.id
    · rw [if_pos (keq_t h), if_pos h]; rfl
    · rw [if_neg (keq_f h), if_neg h]; exact ih
theorem mhas_S (k : Int) : ∀ (L : List Ss), mhas (.int .i64 k) (L.map entS) = (findS k L).isSome
  | [] => rfl
  | s :: r => by
    have ih := mhas_S k r
    simp only [List.map_cons, mhas, findS]
    by_cases h : k = s.id
    · rw [if_pos (keq_t h), if_pos h]; rfl
    · rw [if_neg (keq_f h), if_neg h]; exact ih
theorem find_none {k : Int} : ∀ {L : List Ss}, (∀ s ∈ L, s.id ≠ k) → findS k L = none
  | [], _ => rfl
  | s :: r, h => by
    unfold findS
    rw [if_neg (fun e => h s (List.mem_cons_self ..) e.symm)]
    exact find_none fun x hx => h x (List.mem_cons_of_mem _ hx)
theorem find_some {k : Int} {s : Ss} : ∀ {L : List Ss}, findS k L = some s → s ∈ L ∧ s.id = k
  | [], h => by cases h
  | x :: r, h => by
    unfold findS at h
    split at h
    · rename_i e
      injection h with h; subst h
      exact ⟨List.mem_cons_self .., e.symm⟩
    · obtain ⟨h1, h2⟩ := find_some h
      exact ⟨List.mem_cons_of_mem _ h1, h2⟩
theorem find_not {k : Int} {L : List Ss} (h : findS k L = none) : ∀ s ∈ L, s.id ≠ k := by
  induction L with
  | nil => simp
  | cons x r ih =>
    unfold findS at h
    split at h
    · cases h
    · rename_i e
      intro s hs
      rcases List.mem_cons.1 hs with rfl | hs
      · exact fun e' => e e'.symm
      · exact ih h s hs
theorem ren_none {k o : Int} {L : List Ss} (h : ∀ s ∈ L, s.id ≠ k) : renS k o L = L := by
  unfold renS
  rw [List.map_congr_left (g := id) (fun s hs => by rw [if_neg (h s hs)]; rfl), List.map_id]
theorem del_none {k : Int} {L : List Ss} (h : ∀ s ∈ L, s.id ≠ k) : delS k L = L := by
  unfold delS
  rw [List.filter_eq_self]
  intro s hs
  simpa using h s hs
theorem mput_S {k o : Int} {c : Nat} {s : Ss} : ∀ {L : List Ss} {last : Int} {clk : Nat}, OkL L last clk → findS k L = some s → mput (.int .i64 k) (sesV s.x s.y s.z o) c (L.map entS) = (renS k o L).map entS
  | [], _, _, _, h => by cases h
  | x :: r, last, clk, ok, h => by
    have hp := (List.pairwise_cons.1 ok.ids).1
    simp only [List.map_cons, mput]
    unfold findS at h
    by_cases e : k = x.id
    · rw [if_pos e] at h
      injection h with h; subst h
      have hne : ∀ y ∈ r, y.id ≠ k := fun y hy => by have := hp y hy; omega
      have : renS k o (x :: r) = { x with o := o } :: renS k o r := by
        simp [renS, e.symm]
      rw [this, ren_none hne, if_pos (keq_t e), e]
      rfl
    · rw [if_neg e] at h
      have ih := mput_S (c := c) (o := o) ok.tail h
      have : renS k o (x :: r) = x :: renS k o r := by
        have e2 : ¬ x.id = k := fun h => e h.symm
        unfold renS
        rw [List.map_cons, if_neg e2]
      rw [if_neg (keq_f e), this, List.map_cons, ← ih]
theorem mput_new' {k : Int} {x y : List UInt8} {z : Bool} {o : Int} {c : Nat} : ∀ {L : List Ss}, (∀ s ∈ L, s.id ≠ k) → mput (.int .i64 k) (sesV x y z o) c (L.map entS) = (L ++ [Ss.mk k x y z o c]).map entS
  | [], _ => rfl
  | s :: r, h => by
    have ih := mput_new' (k := k) (x := x) (y := y) (z := z) (o := o) (c := c) (L := r) fun x hx => h x (List.mem_cons_of_mem _ hx)
    simp only [List.map_cons, mput, List.cons_append]
    rw [if_neg (keq_f fun e => h s (List.mem_cons_self ..) e.symm), ih]
theorem mdel_S {k : Int} : ∀ {L : List Ss} {last : Int} {clk : Nat}, OkL L last clk → mdel (.int .i64 k) (L.map entS) = (delS k L).map entS
  | [], _, _, _ => rfl
  | x :: r, last, clk, ok => by
    have hp := (List.pairwise_cons.1 ok.ids).1
    have ih := mdel_S (k := k) ok.tail
    simp only [List.map_cons, mdel]
    by_cases e : k = x.id
    · have hne : ∀ y ∈ r, y.id ≠ k := fun y hy => by have := hp y hy; omega
      have : delS k (x :: r) = delS k r := by simp [delS, e]
      rw [this, del_none hne, if_pos (keq_t e)]
    · have e2 : x.id ≠ k := fun h => e h.symm
      have : delS k (x :: r) = x :: delS k r := by unfold delS; rw [List.filter_cons_of_pos (by simpa using e2)]
      rw [if_neg (keq_f e), this, List.map_cons, ← ih]
theorem mtick_S {k : Int} {L : List Ss} {s : Ss} {c : Nat} (h : findS k L = some s) : mtick (.int .i64 k) c (L.map entS) = c := by
  unfold mtick
  rw [mhas_S, h]; rfl
theorem mtick_new {k : Int} {L : List Ss} {c : Nat} (h : findS k L = none) : mtick (.int .i64 k) c (L.map entS) = c + 1 := by
  unfold mtick
  rw [mhas_S, h]; rfl
end Go.Proofs.Ytaeegilpfoiagaa.Id
