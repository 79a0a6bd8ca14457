/- slots, part N: what comes in; a table among other things. -/
import Derived.Test.YtoenamablkkocaaSlM
set_option linter.unusedVariables false
set_option linter.unusedSimpArgs false
set_option maxRecDepth 100000
namespace Go.Proofs.Ytoenamablkkocaa.Sl
open Go Go.RowKit Go.Proofs.Ytoenamablkkocaa.Pm Go.Proofs.Ytoenamablkkocaa.Fs Go.Proofs.Ytoenamablkkocaa.Fa

structure OpS where
  k : Int
  nm : List UInt8
  w : Int
  j : Jb
def opC (o : OpS) : List Value := opL o.k (strB o.nm) o.w o.j.id o.j.cost
def jbT : Ty := .cons 1 (.int .i64) (.cons 1 (.int .i64) .nil)
def opT : Ty := .cons 1 (.int .i64) (.cons 1 .str (.cons 1 (.int .i64) (.cons 2 jbT .nil)))
theorem Sh.op {h : VH} {vs : List Value} {k : Nat} (H : Sh h opT vs k) : ∃ o : OpS, vs = opC o ∧ 1 ≤ k := by
  obtain ⟨v1, r1, k1, l1, rfl, hl1, s1, ⟨v2, r2, k2, l2, rfl, hl2, s2, ⟨v3, r3, k3, l3, rfl, hl3, s3, ⟨v4, r4, k4, l4, rfl, hl4, s4, ⟨rfl, e5⟩, e4⟩, e3⟩, e2⟩, e1⟩ := H
  obtain ⟨v5, r5, k5, l5, rfl, hl5, s5, ⟨v6, r6, k6, l6, rfl, hl6, s6, ⟨rfl, e7⟩, e8⟩, e9⟩ := s4
  obtain ⟨w2, rfl⟩ := list_one hl2
  obtain ⟨a, rfl, a1, a2, ha⟩ := Sh.i64 s1
  obtain ⟨t, rfl, ht⟩ := Sh.str s2
  obtain ⟨b, rfl, b1, b2, hb⟩ := Sh.i64 s3
  obtain ⟨c, rfl, c1, c2, hc⟩ := Sh.i64 s5
  obtain ⟨d, rfl, d1, d2, hd⟩ := Sh.i64 s6
  exact ⟨⟨a, t, b, ⟨c, d⟩⟩, rfl, by omega⟩
theorem Sh.ops {h : VH} {v : Value} {k : Nat} (H : Sh h (.sl 5 opT) [v] k) : ∃ l : List OpS, RowsAt h 5 v (l.map opC) ∧ l.length ≤ k :=
  let ⟨l, h1, _, h3⟩ := Sh.decoded opC (fun _ => True) H (fun vs k' hs hk => let ⟨o, h1, h2⟩ := Sh.op hs; ⟨o, h1, trivial, h2⟩)
  ⟨l, h1, h3⟩
theorem Sh.strsL {h : VH} {v : Value} {k : Nat} (H : Sh h (.sl 1 .str) [v] k) : ∃ l : List (List UInt8), RowsAt h 1 v (l.map fun x => [.string (strB x)]) ∧ l.length ≤ k :=
  let ⟨l, h1, _, h3⟩ := Sh.decoded (fun x => [.string (strB x)]) (fun _ => True) H (fun vs k' hs hk => by
    obtain ⟨x, rfl, _⟩ := id hs
    obtain ⟨t, ht, hk⟩ := Sh.str hs
    exact ⟨t, by rw [ht], trivial, by omega⟩)
  ⟨l, h1, h3⟩
theorem nil_law {h : VH} {us : List Value} {k : Nat} (H : ShA h [opT] us k) (hk : k ≤ 1048576) :
    PCalls Try.prog f_law21_SlotsNil us h (fun u h' => u = .bool true ∧ h' = h) := by
  obtain ⟨v, r, k1, k2, rfl, ⟨cs, rfl, hcs⟩, ⟨rfl, _⟩, h6⟩ := H
  obtain ⟨o, rfl, _⟩ := Sh.op hcs
  exact (nil_ok'.mono fun u _ e => by subst e; exact ⟨rfl, rfl⟩).drop

theorem field_load {ob : VObj} {o n j : Nat} {l : List Value} (h : loadObj ob o (some n) = some (.agg l.toArray)) (hj : j < n) : loadObj ob (o + j) none = l[j]? := by
  cases ob with
  | cells cs ow z =>
    simp only [loadObj] at h ⊢
    split at h
    · injection h with h
      injection h with h
      have h := congrArg Array.toList h
      simp only at h
      rw [← h, List.getElem?_take, if_pos hj, List.getElem?_drop]
    · cases h
  | _ => simp [loadObj] at h
theorem field_loadN {ob : VObj} {o n j m : Nat} {l : List Value} (h : loadObj ob o (some n) = some (.agg l.toArray)) (hj : j + m ≤ n) : loadObj ob (o + j) (some m) = some (.agg ((l.drop j).take m).toArray) := by
  cases ob with
  | cells cs ow z =>
    simp only [loadObj] at h ⊢
    split at h
    · rename_i hl
      injection h with h
      injection h with h
      have h := congrArg Array.toList h
      simp only at h
      rw [if_pos (by omega), ← h, List.drop_take, List.drop_drop, List.take_take, Nat.min_eq_left (by omega)]
    · cases h
  | _ => simp [loadObj] at h
theorem idle_set {T : Tb} (h : idleS T.ts = true) (nm : List UInt8) (w : Int) : idleS (setT T nm w).2.ts = true := by
  have h1 : ∀ t ∈ T.ts, t.l = [] := fun t ht => idle_true h t ht
  have key : ∀ t ∈ (setT T nm w).2.ts, t.l = [] := by
    unfold setT
    split
    · exact h1
    split
    · rename_i t ht
      split
      · rename_i hl
        intro x hx
        rcases mem_putT hx with rfl | hx
        · exact hl
        · exact h1 x hx
      · exact h1
    · split
      · exact h1
      split
      · exact h1
      · intro x hx
        rcases List.mem_cons.1 ((insT_perm _ _).mem_iff.1 hx) with rfl | hx
        · rfl
        · exact h1 x hx
  unfold idleS
  rw [List.all_eq_true]
  intro t ht
  rw [key t ht]
  rfl
theorem set_sl (T : Tb) (nm : List UInt8) (w : Int) : (setT T nm w).2.sl = T.sl := by
  unfold setT
  split
  · rfl
  split
  · split <;> rfl
  · split
    · rfl
    split <;> rfl
/-- a table that was laid behind h, of which nothing has turned. -/
structure TS (h g : VH) (i : Nat) (T : Tb) (Z : List Nat) : Prop where
  at_ : TbAt g i T Z
  ok : OkTb T
  fr : Fr h g []
  new : ∀ x ∈ Z, h.n ≤ x
theorem TS.step {h g g' : VH} {i : Nat} {T T' : Tb} {Z Z' : List Nat} (k : TS h g i T Z) (hat : TbAt g' i T' Z') (mv : Mv g g' Z Z') (ok : OkTb T') : TS h g' i T' Z' :=
  ⟨hat, ok, k.fr.trans' mv.fr (fun y hy => .inr (k.new y hy)), fun x hx => (mv.ids x hx).elim (k.new x) (fun h => Nat.le_trans k.fr.n h)⟩
theorem TS.fr0 {h g g' : VH} {i : Nat} {T : Tb} {Z : List Nat} (k : TS h g i T Z) (F : Fr g g' []) : TS h g' i T Z := ⟨k.at_.fr0 F, k.ok, k.fr.trans F, k.new⟩
end Go.Proofs.Ytoenamablkkocaa.Sl
