/- The pure machine, part Sb: slices that came in, element by element. -/
import Derived.Test.YtpcjnpkpmaahiaaDoorPmSa
set_option linter.unusedVariables false
set_option linter.unusedSimpArgs false
namespace Go.Proofs.YtpcjnpkpmaahiaaDoor.Pm
open Go.RowKit

theorem rows_chunk {sz : Nat} : ∀ {l : List (List Value)}, (∀ x ∈ l, x.length = sz) → ∀ {k : Nat} (hk : k < l.length), (l.flatten.drop (k * sz)).take sz = l[k]
  | [], _, k, hk => by simp at hk
  | x :: l, h, 0, hk => by
    have := h x (List.mem_cons_self ..)
    simp [← this]
  | x :: l, h, k + 1, hk => by
    have h1 := h x (List.mem_cons_self ..)
    have := rows_chunk (l := l) (fun y hy => h y (List.mem_cons_of_mem _ hy)) (k := k) (by simpa using hk)
    rw [List.flatten_cons, show (k + 1) * sz = x.length + k * sz by rw [Nat.succ_mul]; omega, ← List.drop_drop, List.drop_left']
    · simpa using this
    · rfl
theorem rows_len {sz : Nat} : ∀ {l : List (List Value)}, (∀ x ∈ l, x.length = sz) → l.flatten.length = l.length * sz
  | [], _ => by simp
  | x :: l, h => by
    have h1 := h x (List.mem_cons_self ..)
    have h2 := rows_len (l := l) (fun y hy => h y (List.mem_cons_of_mem _ hy))
    rw [List.flatten_cons, List.length_append, List.length_cons, h2, h1, Nat.succ_mul]
    omega
/-- a slice of elements of sz cells each. -/
def RowsAt (h : VH) (sz : Nat) (v : Value) (l : List (List Value)) : Prop :=
  ∃ a c, v = .slice a l.length c ∧ (0 < l.length → ∃ i o cs ow, a = some ⟨i, o, none⟩ ∧ i < h.n ∧ l.length ≤ c ∧ h.get i = .cells cs ow sz ∧ ∀ k (hk : k < l.length), o + k * sz + sz ≤ cs.length ∧ (cs.drop (o + k * sz)).take sz = l[k])
theorem RowsAt.ro {h : VH} {sz : Nat} {v : Value} {l : List (List Value)} (H : RowsAt h sz v l) : RowsAt h.ro sz v l := by
  obtain ⟨a, c, rfl, hat⟩ := H
  refine ⟨a, c, rfl, fun h0 => ?_⟩
  obtain ⟨i, o, cs, ow, h1, h2, h3, h4, h5⟩ := hat h0
  exact ⟨i, o, cs, false, h1, h2, h3, by simp [VH.ro, h4, VObj.ro], h5⟩
theorem RowsAt.fr {h h' : VH} {X : List Nat} (hf : Fr h h' X) {sz : Nat} {v : Value} {l : List (List Value)} (H : RowsAt h sz v l) (hx : ∀ x ∈ idOf v, x ∉ X) : RowsAt h' sz v l := by
  have hn := hf.n
  obtain ⟨a, c, rfl, hat⟩ := H
  refine ⟨a, c, rfl, fun h0 => ?_⟩
  obtain ⟨i, o, cs, ow, rfl, h2, h3, h4, h5⟩ := hat h0
  exact ⟨i, o, cs, ow, rfl, by omega, h3, by rw [hf.get i h2 (hx i (by simp [idOf]))]; exact h4, h5⟩
theorem RowsAt.fr0 {h h' : VH} (hf : Fr h h' []) {sz : Nat} {v : Value} {l : List (List Value)} (H : RowsAt h sz v l) : RowsAt h' sz v l := H.fr hf (fun _ _ => by simp)
theorem RowsAt.shape {h : VH} {sz : Nat} {v : Value} {l : List (List Value)} (H : RowsAt h sz v l) : ∃ a c, v = .slice a l.length c := by
  obtain ⟨a, c, h1, _⟩ := H
  exact ⟨a, c, h1⟩
/-- an element, read. -/
theorem RowsAt.at_ {h : VH} {sz : Nat} {a : Option Addr} {n c : Nat} {l : List (List Value)} (H : RowsAt h sz (.slice a n c) l) {k : Nat} (hk : k < l.length) :
    ∃ i o, a = some ⟨i, o, none⟩ ∧ i < h.n ∧ eszObj (h.get i) sz = true ∧ loadObj (h.get i) (o + k * sz) (some sz) = some (.agg l[k].toArray) ∧ ∀ x, l[k] = [x] → loadObj (h.get i) (o + k * sz) none = some x := by
  obtain ⟨a', c', h1, hat⟩ := H
  injection h1 with h1 h2 h3
  subst h1
  obtain ⟨i, o, cs, ow, rfl, h2, h3, h4, h5⟩ := hat (by omega)
  obtain ⟨h6, h7⟩ := h5 k hk
  refine ⟨i, o, rfl, h2, by rw [h4]; simp [eszObj], ?_, fun x hx => ?_⟩
  · rw [h4]
    simp only [loadObj]
    rw [if_pos h6, h7]
  · rw [h4]
    show cs[o + k * sz]? = some x
    rw [hx] at h7
    have h8 := congrArg (fun l : List Value => l[0]?) h7
    have h9 := congrArg List.length h7
    simp only [List.length_take, List.length_drop, List.length_cons, List.length_nil] at h9
    rw [List.getElem?_take, if_pos (by omega), List.getElem?_drop] at h8
    simpa using h8
theorem Sh.rows {h : VH} {v : Value} {sz : Nat} {e : Ty} {k : Nat} (H : Sh h (.sl sz e) [v] k) : ∃ es : List (List Value × Nat), RowsAt h sz v (es.map (·.1)) ∧ (∀ x ∈ es, Sh h e x.1 x.2 ∧ x.2 ≤ k) ∧ (es.map (·.2)).sum ≤ k := by
  rcases H with ⟨h1, rfl⟩ | ⟨i, n, c, cs, ow, rows, h1, h2, h3, h4, h5, h6, h7, h8⟩
  · injection h1 with h1 _
    subst h1
    exact ⟨[], ⟨none, 0, rfl, fun h => by simp at h⟩, by simp, by simp⟩
  · injection h1 with h1 _
    subst h1
    have hfl : ∀ x ∈ rows.map (·.1), x.length = sz := fun x hx => by
      obtain ⟨y, hy, rfl⟩ := List.mem_map.1 hx
      exact (h7 y hy).1
    have hcl : cs.length = rows.length * sz := by rw [h6, rows_len hfl, List.length_map]
    have hsum : ∀ (l : List (List Value × Nat)) x, x ∈ l → x.2 ≤ (l.map (·.2)).sum := by
      intro l
      induction l with
      | nil => intro x hx; cases hx
      | cons y l ih =>
        intro x hx
        rw [List.map_cons, List.sum_cons]
        rcases List.mem_cons.1 hx with rfl | hx
        · omega
        · have := ih x hx; omega
    have htk : ∀ (l : List (List Value × Nat)) n, ((l.take n).map (·.2)).sum ≤ (l.map (·.2)).sum := by
      intro l
      induction l with
      | nil => intro n; simp
      | cons y l ih =>
        intro n
        cases n with
        | zero => simp
        | succ n => simp only [List.take_succ_cons, List.map_cons, List.sum_cons]; have := ih n; omega
    refine ⟨rows.take n, ⟨some ⟨i, 0, none⟩, c, by simp; omega, fun h0 => ⟨i, 0, cs, ow, rfl, h3, by simp; omega, h4, fun k hk => ?_⟩⟩, fun x hx => ?_, by have := htk rows n; omega⟩
    · have hk : k < n ∧ k < rows.length := by simp at hk; omega
      rw [Nat.zero_add]
      have h9 : (k + 1) * sz ≤ rows.length * sz := Nat.mul_le_mul_right _ (by omega)
      rw [Nat.succ_mul] at h9
      refine ⟨by omega, ?_⟩
      have := rows_chunk hfl (k := k) (by simp; omega)
      rw [← h6] at this
      rw [this]
      simp
    · have hx' := List.mem_of_mem_take hx
      exact ⟨(h7 x hx').2, by have := hsum rows x hx'; omega⟩
theorem choose_list {α β : Type} {P : α → β → Prop} : ∀ {l : List α}, (∀ x ∈ l, ∃ b, P x b) → ∃ m : List β, m.length = l.length ∧ ∀ k (hk : k < l.length) (hk' : k < m.length), P l[k] m[k]
  | [], _ => ⟨[], rfl, fun k hk => by simp at hk⟩
  | x :: l, h => by
    obtain ⟨b, hb⟩ := h x (List.mem_cons_self ..)
    obtain ⟨m, h1, h2⟩ := choose_list (l := l) (fun y hy => h y (List.mem_cons_of_mem _ hy))
    refine ⟨b :: m, by simp [h1], fun k hk hk' => ?_⟩
    cases k with
    | zero => exact hb
    | succ k => exact h2 k (by simpa using hk) (by simpa using hk')
/-- a slice of elements without addresses. -/
theorem Sh.decoded {α : Type} {h : VH} {v : Value} {sz : Nat} {e : Ty} {k : Nat} (dec : α → List Value) (B : α → Prop) (H : Sh h (.sl sz e) [v] k) (hd : ∀ vs k', Sh h e vs k' → k' ≤ k → ∃ a, vs = dec a ∧ B a ∧ 1 ≤ k') :
    ∃ l : List α, RowsAt h sz v (l.map dec) ∧ (∀ a ∈ l, B a) ∧ l.length ≤ k := by
  obtain ⟨es, h1, h2, h3⟩ := Sh.rows H
  obtain ⟨m, m1, m2⟩ := choose_list (P := fun (x : List Value × Nat) a => x.1 = dec a ∧ B a ∧ 1 ≤ x.2) (l := es) (fun x hx => hd x.1 x.2 (h2 x hx).1 (h2 x hx).2)
  have hm : es.map (·.1) = m.map dec := by
    apply List.ext_getElem
    · simp [m1]
    · intro k h4 h5
      simp only [List.getElem_map]
      exact (m2 k (by simpa using h4) (by simpa using h5)).1
  refine ⟨m, by rw [← hm]; exact h1, fun a ha => ?_, ?_⟩
  · obtain ⟨k, hk, rfl⟩ := List.getElem_of_mem ha
    exact (m2 k (by omega) hk).2.1
  · have : ∀ (l : List (List Value × Nat)), (∀ x ∈ l, 1 ≤ x.2) → l.length ≤ (l.map (·.2)).sum := by
      intro l
      induction l with
      | nil => intro _; simp
      | cons y l ih =>
        intro hl
        rw [List.map_cons, List.sum_cons, List.length_cons]
        have := ih (fun x hx => hl x (List.mem_cons_of_mem _ hx))
        have := hl y (List.mem_cons_self ..)
        omega
    have := this es (fun x hx => by
      obtain ⟨k, hk, rfl⟩ := List.getElem_of_mem hx
      exact (m2 k hk (by omega)).2.2)
    omega
theorem Sh.ints {h : VH} {v : Value} {k : Nat} (H : Sh h (.sl 1 (.int .i64)) [v] k) : ∃ l : List Int, RowsAt h 1 v (l.map fun x => [.int .i64 x]) ∧ (∀ x ∈ l, -9223372036854775808 ≤ x ∧ x < 9223372036854775808) ∧ l.length ≤ k :=
  Sh.decoded (fun x => [.int .i64 x]) _ H (fun vs k' hs _ => let ⟨n, h1, h2, h3, h4⟩ := Sh.i64 hs; ⟨n, h1, ⟨h2, h3⟩, by omega⟩)
end Go.Proofs.YtpcjnpkpmaahiaaDoor.Pm
