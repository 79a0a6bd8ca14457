/- ident, part S: the reference's table. -/
import Derived.Test.YtaeegilpfoiagaaIdR
set_option linter.unusedVariables false
set_option linter.unusedSimpArgs false
set_option maxRecDepth 100000
namespace Go.Proofs.Ytaeegilpfoiagaa.Id
open Go Go.RowKit Go.Proofs.Ytaeegilpfoiagaa.Pm Go.Proofs.Ytaeegilpfoiagaa.Fs


def rowS (s : Ss) : List Value := [.int .i64 s.id, .string (strB s.x), .string (strB s.y), .bool s.z, .int .i64 s.o]
theorem rowS_len (s : Ss) : (rowS s).length = 5 := rfl
structure RTab (h : VH) (r : Nat) (v : Value) (L : List Ss) (last : Int) : Prop where
  rec_ : h.get r = .cells [v, .int .i64 last] true 1
  own : OwnSl h 5 v (L.flatMap rowS) L.length
  nv : r ∉ idOf v
  lt : r < h.n
theorem RTab.fr {h h' : VH} {r : Nat} {v : Value} {L : List Ss} {last : Int} {X : List Nat} (k : RTab h r v L last) (hf : Fr h h' X) (hr : r ∉ X) (hx : ∀ x ∈ idOf v, x ∉ X) : RTab h' r v L last :=
  ⟨by rw [hf.get _ k.lt hr]; exact k.rec_, k.own.fr hf hx, k.nv, Nat.lt_of_lt_of_le k.lt hf.n⟩
theorem RTab.fr0 {h h' : VH} {r : Nat} {v : Value} {L : List Ss} {last : Int} (k : RTab h r v L last) (hf : Fr h h' []) : RTab h' r v L last := k.fr hf (by simp) (fun _ _ => by simp)
theorem at_split {α : Type} {l : List α} {n : Nat} (h : n < l.length) : l = l.take n ++ l[n] :: l.drop (n + 1) := by
  rw [← List.drop_eq_getElem_cons h, List.take_append_drop]
/-- a session's row. -/
theorem RTab.row {h : VH} {r : Nat} {v : Value} {A B : List Ss} {s : Ss} {last : Int} (k : RTab h r v (A ++ s :: B) last) :
    ∃ q o c ds, v = .slice (some ⟨q, o, none⟩) (A ++ s :: B).length c ∧ (A ++ s :: B).length ≤ c ∧ q < h.n ∧ h.get q = .cells ds true 5 ∧ eszObj (.cells ds true 5) 5 = true ∧ (ds.drop (o + A.length * 5)).take 5 = rowS s ∧ o + A.length * 5 + 5 ≤ ds.length ∧
      loadObj (.cells ds true 5) (o + A.length * 5) none = some (.int .i64 s.id) ∧ loadObj (.cells ds true 5) (o + A.length * 5 + 1) none = some (.string (strB s.x)) ∧
      loadObj (.cells ds true 5) (o + A.length * 5 + 4) none = some (.int .i64 s.o) ∧ loadObj (.cells ds true 5) (o + A.length * 5 + 1) (some 3) = some (.agg #[.string (strB s.x), .string (strB s.y), .bool s.z]) ∧ loadObj (.cells ds true 5) (o + A.length * 5) (some 5) = some (.agg (rowS s).toArray) ∧
      ∀ (s' : Ss) (g' : VH), h.n ≤ g'.n → g'.get q = .cells (wr ds (o + A.length * 5) (rowS s')) true 5 → OwnSl g' 5 v ((A ++ s' :: B).flatMap rowS) (A ++ s :: B).length := by
  obtain ⟨q, o, c, ds, h1, h2, h3, h4, h5, h6, h7, h8⟩ := OwnSl.el rowS_len (by decide) k.own (A := A) (B := B) (a := s) rfl
  refine ⟨q, o, c, ds, h1, h3, h4, h5, rfl, h6, h7, el_field (f := 0) h6 h7 (by decide), el_field (f := 1) h6 h7 (by decide), el_field (f := 4) h6 h7 (by decide), ?_, el_load h6 h7, h8⟩
  have h9 : (ds.drop (o + A.length * 5 + 1)).take 3 = [.string (strB s.x), .string (strB s.y), .bool s.z] := by
    have := congrArg (fun l : List Value => (l.drop 1).take 3) h6
    simp only [List.drop_take, List.drop_drop, List.take_take] at this
    simpa [rowS] using this
  exact el_load h9 (by omega)

theorem wrong_ok (now span : Int) (h : VH) : PCalls Try.prog f_ref10_wrong [.int .i64 now, .int .i64 span] h (fun u h' => u = .bool (decide (¬ canP now span)) ∧ h' = h) := by
  refine PCalls_of_pw st_ref10_wrong (by simp [n_ref10_wrong]) ?_
  rw [b_ref10_wrong]
  by_cases h1 : now < 0
  · have : ¬ canP now span := fun hc => by have := hc.1.1; omega
    rw [decide_eq_true this]
    simp (disch := first|omega|(simp only [np,ns];try omega)) [r_ref10_wrong, B_ref10_wrong, h1]
  · by_cases h2 : 1125899906842624 < now
    · have : ¬ canP now span := fun hc => by have := hc.1.2; omega
      rw [decide_eq_true this]
      simp (disch := first|omega|(simp only [np,ns];try omega)) [r_ref10_wrong, B_ref10_wrong, h1, h2]
    · by_cases h3 : span < 1
      · have : ¬ canP now span := fun hc => by have := hc.2.1; omega
        rw [decide_eq_true this]
        simp (disch := first|omega|(simp only [np,ns];try omega)) [r_ref10_wrong, B_ref10_wrong, h1, h2, h3]
      · by_cases h4 : 1125899906842624 < span
        · have : ¬ canP now span := fun hc => by have := hc.2.2; omega
          rw [decide_eq_true this]
          simp (disch := first|omega|(simp only [np,ns];try omega)) [r_ref10_wrong, B_ref10_wrong, h1, h2, h3, h4]
        · have : ¬ ¬ canP now span := fun hc => hc ⟨⟨by omega, by omega⟩, by omega, by omega⟩
          rw [decide_eq_false this]
          simp (disch := first|omega|(simp only [np,ns];try omega)) [r_ref10_wrong, B_ref10_wrong, h1, h2, h3, h4]
theorem over_ok {now span : Int} (hc : canP now span) (h : VH) : PCalls Try.prog f_ref10_over [.int .i64 now, .int .i64 span] h (fun u h' => u = .int .i64 (endP now span) ∧ h' = h) := by
  obtain ⟨⟨h1, h2⟩, h3, h4⟩ := hc
  refine PCalls_of_pw st_ref10_over (by simp [n_ref10_over]) ?_
  rw [b_ref10_over]
  have e : IntKind.i64.wrap (now + span) = now + span := i64_small (by omega) (by omega)
  by_cases h5 : 1125899906842624 < now + span
  · have : endP now span = 1125899906842624 := by unfold endP; rw [if_pos h5]
    rw [this]
    simp (disch := first|omega|(simp only [np,ns];try omega)) [r_ref10_over, B_ref10_over, e, h5]
  · have : endP now span = now + span := by unfold endP; rw [if_neg h5]
    rw [this]
    simp (disch := first|omega|(simp only [np,ns];try omega)) [r_ref10_over, B_ref10_over, e, h5]

section
variable {v w : Value} {ow : Bool} {e : Nat}
theorem lr_0 : loadObj (.cells [v, w] ow e) 0 none = some v := rfl
theorem lr_1 : loadObj (.cells [v, w] ow e) 1 none = some w := rfl
theorem sr_0 {n m : Nat} {a : Option Addr} : storeObj (.cells [v, w] true e) 0 1 (.slice a n m) = some (.cells [.slice a n m, w] true e) := rfl
theorem sr_1 {n : Int} : storeObj (.cells [v, w] true e) 1 1 (.int .i64 n) = some (.cells [v, .int .i64 n] true e) := rfl
end
def RAt (id : Int) (L : List Ss) (u : Value) : Prop := (∃ A s B, L = A ++ s :: B ∧ s.id = id ∧ (∀ x ∈ A, x.id ≠ id) ∧ u = .int .i64 (A.length : Int)) ∨ (u = .int .i64 (-1) ∧ ∀ x ∈ L, x.id ≠ id)
theorem find_at {id : Int} {s : Ss} {B : List Ss} (hs : s.id = id) : ∀ {A : List Ss}, (∀ x ∈ A, x.id ≠ id) → findS id (A ++ s :: B) = some s
  | [], _ => by simp [findS, hs]
  | a :: A, h => by
    have h1 := h a (List.mem_cons_self ..)
    rw [List.cons_append]
    unfold findS
    rw [if_neg (fun e => h1 e.symm)]
    exact find_at hs (fun x hx => h x (List.mem_cons_of_mem _ hx))
set_option maxHeartbeats 1000000 in
theorem rfind_ok {h : VH} {r : Nat} {v : Value} {L : List Ss} {last id : Int} (k : RTab h r v L last) (hL : L.length ≤ 64) :
    PCalls Try.prog f_ref10_Table_find [.pointer (some ⟨r, 0, none⟩), .int .i64 id] h (fun u h' => RAt id L u ∧ h' = h) := by
  refine PCalls_of_pw st_ref10_Table_find (by simp [n_ref10_Table_find]) ?_
  rw [b_ref10_Table_find]
  unfold B_ref10_Table_find
  have hr := k.rec_
  obtain ⟨a, c, rfl⟩ := k.own.shapeN
  obtain ⟨N, hN⟩ : ∃ N, N = L.length := ⟨_, rfl⟩
  rw [← hN] at hr hL
  simp (disch := first|omega|(simp only [np,ns];try omega)) []
  refine pw_loopN (fun n s g => g = h ∧ s 0 = .pointer (some ⟨r, 0, none⟩) ∧ s 1 = .int .i64 id ∧ s 5 = .int .i64 (n : Int) ∧ ∀ x ∈ L.take n, x.id ≠ id) N ?_ ?_
  · exact ⟨rfl, by simp [upd_apply, s0_apply], by simp [upd_apply, s0_apply], by simp [upd_apply], by simp⟩
  rintro n s g hnN ⟨rfl, e0, e1, e5, hnot⟩
  by_cases hlt : n < N
  · have hltI : (n : Int) < (N : Int) := by omega
    have hkk : IntKind.i64.wrap ((n : Int) + 1) = ((n + 1 : Nat) : Int) := by rw [i64_small (by omega) (by omega)]; omega
    have hspl := at_split (l := L) (n := n) (by omega)
    have k' := k
    rw [hspl] at k'
    obtain ⟨q, o, c', ds, hv, hc, hi, hg, hez, _, _, hl0, _⟩ := k'.row
    have htl : (L.take n).length = n := by rw [List.length_take]; omega
    rw [htl] at hl0
    injection hv with hv _ hvc
    subst hv
    subst hvc
    by_cases hid : (L[n]'(by omega)).id = id
    · have hb : ((L[n]'(by omega)).id == id) = true := by simpa using hid
      simp (disch := first|omega|(simp only [np,ns];try omega)) [r_ref10_Table_find, e0, e1, e5, hr, lr_0, hlt, hltI, hg, hez, hl0, hb]
      exact .inl ⟨L.take n, L[n]'(by omega), L.drop (n + 1), hspl, hid, hnot, by rw [htl]⟩
    · have hb : ((L[n]'(by omega)).id == id) = false := by rw [beq_eq_false_iff_ne]; exact hid
      simp (disch := first|omega|(simp only [np,ns];try omega)) [e0, e1, e5, hr, lr_0, hlt, hltI, hg, hez, hl0, hb, hkk]
      intro x hx
      rw [List.take_succ_eq_append_getElem (by omega), List.mem_append] at hx
      rcases hx with hx | hx
      · exact hnot x hx
      · simp at hx; subst hx; exact hid
  · obtain rfl : n = N := by omega
    simp (disch := first|omega|(simp only [np,ns];try omega)) [r_ref10_Table_find, e0, e5, hr, lr_0]
    rw [hN, List.take_length] at hnot
    exact .inr ⟨rfl, hnot⟩
set_option maxHeartbeats 2000000 in
theorem rwho_ok {h : VH} {r : Nat} {v : Value} {L : List Ss} {last id now : Int} (k : RTab h r v L last) (hL : L.length ≤ 64) :
    PCalls Try.prog f_ref10_Table_Who [.pointer (some ⟨r, 0, none⟩), .int .i64 id, .int .i64 now] h (fun u h' => u = whoV (whoS id now L) ∧ Fr h h' []) := by
  refine PCalls_of_pw st_ref10_Table_Who (by simp [n_ref10_Table_Who]) ?_
  rw [b_ref10_Table_Who]
  unfold B_ref10_Table_Who
  obtain ⟨g1, hg1⟩ : ∃ g1, g1 = h.push (.cells [.string ⟨#[]⟩, .string ⟨#[]⟩, .bool false] true 1) := ⟨_, rfl⟩
  have f1 : Fr h g1 [] := by rw [hg1]; exact Fr_push (Fr.refl _ _)
  have o1 : g1.get h.n = .cells [.string ⟨#[]⟩, .string ⟨#[]⟩, .bool false] true 1 := by rw [hg1, VH.get_push_new]
  have k1 := k.fr0 f1
  simp (disch := first|omega|(simp only [np,ns];try omega)) [← hg1]
  refine (rfind_ok k1 hL).mono ?_
  rintro u g2 ⟨hat, rfl⟩
  rcases hat with ⟨A, s, B, hspl, hid, hnot, rfl⟩ | ⟨rfl, hnot⟩
  · have hf : findS id L = some s := by rw [hspl]; exact find_at hid hnot
    have hr := k1.rec_
    have k' := k1
    rw [hspl] at k'
    obtain ⟨q, o, c, ds, hv, hc, hi, hg, hez, _, _, hl0, hl1, hl4, hl3, _⟩ := k'.row
    obtain ⟨K, hK⟩ : ∃ K, K = A.length := ⟨_, rfl⟩
    obtain ⟨N, hN⟩ : ∃ N, N = L.length := ⟨_, rfl⟩
    have hKN : K < N := by rw [hN, hspl, hK]; simp
    rw [← hspl, ← hN] at hv hc
    rw [← hK] at hl0 hl1 hl3 hl4 ⊢
    subst hv
    have hKI : ¬ (K : Int) < 0 := by omega
    have hKN' : (K : Int) < (N : Int) := by omega
    by_cases hlt : now < s.o
    · have hge : ¬ s.o ≤ now := by omega
      simp (disch := first|omega|(simp only [np,ns];try omega)) [r_ref10_Table_Who, hKI, hr, lr_0, hKN, hKN', hg, hez, hl4, hge, hl3, o1, id_stA, id_ldA]
      refine ⟨by unfold whoS; rw [hf]; simp [hlt, whoV, idV], ?_⟩
      exact Fr_set f1 (Nat.le_refl _)
    · have hge : s.o ≤ now := by omega
      simp (disch := first|omega|(simp only [np,ns];try omega)) [r_ref10_Table_Who, hKI, hr, lr_0, hKN, hKN', hg, hez, hl4, hge, hl3, o1, id_stA, id_ldA, fillC_nil]
      refine ⟨by unfold whoS; rw [hf]; simp [hlt, whoV, idV, noneR]; rfl, ?_⟩
      exact Fr_set f1 (Nat.le_refl _)
  · have hf : findS id L = none := find_none hnot
    simp (disch := first|omega|(simp only [np,ns];try omega)) [r_ref10_Table_Who, o1, id_stA, id_ldA, fillC_nil]
    refine ⟨by unfold whoS; rw [hf]; simp [whoV, idV, noneR]; rfl, ?_⟩
    exact Fr_set f1 (Nat.le_refl _)
end Go.Proofs.Ytaeegilpfoiagaa.Id
