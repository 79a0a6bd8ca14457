/- ident, part T: the reference's table: open, renew, close, expire. -/
import Derived.Test.YtaeegilpfoiagaaIdS
set_option linter.unusedVariables false
set_option linter.unusedSimpArgs false
set_option maxRecDepth 100000
namespace Go.Proofs.Ytaeegilpfoiagaa.Id
open Go Go.RowKit Go.Proofs.Ytaeegilpfoiagaa.Pm Go.Proofs.Ytaeegilpfoiagaa.Fs


abbrev zS : List Value := [.int .i64 0, .string ⟨#[]⟩, .string ⟨#[]⟩, .bool false, .int .i64 0]
set_option maxHeartbeats 4000000 in
theorem ropen_ok {h : VH} {r : Nat} {v : Value} {L : List Ss} {clk : Nat} {last : Int} {s x y : List UInt8} {z : Bool} {e n : Nat} {now span : Int} (k : RTab h r v L last) (hL : L.length ≤ 64) (hs : s.length ≤ maxLen) (hp : parseS s = prV x y z e n)
    (hl0 : 0 ≤ last) (hl1 : last ≤ 1000000000000) : PCalls Try.prog f_ref10_Table_Open [.pointer (some ⟨r, 0, none⟩), .string (strB s), .int .i64 now, .int .i64 span] h (fun u h' =>
      (¬ opens e now span L ∧ u = .tuple #[.int .i64 0, .int .i64 (openE e now span L : Nat)] ∧ RTab h' r v L last ∧ Fr h h' (r :: idOf v)) ∨
      (opens e now span L ∧ u = .tuple #[.int .i64 (last + 1), .int .i64 0] ∧ Fr h h' (r :: idOf v) ∧ ∃ v', RTab h' r v' (L ++ [Ss.mk (last + 1) x y z (endP now span) clk]) (last + 1) ∧ ∀ i ∈ idOf v', i ∈ idOf v ∨ h.n ≤ i)) := by
  refine PCalls_of_pw st_ref10_Table_Open (by simp [n_ref10_Table_Open]) ?_
  rw [b_ref10_Table_Open]
  unfold B_ref10_Table_Open
  simp (disch := first|omega|(simp only [np,ns];try omega)) []
  refine (rparse_ok hs).mono ?_
  rintro u h0 ⟨rfl, rfl⟩
  rw [hp]
  unfold prV idV
  obtain ⟨g1, hg1⟩ : ∃ g1, g1 = (h0.push (.cells [.string ⟨#[]⟩, .string ⟨#[]⟩, .bool false] true 1)).set h0.n (.cells [.string (strB x), .string (strB y), .bool z] true 1) := ⟨_, rfl⟩
  have f1 : Fr h0 g1 [] := by rw [hg1]; exact Fr_set (Fr_push (Fr.refl _ _)) (Nat.le_refl _)
  have n1 : g1.n = h0.n + 1 := by rw [hg1]; rfl
  have o1 : g1.get h0.n = .cells [.string (strB x), .string (strB y), .bool z] true 1 := by rw [hg1, VH.get_set_same]
  have k1 := k.fr0 f1
  have hr := k1.rec_
  have hrl := k.lt
  obtain ⟨N, hN⟩ : ∃ N, N = L.length := ⟨_, rfl⟩
  obtain ⟨a, c, hv⟩ := k.own.shapeN
  rw [← hN] at hv
  subst hv
  by_cases he : e = 0
  · have heI : ((e : Int) != 0) = false := by rw [he]; rfl
    simp (disch := first|omega|(simp only [np,ns];try omega)) [id_stA, ← hg1, heI]
    refine (wrong_ok now span _).mono ?_
    rintro u h2 ⟨rfl, rfl⟩
    by_cases hc : canP now span
    · rw [decide_eq_false (fun hx => hx hc)]
      by_cases hf : 64 ≤ N
      · have hfI : (64 : Int) ≤ (N : Int) := by omega
        simp (disch := first|omega|(simp only [np,ns];try omega)) [r_ref10_Table_Open, hr, lr_0, hf, hfI]
        refine ⟨fun hx => by have := hx.2.2; omega, ?_, k1, f1.sub (by simp)⟩
        unfold openE
        rw [if_neg (by omega), if_neg (by simpa using hc), if_pos (by omega)]
        rfl
      · have hfI : ¬ (64 : Int) ≤ (N : Int) := by omega
        have eW : IntKind.i64.wrap (last + 1) = last + 1 := i64_small (by omega) (by omega)
        obtain ⟨g2, hg2⟩ : ∃ g2, g2 = h2.set r (.cells [.slice a N c, .int .i64 (last + 1)] true 1) := ⟨_, rfl⟩
        have f2 : Fr h2 g2 [r] := by rw [hg2]; exact Fr.set _ _ (by simp)
        have r2 : g2.get r = .cells [.slice a N c, .int .i64 (last + 1)] true 1 := by rw [hg2, VH.get_set_same]
        have o2 := (f2.get h0.n (by omega) (by simp; omega)).trans o1
        have hown2 := k1.own.fr f2 (fun i hi hx => by simp at hx; subst hx; exact k1.nv hi)
        simp (disch := first|omega|(simp only [np,ns];try omega)) [hr, lr_0, lr_1, hf, hfI, sr_1, eW, ← hg2, r2, o2, id_ldA]
        refine (over_ok hc _).mono ?_
        rintro u g2 ⟨rfl, rfl⟩
        obtain ⟨S, hS⟩ : ∃ S : Ss, S = ⟨last + 1, x, y, z, endP now span, clk⟩ := ⟨_, rfl⟩
        have hSr : rowS S = [.int .i64 (last + 1), .string (strB x), .string (strB y), .bool z, .int .i64 (endP now span)] := by rw [hS]; rfl
        obtain ⟨g3, hg3⟩ : ∃ g3, g3 = g2.push (.cells (rowS S) true 5) := ⟨_, rfl⟩
        have f3 : Fr g2 g3 [] := by rw [hg3]; exact Fr_push (Fr.refl _ _)
        have n3 : g3.n = g2.n + 1 := by rw [hg3]; rfl
        have q3 : g3.get g2.n = .cells (rowS S) true 5 := by rw [hg3, VH.get_push_new]
        have hn2 := f2.n
        have r3 := (f3.get r (by omega) (by simp)).trans r2
        obtain ⟨v', g4, hap, ho4, f4, hid4⟩ := (hown2.fr f3 (fun _ _ => by simp)).append (bytes := 56) (ys := rowS S) (k := 1) rfl (by omega)
        obtain ⟨a', c', rfl⟩ := ho4.shapeN
        rw [← hN] at hap ho4 hid4
        have hfi : fillC zS [(0, 1, .int .i64 (last + 1)), (1, 3, .agg #[.string (strB x), .string (strB y), .bool z]), (4, 1, .int .i64 (endP now span))] = some (rowS S) := by rw [hSr]; rfl
        have hfi2 : fillC zS [(0, 5, .agg (rowS S).toArray)] = some (rowS S) := by rw [hSr]; rfl
        have hone : (rowS S).all Value.oneCell' = true := by rw [hSr]; rfl
        have hro : rowObj (.cells (rowS S) true 5) 0 5 = some (rowS S) := by rw [hSr]; rfl
        have r4 := (f4.get r (by omega) k.nv).trans r3
        obtain ⟨g5, hg5⟩ : ∃ g5, g5 = g4.set r (.cells [.slice a' (N + 1) c', .int .i64 (last + 1)] true 1) := ⟨_, rfl⟩
        have f5 : Fr g4 g5 [r] := by rw [hg5]; exact Fr.set _ _ (by simp)
        have r5 : g5.get r = .cells [.slice a' (N + 1) c', .int .i64 (last + 1)] true 1 := by rw [hg5, VH.get_set_same]
        simp (disch := first|omega|(simp only [np,ns];try omega)) [r_ref10_Table_Open, o2, id_ldA, r2, r3, lr_0, hfi, hfi2, hone, ← hg3, q3, hro, Option.bind_some, hap, r4, sr_0, ← hg5, r5, lr_1]
        have hop : opens e now span L := ⟨he, hc, by omega⟩
        have F13 : Fr h0 g3 [r] := ((f1.sub (by simp)).trans f2).trans (f3.sub (by simp))
        refine .inr ⟨hop, ?_, .slice a' (N + 1) c', ⟨r5, ?_, ?_, ?_⟩, ?_⟩
        · exact ((F13.sub (by simp)).trans (f4.sub (fun i hi => List.mem_cons_of_mem _ hi))).trans (f5.sub (by simp))
        · rw [List.flatMap_append, List.flatMap_singleton, List.length_append, ← hN, ← hS]
          exact ho4.fr f5 (fun i hi hx => by
            simp at hx; subst hx
            rcases hid4 _ hi with h6 | h6
            · exact k.nv h6
            · omega)
        · intro hx
          rcases hid4 _ hx with h6 | h6
          · exact k.nv h6
          · omega
        · have := f4.n; have := f5.n; omega
        · intro i hi
          exact (hid4 i hi).imp id (fun h6 => by omega)
    · rw [decide_eq_true hc]
      simp (disch := first|omega|(simp only [np,ns];try omega)) [r_ref10_Table_Open]
      refine ⟨fun hx => hc hx.2.1, ?_, k1, f1.sub (by simp)⟩
      unfold openE
      rw [if_neg (by omega), if_pos hc]
      rfl
  · have heI : ((e : Int) != 0) = true := by rw [bne_iff_ne]; omega
    simp (disch := first|omega|(simp only [np,ns];try omega)) [r_ref10_Table_Open, id_stA, ← hg1, heI]
    refine .inl ⟨fun hx => he hx.1, ?_, k1, f1.sub (by simp)⟩
    unfold openE
    rw [if_pos he]
theorem OwnSl.part {h : VH} {e q o n c : Nat} {cs : List Value} (k : OwnSl h e (.slice (some ⟨q, o, none⟩) n c) cs n) {lo m : Nat} (hm : lo + m ≤ n) : rowObj (h.get q) (o + lo * e) (m * e) = some ((cs.drop (lo * e)).take (m * e)) := by
  rcases k with ⟨h1, _⟩ | ⟨i, o', c', ds, h1, h2, h3, h4, h5, h6, h7⟩
  · cases h1
  · injection h3 with h3
    injection h3 with h3
    injection h3 with h3 h3'
    subst h3
    subst h3'
    have hd : ds.length = o + n * e := by
      have := congrArg List.length h5
      simp at this
      omega
    have h8 : lo * e + m * e ≤ n * e := by rw [← Nat.add_mul]; exact Nat.mul_le_mul_right e hm
    rw [h4]
    simp only [rowObj]
    rw [if_pos (by omega), ← h5, List.drop_drop]
theorem OwnSl.esz {h : VH} {e q o n c : Nat} {cs : List Value} (k : OwnSl h e (.slice (some ⟨q, o, none⟩) n c) cs n) : eszObj (h.get q) e = true := by
  rcases k with ⟨h1, _⟩ | ⟨i, o', c', ds, h1, h2, h3, h4, h5, h6, h7⟩
  · cases h1
  · injection h3 with h3
    injection h3 with h3
    injection h3 with h3 h3'
    subst h3
    rw [h4]; simp [eszObj]
theorem drop_flat {α : Type} {C : α → List Value} {z : Nat} (hC : ∀ a, (C a).length = z) : ∀ (l : List α) (k : Nat), (l.flatMap C).drop (k * z) = (l.drop k).flatMap C
  | l, 0 => by simp
  | [], k + 1 => by simp
  | a :: l, k + 1 => by
    rw [List.flatMap_cons, Nat.succ_mul, Nat.add_comm, ← List.drop_drop, List.drop_left' (hC a), drop_flat hC l k]
    rfl
theorem take_flat {α : Type} {C : α → List Value} {z : Nat} (hC : ∀ a, (C a).length = z) : ∀ (l : List α) (k : Nat), (l.flatMap C).take (k * z) = (l.take k).flatMap C
  | l, 0 => by simp
  | [], k + 1 => by simp
  | a :: l, k + 1 => by
    rw [List.flatMap_cons, Nat.succ_mul, Nat.add_comm, List.take_succ_cons, List.flatMap_cons, ← take_flat hC l k, ← hC a, List.take_length_add_append]

theorem ren_at {A B : List Ss} {s : Ss} {id o last : Int} {clk : Nat} (k : OkL (A ++ s :: B) last clk) (hs : s.id = id) : renS id o (A ++ s :: B) = A ++ { s with o := o } :: B := by
  have h1 := List.pairwise_append.1 k.ids
  have h2 := List.pairwise_cons.1 h1.2.1
  have hA : ∀ x ∈ A, x.id ≠ id := fun x hx => by have := h1.2.2 x hx s (List.mem_cons_self ..); omega
  have hB : ∀ x ∈ B, x.id ≠ id := fun x hx => by have := h2.1 x hx; omega
  have e1 : renS id o (A ++ s :: B) = renS id o A ++ (if s.id = id then { s with o := o } else s) :: renS id o B := by simp [renS]
  rw [e1, ren_none hA, ren_none hB, if_pos hs]
theorem del_at {A B : List Ss} {s : Ss} {id last : Int} {clk : Nat} (k : OkL (A ++ s :: B) last clk) (hs : s.id = id) : delS id (A ++ s :: B) = A ++ B := by
  have h1 := List.pairwise_append.1 k.ids
  have h2 := List.pairwise_cons.1 h1.2.1
  have hA : ∀ x ∈ A, x.id ≠ id := fun x hx => by have := h1.2.2 x hx s (List.mem_cons_self ..); omega
  have hB : ∀ x ∈ B, x.id ≠ id := fun x hx => by have := h2.1 x hx; omega
  have e1 : delS id (A ++ s :: B) = delS id A ++ delS id B := by
    unfold delS
    rw [List.filter_append, List.filter_cons_of_neg (by simpa using hs)]
  rw [e1, del_none hA, del_none hB]
set_option maxHeartbeats 4000000 in
theorem rrenew_ok {h : VH} {r : Nat} {v : Value} {L : List Ss} {clk : Nat} {last id now span : Int} (k : RTab h r v L last) (ok : OkL L last clk) (hL : L.length ≤ 64) :
    PCalls Try.prog f_ref10_Table_Renew [.pointer (some ⟨r, 0, none⟩), .int .i64 id, .int .i64 now, .int .i64 span] h (fun u h' => u = .int .i64 (renE id now span L : Nat) ∧ RTab h' r v (renL id now span L) last ∧ Fr h h' (r :: idOf v)) := by
  refine PCalls_of_pw st_ref10_Table_Renew (by simp [n_ref10_Table_Renew]) ?_
  rw [b_ref10_Table_Renew]
  unfold B_ref10_Table_Renew
  simp (disch := first|omega|(simp only [np,ns];try omega)) []
  refine (wrong_ok now span _).mono ?_
  rintro u h1 ⟨rfl, rfl⟩
  by_cases hc : canP now span
  · rw [decide_eq_false (fun hx => hx hc)]
    simp (disch := first|omega|(simp only [np,ns];try omega)) []
    refine (rwho_ok k hL).mono ?_
    rintro u h2 ⟨rfl, f2⟩
    obtain ⟨W, hW⟩ : ∃ W, W = whoS id now L := ⟨_, rfl⟩
    have hE : renE id now span L = W.e := by unfold renE; rw [if_pos hc, hW]
    rw [← hW, hE]
    unfold whoV idV
    by_cases he : W.e = 0
    · obtain ⟨s0, hf0, hws, hlt⟩ := who_yes (k := id) (now := now) (L := L) (by rw [← hW]; exact he)
      have hLr : renL id now span L = renS id (endP now span) L := by unfold renL; rw [if_pos ⟨hc, by rw [← hW]; exact he⟩]
      have hz : ((W.e : Int) != 0) = false := by rw [he]; rfl
      obtain ⟨g3, hg3⟩ : ∃ g3, g3 = (h2.push (.cells [.string ⟨#[]⟩, .string ⟨#[]⟩, .bool false] true 1)).set h2.n (.cells [.string (strB W.x), .string (strB W.y), .bool W.z] true 1) := ⟨_, rfl⟩
      have f3 : Fr h2 g3 [] := by rw [hg3]; exact Fr_set (Fr_push (Fr.refl _ _)) (Nat.le_refl _)
      have k3 := k.fr0 (f2.trans f3)
      have hr3 := k3.rec_
      obtain ⟨a, c, hv⟩ := k.own.shapeN
      obtain ⟨N, hN⟩ : ∃ N, N = L.length := ⟨_, rfl⟩
      rw [← hN] at hv
      subst hv
      simp (disch := first|omega|(simp only [np,ns];try omega)) [id_stA, ← hg3, hz, hr3, lr_0]
      refine (rfind_ok k3 hL).mono ?_
      rintro u g4 ⟨hat, rfl⟩
      rcases hat with ⟨A, s, B, hspl, hid, hnot, rfl⟩ | ⟨rfl, hnot⟩
      · have k' := k3
        rw [hspl] at k'
        obtain ⟨q, o, c', ds, hv, hcc, hi, hg, hez, htk, hqo, hl0, hl1, hl4, hl3, _, hput⟩ := k'.row
        obtain ⟨K, hK⟩ : ∃ K, K = A.length := ⟨_, rfl⟩
        have hKN : K < N := by rw [hN, hspl, hK]; simp
        rw [← hspl, ← hN] at hv hcc
        injection hv with hv _ hvc
        subst hv
        subst hvc
        rw [← hK] at htk hqo hput ⊢
        have hKN' : (K : Int) < (N : Int) := by omega
        have hst := el_put (x := .int .i64 (endP now span)) (zz := 5) htk hqo (show 4 < 5 by decide) rfl rfl
        have hset : (rowS s).set 4 (.int .i64 (endP now span)) = rowS { s with o := endP now span } := rfl
        rw [hset] at hst
        obtain ⟨cs', hcs'⟩ : ∃ cs', cs' = wr ds (o + K * 5) (rowS { s with o := endP now span }) := ⟨_, rfl⟩
        rw [← hcs'] at hst
        simp (disch := first|omega|(simp only [np,ns];try omega)) [hr3, lr_0]
        refine (over_ok hc _).mono ?_
        rintro u g5 ⟨rfl, rfl⟩
        simp (disch := first|omega|(simp only [np,ns];try omega)) [r_ref10_Table_Renew, hr3, lr_0, hKN, hKN', hg, hez, hst, he]
        rw [hLr]
        have hren : renS id (endP now span) L = A ++ { s with o := endP now span } :: B := by rw [hspl]; exact ren_at (by rw [← hspl]; exact ok) hid
        have hrq : r ≠ q := fun e => k3.nv (by rw [e]; simp [idOf])
        have hfs : Fr g5 (g5.set q (.cells cs' true 5)) [q] := Fr.set _ _ (by simp)
        rw [hren]
        refine ⟨⟨?_, ?_, k3.nv, k3.lt⟩, ((f2.trans f3).sub (by simp)).trans (hfs.sub (by simp [idOf]))⟩
        · rw [VH.get_set_ne _ _ hrq]; exact hr3
        · have := hput { s with o := endP now span } (g5.set q (.cells cs' true 5)) (Nat.le_refl _) (by rw [VH.get_set_same, hcs'])
          have hl : (A ++ s :: B).length = (A ++ { s with o := endP now span } :: B).length := by simp
          rw [hl] at this
          exact this
      · exact absurd (find_some hf0).2 (hnot s0 (find_some hf0).1)
    · have hLr : renL id now span L = L := by unfold renL; rw [if_neg (fun hx => he (by rw [hW]; exact hx.2))]
      have hz : ((W.e : Int) != 0) = true := by rw [bne_iff_ne]; omega
      simp (disch := first|omega|(simp only [np,ns];try omega)) [r_ref10_Table_Renew, id_stA, hz]
      rw [hLr]
      have F : Fr _ ((h2.push (.cells [.string ⟨#[]⟩, .string ⟨#[]⟩, .bool false] true 1)).set h2.n (.cells [.string (strB W.x), .string (strB W.y), .bool W.z] true 1)) [] := f2.trans (Fr_set (Fr_push (Fr.refl _ _)) (Nat.le_refl _))
      exact ⟨k.fr0 F, F.sub (by simp)⟩
  · rw [decide_eq_true hc]
    have hE : renE id now span L = 1 := by unfold renE; rw [if_neg hc]
    have hLr : renL id now span L = L := by unfold renL; rw [if_neg (fun hx => hc hx.1)]
    simp (disch := first|omega|(simp only [np,ns];try omega)) [r_ref10_Table_Renew]
    rw [hLr, hE]
    exact ⟨rfl, k, Fr.refl _ _⟩
set_option maxHeartbeats 4000000 in
theorem rclose_ok {h : VH} {r : Nat} {v : Value} {L : List Ss} {clk : Nat} {last id : Int} (k : RTab h r v L last) (ok : OkL L last clk) (hL : L.length ≤ 64) :
    PCalls Try.prog f_ref10_Table_Close [.pointer (some ⟨r, 0, none⟩), .int .i64 id] h (fun u h' => u = .int .i64 (closeE id L : Nat) ∧ Fr h h' (r :: idOf v) ∧ ∃ v', RTab h' r v' (delS id L) last ∧ ∀ i ∈ idOf v', i ∈ idOf v ∨ h.n ≤ i) := by
  refine PCalls_of_pw st_ref10_Table_Close (by simp [n_ref10_Table_Close]) ?_
  rw [b_ref10_Table_Close]
  unfold B_ref10_Table_Close
  simp (disch := first|omega|(simp only [np,ns];try omega)) []
  refine (rfind_ok k hL).mono ?_
  rintro u h0 ⟨hat, rfl⟩
  rcases hat with ⟨A, s, B, hspl, hid, hnot, rfl⟩ | ⟨rfl, hnot⟩
  · have hf : findS id L = some s := by rw [hspl]; exact find_at hid hnot
    have hE : closeE id L = 0 := by unfold closeE; rw [hf]
    have hdel : delS id L = A ++ B := by rw [hspl]; exact del_at (by rw [← hspl]; exact ok) hid
    rw [hE, hdel]
    subst hspl
    have hr := k.rec_
    have hlt := k.lt
    obtain ⟨q, o, c, ds, hv, hc, hqi, hg, hez, _⟩ := k.row
    obtain ⟨N, hN⟩ : ∃ N, N = (A ++ s :: B).length := ⟨_, rfl⟩
    have hNab : N = A.length + 1 + B.length := by rw [hN]; simp; omega
    have hown := k.own
    rw [← hN] at hL hv hc
    rw [← hN, hv] at hown
    rw [hv] at hr
    obtain ⟨K, hK⟩ : ∃ K, K = A.length := ⟨_, rfl⟩
    obtain ⟨K1, hK1⟩ : ∃ K1, K1 = K + 1 := ⟨_, rfl⟩
    rw [← hK]
    have hadd : IntKind.i64.wrap ((K : Int) + 1) = (K1 : Int) := by rw [i64_small (by omega) (by omega)]; omega
    have hp1 := OwnSl.part hown (lo := 0) (m := K) (by omega)
    rw [Nat.zero_mul, Nat.add_zero, List.drop_zero, take_flat rowS_len, hK, List.take_left, ← hK, hg] at hp1
    obtain ⟨w1, g1, hap1, O1, F1⟩ := (BufE.nil h0 5).append (bytes := 56) (ys := A.flatMap rowS) (k := K) (by rw [flat_len rowS_len, hK]) (by omega)
    rw [List.nil_append, Nat.zero_add] at O1
    obtain ⟨a1, c1, rfl⟩ := O1.shape
    have k1 := k.fr0 O1.fr
    have hown1 := k1.own
    have hr1 := k1.rec_
    rw [hv] at hr1
    rw [← hN, hv] at hown1
    have hp2 := OwnSl.part hown1 (lo := K1) (m := N - K1) (by omega)
    have hez1 := OwnSl.esz hown1
    have hdr : (((A ++ s :: B).flatMap rowS).drop (K1 * 5)).take ((N - K1) * 5) = B.flatMap rowS := by
      rw [drop_flat rowS_len, hK1, hK]
      have : (A ++ s :: B).drop (A.length + 1) = B := by rw [← List.drop_drop]; simp
      rw [this, List.take_of_length_le]
      rw [flat_len rowS_len]
      omega
    rw [hdr] at hp2
    obtain ⟨w2, g2, hap2, O2, F2⟩ := O1.append (bytes := 56) (ys := B.flatMap rowS) (k := N - K1) (by rw [flat_len rowS_len]; congr 1; omega) (by omega)
    have hKN : K + (N - K1) = N - 1 := by omega
    rw [hKN] at O2
    obtain ⟨a2, c2, rfl⟩ := O2.shape
    have hi1 : r ∉ idOf (.slice a1 K c1) := fun hx => by have := O1.ids r hx; omega
    have hr2 := (F2.get r k1.lt hi1).trans hr1
    obtain ⟨g3, hg3⟩ : ∃ g3, g3 = g2.set r (.cells [.slice a2 (N - 1) c2, .int .i64 last] true 1) := ⟨_, rfl⟩
    have hb1 : (0 : Int) ≤ (K : Int) ∧ (K : Int) ≤ (c : Int) := by omega
    have hb2 : (0 : Int) ≤ (K1 : Int) ∧ (K1 : Int) ≤ (N : Int) := by omega
    have hKI : ¬ (K : Int) < 0 := by omega
    simp (disch := first|omega|(simp only [np,ns];try omega)) [r_ref10_Table_Close, hKI, hr, lr_0, hg, hez, hb1, hb2, hp1, Option.bind_some, hap1, hr1, hadd, hez1, hp2, hap2, hr2, sr_0, ← hg3]
    have F3 : Fr g2 g3 [r] := by rw [hg3]; exact Fr.set _ _ (by simp)
    have F03 : Fr h0 g3 [r] := (O2.fr.sub (by simp)).trans F3
    refine ⟨F03.sub (by simp), _, ⟨by rw [hg3, VH.get_set_same], ?_, fun hx => by have := O2.ids r hx; omega, Nat.lt_of_lt_of_le hlt F03.n⟩, fun i hi => .inr (O2.ids i hi)⟩
    have hl : (A ++ B).length = N - 1 := by simp; omega
    rw [hl, List.flatMap_append]
    exact O2.own.fr F3 (fun x hx hxi => by simp at hxi; subst hxi; have := O2.ids _ hx; omega)
  · have hf : findS id L = none := find_none hnot
    have hE : closeE id L = 5 := by unfold closeE; rw [hf]
    rw [hE, del_none hnot]
    simp (disch := first|omega|(simp only [np,ns];try omega)) [r_ref10_Table_Close]
    exact ⟨Fr.refl _ _, v, k, fun i hi => .inl hi⟩

theorem exp_take {now : Int} {L : List Ss} {n : Nat} (hn : n < L.length) : expS now (L.take (n + 1)) = expS now (L.take n) ++ (if now < L[n].o then [L[n]] else []) := by
  unfold expS
  rw [List.take_succ_eq_append_getElem hn, List.filter_append]
  congr 1
  by_cases h : now < L[n].o <;> simp [h]
def RExpJ (h : VH) (r : Nat) (L : List Ss) (now : Int) (n : Nat) (s : Slots) (g : VH) : Prop :=
  ∃ w, BufE h g 5 w ((expS now (L.take n)).flatMap rowS) (expS now (L.take n)).length ∧ s 0 = .pointer (some ⟨r, 0, none⟩) ∧ s 1 = .int .i64 now ∧ s 5 = w ∧ s 6 = .int .i64 (n : Int)
theorem exp_len (now : Int) (L : List Ss) : (expS now L).length ≤ L.length := List.length_filter_le _ _
set_option maxHeartbeats 4000000 in
theorem rexpire_ok {h : VH} {r : Nat} {v : Value} {L : List Ss} {last now : Int} (k : RTab h r v L last) (hL : L.length ≤ 64) :
    PCalls Try.prog f_ref10_Table_Expire [.pointer (some ⟨r, 0, none⟩), .int .i64 now] h (fun u h' => u = .int .i64 ((L.length : Int) - ((expS now L).length : Int)) ∧ Fr h h' (r :: idOf v) ∧ ∃ v', RTab h' r v' (expS now L) last ∧ ∀ i ∈ idOf v', i ∈ idOf v ∨ h.n ≤ i) := by
  refine PCalls_of_pw st_ref10_Table_Expire (by simp [n_ref10_Table_Expire]) ?_
  rw [b_ref10_Table_Expire]
  unfold B_ref10_Table_Expire
  obtain ⟨a, c, hv⟩ := k.own.shapeN
  obtain ⟨N, hN⟩ : ∃ N, N = L.length := ⟨_, rfl⟩
  have hlt' := k.lt
  simp (disch := first|omega|(simp only [np,ns];try omega)) []
  refine pw_loopN (RExpJ h r L now) N ?_ ?_
  · exact ⟨.slice none 0 0, BufE.nil _ _, by simp [upd_apply, s0_apply], by simp [upd_apply, s0_apply], by simp [upd_apply], by simp [upd_apply]⟩
  rintro n s g hn ⟨w, hB, e0, e1, e5, e6⟩
  have k1 := k.fr0 hB.fr
  have hr1 := k1.rec_
  obtain ⟨D, hD⟩ : ∃ D, D = (expS now (L.take n)).length := ⟨_, rfl⟩
  have hD64 : D ≤ 64 := by have := exp_len now (L.take n); rw [List.length_take] at this; omega
  rw [← hD] at hB
  obtain ⟨wa, wc, rfl⟩ := hB.shape
  rw [← hN] at hv
  by_cases hlt : n < N
  · have hltI : (n : Int) < (N : Int) := by omega
    have hkk : IntKind.i64.wrap ((n : Int) + 1) = ((n + 1 : Nat) : Int) := by rw [i64_small (by omega) (by omega)]; omega
    have hnL : n < L.length := by omega
    have hspl := at_split hnL
    have k' := k1
    rw [hspl] at k'
    obtain ⟨q, o, c', ds, hv2, hc, hi, hg, hez, _, _, hl0, hl1, hl4, hl3, hlA, _⟩ := k'.row
    have htl : (L.take n).length = n := by rw [List.length_take]; omega
    rw [htl] at hl4 hlA
    rw [← hspl, ← hN] at hv2 hc
    have hr2 := hr1
    rw [hv2] at hr2
    obtain ⟨S, hS⟩ : ∃ S, S = L[n] := ⟨_, rfl⟩
    rw [← hS] at hl4 hlA
    by_cases hov : now < S.o
    · have hfi2 : fillC zS [(0, 5, .agg (rowS S).toArray)] = some (rowS S) := rfl
      have hone : (rowS S).all Value.oneCell' = true := rfl
      have hro : rowObj (.cells (rowS S) true 5) 0 5 = some (rowS S) := rfl
      obtain ⟨g2, hg2⟩ : ∃ g2, g2 = g.push (.cells (rowS S) true 5) := ⟨_, rfl⟩
      have f2 : Fr g g2 [] := by rw [hg2]; exact Fr_push (Fr.refl _ _)
      have q2 : g2.get g.n = .cells (rowS S) true 5 := by rw [hg2, VH.get_push_new]
      obtain ⟨w', g3, hap, B3, _⟩ := (hB.step f2).append (bytes := 56) (ys := rowS S) (k := 1) rfl (by omega)
      simp (disch := first|omega|(simp only [np,ns];try omega)) [e0, e1, e5, e6, hr2, lr_0, hlt, hltI, hg, hez, hl4, hov, hlA, hfi2, hone, ← hg2, q2, hro, Option.bind_some, hap, hkk]
      refine ⟨w', ?_, by simp [upd_apply, e0], by simp [upd_apply, e1], by simp [upd_apply], by simp [upd_apply]⟩
      rw [exp_take hnL, ← hS, if_pos hov, List.flatMap_append, List.flatMap_singleton, List.length_append, ← hD]
      exact B3
    · simp (disch := first|omega|(simp only [np,ns];try omega)) [e0, e1, e5, e6, hr2, lr_0, hlt, hltI, hg, hez, hl4, hov, hkk]
      refine ⟨.slice wa D wc, ?_, by simp [upd_apply, e0], by simp [upd_apply, e1], by simp [upd_apply, e5], by simp [upd_apply]⟩
      rw [exp_take hnL, ← hS, if_neg hov, List.append_nil, ← hD]
      exact hB
  · obtain rfl : n = N := by omega
    rw [hN, List.take_length] at hB hD
    have hsub : IntKind.i64.wrap ((n : Int) - (D : Int)) = (n : Int) - (D : Int) := i64_small (by omega) (by omega)
    have hr2 := hr1
    rw [hv] at hr2
    obtain ⟨g3, hg3⟩ : ∃ g3, g3 = g.set r (.cells [.slice wa D wc, .int .i64 last] true 1) := ⟨_, rfl⟩
    simp (disch := first|omega|(simp only [np,ns];try omega)) [r_ref10_Table_Expire, e0, e5, e6, hr2, lr_0, hsub, sr_0, ← hg3]
    have F3 : Fr g g3 [r] := by rw [hg3]; exact Fr.set _ _ (by simp)
    have F03 : Fr h g3 [r] := (hB.fr.sub (by simp)).trans F3
    refine ⟨by rw [← hN, ← hD], F03.sub (by simp), _, ⟨by rw [hg3, VH.get_set_same], ?_, fun hx => by have := hB.ids r hx; omega, Nat.lt_of_lt_of_le hlt' F03.n⟩, fun i hi => .inr (hB.ids i hi)⟩
    rw [← hD]
    exact hB.own.fr F3 (fun x hx hxi => by simp at hxi; subst hxi; have := hB.ids _ hx; omega)
end Go.Proofs.Ytaeegilpfoiagaa.Id
