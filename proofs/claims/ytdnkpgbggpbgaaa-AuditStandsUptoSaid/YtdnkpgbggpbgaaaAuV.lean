/- audit, part V: a chain's copy; a log's entries, taken (AuditStands). -/
import Derived.Test.YtdnkpgbggpbgaaaAuS
import Derived.Test.YtdnkpgbggpbgaaaPmCl
set_option linter.unusedVariables false
set_option linter.unusedSimpArgs false
set_option maxRecDepth 100000
namespace Go.Proofs.Ytdnkpgbggpbgaaa.Au
open Go Go.RowKit Go.Proofs.Ytdnkpgbggpbgaaa.Pm Go.Proofs.Ytdnkpgbggpbgaaa.Fs Go.Proofs.Ytdnkpgbggpbgaaa.Wr Go.Proofs.Ytdnkpgbggpbgaaa.Sha


theorem ch_fill {n : Nat} {l : List UInt8} {j : Nat} (hl : l.length = 32) {z : Value} : fillC (.int .i64 0 :: ([.int .u8 0, .int .u8 0, .int .u8 0, .int .u8 0, .int .u8 0, .int .u8 0, .int .u8 0, .int .u8 0, .int .u8 0, .int .u8 0, .int .u8 0, .int .u8 0, .int .u8 0, .int .u8 0, .int .u8 0, .int .u8 0, .int .u8 0, .int .u8 0, .int .u8 0, .int .u8 0, .int .u8 0, .int .u8 0, .int .u8 0, .int .u8 0, .int .u8 0, .int .u8 0, .int .u8 0, .int .u8 0, .int .u8 0, .int .u8 0, .int .u8 0, .int .u8 0] ++ [z])) [(0, 1, .int .i64 (n : Int)), (1, 32, digV l), (33, 1, .map (some j))] = some (chL n l j) := by
  have h3 : (u8s l).length = 32 := by simp [hl]
  have e1 : wr (.int .i64 0 :: ([.int .u8 0, .int .u8 0, .int .u8 0, .int .u8 0, .int .u8 0, .int .u8 0, .int .u8 0, .int .u8 0, .int .u8 0, .int .u8 0, .int .u8 0, .int .u8 0, .int .u8 0, .int .u8 0, .int .u8 0, .int .u8 0, .int .u8 0, .int .u8 0, .int .u8 0, .int .u8 0, .int .u8 0, .int .u8 0, .int .u8 0, .int .u8 0, .int .u8 0, .int .u8 0, .int .u8 0, .int .u8 0, .int .u8 0, .int .u8 0, .int .u8 0, .int .u8 0] ++ [z])) 0 [.int .i64 (n : Int)] = .int .i64 (n : Int) :: ([.int .u8 0, .int .u8 0, .int .u8 0, .int .u8 0, .int .u8 0, .int .u8 0, .int .u8 0, .int .u8 0, .int .u8 0, .int .u8 0, .int .u8 0, .int .u8 0, .int .u8 0, .int .u8 0, .int .u8 0, .int .u8 0, .int .u8 0, .int .u8 0, .int .u8 0, .int .u8 0, .int .u8 0, .int .u8 0, .int .u8 0, .int .u8 0, .int .u8 0, .int .u8 0, .int .u8 0, .int .u8 0, .int .u8 0, .int .u8 0, .int .u8 0, .int .u8 0] ++ [z]) := rfl
  have e2 : wr (.int .i64 (n : Int) :: ([.int .u8 0, .int .u8 0, .int .u8 0, .int .u8 0, .int .u8 0, .int .u8 0, .int .u8 0, .int .u8 0, .int .u8 0, .int .u8 0, .int .u8 0, .int .u8 0, .int .u8 0, .int .u8 0, .int .u8 0, .int .u8 0, .int .u8 0, .int .u8 0, .int .u8 0, .int .u8 0, .int .u8 0, .int .u8 0, .int .u8 0, .int .u8 0, .int .u8 0, .int .u8 0, .int .u8 0, .int .u8 0, .int .u8 0, .int .u8 0, .int .u8 0, .int .u8 0] ++ [z])) 1 (u8s l) = .int .i64 (n : Int) :: (u8s l ++ [z]) := by
    unfold wr
    rw [h3]
    rfl
  have e3 : wr (.int .i64 (n : Int) :: (u8s l ++ [z])) 33 [.map (some j)] = chL n l j := by
    unfold wr chL
    rw [show (33 : Nat) = 32 + 1 from rfl, List.take_succ_cons, List.take_left' h3, List.drop_eq_nil_of_le (by simp [h3])]
    simp
  have l0 : (Value.int .i64 0 :: ([.int .u8 0, .int .u8 0, .int .u8 0, .int .u8 0, .int .u8 0, .int .u8 0, .int .u8 0, .int .u8 0, .int .u8 0, .int .u8 0, .int .u8 0, .int .u8 0, .int .u8 0, .int .u8 0, .int .u8 0, .int .u8 0, .int .u8 0, .int .u8 0, .int .u8 0, .int .u8 0, .int .u8 0, .int .u8 0, .int .u8 0, .int .u8 0, .int .u8 0, .int .u8 0, .int .u8 0, .int .u8 0, .int .u8 0, .int .u8 0, .int .u8 0, .int .u8 0] ++ [z])).length = 34 := rfl
  have l1 : (Value.int .i64 (n : Int) :: ([.int .u8 0, .int .u8 0, .int .u8 0, .int .u8 0, .int .u8 0, .int .u8 0, .int .u8 0, .int .u8 0, .int .u8 0, .int .u8 0, .int .u8 0, .int .u8 0, .int .u8 0, .int .u8 0, .int .u8 0, .int .u8 0, .int .u8 0, .int .u8 0, .int .u8 0, .int .u8 0, .int .u8 0, .int .u8 0, .int .u8 0, .int .u8 0, .int .u8 0, .int .u8 0, .int .u8 0, .int .u8 0, .int .u8 0, .int .u8 0, .int .u8 0, .int .u8 0] ++ [z])).length = 34 := rfl
  have l2 : (Value.int .i64 (n : Int) :: (u8s l ++ [z])).length = 34 := by simp [h3]
  have c1 : cellsL (.int .i64 (n : Int)) = [.int .i64 (n : Int)] := rfl
  have c2 : cellsL (digV l) = u8s l := rfl
  have c3 : cellsL (.map (some j)) = [.map (some j)] := rfl
  unfold fillC
  rw [c1, if_pos ⟨rfl, by rw [l0]; decide⟩, e1]
  unfold fillC
  rw [c2, if_pos ⟨h3, by rw [l1]; decide⟩, e2]
  unfold fillC
  rw [c3, if_pos ⟨rfl, by rw [l2]; decide⟩, e3]
  rfl
theorem ch_all {n : Nat} {l : List UInt8} {j : Nat} : (chL n l j).all Value.oneCell' = true := by
  simp [chL, u8s, Value.oneCell']
theorem copy_ok (hc : ClonesM Try.prog f_maps_Clone_map_string_32_byte_string_32_byte) {h : VH} {i j n : Nat} {l : List UInt8} {subs : Sbs} (k : Chain h i j n l subs) :
    PCalls Try.prog f_audit_Chain_Copy [.pointer (some ⟨i, 0, none⟩)] h (fun u h' => ∃ i' j', u = .pointer (some ⟨i', 0, none⟩) ∧ Chain h' i' j' n l subs ∧ Fr h h' [] ∧ h.n ≤ i' ∧ h.n ≤ j') := by
  refine PCalls_of_pw st_audit_Chain_Copy (by simp [n_audit_Chain_Copy]) ?_
  rw [b_audit_Chain_Copy]
  have hl := k.ll
  have h0 := k.rec_
  have h1 := k.lti
  have h2 := k.ltj
  obtain ⟨es, clk, hm, hs⟩ := k.map_
  have hl1 : ∀ {ow e}, loadObj (.cells (chL n l j) ow e) 1 (some 32) = some (digV l) := ch_ldl hl
  have hl2 : ∀ {ow e}, loadObj (.cells (chL n l j) ow e) 33 none = some (.map (some j)) := ch_ldm hl
  simp (disch := first|omega|(simp only [np,ns];try omega)) [B_audit_Chain_Copy, h0, ch_ld0, hl1, hl2]
  refine (cloneM_ok hc h2 hm).mono ?_
  rintro u g ⟨rfl, hg⟩
  have F : Fr h g [] := by rw [hg]; exact Fr_push (Fr.refl _ _)
  have gn : g.n = h.n + 1 := by rw [hg]; rfl
  have gm : g.get h.n = .map es clk true := by rw [hg, VH.get_push_new]
  have g0 := (F.get i h1 (by simp)).trans h0
  have hfi := @ch_fill n l h.n hl (.map none)
  simp only [List.cons_append, List.nil_append] at hfi
  have hcr : cellsL (.agg (chL n l h.n).toArray) = chL n l h.n := rfl
  simp (disch := first|omega|(simp only [np,ns];try omega)) [r_audit_Chain_Copy, g0, ch_ld0, hl1, hl2, hfi, hcr, ch_all]
  have Fp : Fr g (g.push (.cells (chL n l h.n) true 1)) [] := Fr_push (Fr.refl _ _)
  exact ⟨h.n, ⟨VH.get_push_new _ _, ⟨es, clk, (Fp.get h.n (by omega) (by simp)).trans gm, hs⟩, by omega, by show g.n < g.n + 1; omega, by show h.n < g.n + 1; omega, hl⟩, F.trans Fp, by omega, Nat.le_refl _⟩
theorem entries_ok {h : VH} {v : Value} {bs : List UInt8} (hb : IsBytes h v bs) (hlen : bs.length ≤ 1000000000) (he : (walkS bs).err = 0) :
    PCalls Try.prog f_audit_Entries [v] h (fun u h' => Fr h h' [] ∧ ∃ w, u = .tuple #[w, .int .i64 0, .int .i64 0] ∧ SameAt h' w ((itemsS bs).map (·.e))) := by
  refine PCalls_of_pw st_audit_Entries (by simp [n_audit_Entries]) ?_
  rw [b_audit_Entries]
  simp (disch := first|omega|(simp only [np,ns];try omega)) [B_audit_Entries]
  refine (walk_ok hb hlen).mono ?_
  rintro u g ⟨F, ae, ne, ce, al, nl, cl, ab, nb, cb, i, j, rfl, K, hs, hi, hj, hn, I⟩
  rw [he]
  have Fo : ∀ o o', Fr g ((g.push o).set g.n o') [] := fun o o' => Fr_set (Fr_push (Fr.refl _ _)) (Nat.le_refl _)
  have hz : ((0 : Int) != 0) = false := rfl
  simp (disch := first|omega|(simp only [np,ns];try omega)) [r_audit_Entries, st6_A, ld6_0, ld6_4, hz]
  refine ⟨F.trans (Fo _ _), ?_⟩
  obtain ⟨rows, e1, o1, h1⟩ := I.r1
  have hS : SameAt g (.slice ae ne ce) ((itemsS bs).map (·.e)) := by
    refine ⟨rows.map fun p => (p.1.e, p.2), by rw [← e1, List.map_map, List.map_map]; rfl, ?_, fun p hp => ?_⟩
    · rw [List.length_map, List.flatMap_map]; exact o1
    · obtain ⟨q, hq, rfl⟩ := List.mem_map.1 hp
      exact (h1 q hq).1
  exact hS.fr (Fo _ _)
theorem InsAt.shapeN {h g : VH} {v : Value} {xs : List En} (H : InsAt h g v xs) : ∃ a c, v = .slice a xs.length c := by
  obtain ⟨rows, h1, h2, h3⟩ := H
  exact h2.shapeN
theorem InsAt.fr {h g g' : VH} {v : Value} {xs : List En} {X : List Nat} (H : InsAt h g v xs) (F : Fr g g' X) (hx : ∀ x ∈ idOf v, x ∉ X) : InsAt h g' v xs := by
  obtain ⟨rows, h1, h2, h3⟩ := H
  exact ⟨rows, h1, h2.fr F hx, h3⟩
theorem InsAt.app {h g : VH} {w : Value} {xs : List En} (I : InsAt h g w xs) {e : En} {p : Option Addr} {m d : Nat} (hb : IsBytes h (.slice p m d) e.b) (hl : xs.length ≤ 1000000) :
    ∃ w' g', appendV g 4 64 w (enL e (.slice p m d)) 1 = some (w', g') ∧ InsAt h g' w' (xs ++ [e]) ∧ Fr g g' (idOf w) ∧ ∀ x ∈ idOf w', x ∈ idOf w ∨ g.n ≤ x := by
  obtain ⟨rows, h1, h2, h3⟩ := I
  obtain ⟨w', g', hap, ho, hf, hid⟩ := h2.append (bytes := 64) (ys := enL e (.slice p m d)) (k := 1) rfl (by omega)
  refine ⟨w', g', hap, ⟨rows ++ [(e, .slice p m d)], by rw [List.map_append, h1]; rfl, ?_, fun q hq => ?_⟩, hf, hid⟩
  · rw [List.flatMap_append, List.flatMap_singleton, List.length_append]
    exact ho
  · rcases List.mem_append.1 hq with hq | hq
    · exact h3 q hq
    · simp at hq; subst hq; exact ⟨p, m, d, rfl, hb⟩

set_option maxHeartbeats 4000000 in
theorem taken_ok {h : VH} {v : Value} {xs : List En} (H : SameAt h v xs) (hl : xs.length ≤ 1000000) : PCalls Try.prog f_law09_taken [v] h (fun u h' => Fr h h' [] ∧ SameAt h' u xs) := by
  refine PCalls_of_pw st_law09_taken (by simp [n_law09_taken]) ?_
  rw [b_law09_taken]
  obtain ⟨va, vc, rfl⟩ := H.shape
  obtain ⟨N, hN⟩ : ∃ N, N = xs.length := ⟨_, rfl⟩
  rw [← hN] at H ⊢
  simp (disch := first|omega|(simp only [np,ns];try omega)) [B_law09_taken]
  refine pw_loopN (fun k s g => ∃ w, InsAt h g w (xs.take k) ∧ Fr h g [] ∧ (∀ x ∈ idOf w, h.n ≤ x) ∧ s 0 = .slice va N vc ∧ s 3 = w ∧ s 4 = .int .i64 (k : Int)) N ?_ ?_
  · exact ⟨.slice none 0 0, ⟨[], rfl, OwnSl.nil _ _, by simp⟩, Fr.refl _ _, by simp [idOf], by simp [upd_apply, s0_apply], by simp [upd_apply], by simp [upd_apply]⟩
  rintro k s g hk ⟨w, I, F, hid, e0, e3, e4⟩
  by_cases hlt : k < N
  case neg =>
    have hltI : ¬ (k : Int) < (N : Int) := by omega
    simp (disch := first|omega|(simp only [np,ns];try omega)) [r_law09_taken, e0, e3, e4, hlt, hltI]
    rw [List.take_of_length_le (by omega)] at I
    exact ⟨F, I.same F⟩
  have hltI : (k : Int) < (N : Int) := by omega
  have hkk : IntKind.i64.wrap ((k : Int) + 1) = ((k + 1 : Nat) : Int) := by rw [i64_small (by omega) (by omega)]; omega
  obtain ⟨i, o, c, ds, p, m, d, hv, hg, l0, l1, l2, l3, hb⟩ := H.at_ (k := k) (by omega)
  injection hv with h1 _ _
  subst h1
  obtain ⟨x, hxe⟩ : ∃ x, x = xs[k]'(by omega) := ⟨_, rfl⟩
  rw [← hxe] at l0 l1 l2 hb
  have hil : i < h.n := by
    obtain ⟨rows, r1, r2, r3⟩ := H
    exact r2.lt i (by simp [idOf])
  have hgg := (F.get i hil (by simp)).trans hg
  have hez : eszObj (.cells ds true 4) 4 = true := by simp [eszObj]
  have hfi : fillC [.string ⟨#[]⟩, .int .i64 0, .string ⟨#[]⟩, .slice none 0 0] [(0, 1, .string (strB x.t)), (1, 1, .int .i64 x.at_), (2, 1, .string (strB x.w)), (3, 1, .slice p m d)] = some (enL x (.slice p m d)) := rfl
  have hfi2 : fillC [.string ⟨#[]⟩, .int .i64 0, .string ⟨#[]⟩, .slice none 0 0] [(0, 4, .agg (enL x (.slice p m d)).toArray)] = some (enL x (.slice p m d)) := rfl
  have hone : (enL x (.slice p m d)).all Value.oneCell' = true := rfl
  have hro : rowObj (.cells (enL x (.slice p m d)) true 4) 0 4 = some (enL x (.slice p m d)) := rfl
  obtain ⟨g2, hg2⟩ : ∃ g2, g2 = g.push (.cells (enL x (.slice p m d)) true 4) := ⟨_, rfl⟩
  have F2 : Fr g g2 [] := by rw [hg2]; exact Fr_push (Fr.refl _ _)
  have q2 : g2.get g.n = .cells (enL x (.slice p m d)) true 4 := by rw [hg2, VH.get_push_new]
  obtain ⟨w', g3, hap, I3, F3, hid3⟩ := (I.fr F2 (fun _ _ => by simp)).app hb (by rw [List.length_take]; omega)
  obtain ⟨wa, wc, hw⟩ := I.shapeN
  have htl : (xs.take k).length = k := by rw [List.length_take]; omega
  rw [htl] at hw
  subst hw
  have n2 := F2.n
  have nF := F.n
  simp (disch := first|omega|(simp only [np,ns];try omega)) [e0, e3, e4, hlt, hltI, hgg, hez, l0, l1, l2, l3, hfi, hfi2, hone, ← hg2, hro, q2, Option.bind_some, hap, hkk]
  refine ⟨w', ?_, (F.trans F2).trans' F3 (fun y hy => .inr (hid y hy)), fun y hy => ?_, rfl⟩
  · rw [List.take_succ_eq_append_getElem (by omega), ← hxe]; exact I3
  · rcases hid3 y hy with h5 | h5
    · exact hid y h5
    · omega
end Go.Proofs.Ytdnkpgbggpbgaaa.Au
