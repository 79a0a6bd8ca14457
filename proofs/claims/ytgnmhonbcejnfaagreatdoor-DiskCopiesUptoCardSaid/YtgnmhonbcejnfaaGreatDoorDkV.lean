/- disk, part V: the reference: Sync, Cut. -/
import Derived.Test.YtgnmhonbcejnfaaGreatDoorDkR
set_option linter.unusedVariables false
set_option linter.unusedSimpArgs false
set_option maxRecDepth 100000
namespace Go.Proofs.YtgnmhonbcejnfaaGreatDoor.Dk
open Go Go.RowKit Go.Proofs.YtgnmhonbcejnfaaGreatDoor.Pm Go.Proofs.YtgnmhonbcejnfaaGreatDoor.Fs
attribute [-simp] BitVec.toNat_or BitVec.toNat_xor BitVec.toNat_add BitVec.toNat_and BitVec.toNat_not BitVec.toNat_shiftLeft BitVec.toNat_ushiftRight


theorem fs_mid {a b : List Rr} {r : Rr} {S : Ds} (h : (a ++ r :: b).map (·.f) = S.fs) : S.fs = a.map (·.f) ++ r.f :: b.map (·.f) := by rw [← h]; simp
theorem fs_set {a b : List Rr} {r r' : Rr} {S : Ds} (h : (a ++ r :: b).map (·.f) = S.fs) (hna : ∀ x ∈ a, x.f.nm ≠ r.f.nm) (hn : r'.f.nm = r.f.nm) : (a ++ r' :: b).map (·.f) = setF r'.f S.fs := by
  rw [fs_mid h, setF_at (fun y hy => by
    obtain ⟨z, hz, rfl⟩ := List.mem_map.1 hy
    exact hna z hz) hn]
  simp
/-- what a call leaves of the reference's disk, one file of which turned. -/
theorem RRep.p1 {h g g' : VH} {X : List Nat} {i : Nat} {v : Value} {a b : List Rr} {r r' : Rr} {S S' : Ds} (k : RRep g i v (a ++ r :: b) S) (hpre : Fr h g []) (hk : ∀ x ∈ fpD i v (a ++ r :: b), x < h.n) (hf : Fr g g' X) (hX : ∀ x ∈ X, x = i ∨ x ∈ idOf v ∨ x ∈ fpR r) (hr : g'.get i = .cells [v, .int .i64 (S'.sy : Int)] true 1)
    (ho : OwnSl g' 4 v ((a ++ r' :: b).flatMap rowR) (a ++ r :: b).length) (T : RfAt g' r') (hnd : (fpR r').Nodup) (hfp : ∀ x ∈ fpR r', x ∈ fpR r ∨ g.n ≤ x) (hfs : (a ++ r' :: b).map (·.f) = S'.fs) : RfP h i (fpD i v (a ++ r :: b)) S' g' := by
  have k2 := k.one hf hX hr ho T hnd hfp hfs
  have hn := hpre.n
  refine ⟨_, ⟨v, _, rfl, k2⟩, (hpre.sub (by simp)).trans (hf.sub (fun x hx => ?_)), fun x hx => (fpD_one hfp x hx).imp id (fun h => by omega)⟩
  rcases hX x hx with h1 | h1 | h1
  · subst h1; simp [fpD]
  · simp [fpD, h1]
  · exact fpD_in (by simp) x h1
set_option maxHeartbeats 2000000 in
theorem rsync_ok {h : VH} {i : Nat} {S : Ds} {X : List Nat} {n : Nat} (K : RfDk h i S X) (ok : OkN n S) (hn : n < 1000000) {nm : List UInt8} :
    PCalls Tryz.prog f_ref06_Disk_Sync [.pointer (some ⟨i, 0, none⟩), .string (strB nm)] h (fun u h' => u = .int .i64 ((synD S nm).1 : Int) ∧ RfP h i X (synD S nm).2 h') := by
  refine PCalls_of_pw st_ref06_Disk_Sync (by simp [n_ref06_Disk_Sync]) ?_
  rw [b_ref06_Disk_Sync]
  unfold B_ref06_Disk_Sync
  have K0 := K
  obtain ⟨v, rs, rfl, k⟩ := K
  have hlen := k.len
  have hle := ok.ok.len
  have hr := k.rec_
  simp (disch := first|omega|(simp only [np,ns];try omega)) []
  refine (rfind_ok k (by omega) (nm := nm)).mono ?_
  rintro u g ⟨hat, hg⟩
  rw [hg]
  rcases hat.find k.fs with ⟨a, r, b, hrs, hfd, hrn, hna, rfl⟩ | ⟨rfl, hfd⟩
  · have hs : synD S nm = (0, ⟨setF ⟨nm, r.f.all, []⟩ S.fs, S.sy + 1⟩) := by simp [synD, hfd]
    subst hrs
    obtain ⟨q, o, c, ds, hv, hc, hqi, hgq, hez, htk, hq, hl0, hl1, hl2, hl3, hl4, hput⟩ := k.row
    have T := k.fil r (by simp)
    obtain ⟨ba, bc, bb, bd, hb, hw⟩ := T.shapes
    obtain ⟨N, hN⟩ : ∃ N, N = (a ++ r :: b).length := ⟨_, rfl⟩
    have hNab : N = a.length + 1 + b.length := by rw [hN]; simp; omega
    obtain ⟨v0, hv0⟩ : ∃ w, w = v := ⟨_, rfl⟩
    rw [← hN] at hv hc
    have hrv := hr
    rw [hv] at hrv
    obtain ⟨A, hA⟩ : ∃ A, A = a.length := ⟨_, rfl⟩
    rw [← hA] at hl1 htk hq hput
    rw [← hA]
    have hneg : ¬ (A : Int) < 0 := by omega
    have hlt : A < N := by omega
    have hltI : (A : Int) < (N : Int) := by omega
    obtain ⟨M, hM⟩ : ∃ M, M = r.f.all.length := ⟨_, rfl⟩
    rw [← hM] at hb
    rw [hb] at hl1
    have hp1 := el_put (zz := 4) (f := 2) (x := .int .i64 (M : Int)) htk hq (by decide) rfl rfl
    obtain ⟨R1, hR1⟩ : ∃ R1, R1 = (rowR r).set 2 (.int .i64 (M : Int)) := ⟨_, rfl⟩
    have hR1l : R1.length = 4 := by rw [hR1]; rfl
    obtain ⟨d1, hd1⟩ : ∃ d1, d1 = wr ds (o + A * 4) R1 := ⟨_, rfl⟩
    rw [← hR1, ← hd1] at hp1
    have hdl : d1.length = ds.length := by rw [hd1, wr_length (by omega)]
    have htk1 : (d1.drop (o + A * 4)).take 4 = R1 := by
      have := el_back (ds := ds) (R := R1) (q := o + A * 4) (by omega)
      rw [hR1l] at this
      rw [hd1]; exact this
    have hp2 := el_put (zz := 4) (f := 3) (x := .slice none 0 0) htk1 (by omega) (by decide) rfl rfl
    obtain ⟨r', hr'⟩ : ∃ r' : Rr, r' = ⟨⟨nm, r.f.all, []⟩, r.bv, .slice none 0 0⟩ := ⟨_, rfl⟩
    have e2 : R1.set 3 (.slice none 0 0) = rowR r' := by rw [hR1, hr', hM]; simp [rowR, hrn]
    have e3 : wr d1 (o + A * 4) (rowR r') = wr ds (o + A * 4) (rowR r') := by rw [hd1]; exact el_again (by omega) (by rw [rowR_len, hR1l])
    rw [e2, e3] at hp2
    obtain ⟨d2, hd2⟩ : ∃ d2, d2 = wr ds (o + A * 4) (rowR r') := ⟨_, rfl⟩
    rw [← hd2] at hp2
    obtain ⟨g1, hg1⟩ : ∃ g1, g1 = h.set q (.cells d1 true 4) := ⟨_, rfl⟩
    obtain ⟨g2, hg2⟩ : ∃ g2, g2 = g1.set q (.cells d2 true 4) := ⟨_, rfl⟩
    have hqv : q ∈ idOf v := by rw [hv]; simp [idOf]
    have hiq : i ≠ q := fun e => k.nv (e ▸ hqv)
    have F1 : Fr h g1 [q] := by rw [hg1]; exact Fr.set _ _ (by simp)
    have F2 : Fr h g2 [q] := F1.trans (by rw [hg2]; exact Fr.set _ _ (by simp))
    have q1 : g1.get q = .cells d1 true 4 := by rw [hg1, VH.get_set_same]
    have q2 : g2.get q = .cells d2 true 4 := by rw [hg2, VH.get_set_same]
    have i1 := (F1.get i k.lt (by simpa using hiq)).trans hrv
    have i2 := (F2.get i k.lt (by simpa using hiq)).trans hrv
    have hez1 : eszObj (.cells d1 true 4) 4 = true := rfl
    have hsy := ok.sy
    have hadd : IntKind.i64.wrap ((S.sy : Int) + 1) = ((S.sy + 1 : Nat) : Int) := by rw [i64_small (by omega) (by omega)]; omega
    obtain ⟨sy1, hsy1⟩ : ∃ sy1, sy1 = S.sy + 1 := ⟨_, rfl⟩
    rw [← hsy1] at hadd
    obtain ⟨g3, hg3⟩ : ∃ g3, g3 = g2.set i (.cells [.slice (some ⟨q, o, none⟩) N c, .int .i64 (sy1 : Int)] true 1) := ⟨_, rfl⟩
    have F23 : Fr g2 g3 [i] := by rw [hg3]; exact Fr.set _ _ (by simp)
    have F3 : Fr h g3 [q, i] := (F2.sub (by simp)).trans (F23.sub (by simp))
    simp (disch := first|omega|(simp only [np,ns];try omega)) [r_ref06_Disk_Sync, hneg, hrv, lr_0, hgq, hez, hlt, hltI, hl1, hp1, ← hg1, i1, q1, hez1, hp2, ← hg2, i2, lr_1, hadd, sr_1, ← hg3, hs]
    refine k.p1 (r' := r') (S' := ⟨setF ⟨nm, r.f.all, []⟩ S.fs, S.sy + 1⟩) (Fr.refl _ _) k.lts F3 (fun x hx => ?_) (by rw [hg3, VH.get_set_same, hv, hsy1]) ?_ ?_ ?_ (fun x hx => ?_) ?_
    · simp at hx
      rcases hx with rfl | rfl
      · exact .inr (.inl hqv)
      · exact .inl rfl
    · exact hput r' g3 F3.n (by rw [F23.get q (by have := F2.n; omega) (by simpa using fun e => hiq e.symm), q2, hd2])
    · rw [hr']
      refine ⟨?_, OwnP.nil _ _⟩
      have := T.b.fr F3 (fun x hx hxX => by
        simp at hxX
        rcases hxX with rfl | rfl
        · exact k.nvr (r := r) (by simp) _ hqv (by simp [fpR, hx])
        · exact k.nr (r := r) (by simp) (by simp [fpR, hx]))
      simpa [Fl.all] using this
    · rw [hr']
      simp only [fpR, idOf, List.append_nil]
      exact idOf_nodup _
    · rw [hr'] at hx
      simp [fpR, idOf] at hx
      exact .inl (by simp only [fpR, List.mem_append]; exact .inl hx)
    · have := fs_set (r' := r') k.fs (by rw [hrn]; exact hna) (by rw [hr', hrn])
      rw [this, hr']
  · have hs : synD S nm = (5, S) := by simp [synD, hfd]
    simp (disch := first|omega|(simp only [np,ns];try omega)) [r_ref06_Disk_Sync, hs]
    exact RfP.same K0 (Fr.refl _ _)

/- disk, part Va: the reference: Cut. -/

theorem OwnP.part {h : VH} {e q o n c : Nat} {cs : List Value} (k : OwnP h e (.slice (some ⟨q, o, none⟩) n c) cs n) {m : Nat} (hm : m ≤ n) : rowObj (h.get q) o (m * e) = some (cs.take (m * e)) ∧ eszObj (h.get q) e = true ∧ n ≤ c := by
  rcases k with ⟨h1, _⟩ | ⟨i, o', c', ds, h1, h2, h3, h4, h5, h6⟩
  · cases h1
  · injection h3 with h3 _ h3c
    injection h3 with h3
    injection h3 with h3 h3'
    subst h3
    subst h3'
    subst h3c
    have h8 : m * e ≤ n * e := Nat.mul_le_mul_right e hm
    rw [h4]
    refine ⟨?_, by simp [eszObj], h2⟩
    simp only [rowObj]
    rw [if_pos (by omega), ← h5, List.take_take, Nat.min_eq_left h8]
/-- the row of one file is put whole. -/
theorem RRep.put {h g : VH} {i q o c : Nat} {v : Value} {a b : List Rr} {r r' : Rr} {ds : List Value} {S S' : Ds} (k : RRep h i v (a ++ r :: b) S) (hv : v = .slice (some ⟨q, o, none⟩) (a ++ r :: b).length c) (hf : Fr h g (fpR r)) (hq : q < h.n) (hput : ∀ (r' : Rr) (g' : VH), h.n ≤ g'.n → g'.get q = .cells (wr ds (o + a.length * 4) (rowR r')) true 4 → OwnSl g' 4 v ((a ++ r' :: b).flatMap rowR) (a ++ r :: b).length)
    (T : RfAt g r') (hnd : (fpR r').Nodup) (hfp : ∀ x ∈ fpR r', x ∈ fpR r ∨ h.n ≤ x) (hfs : (a ++ r' :: b).map (·.f) = S'.fs) (hsy : S'.sy = S.sy) :
    RfP h i (fpD i v (a ++ r :: b)) S' (g.set q (.cells (wr ds (o + a.length * 4) (rowR r')) true 4)) := by
  have hqv : q ∈ idOf v := by rw [hv]; simp [idOf]
  have hiq : i ≠ q := fun e => k.nv (e ▸ hqv)
  have F2 : Fr g (g.set q (.cells (wr ds (o + a.length * 4) (rowR r')) true 4)) [q] := Fr.set _ _ (by simp)
  have F : Fr h (g.set q (.cells (wr ds (o + a.length * 4) (rowR r')) true 4)) (q :: fpR r) := (hf.sub (fun x hx => List.mem_cons_of_mem _ hx)).trans (F2.sub (by simp))
  have hqr : q ∉ fpR r := k.nvr (r := r) (by simp) q hqv
  refine k.p1 (r' := r') (Fr.refl _ _) k.lts F (fun x hx => ?_) ?_ ?_ ?_ hnd hfp hfs
  · rcases List.mem_cons.1 hx with rfl | hx
    · exact .inr (.inl hqv)
    · exact .inr (.inr hx)
  · rw [F.get i k.lt (fun hx => (List.mem_cons.1 hx).elim hiq (k.nr (r := r) (by simp))), hsy]
    exact k.rec_
  · exact hput r' _ F.n (VH.get_set_same ..)
  · refine T.fr F2 (fun x hx hxq => ?_)
    simp at hxq
    subst hxq
    rcases hfp _ hx with h1 | h1
    · exact hqr h1
    · omega
set_option maxHeartbeats 2000000 in
theorem rcut_ok {h : VH} {i : Nat} {S : Ds} {X : List Nat} (K : RfDk h i S X) (ok : OkD S) {nm : List UInt8} {c : Int} :
    PCalls Tryz.prog f_ref06_Disk_Cut [.pointer (some ⟨i, 0, none⟩), .string (strB nm), .int .i64 c] h (fun u h' => u = .int .i64 ((cutD S nm c).1 : Int) ∧ RfP h i X (cutD S nm c).2 h') := by
  refine PCalls_of_pw st_ref06_Disk_Cut (by simp [n_ref06_Disk_Cut]) ?_
  rw [b_ref06_Disk_Cut]
  unfold B_ref06_Disk_Cut
  have K0 := K
  obtain ⟨v, rs, rfl, k⟩ := K
  have hlen := k.len
  have hle := ok.len
  have hr := k.rec_
  simp (disch := first|omega|(simp only [np,ns];try omega)) []
  refine (rfind_ok k (by omega) (nm := nm)).mono ?_
  rintro u g ⟨hat, hg⟩
  rw [hg]
  rcases hat.find k.fs with ⟨a, r, b, hrs, hfd, hrn, hna, rfl⟩ | ⟨rfl, hfd⟩
  · subst hrs
    obtain ⟨q, o, c', ds, hv, hc, hqi, hgq, hez, htk, hq, hl0, hl1, hl2, hl3, hl4, hput⟩ := k.row
    have T := k.fil r (by simp)
    obtain ⟨ba, bc, bb, bd, hb, hw⟩ := T.shapes
    obtain ⟨N, hN⟩ : ∃ N, N = (a ++ r :: b).length := ⟨_, rfl⟩
    have hNab : N = a.length + 1 + b.length := by rw [hN]; simp; omega
    have hrv := hr
    have hv' := hv
    rw [← hN] at hv' hc
    rw [hv'] at hrv
    obtain ⟨A, hA⟩ : ∃ A, A = a.length := ⟨_, rfl⟩
    have hl4' : loadObj (.cells ds true 4) (o + A * 4) (some 4) = some (.agg #[.string (strB r.f.nm), .slice ba r.f.all.length bc, .int .i64 (r.f.s.length : Int), .slice bb r.f.ws.length bd]) := by rw [hA, hl4, rowR, hb, hw]
    obtain ⟨M, hM⟩ : ∃ M, M = r.f.all.length := ⟨_, rfl⟩
    obtain ⟨W, hW⟩ : ∃ W, W = r.f.ws.length := ⟨_, rfl⟩
    obtain ⟨s0, hs0⟩ : ∃ s0 : Int, s0 = (r.f.s.length : Int) := ⟨_, rfl⟩
    rw [← hM, ← hW, ← hs0] at hl4'
    rw [← hA]
    have hneg : ¬ (A : Int) < 0 := by omega
    have hlt : A < N := by omega
    have hltI : (A : Int) < (N : Int) := by omega
    obtain ⟨g1, hg1⟩ : ∃ g1, g1 = (h.push (.cells zF true 1)).set h.n (.cells [.string (strB r.f.nm), .slice ba M bc, .int .i64 s0, .slice bb W bd] true 1) := ⟨_, rfl⟩
    have F1 : Fr h g1 [] := by rw [hg1]; exact Fr_set (Fr_push (Fr.refl _ _)) (Nat.le_refl _)
    have b1 : g1.get h.n = .cells [.string (strB r.f.nm), .slice ba M bc, .int .i64 s0, .slice bb W bd] true 1 := by rw [hg1, VH.get_set_same]
    by_cases hc0 : c < 0
    · have hs : cutD S nm c = (1, S) := by simp [cutD, hfd, hc0]
      simp (disch := first|omega|(simp only [np,ns];try omega)) [r_ref06_Disk_Cut, hneg, hrv, lr_0, hgq, hez, hlt, hltI, hl4', s4_A, ← hg1, hc0, hs]
      exact RfP.same K0 F1
    obtain ⟨C, rfl⟩ : ∃ C : Nat, c = (C : Int) := ⟨c.toNat, by omega⟩
    by_cases hcM : M < C
    · have hs : cutD S nm (C : Int) = (1, S) := by simp [cutD, hfd, ← hM, hcM]
      have hI : (M : Int) < (C : Int) := by omega
      simp (disch := first|omega|(simp only [np,ns];try omega)) [r_ref06_Disk_Cut, hneg, hrv, lr_0, hgq, hez, hlt, hltI, hl4', s4_A, ← hg1, hc0, b1, l4_1, hI, hcM, hs]
      exact RfP.same K0 F1
    have hI : ¬ (M : Int) < (C : Int) := by omega
    have hs : cutD S nm (C : Int) = (0, { S with fs := setF ⟨nm, r.f.all.take C, []⟩ S.fs }) := by simp [cutD, hfd, ← hM, hcM]
    have T1 := T.fr F1 (fun _ _ => by simp)
    have hTb := T1.b
    have hosz := (ok.find hfd).sz
    rw [← hM] at hTb
    rw [← hM] at hb
    rw [hb] at hTb
    have k1 := k.fr0 F1
    have i1 := k1.rec_
    rw [hv'] at i1
    have hn1 := F1.n
    have q1 : g1.get q = .cells ds true 4 := (F1.get _ hqi (by simp)).trans hgq
    have fin : ∀ (g2 : VH) (w : Value) (wa : Option Addr) (wc : Nat), w = .slice wa C wc → Buf g1 g2 w (r.f.all.take C) → RfP h i (fpD i v (a ++ r :: b)) { S with fs := setF ⟨nm, r.f.all.take C, []⟩ S.fs } (g2.set q (.cells (wr ds (o + A * 4) [.string (strB nm), .slice wa C wc, .int .i64 (C : Int), .slice none 0 0]) true 4)) := by
      intro g2 w wa wc hw2 B2
      obtain ⟨r', hr'⟩ : ∃ r' : Rr, r' = ⟨⟨nm, r.f.all.take C, []⟩, w, .slice none 0 0⟩ := ⟨_, rfl⟩
      have hCl : (r.f.all.take C).length = C := by rw [List.length_take]; omega
      have hrow : rowR r' = [.string (strB nm), .slice wa C wc, .int .i64 (C : Int), .slice none 0 0] := by rw [hr']; simp only [rowR, hCl, hw2]
      rw [← hrow, hA]
      refine k.put (r' := r') hv ((F1.trans B2.fr).sub (by simp)) hqi hput ?_ ?_ (fun x hx => ?_) ?_ rfl
      · rw [hr']
        exact ⟨by simpa [Fl.all] using B2.own.p, OwnP.nil _ _⟩
      · rw [hr']; simp only [fpR, idOf, List.append_nil]; exact idOf_nodup _
      · rw [hr'] at hx
        simp [fpR, idOf] at hx
        have := B2.ids x hx
        exact .inr (by omega)
      · have := fs_set (r' := r') k.fs (by rw [hrn]; exact hna) (by rw [hr', hrn])
        rw [this, hr']
    have htake : u8s (r.f.all.take C) = (u8s r.f.all).take C := by simp [u8s, List.map_take]
    have hCl : (r.f.all.take C).length = C := by rw [List.length_take]; omega
    obtain ⟨w, g2, hap, B2⟩ := (Buf.nil g1).append (r.f.all.take C) (by simp; omega)
    rw [List.nil_append] at B2
    rw [hCl] at hap
    obtain ⟨wa, wc, hwv⟩ := B2.shape
    rw [hCl] at hwv
    have h2 := fin g2 w wa wc hwv B2
    have i2 := (B2.old (by have := k.lt; omega)).trans i1
    have q2 := (B2.old (by omega)).trans q1
    have hfi : fillC zF [(0, 1, .string (strB nm)), (1, 1, .slice wa C wc), (2, 1, .int .i64 (C : Int))] = some [.string (strB nm), .slice wa C wc, .int .i64 (C : Int), .slice none 0 0] := rfl
    have hone : ([.string (strB nm), .slice wa C wc, .int .i64 (C : Int), .slice none 0 0] : List Value).all Value.oneCell' = true := rfl
    have hpn := el_putN (zz := 4) (R := [.string (strB nm), .slice wa C wc, .int .i64 (C : Int), .slice none 0 0]) (ds := ds) (q := o + A * 4) (z := 4) (by omega) rfl hone
    rw [hwv] at hap
    obtain ⟨g3, hg3⟩ : ∃ g3, g3 = g2.set q (.cells (wr ds (o + A * 4) [.string (strB nm), .slice wa C wc, .int .i64 (C : Int), .slice none 0 0]) true 4) := ⟨_, rfl⟩
    rw [← hg3] at h2
    cases ba with
    | none =>
      have hM0 : M = 0 := by
        rcases hTb with ⟨_, _, h1⟩ | ⟨_, _, _, _, _, _, h1, _⟩
        · exact h1
        · cases h1
      have hC0 : C = 0 := by omega
      subst hC0
      have hap0 : appendV g1 1 1 (.slice none 0 0) [] 0 = some (.slice wa 0 wc, g2) := by simpa [u8s] using hap
      have hs' : cutD S nm 0 = (0, { S with fs := setF ⟨nm, r.f.all.take 0, []⟩ S.fs }) := hs
      have hfi' : fillC zF [(0, 1, .string (strB nm)), (1, 1, .slice wa 0 wc), (2, 1, .int .i64 0)] = some [.string (strB nm), .slice wa 0 wc, .int .i64 0, .slice none 0 0] := rfl
      have hpn' : storeObj (.cells ds true 4) (o + A * 4) 4 (.agg #[.string (strB nm), .slice wa 0 wc, .int .i64 0, .slice none 0 0]) = some (.cells (wr ds (o + A * 4) [.string (strB nm), .slice wa 0 wc, .int .i64 0, .slice none 0 0]) true 4) := hpn
      have hg3' : g3 = g2.set q (.cells (wr ds (o + A * 4) [.string (strB nm), .slice wa 0 wc, .int .i64 0, .slice none 0 0]) true 4) := hg3
      simp (disch := first|omega|(simp only [np,ns];try omega)) [r_ref06_Disk_Cut, hneg, hrv, lr_0, hgq, hez, hlt, hltI, hl4', s4_A, ← hg1, hc0, b1, l4_1, hI, hcM, hap0, i2, lr_0, hfi', q2, hez, hlt, hltI, hpn', ← hg3', hs']
      simpa using h2
    | some bx =>
      have hbx : ∃ bq bo, bx = ⟨bq, bo, none⟩ := by
        rcases hTb with ⟨h1, _⟩ | ⟨x, y, _, _, _, _, h1, _⟩
        · cases h1
        · injection h1 with h1
          injection h1 with h1
          exact ⟨x, y, h1⟩
      obtain ⟨bq, bo, rfl⟩ := hbx
      obtain ⟨hrow, hezb, hMc⟩ := OwnP.part hTb (m := C) (by omega)
      rw [Nat.mul_one, ← htake] at hrow
      have hbd : (0 : Int) ≤ (C : Int) ∧ (C : Int) ≤ (bc : Int) := by omega
      simp (disch := first|omega|(simp only [np,ns];try omega)) [r_ref06_Disk_Cut, hneg, hrv, lr_0, hgq, hez, hlt, hltI, hl4', s4_A, ← hg1, hc0, b1, l4_1, hI, hcM, hezb, hbd, hrow, Option.bind_some, hap, i2, lr_0, hfi, q2, hez, hlt, hltI, hpn, ← hg3, hs]
      exact h2
  · have hs : cutD S nm c = (5, S) := by simp [cutD, hfd]
    simp (disch := first|omega|(simp only [np,ns];try omega)) [r_ref06_Disk_Cut, hs]
    exact RfP.same K0 (Fr.refl _ _)

/- disk, part Vb: the reference: Rename. -/

theorem flat_sub {l l' : List Rr} (h : l.Sublist l') : (l.flatMap fpR).Sublist (l'.flatMap fpR) := by
  induction h with
  | slnil => exact List.Sublist.slnil
  | cons x _ ih => rw [List.flatMap_cons]; exact ih.trans (List.sublist_append_right ..)
  | cons_cons x _ ih => rw [List.flatMap_cons, List.flatMap_cons]; exact (List.Sublist.refl _).append ih
set_option maxHeartbeats 2000000 in
theorem rrename_ok {h : VH} {i : Nat} {S : Ds} {X : List Nat} (K : RfDk h i S X) (ok : OkD S) {nm to : List UInt8} (hto : to.length ≤ 140737488355328) :
    PCalls Tryz.prog f_ref06_Disk_Rename [.pointer (some ⟨i, 0, none⟩), .string (strB nm), .string (strB to)] h (fun u h' => u = .int .i64 ((renD S nm to).1 : Int) ∧ RfP h i X (renD S nm to).2 h') := by
  refine PCalls_of_pw st_ref06_Disk_Rename (by simp [n_ref06_Disk_Rename]) ?_
  rw [b_ref06_Disk_Rename]
  unfold B_ref06_Disk_Rename
  generalize hT : PC.seq (PC.ops (gM 38 2 :: _)) _ = T2
  have K0 := K
  obtain ⟨v, rs, rfl, k⟩ := K
  have hlen := k.len
  have hle := ok.len
  have hr := k.rec_
  simp (disch := first|omega|(simp only [np,ns];try omega)) []
  refine (rfind_ok k (by omega) (nm := nm)).mono ?_
  rintro u g ⟨hat, hg⟩
  rw [hg]
  rcases hat.find k.fs with ⟨a, r, b, hrs, hfd, hrn, hna, rfl⟩ | ⟨rfl, hfd⟩
  case inr =>
    have hs : renD S nm to = (5, S) := by simp [renD, hfd]
    simp (disch := first|omega|(simp only [np,ns];try omega)) [r_ref06_Disk_Rename, hs]
    exact RfP.same K0 (Fr.refl _ _)
  subst hrs
  obtain ⟨q, o, c', ds, hv, hc, hqi, hgq, hez, htk, hq, hl0, hl1, hl2, hl3, hl4, hput⟩ := k.row
  have T := k.fil r (by simp)
  obtain ⟨ba, bc, bb, bd, hb, hw⟩ := T.shapes
  obtain ⟨N, hN⟩ : ∃ N, N = (a ++ r :: b).length := ⟨_, rfl⟩
  have hNab : N = a.length + 1 + b.length := by rw [hN]; simp; omega
  have hrv := hr
  have hv' := hv
  rw [← hN] at hv' hc
  rw [hv'] at hrv
  obtain ⟨A, hA⟩ : ∃ A, A = a.length := ⟨_, rfl⟩
  have hl4' : loadObj (.cells ds true 4) (o + A * 4) (some 4) = some (.agg #[.string (strB r.f.nm), .slice ba r.f.all.length bc, .int .i64 (r.f.s.length : Int), .slice bb r.f.ws.length bd]) := by rw [hA, hl4, rowR, hb, hw]
  obtain ⟨M, hM⟩ : ∃ M, M = r.f.all.length := ⟨_, rfl⟩
  obtain ⟨W, hW⟩ : ∃ W, W = r.f.ws.length := ⟨_, rfl⟩
  obtain ⟨s0, hs0⟩ : ∃ s0 : Int, s0 = (r.f.s.length : Int) := ⟨_, rfl⟩
  rw [← hM, ← hW, ← hs0] at hl4'
  rw [← hM] at hb
  rw [← hW] at hw
  rw [← hA]
  have hneg : ¬ (A : Int) < 0 := by omega
  have hlt : A < N := by omega
  have hltI : (A : Int) < (N : Int) := by omega
  simp (disch := first|omega|(simp only [np,ns];try omega)) [hneg]
  refine (rname_ok hto).mono ?_
  rintro u g ⟨rfl, hg⟩
  rw [hg]
  by_cases hname : nameS to = true
  case neg =>
    have hname' : nameS to = false := by simpa using hname
    have hs : renD S nm to = (40, S) := by simp [renD, hfd, hname']
    simp (disch := first|omega|(simp only [np,ns];try omega)) [r_ref06_Disk_Rename, hname', hs]
    exact RfP.same K0 (Fr.refl _ _)
  by_cases hft : nm = to
  · have hs : renD S nm to = (0, S) := by unfold renD; rw [hfd]; simp [hname, hft]
    have hb1 : ((strB nm).toList == (strB to).toList) = true := by rw [hft]; simp
    simp (disch := first|omega|(simp only [np,ns];try omega)) [r_ref06_Disk_Rename, hname, hb1, hs]
    exact RfP.same K0 (Fr.refl _ _)
  have hb1 : ((strB nm).toList == (strB to).toList) = false := by rw [strB_toList, strB_toList]; simpa using hft
  have hs : renD S nm to = (0, { S with fs := insF { r.f with nm := to } (delF to (delF nm S.fs)) }) := by unfold renD; rw [hfd]; simp [hname, hft]
  rw [hs]
  obtain ⟨g1, hg1⟩ : ∃ g1, g1 = (h.push (.cells zF true 1)).set h.n (.cells [.string (strB r.f.nm), .slice ba M bc, .int .i64 s0, .slice bb W bd] true 1) := ⟨_, rfl⟩
  have F1 : Fr h g1 [] := by rw [hg1]; exact Fr_set (Fr_push (Fr.refl _ _)) (Nat.le_refl _)
  have b1 : g1.get h.n = .cells [.string (strB r.f.nm), .slice ba M bc, .int .i64 s0, .slice bb W bd] true 1 := by rw [hg1, VH.get_set_same]
  have n1 : g1.n = h.n + 1 := by rw [hg1]; rfl
  have hilt := k.lt
  have hir : i ∉ fpR r := k.nr (by simp)
  have hlts := k.lts
  obtain ⟨x, hx⟩ : ∃ x : Rr, x = ⟨{ r.f with nm := to }, r.bv, r.wv⟩ := ⟨_, rfl⟩
  have hxf : fpR x = fpR r := by rw [hx]; rfl
  have hnd0 : (fpR x ++ (a ++ b).flatMap fpR).Nodup := by
    have h1 := k.frs
    have h2 : ((a ++ r :: b).flatMap fpR).Perm (fpR r ++ (a ++ b).flatMap fpR) := by
      have := (List.perm_middle (a := r) (l₁ := a) (l₂ := b)).flatMap_right fpR
      rwa [List.flatMap_cons] at this
    rw [hxf]
    exact h2.nodup_iff.1 h1
  -- the tail: with the files that are left
  have tail : ∀ (s : Slots) (g3 : VH) (v3 : Value) (rs3 : List Rr) (S3 : Ds), RRep g3 i v3 rs3 S3 → S3.fs = delF to (delF nm S.fs) → S3.sy = S.sy → rs3.Sublist (a ++ b) → (∀ y ∈ idOf v3, h.n < y) → Fr g1 g3 [i] → s 0 = .pointer (some ⟨i, 0, none⟩) → s 2 = .string (strB to) → s 8 = .pointer (some ⟨h.n, 0, none⟩) →
      pw Tryz.prog T2 s g3 (F_ref06_Disk_Rename.ret fun u h' => u = .int .i64 0 ∧ RfP h i (fpD i v (a ++ r :: b)) { S with fs := insF { r.f with nm := to } (delF to (delF nm S.fs)) } h') := by
    intro s g3 v3 rs3 S3 k3 hfs3 hsy3 hsub hv3 F3 e0 e2 e8
    rw [← hT]
    have b3 : g3.get h.n = .cells [.string (strB r.f.nm), .slice ba M bc, .int .i64 s0, .slice bb W bd] true 1 := (F3.get _ (by omega) (by simp; omega)).trans b1
    obtain ⟨g4, hg4⟩ : ∃ g4, g4 = g3.set h.n (.cells [.string (strB to), .slice ba M bc, .int .i64 s0, .slice bb W bd] true 1) := ⟨_, rfl⟩
    have F4 : Fr g3 g4 [h.n] := by rw [hg4]; exact Fr.set _ _ (by simp)
    have n3 := F3.n
    have F03 : Fr h g3 [i] := (F1.sub (by simp)).trans F3
    have F04 : Fr h g4 [i] := F03.trans' F4 (fun y hy => by simp at hy; exact .inr (by omega))
    have k4 : RRep g4 i v3 rs3 S3 := k3.fr F4 (fun y hy hyn => by
      simp at hyn
      subst hyn
      rcases List.mem_cons.1 hy with h1 | hy
      · omega
      · rcases List.mem_append.1 hy with h1 | h1
        · have := hv3 _ h1; omega
        · obtain ⟨z, hz, h1⟩ := List.mem_flatMap.1 h1
          have hz2 : z ∈ a ++ r :: b := by
            have := hsub.mem hz
            simp only [List.mem_append, List.mem_cons] at this ⊢
            exact this.imp id .inr
          have := hlts _ (fpD_in hz2 _ h1)
          omega)
    have T4 : RfAt g4 x := by
      have := T.fr F04 (fun y hy hyi => by simp at hyi; subst hyi; exact hir hy)
      rw [hx]
      exact ⟨this.b, this.w⟩
    have hxv : rowV x = .agg #[.string (strB to), .slice ba M bc, .int .i64 s0, .slice bb W bd] := by rw [hx]; simp only [rowV, hb, hw, hs0]
    have hl3 : rs3.length ≤ 64 := by
      have := hsub.length_le
      rw [List.length_append] at this
      omega
    have hnd3 : (fpR x ++ rs3.flatMap fpR).Nodup := hnd0.sublist ((List.Sublist.refl _).append (flat_sub hsub))
    have hp := rput_ok k4 hl3 T4 (by rw [hxf]; exact hir) hnd3
    rw [hxv] at hp
    have b4 : g4.get h.n = .cells [.string (strB to), .slice ba M bc, .int .i64 s0, .slice bb W bd] true 1 := by rw [hg4, VH.get_set_same]
    simp (disch := first|omega|(simp only [np,ns];try omega)) [e0, e2, e8, b3, s4_0, ← hg4, b4, l4_A]
    refine hp.mono ?_
    rintro u g5 ⟨rfl, v', A2, B2, hAB, k5, F5, hid5⟩
    simp (disch := first|omega|(simp only [np,ns];try omega)) [r_ref06_Disk_Rename]
    have hSS : ({ S3 with fs := insF x.f S3.fs } : Ds) = { S with fs := insF { r.f with nm := to } (delF to (delF nm S.fs)) } := by
      rw [hfs3, hx, hsy3]
    rw [hSS] at k5
    refine ⟨_, ⟨v', _, rfl, k5⟩, (F04.trans F5).sub (by simp [fpD]), fun y hy => ?_⟩
    have hn4 := F4.n
    rcases List.mem_cons.1 hy with h1 | hy
    · exact .inl (by simp [fpD, h1])
    · rcases List.mem_append.1 hy with h1 | h1
      · have := hid5 _ h1; exact .inr (by omega)
      · obtain ⟨z, hz, h2⟩ := List.mem_flatMap.1 h1
        simp only [List.mem_append, List.mem_cons] at hz
        have hin : ∀ z ∈ rs3, z ∈ a ++ r :: b := fun z hz => by
          have := hsub.mem hz
          simp only [List.mem_append, List.mem_cons] at this ⊢
          exact this.imp id .inr
        rcases hz with hz | hz | hz
        · exact .inl (fpD_in (hin z (by rw [hAB]; simp [hz])) _ h2)
        · rw [hz, hxf] at h2
          exact .inl (fpD_in (r := r) (by simp) _ h2)
        · exact .inl (fpD_in (hin z (by rw [hAB]; simp [hz])) _ h2)
  have k1 := k.fr0 F1
  have hzz := rdrop_ok k1 (by omega) (by rw [hrn]; exact hna)
  rw [← hA] at hzz
  simp (disch := first|omega|(simp only [np,ns];try omega)) [hname, hb1, hrv, lr_0, hgq, hez, hlt, hltI, hl4', s4_A, ← hg1]
  refine hzz.mono ?_
  rintro u g2 ⟨rfl, v2, k2, F2, hid2⟩
  rw [hrn] at k2
  simp (disch := first|omega|(simp only [np,ns];try omega)) []
  have hl2 : (a ++ b).length ≤ 64 := by rw [List.length_append]; omega
  refine (rfind_ok k2 hl2 (nm := to)).mono ?_
  rintro u g3 ⟨hat2, hg3⟩
  rw [hg3]
  rcases hat2.find k2.fs with ⟨a2, r2, b2, hab2, hfd2, hrn2, hna2, rfl⟩ | ⟨rfl, hfd2⟩
  · have hnn : ¬ ((a2.length : Nat) : Int) < 0 := by omega
    rw [hab2] at k2 hl2
    simp (disch := first|omega|(simp only [np,ns];try omega)) [hnn]
    refine (rdrop_ok k2 hl2 (by rw [hrn2]; exact hna2)).mono ?_
    rintro u g4 ⟨rfl, v4, k4, F4, hid4⟩
    rw [hrn2] at k4
    have n2 := F2.n
    simp (disch := first|omega|(simp only [np,ns];try omega)) []
    refine tail _ g4 v4 (a2 ++ b2) _ k4 rfl rfl ?_ (fun y hy => by have := hid4 y hy; omega) (F2.trans F4) (by simp [upd_apply, s0_apply]) (by simp [upd_apply, s0_apply]) (by simp [upd_apply])
    rw [hab2]
    exact (List.Sublist.refl _).append (List.sublist_cons_self ..)
  · simp (disch := first|omega|(simp only [np,ns];try omega)) []
    refine tail _ g2 v2 (a ++ b) _ k2 (by rw [delF_none hfd2]) rfl (List.Sublist.refl _) (fun y hy => by have := hid2 y hy; omega) F2 (by simp [upd_apply, s0_apply]) (by simp [upd_apply, s0_apply]) (by simp [upd_apply])

/- disk, part Vc: the reference: Append. -/

theorem atL_append : ∀ (n : Nat) (ws : List (List UInt8)) (w : List UInt8), atL n (ws ++ [w]) = atL n ws ++ [n + ws.flatten.length]
  | n, [], w => by simp [atL]
  | n, x :: ws, w => by
    simp only [List.cons_append, atL]
    rw [atL_append (n + x.length) ws w]
    simp [Nat.add_assoc]
theorem bytes_lt {h : VH} {v : Value} {bs : List UInt8} (hb : IsBytes h v bs) : ∀ x ∈ idOf v, x < h.n := by
  intro x hx
  rcases hb.cases with ⟨rfl, _⟩ | ⟨i, o, c, hi, _, rfl, _⟩
  · simp [idOf] at hx
  · simp [idOf] at hx; subst hx; exact hi
theorem RfP.trans {a b c : VH} {i : Nat} {S : Ds} {X Y : List Nat} (k : Mr a b X Y) (l : RfP b i Y S c) : RfP a i X S c := by
  obtain ⟨Z, h1, h2⟩ := l
  exact ⟨Z, h1, k.trans h2⟩
set_option maxHeartbeats 4000000 in
theorem rappend_ok {h : VH} {i : Nat} {S : Ds} {X : List Nat} (K : RfDk h i S X) (ok : OkD S) {nm bs : List UInt8} {vb : Value} (hnm : nm.length ≤ 140737488355328) (hvb : IsBytes h vb bs) (hvx : ∀ x ∈ idOf vb, x ∉ X) (hbl : bs.length ≤ 1099511627000) :
    PCalls Tryz.prog f_ref06_Disk_Append [.pointer (some ⟨i, 0, none⟩), .string (strB nm), vb] h (fun u h' => u = .int .i64 ((appD S nm bs).1 : Int) ∧ RfP h i X (appD S nm bs).2 h') := by
  refine PCalls_of_pw st_ref06_Disk_Append (by simp [n_ref06_Disk_Append]) ?_
  rw [b_ref06_Disk_Append]
  unfold B_ref06_Disk_Append
  generalize hT : PC.seq (PC.seq (PC.ops (gM 47 2 :: _)) _) _ = T2
  have K0 := K
  obtain ⟨v, rs, rfl, k⟩ := K
  have hlen := k.len
  have hle := ok.len
  have hr := k.rec_
  obtain ⟨va, vc, rfl⟩ := hvb.shape
  obtain ⟨L, hL⟩ : ∃ L, L = bs.length := ⟨_, rfl⟩
  rw [← hL] at hvb hvx
  rw [← hL]
  have tail : ∀ (s : Slots) (g : VH) (v1 : Value) (a b : List Rr) (r : Rr) (S1 : Ds), RRep g i v1 (a ++ r :: b) S1 → (a ++ r :: b).length ≤ 65 → (∀ x ∈ a, x.f.nm ≠ r.f.nm) → Mr h g (fpD i v rs) (fpD i v1 (a ++ r :: b)) → IsBytes g (.slice va L vc) bs → r.f.all.length + L ≤ 1048576 → r.f.ws.length ≤ 1048576 →
      s 0 = .pointer (some ⟨i, 0, none⟩) → s 2 = .slice va L vc → s 7 = .int .i64 (a.length : Int) → (appD S nm bs).1 = 0 → (bs = [] → (appD S nm bs).2 = S1) → (bs ≠ [] → (appD S nm bs).2 = { S1 with fs := setF ⟨r.f.nm, r.f.s, r.f.ws ++ [bs]⟩ S1.fs }) →
      pw Tryz.prog T2 s g (F_ref06_Disk_Append.ret fun u h' => u = .int .i64 ((appD S nm bs).1 : Int) ∧ RfP h i (fpD i v rs) (appD S nm bs).2 h') := by
    intro s g v1 a b r S1 k1 hl1 hna hmr hv1 hsz hwl e0 e2 e7 hs0 hs1 hs2
    rw [← hT]
    by_cases hb0 : bs = []
    · have hL0 : L = 0 := by rw [hL, hb0]; rfl
      have hn1 : ¬ (0 : Int) < (L : Int) := by omega
      have hn2 : ¬ 0 < L := by omega
      simp (disch := first|omega|(simp only [np,ns];try omega)) [r_ref06_Disk_Append, e2, hn1, hn2, hs0, hs1 hb0]
      exact ⟨_, ⟨v1, _, rfl, k1⟩, hmr⟩
    have hL0 : 0 < L := by rw [hL]; exact List.length_pos_iff.2 hb0
    have hn1 : (0 : Int) < (L : Int) := by omega
    rw [hs2 hb0, hs0]
    obtain ⟨q, o, c', ds, hv, hc, hqi, hgq, hez, htk, hq, _, _, _, _, hl4, hput⟩ := k1.row
    have T := k1.fil r (by simp)
    obtain ⟨ba, bc, bb, bd, hb, hw⟩ := T.shapes
    obtain ⟨N, hN⟩ : ∃ N, N = (a ++ r :: b).length := ⟨_, rfl⟩
    have hNab : N = a.length + 1 + b.length := by rw [hN]; simp; omega
    have hr1 := k1.rec_
    have hrv := hr1
    have hv' := hv
    rw [← hN] at hv' hc hl1
    rw [hv'] at hrv
    obtain ⟨A, hA⟩ : ∃ A, A = a.length := ⟨_, rfl⟩
    have hl4' : loadObj (.cells ds true 4) (o + A * 4) (some 4) = some (.agg #[.string (strB r.f.nm), .slice ba r.f.all.length bc, .int .i64 (r.f.s.length : Int), .slice bb r.f.ws.length bd]) := by rw [hA, hl4, rowR, hb, hw]
    obtain ⟨M, hM⟩ : ∃ M, M = r.f.all.length := ⟨_, rfl⟩
    obtain ⟨W, hW⟩ : ∃ W, W = r.f.ws.length := ⟨_, rfl⟩
    obtain ⟨s0, hs0'⟩ : ∃ s0 : Int, s0 = (r.f.s.length : Int) := ⟨_, rfl⟩
    have hM2 : M = r.f.s.length + r.f.ws.flatten.length := by rw [hM]; simp [Fl.all]
    rw [← hM, ← hW, ← hs0'] at hl4'
    have hb2 := hb
    have hw2 := hw
    rw [← hM] at hb2 hsz
    rw [← hW] at hw2 hwl
    rw [← hA] at e7
    have hlt : A < N := by omega
    have hltI : (A : Int) < (N : Int) := by omega
    obtain ⟨g1, hg1⟩ : ∃ g1, g1 = (g.push (.cells zF true 1)).set g.n (.cells [.string (strB r.f.nm), .slice ba M bc, .int .i64 s0, .slice bb W bd] true 1) := ⟨_, rfl⟩
    have F1 : Fr g g1 [] := by rw [hg1]; exact Fr_set (Fr_push (Fr.refl _ _)) (Nat.le_refl _)
    have n1 : g1.n = g.n + 1 := by rw [hg1]; rfl
    have b1 : g1.get g.n = .cells [.string (strB r.f.nm), .slice ba M bc, .int .i64 s0, .slice bb W bd] true 1 := by rw [hg1, VH.get_set_same]
    obtain ⟨g2, hg2⟩ : ∃ g2, g2 = g1.push (.cells [.int .i64 (M : Int)] true 1) := ⟨_, rfl⟩
    have F2 : Fr g1 g2 [] := by rw [hg2]; exact Fr_push (Fr.refl _ _)
    have n2 : g2.n = g1.n + 1 := by rw [hg2]; rfl
    have q2 : g2.get g1.n = .cells [.int .i64 (M : Int)] true 1 := by rw [hg2, VH.get_push_new]
    have hro : rowObj (.cells [.int .i64 (M : Int)] true 1) 0 1 = some [.int .i64 (M : Int)] := rfl
    have hfi : fillC [.int .i64 0] [(0, 1, .int .i64 (M : Int))] = some [.int .i64 (M : Int)] := rfl
    have hone : ([.int .i64 (M : Int)] : List Value).all Value.oneCell' = true := rfl
    have F02 : Fr g g2 [] := F1.trans F2
    have T2' := T.fr F02 (fun _ _ => by simp)
    have hw0 := T2'.w
    rw [← hW] at hw0
    obtain ⟨w3, g3, hap3, ow3, F3, hid3⟩ := hw0.append (bytes := 8) (ys := [.int .i64 (M : Int)]) (k := 1) rfl (by omega)
    obtain ⟨wa, wc, hw3⟩ := ow3.shape
    have hlts := k1.lts
    have hwx : ∀ x ∈ idOf r.wv, x < g.n := fun x hx => T.w.lt x hx
    have hbx : ∀ x ∈ idOf r.bv, x < g.n := fun x hx => T.b.lt x hx
    have n3 := F3.n
    have b2 : g2.get g.n = .cells [.string (strB r.f.nm), .slice ba M bc, .int .i64 s0, .slice bb W bd] true 1 := (F2.get _ (by omega) (by simp)).trans b1
    have b3 : g3.get g.n = .cells [.string (strB r.f.nm), .slice ba M bc, .int .i64 s0, .slice bb W bd] true 1 := (F3.get _ (by omega) (fun hx => by have := hwx _ hx; omega)).trans b2
    obtain ⟨g4, hg4⟩ : ∃ g4, g4 = g3.set g.n (.cells [.string (strB r.f.nm), .slice ba M bc, .int .i64 s0, .slice wa (W + 1) wc] true 1) := ⟨_, rfl⟩
    have F4 : Fr g3 g4 [g.n] := by rw [hg4]; exact Fr.set _ _ (by simp)
    have n4 : g4.n = g3.n := by rw [hg4]; rfl
    have b4 : g4.get g.n = .cells [.string (strB r.f.nm), .slice ba M bc, .int .i64 s0, .slice wa (W + 1) wc] true 1 := by rw [hg4, VH.get_set_same]
    have hfnd := k1.fnd (r := r) (by simp)
    simp only [fpR, List.nodup_append] at hfnd
    obtain ⟨d1, d2, d3⟩ := hfnd
    have F04 : Fr g g4 (idOf r.wv) := ((F02.sub (by simp)).trans F3).trans' F4 (fun y hy => by simp at hy; exact .inr (by omega))
    have hb4 := T.b.fr F04 (fun x hx hxw => d3 x hx x hxw rfl)
    rw [← hM] at hb4
    have hvv : ∀ x ∈ idOf (.slice va L vc), x ∉ fpD i v1 (a ++ r :: b) := fun x hx hxf => by
      rcases hmr.ids x hxf with h1 | h1
      · exact hvx x hx h1
      · have := bytes_lt hvb x hx; omega
    have hv4 := hv1.fr F04 (fun x hx hxw => hvv x hx (fpD_in (r := r) (by simp) x (by simp [fpR, hxw])))
    have hsrc := hv4.src
    obtain ⟨w5, g5, hap5, ow5, F5, hid5⟩ := hb4.append (bytes := 1) (ys := u8s bs) (k := L) (by simp [hL]) (by omega)
    rw [← u8s_append] at ow5
    obtain ⟨xa, xc, hw5⟩ := ow5.shape
    have n5 := F5.n
    have b5 : g5.get g.n = .cells [.string (strB r.f.nm), .slice ba M bc, .int .i64 s0, .slice wa (W + 1) wc] true 1 := (F5.get _ (by omega) (fun hx => by have := hbx _ hx; omega)).trans b4
    obtain ⟨g6, hg6⟩ : ∃ g6, g6 = g5.set g.n (.cells [.string (strB r.f.nm), .slice xa (M + L) xc, .int .i64 s0, .slice wa (W + 1) wc] true 1) := ⟨_, rfl⟩
    have F6 : Fr g5 g6 [g.n] := by rw [hg6]; exact Fr.set _ _ (by simp)
    have n6 : g6.n = g5.n := by rw [hg6]; rfl
    have b6 : g6.get g.n = .cells [.string (strB r.f.nm), .slice xa (M + L) xc, .int .i64 s0, .slice wa (W + 1) wc] true 1 := by rw [hg6, VH.get_set_same]
    have F06 : Fr g g6 (fpR r) := ((F04.sub (fun x hx => by simp [fpR, hx])).trans (F5.sub (fun x hx => by simp [fpR, hx]))).trans' F6 (fun y hy => by simp at hy; exact .inr (by omega))
    have hqv : q ∈ idOf v1 := by rw [hv]; simp [idOf]
    have hiq : i ≠ q := fun e => k1.nv (e ▸ hqv)
    have hqr : q ∉ fpR r := k1.nvr (r := r) (by simp) q hqv
    have q6 : g6.get q = .cells ds true 4 := (F06.get _ hqi hqr).trans hgq
    have i6 := (F06.get i k1.lt (k1.nr (r := r) (by simp))).trans hrv
    obtain ⟨r', hr'⟩ : ∃ r' : Rr, r' = ⟨⟨r.f.nm, r.f.s, r.f.ws ++ [bs]⟩, w5, w3⟩ := ⟨_, rfl⟩
    have hrow : rowR r' = [.string (strB r.f.nm), .slice xa (M + L) xc, .int .i64 s0, .slice wa (W + 1) wc] := by rw [hr']; simp only [rowR, hw5, hw3, hs0']
    have hone' : (rowR r').all Value.oneCell' = true := by rw [hrow]; rfl
    have hpn := el_putN (zz := 4) (R := rowR r') (ds := ds) (q := o + A * 4) (z := 4) (by omega) (rowR_len r') hone'
    have hpn' : storeObj (.cells ds true 4) (o + A * 4) 4 (.agg #[.string (strB r.f.nm), .slice xa (M + L) xc, .int .i64 s0, .slice wa (W + 1) wc]) = some (.cells (wr ds (o + A * 4) (rowR r')) true 4) := by rw [← hpn, hrow]
    obtain ⟨g7, hg7⟩ : ∃ g7, g7 = g6.set q (.cells (wr ds (o + A * 4) (rowR r')) true 4) := ⟨_, rfl⟩
    have h3lt : ∀ x ∈ idOf w3, x < g3.n := fun x hx => ow3.lt x hx
    have hid3' : ∀ x ∈ idOf w3, x ∈ idOf r.wv ∨ g2.n ≤ x := hid3
    have hid5' : ∀ x ∈ idOf w5, x ∈ idOf r.bv ∨ g4.n ≤ x := hid5
    have h35 : ∀ x ∈ idOf w3, x ∉ idOf r.bv := fun x hx hxb => by
      rcases hid3' x hx with h1 | h1
      · exact d3 x hxb x h1 rfl
      · have := hbx x hxb; omega
    have h53 : ∀ x ∈ idOf w5, x ∉ idOf w3 := fun x hx hx3 => by
      rcases hid5' x hx with h1 | h1
      · exact h35 x hx3 h1
      · have := h3lt x hx3; omega
    have hgn3 : g.n ∉ idOf w3 := fun hx => by
      rcases hid3' _ hx with h1 | h1
      · have := hwx _ h1; omega
      · omega
    have hgn5 : g.n ∉ idOf w5 := fun hx => by
      rcases hid5' _ hx with h1 | h1
      · have := hbx _ h1; omega
      · omega
    have TT : RfAt g6 r' := by
      rw [hr']
      refine ⟨?_, ?_⟩
      · have := ow5.fr F6 (fun x hx hxg => by simp at hxg; subst hxg; exact hgn5 hx)
        simpa [Fl.all, hM2, hL, Nat.add_assoc] using this
      · have := ((ow3.fr F4 (fun x hx hxg => by simp at hxg; subst hxg; exact hgn3 hx)).fr F5 h35).fr F6 (fun x hx hxg => by simp at hxg; subst hxg; exact hgn3 hx)
        simp only [atL_append, ← hM2, intsL, List.map_append, List.length_append, ← hW] at this ⊢
        exact this
    have hfpr' : fpR r' = idOf w5 ++ idOf w3 := by rw [hr']; rfl
    have hndr : (fpR r').Nodup := by
      rw [hfpr', List.nodup_append]
      exact ⟨idOf_nodup _, idOf_nodup _, fun x hx y hy e => h53 x hx (e ▸ hy)⟩
    have hfp : ∀ x ∈ fpR r', x ∈ fpR r ∨ g.n ≤ x := by
      rw [hfpr']
      intro x hx
      rcases List.mem_append.1 hx with hx | hx
      · exact (hid5' x hx).imp (fun h => by simp [fpR, h]) (fun h => by omega)
      · exact (hid3' x hx).imp (fun h => by simp [fpR, h]) (fun h => by omega)
    have fin := k1.put (r' := r') (S' := { S1 with fs := setF ⟨r.f.nm, r.f.s, r.f.ws ++ [bs]⟩ S1.fs }) hv F06 hqi hput TT hndr hfp (by
      have := fs_set (r' := r') k1.fs hna (by rw [hr'])
      rw [this, hr']) rfl
    rw [← hA, ← hg7] at fin
    rw [hb2] at hap5
    rw [hw5] at hap5
    rw [hw2, hw3] at hap3
    have hrow3 : srcCells g2 1 (.slice (some ⟨g1.n, 0, none⟩) 1 1) = some [.int .i64 (M : Int)] := by rw [srcCells_at, q2]; rfl
    simp (disch := first|omega|(simp only [np,ns];try omega)) [r_ref06_Disk_Append, e0, e2, e7, hn1, hL0, hrv, lr_0, hgq, hez, hlt, hltI, hl4', s4_A, ← hg1, b1, l4_3, l4_1, hfi, hone, ← hg2, q2, hro, Option.bind_some, hap3, b3, s4_3, ← hg4, b4, hsrc, hap5, b5, s4_1, ← hg6, b6, l4_A, i6, q6, hpn', ← hg7]
    exact RfP.trans hmr fin
  clear hT
  by_cases hname : nameS nm = true
  case neg =>
    have hname' : nameS nm = false := by simpa using hname
    have hs : appD S nm bs = (40, S) := by simp [appD, hname']
    simp (disch := first|omega|(simp only [np,ns];try omega)) []
    refine (rname_ok hnm).mono ?_
    rintro u g ⟨rfl, hg⟩
    rw [hg]
    simp (disch := first|omega|(simp only [np,ns];try omega)) [r_ref06_Disk_Append, hname', hs]
    exact RfP.same K0 (Fr.refl _ _)
  simp (disch := first|omega|(simp only [np,ns];try omega)) []
  refine (rname_ok hnm).mono ?_
  rintro u g ⟨rfl, hg⟩
  rw [hg]
  simp (disch := first|omega|(simp only [np,ns];try omega)) [hname]
  refine (rfind_ok k (by omega) (nm := nm)).mono ?_
  rintro u g ⟨hat, hg⟩
  rw [hg]
  rcases hat.find k.fs with ⟨a, r, b, hrs, hfd, hrn, hna, rfl⟩ | ⟨rfl, hfd⟩
  · subst hrs
    obtain ⟨q, o, c', ds, hv, hc, hqi, hgq, hez, htk, hq, _, hl1, _⟩ := k.row
    have T := k.fil r (by simp)
    have okf := ok.find hfd
    have osz := okf.sz
    have owl := okf.wl
    obtain ⟨ba, bc, bb, bd, hb, hw⟩ := T.shapes
    obtain ⟨N, hN⟩ : ∃ N, N = (a ++ r :: b).length := ⟨_, rfl⟩
    have hNab : N = a.length + 1 + b.length := by rw [hN]; simp; omega
    have hrv := hr
    rw [← hN] at hv hc
    rw [hv] at hrv
    obtain ⟨A, hA⟩ : ∃ A, A = a.length := ⟨_, rfl⟩
    rw [← hA, hb] at hl1
    obtain ⟨M, hM⟩ : ∃ M, M = r.f.all.length := ⟨_, rfl⟩
    rw [← hM] at hl1 osz owl
    have hnn : ¬ (A : Int) < 0 := by omega
    have hnn2 : (0 : Int) ≤ (A : Int) := by omega
    have hlt : A < N := by omega
    have hltI : (A : Int) < (N : Int) := by omega
    have hsub : IntKind.i64.wrap (1048576 - (M : Int)) = 1048576 - (M : Int) := i64_small (by omega) (by omega)
    rw [← hA]
    by_cases hbig : 1048576 < M + L
    · have hs : appD S nm bs = (4, S) := by
        unfold appD
        rw [hfd]
        simp only [hname, sizeF, ← hM, ← hL]
        simp [hbig]
      have hI : 1048576 - (M : Int) < (L : Int) := by omega
      simp (disch := first|omega|(simp only [np,ns];try omega)) [r_ref06_Disk_Append, hnn, hnn2, hrv, lr_0, hgq, hez, hlt, hltI, hl1, hsub, hI, hs]
      exact RfP.same K0 (Fr.refl _ _)
    have hI : ¬ 1048576 - (M : Int) < (L : Int) := by omega
    have hs : appD S nm bs = (0, if bs = [] then S else { S with fs := setF { r.f with ws := r.f.ws ++ [bs] } S.fs }) := by
      unfold appD
      rw [hfd]
      simp only [hname, sizeF, ← hM, ← hL]
      simp [hbig]
    simp (disch := first|omega|(simp only [np,ns];try omega)) [hnn, hnn2, hrv, lr_0, hgq, hez, hlt, hltI, hl1, hsub, hI]
    exact tail _ h v a b r S k (by omega) (by rw [hrn]; exact hna) (Mr.refl _ _) hvb (by omega) (by omega) (by simp [upd_apply, s0_apply]) (by simp [upd_apply, s0_apply]) (by simp [upd_apply, hA]) (by rw [hs]) (fun hb => by rw [hs]; simp [hb]) (fun hb => by rw [hs]; simp [hb])
  · have hsub : IntKind.i64.wrap (1048576 - (0 : Int)) = 1048576 := by decide
    obtain ⟨N, hN⟩ : ∃ N, N = rs.length := ⟨_, rfl⟩
    obtain ⟨ra, rc, hv⟩ := k.own.shapeN
    have hrv := hr
    rw [← hN] at hv
    rw [hv] at hrv
    by_cases hbig : 1048576 < L
    · have hs : appD S nm bs = (4, S) := by
        unfold appD
        rw [hfd]
        simp [hname, sizeF, ← hL, hbig]
      have hI : (1048576 : Int) < (L : Int) := by omega
      simp (disch := first|omega|(simp only [np,ns];try omega)) [r_ref06_Disk_Append, hsub, hI, hbig, hs]
      exact RfP.same K0 (Fr.refl _ _)
    have hI : ¬ (1048576 : Int) < (L : Int) := by omega
    by_cases hfull : 64 ≤ S.fs.length
    · have hs : appD S nm bs = (7, S) := by
        unfold appD
        rw [hfd]
        simp [hname, sizeF, ← hL, hbig, hfull]
      have hF : (64 : Int) ≤ (N : Int) := by omega
      have hF' : 64 ≤ N := by omega
      simp (disch := first|omega|(simp only [np,ns];try omega)) [r_ref06_Disk_Append, hsub, hI, hbig, hrv, lr_0, hF, hF', hs]
      exact RfP.same K0 (Fr.refl _ _)
    have hF : ¬ (64 : Int) ≤ (N : Int) := by omega
    have hF' : ¬ 64 ≤ N := by omega
    have hs : appD S nm bs = (0, { S with fs := insF ⟨nm, [], if bs = [] then [] else [bs]⟩ S.fs }) := by
      unfold appD
      rw [hfd]
      simp [hname, sizeF, ← hL, hbig, hfull]
    have hfi : fillC zF [(0, 1, .string (strB nm))] = some [.string (strB nm), .slice none 0 0, .int .i64 0, .slice none 0 0] := rfl
    have hp := rput_ok k (by omega) (x := ⟨⟨nm, [], []⟩, .slice none 0 0, .slice none 0 0⟩) ⟨OwnP.nil _ _, OwnP.nil _ _⟩ (by simp [fpR, idOf]) (by simpa [fpR, idOf] using k.frs)
    have hxv : rowV ⟨⟨nm, [], []⟩, .slice none 0 0, .slice none 0 0⟩ = .agg #[.string (strB nm), .slice none 0 0, .int .i64 0, .slice none 0 0] := rfl
    rw [hxv] at hp
    simp (disch := first|omega|(simp only [np,ns];try omega)) [hsub, hI, hbig, hrv, lr_0, hF, hF', hfi]
    refine hp.mono ?_
    rintro u g2 ⟨rfl, v', A2, B2, hAB, k2, F2, hid2⟩
    simp (disch := first|omega|(simp only [np,ns];try omega)) []
    have hl2 : (A2 ++ (⟨⟨nm, [], []⟩, .slice none 0 0, .slice none 0 0⟩ : Rr) :: B2).length ≤ 64 := by
      have := congrArg List.length hAB
      simp at this ⊢
      omega
    refine (rfind_ok k2 hl2 (nm := nm)).mono ?_
    rintro u g3 ⟨hat2, hg3⟩
    rw [hg3]
    have hins : findF nm (insF ⟨nm, [], []⟩ S.fs) = some ⟨nm, [], []⟩ := by
      rw [findF_insF (x := ⟨nm, [], []⟩) hfd, if_pos rfl]
    rcases hat2.find k2.fs with ⟨a, r, b, hrs, hfd2, hrn, hna, rfl⟩ | ⟨_, hfd2⟩
    case inr => rw [hins] at hfd2; cases hfd2
    have hrf : r.f = ⟨nm, [], []⟩ := by
      have := hfd2.symm.trans hins
      injection this
    rw [hrs] at k2 hl2
    have hmr : Mr h g2 (fpD i v rs) (fpD i v' (a ++ r :: b)) := by
      refine ⟨F2.sub (by simp [fpD]), fun x hx => ?_⟩
      rw [← hrs] at hx
      simp only [fpD_mid, List.mem_append, List.mem_cons] at hx
      have hz : x ∈ A2.flatMap fpR ∨ x ∈ B2.flatMap fpR → x ∈ fpD i v rs := fun hz => by
        rw [hAB]
        simp only [fpD, List.flatMap_append, List.mem_cons, List.mem_append]
        exact .inr (.inr hz)
      rcases hx with ((h1 | h1 | h1) | h1) | h1
      · exact .inl (by simp [fpD, h1])
      · exact .inr (hid2 x h1)
      · exact .inl (hz (.inl h1))
      · simp [fpR, idOf] at h1
      · exact .inl (hz (.inr h1))
    simp (disch := first|omega|(simp only [np,ns];try omega)) []
    refine tail _ g2 v' a b r _ k2 (by omega) (by rw [hrn]; exact hna) hmr (hvb.fr F2 (fun x hx hxi => ?_)) (by rw [hrf]; simp [Fl.all]; omega) (by rw [hrf]; simp) (by simp [upd_apply, s0_apply]) (by simp [upd_apply, s0_apply]) (by simp [upd_apply]) (by rw [hs]) (fun hb => by rw [hs]; simp [hb]) (fun hb => ?_)
    · simp at hxi
      subst hxi
      exact hvx _ hx (by simp [fpD])
    · rw [hs, hrf]
      simp only [hb, if_false, List.nil_append]
      rw [setF_insF (x := ⟨nm, [], []⟩) (y := ⟨nm, [], [bs]⟩) rfl hfd]
end Go.Proofs.YtgnmhonbcejnfaaGreatDoor.Dk
