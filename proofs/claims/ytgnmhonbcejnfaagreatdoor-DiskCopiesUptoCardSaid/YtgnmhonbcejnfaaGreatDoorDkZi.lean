/- disk, part Zi: a copy and what it was made of go their own ways. -/
import Derived.Test.YtgnmhonbcejnfaaGreatDoorDkZh
set_option linter.unusedVariables false
set_option linter.unusedSimpArgs false
set_option maxRecDepth 100000
namespace Go.Proofs.YtgnmhonbcejnfaaGreatDoor.Dk
open Go Go.RowKit Go.Proofs.YtgnmhonbcejnfaaGreatDoor.Pm Go.Proofs.YtgnmhonbcejnfaaGreatDoor.Fs
attribute [-simp] BitVec.toNat_or BitVec.toNat_xor BitVec.toNat_add BitVec.toNat_and BitVec.toNat_not BitVec.toNat_shiftLeft BitVec.toNat_ushiftRight

/-- nothing of the one is the other's. -/
def Crs (X R Y Xc Rc Yc : List Nat) : Prop := (∀ z ∈ X ++ Y, z ∉ Xc ∧ z ∉ Rc ∧ z ∉ Yc) ∧ ∀ z ∈ Xc ++ Yc, z ∉ X ∧ z ∉ R ∧ z ∉ Y
theorem Crs.symm {X R Y Xc Rc Yc : List Nat} (k : Crs X R Y Xc Rc Yc) : Crs Xc Rc Yc X R Y := ⟨k.2, k.1⟩
def TwP (h0 h : VH) (i ri : Nat) (S : Ds) (ci si : Nat) (T : Ds) : Prop := ∃ X R Y Xc Rc Yc, Bo h0 h i ri S X R Y ∧ Bo h0 h ci si T Xc Rc Yc ∧ Crs X R Y Xc Rc Yc
theorem TwP.symm {h0 h : VH} {i ri : Nat} {S : Ds} {ci si : Nat} {T : Ds} (k : TwP h0 h i ri S ci si T) : TwP h0 h ci si T i ri S := by
  obtain ⟨X, R, Y, Xc, Rc, Yc, k1, k2, k3⟩ := k
  exact ⟨Xc, Rc, Yc, X, R, Y, k2, k1, k3.symm⟩
theorem TwP.fr0 {h0 h h' : VH} {i ri : Nat} {S : Ds} {ci si : Nat} {T : Ds} (k : TwP h0 h i ri S ci si T) (hf : Fr h h' []) : TwP h0 h' i ri S ci si T := by
  obtain ⟨X, R, Y, Xc, Rc, Yc, k1, k2, k3⟩ := k
  exact ⟨X, R, Y, Xc, Rc, Yc, k1.fr0 hf, k2.fr0 hf, k3⟩
theorem TwP.fr {h0 h : VH} {i ri : Nat} {S : Ds} {ci si : Nat} {T : Ds} (k : TwP h0 h i ri S ci si T) : Fr h0 h [] := by
  obtain ⟨X, R, Y, Xc, Rc, Yc, k1, _⟩ := k
  exact k1.fr
theorem tw_step {h0 h h' : VH} {i ri : Nat} {S S' : Ds} {ci si : Nat} {T : Ds} {X R Y Xc Rc Yc : List Nat} (k1 : Bo h0 h i ri S X R Y) (k2 : Bo h0 h ci si T Xc Rc Yc) (k3 : Crs X R Y Xc Rc Yc) (q : BoQ h0 h h' i ri S' X R Y) : TwP h0 h' i ri S' ci si T := by
  obtain ⟨X', R', Y', b1, F, m1, m2, m3⟩ := q
  have hxl : ∀ x ∈ Xc, x < h.n := k2.d.lt
  have hrl : ∀ x ∈ Rc, x < h.n := k2.d.rlt
  have hyl : ∀ x ∈ Yc, x < h.n := k2.r.lt
  refine ⟨X', R', Y', Xc, Rc, Yc, b1, k2.frX F (fun z hz => ⟨?_, k3.1 z hz⟩), fun z hz => ?_, fun z hz => ?_⟩
  · rcases List.mem_append.1 hz with hz | hz
    · exact k1.hX z hz
    · exact k1.hY z hz
  · have h1 : z ∈ X ++ Y ∨ h.n ≤ z := by
      rcases List.mem_append.1 hz with hz | hz
      · exact (m1 z hz).imp (fun h => List.mem_append_left _ h) id
      · exact (m3 z hz).imp (fun h => List.mem_append_right _ h) id
    rcases h1 with h1 | h1
    · exact k3.1 z h1
    · exact ⟨fun hz => by have := hxl z hz; omega, fun hz => by have := hrl z hz; omega, fun hz => by have := hyl z hz; omega⟩
  · have h1 := k3.2 z hz
    have hzl : z < h.n := by
      rcases List.mem_append.1 hz with hz | hz
      · exact hxl z hz
      · exact hyl z hz
    exact ⟨fun hx => (m1 z hx).elim h1.1 (fun h => by omega), fun hx => (m2 z hx).elim h1.2.1 (fun h => by omega), fun hx => (m3 z hx).elim h1.2.2 (fun h => by omega)⟩
theorem callT_ok {h0 h : VH} {i ri ci si : Nat} {S T : Ds} {n : Nat} {o : OpR} {bv kv : Value} (G : GOK h0) (k : TwP h0 h i ri S ci si T) (ok : OkN n S) (hn : n < 1000000) (O : OpAt h0.n h o bv kv) :
    PCalls Tryz.prog f_law06_call [.pointer (some ⟨i, 0, none⟩), .pointer (some ⟨ri, 0, none⟩), .agg (opL o bv kv).toArray] h (fun u h' => u = .bool true ∧ TwP h0 h' i ri (opD S o) ci si T) := by
  obtain ⟨X, R, Y, Xc, Rc, Yc, k1, k2, k3⟩ := k
  exact (callQ_ok G k1 ok hn O).mono fun u h' ⟨e, q⟩ => ⟨e, tw_step k1 k2 k3 q⟩
theorem DkAt.xr {h : VH} {i : Nat} {S : Ds} {X R : List Nat} (k : DkAt h i S X R) : ∀ x ∈ R, x ∉ X := by
  obtain ⟨j, rs, rfl, rfl, k⟩ := k
  exact k.rd
/-- what a copy makes of both. -/
theorem tw_copy {h0 h h1 h2 : VH} {i ri ci si : Nat} {S : Ds} {X R Y Xc Rc Yc : List Nat} (k : Bo h0 h i ri S X R Y) (D : DkAt h1 ci S Xc Rc) (F1 : Fr h h1 []) (hx : ∀ x ∈ Xc, h.n ≤ x) (hr : ∀ x ∈ Rc, x ∈ R) (K : RfDk h2 si S Yc) (F2 : Fr h1 h2 []) (hy : ∀ x ∈ Yc, h1.n ≤ x) : TwP h0 h2 i ri S ci si S := by
  have hXl : ∀ x ∈ X, x < h.n := k.d.lt
  have hRl : ∀ x ∈ R, x < h.n := k.d.rlt
  have hYl : ∀ x ∈ Y, x < h.n := k.r.lt
  have hXcl : ∀ x ∈ Xc, x < h1.n := D.lt
  have n0 := k.fr.n
  have n1 := F1.n
  refine ⟨X, R, Y, Xc, Rc, Yc, (k.fr0 F1).fr0 F2, ⟨D.fr0 F2, K, (k.fr.trans F1).trans F2, fun x h => ?_, fun x h => ?_, fun x h h' => ?_, fun x h h' => ?_⟩, fun z hz => ?_, fun z hz => ?_⟩
  · have := hx x h; omega
  · have := hy x h; omega
  · have := hXcl x h; have := hy x h'; omega
  · have := hRl x (hr x h); have := hy x h'; omega
  · have hzl : z < h.n := by
      rcases List.mem_append.1 hz with hz | hz
      · exact hXl z hz
      · exact hYl z hz
    refine ⟨fun hz => by have := hx z hz; omega, fun hzr => ?_, fun hz => by have := hy z hz; omega⟩
    rcases List.mem_append.1 hz with hz | hz
    · exact k.d.xr z (hr z hzr) hz
    · exact k.ry z (hr z hzr) hz
  · have hzl : h.n ≤ z := by
      rcases List.mem_append.1 hz with hz | hz
      · exact hx z hz
      · have := hy z hz; omega
    exact ⟨fun hz => by have := hXl z hz; omega, fun hz => by have := hRl z hz; omega, fun hz => by have := hYl z hz; omega⟩
set_option maxHeartbeats 8000000 in
theorem copies_ok {h : VH} {v v1 v2 : Value} {l l1 l2 : List (OpR × Value × Value)} (G : GOK h) (H : ScrAt h.n h v l) (H1 : ScrAt h.n h v1 l1) (H2 : ScrAt h.n h v2 l2) (hl : l.length ≤ 1048576) (hl1 : l1.length ≤ 1048576) (hl2 : l2.length ≤ 1048576) :
    PCalls Tryz.prog f_law06_DiskCopies [v, v1, v2] h (fun u h' => u = .bool true) := by
  refine PCalls_of_pw st_law06_DiskCopies (by simp [n_law06_DiskCopies]) ?_
  rw [b_law06_DiskCopies]
  unfold B_law06_DiskCopies
  generalize hTF : PC.seq (PC.ops (gM 74 7 :: _)) _ = TF
  generalize hTT : PC.seq (PC.seq (PC.ops [gI 12 _]) _) TF = TT
  obtain ⟨a1, c1, rfl⟩ := H1.shape
  obtain ⟨a2, c2, rfl⟩ := H2.shape
  obtain ⟨L1, hL1⟩ : ∃ L1, L1 = l1.length := ⟨_, rfl⟩
  obtain ⟨L2, hL2⟩ : ∃ L2, L2 = l2.length := ⟨_, rfl⟩
  rw [← hL1] at H1 hl1
  rw [← hL1]
  rw [← hL2] at H2 hl2
  rw [← hL2]
  simp (disch := first|omega|(simp only [np,ns];try omega)) []
  refine (played_ok G H hl).mono ?_
  rintro u g ⟨i, ri, S, rfl, ok, X, R, Y, k⟩
  have Gg := G.fr0 k.fr
  simp (disch := first|omega|(simp only [np,ns];try omega)) []
  refine (copy_ok k.d ok.ok).mono ?_
  rintro u g1 ⟨ci, Xc, Rc, rfl, D, F1, hx, hr⟩
  have k1 := k.fr0 F1
  simp (disch := first|omega|(simp only [np,ns];try omega)) []
  refine (rcopy_ok k1.r ok.ok).mono ?_
  rintro u g2 ⟨Yc, rfl, K, F2, hy⟩
  have tw := tw_copy k D F1 hx hr K F2 hy
  obtain ⟨si, hsi⟩ : ∃ si, si = g1.n := ⟨_, rfl⟩
  rw [← hsi] at tw
  rw [← hsi]
  clear K k1 D hsi
  have tw0 := tw
  obtain ⟨X3, R3, Y3, X4, R4, Y4, t1, t2, t3⟩ := tw0
  simp (disch := first|omega|(simp only [np,ns];try omega)) []
  refine (same_ok t1.d t2.d ok.ok ok.ok).mono ?_
  rintro u g3 ⟨⟨b, rfl, hb⟩, F3⟩
  obtain rfl : b = true := hb.2 rfl
  have t13 := t1.fr0 F3
  have t23 := t2.fr0 F3
  simp (disch := first|omega|(simp only [np,ns];try omega)) []
  refine (same_ok t23.d t13.d ok.ok ok.ok).mono ?_
  rintro u g4 ⟨⟨b, rfl, hb⟩, F4⟩
  obtain rfl : b = true := hb.2 rfl
  have tw4 := (tw.fr0 F3).fr0 F4
  have tailF : ∀ (s : Slots) (g : VH) (S1 S2 : Ds), TwP h g i ri S1 ci si S2 → OkN 150 S1 → OkN 150 S2 → s 7 = .pointer (some ⟨i, 0, none⟩) → s 8 = .pointer (some ⟨ri, 0, none⟩) → s 9 = .pointer (some ⟨ci, 0, none⟩) → s 10 = .pointer (some ⟨si, 0, none⟩) →
      pw Tryz.prog TF s g (F_law06_DiskCopies.ret fun u h' => u = .bool true) := by
    intro s g S1 S2 tw ok1 ok2 e7 e8 e9 e10
    rw [← hTF]
    obtain ⟨X, R, Y, Xc, Rc, Yc, b1, b2, _⟩ := tw
    simp (disch := first|omega|(simp only [np,ns];try omega)) [e7, e8, e9, e10]
    refine (alike_ok G b1 ok1).mono ?_
    rintro u g5 ⟨rfl, F5⟩
    have b15 := b1.fr0 F5
    have b25 := b2.fr0 F5
    simp (disch := first|omega|(simp only [np,ns];try omega)) [e7, e8, e9, e10]
    refine (alike_ok G b25 ok2).mono ?_
    rintro u g6 ⟨rfl, F6⟩
    have b16 := b15.fr0 F6
    have b26 := b25.fr0 F6
    simp (disch := first|omega|(simp only [np,ns];try omega)) [e7, e8, e9, e10]
    refine (same_ok b16.d b26.d ok1.ok ok2.ok).mono ?_
    rintro u g7 ⟨⟨bb, rfl, hbb⟩, F7⟩
    have b17 := b16.fr0 F7
    have b27 := b26.fr0 F7
    simp (disch := first|omega|(simp only [np,ns];try omega)) [e7, e8, e9, e10]
    refine (rsame_ok b17.r b27.r ok1.ok ok2.ok).mono ?_
    rintro u g8 ⟨⟨cb, rfl, hcb⟩, F8⟩
    have hbc : bb = cb := Bool.eq_iff_iff.2 (hbb.trans hcb.symm)
    subst hbc
    have b18 := b17.fr0 F8
    simp (disch := first|omega|(simp only [np,ns];try omega)) [e7, e8, e9, e10]
    refine (known_ok g8).mono ?_
    rintro u g9 ⟨rfl, hg9⟩
    simp (disch := first|omega|(simp only [np,ns];try omega)) [r_law06_DiskCopies]
  have tailT : ∀ (s : Slots) (g : VH) (S1 : Ds), TwP h g i ri S1 ci si S → OkN 150 S1 → s 2 = .slice a2 L2 c2 → s 7 = .pointer (some ⟨i, 0, none⟩) → s 8 = .pointer (some ⟨ri, 0, none⟩) → s 9 = .pointer (some ⟨ci, 0, none⟩) → s 10 = .pointer (some ⟨si, 0, none⟩) →
      pw Tryz.prog TT s g (F_law06_DiskCopies.ret fun u h' => u = .bool true) := by
    intro s g S1 tw ok1 e2 e7 e8 e9 e10
    rw [← hTT]
    simp (disch := first|omega|(simp only [np,ns];try omega)) []
    refine pw_loopN (fun n s g => ∃ S2, TwP h g i ri S1 ci si S2 ∧ OkN (120 + n) S2 ∧ n ≤ 30 ∧ s 2 = .slice a2 L2 c2 ∧ s 7 = .pointer (some ⟨i, 0, none⟩) ∧ s 8 = .pointer (some ⟨ri, 0, none⟩) ∧ s 9 = .pointer (some ⟨ci, 0, none⟩) ∧ s 10 = .pointer (some ⟨si, 0, none⟩) ∧ s 12 = .int .i64 (n : Int)) (min L2 30) ?_ ?_
    · exact ⟨S, tw, ok, by omega, by simp [upd_apply, e2], by simp [upd_apply, e7], by simp [upd_apply, e8], by simp [upd_apply, e9], by simp [upd_apply, e10], by simp [upd_apply]⟩
    clear tw e2 e7 e8 e9 e10 s g
    rintro n s g hn ⟨S2, tw, ok2, hn30, e2, e7, e8, e9, e10, e12⟩
    by_cases hlt : n < min L2 30
    · have hltL : n < L2 := by omega
      have hltI : (n : Int) < (L2 : Int) := by omega
      have h30 : n < 30 := by omega
      have h30I : (n : Int) < 30 := by omega
      have hkk : IntKind.i64.wrap ((n : Int) + 1) = ((n + 1 : Nat) : Int) := by rw [i64_small (by omega) (by omega)]; omega
      have Hg := H2.fr tw.fr (by simp)
      obtain ⟨q, o, hqv, hq, hez, hld, _⟩ := Hg.rows.at_ (k := n) (by simp; omega)
      have hel : (l2.map fun p => opL p.1 p.2.1 p.2.2)[n]'(by simp; omega) = opL (l2[n]'(by omega)).1 (l2[n]'(by omega)).2.1 (l2[n]'(by omega)).2.2 := by simp
      rw [hel] at hld
      have hO := Hg.ops (l2[n]'(by omega)) (List.getElem_mem _)
      obtain ⟨p, hp⟩ : ∃ p, p = l2[n]'(by omega) := ⟨_, rfl⟩
      rw [← hp] at hld hO
      rw [hqv] at e2
      simp (disch := first|omega|(simp only [np,ns];try omega)) [e2, e7, e8, e9, e10, e12, hltL, hltI, h30, h30I, hez, hld]
      refine (callT_ok G tw.symm ok2 (by omega) hO).mono ?_
      rintro u g2 ⟨rfl, tw2⟩
      simp (disch := first|omega|(simp only [np,ns];try omega)) [e2, e7, e8, e9, e10, e12, hkk]
      exact ⟨by omega, opD S2 p.1, tw2.symm, opD_ok ok2 p.1, by omega, hqv.symm⟩
    · obtain rfl : n = min L2 30 := by omega
      by_cases hLL : L2 ≤ 30
      · have hm : min L2 30 = L2 := by omega
        rw [hm] at e12 ok2
        simp (disch := first|omega|(simp only [np,ns];try omega)) [e2, e7, e8, e9, e10, e12]
        exact tailF _ _ S1 S2 tw ok1 (ok2.le (by omega)) (by simp [upd_apply, e7]) (by simp [upd_apply, e8]) (by simp [upd_apply, e9]) (by simp [upd_apply, e10])
      · have hm : min L2 30 = 30 := by omega
        rw [hm] at e12 ok2
        have hltI : (30 : Int) < (L2 : Int) := by omega
        have hlt2 : 30 < L2 := by omega
        have e12' : s 12 = .int .i64 30 := e12
        simp (disch := first|omega|(simp only [np,ns];try omega)) [e2, e7, e8, e9, e10, e12', hltI, hlt2]
        exact tailF _ _ S1 S2 tw ok1 (ok2.le (by omega)) (by simp [upd_apply, e7]) (by simp [upd_apply, e8]) (by simp [upd_apply, e9]) (by simp [upd_apply, e10])
  simp (disch := first|omega|(simp only [np,ns];try omega)) []
  refine pw_loopN (fun n s g => ∃ S1, TwP h g i ri S1 ci si S ∧ OkN (120 + n) S1 ∧ n ≤ 30 ∧ s 1 = .slice a1 L1 c1 ∧ s 2 = .slice a2 L2 c2 ∧ s 7 = .pointer (some ⟨i, 0, none⟩) ∧ s 8 = .pointer (some ⟨ri, 0, none⟩) ∧ s 9 = .pointer (some ⟨ci, 0, none⟩) ∧ s 10 = .pointer (some ⟨si, 0, none⟩) ∧ s 11 = .int .i64 (n : Int)) (min L1 30) ?_ ?_
  · exact ⟨S, tw4, ok, by omega, by simp [upd_apply, s0_apply], by simp [upd_apply, s0_apply], by simp [upd_apply], by simp [upd_apply], by simp [upd_apply], by simp [upd_apply], by simp [upd_apply]⟩
  rintro n s g hn ⟨S1, tw, ok2, hn30, e1, e2, e7, e8, e9, e10, e11⟩
  by_cases hlt : n < min L1 30
  · have hltL : n < L1 := by omega
    have hltI : (n : Int) < (L1 : Int) := by omega
    have h30 : n < 30 := by omega
    have h30I : (n : Int) < 30 := by omega
    have hkk : IntKind.i64.wrap ((n : Int) + 1) = ((n + 1 : Nat) : Int) := by rw [i64_small (by omega) (by omega)]; omega
    have Hg := H1.fr tw.fr (by simp)
    obtain ⟨q, o, hqv, hq, hez, hld, _⟩ := Hg.rows.at_ (k := n) (by simp; omega)
    have hel : (l1.map fun p => opL p.1 p.2.1 p.2.2)[n]'(by simp; omega) = opL (l1[n]'(by omega)).1 (l1[n]'(by omega)).2.1 (l1[n]'(by omega)).2.2 := by simp
    rw [hel] at hld
    have hO := Hg.ops (l1[n]'(by omega)) (List.getElem_mem _)
    obtain ⟨p, hp⟩ : ∃ p, p = l1[n]'(by omega) := ⟨_, rfl⟩
    rw [← hp] at hld hO
    rw [hqv] at e1
    simp (disch := first|omega|(simp only [np,ns];try omega)) [e1, e7, e8, e9, e10, e11, hltL, hltI, h30, h30I, hez, hld]
    refine (callT_ok G tw ok2 (by omega) hO).mono ?_
    rintro u g2 ⟨rfl, tw2⟩
    simp (disch := first|omega|(simp only [np,ns];try omega)) [e1, e2, e7, e8, e9, e10, e11, hkk]
    exact ⟨by omega, opD S1 p.1, tw2, opD_ok ok2 p.1, by omega, hqv.symm⟩
  · obtain rfl : n = min L1 30 := by omega
    by_cases hLL : L1 ≤ 30
    · have hm : min L1 30 = L1 := by omega
      rw [hm] at e11 ok2
      simp (disch := first|omega|(simp only [np,ns];try omega)) [e1, e2, e7, e8, e9, e10, e11]
      exact tailT _ _ S1 tw (ok2.le (by omega)) (by simp [upd_apply, e2]) (by simp [upd_apply, e7]) (by simp [upd_apply, e8]) (by simp [upd_apply, e9]) (by simp [upd_apply, e10])
    · have hm : min L1 30 = 30 := by omega
      rw [hm] at e11 ok2
      have hltI : (30 : Int) < (L1 : Int) := by omega
      have hlt2 : 30 < L1 := by omega
      have e11' : s 11 = .int .i64 30 := e11
      simp (disch := first|omega|(simp only [np,ns];try omega)) [e1, e2, e7, e8, e9, e10, e11', hltI, hlt2]
      exact tailT _ _ S1 tw (ok2.le (by omega)) (by simp [upd_apply, e2]) (by simp [upd_apply, e7]) (by simp [upd_apply, e8]) (by simp [upd_apply, e9]) (by simp [upd_apply, e10])
theorem copies_law {h : VH} {us : List Value} {k : Nat} (G : GOK h) (H : ShA h [.sl 6 opT, .sl 6 opT, .sl 6 opT] us k) (hk : k ≤ 1048576) :
    PCalls Tryz.prog f_law06_DiskCopies us h (fun u h' => u = .bool true ∧ h' = h) := by
  obtain ⟨v, r, k1, k2, rfl, h1, ⟨v2, r2, k3, k4, rfl, h2, ⟨v3, r3, k5, k6, rfl, h3, ⟨rfl, _⟩, e3⟩, e2⟩, e1⟩ := H
  obtain ⟨l, hs, hl⟩ := scr_at (h := h) (by omega) h1
  obtain ⟨l1, hs1, hl1⟩ := scr_at (h := h) (by omega) h2
  obtain ⟨l2, hs2, hl2⟩ := scr_at (h := h) (by omega) h3
  exact ((copies_ok G.ro hs.ro hs1.ro hs2.ro hl hl1 hl2).mono fun u _ e => by subst e; exact ⟨rfl, rfl⟩).drop
end Go.Proofs.YtgnmhonbcejnfaaGreatDoor.Dk
