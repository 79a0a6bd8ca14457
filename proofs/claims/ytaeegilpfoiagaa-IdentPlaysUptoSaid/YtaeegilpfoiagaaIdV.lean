/- ident, part V: the law of plays. -/
import Derived.Test.YtaeegilpfoiagaaIdU
import Derived.Test.YtaeegilpfoiagaaIdE
import Derived.Test.YtaeegilpfoiagaaPmLi
set_option linter.unusedVariables false
set_option linter.unusedSimpArgs false
set_option maxRecDepth 100000
namespace Go.Proofs.Ytaeegilpfoiagaa.Id
open Go Go.RowKit Go.Proofs.Ytaeegilpfoiagaa.Pm Go.Proofs.Ytaeegilpfoiagaa.Fs


structure Both (h g : VH) (it jt rt : Nat) (v : Value) (L : List Ss) (clk : Nat) (last : Int) : Prop where
  tab : TabL g it jt L clk last
  ref : RTab g rt v L last
  fr : Fr h g []
  d : rt ≠ it ∧ rt ≠ jt ∧ it ∉ idOf v ∧ jt ∉ idOf v
  lo : h.n ≤ it ∧ h.n ≤ jt ∧ h.n ≤ rt ∧ ∀ x ∈ idOf v, h.n ≤ x
  len : L.length ≤ 64
theorem Both.fr0 {h g g' : VH} {it jt rt : Nat} {v : Value} {L : List Ss} {clk : Nat} {last : Int} (k : Both h g it jt rt v L clk last) (F : Fr g g' []) : Both h g' it jt rt v L clk last :=
  ⟨k.tab.fr F, k.ref.fr0 F, k.fr.trans F, k.d, k.lo, k.len⟩
theorem Both.half {h g g1 : VH} {it jt rt : Nat} {v : Value} {L : List Ss} {clk : Nat} {last : Int} (k : Both h g it jt rt v L clk last) (F : Fr g g1 [it, jt]) : RTab g1 rt v L last := by
  obtain ⟨d1, d2, d3, d4⟩ := k.d
  exact k.ref.fr F (by simp; omega) (fun x hx hx2 => by
    simp at hx2
    rcases hx2 with rfl | rfl
    · exact d3 hx
    · exact d4 hx)
theorem Both.step {h g g1 g2 : VH} {it jt rt : Nat} {v v' : Value} {L L' : List Ss} {clk clk' : Nat} {last last' : Int} (k : Both h g it jt rt v L clk last) (T : TabL g1 it jt L' clk' last') (F1 : Fr g g1 [it, jt])
    (R : RTab g2 rt v' L' last') (F2 : Fr g1 g2 (rt :: idOf v)) (hid : ∀ x ∈ idOf v', x ∈ idOf v ∨ g1.n ≤ x) (hl : L'.length ≤ 64) : Both h g2 it jt rt v' L' clk' last' := by
  obtain ⟨d1, d2, d3, d4⟩ := k.d
  obtain ⟨l1, l2, l3, l4⟩ := k.lo
  have n1 := F1.n
  have n0 := k.fr.n
  have hi := k.tab.tab.lti
  have hj := k.tab.tab.ltj
  refine ⟨T.frX F2 (by simp; exact ⟨fun e => d1 e.symm, d3⟩) (by simp; exact ⟨fun e => d2 e.symm, d4⟩), R, ?_, ⟨d1, d2, fun hx => ?_, fun hx => ?_⟩, ⟨l1, l2, l3, fun x hx => ?_⟩, hl⟩
  · refine (k.fr.trans' F1 (fun y hy => .inr ?_)).trans' F2 (fun y hy => .inr ?_)
    · simp at hy; omega
    · rcases List.mem_cons.1 hy with rfl | hy
      · exact l3
      · exact l4 y hy
  · rcases hid _ hx with h1 | h1
    · exact d3 h1
    · omega
  · rcases hid _ hx with h1 | h1
    · exact d4 h1
    · omega
  · rcases hid _ hx with h1 | h1
    · exact l4 x h1
    · omega
theorem delS_len {k : Int} {L : List Ss} : (delS k L).length ≤ L.length := List.length_filter_le _ _
theorem renL_len {k now span : Int} {L : List Ss} : (renL k now span L).length = L.length := by
  unfold renL renS
  split <;> simp

/-- n calls that came in. -/
def IsOpL (h : VH) (v : Value) (n : Nat) : Prop := (v = .slice none 0 0 ∧ n = 0) ∨ ∃ i c, v = .slice (some ⟨i, 0, none⟩) n c ∧ i < h.n ∧ eszObj (h.get i) 5 = true ∧
  ∀ k, k < n → ∃ q p a b c, loadObj (h.get i) (k * 5) (some 5) = some (opV q p a b c) ∧ p.length ≤ maxLen
theorem IsOpL.shape {h : VH} {v : Value} {n : Nat} (H : IsOpL h v n) : ∃ a c, v = .slice a n c := by
  rcases H with ⟨rfl, rfl⟩ | ⟨i, c, rfl, _⟩
  · exact ⟨none, 0, rfl⟩
  · exact ⟨_, c, rfl⟩
theorem IsOpL.ro {h : VH} {v : Value} {n : Nat} (H : IsOpL h v n) : IsOpL h.ro v n := by
  rcases H with h1 | ⟨i, c, rfl, hi, he, hl⟩
  · exact .inl h1
  · refine .inr ⟨i, c, rfl, hi, ?_, fun k hk => ?_⟩
    · simp only [VH.ro]; cases hg : h.get i <;> rw [hg] at he <;> simp_all [VObj.ro, eszObj]
    · obtain ⟨q, p, a, b, c, h1, h2⟩ := hl k hk
      refine ⟨q, p, a, b, c, ?_, h2⟩
      rw [← h1]
      simp only [VH.ro]; cases hg : h.get i <;> rfl
theorem fitsI {x y : ByteArray} {z : Bool} : fitsK [.s, .s, .b] [.string x, .string y, .bool z] = true := rfl
theorem cellsBI {x y : ByteArray} {z : Bool} : cellsB [.string x, .string y, .bool z] [.string x, .string y, .bool z] = true := by
  simp [cellsB, cellB]
def PlaysJ (h : VH) (va : Option Addr) (N vc it jt rt n : Nat) (s : Slots) (g : VH) : Prop :=
  ∃ v L clk last, Both h g it jt rt v L clk last ∧ 0 ≤ last ∧ last ≤ (n : Int) ∧ s 0 = .slice va N vc ∧ s 3 = .pointer (some ⟨it, 0, none⟩) ∧ s 4 = .pointer (some ⟨rt, 0, none⟩) ∧ s 5 = .int .i64 (n : Int)
section
variable {a b c d f : Value} {ow : Bool} {e : Nat}
theorem op_ld1 : loadObj (.cells [a, b, c, d, f] ow e) 1 none = some b := rfl
theorem op_ld3 : loadObj (.cells [a, b, c, d, f] ow e) 3 none = some d := rfl
theorem op_ld4 : loadObj (.cells [a, b, c, d, f] ow e) 4 none = some f := rfl
end
set_option maxHeartbeats 8000000 in
theorem plays_ok' {h : VH} {v : Value} {N : Nat} (ho : IsOpL h v N) (hN : N ≤ 1048576) : PCalls Try.prog f_law10_IdentPlays [v] h (fun u _ => u = .bool true) := by
  refine PCalls_of_pw st_law10_IdentPlays (by simp [n_law10_IdentPlays]) ?_
  rw [b_law10_IdentPlays]
  unfold B_law10_IdentPlays
  obtain ⟨va, vc, rfl⟩ := ho.shape
  simp (disch := first|omega|(simp only [np,ns];try omega)) []
  refine (tnew_ok h).mono ?_
  rintro u g0 ⟨rfl, ht0, hf0⟩
  obtain ⟨it, hit⟩ : ∃ it, it = h.n + 1 := ⟨_, rfl⟩
  obtain ⟨jt, hjt⟩ : ∃ jt, jt = h.n := ⟨_, rfl⟩
  rw [← hit, ← hjt] at ht0
  rw [← hit]
  have hone : [Value.slice none 0 0, .int .i64 0].all Value.oneCell' = true := rfl
  obtain ⟨g1, hg1⟩ : ∃ g1, g1 = g0.push (.cells [.slice none 0 0, .int .i64 0] true 1) := ⟨_, rfl⟩
  have f1 : Fr g0 g1 [] := by rw [hg1]; exact Fr_push (Fr.refl _ _)
  have T0 : TabL g0 it jt [] 0 0 := ⟨ht0, OkL.nil⟩
  have l0 := ht0.lti
  have l1 := ht0.ltj
  have B0 : Both h g1 it jt g0.n (.slice none 0 0) [] 0 0 := ⟨T0.fr f1, ⟨by rw [hg1, VH.get_push_new], OwnSl.nil _ _, by simp [idOf], by rw [hg1]; show g0.n < g0.n + 1; omega⟩, hf0.trans f1, ⟨by omega, by omega, by simp [idOf], by simp [idOf]⟩, ⟨by omega, by omega, by omega, by simp [idOf]⟩, by simp⟩
  have hfc : fillC [.slice none 0 0, .int .i64 0] [] = some [.slice none 0 0, .int .i64 0] := rfl
  obtain ⟨rt, hrt⟩ : ∃ rt, rt = g0.n := ⟨_, rfl⟩
  rw [← hrt] at B0
  simp (disch := first|omega|(simp only [np,ns];try omega)) [hfc, hone, ← hg1]
  refine pw_loopN (PlaysJ h va N vc it jt rt) (min N 100) ?_ ?_
  · exact ⟨.slice none 0 0, [], 0, 0, B0, by omega, by omega, by simp [upd_apply, s0_apply], by simp [upd_apply], by simp [upd_apply, hrt], by simp [upd_apply]⟩
  rintro n s g hn ⟨v, L, clk, last, B, hl0, hl1, e0, e3, e4, e5⟩
  have hgn := B.fr.n
  by_cases hN1 : n < N
  · have hN1I : (n : Int) < (N : Int) := by omega
    by_cases hN2 : n < 100
    · have hN2I : (n : Int) < 100 := by omega
      rcases ho with ⟨_, h1⟩ | ⟨i, c, hv, hi, hez, hld⟩
      · omega
      injection hv with hva _ hvc
      subst hva; subst hvc
      obtain ⟨q, p, a, b, d, hop, hpl⟩ := hld n hN1
      rw [← B.fr.get i hi (by simp)] at hop hez
      unfold opV at hop
      obtain ⟨g2, hg2⟩ : ∃ g2, g2 = (g.push (.cells [.int .i64 0, .string ⟨#[]⟩, .int .i64 0, .int .i64 0, .int .i64 0] true 1)).set g.n (.cells [.int .i64 q, .string (strB p), .int .i64 a, .int .i64 b, .int .i64 d] true 1) := ⟨_, rfl⟩
      have f2 : Fr g g2 [] := by rw [hg2]; exact Fr_set (Fr_push (Fr.refl _ _)) (Nat.le_refl _)
      have n2 : g2.n = g.n + 1 := by rw [hg2]; rfl
      have o2 : g2.get g.n = .cells [.int .i64 q, .string (strB p), .int .i64 a, .int .i64 b, .int .i64 d] true 1 := by rw [hg2, VH.get_set_same]
      have B2 := B.fr0 f2
      simp (disch := first|omega|(simp only [np,ns];try omega)) [e0, e3, e4, e5, hN1, hN1I, hN2, hN2I, hop, hez, op_stA, ← hg2, o2, op_ld0]
      generalize hKK : kBlock 2 _ = KK
      have hit2 := B.tab.tab.lti
      have hjt2 := B.tab.tab.ltj
      have hrt2 := B.ref.lt
      have hv2 : ∀ x ∈ idOf v, x < g.n := B.ref.own.lt
      have tail : ∀ (s2 : Slots) (g3 : VH) (v2 : Value) (L2 : List Ss) (clk2 : Nat) (last2 : Int), Both h g3 it jt rt v2 L2 clk2 last2 → 0 ≤ last2 → last2 ≤ (n : Int) + 1 → s2 0 = .slice (some ⟨i, 0, none⟩) N vc → s2 3 = .pointer (some ⟨it, 0, none⟩) → s2 4 = .pointer (some ⟨rt, 0, none⟩) → s2 5 = .int .i64 (n : Int) → KK .normal s2 g3 := by
        intro s2 g3 v2 L2 clk2 last2 B3 k0 k1 t0 t3 t4 t5
        rw [← hKK]
        simp (disch := first|omega|(simp only [np,ns];try omega)) [t3, t4]
        refine (alike_ok sortsI B3.tab B3.ref B3.len).mono ?_
        rintro u g4 ⟨rfl, F4⟩
        have eI : IntKind.i64.wrap ((n : Int) + 1) = ((n + 1 : Nat) : Int) := by rw [i64_small (by omega) (by omega)]; omega
        simp (disch := first|omega|(simp only [np,ns];try omega)) [t0, t3, t4, t5, eI]
        exact ⟨by omega, v2, L2, clk2, last2, B3.fr0 F4, k0, by omega, by simp [upd_apply, t0], by simp [upd_apply, t3], by simp [upd_apply, t4], by simp [upd_apply]⟩
      have keep : ∀ g3, Fr g2 g3 [it, jt] → g3.get g.n = .cells [.int .i64 q, .string (strB p), .int .i64 a, .int .i64 b, .int .i64 d] true 1 := fun g3 F => (F.get _ (by omega) (by simp; omega)).trans o2
      by_cases hq0 : q = 0
      · have hq0I : (q == 0) = true := by rw [beq_iff_eq]; exact hq0
        obtain ⟨x, y, z, e, n', hp⟩ := parseS_is p
        simp (disch := first|omega|(simp only [np,ns];try omega)) [hq0I, e0, e3, e4, e5, o2, op_ld1, op_ld3, op_ld4]
        refine (openL_ok B2.tab hpl hp hl0 (by omega)).mono ?_
        rintro u g3 (⟨hno, rfl, T3, F3⟩ | ⟨hop2, rfl, T3, F3⟩)
        · have o3 := keep g3 F3
          obtain ⟨E, hE⟩ : ∃ E, E = openE e b d L := ⟨_, rfl⟩
          simp (disch := first|omega|(simp only [np,ns];try omega)) [e0, e3, e4, e5, o3, op_ld1, op_ld3, op_ld4]
          refine (ropen_ok (clk := clk) (B2.half F3) B2.len hpl hp hl0 (by omega)).mono ?_
          rintro u g4 (⟨_, rfl, R4, F4⟩ | ⟨hop2, _⟩)
          · rw [← hE]
            have hee : ((E : Int) != (E : Int)) = false := by simp
            simp (disch := first|omega|(simp only [np,ns];try omega)) [hee]
            exact tail _ _ v L clk last (B2.step T3 F3 R4 F4 (fun x hx => .inl hx) B.len) hl0 (by omega) (by simp [upd_apply, e0]) (by simp [upd_apply, e3]) (by simp [upd_apply, e4]) (by simp [upd_apply, e5])
          · exact absurd hop2 hno
        · have o3 := keep g3 F3
          simp (disch := first|omega|(simp only [np,ns];try omega)) [e0, e3, e4, e5, o3, op_ld1, op_ld3, op_ld4]
          refine (ropen_ok (clk := clk) (B2.half F3) B2.len hpl hp hl0 (by omega)).mono ?_
          rintro u g4 (⟨hno, _⟩ | ⟨_, rfl, F4, v', R4, id4⟩)
          · exact absurd hop2 hno
          · have hee : ((last + 1 : Int) != (last + 1)) = false := by simp
            simp (disch := first|omega|(simp only [np,ns];try omega)) [hee]
            have hlen : (L ++ [Ss.mk (last + 1) x y z (endP b d) clk]).length ≤ 64 := by
              have := hop2.2.2
              simp; omega
            exact tail _ _ v' _ (clk + 1) (last + 1) (B2.step T3 F3 R4 F4 id4 hlen) (by omega) (by omega) (by simp [upd_apply, e0]) (by simp [upd_apply, e3]) (by simp [upd_apply, e4]) (by simp [upd_apply, e5])
      · have hq0I : (q == 0) = false := by rw [beq_eq_false_iff_ne]; exact hq0
        by_cases hq1 : q = 1
        · have hq1I : (q == 1) = true := by rw [beq_iff_eq]; exact hq1
          simp (disch := first|omega|(simp only [np,ns];try omega)) [hq0I, hq1I, e0, e3, e4, e5, o2, op_ld2, op_ld3, op_ld4]
          refine (whoL_ok B2.tab).mono ?_
          rintro u g3 ⟨rfl, F3⟩
          obtain ⟨W, hW⟩ : ∃ W, W = whoS a b L := ⟨_, rfl⟩
          rw [← hW]
          unfold whoV idV
          obtain ⟨g4, hg4⟩ : ∃ g4, g4 = (g3.push (.cells [.string ⟨#[]⟩, .string ⟨#[]⟩, .bool false] true 1)).set g3.n (.cells [.string (strB W.x), .string (strB W.y), .bool W.z] true 1) := ⟨_, rfl⟩
          have F4 : Fr g3 g4 [] := by rw [hg4]; exact Fr_set (Fr_push (Fr.refl _ _)) (Nat.le_refl _)
          have n4 : g4.n = g3.n + 1 := by rw [hg4]; rfl
          have w4 : g4.get g3.n = .cells [.string (strB W.x), .string (strB W.y), .bool W.z] true 1 := by rw [hg4, VH.get_set_same]
          have n3 := F3.n
          have o4 := keep g4 ((F3.trans F4).sub (by simp))
          have B4 := B2.fr0 (F3.trans F4)
          simp (disch := first|omega|(simp only [np,ns];try omega)) [id_stA, ← hg4, e4, o4, op_ld2, op_ld3]
          refine (rwho_ok B4.ref B4.len).mono ?_
          rintro u g5 ⟨rfl, F5⟩
          rw [← hW]
          unfold whoV idV
          have w5 := (F5.get g3.n (by omega) (by simp)).trans w4
          obtain ⟨g6, hg6⟩ : ∃ g6, g6 = (g5.push (.cells [.string ⟨#[]⟩, .string ⟨#[]⟩, .bool false] true 1)).set g5.n (.cells [.string (strB W.x), .string (strB W.y), .bool W.z] true 1) := ⟨_, rfl⟩
          have F6 : Fr g5 g6 [] := by rw [hg6]; exact Fr_set (Fr_push (Fr.refl _ _)) (Nat.le_refl _)
          have w6 : g6.get g5.n = .cells [.string (strB W.x), .string (strB W.y), .bool W.z] true 1 := by rw [hg6, VH.get_set_same]
          have n5 := F5.n
          have w36 := (F6.get g3.n (by omega) (by simp)).trans w5
          have hee : ((W.e : Int) != (W.e : Int)) = false := by simp
          simp (disch := first|omega|(simp only [np,ns];try omega)) [id_stA, ← hg6, w6, w36, id_ldA, fitsI, cellsBI, hee]
          exact tail _ _ v L clk last (B4.fr0 (F5.trans F6)) hl0 (by omega) (by simp [upd_apply, e0]) (by simp [upd_apply, e3]) (by simp [upd_apply, e4]) (by simp [upd_apply, e5])
        · have hq1I : (q == 1) = false := by rw [beq_eq_false_iff_ne]; exact hq1
          by_cases hq2 : q = 2
          · have hq2I : (q == 2) = true := by rw [beq_iff_eq]; exact hq2
            simp (disch := first|omega|(simp only [np,ns];try omega)) [hq0I, hq1I, hq2I, e0, e3, e4, e5, o2, op_ld2, op_ld3, op_ld4]
            refine (renew_ok B2.tab).mono ?_
            rintro u g3 ⟨rfl, T3, F3⟩
            have o3 := keep g3 F3
            obtain ⟨E, hE⟩ : ∃ E, E = renE a b d L := ⟨_, rfl⟩
            simp (disch := first|omega|(simp only [np,ns];try omega)) [e0, e3, e4, e5, o3, op_ld2, op_ld3, op_ld4]
            refine (rrenew_ok (B2.half F3) B2.tab.ok B2.len).mono ?_
            rintro u g4 ⟨rfl, R4, F4⟩
            rw [← hE]
            have hee : ((E : Int) != (E : Int)) = false := by simp
            simp (disch := first|omega|(simp only [np,ns];try omega)) [hee]
            exact tail _ _ v _ clk last (B2.step T3 F3 R4 F4 (fun x hx => .inl hx) (by rw [renL_len]; exact B.len)) hl0 (by omega) (by simp [upd_apply, e0]) (by simp [upd_apply, e3]) (by simp [upd_apply, e4]) (by simp [upd_apply, e5])
          · have hq2I : (q == 2) = false := by rw [beq_eq_false_iff_ne]; exact hq2
            by_cases hq3 : q = 3
            · have hq3I : (q == 3) = true := by rw [beq_iff_eq]; exact hq3
              simp (disch := first|omega|(simp only [np,ns];try omega)) [hq0I, hq1I, hq2I, hq3I, e0, e3, e4, e5, o2, op_ld2, op_ld3, op_ld4]
              refine (closeL_ok B2.tab).mono ?_
              rintro u g3 ⟨rfl, T3, F3⟩
              have o3 := keep g3 F3
              obtain ⟨E, hE⟩ : ∃ E, E = closeE a L := ⟨_, rfl⟩
              simp (disch := first|omega|(simp only [np,ns];try omega)) [e0, e3, e4, e5, o3, op_ld2, op_ld3, op_ld4]
              refine (rclose_ok (B2.half F3) B2.tab.ok B2.len).mono ?_
              rintro u g4 ⟨rfl, F4, v', R4, id4⟩
              rw [← hE]
              have hee : ((E : Int) != (E : Int)) = false := by simp
              simp (disch := first|omega|(simp only [np,ns];try omega)) [hee]
              exact tail _ _ v' _ clk last (B2.step T3 F3 R4 F4 id4 (Nat.le_trans delS_len B.len)) hl0 (by omega) (by simp [upd_apply, e0]) (by simp [upd_apply, e3]) (by simp [upd_apply, e4]) (by simp [upd_apply, e5])
            · have hq3I : (q == 3) = false := by rw [beq_eq_false_iff_ne]; exact hq3
              simp (disch := first|omega|(simp only [np,ns];try omega)) [hq0I, hq1I, hq2I, hq3I, e0, e3, e4, e5, o2, op_ld2, op_ld3, op_ld4]
              refine (expire_ok B2.tab B2.len).mono ?_
              rintro u g3 ⟨rfl, T3, F3⟩
              have o3 := keep g3 F3
              obtain ⟨E, hE⟩ : ∃ E : Int, E = (L.length : Int) - ((expS b L).length : Int) := ⟨_, rfl⟩
              simp (disch := first|omega|(simp only [np,ns];try omega)) [e0, e3, e4, e5, o3, op_ld2, op_ld3, op_ld4]
              refine (rexpire_ok (B2.half F3) B2.len).mono ?_
              rintro u g4 ⟨rfl, F4, v', R4, id4⟩
              rw [← hE]
              have hee : (E != E) = false := by simp
              simp (disch := first|omega|(simp only [np,ns];try omega)) [hee]
              exact tail _ _ v' _ clk last (B2.step T3 F3 R4 F4 id4 (Nat.le_trans (exp_len _ _) B.len)) hl0 (by omega) (by simp [upd_apply, e0]) (by simp [upd_apply, e3]) (by simp [upd_apply, e4]) (by simp [upd_apply, e5])
    · have hN2I : ¬ (n : Int) < 100 := by omega
      simp (disch := first|omega|(simp only [np,ns];try omega)) [e0, e3, e4, e5, hN1, hN1I, hN2, hN2I]
      refine (known_ok _).mono ?_
      rintro u g2 ⟨rfl, rfl⟩
      simp (disch := first|omega|(simp only [np,ns];try omega)) [r_law10_IdentPlays]
  · have hN1I : ¬ (n : Int) < (N : Int) := by omega
    simp (disch := first|omega|(simp only [np,ns];try omega)) [e0, e3, e4, e5, hN1, hN1I]
    refine (known_ok _).mono ?_
    rintro u g2 ⟨rfl, rfl⟩
    simp (disch := first|omega|(simp only [np,ns];try omega)) [r_law10_IdentPlays]
theorem Sh.opL {h : VH} {v : Value} {k : Nat} (H : Sh h (.sl 5 (.cons 1 (.int .i64) (.cons 1 .str (.cons 1 (.int .i64) (.cons 1 (.int .i64) (.cons 1 (.int .i64) .nil)))))) [v] k) : ∃ n, IsOpL h v n ∧ n ≤ k := by
  rcases H with ⟨h1, rfl⟩ | ⟨i, n, c, cs, ow, es, h1, h2, h3, h4, h5, h6, h7, h8⟩
  · injection h1 with h1 _
    subst h1
    exact ⟨0, .inl ⟨rfl, rfl⟩, by omega⟩
  · injection h1 with h1 _
    subst h1
    have each : ∀ x ∈ es, ∃ q p a b d, x.1 = [.int .i64 q, .string (strB p), .int .i64 a, .int .i64 b, .int .i64 d] ∧ 1 ≤ x.2 ∧ p.length ≤ maxLen := by
      intro x hx
      obtain ⟨_, v1, v2, k1, k2, e1, l1, s1, ⟨v3, v4, k3, k4, e2, l2, s2, ⟨v5, v6, k5, k6, e3, l3, s3, ⟨v7, v8, k7, k8, e4, l4, s4, ⟨v9, v10, k9, k10, e5, l5, s5, ⟨e6, _⟩, _⟩, _⟩, _⟩, _⟩, ek⟩ := h7 x hx
      obtain ⟨q, rfl, _, hk1⟩ := s1
      obtain ⟨p, rfl, hpm, _⟩ := s2
      obtain ⟨a, rfl⟩ := int_sh s3
      obtain ⟨b, rfl⟩ := int_sh s4
      obtain ⟨d, rfl⟩ := int_sh s5
      subst e6; subst e5; subst e4; subst e3; subst e2
      exact ⟨q, p.data.toList, a, b, d, by rw [e1, strB_of]; rfl, by omega, by rw [Array.length_toList]; exact hpm⟩
    have hsum : ∀ l : List (List Value × Nat), (∀ x ∈ l, 1 ≤ x.2) → l.length ≤ (l.map (·.2)).sum := by
      intro l
      induction l with
      | nil => simp
      | cons x l ih =>
        intro hl
        have h1 := hl x (List.mem_cons_self ..)
        have h2 := ih (fun y hy => hl y (List.mem_cons_of_mem _ hy))
        simp only [List.length_cons, List.map_cons, List.sum_cons]
        omega
    have hs := hsum es (fun x hx => by obtain ⟨_, _, _, _, _, _, h, _⟩ := each x hx; exact h)
    have hlen : ∀ x ∈ es.map (·.1), x.length = 5 := fun x hx => by
      obtain ⟨y, hy, rfl⟩ := List.mem_map.1 hx
      exact (h7 y hy).1
    have hfl := flatten_len hlen
    refine ⟨n, .inr ⟨i, c, rfl, h3, by rw [h4]; simp [eszObj], fun k hk => ?_⟩, by omega⟩
    have hk2 : k < es.length := by omega
    obtain ⟨q, p, a, b, d, hx, _, hpm⟩ := each es[k] (List.getElem_mem hk2)
    have hch := flat_chunk hlen (k := k) (by simpa using hk2)
    refine ⟨q, p, a, b, d, ?_, hpm⟩
    rw [h4]
    have hb : (k + 1) * 5 ≤ es.length * 5 := Nat.mul_le_mul_right _ hk2
    have hcs : cs.length = es.length * 5 := by rw [h6, hfl]; simp
    simp only [loadObj]
    rw [if_pos (by omega), h6, hch]
    simp only [List.getElem_map, hx]
    rfl
theorem plays_law {h : VH} {us : List Value} {k : Nat} (H : ShA h [.sl 5 (.cons 1 (.int .i64) (.cons 1 .str (.cons 1 (.int .i64) (.cons 1 (.int .i64) (.cons 1 (.int .i64) .nil)))))] us k) (hk : k ≤ 1048576) :
    PCalls Try.prog f_law10_IdentPlays us h (fun u h' => u = .bool true ∧ h' = h) := by
  obtain ⟨v, r, k1, k2, rfl, h1, ⟨rfl, _⟩, h6⟩ := H
  obtain ⟨n, ho, hn⟩ := Sh.opL h1
  exact ((plays_ok' ho.ro (by omega)).mono fun u _ e => by subst e; exact ⟨rfl, rfl⟩).drop
end Go.Proofs.Ytaeegilpfoiagaa.Id
