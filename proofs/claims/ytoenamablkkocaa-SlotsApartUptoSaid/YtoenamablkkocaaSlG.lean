/- slots, part G: Step. -/
import Derived.Test.YtoenamablkkocaaSlF
set_option linter.unusedVariables false
set_option linter.unusedSimpArgs false
set_option maxRecDepth 100000
namespace Go.Proofs.Ytoenamablkkocaa.Sl
open Go Go.RowKit Go.Proofs.Ytoenamablkkocaa.Pm Go.Proofs.Ytoenamablkkocaa.Fs Go.Proofs.Ytoenamablkkocaa.Fa
attribute [-simp] BitVec.toNat_or BitVec.toNat_xor BitVec.toNat_add BitVec.toNat_and BitVec.toNat_not BitVec.toNat_shiftLeft BitVec.toNat_ushiftRight


def svL (o : Sv) : List Value := [.int .i64 (o.slot : Int), .string (strB o.ten), .int .i64 o.j.id, .int .i64 o.j.cost, .bool o.done, .bool o.some]
abbrev zS : List Value := [.int .i64 0, .string ⟨#[]⟩, .int .i64 0, .int .i64 0, .bool false, .bool false]
section
variable {o : Sv} {ow : Bool} {z : Nat}
theorem sv_1 : loadObj (.cells (svL o) ow z) 1 none = some (.string (strB o.ten)) := rfl
theorem sv_3 : loadObj (.cells (svL o) ow z) 3 none = some (.int .i64 o.j.cost) := rfl
theorem sv_5 : loadObj (.cells (svL o) ow z) 5 none = some (.bool o.some) := rfl
theorem sv_A : loadObj (.cells (svL o) ow z) 0 (some 6) = some (.agg (svL o).toArray) := rfl
theorem svs_2 {a b : Int} : storeObj (.cells (svL o) true z) 2 2 (.agg #[.int .i64 a, .int .i64 b]) = some (.cells (svL { o with j := ⟨a, b⟩ }) true z) := rfl
theorem svs_5 {b : Bool} : storeObj (.cells (svL o) true z) 5 1 (.bool b) = some (.cells (svL { o with some := b }) true z) := rfl
theorem svs_4 {b : Bool} : storeObj (.cells (svL o) true z) 4 1 (.bool b) = some (.cells (svL { o with done := b }) true z) := rfl
theorem zs_A : storeObj (.cells zS true z) 0 6 (.agg (svL o).toArray) = some (.cells (svL o) true z) := rfl
end
set_option maxHeartbeats 4000000 in
theorem tstep_ok {h : VH} {i : Nat} {T : Tb} {Z : List Nat} (K : TbAt h i T Z) (ok : OkTb T) (hsl : T.sl ≤ 1000000) :
    PCalls Try.prog f_slots_Table_Step [.pointer (some ⟨i, 0, none⟩)] h (fun u h' => u = .agg (svL (stepT T).1).toArray ∧ TbP h i Z (stepT T).2 h') := by
  refine PCalls_of_pw st_slots_Table_Step (by simp [n_slots_Table_Step]) ?_
  rw [b_slots_Table_Step]
  unfold B_slots_Table_Step
  generalize hT : PC.seq (PC.ops (gM 15 0 :: _)) _ = TL
  have K0 := K
  obtain ⟨s, jr, jw, v, rs, X, rfl, k⟩ := K
  have hi := k.rec_
  have hli := k.lti
  obtain ⟨o0, ho0⟩ : ∃ o0 : Sv, o0 = ⟨T.sl, turnT T, job0, false, false⟩ := ⟨_, rfl⟩
  have tail : ∀ (s' : Slots) (g : VH), s' 0 = .pointer (some ⟨i, 0, none⟩) → s' 2 = .pointer (some ⟨h.n, 0, none⟩) → s' 3 = .pointer (some ⟨h.n + 1, 0, none⟩) → g.get h.n = .cells zS true 1 → g.get (h.n + 1) = .cells (svL o0) true 1 → Fr h g [] → g.n = h.n + 2 →
      pw Try.prog TL s' g (F_slots_Table_Step.ret fun u h' => u = .agg (svL (stepT T).1).toArray ∧ TbP h i (fpO i jr jw v rs ++ X) (stepT T).2 h') := by
    intro s' g e0 e2 e3 b2 b3 F ng
    rw [← hT]
    have kg := k.fr0 F
    have hig := kg.rec_
    obtain ⟨M, hM⟩ : ∃ M : Nat, M = T.sl + 1 := ⟨_, rfl⟩
    have hadd : IntKind.i64.wrap ((T.sl : Int) + 1) = (M : Int) := by rw [i64_small (by omega) (by omega)]; omega
    obtain ⟨g3, hg3⟩ : ∃ g3, g3 = g.set i (.cells (tbL ⟨T.ts, M⟩ s v jr jw) true 1) := ⟨_, rfl⟩
    have k3 : TRep g3 i s jr jw v rs X ⟨T.ts, M⟩ := by rw [hg3]; exact kg.slot M
    have F3 : Fr g g3 [i] := by rw [hg3]; exact Fr.set _ _ (by simp)
    have n3 := F3.n
    have b23 := (F3.get h.n (by omega) (by simp; omega)).trans b2
    have b33 := (F3.get (h.n + 1) (by omega) (by simp; omega)).trans b3
    have hi3 := k3.rec_
    obtain ⟨clk, hj, hlt⟩ := k3.map_
    obtain ⟨es, hes⟩ : ∃ es, es = rs.map entT := ⟨_, rfl⟩
    rw [← hes] at hj
    have hkf : keysFit .s es = true := by rw [hes]; exact keysFit_rs rs
    have hfk : fitK .s (.string (strB (turnT T))) = true := rfl
    have ho1 : loadObj (.cells (svL o0) true 1) 1 none = some (.string (strB (turnT T))) := by rw [ho0]; rfl
    have hend : ∀ g', Fr g3 g' [h.n, h.n + 1] → TbP h i (fpO i jr jw v rs ++ X) ⟨T.ts, M⟩ g' := by
      intro g' hf
      have l1 := k.lts
      have l2 : ∀ x ∈ X, x < h.n := k.sch.lt
      refine ⟨_, ⟨s, jr, jw, v, rs, X, rfl, k3.fr hf (fun x hx hxn => ?_) (fun x hx hxn => ?_)⟩, ((F.sub (by simp)).trans (F3.sub (fun x hx => ?_))).trans' hf (fun y hy => by simp at hy; exact .inr (by omega)), fun x hx => .inl hx⟩
      · simp at hxn; have := l1 x hx; omega
      · simp at hxn; have := l2 x hx; omega
      · simp at hx; subst hx; simp [fpO]
    cases hfd : findT (turnT T) T.ts with
    | none =>
      have hget := k3.none_ ok.ord.uni hfd
      rw [← hes] at hget
      have hmv : mval false (.pointer none) none = .pointer none := rfl
      have hs : stepT T = (o0, ⟨T.ts, M⟩) := by unfold stepT; rw [hfd, ho0, hM]
      simp (disch := first|omega|(simp only [np,ns];try omega)) [r_slots_Table_Step, e0, e2, e3, hig, ta_5, hadd, ts_5, ← hg3, hi3, ta_0, ta_3, hj, hkf, hfk, b33, ho1, hget, hmv, sv_A, b23, zs_A, hs]
      exact hend _ (Fr.set _ _ (by simp))
    | some t =>
      obtain ⟨ra, r, rb, hrs, hrt, hget⟩ := k3.found ok.ord.uni hfd
      rw [← hes] at hget
      have R3 := k3.row r (by rw [hrs]; simp)
      have hit := R3.rec_
      have hmv : mval false (.pointer none) (some (.pointer (some ⟨r.it, 0, none⟩))) = .pointer (some ⟨r.it, 0, none⟩) := rfl
      simp (disch := first|omega|(simp only [np,ns];try omega)) [e0, e2, e3, hig, ta_5, hadd, ts_5, ← hg3, hi3, ta_0, ta_3, hj, hkf, hfk, b33, ho1, hget, hmv, hit, rw_0]
      refine (jpeek_ok R3).mono ?_
      rintro u g4 ⟨rfl, F4⟩
      have n4 := F4.n
      have b24 := (F4.get h.n (by omega) (by simp)).trans b23
      have b34 := (F4.get (h.n + 1) (by omega) (by simp)).trans b33
      obtain ⟨ja, jb, sm, hp, hja, hsm⟩ : ∃ (ja jb : Int) (sm : Bool), peekJ r.t.l = .tuple #[.agg #[.int .i64 ja, .int .i64 jb], .bool sm] ∧ (⟨ja, jb⟩ : Jb) = hdJ r.t.l ∧ sm = !r.t.l.isEmpty := ⟨(hdJ r.t.l).id, (hdJ r.t.l).cost, _, rfl, rfl, rfl⟩
      rw [hp]
      obtain ⟨o1, ho1'⟩ : ∃ o1 : Sv, o1 = { o0 with j := ⟨ja, jb⟩ } := ⟨_, rfl⟩
      obtain ⟨o2, ho2⟩ : ∃ o2 : Sv, o2 = { o1 with some := sm } := ⟨_, rfl⟩
      obtain ⟨g5, hg5⟩ : ∃ g5, g5 = g4.set (h.n + 1) (.cells (svL o1) true 1) := ⟨_, rfl⟩
      have F5 : Fr g4 g5 [h.n + 1] := by rw [hg5]; exact Fr.set _ _ (by simp)
      have b35 : g5.get (h.n + 1) = .cells (svL o1) true 1 := by rw [hg5, VH.get_set_same]
      obtain ⟨g6, hg6⟩ : ∃ g6, g6 = g5.set (h.n + 1) (.cells (svL o2) true 1) := ⟨_, rfl⟩
      have F6 : Fr g5 g6 [h.n + 1] := by rw [hg6]; exact Fr.set _ _ (by simp)
      have b36 : g6.get (h.n + 1) = .cells (svL o2) true 1 := by rw [hg6, VH.get_set_same]
      have n5 := F5.n
      have n6 := F6.n
      have b26 : g6.get h.n = .cells zS true 1 := (F6.get _ (by omega) (by simp)).trans ((F5.get _ (by omega) (by simp)).trans b24)
      have q1 : storeObj (.cells (svL o0) true 1) 2 2 (.agg #[.int .i64 ja, .int .i64 jb]) = some (.cells (svL o1) true 1) := by rw [ho1']; rfl
      have q2 : storeObj (.cells (svL o1) true 1) 5 1 (.bool sm) = some (.cells (svL o2) true 1) := by rw [ho2]; rfl
      have q3 : loadObj (.cells (svL o2) true 1) 5 none = some (.bool sm) := by rw [ho2]; rfl
      have F36 : Fr g3 g6 [h.n, h.n + 1] := ((F4.sub (by simp)).trans (F5.sub (by simp))).trans (F6.sub (by simp))
      cases hl : r.t.l with
      | nil =>
        have hsm0 : sm = false := by rw [hsm, hl]; rfl
        have hput : putT t T.ts = T.ts := by
          obtain ⟨A, B, h1, h2⟩ := putT_at (x := t) ok.ord.uni (by rw [(findT_some hfd).2]; exact hfd)
          rw [h2, ← h1]
        have hs : stepT T = (o2, ⟨T.ts, M⟩) := by
          have hrow : rowStep t = ((job0, false, false), t) := by unfold rowStep; rw [← hrt, hl]
          unfold stepT
          rw [hfd]
          simp only
          rw [hrow]
          simp only
          rw [hput, ho2, ho1', ho0, hja, hsm0, hl, hM]
          rfl
        rw [hsm0] at q2 q3
        rw [hsm0]
        simp (disch := first|omega|(simp only [np,ns];try omega)) [r_slots_Table_Step, e0, e2, e3, b34, q1, ← hg5, b35, q2, ← hg6, b36, q3, sv_A, b26, zs_A, hs]
        exact hend _ (F36.trans (Fr.set _ _ (by simp)))
      | cons w l =>
        have hsm1 : sm = true := by rw [hsm, hl]; rfl
        have hjbw : jb = w.j.cost := by
          have := congrArg Jb.cost hja
          rw [hl] at this
          exact this
        have htl : t.l = w :: l := by rw [← hrt, hl]
        have hl1 := k.lts
        have hl2 : ∀ x ∈ X, x < h.n := k.sch.lt
        have k6 : TRep g6 i s jr jw v rs X ⟨T.ts, M⟩ := k3.fr F36 (fun x hx hxn => by simp at hxn; have := hl1 x hx; omega) (fun x hx hxn => by simp at hxn; have := hl2 x hx; omega)
        have R6 := k6.row r (by rw [hrs]; simp)
        have hrl : ∀ x ∈ fpT r, x < h.n := fun x hx => hl1 x (fpO_row (by rw [hrs]; simp) x hx)
        have hitn : r.it < h.n := hrl _ (by simp [fpT])
        have hiqn : r.iq < h.n := hrl _ (by simp [fpT])
        have okt := ok.find hfd
        have hen0 := okt.en0
        have henb := okt.enb
        obtain ⟨E1, hE1⟩ : ∃ E1 : Int, E1 = r.t.en + 1 := ⟨_, rfl⟩
        have hadd2 : IntKind.i64.wrap (r.t.en + 1) = E1 := by rw [hE1, i64_small (by rw [hrt]; omega) (by rw [hrt]; omega)]
        have it6 := R6.rec_
        obtain ⟨r1, hr1⟩ : ∃ r1 : Rt, r1 = { r with t := { r.t with en := E1 } } := ⟨_, rfl⟩
        obtain ⟨g7, hg7⟩ : ∃ g7, g7 = g6.set r.it (.cells (rwL { r.t with en := E1 } r.iq) true 1) := ⟨_, rfl⟩
        have F7 : Fr g6 g7 [r.it] := by rw [hg7]; exact Fr.set _ _ (by simp)
        have n7 := F7.n
        have it7 : g7.get r.it = .cells (rwL { r.t with en := E1 } r.iq) true 1 := by rw [hg7, VH.get_set_same]
        have b37 := (F7.get (h.n + 1) (by omega) (by simp; omega)).trans b36
        have b27 := (F7.get h.n (by omega) (by simp; omega)).trans b26
        have R7 : RowAt g7 r1 := by
          rw [hr1]
          refine ⟨by show r.it < _; omega, by show r.iq < _; omega, it7, ?_, R6.own.fr F7 (fun x hx hxi => by simp at hxi; subst hxi; exact R6.nv.1 hx)⟩
          exact (F7.get r.iq (by omega) (by simp; exact fun e => R6.nq e.symm)).trans R6.qu
        have q4 : loadObj (.cells (svL o2) true 1) 3 none = some (.int .i64 jb) := by rw [ho2, ho1']; rfl
        have rl1 : loadObj (.cells (rwL { r.t with en := E1 } r.iq) true 1) 1 none = some (.int .i64 E1) := rfl
        rw [hsm1] at q2 q3
        rw [hsm1]
        have hk6 := k6
        rw [hrs] at hk6
        have hend2 : ∀ (g9 g' : VH) (r' : Rt), Fr g6 g9 (fpT r) → RowAt g9 r' → r'.t.nm = r.t.nm → r'.t.w = r.t.w → r'.it = r.it → r'.bn = r.bn → (∀ x ∈ fpT r', x ∈ fpT r) → Fr g9 g' [h.n, h.n + 1] → TbP h i (fpO i jr jw v rs ++ X) ⟨putT r'.t T.ts, M⟩ g' := by
          intro g9 g' r' hf R h1 h2 h3 h4 hfp hf'
          have k9 := hk6.one ok.ord.uni hf R h1 h2 h3 h4 R.nd (fun x hx => .inl (hfp x hx))
          have hsub : ∀ x ∈ fpO i jr jw v (ra ++ r' :: rb), x ∈ fpO i jr jw v rs := fun x hx => by
            rw [hrs]
            exact (fpO_one (n := x + 1) (fun y hy => .inl (hfp y hy)) x hx).elim id (fun h => by omega)
          refine ⟨_, ⟨s, jr, jw, v, _, X, rfl, k9.fr hf' (fun x hx hxn => ?_) (fun x hx hxn => ?_)⟩, (((F.sub (by simp)).trans (F3.sub (fun x hx => ?_))).trans' F36 (fun y hy => by simp at hy; exact .inr (by omega))).trans (hf.sub (fun x hx => ?_)) |>.trans' hf' (fun y hy => by simp at hy; exact .inr (by omega)), fun x hx => ?_⟩
          · simp at hxn; have := hl1 x (hsub x hx); omega
          · simp at hxn; have := hl2 x hx; omega
          · simp at hx; subst hx; simp [fpO]
          · exact List.mem_append_left _ (fpO_row (by rw [hrs]; simp) x hx)
          · rcases List.mem_append.1 hx with hx | hx
            · exact .inl (List.mem_append_left _ (hsub x hx))
            · exact .inl (List.mem_append_right _ hx)
        by_cases hce : E1 = jb
        case neg =>
          have hcb : (E1 == jb) = false := by simpa using hce
          have hs : stepT T = (o2, ⟨putT r1.t T.ts, M⟩) := by
            have hrow : rowStep t = ((w.j, false, true), { t with en := t.en + 1 }) := by
              unfold rowStep
              rw [htl]
              simp only
              rw [if_neg (fun e => hce (by rw [hE1, hrt, hjbw]; exact e))]
            unfold stepT
            rw [hfd]
            simp only
            rw [hrow]
            simp only
            rw [ho2, ho1', ho0, hja, hsm1, hl, hM, hr1, hE1, hrt]
            rfl
          simp (disch := first|omega|(simp only [np,ns];try omega)) [r_slots_Table_Step, e0, e2, e3, b34, q1, ← hg5, b35, q2, ← hg6, b36, q3, it6, rw_1, hadd2, rs_1, ← hg7, it7, rl1, b37, q4, hcb, sv_A, b27, zs_A, hs]
          exact hend2 g7 _ r1 (F7.sub (by simp [fpT])) R7 (by rw [hr1]) (by rw [hr1]) (by rw [hr1]) (by rw [hr1]) (by rw [hr1]; exact fun x hx => hx) (Fr.set _ _ (by simp))
        have hcb : (E1 == jb) = true := by simpa using hce
        have hne1 : r1.t.l ≠ [] := by rw [hr1]; show r.t.l ≠ []; rw [hl]; simp
        have P := jpop_ok R7 hne1
        have hiq1 : r1.iq = r.iq := by rw [hr1]
        rw [hiq1] at P
        obtain ⟨o3, ho3⟩ : ∃ o3 : Sv, o3 = { o2 with done := true } := ⟨_, rfl⟩
        have q5 : storeObj (.cells (svL o2) true 1) 4 1 (.bool true) = some (.cells (svL o3) true 1) := by rw [ho3]; rfl
        simp (disch := first|omega|(simp only [np,ns];try omega)) [e0, e2, e3, b34, q1, ← hg5, b35, q2, ← hg6, b36, q3, it6, rw_1, rw_0, hadd2, rs_1, ← hg7, it7, rl1, b37, q4, hcb]
        refine P.mono ?_
        rintro u g8 ⟨v8, R8, F8, hid8⟩
        have n8 := F8.n
        have it8 : g8.get r.it = .cells (rwL { r.t with en := E1 } r.iq) true 1 := by have := R8.rec_; rw [hr1] at this; exact this
        have b38 := (F8.get (h.n + 1) (by omega) (by simp; omega)).trans b37
        have b28 := (F8.get h.n (by omega) (by simp; omega)).trans b27
        obtain ⟨r2, hr2⟩ : ∃ r2 : Rt, r2 = { popW r1 v8 with t := { (popW r1 v8).t with en := 0 } } := ⟨_, rfl⟩
        obtain ⟨g9, hg9⟩ : ∃ g9, g9 = g8.set r.it (.cells (rwL { r.t with en := 0 } r.iq) true 1) := ⟨_, rfl⟩
        have F9 : Fr g8 g9 [r.it] := by rw [hg9]; exact Fr.set _ _ (by simp)
        have n9 := F9.n
        have b39 := (F9.get (h.n + 1) (by omega) (by simp; omega)).trans b38
        have b29 := (F9.get h.n (by omega) (by simp; omega)).trans b28
        have it9 : g9.get r.it = .cells (rwL { r.t with en := 0 } r.iq) true 1 := by rw [hg9, VH.get_set_same]
        obtain ⟨g10, hg10⟩ : ∃ g10, g10 = g9.set (h.n + 1) (.cells (svL o3) true 1) := ⟨_, rfl⟩
        have F10 : Fr g9 g10 [h.n + 1] := by rw [hg10]; exact Fr.set _ _ (by simp)
        have b310 : g10.get (h.n + 1) = .cells (svL o3) true 1 := by rw [hg10, VH.get_set_same]
        have b210 := (F10.get h.n (by omega) (by simp)).trans b29
        have R9 : RowAt g9 r2 := by
          have hnv := R8.nv
          have hnq := R8.nq
          have hq8 := R8.qu
          have ho8 := R8.own
          rw [hr2]
          rw [hr1] at hnv hnq hq8 ho8 ⊢
          refine ⟨by show r.it < _; omega, by show r.iq < _; omega, it9, ?_, ho8.fr F9 (fun x hx hxi => by simp at hxi; subst hxi; exact hnv.1 hx)⟩
          exact (F9.get r.iq (by omega) (by simp; exact fun e => hnq e.symm)).trans hq8
        have hs : stepT T = (o3, ⟨putT r2.t T.ts, M⟩) := by
          have hrow : rowStep t = ((w.j, true, true), { t with l := l, en := 0 }) := by
            unfold rowStep
            rw [htl]
            simp only
            rw [if_pos (by rw [← hjbw, ← hce, hE1, hrt])]
          unfold stepT
          rw [hfd]
          simp only
          rw [hrow]
          simp only
          have ht2 : r2.t = { t with l := l, en := 0 } := by rw [hr2, hr1, ← hrt]; simp [popW, hl]
          rw [ht2, ho3, ho2, ho1', ho0, hja, hsm1, hl, hM]
          rfl
        simp (disch := first|omega|(simp only [np,ns];try omega)) [r_slots_Table_Step, e0, e2, e3, it8, rs_1, ← hg9, b39, q5, ← hg10, b310, sv_A, b210, zs_A, hs]
        refine hend2 g9 _ r2 (((F7.sub (by simp [fpT])).trans (F8.sub (by simp [fpT, hiq1]))).trans (F9.sub (by simp [fpT]))) R9 (by rw [hr2, hr1]; rfl) (by rw [hr2, hr1]; rfl) (by rw [hr2, hr1]; rfl) (by rw [hr2, hr1]; rfl) (fun x hx => ?_) ((F10.sub (by simp)).trans (Fr.set _ _ (by simp)))
        rw [hr2, hr1] at hx
        rw [hr1] at hid8
        simp only [fpT, popW, List.mem_cons] at hx ⊢
        exact hx.imp id (fun h => h.imp id (fun h => hid8 x h))
  have hfz : fillC zS [(0, 1, .int .i64 (T.sl : Int)), (1, 1, .string (strB (turnT T)))] = some (svL o0) := by rw [ho0]; rfl
  obtain ⟨g1, hg1⟩ : ∃ g1, g1 = h.push (.cells zS true 1) := ⟨_, rfl⟩
  have F1 : Fr h g1 [] := by rw [hg1]; exact Fr_push (Fr.refl _ _)
  have n1 : g1.n = h.n + 1 := by rw [hg1]; rfl
  have i1 := (F1.get i hli (by simp)).trans hi
  have K1 := K0.fr0 F1
  obtain ⟨g2, hg2⟩ : ∃ g2, g2 = (g1.push (.cells zS true 1)).set g1.n (.cells (svL o0) true 1) := ⟨_, rfl⟩
  have F2 : Fr g1 g2 [] := by rw [hg2]; exact Fr_set (Fr_push (Fr.refl _ _)) (by omega)
  have n2 : g2.n = h.n + 2 := by rw [hg2]; simp [n1]
  have c1 : g1.get h.n = .cells zS true 1 := by rw [hg1, VH.get_push_new]
  have c2 : g2.get h.n = .cells zS true 1 := (F2.get _ (by omega) (by simp)).trans c1
  have d2 : g2.get (h.n + 1) = .cells (svL o0) true 1 := by rw [← n1, hg2, VH.get_set_same]
  have hone : zS.all Value.oneCell' = true := rfl
  simp (disch := first|omega|(simp only [np,ns];try omega)) [← hg1, i1, ta_5, hfz]
  refine ⟨(turn_ok K1 ok).mono ?_, ?_⟩
  · rintro u g ⟨rfl, hg⟩
    rw [hg]
    simp (disch := first|omega|(simp only [np,ns];try omega)) [i1, ta_5, hfz, hone, zs_A, ← hg2]
    exact tail _ _ (by simp [upd_apply, s0_apply]) (by simp [upd_apply, s0_apply]) (by simp [upd_apply, s0_apply, n1]) c2 d2 (F1.trans F2) n2
  · obtain ⟨gp, hgp⟩ : ∃ gp, gp = g1.push (.cells zS true 1) := ⟨_, rfl⟩
    have Fp : Fr g1 gp [] := by rw [hgp]; exact Fr_push (Fr.refl _ _)
    have ip := (Fp.get i (by omega) (by simp)).trans i1
    have ep : gp.get g1.n = .cells zS true 1 := by rw [hgp, VH.get_push_new]
    have hg2' : g2 = gp.set g1.n (.cells (svL o0) true 1) := by rw [hg2, hgp]
    rw [← hgp]
    refine (turn_ok (K1.fr0 Fp) ok).mono ?_
    rintro u g ⟨rfl, hg⟩
    rw [hg]
    simp (disch := first|omega|(simp only [np,ns];try omega)) [ip, i1, ta_5, hfz, hone, ep, zs_A, ← hg2']
    exact tail _ _ (by simp [upd_apply, s0_apply]) (by simp [upd_apply, s0_apply]) (by simp [upd_apply, s0_apply, n1]) c2 d2 (F1.trans F2) n2

/- slots, part H: New. -/

theorem tnew_ok {h : VH} : PCalls Try.prog f_slots_New [.int .i64 1] h (fun u h' => ∃ i Z, u = .pointer (some ⟨i, 0, none⟩) ∧ TbAt h' i tb0 Z ∧ Mv h h' [] Z) := by
  refine PCalls_of_pw st_slots_New (by simp [n_slots_New]) ?_
  rw [b_slots_New]
  simp (disch := first|omega|(simp only [np,ns];try omega)) [B_slots_New]
  refine new_ok.mono ?_
  rintro u g ⟨s, X, rfl, sc, mv⟩
  have hfi : fillC [.bool false, .pointer none, .slice none 0 0, .map none, .map none, .int .i64 0] [(0, 1, .bool true), (1, 1, .pointer (some ⟨s, 0, none⟩)), (3, 1, .map (some g.n)), (4, 1, .map (some (g.n + 1)))] = some (tbL tb0 s (.slice none 0 0) g.n (g.n + 1)) := rfl
  have hone : (tbL tb0 s (.slice none 0 0) g.n (g.n + 1)).all Value.oneCell' = true := rfl
  simp (disch := first|omega|(simp only [np,ns];try omega)) [r_slots_New, hfi, hone]
  obtain ⟨g1, hg1⟩ : ∃ g1, g1 = (g.push (.map [] 0 true)).push (.map [] 0 true) := ⟨_, rfl⟩
  have n1 : g1.n = g.n + 2 := by rw [hg1]; simp
  obtain ⟨g2, hg2⟩ : ∃ g2, g2 = g1.push (.cells (tbL tb0 s (.slice none 0 0) g.n (g.n + 1)) true 1) := ⟨_, rfl⟩
  have F : Fr g g2 [] := by rw [hg2, hg1]; exact Fr_push (Fr_push (Fr_push (Fr.refl _ _)))
  have n2 : g2.n = g.n + 3 := by rw [hg2]; simp [n1]
  rw [← hg1, ← hg2]
  have hXl := sc.lt
  have j1 : g2.get g.n = .map [] 0 true := by rw [hg2, VH.get_push_lt _ _ (by omega), hg1, VH.get_push_lt _ _ (by simp), VH.get_push_new]
  have j2 : g2.get (g.n + 1) = .map [] 0 true := by
    rw [hg2, VH.get_push_lt _ _ (by omega), hg1]
    exact VH.get_push_new (g.push _) _
  have j3 : g2.get (g.n + 2) = .cells (tbL tb0 s (.slice none 0 0) g.n (g.n + 1)) true 1 := by rw [← n1, hg2, VH.get_push_new]
  refine ⟨_, ⟨s, g.n, g.n + 1, .slice none 0 0, [], X, rfl, ⟨by omega, by omega, by omega, j3, sc.fr0 F, OwnSl.nil _ _, ⟨0, j1, by simp⟩, ⟨[], 0, j2, rfl⟩, by simp, by simp, (by simp [fpO, idOf]; omega), fun x hx hxo => ?_, List.Perm.refl _⟩⟩, mv.fr.trans F, fun x hx => ?_⟩
  · have := hXl x hx
    simp [fpO, idOf] at hxo
    omega
  · have hn := mv.fr.n
    rcases List.mem_append.1 hx with hx | hx
    · simp [fpO, idOf] at hx
      exact .inr (by omega)
    · exact mv.ids x hx
end Go.Proofs.Ytoenamablkkocaa.Sl
