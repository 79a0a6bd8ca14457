/- disk, part Zh: the reference's Copy and Same. -/
import Derived.Test.YtgnmhonbcejnfaaGreatDoorDkZg
set_option linter.unusedVariables false
set_option linter.unusedSimpArgs false
set_option maxRecDepth 100000
namespace Go.Proofs.YtgnmhonbcejnfaaGreatDoor.Dk
open Go Go.RowKit Go.Proofs.YtgnmhonbcejnfaaGreatDoor.Pm Go.Proofs.YtgnmhonbcejnfaaGreatDoor.Fs
attribute [-simp] BitVec.toNat_or BitVec.toNat_xor BitVec.toNat_add BitVec.toNat_and BitVec.toNat_not BitVec.toNat_shiftLeft BitVec.toNat_ushiftRight

/-- a file more behind the others. -/
theorem RRep.grow {h h' : VH} {i : Nat} {v v' : Value} {rs : List Rr} {x : Rr} {S S' : Ds} (k : RRep h i v rs S) (hf : Fr h h' (i :: idOf v)) (hr : h'.get i = .cells [v', .int .i64 (S'.sy : Int)] true 1) (ho : OwnSl h' 4 v' ((rs ++ [x]).flatMap rowR) (rs ++ [x]).length) (hid : ∀ y ∈ idOf v', y ∈ idOf v ∨ h.n ≤ y)
    (T : RfAt h x) (hx : ∀ y ∈ fpR x, y ∉ fpD i v rs) (hxn : (fpR x).Nodup) (hfs : S'.fs = S.fs ++ [x.f]) : RRep h' i v' (rs ++ [x]) S' := by
  have hn := hf.n
  have hlt := k.lt
  have hnd := k.nd
  simp only [fpD, List.nodup_cons, List.nodup_append, List.mem_append, not_or] at hnd
  obtain ⟨⟨d1, d2⟩, d3, d4, d5⟩ := hnd
  have hlts : ∀ y ∈ rs.flatMap fpR, y < h.n := fun y hy => k.lts y (by simp only [fpD, List.mem_cons, List.mem_append]; exact .inr (.inr hy))
  have hxl := T.lts
  have hiv : i ∉ idOf v' := fun hy => (hid i hy).elim d1 (fun h => by omega)
  refine ⟨by omega, ?_, hr, ho, fun r hrr => ?_, by rw [List.map_append, k.fs, hfs]; rfl⟩
  · simp only [fpD, List.nodup_cons, List.nodup_append, List.mem_append, not_or, List.flatMap_append, List.flatMap_cons, List.flatMap_nil, List.append_nil]
    refine ⟨⟨hiv, d2, fun hy => hx i hy (by simp [fpD])⟩, idOf_nodup _, ⟨d4, hxn, fun y hy z hz e => hx z hz (by rw [← e]; simp only [fpD, List.mem_cons, List.mem_append]; exact .inr (.inr hy))⟩, fun y hy z hz e => ?_⟩
    subst e
    rcases hid y hy with h1 | h1
    · rcases hz with hz | hz
      · exact d5 y h1 y hz rfl
      · exact hx y hz (by simp [fpD, h1])
    · rcases hz with hz | hz
      · have := hlts y hz; omega
      · have := hxl y hz; omega
  · rcases List.mem_append.1 hrr with hrr | hrr
    · refine (k.fil r hrr).fr hf (fun y hy hyi => ?_)
      rcases List.mem_cons.1 hyi with rfl | hyi
      · exact k.nr hrr hy
      · exact k.nvr hrr y hyi hy
    · simp at hrr
      subst hrr
      exact T.fr hf (fun y hy hyi => hx y hy (by
        rcases List.mem_cons.1 hyi with rfl | hyi
        · simp [fpD]
        · simp [fpD, hyi]))
def RCop (h g : VH) (S : Ds) (n : Nat) : Prop := ∃ lv rcs, RRep g h.n lv rcs ⟨S.fs.take n, S.sy⟩ ∧ (∀ x ∈ fpD h.n lv rcs, h.n ≤ x) ∧ Fr h g [] ∧ h.n < g.n
set_option maxHeartbeats 8000000 in
theorem rcopy_ok {h : VH} {i : Nat} {S : Ds} {X : List Nat} (K : RfDk h i S X) (ok : OkD S) :
    PCalls Tryz.prog f_ref06_Disk_Copy [.pointer (some ⟨i, 0, none⟩)] h (fun u h' => ∃ Xc, u = .pointer (some ⟨h.n, 0, none⟩) ∧ RfDk h' h.n S Xc ∧ Fr h h' [] ∧ ∀ x ∈ Xc, h.n ≤ x) := by
  refine PCalls_of_pw st_ref06_Disk_Copy (by simp [n_ref06_Disk_Copy]) ?_
  rw [b_ref06_Disk_Copy]
  unfold B_ref06_Disk_Copy
  obtain ⟨v, rs, rfl, k⟩ := K
  have hlen := k.len
  have hle := ok.len
  have hr := k.rec_
  have hlti := k.lt
  obtain ⟨ra, rc, hv⟩ := k.own.shapeN
  obtain ⟨N, hN⟩ : ∃ N, N = rs.length := ⟨_, rfl⟩
  rw [← hN] at hv
  rw [hv] at hr
  have hfi0 : fillC [.slice none 0 0, .int .i64 0] [(1, 1, .int .i64 (S.sy : Int))] = some [.slice none 0 0, .int .i64 (S.sy : Int)] := rfl
  have hone0 : ([.slice none 0 0, .int .i64 (S.sy : Int)] : List Value).all Value.oneCell' = true := rfl
  obtain ⟨g0, hg0⟩ : ∃ g0, g0 = h.push (.cells [.slice none 0 0, .int .i64 (S.sy : Int)] true 1) := ⟨_, rfl⟩
  have F0 : Fr h g0 [] := by rw [hg0]; exact Fr_push (Fr.refl _ _)
  have n0 : g0.n = h.n + 1 := by rw [hg0]; rfl
  have c0 : g0.get h.n = .cells [.slice none 0 0, .int .i64 (S.sy : Int)] true 1 := by rw [hg0, VH.get_push_new]
  simp (disch := first|omega|(simp only [np,ns];try omega)) [hr, lr_1, hfi0, hone0, ← hg0]
  refine pw_loopN (fun n s g => RCop h g S n ∧ s 0 = .pointer (some ⟨i, 0, none⟩) ∧ s 3 = .pointer (some ⟨h.n, 0, none⟩) ∧ s 4 = .int .i64 (n : Int)) N ?_ ?_
  · exact ⟨⟨.slice none 0 0, [], ⟨by omega, by simp [fpD, idOf], c0, OwnSl.nil _ _, by simp, by simp⟩, by simp [fpD, idOf], F0, by omega⟩, by simp [upd_apply, s0_apply], by simp [upd_apply], by simp [upd_apply]⟩
  rintro n s g hn ⟨⟨lv, rcs, kc, hids, F, hgn⟩, e0, e3, e4⟩
  have kg := k.fr0 F
  have hrg := kg.rec_
  rw [hv] at hrg
  by_cases hlt : n < N
  case neg =>
    obtain rfl : n = N := by omega
    simp (disch := first|omega|(simp only [np,ns];try omega)) [r_ref06_Disk_Copy, e0, e3, e4, hrg, lr_0]
    have e : (⟨S.fs.take n, S.sy⟩ : Ds) = S := by rw [List.take_of_length_le (by omega)]
    rw [e] at kc
    exact ⟨_, ⟨lv, rcs, rfl, kc⟩, F, hids⟩
  have hltI : (n : Int) < (N : Int) := by omega
  have hkk : IntKind.i64.wrap ((n : Int) + 1) = ((n + 1 : Nat) : Int) := by rw [i64_small (by omega) (by omega)]; omega
  have hspl := at_split (l := rs) (n := n) (by omega)
  obtain ⟨r, hr2⟩ : ∃ r, r = rs[n]'(by omega) := ⟨_, rfl⟩
  rw [← hr2] at hspl
  have kg2 := kg
  rw [hspl] at kg2
  obtain ⟨qi, qo, qc, ds, hqv, hqc, hqi, hgq, hezq, _, _, hl0, hl1, hl2', hl3, _⟩ := kg2.row
  have htl : (rs.take n).length = n := by rw [List.length_take]; omega
  have hl2 : (rs.take n ++ r :: rs.drop (n + 1)).length = N := by rw [← hspl, hN]
  rw [htl] at hl0 hl1 hl2' hl3
  rw [hl2, hv] at hqv
  injection hqv with hqv _ hqvc
  subst hqv
  subst hqvc
  have T := kg2.fil r (by simp)
  have hrS : r.f ∈ S.fs := by rw [← k.fs, hr2]; exact List.mem_map_of_mem (List.getElem_mem _)
  have hrok := ok.fl _ hrS
  have hrsz := hrok.sz
  have hrwl := hrok.wl
  obtain ⟨ba, bc, bb, bd, hb, hw⟩ := T.shapes
  obtain ⟨M, hM⟩ : ∃ M, M = r.f.all.length := ⟨_, rfl⟩
  obtain ⟨W, hW⟩ : ∃ W, W = r.f.ws.length := ⟨_, rfl⟩
  obtain ⟨A, hA⟩ : ∃ A : Int, A = (r.f.s.length : Int) := ⟨_, rfl⟩
  rw [hb, ← hM] at hl1
  rw [hw, ← hW] at hl3
  rw [← hA] at hl2'
  have hcl : rcs.length = n := by have := kc.len; simp at this; omega
  -- the box
  have hfi1 : fillC zF [(0, 1, .string (strB r.f.nm)), (2, 1, .int .i64 A)] = some [.string (strB r.f.nm), .slice none 0 0, .int .i64 A, .slice none 0 0] := rfl
  obtain ⟨ga, hga⟩ : ∃ ga, ga = g.push (.cells zF true 1) := ⟨_, rfl⟩
  have Fa : Fr g ga [] := by rw [hga]; exact Fr_push (Fr.refl _ _)
  have na : ga.n = g.n + 1 := by rw [hga]; rfl
  have hrga := (Fa.get i kg.lt (by simp)).trans hrg
  have hgqa := (Fa.get qi hqi (by simp)).trans hgq
  have ba0 : ga.get g.n = .cells zF true 1 := by rw [hga, VH.get_push_new]
  obtain ⟨g1, hg1⟩ : ∃ g1, g1 = ga.set g.n (.cells [.string (strB r.f.nm), .slice none 0 0, .int .i64 A, .slice none 0 0] true 1) := ⟨_, rfl⟩
  have F1 : Fr g g1 [] := by rw [hg1]; exact Fr_set Fa (Nat.le_refl _)
  have n1 : g1.n = g.n + 1 := by rw [hg1]; exact na
  have b1 : g1.get g.n = .cells [.string (strB r.f.nm), .slice none 0 0, .int .i64 A, .slice none 0 0] true 1 := by rw [hg1, VH.get_set_same]
  have hrg1 := (F1.get i kg.lt (by simp)).trans hrg
  have hgq1 := (F1.get qi hqi (by simp)).trans hgq
  have T1 := T.fr F1 (fun _ _ => by simp)
  have src1 := T1.b.src
  rw [hb, ← hM] at src1
  obtain ⟨w1, g2, hap2, B2⟩ := (Buf.nil g1).append r.f.all (by simp; omega)
  rw [List.nil_append] at B2
  rw [← hM] at hap2
  obtain ⟨xa, xc, hw1⟩ := B2.shape
  rw [← hM] at hw1
  have b2 := (B2.old (by omega)).trans b1
  obtain ⟨g3, hg3⟩ : ∃ g3, g3 = g2.set g.n (.cells [.string (strB r.f.nm), .slice xa M xc, .int .i64 A, .slice none 0 0] true 1) := ⟨_, rfl⟩
  have F12 := B2.fr
  have F23 : Fr g2 g3 [g.n] := by rw [hg3]; exact Fr.set _ _ (by simp)
  have n12 := F12.n
  have n23 := F23.n
  have F03 : Fr g g3 [] := (F1.trans F12).trans' F23 (fun y hy => by simp at hy; exact .inr (by omega))
  have b3 : g3.get g.n = .cells [.string (strB r.f.nm), .slice xa M xc, .int .i64 A, .slice none 0 0] true 1 := by rw [hg3, VH.get_set_same]
  have hrg3 := (F03.get i kg.lt (by simp)).trans hrg
  have hgq3 := (F03.get qi hqi (by simp)).trans hgq
  have T3 := T.fr F03 (fun _ _ => by simp)
  have src3 := T3.w.src
  rw [hw, ← hW] at src3
  obtain ⟨w2, g4, hap4, B4, _⟩ := (BufE.nil g3 1).append (bytes := 8) (ys := intsL (atL r.f.s.length r.f.ws)) (k := W) (by have := T3.w.len; rw [hW]; simpa using this) (by omega)
  rw [List.nil_append, Nat.zero_add] at B4
  obtain ⟨ya, yc, hw2⟩ := B4.shape
  have b4 := (B4.fr.get g.n (by omega) (by simp)).trans b3
  obtain ⟨g5, hg5⟩ : ∃ g5, g5 = g4.set g.n (.cells [.string (strB r.f.nm), .slice xa M xc, .int .i64 A, .slice ya W yc] true 1) := ⟨_, rfl⟩
  have F45 : Fr g4 g5 [g.n] := by rw [hg5]; exact Fr.set _ _ (by simp)
  have n34 := B4.fr.n
  have n45 := F45.n
  have F35 : Fr g3 g5 [g.n] := (B4.fr.sub (by simp)).trans F45
  have F05 : Fr g g5 [] := F03.trans' F35 (fun y hy => by simp at hy; exact .inr (by omega))
  have b5 : g5.get g.n = .cells [.string (strB r.f.nm), .slice xa M xc, .int .i64 A, .slice ya W yc] true 1 := by rw [hg5, VH.get_set_same]
  obtain ⟨x, hx⟩ : ∃ x : Rr, x = ⟨r.f, w1, w2⟩ := ⟨_, rfl⟩
  have hrow : rowR x = [.string (strB r.f.nm), .slice xa M xc, .int .i64 A, .slice ya W yc] := by rw [hx]; simp only [rowR, hw1, hw2, hA]
  have kc5 := kc.fr0 F05
  have c5 := kc5.rec_
  obtain ⟨la, lc, hlv⟩ := kc5.own.shapeN
  have hid1 := B2.ids
  have hid2 := B4.ids
  have lt1 := B2.own.lt
  have lt2 := B4.own.lt
  have hgx1 : ∀ y ∈ idOf w1, y ∉ [g.n] := fun y hy hyn => by simp at hyn; subst hyn; have := hid1 _ hy; omega
  have hgx2 : ∀ y ∈ idOf w2, y ∉ [g.n] := fun y hy hyn => by simp at hyn; subst hyn; have := hid2 _ hy; omega
  have T5 : RfAt g5 x := by
    rw [hx]
    refine ⟨?_, ?_⟩
    · exact (((B2.own.fr F23 hgx1).fr B4.fr (fun _ _ => by simp)).fr F45 hgx1).p
    · have := (B4.own.fr F45 hgx2).p
      rw [hW] at this
      exact this
  have hfpx : fpR x = idOf w1 ++ idOf w2 := by rw [hx]; rfl
  have hxge : ∀ y ∈ fpR x, g.n ≤ y := by
    rw [hfpx]
    intro y hy
    rcases List.mem_append.1 hy with hy | hy
    · have := hid1 y hy; omega
    · have := hid2 y hy; omega
  have hklt := kc.lts
  have hxnd : (fpR x).Nodup := by
    rw [hfpx, List.nodup_append]
    exact ⟨idOf_nodup _, idOf_nodup _, fun y hy z hz e => by subst e; have := lt1 y hy; have := hid2 y hz; omega⟩
  obtain ⟨g6, hg6⟩ : ∃ g6, g6 = g5.push (.cells [.string (strB r.f.nm), .slice xa M xc, .int .i64 A, .slice ya W yc] true 4) := ⟨_, rfl⟩
  have F56 : Fr g5 g6 [] := by rw [hg6]; exact Fr_push (Fr.refl _ _)
  have n56 : g6.n = g5.n + 1 := by rw [hg6]; rfl
  have q6 : g6.get g5.n = .cells [.string (strB r.f.nm), .slice xa M xc, .int .i64 A, .slice ya W yc] true 4 := by rw [hg6, VH.get_push_new]
  have hfi6 : fillC zF [(0, 4, .agg #[.string (strB r.f.nm), .slice xa M xc, .int .i64 A, .slice ya W yc])] = some [.string (strB r.f.nm), .slice xa M xc, .int .i64 A, .slice ya W yc] := rfl
  have hone6 : ([.string (strB r.f.nm), .slice xa M xc, .int .i64 A, .slice ya W yc] : List Value).all Value.oneCell' = true := rfl
  have hro6 : rowObj (.cells [.string (strB r.f.nm), .slice xa M xc, .int .i64 A, .slice ya W yc] true 4) 0 4 = some [.string (strB r.f.nm), .slice xa M xc, .int .i64 A, .slice ya W yc] := rfl
  have kc6 := kc5.fr0 F56
  obtain ⟨lv2, g7, hap7, O7, F67, hid7⟩ := kc6.own.append (bytes := 72) (ys := [.string (strB r.f.nm), .slice xa M xc, .int .i64 A, .slice ya W yc]) (k := 1) rfl (by omega)
  obtain ⟨la2, lc2, hlv2⟩ := O7.shapeN
  have hin : h.n ∉ idOf lv := kc.nv
  have c6 := kc6.rec_
  have c7 := (F67.get h.n (by have := F05.n; omega) hin).trans c6
  obtain ⟨g8, hg8⟩ : ∃ g8, g8 = g7.set h.n (.cells [lv2, .int .i64 (S.sy : Int)] true 1) := ⟨_, rfl⟩
  have F78 : Fr g7 g8 [h.n] := by rw [hg8]; exact Fr.set _ _ (by simp)
  have hst8 : storeObj (.cells [lv, .int .i64 (S.sy : Int)] true 1) 0 1 lv2 = some (.cells [lv2, .int .i64 (S.sy : Int)] true 1) := by rw [hlv2]; rfl
  have hSn : S.fs[n]? = some r.f := by rw [← k.fs, List.getElem?_map, List.getElem?_eq_getElem (show n < rs.length by omega)]; exact congrArg (fun z => some z.f) hr2.symm
  have hnS : n < S.fs.length := by omega
  have htake : S.fs.take (n + 1) = S.fs.take n ++ [r.f] := by
    rw [List.take_succ_eq_append_getElem hnS]
    congr 2
    have := List.getElem?_eq_getElem hnS
    rw [hSn] at this
    injection this with this
    exact this.symm
  have hin2 : h.n ∉ idOf lv2 := fun hy => (hid7 _ hy).elim hin (fun h => by have := F05.n; omega)
  have K8 : RRep g8 h.n lv2 (rcs ++ [x]) ⟨S.fs.take (n + 1), S.sy⟩ := by
    refine kc6.grow (((F67.sub (fun y hy => List.mem_cons_of_mem _ hy))).trans (F78.sub (by simp))) (by rw [hg8, VH.get_set_same]) ?_ hid7 (T5.fr F56 (fun _ _ => by simp)) (fun y hy hyf => by have := hxge y hy; have := hklt y hyf; omega) hxnd (by rw [htake, hx])
    have h9 := O7.fr F78 (fun y hy hyn => by simp at hyn; subst hyn; exact hin2 hy)
    have e1 : (rcs ++ [x]).flatMap rowR = rcs.flatMap rowR ++ [.string (strB r.f.nm), .slice xa M xc, .int .i64 A, .slice ya W yc] := by rw [List.flatMap_append, List.flatMap_singleton, hrow]
    rw [e1, List.length_append, List.length_singleton]
    exact h9
  rw [hw1] at hap2
  rw [hw2] at hap4
  rw [hlv] at hap7 c5 c7 hst8
  have hgn5 := F05.n
  simp (disch := first|omega|(simp only [np,ns];try omega)) [e0, e3, e4, hrg, hrga, lr_0, hlt, hltI, hgq, hgqa, hezq, hl0, hl2', hfi1, ← hga, na, ba0, s4_A, ← hg1, b1, l4_1, l4_3, hrg1, hgq1, hl1, src1, Option.bind_some, hap2, b2, s4_1, ← hg3, b3, hrg3, hgq3, hl3, src3, hap4, b4, s4_3, ← hg5, b5, l4_A, c5, hfi6, hone6, ← hg6, c6, q6, hro6, hap7, c7, hst8, ← hg8, hkk]
  have hidg : ∀ y ∈ idOf lv, h.n ≤ y := fun y hy => hids y (by simp only [fpD, List.mem_cons, List.mem_append]; exact .inr (.inl hy))
  have F8 : Fr h g8 [] := (((F.trans F05).trans F56).trans' F67 (fun y hy => .inr (hidg y hy))).trans' F78 (fun y hy => by simp at hy; exact .inr (by omega))
  have hids8 : ∀ y ∈ fpD h.n lv2 (rcs ++ [x]), h.n ≤ y := by
    intro y hy
    simp only [fpD, List.mem_cons, List.mem_append, List.flatMap_append, List.flatMap_cons, List.flatMap_nil, List.append_nil] at hy
    rcases hy with rfl | hy | hy | hy
    · exact Nat.le_refl _
    · rcases hid7 y hy with h1 | h1
      · exact hidg y h1
      · omega
    · exact hids y (by simp only [fpD, List.mem_cons, List.mem_append]; exact .inr (.inr hy))
    · have := hxge y hy; omega
  have hn8 := F78.n
  have hn67 := F67.n
  exact ⟨hlv.symm, lv2, rcs ++ [x], K8, hids8, F8, by omega⟩
theorem ws_eq : ∀ (n : Nat) (a b : List (List UInt8)), a.length = b.length → a.flatten = b.flatten → atL n a = atL n b → a = b
  | n, [], b, h1, _, _ => by
    have : b = [] := List.length_eq_zero_iff.1 (by simpa using h1.symm)
    rw [this]
  | n, [x], b, h1, h2, _ => by
    obtain ⟨y, rfl⟩ := List.length_eq_one_iff.1 (show b.length = 1 by simpa using h1.symm)
    simpa using h2
  | n, x :: x2 :: a, [], h1, _, _ => by simp at h1
  | n, x :: x2 :: a, [y], h1, _, _ => by simp at h1
  | n, x :: x2 :: a, y :: y2 :: b, h1, h2, h3 => by
    simp only [atL, List.cons.injEq, true_and] at h3
    have hl : x.length = y.length := by omega
    rw [List.flatten_cons, List.flatten_cons (l := y)] at h2
    obtain ⟨e1, e2⟩ := List.append_inj h2 hl
    have h4 := h3.2
    rw [hl] at h4
    have h5 : atL (n + y.length) (x2 :: a) = atL (n + y.length) (y2 :: b) := by
      simp only [atL, h4]
    rw [e1, ws_eq (n + y.length) (x2 :: a) (y2 :: b) (by simpa using h1) e2 h5]
theorem fl_eq {x y : Fl} (h1 : x.nm = y.nm) (h2 : x.all = y.all) (h3 : x.s.length = y.s.length) (h4 : x.ws.length = y.ws.length) (h5 : atL x.s.length x.ws = atL y.s.length y.ws) : x = y := by
  cases x with
  | mk a1 a2 a3 =>
    cases y with
    | mk b1 b2 b3 =>
      simp only at h1 h3 h4 h5
      simp only [Fl.all] at h2
      obtain ⟨e1, e2⟩ := List.append_inj h2 h3
      rw [h3] at h5
      rw [h1, e1, ws_eq _ _ _ h4 e2 h5]
theorem atL_len : ∀ (n : Nat) (ws : List (List UInt8)), (atL n ws).length = ws.length
  | _, [] => rfl
  | n, w :: r => by simp [atL, atL_len]
/-- a row of ints, at a place. -/
theorem intl_at {h : VH} {v : Value} {l : List Nat} {W j : Nat} (k : OwnP h 1 v (intsL l) W) (hj : j < W) (hl : l.length = W) :
    ∃ i o c ds, v = .slice (some ⟨i, o, none⟩) W c ∧ h.get i = .cells ds true 1 ∧ eszObj (.cells ds true 1) 1 = true ∧ loadObj (.cells ds true 1) (o + j) none = some (.int .i64 ((l.getD j 0 : Nat) : Int)) := by
  rcases k with ⟨_, _, h3⟩ | ⟨i, o, c, ds, h1, h2, h3, h4, h5, h6⟩
  · omega
  · refine ⟨i, o, c, ds, h3, h4, rfl, ?_⟩
    have hx : (intsL l)[j]? = some (.int .i64 ((l.getD j 0 : Nat) : Int)) := by
      simp [intsL, List.getElem?_eq_getElem (show j < l.length by omega), List.getD_eq_getElem?_getD]
    rw [← h5, List.getElem?_take, if_pos (by omega), List.getElem?_drop] at hx
    exact hx
def Alk (x y : List Nat) (k : Nat) : Prop := x.take k = y.take k
theorem Alk.step {x y : List Nat} {k : Nat} (a : Alk x y k) (hx : k < x.length) (hy : k < y.length) (h : x.getD k 0 = y.getD k 0) : Alk x y (k + 1) := by
  unfold Alk at a ⊢
  rw [List.take_succ_eq_append_getElem hx, List.take_succ_eq_append_getElem hy, a]
  have h1 : x.getD k 0 = x[k] := by simp [List.getD_eq_getElem?_getD, List.getElem?_eq_getElem hx]
  have h2 : y.getD k 0 = y[k] := by simp [List.getD_eq_getElem?_getD, List.getElem?_eq_getElem hy]
  rw [← h1, ← h2, h]
def AlF (S T : Ds) (n : Nat) : Prop := S.fs.take n = T.fs.take n
theorem AlF.step {S T : Ds} {n : Nat} {f : Fl} (a : AlF S T n) (h1 : S.fs[n]? = some f) (h2 : T.fs[n]? = some f) : AlF S T (n + 1) := by
  unfold AlF at a ⊢
  rw [List.take_add_one, List.take_add_one, a, h1, h2]
set_option maxHeartbeats 8000000 in
theorem rsame_ok {h : VH} {i i2 : Nat} {S T : Ds} {X Y : List Nat} (K : RfDk h i S X) (L : RfDk h i2 T Y) (okS : OkD S) (okT : OkD T) :
    PCalls Tryz.prog f_ref06_Same [.pointer (some ⟨i, 0, none⟩), .pointer (some ⟨i2, 0, none⟩)] h (fun u h' => (∃ b, u = .bool b ∧ (b = true ↔ S.fs = T.fs)) ∧ Fr h h' []) := by
  refine PCalls_of_pw st_ref06_Same (by simp [n_ref06_Same]) ?_
  rw [b_ref06_Same]
  unfold B_ref06_Same
  obtain ⟨v, rs, rfl, k⟩ := K
  obtain ⟨w, ts, rfl, l⟩ := L
  have hlen := k.len
  have hle := okS.len
  have hlen2 := l.len
  have hle2 := okT.len
  have hr := k.rec_
  have hr2 := l.rec_
  obtain ⟨ra, rc, hv⟩ := k.own.shapeN
  obtain ⟨rb, rd, hv2⟩ := l.own.shapeN
  obtain ⟨N, hN⟩ : ∃ N, N = rs.length := ⟨_, rfl⟩
  obtain ⟨M, hM⟩ : ∃ M, M = ts.length := ⟨_, rfl⟩
  rw [← hN] at hv
  rw [← hM] at hv2
  rw [hv] at hr
  rw [hv2] at hr2
  by_cases hNM : N = M
  case neg =>
    have hI : ((N : Int) != (M : Int)) = true := by simp; omega
    simp (disch := first|omega|(simp only [np,ns];try omega)) [r_ref06_Same, hr, hr2, lr_0, hI]
    refine ⟨fun e => hNM ?_, Fr.refl _ _⟩
    rw [hN, hM, hlen, hlen2, e]
  subst hNM
  have hI : ((N : Int) != (N : Int)) = false := by simp
  simp (disch := first|omega|(simp only [np,ns];try omega)) [hr, hr2, lr_0, hI]
  refine pw_loopN (fun n s g => AlF S T n ∧ Fr h g [] ∧ s 0 = .pointer (some ⟨i, 0, none⟩) ∧ s 1 = .pointer (some ⟨i2, 0, none⟩) ∧ s 5 = .int .i64 (n : Int)) N ?_ ?_
  · exact ⟨by simp [AlF], Fr.refl _ _, by simp [upd_apply, s0_apply], by simp [upd_apply, s0_apply], by simp [upd_apply]⟩
  rintro n s g hn ⟨A, F, e0, e1, e5⟩
  have kg := k.fr0 F
  have lg := l.fr0 F
  have hrg := kg.rec_
  have hrg2 := lg.rec_
  rw [hv] at hrg
  rw [hv2] at hrg2
  by_cases hlt : n < N
  case neg =>
    obtain rfl : n = N := by omega
    have heq : S.fs = T.fs := by
      unfold AlF at A
      rwa [List.take_of_length_le (by omega), List.take_of_length_le (by omega)] at A
    simp (disch := first|omega|(simp only [np,ns];try omega)) [r_ref06_Same, e0, e1, e5, hrg, lr_0]
    exact ⟨heq, F⟩
  have hltI : (n : Int) < (N : Int) := by omega
  have hkk : IntKind.i64.wrap ((n : Int) + 1) = ((n + 1 : Nat) : Int) := by rw [i64_small (by omega) (by omega)]; omega
  have hspl := at_split (l := rs) (n := n) (by omega)
  have hspl2 := at_split (l := ts) (n := n) (by omega)
  obtain ⟨x, hx⟩ : ∃ x, x = rs[n]'(by omega) := ⟨_, rfl⟩
  obtain ⟨y, hy⟩ : ∃ y, y = ts[n]'(by omega) := ⟨_, rfl⟩
  rw [← hx] at hspl
  rw [← hy] at hspl2
  have kg2 := kg
  have lg2 := lg
  rw [hspl] at kg2
  rw [hspl2] at lg2
  obtain ⟨qi, qo, qc, ds, hqv, hqc, hqi, hgq, hezq, _, _, _, _, _, _, hl4, _⟩ := kg2.row
  obtain ⟨pi, po, pc, es, hpv, hpc, hpi, hgp, hezp, _, _, _, _, _, _, hm4, _⟩ := lg2.row
  have htl : (rs.take n).length = n := by rw [List.length_take]; omega
  have htl2 : (ts.take n).length = n := by rw [List.length_take]; omega
  have hll : (rs.take n ++ x :: rs.drop (n + 1)).length = N := by rw [← hspl, hN]
  have hll2 : (ts.take n ++ y :: ts.drop (n + 1)).length = N := by rw [← hspl2, hM]
  rw [htl] at hl4
  rw [htl2] at hm4
  rw [hll, hv] at hqv
  rw [hll2, hv2] at hpv
  injection hqv with hqv _ hqvc
  subst hqv
  subst hqvc
  injection hpv with hpv _ hpvc
  subst hpv
  subst hpvc
  have Tx := kg2.fil x (by simp)
  have Ty := lg2.fil y (by simp)
  have hSn : S.fs[n]? = some x.f := by rw [← k.fs, List.getElem?_map, List.getElem?_eq_getElem (show n < rs.length by omega)]; exact congrArg (fun z => some z.f) hx.symm
  have hTn : T.fs[n]? = some y.f := by rw [← l.fs, List.getElem?_map, List.getElem?_eq_getElem (show n < ts.length by omega)]; exact congrArg (fun z => some z.f) hy.symm
  have hxok := okS.fl _ (List.mem_of_getElem? hSn)
  have hyok := okT.fl _ (List.mem_of_getElem? hTn)
  have hxw := hxok.wl
  have hxs := hxok.sz
  obtain ⟨ba, bc, bb, bd, hb, hw⟩ := Tx.shapes
  obtain ⟨ca, cc, cb, cd, hc, hu⟩ := Ty.shapes
  obtain ⟨ax, hax⟩ : ∃ ax, ax = x.f.all := ⟨_, rfl⟩
  obtain ⟨ay, hay⟩ : ∃ ay, ay = y.f.all := ⟨_, rfl⟩
  obtain ⟨P, hP⟩ : ∃ P, P = ax.length := ⟨_, rfl⟩
  obtain ⟨Q, hQ⟩ : ∃ Q, Q = ay.length := ⟨_, rfl⟩
  obtain ⟨W, hW⟩ : ∃ W, W = x.f.ws.length := ⟨_, rfl⟩
  obtain ⟨U, hU⟩ : ∃ U, U = y.f.ws.length := ⟨_, rfl⟩
  obtain ⟨a1, ha1⟩ : ∃ a1, a1 = x.f.s.length := ⟨_, rfl⟩
  obtain ⟨a2, ha2⟩ : ∃ a2, a2 = y.f.s.length := ⟨_, rfl⟩
  have hne : S.fs = T.fs → x.f = y.f := fun e => by
    rw [e, hTn] at hSn
    injection hSn with h
    exact h.symm
  have hl4' : loadObj (.cells ds true 4) (qo + n * 4) (some 4) = some (.agg #[.string (strB x.f.nm), .slice ba P bc, .int .i64 (a1 : Int), .slice bb W bd]) := by rw [hl4, rowR, hb, hw, hP, hax, ha1, hW]
  have hm4' : loadObj (.cells es true 4) (po + n * 4) (some 4) = some (.agg #[.string (strB y.f.nm), .slice ca Q cc, .int .i64 (a2 : Int), .slice cb U cd]) := by rw [hm4, rowR, hc, hu, hQ, hay, ha2, hU]
  obtain ⟨g1, hg1⟩ : ∃ g1, g1 = (g.push (.cells zF true 1)).set g.n (.cells [.string (strB x.f.nm), .slice ba P bc, .int .i64 (a1 : Int), .slice bb W bd] true 1) := ⟨_, rfl⟩
  have F1 : Fr g g1 [] := by rw [hg1]; exact Fr_set (Fr_push (Fr.refl _ _)) (Nat.le_refl _)
  have n1 : g1.n = g.n + 1 := by rw [hg1]; rfl
  have b1 : g1.get g.n = .cells [.string (strB x.f.nm), .slice ba P bc, .int .i64 (a1 : Int), .slice bb W bd] true 1 := by rw [hg1, VH.get_set_same]
  have r1 := (F1.get i2 lg.lt (by simp)).trans hrg2
  have p1 := (F1.get pi hpi (by simp)).trans hgp
  obtain ⟨g2, hg2⟩ : ∃ g2, g2 = (g1.push (.cells zF true 1)).set g1.n (.cells [.string (strB y.f.nm), .slice ca Q cc, .int .i64 (a2 : Int), .slice cb U cd] true 1) := ⟨_, rfl⟩
  have F2 : Fr g1 g2 [] := by rw [hg2]; exact Fr_set (Fr_push (Fr.refl _ _)) (Nat.le_refl _)
  have b2 : g2.get g1.n = .cells [.string (strB y.f.nm), .slice ca Q cc, .int .i64 (a2 : Int), .slice cb U cd] true 1 := by rw [hg2, VH.get_set_same]
  have b12 := (F2.get g.n (by omega) (by simp)).trans b1
  have F02 := F1.trans F2
  have F3 := F.trans F02
  have Tx2 := Tx.fr F02 (fun _ _ => by simp)
  have Ty2 := Ty.fr F02 (fun _ _ => by simp)
  have s1 := ofB_eq Tx2.b.bytes
  have s2 := ofB_eq Ty2.b.bytes
  rw [hb, ← hax, ← hP] at s1
  rw [hc, ← hay, ← hQ] at s2
  have w1 := Tx2.w
  have w2 := Ty2.w
  obtain ⟨lx, hlx⟩ : ∃ lx, lx = atL x.f.s.length x.f.ws := ⟨_, rfl⟩
  obtain ⟨ly, hly⟩ : ∃ ly, ly = atL y.f.s.length y.f.ws := ⟨_, rfl⟩
  have hlxl : lx.length = W := by rw [hlx, hW, atL_len]
  have hlyl : ly.length = U := by rw [hly, hU, atL_len]
  rw [hw, ← hlx, ← hW] at w1
  rw [hu, ← hly, ← hU] at w2
  by_cases hnm : x.f.nm = y.f.nm
  case neg =>
    have q1 : ((strB x.f.nm).toList == (strB y.f.nm).toList) = false := by rw [strB_toList, strB_toList]; simpa using hnm
    simp (disch := first|omega|(simp only [np,ns];try omega)) [r_ref06_Same, e0, e1, e5, hrg, lr_0, hltI, hlt, hgq, hezq, hl4', s4_A, ← hg1, r1, p1, hezp, hm4', ← hg2, b12, b2, l4_0, q1]
    exact ⟨fun e => hnm (by rw [hne e]), F3⟩
  have q1 : ((strB x.f.nm).toList == (strB y.f.nm).toList) = true := by rw [hnm]; simp
  by_cases hal : ax = ay
  case neg =>
    have q2 : ((strB ax).toList == (strB ay).toList) = false := by rw [strB_toList, strB_toList]; simpa using hal
    simp (disch := first|omega|(simp only [np,ns];try omega)) [r_ref06_Same, e0, e1, e5, hrg, lr_0, hltI, hlt, hgq, hezq, hl4', s4_A, ← hg1, r1, p1, hezp, hm4', ← hg2, b12, b2, l4_0, l4_1, q1, s1, s2, q2]
    exact ⟨fun e => hal (by rw [hax, hay, hne e]), F3⟩
  have q2 : ((strB ax).toList == (strB ay).toList) = true := by rw [hal]; simp
  by_cases h12 : a1 = a2
  case neg =>
    have q3 : ((a1 : Int) != (a2 : Int)) = true := by simp; omega
    simp (disch := first|omega|(simp only [np,ns];try omega)) [r_ref06_Same, e0, e1, e5, hrg, lr_0, hltI, hlt, hgq, hezq, hl4', s4_A, ← hg1, r1, p1, hezp, hm4', ← hg2, b12, b2, l4_0, l4_1, l4_2, q1, s1, s2, q2, q3]
    exact ⟨fun e => h12 (by rw [ha1, ha2, hne e]), F3⟩
  have q3 : ((a1 : Int) != (a2 : Int)) = false := by simp; omega
  by_cases hWU : W = U
  case neg =>
    have q4 : ((W : Int) != (U : Int)) = true := by simp; omega
    simp (disch := first|omega|(simp only [np,ns];try omega)) [r_ref06_Same, e0, e1, e5, hrg, lr_0, hltI, hlt, hgq, hezq, hl4', s4_A, ← hg1, r1, p1, hezp, hm4', ← hg2, b12, b2, l4_0, l4_1, l4_2, l4_3, q1, s1, s2, q2, q3, q4]
    exact ⟨fun e => hWU (by rw [hW, hU, hne e]), F3⟩
  have q4 : ((W : Int) != (U : Int)) = false := by simp; omega
  simp (disch := first|omega|(simp only [np,ns];try omega)) [e0, e1, e5, hrg, lr_0, hltI, hlt, hgq, hezq, hl4', s4_A, ← hg1, r1, p1, hezp, hm4', ← hg2, b12, b2, l4_0, l4_1, l4_2, l4_3, q1, s1, s2, q2, q3, q4]
  refine pw_loopN (fun m s g' => Alk lx ly m ∧ g' = g2 ∧ s 0 = .pointer (some ⟨i, 0, none⟩) ∧ s 1 = .pointer (some ⟨i2, 0, none⟩) ∧ s 5 = .int .i64 (n : Int) ∧ s 6 = .pointer (some ⟨g.n, 0, none⟩) ∧ s 7 = .pointer (some ⟨g1.n, 0, none⟩) ∧ s 8 = .int .i64 (m : Int)) W ?_ ?_
  · exact ⟨by simp [Alk], rfl, by simp [upd_apply, e0], by simp [upd_apply, e1], by simp [upd_apply, e5], by simp [upd_apply], by simp [upd_apply], by simp [upd_apply]⟩
  rintro m s2 g' hm ⟨A2, hg', f0, f1, f5, f6, f7, f8⟩
  rw [hg']
  by_cases hmW : m < W
  case neg =>
    obtain rfl : m = W := by omega
    have hxy : x.f = y.f := by
      refine fl_eq hnm (by rw [← hax, ← hay, hal]) (by omega) (by omega) ?_
      rw [← hlx, ← hly]
      unfold Alk at A2
      rwa [List.take_of_length_le (by omega), List.take_of_length_le (by omega)] at A2
    have A3 : AlF S T (n + 1) := A.step hSn (by rw [hxy]; exact hTn)
    simp (disch := first|omega|(simp only [np,ns];try omega)) [f0, f1, f5, f6, f7, f8, b12, b2, l4_3, hkk]
    exact ⟨by omega, A3, F3⟩
  have hmI : (m : Int) < (W : Int) := by omega
  have hmU : m < U := by omega
  have hmUI : (m : Int) < (U : Int) := by omega
  have hkm : IntKind.i64.wrap ((m : Int) + 1) = ((m + 1 : Nat) : Int) := by rw [i64_small (by omega) (by omega)]; omega
  obtain ⟨xi, xo, xc, xd, hxv, hxg, hxe, hxl⟩ := intl_at w1 hmW hlxl
  obtain ⟨yi, yo, yc, yd, hyv, hyg, hye, hyl⟩ := intl_at w2 hmU hlyl
  rw [hxv] at b12
  rw [hyv] at b2
  obtain ⟨zx, hzx⟩ : ∃ zx : Nat, zx = lx.getD m 0 := ⟨_, rfl⟩
  obtain ⟨zy, hzy⟩ : ∃ zy : Nat, zy = ly.getD m 0 := ⟨_, rfl⟩
  rw [← hzx] at hxl
  rw [← hzy] at hyl
  by_cases hz : zx = zy
  case neg =>
    have q5 : ((zx : Int) != (zy : Int)) = true := by simp; omega
    simp (disch := first|omega|(simp only [np,ns];try omega)) [r_ref06_Same, f0, f1, f5, f6, f7, f8, b12, b2, l4_3, hmI, hmW, hmU, hmUI, hxg, hxe, hxl, hyg, hye, hyl, q5]
    refine ⟨fun e => hz ?_, F3⟩
    rw [hzx, hzy, hlx, hly, hne e]
  have q5 : ((zx : Int) != (zy : Int)) = false := by simp; omega
  simp (disch := first|omega|(simp only [np,ns];try omega)) [f0, f1, f5, f6, f7, f8, b12, b2, l4_3, hmI, hmW, hmU, hmUI, hxg, hxe, hxl, hyg, hye, hyl, q5, hkm]
  exact A2.step (by omega) (by omega) (by rw [← hzx, ← hzy, hz])
end Go.Proofs.YtgnmhonbcejnfaaGreatDoor.Dk
