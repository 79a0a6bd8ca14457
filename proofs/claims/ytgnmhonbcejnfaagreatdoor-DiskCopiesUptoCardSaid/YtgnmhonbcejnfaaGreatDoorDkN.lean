/- disk, part N: what is kept: is it wrong? -/
import Derived.Test.YtgnmhonbcejnfaaGreatDoorDkJ
import Derived.Test.YtgnmhonbcejnfaaGreatDoorPmSb
set_option linter.unusedVariables false
set_option linter.unusedSimpArgs false
set_option maxRecDepth 100000
namespace Go.Proofs.YtgnmhonbcejnfaaGreatDoor.Dk
open Go Go.RowKit Go.Proofs.YtgnmhonbcejnfaaGreatDoor.Pm Go.Proofs.YtgnmhonbcejnfaaGreatDoor.Fs
attribute [-simp] BitVec.toNat_or BitVec.toNat_xor BitVec.toNat_add BitVec.toNat_and BitVec.toNat_not BitVec.toNat_shiftLeft BitVec.toNat_ushiftRight


def IntsAt (h : VH) (v : Value) (zs : List Int) : Prop := RowsAt h 1 v (zs.map fun x => [.int .i64 x]) ∧ zs.length ≤ 1099511627000
theorem IntsAt.nil (h : VH) : IntsAt h (.slice none 0 0) [] := ⟨⟨none, 0, rfl, fun h => by simp at h⟩, by simp⟩
theorem IntsAt.shape {h : VH} {v : Value} {zs : List Int} (H : IntsAt h v zs) : ∃ a c, v = .slice a zs.length c := by
  obtain ⟨a, c, h1⟩ := H.1.shape
  exact ⟨a, c, by simpa using h1⟩
theorem IntsAt.ro {h : VH} {v : Value} {zs : List Int} (H : IntsAt h v zs) : IntsAt h.ro v zs := ⟨H.1.ro, H.2⟩
theorem IntsAt.fr {h h' : VH} {X : List Nat} (hf : Fr h h' X) {v : Value} {zs : List Int} (H : IntsAt h v zs) (hx : ∀ x ∈ idOf v, x ∉ X) : IntsAt h' v zs := ⟨H.1.fr hf hx, H.2⟩
theorem IntsAt.at_ {h : VH} {a : Option Addr} {n c : Nat} {zs : List Int} (H : IntsAt h (.slice a n c) zs) {k : Nat} (hk : k < zs.length) :
    ∃ i o, a = some ⟨i, o, none⟩ ∧ i < h.n ∧ eszObj (h.get i) 1 = true ∧ loadObj (h.get i) (o + k) none = some (.int .i64 (zs.getD k 0)) := by
  obtain ⟨i, o, h1, h2, h3, h4, h5⟩ := H.1.at_ (k := k) (by simpa using hk)
  refine ⟨i, o, h1, h2, h3, ?_⟩
  have := h5 (.int .i64 (zs.getD k 0)) (by simp [List.getD, hk])
  simpa using this
theorem isFn55 : isFn Tryz.prog 58 = true := by kernel_rfl
theorem neg55_ok {h : VH} {x : Int} : PCalls Tryz.prog 58 [.int .i64 x] h (fun u h' => u = .bool (decide (x < 0)) ∧ h' = h) := by
  refine PCalls_of_pw st_disk_Disk_wrong_1 (by simp [n_disk_Disk_wrong_1]) ?_
  rw [b_disk_Disk_wrong_1]
  unfold B_disk_Disk_wrong_1
  simp (disch := first|omega|(simp only [np,ns];try omega)) [r_disk_Disk_wrong_1]
set_option maxHeartbeats 1000000 in
theorem index_ok {h : VH} {v : Value} {zs : List Int} (H : IntsAt h v zs) :
    PCalls Tryz.prog f_slices_IndexFunc_int_int [v, .func (.func 58) #[] #[]] h (fun u _ => ∃ k : Int, u = .int .i64 k ∧ (0 ≤ k ↔ zs.any (· < 0) = true) ∧ -1 ≤ k) := by
  refine PCalls_of_pw st_slices_IndexFunc_int_int (by simp [n_slices_IndexFunc_int_int]) ?_
  rw [b_slices_IndexFunc_int_int]
  unfold B_slices_IndexFunc_int_int
  have hle := H.2
  obtain ⟨a, c, rfl⟩ := H.shape
  obtain ⟨L, hL⟩ : ∃ L, L = zs.length := ⟨_, rfl⟩
  rw [← hL] at H hle
  rw [← hL]
  simp (disch := first|omega|(simp only [np,ns];try omega)) []
  refine pw_loopN (fun n s g => g = h ∧ s 0 = .slice a L c ∧ s 1 = .func (.func 58) #[] #[] ∧ s 7 = .int .i64 (L : Int) ∧ s 8 = .int .i64 (n : Int) ∧ (zs.take n).any (· < 0) = false) L ?_ ?_
  · exact ⟨rfl, by simp [upd_apply, s0_apply], by simp [upd_apply, s0_apply], by simp [upd_apply], by simp [upd_apply], by simp⟩
  rintro n s g hn ⟨rfl, e0, e1, e7, e8, hnot⟩
  by_cases hlt : n < L
  · have hltI : (n : Int) < (L : Int) := by omega
    have hkk : IntKind.i64.wrap ((n : Int) + 1) = ((n + 1 : Nat) : Int) := by rw [i64_small (by omega) (by omega)]; omega
    obtain ⟨i, o, rfl, hi, hez, hld⟩ := H.at_ (k := n) (by omega)
    obtain ⟨x, hx⟩ : ∃ x, x = zs.getD n 0 := ⟨_, rfl⟩
    rw [← hx] at hld
    simp (disch := first|omega|(simp only [np,ns];try omega)) [e0, e1, e7, e8, hltI, hlt, hez, hld]
    refine ⟨isFn55, neg55_ok.mono ?_⟩
    rintro u g' ⟨rfl, hg'⟩
    rw [hg']
    have hxm : zs.take (n + 1) = zs.take n ++ [x] := by
      rw [List.take_succ_eq_append_getElem (by omega), hx]
      simp [List.getD, List.getElem?_eq_getElem (show n < zs.length by omega)]
    by_cases hneg : x < 0
    · simp (disch := first|omega|(simp only [np,ns];try omega)) [r_slices_IndexFunc_int_int, e8, hneg]
      have hm : x ∈ zs := by rw [hx]; simp [List.getD, List.getElem?_eq_getElem (show n < zs.length by omega)]
      exact ⟨x, hm, hneg⟩
    · have hnx : (zs.take (n + 1)).any (· < 0) = false := by
        rw [hxm, List.any_append, hnot]; simp; omega
      simp (disch := first|omega|(simp only [np,ns];try omega)) [e0, e1, e7, e8, hneg, hkk]
      refine ⟨hlt, ?_⟩
      simpa using hnx
  · obtain rfl : n = L := by omega
    rw [hL, List.take_length] at hnot
    simp (disch := first|omega|(simp only [np,ns];try omega)) [r_slices_IndexFunc_int_int, e7, e8]
    simpa using hnot
theorem contains_ok' {h : VH} {v : Value} {zs : List Int} (H : IntsAt h v zs) :
    PCalls Tryz.prog f_slices_ContainsFunc_int_int [v, .func (.func 58) #[] #[]] h (fun u _ => u = .bool (zs.any (· < 0))) := by
  refine PCalls_of_pw st_slices_ContainsFunc_int_int (by simp [n_slices_ContainsFunc_int_int]) ?_
  rw [b_slices_ContainsFunc_int_int]
  unfold B_slices_ContainsFunc_int_int
  obtain ⟨a, c, rfl⟩ := H.shape
  simp (disch := first|omega|(simp only [np,ns];try omega)) []
  refine (index_ok H).mono ?_
  rintro u g ⟨k, rfl, h1, h2⟩
  by_cases hk : 0 ≤ k
  · have hr := h1.1 hk
    simp (disch := first|omega|(simp only [np,ns];try omega)) [r_slices_ContainsFunc_int_int, hk, hr]
  · have hr : zs.any (· < 0) = false := by
      rw [← Bool.not_eq_true]
      exact fun h => hk (h1.2 h)
    simp (disch := first|omega|(simp only [np,ns];try omega)) [r_slices_ContainsFunc_int_int, hk, hr]
theorem contains_ok {h : VH} {v : Value} {zs : List Int} (H : IntsAt h v zs) :
    PCalls Tryz.prog f_slices_ContainsFunc_int_int [v, .func (.func 58) #[] #[]] h (fun u h' => u = .bool (zs.any (· < 0)) ∧ h' = h) :=
  ((contains_ok' H.ro).mono fun u _ e => by subst e; exact ⟨rfl, rfl⟩).drop

/-- what is kept, as it came in: all of it where D says. -/
def rowK (p : (List UInt8 × List Int) × Value) : List Value := [.string (strB p.1.1), p.2]
structure KeepsAt (D : Nat → Prop) (h : VH) (v : Value) (q : List ((List UInt8 × List Int) × Value)) : Prop where
  rows : RowsAt h 2 v (q.map rowK)
  ints : ∀ p ∈ q, IntsAt h p.2 p.1.2
  lt : ∀ p ∈ q, ∀ x ∈ idOf p.2, D x
  ltv : ∀ x ∈ idOf v, D x
  len : q.length ≤ 1099511627000
theorem KeepsAt.fr {D : Nat → Prop} {h h' : VH} {X : List Nat} (hf : Fr h h' X) (hX : ∀ x ∈ X, ¬ D x) {v : Value} {q : List ((List UInt8 × List Int) × Value)} (K : KeepsAt D h v q) : KeepsAt D h' v q :=
  ⟨K.rows.fr hf (fun x hx hxX => hX x hxX (K.ltv x hx)), fun p hp => (K.ints p hp).fr hf (fun x hx hxX => hX x hxX (K.lt p hp x hx)), K.lt, K.ltv, K.len⟩
theorem KeepsAt.fr0 {D : Nat → Prop} {h h' : VH} (hf : Fr h h' []) {v : Value} {q : List ((List UInt8 × List Int) × Value)} (K : KeepsAt D h v q) : KeepsAt D h' v q := K.fr hf (by simp)
theorem KeepsAt.shape {D : Nat → Prop} {h : VH} {v : Value} {q : List ((List UInt8 × List Int) × Value)} (K : KeepsAt D h v q) : ∃ a c, v = .slice a q.length c := by
  obtain ⟨a, c, h1⟩ := K.rows.shape
  exact ⟨a, c, by simpa using h1⟩
theorem KeepsAt.at_ {D : Nat → Prop} {h : VH} {a : Option Addr} {n c : Nat} {q : List ((List UInt8 × List Int) × Value)} (K : KeepsAt D h (.slice a n c) q) {k : Nat} (hk : k < q.length) :
    ∃ i o, a = some ⟨i, o, none⟩ ∧ i < h.n ∧ eszObj (h.get i) 2 = true ∧ loadObj (h.get i) (o + k * 2) (some 2) = some (.agg #[.string (strB q[k].1.1), q[k].2]) ∧ loadObj (h.get i) (o + k * 2) none = some (.string (strB q[k].1.1)) ∧ loadObj (h.get i) (o + k * 2 + 1) none = some q[k].2 := by
  obtain ⟨a', c', h1, hat⟩ := K.rows
  injection h1 with h1 h2 h3
  subst h1
  obtain ⟨i, o, cs, ow, rfl, h2, h3, h4, h5⟩ := hat (by simp; omega)
  obtain ⟨h6, h7⟩ := h5 k (by simpa using hk)
  have h8 : (cs.drop (o + k * 2)).take 2 = [.string (strB q[k].1.1), q[k].2] := by rw [h7]; simp [rowK]
  refine ⟨i, o, rfl, h2, by rw [h4]; simp [eszObj], ?_, ?_, ?_⟩
  · rw [h4]
    simp only [loadObj]
    rw [if_pos h6, h8]
  · rw [h4]
    show cs[o + k * 2]? = _
    have := congrArg (fun l : List Value => l[0]?) h8
    simpa [List.getElem?_take, List.getElem?_drop] using this
  · rw [h4]
    show cs[o + k * 2 + 1]? = _
    have := congrArg (fun l : List Value => l[1]?) h8
    simpa [List.getElem?_take, List.getElem?_drop] using this
/-- maps of strings: written, read. -/
theorem mget_mput {a b : List UInt8} {v : Value} {c : Nat} : ∀ {es : List Ent}, keysFit .s es = true → mget (.string (strB a)) (mput (.string (strB b)) v c es) = (if a = b then some v else mget (.string (strB a)) es) ∧ keysFit .s (mput (.string (strB b)) v c es) = true
  | [], _ => by
    refine ⟨?_, rfl⟩
    simp only [mput, mget, keq_str, decide_eq_true_eq]
  | e :: r, hk => by
    obtain ⟨k, w, st⟩ := e
    simp only [keysFit, List.all_cons, Bool.and_eq_true] at hk
    have hr : keysFit .s r = true := hk.2
    obtain ⟨h1, h2⟩ := mget_mput (a := a) (b := b) (v := v) (c := c) hr
    cases k with
    | string k =>
      obtain ⟨kl, rfl⟩ : ∃ kl, k = strB kl := ⟨k.data.toList, (strB_of k).symm⟩
      simp only [mput, mget, keq_str, decide_eq_true_eq]
      by_cases hb : b = kl
      · subst hb
        rw [if_pos rfl]
        refine ⟨?_, ?_⟩
        · simp only [mget, keq_str, decide_eq_true_eq]
          split <;> rfl
        · simp only [keysFit, List.all_cons, Bool.and_eq_true]
          exact ⟨rfl, hk.2⟩
      · rw [if_neg hb]
        refine ⟨?_, ?_⟩
        · simp only [mget, keq_str, decide_eq_true_eq, h1]
          by_cases ha : a = kl
          · have : ¬ a = b := fun e => hb (e.symm.trans ha)
            simp [ha, this]
            intro e
            exact absurd e.symm hb
          · simp [ha]
        · simp only [keysFit, List.all_cons, Bool.and_eq_true]
          exact ⟨rfl, h2⟩
    | _ => simp [fitK] at hk

/- disk, part Na: what is wrong of what is kept, walked. -/

def Fault (h : VH) (u : Value) (k : Nat) : Prop := (k = 0 ∧ u = .nilIface) ∨ (k ≠ 0 ∧ ∃ e s, u = .iface 97 (.pointer (some ⟨e, 0, none⟩)) ∧ e < h.n ∧ h.get e = .cells [s, .int .i64 (k : Int)] true 1)
theorem s2_A {a b : Value} {s : ByteArray} {p : Option Addr} {l c : Nat} {e : Nat} : storeObj (.cells [a, b] true e) 0 2 (.agg #[.string s, .slice p l c]) = some (.cells [.string s, .slice p l c] true e) := rfl
def metL (l : List (List UInt8 × List Int)) (n : Nat) : List (List UInt8) := ((l.take n).map (·.1)).reverse
theorem metL_succ {l : List (List UInt8 × List Int)} {n : Nat} (h : n < l.length) : metL l (n + 1) = l[n].1 :: metL l n := by
  unfold metL
  rw [List.take_succ_eq_append_getElem h, List.map_append, List.reverse_append]
  rfl
set_option maxHeartbeats 4000000 in
theorem wrong_ok {D : Nat → Prop} {h : VH} {i j : Nat} {rs : List Rf} {S : Ds} {kv : Value} {q : List ((List UInt8 × List Int) × Value)} (k : Rep h i j rs S) (ok : OkD S) (Q : KeepsAt D h kv q) :
    PCalls Tryz.prog f_disk_Disk_wrong [.pointer (some ⟨i, 0, none⟩), kv] h (fun u h' => Fault h' u (wrongD S.fs [] (q.map (·.1))) ∧ Fr h h' []) := by
  refine PCalls_of_pw st_disk_Disk_wrong (by simp [n_disk_Disk_wrong]) ?_
  rw [b_disk_Disk_wrong]
  unfold B_disk_Disk_wrong
  obtain ⟨clk, hj, hlt⟩ := k.map_
  have hi := k.rec_
  have hu := ok.ord.uni
  have hlen := Q.len
  obtain ⟨a, c, rfl⟩ := Q.shape
  obtain ⟨L, hL⟩ : ∃ L, L = q.length := ⟨_, rfl⟩
  rw [← hL] at Q hlen
  rw [← hL]
  obtain ⟨l, hl⟩ : ∃ l, l = q.map (·.1) := ⟨_, rfl⟩
  have hll : l.length = L := by rw [hl, hL]; simp
  rw [← hl]
  obtain ⟨W, hW⟩ : ∃ W, W = wrongD S.fs [] l := ⟨_, rfl⟩
  rw [← hW]
  simp (disch := first|omega|(simp only [np,ns];try omega)) []
  refine pw_loopN (fun n s g => Fr h g [] ∧ h.n < g.n ∧ s 0 = .pointer (some ⟨i, 0, none⟩) ∧ s 5 = .map (some h.n) ∧ s 11 = .slice a L c ∧ s 12 = .int .i64 (L : Int) ∧ s 13 = .int .i64 (n : Int) ∧ wrongD S.fs (metL l n) (l.drop n) = W ∧
    ∃ es ck, g.get h.n = .map es ck true ∧ keysFit .s es = true ∧ ∀ x, mget (.string (strB x)) es = if x ∈ metL l n then some (.bool true) else none) L ?_ ?_
  · refine ⟨Fr.push _ _ _, by simp, by simp [upd_apply, s0_apply], by simp [upd_apply], by simp [upd_apply, s0_apply], by simp [upd_apply], by simp [upd_apply], by simpa [metL] using hW.symm, [], 0, by simp, rfl, fun x => by simp [metL, mget]⟩
  rintro n s g hn ⟨F, hgn, e0, e5, e11, e12, e13, hw, es, ck, hm, hkf, hmet⟩
  by_cases hltn : n < L
  case neg =>
    obtain rfl : n = L := by omega
    have hz : W = 0 := by rw [← hw, List.drop_of_length_le (by omega)]; rfl
    simp (disch := first|omega|(simp only [np,ns];try omega)) [r_disk_Disk_wrong, e12, e13]
    exact ⟨.inl ⟨hz, rfl⟩, F⟩
  have hltI : (n : Int) < (L : Int) := by omega
  have hkk : IntKind.i64.wrap ((n : Int) + 1) = ((n + 1 : Nat) : Int) := by rw [i64_small (by omega) (by omega)]; omega
  have Qg := Q.fr0 F
  obtain ⟨ia, oa, rfl, hia, hez, hld, _, _⟩ := Qg.at_ (k := n) (by omega)
  have hln : n < l.length := by omega
  have hlq : l[n] = (q[n]'(by omega)).1 := by simp [hl]
  obtain ⟨nm, hnm⟩ : ∃ nm, nm = (q[n]'(by omega)).1.1 := ⟨_, rfl⟩
  obtain ⟨zs, hzs⟩ : ∃ zs, zs = (q[n]'(by omega)).1.2 := ⟨_, rfl⟩
  obtain ⟨nv, hnv⟩ : ∃ nv, nv = (q[n]'(by omega)).2 := ⟨_, rfl⟩
  have hI := Qg.ints (q[n]'(by omega)) (List.getElem_mem _)
  rw [← hnm, ← hnv] at hld
  rw [← hnv, ← hzs] at hI
  obtain ⟨na, nc, hns⟩ := hI.shape
  rw [hns] at hld hI
  have hln2 : l[n] = (nm, zs) := by rw [hlq, hnm, hzs]
  have hwd : wrongD S.fs (metL l n) ((nm, zs) :: l.drop (n + 1)) = W := by rw [← hw, ← hln2, ← List.drop_eq_getElem_cons hln]
  have hms : metL l (n + 1) = nm :: metL l n := by rw [metL_succ hln, hln2]
  obtain ⟨M, hM⟩ : ∃ M, M = zs.length := ⟨_, rfl⟩
  rw [← hM] at hld hI
  obtain ⟨g1, hg1⟩ : ∃ g1, g1 = (g.push (.cells [.string ⟨#[]⟩, .slice none 0 0] true 1)).set g.n (.cells [.string (strB nm), .slice na M nc] true 1) := ⟨_, rfl⟩
  have F1 : Fr g g1 [] := by rw [hg1]; exact Fr_set (Fr_push (Fr.refl _ _)) (Nat.le_refl _)
  have c1 : g1.get g.n = .cells [.string (strB nm), .slice na M nc] true 1 := by rw [hg1, VH.get_set_same]
  have n1 : g1.n = g.n + 1 := by rw [hg1]; rfl
  have k1 := (k.fr0 F).fr0 F1
  have hi1 := k1.rec_
  have hj1 : g1.get j = .map (rs.map entF) clk true := (F1.get _ (by have := F.n; have := k.ltj; omega) (by simp)).trans ((F.get _ k.ltj (by simp)).trans hj)
  have m1 : g1.get h.n = .map es ck true := (F1.get _ hgn (by simp)).trans hm
  have I1 := hI.fr F1 (fun _ _ => by simp)
  have FA : Fr h g1 [] := F.trans F1
  simp (disch := first|omega|(simp only [np,ns];try omega)) [e0, e5, e11, e12, e13, hltI, hltn, hez, hld, s2_A, ← hg1, c1, l2_0]
  cases hfd : findF nm S.fs with
  | none =>
    have hmm := k.getN hu hfd
    have hW5 : W = 5 := by rw [← hwd]; simp [wrongD, hfd]
    refine (find_none hi1 hj1 keys_rs hmm).mono ?_
    rintro u g' ⟨rfl, hg'⟩
    rw [hg']
    simp (disch := first|omega|(simp only [np,ns];try omega)) [r_disk_Disk_wrong]
    exact ⟨.inr ⟨by omega, g1.n, _, rfl, by simp, by rw [VH.get_push_new, hW5]; rfl⟩, Fr_push FA⟩
  | some f =>
    obtain ⟨ra, r, rb, hrs, hrf, hmm⟩ := k.getS hu hfd
    refine (find_some hi1 hj1 keys_rs hmm).mono ?_
    rintro u g' ⟨rfl, hg'⟩
    rw [hg']
    have T := k1.fil r (by simp [hrs])
    have hr := T.rec_
    obtain ⟨sa, sc, hsv⟩ := T.safe.shape
    obtain ⟨ma, mc, hmv⟩ := T.more.shape
    obtain ⟨V, hV⟩ : ∃ V, V = r.f.ws.length := ⟨_, rfl⟩
    rw [hsv, hmv, ← hV] at hr
    have hfit : fitK .s (.string (strB nm)) = true := rfl
    have hmn := hmet nm
    have hVf : V = f.ws.length := by rw [hV, hrf]
    by_cases hmem : nm ∈ metL l n
    · have hW6 : W = 6 := by rw [← hwd]; simp [wrongD, hfd, hmem]
      rw [if_pos hmem] at hmn
      have hmv2 : mval false (.bool false) (some (.bool true)) = .bool true := rfl
      have hfi : fillC [.string ⟨#[]⟩, .int .i64 0] [(0, 1, .string (strB nm)), (1, 1, .int .i64 6)] = some [.string (strB nm), .int .i64 6] := rfl
      simp (disch := first|omega|(simp only [np,ns];try omega)) [r_disk_Disk_wrong, e5, c1, l2_0, m1, hfit, hkf, hmn, hmv2, hfi]
      exact ⟨.inr ⟨by omega, g1.n, _, rfl, by simp, by rw [VH.get_push_new, hW6]; rfl⟩, Fr_push FA⟩
    rw [if_neg hmem] at hmn
    have hmv2 : mval false (.bool false) none = .bool false := rfl
    have hfi : fillC [.string ⟨#[]⟩, .int .i64 0] [(0, 1, .string (strB nm)), (1, 1, .int .i64 1)] = some [.string (strB nm), .int .i64 1] := rfl
    by_cases hVM : V < M
    · have hW1 : W = 1 := by rw [← hwd]; simp [wrongD, hfd, hmem, ← hVf, ← hM, hVM]
      have hVMI : (V : Int) < (M : Int) := by omega
      simp (disch := first|omega|(simp only [np,ns];try omega)) [r_disk_Disk_wrong, e5, c1, l2_0, l2_1, m1, hfit, hkf, hmn, hmv2, hr, hVMI, hVM, hfi]
      exact ⟨.inr ⟨by omega, g1.n, _, rfl, by simp, by rw [VH.get_push_new, hW1]; rfl⟩, Fr_push FA⟩
    have hVMI : ¬ (V : Int) < (M : Int) := by omega
    simp (disch := first|omega|(simp only [np,ns];try omega)) [e5, c1, l2_0, l2_1, m1, hfit, hkf, hmn, hmv2, hr, hVMI, hVM]
    refine (contains_ok I1).mono ?_
    rintro u g'' ⟨rfl, hg''⟩
    rw [hg'']
    cases hneg : zs.any (· < 0) with
    | true =>
      have hW1 : W = 1 := by rw [← hwd]; simp only [wrongD, hfd, hmem, if_false]; rw [if_pos (.inr hneg)]
      simp (disch := first|omega|(simp only [np,ns];try omega)) [r_disk_Disk_wrong, c1, l2_0, hfi]
      exact ⟨.inr ⟨by omega, g1.n, _, rfl, by simp, by rw [VH.get_push_new, hW1]; rfl⟩, Fr_push FA⟩
    | false =>
      have hwn : wrongD S.fs (metL l (n + 1)) (l.drop (n + 1)) = W := by
        rw [hms, ← hwd]
        simp only [wrongD, hfd, hmem, if_false]
        rw [if_neg]
        rintro (h1 | h1)
        · omega
        · rw [hneg] at h1; cases h1
      obtain ⟨es', hes'⟩ : ∃ es', es' = mput (.string (strB nm)) (.bool true) ck es := ⟨_, rfl⟩
      obtain ⟨ck', hck'⟩ : ∃ ck', ck' = mtick (.string (strB nm)) ck es := ⟨_, rfl⟩
      simp (disch := first|omega|(simp only [np,ns];try omega)) [c1, l2_0, e0, e5, e11, e12, e13, m1, hfit, hkf, ← hes', ← hck', hkk]
      refine ⟨hltn, Fr_set FA (Nat.le_refl _), by omega, hwn, by rw [hes']; exact (mget_mput (a := nm) hkf).2, fun x => ?_⟩
      rw [hes', (mget_mput hkf).1, hmet x, hms]
      by_cases hx : x = nm
      · simp [hx]
      · simp [hx]

/- disk, part O: what a crash leaves of a file. -/

theorem crashL_nil (b : List UInt8) (n : Nat) (l : List (List UInt8)) : crashL b n l [] = b := by cases l <;> rfl
theorem crashL_cons (b : List UInt8) (n : Nat) (w : List UInt8) (r : List (List UInt8)) (z : Int) (zs : List Int) : crashL b n (w :: r) (z :: zs) = if z = 0 then crashL b (n + w.length) r zs else crashL (b ++ List.replicate (n - b.length) 0 ++ w.take z.toNat) (n + w.length) r zs := rfl
theorem drop_of {α : Type} {l : List α} {n : Nat} {x : α} (h : l[n]? = some x) : l.drop n = x :: l.drop (n + 1) := by
  obtain ⟨h1, h2⟩ := List.getElem?_eq_some_iff.1 h
  rw [List.drop_eq_getElem_cons h1, h2]
/-- where a file's crash stands, n writes behind. -/
def CrJ (h g : VH) (r : Rf) (mv : Value) (A : Nat) (zs : List Int) (B : List UInt8) (n : Nat) : Prop := ∃ sv b, g.get r.it = .cells [sv, mv] true 1 ∧ OwnP g 1 sv (u8s b) b.length ∧ Fr h g (r.it :: idOf r.sv) ∧ (∀ x ∈ idOf sv, x ∈ idOf r.sv ∨ h.n ≤ x) ∧ b.length ≤ A + upto r.f.ws n ∧ crashL b (A + upto r.f.ws n) (r.f.ws.drop n) (zs.drop n) = B
set_option maxHeartbeats 8000000 in
theorem crash_ok {h : VH} {r : Rf} {nv : Value} {zs : List Int} (T : FilAt h r) (o : OkF r.f) (hnd : (fpF r).Nodup) (hrd : ∀ x ∈ rdF r, x ∉ fpF r) (I : IntsAt h nv zs) (hIx : ∀ x ∈ idOf nv, x ∉ fpF r) (hnn : ∀ z ∈ zs, 0 ≤ z) :
    PCalls Tryz.prog f_disk_file_crash [.pointer (some ⟨r.it, 0, none⟩), nv] h (fun u h' => u = .tuple #[] ∧ ∃ sv', h'.get r.it = .cells [sv', .slice none 0 0] true 1 ∧ OwnP h' 1 sv' (u8s (crashL r.f.s r.f.s.length r.f.ws zs)) (crashL r.f.s r.f.s.length r.f.ws zs).length ∧ Fr h h' (fpF r) ∧ ∀ x ∈ idOf sv', x ∈ idOf r.sv ∨ h.n ≤ x) := by
  refine PCalls_of_pw st_disk_file_crash (by simp [n_disk_file_crash]) ?_
  rw [b_disk_file_crash]
  unfold B_disk_file_crash
  have hr := T.rec_
  have hlt := T.lt
  have hwl := T.wl
  have osz := o.sz
  have owl := o.wl
  have hne := o.ne
  simp only [fpF, List.nodup_cons, List.nodup_append, List.mem_append, not_or] at hnd
  obtain ⟨⟨d1, d2⟩, d3, d4, d5⟩ := hnd
  obtain ⟨na, nc, rfl⟩ := I.shape
  obtain ⟨M, hM⟩ : ∃ M, M = zs.length := ⟨_, rfl⟩
  rw [← hM] at I hIx
  rw [← hM]
  obtain ⟨ma, mc, hmv⟩ := T.more.shape
  have mseq := T.more.seq
  have hwr := T.wr
  obtain ⟨W, hW⟩ : ∃ W, W = r.f.ws.length := ⟨_, rfl⟩
  obtain ⟨A, hA⟩ : ∃ A, A = r.f.s.length := ⟨_, rfl⟩
  rw [hmv, ← hW] at hr
  rw [← hW, hmv, ← hW] at mseq
  have hsafe := T.safe
  obtain ⟨B, hB⟩ : ∃ B, B = crashL r.f.s r.f.s.length r.f.ws zs := ⟨_, rfl⟩
  rw [← hB]
  obtain ⟨sa0, sc0, hsv0⟩ := hsafe.shape
  have htot : A + upto r.f.ws W = r.f.all.length := by rw [hW, upto_all, hA]; simp [Fl.all]
  have hmono : ∀ k, k ≤ W → upto r.f.ws k ≤ upto r.f.ws W := fun k hk => upto_mono hk
  simp (disch := first|omega|(simp only [np,ns];try omega)) [hr, l2_1]
  refine pw_loopN (fun n s g => s 0 = .pointer (some ⟨r.it, 0, none⟩) ∧ s 1 = .slice na M nc ∧ s 9 = .slice ma W mc ∧ s 10 = .int .i64 (W : Int) ∧ s 11 = .int .i64 (n : Int) ∧ CrJ h g r (.slice ma W mc) A zs B n) W ?_ ?_
  · exact ⟨by simp [upd_apply, s0_apply], by simp [upd_apply, s0_apply], by simp [upd_apply], by simp [upd_apply], by simp [upd_apply], r.sv, r.f.s, hr, hsafe, Fr.refl _ _, fun x hx => .inl hx, by rw [hA]; omega, by rw [hB]; simp [upto, hA]⟩
  rintro n s g hn ⟨e0, e1, e9, e10, e11, sv, b, hrg, ho, F, hid, hbl, hcl⟩
  have hFn := F.n
  by_cases hltn : n < W
  case neg =>
    obtain rfl : n = W := by omega
    have hb : b = B := by rw [← hcl, hW, List.drop_of_length_le (Nat.le_refl _)]; rfl
    obtain ⟨g2, hg2⟩ : ∃ g2, g2 = g.set r.it (.cells [sv, .slice none 0 0] true 1) := ⟨_, rfl⟩
    have f2 : Fr g g2 [r.it] := by rw [hg2]; exact Fr.set _ _ (by simp)
    simp (disch := first|omega|(simp only [np,ns];try omega)) [r_disk_file_crash, e0, e1, e9, e10, e11, hrg, s2_1s, ← hg2]
    refine ⟨sv, by rw [hg2, VH.get_set_same], ?_, ?_, hid⟩
    · rw [← hb]
      exact ho.fr f2 (fun x hx hxi => by
        simp at hxi; subst hxi
        rcases hid _ hx with h1 | h1
        · exact d1 h1
        · omega)
    · exact (F.sub (fun x hx => by simp [fpF] at hx ⊢; rcases hx with hx | hx <;> simp [hx])).trans (f2.sub (by simp [fpF]))
  have hltI : (n : Int) < (W : Int) := by omega
  have hkk : IntKind.i64.wrap ((n : Int) + 1) = ((n + 1 : Nat) : Int) := by rw [i64_small (by omega) (by omega)]; omega
  rcases mseq with ⟨_, _, h0⟩ | ⟨i, q, c, ds, ow2, hi, hc, hv, hgi, hdr, hol⟩
  · exfalso; omega
  injection hv with hv1 hv2 hv3
  subst hv1
  have hmvi : i ∈ idOf r.mv := by rw [hmv]; simp [idOf]
  have hix : i ∉ r.it :: idOf r.sv := by
    intro hx
    rcases List.mem_cons.1 hx with hx | hx
    · subst hx; exact d2 hmvi
    · exact d5 i hx i hmvi rfl
  have hgi' : g.get i = .cells ds ow2 2 := (F.get i hi hix).trans hgi
  have hld := more_ld (c := 0) hgi' (by rw [← hW]; exact hdr) hwl (k := n) (by omega)
  obtain ⟨w, hw⟩ : ∃ w, w = r.f.ws.getD n [] := ⟨_, rfl⟩
  have hws : r.f.ws[n]? = some w := by rw [hw]; simp [List.getD, List.getElem?_eq_getElem (show n < r.f.ws.length by omega)]
  have hvs : r.wv[n]? = some (r.wv.getD n .nilFunc) := by simp [List.getD, List.getElem?_eq_getElem (show n < r.wv.length by omega)]
  have hwne := hne w (List.mem_of_getElem? hws)
  have hwpos := List.length_pos_iff.2 hwne
  have sq := hwr n _ w hvs hws
  have hwx : ∀ x ∈ idOf (r.wv.getD n .nilFunc), x ∉ fpF r := fun x hx => hrd x (rdF_mem hvs x hx)
  rcases sq with ⟨_, h1, _⟩ | ⟨qi, qo, qc, qs, qow, hqi, hqc, hqv, hqg, hqd, hqo⟩
  · cases w with
    | nil => exact absurd rfl hwne
    | cons _ _ => simp [u8s] at h1
  rw [hqv] at hld hwx
  have hqx : qi ∉ fpF r := hwx qi (by simp [idOf])
  have hup := upto_succ (ws := r.f.ws) (k := n) (by omega)
  rw [← hw] at hup
  have hbb := hmono (n + 1) (by omega)
  obtain ⟨p, hpp⟩ : ∃ p, p = A + upto r.f.ws n := ⟨_, rfl⟩
  rw [← hA, ← hpp, hgi'] at hld
  rw [← hpp] at hbl hcl
  have hup2 : A + upto r.f.ws (n + 1) = p + w.length := by omega
  obtain ⟨Lw, hLw⟩ : ∃ Lw, Lw = w.length := ⟨_, rfl⟩
  rw [← hLw] at hld hqc hqd hqo hwpos hup hup2
  have hdw := drop_of hws
  rw [hdw] at hcl
  obtain ⟨g1, hg1⟩ : ∃ g1, g1 = (g.push (.cells [.int .i64 0, .slice none 0 0] true 1)).set g.n (.cells [.int .i64 (p : Int), .slice (some ⟨qi, qo, none⟩) Lw qc] true 1) := ⟨_, rfl⟩
  have f1 : Fr g g1 [] := by rw [hg1]; exact Fr_set (Fr_push (Fr.refl _ _)) (Nat.le_refl _)
  have n1 : g1.n = g.n + 1 := by rw [hg1]; rfl
  have c1 : g1.get g.n = .cells [.int .i64 (p : Int), .slice (some ⟨qi, qo, none⟩) Lw qc] true 1 := by rw [hg1, VH.get_set_same]
  have F1 : Fr h g1 (r.it :: idOf r.sv) := F.trans (f1.sub (by simp))
  have hr1 : g1.get r.it = .cells [sv, .slice (some ⟨i, q, none⟩) W mc] true 1 := (f1.get _ (by omega) (by simp)).trans hrg
  have ho1 := ho.fr f1 (fun _ _ => by simp)
  have I1 : IntsAt g1 (.slice na M nc) zs := I.fr F1 (fun x hx hxX => hIx x hx (by simp [fpF] at hxX ⊢; rcases hxX with h | h <;> simp [h]))
  have skip : ∀ (s2 : Slots), s2 0 = .pointer (some ⟨r.it, 0, none⟩) → True := fun _ _ => trivial
  by_cases hnM : n < M
  case neg =>
    have hnMI : (M : Int) ≤ (n : Int) := by omega
    have hnM' : M ≤ n := by omega
    have hz0 : zs.drop n = [] := List.drop_of_length_le (by omega)
    have hz1 : zs.drop (n + 1) = [] := List.drop_of_length_le (by omega)
    have hbB : b = B := by rw [← hcl, hz0, crashL_nil]
    simp (disch := first|omega|(simp only [np,ns];try omega)) [e0, e1, e9, e10, e11, hltI, hltn, hgi', hld, st2, ← hg1, hnMI, hnM', hkk]
    refine ⟨sv, b, hr1, ho1, F1, hid, by omega, by rw [hz1, crashL_nil]; exact hbB⟩
  have hnMI : ¬ (M : Int) ≤ (n : Int) := by omega
  have hnM' : ¬ M ≤ n := by omega
  obtain ⟨ia, oa, rfl, hia, hez, hzld⟩ := I1.at_ (k := n) (by omega)
  obtain ⟨z, hz⟩ : ∃ z, z = zs.getD n 0 := ⟨_, rfl⟩
  have hzs : zs[n]? = some z := by rw [hz]; simp [List.getD, List.getElem?_eq_getElem (show n < zs.length by omega)]
  have hz0 := hnn z (List.mem_of_getElem? hzs)
  rw [← hz] at hzld
  rw [drop_of hzs, crashL_cons, ← hLw] at hcl
  by_cases hzz : z = 0
  · rw [if_pos hzz] at hcl
    subst hzz
    simp (disch := first|omega|(simp only [np,ns];try omega)) [e0, e1, e9, e10, e11, hltI, hltn, hgi', hld, st2, ← hg1, hnMI, hnM', hez, hzld, hkk]
    exact ⟨sv, b, hr1, ho1, F1, hid, by omega, by rw [hup2]; exact hcl⟩
  rw [if_neg hzz] at hcl
  have hzz' : (z == 0) = false := by simp [hzz]
  obtain ⟨d, hd⟩ : ∃ d, d = p - b.length := ⟨_, rfl⟩
  rw [← hd] at hcl
  obtain ⟨m, hm⟩ : ∃ m : Nat, m = if (Lw : Int) < z then Lw else z.toNat := ⟨_, rfl⟩
  have hmL : m ≤ Lw := by rw [hm]; split <;> omega
  have hmin : (if (Lw : Int) < z then (Lw : Int) else z) = (m : Int) := by
    rw [hm]
    split
    · rfl
    · omega
  have htk : w.take z.toNat = w.take m := by
    rw [hm]
    split
    · rw [List.take_of_length_le (by omega), List.take_of_length_le (by omega)]
    · rfl
  rw [htk] at hcl
  obtain ⟨bl, hbl2⟩ : ∃ bl, bl = b.length := ⟨_, rfl⟩
  have hsub : IntKind.i64.wrap ((p : Int) - (bl : Int)) = (d : Int) := by rw [i64_small (by omega) (by omega)]; omega
  obtain ⟨sv1, g2, hap1, ho2, f2, hid2⟩ := ho1.append (bytes := 1) (ys := u8s (List.replicate d 0)) (k := d) (by simp) (by omega)
  have hmade : madeRow [.int .u8 0] d = u8s (List.replicate d 0) := by simp [madeRow, u8s]
  obtain ⟨sa, sc, hsv⟩ := ho1.shape
  obtain ⟨sa1, sc1, hsv1⟩ := ho2.shape
  rw [← u8s_append] at ho2
  have hn2 := f2.n
  have hitsv : r.it ∉ idOf sv := fun h => (hid _ h).elim d1 (fun h1 => by omega)
  have hr2 : g2.get r.it = .cells [sv, .slice (some ⟨i, q, none⟩) W mc] true 1 := (f2.get _ (by omega) hitsv).trans hr1
  have hsvn : g.n ∉ idOf sv := fun h => by have := ho.lt _ h; omega
  have c2 : g2.get g.n = .cells [.int .i64 (p : Int), .slice (some ⟨qi, qo, none⟩) Lw qc] true 1 := (f2.get _ (by omega) hsvn).trans c1
  have hiasv : ia ∉ idOf sv := fun h => by
    rcases hid _ h with h1 | h1
    · exact hIx ia (by simp [idOf]) (by simp [fpF, h1])
    · have := I.1
      obtain ⟨i', o', h2, h3, _⟩ := I.at_ (k := n) (by omega)
      injection h2 with h2
      injection h2 with h2
      omega
  obtain ⟨g3, hg3⟩ : ∃ g3, g3 = g2.set r.it (.cells [sv1, .slice (some ⟨i, q, none⟩) W mc] true 1) := ⟨_, rfl⟩
  have f3 : Fr g2 g3 [r.it] := by rw [hg3]; exact Fr.set _ _ (by simp)
  have n3 : g3.n = g2.n := by rw [hg3]; rfl
  have hr3 : g3.get r.it = .cells [sv1, .slice (some ⟨i, q, none⟩) W mc] true 1 := by rw [hg3, VH.get_set_same]
  have hid1 : ∀ x ∈ idOf sv1, x ∈ idOf r.sv ∨ h.n ≤ x := fun x hx => (hid2 x hx).elim (hid x) (fun h1 => .inr (by omega))
  have hitsv1 : r.it ∉ idOf sv1 := fun h => (hid1 _ h).elim d1 (fun h1 => by omega)
  have ho3 := ho2.fr f3 (fun x hx hxi => by simp at hxi; subst hxi; exact hitsv1 hx)
  have hnit : g.n ≠ r.it := by omega
  have c3 : g3.get g.n = .cells [.int .i64 (p : Int), .slice (some ⟨qi, qo, none⟩) Lw qc] true 1 := (f3.get _ (by omega) (by simpa using hnit)).trans c2
  have hiit : ia ≠ r.it := fun e => hIx ia (by simp [idOf]) (by simp [fpF, e])
  have hz3 : g3.get ia = g1.get ia := (f3.get _ (by omega) (by simpa using hiit)).trans (f2.get _ hia hiasv)
  have F3 : Fr h g3 (r.it :: idOf r.sv) := by
    refine (F1.trans' f2 (fun y hy => ?_)).trans (f3.sub (by simp))
    rcases hid y hy with h1 | h1
    · exact .inl (by simp [h1])
    · exact .inr h1
  have hqg3 : g3.get qi = .cells qs qow 1 := by
    rw [F3.get _ hqi (fun hx => hqx (by simp [fpF] at hx ⊢; rcases hx with h | h <;> simp [h]))]
    exact hqg
  have hez3 : eszObj (.cells qs qow 1) 1 = true := rfl
  have hrow : rowObj (.cells qs qow 1) qo m = some (u8s (w.take m)) := by
    simp only [rowObj]
    rw [if_pos (by omega)]
    have : u8s (w.take m) = (u8s w).take m := by simp [u8s, List.map_take]
    rw [this, ← hqd, List.take_take]
    congr 2
    omega
  have hmLI : (0 : Int) ≤ (m : Int) ∧ (m : Int) ≤ (qc : Int) := by omega
  obtain ⟨b1, hb1⟩ : ∃ b1, b1 = b ++ List.replicate d 0 := ⟨_, rfl⟩
  rw [← hb1] at ho3 hcl ho2
  have hb1l : b1.length = bl + d := by rw [hb1, hbl2]; simp
  obtain ⟨sv2, g4, hap2, ho4, f4, hid4⟩ := ho3.append (bytes := 1) (ys := u8s (w.take m)) (k := m) (by simp; omega) (by omega)
  rw [← u8s_append] at ho4
  have hn4 := f4.n
  obtain ⟨sa2, sc2, hsv2⟩ := ho4.shape
  have hr4 : g4.get r.it = .cells [sv1, .slice (some ⟨i, q, none⟩) W mc] true 1 := (f4.get _ (by omega) hitsv1).trans hr3
  obtain ⟨g5, hg5⟩ : ∃ g5, g5 = g4.set r.it (.cells [sv2, .slice (some ⟨i, q, none⟩) W mc] true 1) := ⟨_, rfl⟩
  have f5 : Fr g4 g5 [r.it] := by rw [hg5]; exact Fr.set _ _ (by simp)
  have hid5 : ∀ x ∈ idOf sv2, x ∈ idOf r.sv ∨ h.n ≤ x := fun x hx => (hid4 x hx).elim (hid1 x) (fun h1 => .inr (by omega))
  have hfin : CrJ h g5 r (.slice (some ⟨i, q, none⟩) W mc) A zs B (n + 1) := by
    refine ⟨sv2, b1 ++ w.take m, by rw [hg5, VH.get_set_same], ?_, ?_, hid5, ?_, by rw [hup2]; exact hcl⟩
    · have e : (b1 ++ w.take m).length = b1.length + m := by simp; omega
      have e2 : b.length + d = b1.length := by omega
      rw [e, ← e2]
      exact ho4.fr f5 (fun x hx hxi => by simp at hxi; subst hxi; exact (hid5 _ hx).elim d1 (fun h1 => by omega))
    · refine (F3.trans' f4 (fun y hy => ?_)).trans (f5.sub (by simp))
      rcases hid1 y hy with h1 | h1
      · exact .inl (by simp [h1])
      · exact .inr h1
    · rw [hup2, List.length_append, List.length_take]; omega
  rw [hsv] at hap1 hr1 hr2
  have hbd : (b ++ List.replicate d (0 : UInt8)).length = bl + d := by rw [← hb1]; exact hb1l
  rw [← hbl2] at hap1 hr1 hr2 hsv1
  rw [hsv1] at hap1 hg3 hap2 hr3 hr4
  have hsv2 : sv2 = .slice sa2 (bl + d + m) sc2 := by rw [hsv2, ← hbl2]
  rw [hsv2] at hap2 hg5
  have hzld3 : loadObj (g3.get ia) (oa + n) none = some (.int .i64 z) := by rw [hz3]; exact hzld
  have hezz3 : eszObj (g3.get ia) 1 = true := by rw [hz3]; exact hez
  simp (disch := first|omega|(simp only [np,ns];try omega)) [e0, e1, e9, e10, e11, hltI, hltn, hgi', hld, st2, ← hg1, hnMI, hnM', hez, hzld, hzz', hkk, hr1, l2_0, l2_1, c1, hsub, hmade, hap1, hr2, s2_0s, ← hg3, hr3, c3, hezz3, hzld3, hmin, hqg3, hez3, hmLI, hrow, Option.bind_some, hap2, hr4, ← hg5]
  exact hfin

/- disk, part P: Crash. -/

theorem keepOf_succ {x : List UInt8} {l : List (List UInt8 × List Int)} {n : Nat} (h : n < l.length) : keepOf x (l.take (n + 1)) = if l[n].1 = x then l[n].2 else keepOf x (l.take n) := by
  unfold keepOf
  rw [List.take_succ_eq_append_getElem h, List.foldl_append]
  rfl
theorem wrongD_zero {fs : List Fl} : ∀ {l : List (List UInt8 × List Int)} {met : List (List UInt8)}, wrongD fs met l = 0 → ∀ p ∈ l, ∀ z ∈ p.2, 0 ≤ z
  | [], _, _, p, hp => by cases hp
  | (nm, zs) :: r, met, h, p, hp => by
    simp only [wrongD] at h
    split at h
    · omega
    · split at h
      · omega
      · split at h
        · omega
        · rename_i hn
          rcases List.mem_cons.1 hp with rfl | hp
          · intro z hz
            have h1 : ¬ zs.any (· < 0) = true := fun e => hn (.inr e)
            rw [List.any_eq_true] at h1
            have : ¬ z < 0 := fun hl => h1 ⟨z, hz, by simpa using hl⟩
            omega
          · exact wrongD_zero h p hp
/-- the map of what is kept: what is found in it. -/
def KMap (q : List ((List UInt8 × List Int) × Value)) (n : Nat) (es : List Ent) : Prop := keysFit .s es = true ∧ ∀ x, (mval false (.slice none 0 0) (mget (.string (strB x)) es) = .slice none 0 0 ∧ keepOf x ((q.map (·.1)).take n) = []) ∨ ∃ p ∈ q, mval false (.slice none 0 0) (mget (.string (strB x)) es) = p.2 ∧ keepOf x ((q.map (·.1)).take n) = p.1.2
theorem KMap.nil (q : List ((List UInt8 × List Int) × Value)) : KMap q 0 [] := ⟨rfl, fun x => .inl ⟨rfl, rfl⟩⟩
theorem KMap.put {q : List ((List UInt8 × List Int) × Value)} {n ck : Nat} {es : List Ent} (K : KMap q n es) (h : n < q.length) : KMap q (n + 1) (mput (.string (strB q[n].1.1)) q[n].2 ck es) := by
  refine ⟨(mget_mput (a := []) K.1).2, fun x => ?_⟩
  rw [(mget_mput K.1).1, keepOf_succ (by simpa using h)]
  by_cases hx : x = q[n].1.1
  · refine .inr ⟨q[n], List.getElem_mem h, ?_, ?_⟩
    · rw [if_pos hx]; rfl
    · rw [if_pos (by simp [hx])]; simp
  · rw [if_neg hx, if_neg (by simpa using fun e => hx e.symm)]
    exact K.2 x
/-- the files behind so many crashes. -/
def crF (dn : List Rf) (l : List (List UInt8 × List Int)) (f : Fl) : Fl := if f.nm ∈ dn.map (·.f.nm) then crashF f (keepOf f.nm l) else f
theorem crF_nm (dn : List Rf) (l : List (List UInt8 × List Int)) (f : Fl) : (crF dn l f).nm = f.nm := by unfold crF; split <;> rfl
theorem setF_crF {dn : List Rf} {l : List (List UInt8 × List Int)} {x : Rf} : ∀ {fs : List Fl}, Uni fs → x.f ∈ fs → setF (crashF x.f (keepOf x.f.nm l)) (fs.map (crF dn l)) = fs.map (crF (dn ++ [x]) l)
  | [], _, h => by cases h
  | f :: r, hu, h => by
    simp only [Uni, List.map_cons, List.nodup_cons] at hu
    simp only [List.map_cons, setF, crF_nm]
    have hne : ∀ y ∈ r, y.nm ≠ f.nm := fun y hy e => hu.1 (e ▸ List.mem_map_of_mem (f := fun f : Fl => f.nm) hy)
    by_cases hf : f.nm = x.f.nm
    · have hfx : f = x.f := by
        rcases List.mem_cons.1 h with h | h
        · exact h.symm
        · exact absurd hf.symm (hne _ h)
      rw [if_pos (by show f.nm = x.f.nm; exact hf)]
      congr 1
      · unfold crF
        rw [if_pos (by simp [hf]), hfx]
      · refine List.map_congr_left fun y hy => ?_
        unfold crF
        have : ¬ y.nm = x.f.nm := by rw [← hf]; exact hne y hy
        simp [this]
    · have hr : x.f ∈ r := by
        rcases List.mem_cons.1 h with h | h
        · exact absurd (by rw [h]) hf
        · exact h
      rw [if_neg (by show ¬ f.nm = x.f.nm; exact hf), setF_crF hu.2 hr]
      congr 1
      unfold crF
      simp [hf]
theorem crF_ok {dn : List Rf} {l : List (List UInt8 × List Int)} {fs : List Fl} (hu : Uni fs) : Uni (fs.map (crF dn l)) := by
  have : (fs.map (crF dn l)).map (·.nm) = fs.map (·.nm) := by
    rw [List.map_map]
    exact List.map_congr_left fun f _ => crF_nm dn l f
  unfold Uni
  rw [this]; exact hu
/-- where the range over the files stands; t: how many are to come. -/
def CraJ (g2 : VH) (i j qq clk : Nat) (rs : List Rf) (S : Ds) (l : List (List UInt8 × List Int)) (t : Nat) (g : VH) : Prop :=
  ∃ dn td rc, t = td.length ∧ (dn ++ td).Perm rs ∧ Fr g2 g (fpS i j rs) ∧ qq < g.n ∧ g.get qq = .miter (some j) clk (dn.map fun r => (entF r).2.2) clk ∧ g.get j = .map (rs.map entF) clk true ∧ Rep g i j rc { S with fs := S.fs.map (crF dn l) } ∧ rc.map entF = rs.map entF ∧
    (∀ r ∈ td, r ∈ rc) ∧ (∀ x ∈ fpS i j rc, x ∈ fpS i j rs ∨ qq < x) ∧ ∀ x ∈ rdS rc, x ∈ rdS rs
set_option maxHeartbeats 8000000 in
theorem dcrash_ok {D : Nat → Prop} {h : VH} {i : Nat} {S : Ds} {X R : List Nat} {n : Nat} {kv : Value} {q : List ((List UInt8 × List Int) × Value)} (G : GOK h) (K : DkAt h i S X R) (ok : OkN n S) (hX : ∀ x ∈ X, ¬ D x) (Q : KeepsAt D h kv q) :
    PCalls Tryz.prog f_disk_Disk_Crash [.pointer (some ⟨i, 0, none⟩), kv] h (fun u h' => u = .int .i64 ((craD S (q.map (·.1))).1 : Int) ∧ DkP h i X R (craD S (q.map (·.1))).2 h') := by
  refine PCalls_of_pw st_disk_Disk_Crash (by simp [n_disk_Disk_Crash]) ?_
  rw [b_disk_Disk_Crash]
  unfold B_disk_Disk_Crash
  have K0 := K
  obtain ⟨j, rs, rfl, rfl, k⟩ := K
  obtain ⟨clk, hj, hlt⟩ := k.map_
  have hi := k.rec_
  have hu := ok.ok.ord.uni
  have hlen := Q.len
  obtain ⟨a, c, rfl⟩ := Q.shape
  obtain ⟨L, hL⟩ : ∃ L, L = q.length := ⟨_, rfl⟩
  obtain ⟨l, hl⟩ : ∃ l, l = q.map (·.1) := ⟨_, rfl⟩
  obtain ⟨W, hW⟩ : ∃ W, W = wrongD S.fs [] l := ⟨_, rfl⟩
  simp (disch := first|omega|(simp only [np,ns];try omega)) []
  refine (wrong_ok k ok.ok Q).mono ?_
  rintro u gw ⟨hfault, Fw⟩
  rw [← hl] at hfault ⊢
  rw [← hW] at hfault
  have Gw := G.fr0 Fw
  rcases hfault with ⟨hW0, rfl⟩ | ⟨hW0, e, s, rfl, hen, hec⟩
  case inr =>
    have hs : craD S l = (W, S) := by unfold craD; rw [← hW, if_neg hW0]
    simp (disch := first|omega|(simp only [np,ns];try omega)) []
    refine (told_ok Gw hec rfl).mono ?_
    rintro u g ⟨rfl, hg⟩
    rw [hg]
    simp (disch := first|omega|(simp only [np,ns];try omega)) [r_disk_Disk_Crash, hs]
    exact DkP.same K0 Fw
  have hs : craD S l = (0, { S with fs := S.fs.map fun f => crashF f (keepOf f.nm l) }) := by unfold craD; rw [← hW, if_pos hW0]
  have hnn := wrongD_zero (fs := S.fs) (l := l) (met := []) (by omega)
  rw [← hL] at Q hlen
  rw [← hL]
  have Qw := Q.fr0 Fw
  obtain ⟨es0, hes0⟩ : ∃ es, es = rs.map entF := ⟨_, rfl⟩
  rw [← hes0] at hj
  simp (disch := first|omega|(simp only [np,ns];try omega)) []
  refine pw_loopN (fun n s g => Fr gw g [] ∧ gw.n < g.n ∧ s 0 = .pointer (some ⟨i, 0, none⟩) ∧ s 6 = .map (some gw.n) ∧ s 21 = .slice a L c ∧ s 22 = .int .i64 (L : Int) ∧ s 23 = .int .i64 (n : Int) ∧
    ∃ es ck, g.get gw.n = .map es ck true ∧ KMap q n es) L ?_ ?_
  · refine ⟨Fr.push _ _ _, by simp, by simp [upd_apply, s0_apply], by simp [upd_apply], by simp [upd_apply, s0_apply], by simp [upd_apply], by simp [upd_apply], [], 0, by simp, KMap.nil q⟩
  rintro n1 s g hn1 ⟨F, hgn, e0, e6, e21, e22, e23, es, ck, hm, hkm⟩
  by_cases hltn : n1 < L
  · have hltI : (n1 : Int) < (L : Int) := by omega
    have hkk : IntKind.i64.wrap ((n1 : Int) + 1) = ((n1 + 1 : Nat) : Int) := by rw [i64_small (by omega) (by omega)]; omega
    have Qg := Qw.fr0 F
    obtain ⟨ia, oa, rfl, hia, hez, hld, _, _⟩ := Qg.at_ (k := n1) (by omega)
    have hput := hkm.put (ck := ck) (show n1 < q.length by omega)
    obtain ⟨p, hp⟩ : ∃ p, p = q[n1]'(by omega) := ⟨_, rfl⟩
    rw [← hp] at hld hput
    have hI := Qg.ints p (by rw [hp]; exact List.getElem_mem _)
    obtain ⟨nm, hnm⟩ : ∃ nm, nm = p.1.1 := ⟨_, rfl⟩
    obtain ⟨na, nc, hns⟩ := hI.shape
    rw [hns, ← hnm] at hld hput
    obtain ⟨M, hM⟩ : ∃ M, M = p.1.2.length := ⟨_, rfl⟩
    rw [← hM] at hld hput
    obtain ⟨g1, hg1⟩ : ∃ g1, g1 = (g.push (.cells [.string ⟨#[]⟩, .slice none 0 0] true 1)).set g.n (.cells [.string (strB nm), .slice na M nc] true 1) := ⟨_, rfl⟩
    have F1 : Fr g g1 [] := by rw [hg1]; exact Fr_set (Fr_push (Fr.refl _ _)) (Nat.le_refl _)
    have c1 : g1.get g.n = .cells [.string (strB nm), .slice na M nc] true 1 := by rw [hg1, VH.get_set_same]
    have n1' : g1.n = g.n + 1 := by rw [hg1]; rfl
    have m1 : g1.get gw.n = .map es ck true := (F1.get _ hgn (by simp)).trans hm
    have hfit : fitK .s (.string (strB nm)) = true := rfl
    have hkf := hkm.1
    obtain ⟨es', hes'⟩ : ∃ es', es' = mput (.string (strB nm)) (.slice na M nc) ck es := ⟨_, rfl⟩
    obtain ⟨ck', hck'⟩ : ∃ ck', ck' = mtick (.string (strB nm)) ck es := ⟨_, rfl⟩
    rw [← hes'] at hput
    simp (disch := first|omega|(simp only [np,ns];try omega)) [e0, e6, e21, e22, e23, hltI, hltn, hez, hld, s2_A, ← hg1, c1, l2_0, l2_1, m1, hfit, hkf, ← hes', ← hck', hkk]
    exact ⟨Fr_set (F.trans F1) (Nat.le_refl _), by omega, hput⟩
  obtain rfl : n1 = L := by omega
  clear hn1 hltn
  -- the range over the files
  have FA : Fr h g [] := Fw.trans F
  have k2 := k.fr0 FA
  have hi2 := k2.rec_
  have hj2 : g.get j = .map es0 clk true := (FA.get _ k.ltj (by simp)).trans hj
  have hlL : l.length = n1 := by rw [hl, hL]; simp
  have hnw := Fw.n
  simp (disch := first|omega|(simp only [np,ns];try omega)) [e0, e6, e22, e23, hi2, l2_0, hj2]
  refine pw_loop (fun t s g' => CraJ g i j g.n clk rs S l t g' ∧ s 0 = .pointer (some ⟨i, 0, none⟩) ∧ s 6 = .map (some gw.n) ∧ s 37 = .pointer (some ⟨g.n, 0, none⟩)) rs.length ?_ ?_
  · have F1 : Fr g (g.push (.miter (some j) clk [] clk)) [] := Fr.push _ _ _
    refine ⟨⟨[], rs, rs, rfl, List.Perm.refl _, F1.sub (by simp), by simp, VH.get_push_new _ _, by rw [← hes0]; exact (F1.get _ k2.ltj (by simp)).trans hj2, ?_, rfl, fun r hr => hr, fun x hx => .inl hx, fun x hx => hx⟩, by simp [upd_apply, e0], by simp [upd_apply, e6], by simp [upd_apply]⟩
    have e : S.fs.map (crF [] l) = S.fs := by
      have : ∀ f ∈ S.fs, crF [] l f = f := fun f _ => by simp [crF]
      rw [List.map_congr_left this, List.map_id']
    rw [e]
    exact k2.fr0 F1
  rintro t s2 g' ⟨⟨dn, td, rc, rfl, hp, F2, hqn, hit, hj3, k3, hre, htd, hfp, hrd⟩, e0', e6', e37⟩
  rw [← hes0] at hj3
  simp (disch := first|omega|(simp only [np,ns];try omega)) [e37]
  refine range_next hes0 hp k.bnd (fun r hr => hlt r hr) hit hj3 ?_ ?_
  · rintro rfl
    rw [List.append_nil] at hp
    simp (disch := first|omega|(simp only [np,ns];try omega)) [r_disk_Disk_Crash, hs]
    have e : S.fs.map (crF dn l) = S.fs.map fun f => crashF f (keepOf f.nm l) := by
      refine List.map_congr_left fun f hf => ?_
      obtain ⟨r, hr, rfl⟩ := List.mem_map.1 (k.perm.mem_iff.2 hf)
      have : r.f.nm ∈ dn.map (·.f.nm) := List.mem_map_of_mem (f := fun r : Rf => r.f.nm) (hp.mem_iff.2 hr)
      simp only [crF, this, if_true]
    rw [e] at k3
    have hn2 := FA.n
    refine ⟨_, _, ⟨j, rc, rfl, rfl, k3⟩, (FA.sub (by simp)).trans F2, fun x hx => (hfp x hx).imp id (fun h => by omega), fun x hx => .inl (hrd x hx)⟩
  · intro x ta tb sn htds hsn hlast
    have hxt : x ∈ td := by rw [htds]; simp
    have hx : x ∈ rs := hp.mem_iff.1 (List.mem_append_right _ hxt)
    have hxc := htd x hxt
    obtain ⟨g3, hg3⟩ : ∃ g3, g3 = g'.set g.n (.miter (some j) clk sn clk) := ⟨_, rfl⟩
    have f3 : Fr g' g3 [g.n] := by rw [hg3]; exact Fr.set _ _ (by simp)
    have q3 : g3.get g.n = .miter (some j) clk sn clk := by rw [hg3, VH.get_set_same]
    have n3 : g3.n = g'.n := by rw [hg3]; rfl
    have hFA := FA.n
    have hlts := k.lts
    have hrlts := k.rlts
    have hqf : ∀ y ∈ fpS i j rc, y ∉ [g.n] := by
      intro y hy hyq
      simp at hyq
      subst hyq
      rcases hfp _ hy with h1 | h1
      · have := hlts _ h1; omega
      · omega
    have hqr : ∀ y ∈ rdS rc, y ∉ [g.n] := by
      intro y hy hyq
      simp at hyq
      subst hyq
      have := hrlts _ (hrd _ hy); omega
    have k4 := k3.fr f3 hqf hqr
    have hjq : j ∉ [g.n] := hqf j (by simp [fpS])
    have j3 : g3.get j = .map es0 clk true := (f3.get _ k3.ltj hjq).trans hj3
    have hmkx : gw.n ∉ fpS i j rs := fun hy => by have := hlts _ hy; omega
    have hmk : g3.get gw.n = .map es ck true := (f3.get _ (by omega) (by simp; omega)).trans ((F2.get _ hgn hmkx).trans hm)
    obtain ⟨a3, b3, hab⟩ := List.append_of_mem hxc
    have T := k4.fil x hxc
    have hxS : x.f ∈ S.fs := k.perm.mem_iff.1 (List.mem_map_of_mem hx)
    have hxok := ok.ok.fl _ hxS
    have hfit : fitK .s (.string (strB x.f.nm)) = true := rfl
    have hkf := hkm.1
    obtain ⟨v, hv⟩ : ∃ v, v = mval false (.slice none 0 0) (mget (.string (strB x.f.nm)) es) := ⟨_, rfl⟩
    have F3 : Fr h g3 (fpS i j rs) := by
      refine ((FA.sub (by simp)).trans F2).trans' f3 (fun y hy => ?_)
      simp at hy
      exact .inr (by omega)
    have Q3 := Q.fr F3 hX
    have hI : IntsAt g3 v (keepOf x.f.nm l) ∧ (∀ y ∈ idOf v, D y) ∧ ∀ z ∈ keepOf x.f.nm l, 0 ≤ z := by
      have := hkm.2 x.f.nm
      rw [← hv, ← hl, ← hlL, List.take_length] at this
      rcases this with ⟨h1, h2⟩ | ⟨p, hpq, h1, h2⟩
      · rw [h1, h2]; exact ⟨IntsAt.nil _, by simp [idOf], by simp⟩
      · rw [h1, h2]
        exact ⟨Q3.ints p hpq, Q3.lt p hpq, hnn p.1 (by rw [hl]; exact List.mem_map_of_mem hpq)⟩
    have hfnd := k4.fnd hxc
    have hxrd : ∀ y ∈ rdF x, y ∉ fpF x := fun y hy hyf => k4.rd y (rd_in hxc y hy) (fp_in hxc y hyf)
    have hfx : ∀ y ∈ fpF x, ¬ D y := fun y hy => hX y (fp_in hx y hy)
    simp (disch := first|omega|(simp only [np,ns];try omega)) [e37, e6', ← hg3, q3, j3, hlast, entF, hmk, hfit, hkf, ← hv]
    refine (crash_ok T hxok hfnd hxrd hI.1 (fun y hy hyf => hfx y hyf (hI.2.1 y hy)) hI.2.2).mono ?_
    rintro u g4 ⟨rfl, sv', hr4, ho4, F4, hid4⟩
    have n4 := F4.n
    obtain ⟨B, hB⟩ : ∃ B, B = crashL x.f.s x.f.s.length x.f.ws (keepOf x.f.nm l) := ⟨_, rfl⟩
    rw [← hB] at ho4
    have hcr : crashF x.f (keepOf x.f.nm l) = ⟨x.f.nm, B, []⟩ := by rw [hB]; rfl
    have T4 : FilAt g4 ⟨⟨x.f.nm, B, []⟩, x.it, sv', .slice none 0 0, [], x.bn⟩ := FilAt.safe0 (by have := T.lt; omega) hr4 ho4
    have hfp4 : ∀ y ∈ fpF ⟨⟨x.f.nm, B, []⟩, x.it, sv', .slice none 0 0, [], x.bn⟩, y ∈ fpF x ∨ g3.n ≤ y := by
      intro y hy
      simp only [fpF, List.mem_cons, List.mem_append] at hy ⊢
      rcases hy with hy | hy | hy
      · exact .inl (.inl hy)
      · exact (hid4 y hy).imp (fun h => .inr (.inl h)) id
      · simp [idOf] at hy
    have hnd4 : (fpF ⟨⟨x.f.nm, B, []⟩, x.it, sv', .slice none 0 0, [], x.bn⟩).Nodup := by
      simp only [fpF, List.nodup_cons, List.nodup_append, List.mem_append, not_or] at hfnd ⊢
      refine ⟨⟨fun h => ?_, by simp [idOf]⟩, idOf_nodup _, by simp [idOf], by simp [idOf]⟩
      rcases hid4 _ h with h1 | h1
      · exact hfnd.1.1 h1
      · have := T.lt; omega
    have k4' := k4
    rw [hab] at k4'
    have k5 := k4'.one (r' := ⟨⟨x.f.nm, B, []⟩, x.it, sv', .slice none 0 0, [], x.bn⟩) (crF_ok hu) F4 T4 rfl rfl rfl hnd4 hfp4 (by simp [rdF])
    have hset : setF ⟨x.f.nm, B, []⟩ (S.fs.map (crF dn l)) = S.fs.map (crF (dn ++ [x]) l) := by rw [← hcr]; exact setF_crF hu hxS
    simp only [hset] at k5
    simp (disch := first|omega|(simp only [np,ns];try omega)) []
    refine ⟨_, by have := (perm_step hp htds).2; exact this, ⟨dn ++ [x], ta ++ tb, _, rfl, (perm_step hp htds).1, ?_, by omega, ?_, ?_, k5, ?_, ?_, ?_, ?_⟩, e0', e6', e37⟩
    · refine (F2.trans' f3 (fun y hy => ?_)).trans' F4 (fun y hy => .inl (fp_in hx y hy))
      simp at hy
      exact .inr (by omega)
    · have hgx : g.n ∉ fpF x := fun hy => hqf _ (fp_in hxc _ hy) (by simp)
      rw [F4.get _ (by omega) hgx, q3, hsn]
    · rw [← hes0, F4.get _ k4.ltj (k4.nj x hxc), j3]
    · rw [← hre, hab]
      simp [entF]
    · intro r hr
      have hr2 : r ∈ td := by rw [htds]; simp at hr ⊢; rcases hr with hr | hr <;> simp [hr]
      have hrx : r ≠ x := by
        intro e
        have hnb : ((dn ++ td).map fun r => (entF r).2.2).Nodup := (hp.map _).nodup_iff.2 k.bnd
        rw [htds] at hnb
        have h2 : ((x :: (dn ++ (ta ++ tb))).map fun r => (entF r).2.2).Nodup := by
          refine (List.Perm.nodup_iff ?_).1 hnb
          refine List.Perm.map _ ?_
          rw [← List.append_assoc, ← List.append_assoc]
          exact List.perm_middle
        rw [List.map_cons, List.nodup_cons] at h2
        exact h2.1 (e ▸ List.mem_map_of_mem (f := fun r : Rf => (entF r).2.2) (List.mem_append_right _ hr))
      have := htd r hr2
      rw [hab] at this
      simp only [List.mem_append, List.mem_cons] at this ⊢
      rcases this with h1 | h1 | h1
      · exact .inl h1
      · exact absurd h1 hrx
      · exact .inr (.inr h1)
    · intro y hy
      simp only [fpS_mid, List.mem_append] at hy
      have old : y ∈ fpS i j rc → y ∈ fpS i j rs ∨ g.n < y := hfp y
      rw [hab, fpS_mid] at old
      simp only [List.mem_append] at old
      rcases hy with (hy | hy) | hy
      · exact old (.inl (.inl hy))
      · rcases hfp4 y hy with h1 | h1
        · exact old (.inl (.inr h1))
        · exact .inr (by omega)
      · exact old (.inr hy)
    · intro y hy
      refine hrd y ?_
      rw [hab]
      simp only [rdS, List.flatMap_append, List.flatMap_cons, List.mem_append] at hy ⊢
      rcases hy with hy | hy | hy
      · exact .inl hy
      · simp [rdF] at hy
      · exact .inr (.inr hy)
end Go.Proofs.YtgnmhonbcejnfaaGreatDoor.Dk
