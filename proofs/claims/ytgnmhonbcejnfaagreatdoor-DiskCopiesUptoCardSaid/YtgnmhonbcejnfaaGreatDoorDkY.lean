/- disk, part Y: bytes lent, kept, spoilt; counts. -/
import Derived.Test.YtgnmhonbcejnfaaGreatDoorDkW
import Derived.Test.YtgnmhonbcejnfaaGreatDoorPmS
set_option linter.unusedVariables false
set_option linter.unusedSimpArgs false
set_option maxRecDepth 100000
namespace Go.Proofs.YtgnmhonbcejnfaaGreatDoor.Dk
open Go Go.RowKit Go.Proofs.YtgnmhonbcejnfaaGreatDoor.Pm Go.Proofs.YtgnmhonbcejnfaaGreatDoor.Fs
attribute [-simp] BitVec.toNat_or BitVec.toNat_xor BitVec.toNat_add BitVec.toNat_and BitVec.toNat_not BitVec.toNat_shiftLeft BitVec.toNat_ushiftRight


/-- bytes lent, with one byte behind them. -/
def LentP (h : VH) (u : Value) (bs : List UInt8) : Prop := ∃ i o c ds, u = .slice (some ⟨i, o, none⟩) bs.length c ∧ bs.length < c ∧ i < h.n ∧ h.get i = .cells ds true 1 ∧ ds.drop o = u8s (bs ++ [77])
theorem LentP.own {h : VH} {u : Value} {bs : List UInt8} (k : LentP h u bs) : OwnP h 1 u (u8s bs) bs.length := by
  obtain ⟨i, o, c, ds, rfl, hc, hi, hg, hd⟩ := k
  have hdl := congrArg List.length hd
  simp at hdl
  refine .inr ⟨i, o, c, ds, hi, by omega, rfl, hg, ?_, by omega⟩
  rw [hd, Nat.mul_one]
  simp [u8s]
theorem LentP.fr {h h' : VH} {X : List Nat} (hf : Fr h h' X) {u : Value} {bs : List UInt8} (k : LentP h u bs) (hx : ∀ i ∈ idOf u, i ∉ X) : LentP h' u bs := by
  obtain ⟨i, o, c, ds, rfl, hc, hi, hg, hd⟩ := k
  have hn := hf.n
  exact ⟨i, o, c, ds, rfl, hc, by omega, by rw [hf.get i hi (hx i (by simp [idOf]))]; exact hg, hd⟩
theorem lent_ok {h : VH} {v : Value} {bs : List UInt8} (hb : IsBytes h v bs) (hlen : bs.length ≤ 1099511627000) :
    PCalls Tryz.prog f_ref02_Lent [v] h (fun u h' => LentP h' u bs ∧ Fr h h' [] ∧ ∀ j ∈ idOf u, h.n ≤ j) := by
  refine PCalls_of_pw st_ref02_Lent (by simp [n_ref02_Lent]) ?_
  rw [b_ref02_Lent]
  unfold B_ref02_Lent
  obtain ⟨va, vc, rfl⟩ := hb.shape
  obtain ⟨w1, g1, hap1, hB1⟩ := (Buf.nil h).append bs (by simp; omega)
  obtain ⟨g2, hg2⟩ : ∃ g2, g2 = g1.push (.cells [.int .u8 77] true 1) := ⟨_, rfl⟩
  have f2 : Fr g1 g2 [] := by rw [hg2]; exact Fr_push (Fr.refl _ _)
  obtain ⟨w2, g3, hap2, hB2⟩ := (hB1.step f2).append [77] (by simp; omega)
  rw [List.nil_append] at hB2 hB1
  have hap2 : appendV g2 1 1 w1 [.int .u8 77] 1 = some (w2, g3) := hap2
  have hsrc := hb.src
  obtain ⟨L, hL⟩ : ∃ L, L = bs.length := ⟨_, rfl⟩
  rw [← hL] at hsrc hap1
  obtain ⟨w1a, w1c, hw1⟩ := hB1.shape
  rw [← hL] at hw1
  have q2 : g2.get g1.n = .cells [.int .u8 77] true 1 := by rw [hg2, VH.get_push_new]
  have hfi : fillC [.int .u8 0] [(0, 1, .int .u8 77)] = some [.int .u8 77] := rfl
  have hone : ([.int .u8 77] : List Value).all Value.oneCell' = true := rfl
  have hro : rowObj (.cells [.int .u8 77] true 1) 0 1 = some [.int .u8 77] := rfl
  rcases hB2.own with ⟨_, h1, _⟩ | ⟨i, o, c, ds, hi, hc, rfl, hg, hd, hdl, hole⟩
  · simp [u8s] at h1
  have hl1 : (bs ++ [77]).length = L + 1 := by simp [hL]
  rw [hl1] at hc hap2
  have hez : eszObj (.cells ds true 1) 1 = true := rfl
  have hbd : (0 : Int) ≤ (L : Int) ∧ (L : Int) ≤ (c : Int) := by omega
  rw [hw1] at hap1 hap2
  rw [← hL]
  simp (disch := first|omega|(simp only [np,ns];try omega)) [r_ref02_Lent, hsrc, Option.bind_some, hap1, hfi, hone, ← hg2, q2, hro, hap2, hg, hez, hbd]
  refine ⟨⟨i, o, c, ds, by rw [hL], by omega, hi, hg, hd⟩, hB2.fr, fun j hj => hB2.ids j (by simpa [idOf] using hj)⟩
theorem kept_ok {h : VH} {u v : Value} {bs : List UInt8} (hu : LentP h u bs) (hb : IsBytes h v bs) (hlen : bs.length ≤ 1099511627000) :
    PCalls Tryz.prog f_ref02_Kept [u, v] h (fun x h' => x = .bool true ∧ h' = h) := by
  refine PCalls_of_pw st_ref02_Kept (by simp [n_ref02_Kept]) ?_
  rw [b_ref02_Kept]
  unfold B_ref02_Kept
  have hub := hu.own.bytes
  obtain ⟨i, o, c, ds, rfl, hc, hi, hg, hd⟩ := hu
  obtain ⟨va, vc, rfl⟩ := hb.shape
  obtain ⟨L, hL⟩ : ∃ L, L = bs.length := ⟨_, rfl⟩
  have hs1 := ofB_eq hub
  have hs2 := ofB_eq hb
  rw [← hL] at hs1 hs2 hc
  rw [← hL]
  have hez : eszObj (.cells ds true 1) 1 = true := rfl
  have h77 : loadObj (.cells ds true 1) (o + L) none = some (.int .u8 77) := by
    show ds[o + L]? = _
    rw [← List.getElem?_drop, hd]
    simp [u8s, hL]
  have hadd : IntKind.i64.wrap ((L : Int) + 1) = (L : Int) + 1 := i64_small (by omega) (by omega)
  obtain ⟨L1, hL1⟩ : ∃ L1, L1 = L + 1 := ⟨_, rfl⟩
  have hadd : IntKind.i64.wrap ((L : Int) + 1) = (L1 : Int) := by rw [hadd]; omega
  have hbd : (0 : Int) ≤ (L1 : Int) ∧ (L1 : Int) ≤ (c : Int) := by omega
  have hlt : L < L1 := by omega
  have hltI : (L : Int) < (L1 : Int) := by omega
  simp (disch := first|omega|(simp only [np,ns];try omega)) [r_ref02_Kept, hs1, hs2, hadd, hbd, hg, hez, hlt, hltI, h77]
theorem xor90 (b : UInt8) : Go.bits .xor .u8 (b.toNat : Int) 90 = ((b ^^^ 90).toNat : Int) := by
  have := bits_xor_u8 b.toBitVec 90#8
  simpa [BitVec.toNat_or, BitVec.toNat_add, BitVec.toNat_and, BitVec.toNat_xor] using this
theorem take_set_u8 {ds : List Value} {o k n : Nat} {bs : List UInt8} (h : (ds.drop o).take n = u8s bs) (x : UInt8) : ((ds.set (o + k) (.int .u8 (x.toNat : Int))).drop o).take n = u8s (bs.set k x) := by
  rw [List.drop_set, if_neg (by omega), show o + k - o = k by omega, List.take_set, h]
  simp [u8s, List.map_set]
set_option maxHeartbeats 2000000 in
theorem spoil_ok {h : VH} {v : Value} {bs : List UInt8} (hs : OwnP h 1 v (u8s bs) bs.length) (hlen : bs.length ≤ 1099511627000) : PCalls Tryz.prog f_ref02_Spoil [v] h (fun u h' => Fr h h' (idOf v)) := by
  refine PCalls_of_pw st_ref02_Spoil (by simp [n_ref02_Spoil]) ?_
  rw [b_ref02_Spoil]
  unfold B_ref02_Spoil
  obtain ⟨L, hL⟩ : ∃ L, L = bs.length := ⟨_, rfl⟩
  obtain ⟨va, vc, rfl⟩ := hs.shape
  rw [← hL] at hs ⊢
  simp (disch := first|omega|(simp only [np,ns];try omega)) []
  refine pw_loopN (fun k s g => ∃ bs' : List UInt8, bs'.length = L ∧ OwnP g 1 (.slice va L vc) (u8s bs') L ∧ Fr h g (idOf (.slice va L vc)) ∧ s 0 = .slice va L vc ∧ s 2 = .int .i64 (k : Int)) L ?_ ?_
  · exact ⟨bs, hL.symm, hs, Fr.refl _ _, by simp [upd_apply, s0_apply], by simp [upd_apply, s0_apply]⟩
  rintro k s g hk ⟨bs', hbl, ho, hf, e0, e2⟩
  by_cases hlt : k < L
  · have hltI : (k : Int) < (L : Int) := by omega
    rcases ho with ⟨h1, _, h3⟩ | ⟨i, o, c, ds, hi, hc, hv, hg, hd, hole⟩
    · omega
    · injection hv with hv1 _ hv3
      subst hv1
      subst hv3
      rw [Nat.mul_one] at hd hole
      have hkb : k < bs'.length := by omega
      have hld : loadObj (.cells ds true 1) (o + k) none = some (.int .u8 (bs'[k].toNat : Int)) := by
        rw [loadObj_one]
        have h5 : ((ds.drop o).take L)[k]? = some (.int .u8 (bs'[k].toNat : Int)) := by
          rw [hd]
          simp [u8s, List.getElem?_eq_getElem hkb]
        rwa [List.getElem?_take, if_pos hlt, List.getElem?_drop] at h5
      obtain ⟨X, hX⟩ : ∃ X, X = bs'[k] := ⟨_, rfl⟩
      rw [← hX] at hld
      obtain ⟨Y, hY⟩ : ∃ Y, Y = X ^^^ 90 := ⟨_, rfl⟩
      have hxor := xor90 X
      rw [← hY] at hxor
      have hst := storeObj_int (cs := ds) (e := 1) (o := o + k) (k := .u8) (n := (Y.toNat : Int)) (by omega)
      have eW : IntKind.i64.wrap ((k : Int) + 1) = ((k + 1 : Nat) : Int) := by rw [i64_small (by omega) (by omega)]; omega
      have hez : eszObj (.cells ds true 1) 1 = true := rfl
      simp (disch := first|omega|(simp only [np,ns];try omega)) [e0, e2, hltI, hlt, hg, hez, hld, hxor, hst, eW]
      refine ⟨bs'.set k Y, by simpa using hbl, ?_, hf.trans (Fr.set _ _ (by simp [idOf]))⟩
      refine .inr ⟨i, o, vc, ds.set (o + k) (.int .u8 (Y.toNat : Int)), hi, hc, rfl, VH.get_set_same _ _ _, by rw [Nat.mul_one]; exact take_set_u8 hd Y, by simp; omega⟩
  · obtain rfl : k = L := by omega
    obtain ⟨g1, hg1⟩ : ∃ g1, g1 = g.push (.cells [.int .u8 99] true 1) := ⟨_, rfl⟩
    have hf1 : Fr g g1 [] := by rw [hg1]; exact Fr_push (Fr.refl _ _)
    have hg1o : g1.get g.n = .cells [.int .u8 99] true 1 := by rw [hg1, VH.get_push_new]
    obtain ⟨w', g', hap, ho', hf', hid⟩ := (ho.fr hf1 (fun _ _ => by simp)).append (bytes := 1) (ys := u8s [99]) (k := 1) (by simp [u8s]) (by omega)
    have hap : appendV g1 1 1 (.slice va k vc) [.int .u8 99] 1 = some (w', g') := hap
    have hfill : fillC [.int .u8 0] [(0, 1, .int .u8 99)] = some [.int .u8 99] := rfl
    have hone : [Value.int .u8 99].all Value.oneCell' = true := rfl
    have hrow : rowObj (.cells [.int .u8 99] true 1) 0 1 = some [.int .u8 99] := rfl
    rcases ho' with ⟨h1, _, h3⟩ | ⟨i, o, c, ds, hi, hc, hv, hg, hd, hole⟩
    · omega
    · rw [Nat.mul_one] at hd hole
      have hst := storeObj_int (cs := ds) (e := 1) (o := o + k) (k := .u8) (n := 98) (by omega)
      have eW : IntKind.i64.wrap ((k : Int) + 1 - 1) = (k : Int) := by rw [i64_small (by omega) (by omega)]; omega
      have hk1 : (k : Int) < (k : Int) + 1 := by omega
      subst hv
      have hlt : k < k + 1 := by omega
      have hez : eszObj (.cells ds true 1) 1 = true := rfl
      simp (disch := first|omega|(simp only [np,ns];try omega)) [r_ref02_Spoil, e0, e2, hfill, hone, ← hg1, hg1o, hrow, hap, eW, hk1, hlt, hg, hez, hst]
      have hix : i ∈ idOf (.slice va k vc) ∨ h.n ≤ i := by
        rcases hid i (by simp [idOf]) with h5 | h5
        · exact .inl h5
        · have := hf.n; have := hf1.n; exact .inr (by omega)
      have F1 : Fr h g' (idOf (.slice va k vc)) := (hf.trans (hf1.sub (fun x hx => by simp at hx))).trans hf'
      exact F1.trans' (Fr.set _ _ (X := [i]) (by simp)) (fun y hy => by simp at hy; subst hy; exact hix)
structure OpR where
  kind : Int
  nm : List UInt8
  to : List UInt8
  c : Int
  b : List UInt8
  q : List ((List UInt8 × List Int) × Value)
def opD (S : Ds) (o : OpR) : Ds :=
  if o.kind = 0 then (appD S o.nm o.b).2 else
  if o.kind = 1 then (synD S o.nm).2 else
  if o.kind = 2 then (cutD S o.nm o.c).2 else
  if o.kind = 3 then (renD S o.nm o.to).2 else
  if o.kind = 4 then (remD S o.nm).2 else
  if o.kind = 5 then (craD S (o.q.map (·.1))).2 else S
theorem opD_ok {n : Nat} {S : Ds} (k : OkN n S) (o : OpR) : OkN (n + 1) (opD S o) := by
  unfold opD
  split
  · exact (appD_ok k _ _).le (by omega)
  split
  · exact synD_ok k _
  split
  · exact (cutD_ok k _ _).le (by omega)
  split
  · exact (renD_ok k _ _).le (by omega)
  split
  · exact (remD_ok k _).le (by omega)
  split
  · exact (craD_ok k _).le (by omega)
  · exact k.le (by omega)
/-- a call that came in: all of it below n0. -/
structure OpAt (n0 : Nat) (h : VH) (o : OpR) (bv kv : Value) : Prop where
  b : IsBytes h bv o.b
  q : KeepsAt (· < n0) h kv o.q
  lt : ∀ x ∈ idOf bv, x < n0
  nm : o.nm.length ≤ 140737488355328
  to : o.to.length ≤ 140737488355328
  bl : o.b.length ≤ 1099511627000
def opL (o : OpR) (bv kv : Value) : List Value := [.int .i64 o.kind, .string (strB o.nm), .string (strB o.to), .int .i64 o.c, bv, kv]
theorem OpAt.fr {n0 : Nat} {h h' : VH} {X : List Nat} (hf : Fr h h' X) (hX : ∀ x ∈ X, n0 ≤ x) {o : OpR} {bv kv : Value} (K : OpAt n0 h o bv kv) : OpAt n0 h' o bv kv :=
  ⟨K.b.fr hf (fun x hx hxX => by have := K.lt x hx; have := hX x hxX; omega), K.q.fr hf (fun x hx hl => by have := hX x hx; omega), K.lt, K.nm, K.to, K.bl⟩
theorem OpAt.fr0 {n0 : Nat} {h h' : VH} (hf : Fr h h' []) {o : OpR} {bv kv : Value} (K : OpAt n0 h o bv kv) : OpAt n0 h' o bv kv := K.fr hf (by simp)
/-- the disk and the reference's, side by side, behind the first heap h0. -/
structure Bo (h0 h : VH) (i ri : Nat) (S : Ds) (X R Y : List Nat) : Prop where
  d : DkAt h i S X R
  r : RfDk h ri S Y
  fr : Fr h0 h []
  hX : ∀ x ∈ X, h0.n ≤ x
  hY : ∀ x ∈ Y, h0.n ≤ x
  xy : ∀ x ∈ X, x ∉ Y
  ry : ∀ x ∈ R, x ∉ Y
theorem Bo.fr0 {h0 h h' : VH} {i ri : Nat} {S : Ds} {X R Y : List Nat} (k : Bo h0 h i ri S X R Y) (hf : Fr h h' []) : Bo h0 h' i ri S X R Y :=
  ⟨k.d.fr0 hf, k.r.fr0 hf, k.fr.trans hf, k.hX, k.hY, k.xy, k.ry⟩
theorem Bo.rd {h0 h h' : VH} {i ri : Nat} {S : Ds} {X R Y : List Nat} (k : Bo h0 h i ri S X R Y) (hf : Fr h h' X) : RfDk h' ri S Y := k.r.fr hf (fun x hx hxX => k.xy x hxX hx)
def BoP (h0 h' : VH) (i ri : Nat) (S' : Ds) : Prop := ∃ X' R' Y', Bo h0 h' i ri S' X' R' Y'
theorem Bo.step {h0 h h1 h2 h3 : VH} {i ri : Nat} {S S1 : Ds} {X R Y : List Nat} (k : Bo h0 h i ri S X R Y) (hd : DkP h i X R S1 h1) (h12 : Fr h1 h2 []) (hr : RfP h2 ri Y S1 h3) :
    ∃ X' R' Y', Bo h0 h3 i ri S1 X' R' Y' ∧ (∀ x ∈ X', x ∈ X ∨ h.n ≤ x) ∧ (∀ x ∈ R', x ∈ R ∨ h.n ≤ x) ∧ ∀ x ∈ Y', x ∈ Y ∨ h.n ≤ x := by
  obtain ⟨X', R', d1, m1⟩ := hd
  obtain ⟨Y', r1, m2⟩ := hr
  have n0 := k.fr.n
  have n1 := m1.fr.n
  have n2 := h12.n
  have hx' : ∀ x ∈ X', x ∉ Y := fun x hx hy => by
    rcases m1.ids x hx with h4 | h4
    · exact k.xy x h4 hy
    · have := k.r.lt x hy; omega
  have hr' : ∀ x ∈ R', x ∉ Y := fun x hx hy => by
    rcases m1.rds x hx with h4 | h4
    · exact k.ry x h4 hy
    · have := k.r.lt x hy; omega
  have d2 := d1.fr0 h12
  have d3 := d2.fr m2.fr hx' hr'
  refine ⟨X', R', Y', ⟨d3, r1, ?_, ?_, ?_, ?_, ?_⟩, m1.ids, m1.rds, fun x hx => (m2.ids x hx).imp id (fun h => by omega)⟩
  · exact ((k.fr.trans' m1.fr (fun y hy => .inr (k.hX y hy))).trans h12).trans' m2.fr (fun y hy => .inr (k.hY y hy))
  · intro x hx
    rcases m1.ids x hx with h4 | h4
    · exact k.hX x h4
    · omega
  · intro x hx
    rcases m2.ids x hx with h4 | h4
    · exact k.hY x h4
    · omega
  · intro x hx hy
    rcases m2.ids x hy with h4 | h4
    · exact hx' x hx h4
    · have := d2.lt x hx; omega
  · intro x hx hy
    rcases m2.ids x hy with h4 | h4
    · exact hr' x hx h4
    · have := d2.rlt x hx; omega
theorem Bo.stepP {h0 h h1 h2 h3 : VH} {i ri : Nat} {S S1 : Ds} {X R Y : List Nat} (k : Bo h0 h i ri S X R Y) (hd : DkP h i X R S1 h1) (h12 : Fr h1 h2 []) (hr : RfP h2 ri Y S1 h3) : BoP h0 h3 i ri S1 := by
  obtain ⟨X', R', Y', k', _⟩ := k.step hd h12 hr
  exact ⟨X', R', Y', k'⟩
/-- the same, and what turned of the heap. -/
def BoQ (h0 h h' : VH) (i ri : Nat) (S' : Ds) (X R Y : List Nat) : Prop := ∃ X' R' Y', Bo h0 h' i ri S' X' R' Y' ∧ Fr h h' (X ++ Y) ∧ (∀ x ∈ X', x ∈ X ∨ h.n ≤ x) ∧ (∀ x ∈ R', x ∈ R ∨ h.n ≤ x) ∧ ∀ x ∈ Y', x ∈ Y ∨ h.n ≤ x
theorem BoQ.p {h0 h h' : VH} {i ri : Nat} {S' : Ds} {X R Y : List Nat} (k : BoQ h0 h h' i ri S' X R Y) : BoP h0 h' i ri S' := by
  obtain ⟨X', R', Y', k1, _⟩ := k
  exact ⟨X', R', Y', k1⟩
theorem BoQ.pre {h0 h g h' : VH} {i ri : Nat} {S' : Ds} {X R Y : List Nat} (hf : Fr h g []) (k : BoQ h0 g h' i ri S' X R Y) : BoQ h0 h h' i ri S' X R Y := by
  obtain ⟨X', R', Y', k1, k2, k3, k4, k5⟩ := k
  have hn := hf.n
  exact ⟨X', R', Y', k1, (hf.sub (by simp)).trans k2, fun x hx => (k3 x hx).imp id (fun h => by omega), fun x hx => (k4 x hx).imp id (fun h => by omega), fun x hx => (k5 x hx).imp id (fun h => by omega)⟩
theorem Bo.stepQ {h0 h h1 h2 h3 : VH} {i ri : Nat} {S S1 : Ds} {X R Y : List Nat} (k : Bo h0 h i ri S X R Y) (hd : DkP h i X R S1 h1) (h12 : Fr h1 h2 []) (hr : RfP h2 ri Y S1 h3) : BoQ h0 h h3 i ri S1 X R Y := by
  obtain ⟨X', R', Y', k1, k2, k3, k4⟩ := k.step hd h12 hr
  obtain ⟨_, _, _, m1⟩ := hd
  obtain ⟨_, _, m2⟩ := hr
  exact ⟨X', R', Y', k1, ((m1.fr.sub (fun x hx => List.mem_append_left _ hx)).trans (h12.sub (by simp))).trans (m2.fr.sub (fun x hx => List.mem_append_right _ hx)), k2, k3, k4⟩
theorem Bo.frX {h0 h h' : VH} {i ri : Nat} {S : Ds} {X R Y Z : List Nat} (k : Bo h0 h i ri S X R Y) (hf : Fr h h' Z) (hz : ∀ z ∈ Z, h0.n ≤ z ∧ z ∉ X ∧ z ∉ R ∧ z ∉ Y) : Bo h0 h' i ri S X R Y :=
  ⟨k.d.fr hf (fun x hx hxz => (hz x hxz).2.1 hx) (fun x hx hxz => (hz x hxz).2.2.1 hx), k.r.fr hf (fun x hx hxz => (hz x hxz).2.2.2 hx), k.fr.trans' hf (fun y hy => .inr (hz y hy).1), k.hX, k.hY, k.xy, k.ry⟩
section
variable {x0 x1 x2 x3 x4 x5 : Value} {ow : Bool} {e : Nat}
theorem l6_0 : loadObj (.cells [x0, x1, x2, x3, x4, x5] ow e) 0 none = some x0 := rfl
theorem l6_1 : loadObj (.cells [x0, x1, x2, x3, x4, x5] ow e) 1 none = some x1 := rfl
theorem l6_2 : loadObj (.cells [x0, x1, x2, x3, x4, x5] ow e) 2 none = some x2 := rfl
theorem l6_3 : loadObj (.cells [x0, x1, x2, x3, x4, x5] ow e) 3 none = some x3 := rfl
theorem l6_4 : loadObj (.cells [x0, x1, x2, x3, x4, x5] ow e) 4 none = some x4 := rfl
theorem l6_5 : loadObj (.cells [x0, x1, x2, x3, x4, x5] ow e) 5 none = some x5 := rfl
end
set_option maxHeartbeats 8000000 in
theorem callQ_ok {h0 h : VH} {i ri : Nat} {S : Ds} {X R Y : List Nat} {n : Nat} {o : OpR} {bv kv : Value} (G : GOK h0) (k : Bo h0 h i ri S X R Y) (ok : OkN n S) (hn : n < 1000000) (O : OpAt h0.n h o bv kv) :
    PCalls Tryz.prog f_law06_call [.pointer (some ⟨i, 0, none⟩), .pointer (some ⟨ri, 0, none⟩), .agg (opL o bv kv).toArray] h (fun u h' => u = .bool true ∧ BoQ h0 h h' i ri (opD S o) X R Y) := by
  refine PCalls_of_pw st_law06_call (by simp [n_law06_call]) ?_
  rw [b_law06_call]
  unfold B_law06_call
  obtain ⟨kind, nm, to, c, b, q⟩ := o
  obtain ⟨ba, bc, hbv⟩ := O.b.shape
  obtain ⟨ka, kc, hkv⟩ := O.q.shape
  simp only at hbv hkv
  obtain ⟨L, hL⟩ : ∃ L, L = b.length := ⟨_, rfl⟩
  obtain ⟨M, hM⟩ : ∃ M, M = q.length := ⟨_, rfl⟩
  rw [← hL] at hbv
  rw [← hM] at hkv
  have Ob := O.b
  have Oq := O.q
  simp only at Ob Oq
  obtain ⟨row, hrow⟩ : ∃ row, row = opL ⟨kind, nm, to, c, b, q⟩ bv kv := ⟨_, rfl⟩
  have hrow2 : row = [.int .i64 kind, .string (strB nm), .string (strB to), .int .i64 c, .slice ba L bc, .slice ka M kc] := by rw [hrow, opL, hbv, hkv]
  obtain ⟨hb, hhb⟩ : ∃ hb, hb = h.push (.cells [.int .i64 kind, .string (strB nm), .string (strB to), .int .i64 c, .slice ba L bc, .slice ka M kc] true 1) := ⟨_, rfl⟩
  have Fb : Fr h hb [] := by rw [hhb]; exact Fr_push (Fr.refl _ _)
  have nb : hb.n = h.n + 1 := by rw [hhb]; rfl
  have cb : hb.get h.n = .cells [.int .i64 kind, .string (strB nm), .string (strB to), .int .i64 c, .slice ba L bc, .slice ka M kc] true 1 := by rw [hhb, VH.get_push_new]
  have kb := k.fr0 Fb
  have Gb := G.fr0 kb.fr
  have hone : ([.int .i64 kind, .string (strB nm), .string (strB to), .int .i64 c, .slice ba L bc, .slice ka M kc] : List Value).all Value.oneCell' = true := rfl
  have hXlt : ∀ x ∈ X, x < h.n := k.d.lt
  have hYlt : ∀ x ∈ Y, x < h.n := k.r.lt
  have n0 := k.fr.n
  have Qb := Oq.fr0 Fb
  have Bb := Ob.fr Fb (fun _ _ => by simp)
  rw [hbv] at Bb
  rw [hkv] at Qb
  have hbx : ∀ x ∈ idOf (.slice ba L bc), x < h0.n := by rw [← hbv]; exact O.lt
  have boxd : ∀ {h1 : VH}, Fr hb h1 X → h1.get h.n = .cells [.int .i64 kind, .string (strB nm), .string (strB to), .int .i64 c, .slice ba L bc, .slice ka M kc] true 1 := fun F => (F.get _ (by omega) (fun hx => by have := hXlt _ hx; omega)).trans cb
  have e0 : opL ⟨kind, nm, to, c, b, q⟩ bv kv = row := hrow.symm
  rw [e0, hrow2]
  by_cases k0 : kind = 0
  · subst k0
    have hs : opD S ⟨0, nm, to, c, b, q⟩ = (appD S nm b).2 := by simp [opD]
    rw [hs]
    simp (disch := first|omega|(simp only [np,ns];try omega)) [hone, ← hhb, cb, l6_0, l6_4]
    refine (lent_ok Bb O.bl).mono ?_
    rintro u h1 ⟨hl, F1, hid1⟩
    have k1 := kb.fr0 F1
    have n1 := F1.n
    obtain ⟨ua, uc, hu⟩ := hl.own.shape
    simp only [← hL] at hu
    have hlt1 : ∀ x ∈ idOf u, x < h1.n := hl.own.lt
    have c1 : h1.get h.n = .cells [.int .i64 0, .string (strB nm), .string (strB to), .int .i64 c, .slice ba L bc, .slice ka M kc] true 1 := (F1.get _ (by omega) (by simp)).trans cb
    have B1 := Bb.fr F1 (fun _ _ => by simp)
    have hux : ∀ x ∈ idOf u, x ∉ X := fun x hx hxX => by have := hid1 x hx; have := hXlt x hxX; omega
    have huy : ∀ x ∈ idOf u, x ∉ Y := fun x hx hxY => by have := hid1 x hx; have := hYlt x hxY; omega
    simp (disch := first|omega|(simp only [np,ns];try omega)) [c1, l6_1, l6_4]
    refine (append_ok k1.d ok O.nm hl.own.bytes hux O.bl).mono ?_
    rintro e h2 ⟨rfl, D2⟩
    obtain ⟨X', R', d2, m2⟩ := D2
    have c2 : h2.get h.n = .cells [.int .i64 0, .string (strB nm), .string (strB to), .int .i64 c, .slice ba L bc, .slice ka M kc] true 1 := (m2.fr.get _ (by omega) (fun hx => by have := hXlt _ hx; omega)).trans c1
    have B2 := B1.fr m2.fr (fun x hx hxX => by have := hbx x hx; have := k.hX x hxX; omega)
    have hl2 := hl.fr m2.fr hux
    simp (disch := first|omega|(simp only [np,ns];try omega)) [c2, l6_1, l6_4]
    refine (rappend_ok (k1.rd m2.fr) ok.ok O.nm B2 (fun x hx hxY => by have := hbx x hx; have := k.hY x hxY; omega) O.bl).mono ?_
    rintro e h3 ⟨rfl, R3⟩
    obtain ⟨Y', r3, m3⟩ := R3
    have n2 := m2.fr.n
    have n3 := m3.fr.n
    have c3 : h3.get h.n = .cells [.int .i64 0, .string (strB nm), .string (strB to), .int .i64 c, .slice ba L bc, .slice ka M kc] true 1 := (m3.fr.get _ (by omega) (fun hx => by have := hYlt _ hx; omega)).trans c2
    have B3 := B2.fr m3.fr (fun x hx hxY => by have := hbx x hx; have := k.hY x hxY; omega)
    have hl3 := hl2.fr m3.fr huy
    simp (disch := first|omega|(simp only [np,ns];try omega)) [c3, l6_4]
    refine (kept_ok hl3 B3 O.bl).mono ?_
    rintro e h4 ⟨rfl, rfl⟩
    simp (disch := first|omega|(simp only [np,ns];try omega)) []
    refine (spoil_ok hl3.own O.bl).mono ?_
    rintro e h5 F5
    simp (disch := first|omega|(simp only [np,ns];try omega)) [r_law06_call]
    obtain ⟨X2, R2, Y2, k3, hX2, hR2, hY2⟩ := k1.step ⟨X', R', d2, m2⟩ (Fr.refl _ _) ⟨Y', r3, m3⟩
    refine ⟨X2, R2, Y2, k3.frX F5 (fun z hz => ?_), ?_, fun x hx => (hX2 x hx).imp id (fun h => by omega), fun x hx => (hR2 x hx).imp id (fun h => by omega), fun x hx => (hY2 x hx).imp id (fun h => by omega)⟩
    case refine_2 =>
      have f1 : Fr h h4 (X ++ Y) := (((Fb.trans F1).sub (by simp)).trans (m2.fr.sub (fun x hx => List.mem_append_left _ hx))).trans (m3.fr.sub (fun x hx => List.mem_append_right _ hx))
      exact f1.trans' F5 (fun y hy => by have := hid1 y hy; exact .inr (by omega))
    have hz1 := hid1 z hz
    have hz2 := hlt1 z hz
    have hRlt : ∀ x ∈ R, x < h.n := k.d.rlt
    refine ⟨by omega, fun hx => ?_, fun hx => ?_, fun hx => ?_⟩
    · rcases hX2 z hx with h6 | h6
      · have := hXlt z h6; omega
      · omega
    · rcases hR2 z hx with h6 | h6
      · have := hRlt z h6; omega
      · omega
    · rcases hY2 z hx with h6 | h6
      · have := hYlt z h6; omega
      · omega
  have f0 : (kind == 0) = false := by simp [k0]
  by_cases k1 : kind = 1
  · subst k1
    have hs : opD S ⟨1, nm, to, c, b, q⟩ = (synD S nm).2 := by simp [opD]
    rw [hs]
    simp (disch := first|omega|(simp only [np,ns];try omega)) [hone, ← hhb, cb, l6_0, l6_1]
    refine (sync_ok Gb kb.d ok hn).mono ?_
    rintro e h2 ⟨rfl, X', R', d2, m2⟩
    have c2 := boxd m2.fr
    simp (disch := first|omega|(simp only [np,ns];try omega)) [c2, l6_1]
    refine (rsync_ok (kb.rd m2.fr) ok hn).mono ?_
    rintro e h3 ⟨rfl, R3⟩
    simp (disch := first|omega|(simp only [np,ns];try omega)) [r_law06_call]
    exact (kb.stepQ ⟨X', R', d2, m2⟩ (Fr.refl _ _) R3).pre Fb
  have f1 : (kind == 1) = false := by simp [k1]
  by_cases k2 : kind = 2
  · subst k2
    have hs : opD S ⟨2, nm, to, c, b, q⟩ = (cutD S nm c).2 := by simp [opD]
    rw [hs]
    simp (disch := first|omega|(simp only [np,ns];try omega)) [hone, ← hhb, cb, l6_0, l6_1, l6_3]
    refine (cut_ok Gb kb.d ok).mono ?_
    rintro e h2 ⟨rfl, X', R', d2, m2⟩
    have c2 := boxd m2.fr
    simp (disch := first|omega|(simp only [np,ns];try omega)) [c2, l6_1, l6_3]
    refine (rcut_ok (kb.rd m2.fr) ok.ok).mono ?_
    rintro e h3 ⟨rfl, R3⟩
    simp (disch := first|omega|(simp only [np,ns];try omega)) [r_law06_call]
    exact (kb.stepQ ⟨X', R', d2, m2⟩ (Fr.refl _ _) R3).pre Fb
  have f2 : (kind == 2) = false := by simp [k2]
  by_cases k3 : kind = 3
  · subst k3
    have hs : opD S ⟨3, nm, to, c, b, q⟩ = (renD S nm to).2 := by simp [opD]
    rw [hs]
    simp (disch := first|omega|(simp only [np,ns];try omega)) [hone, ← hhb, cb, l6_0, l6_1, l6_2]
    refine (rename_ok Gb kb.d ok O.to).mono ?_
    rintro e h2 ⟨rfl, X', R', d2, m2⟩
    have c2 := boxd m2.fr
    simp (disch := first|omega|(simp only [np,ns];try omega)) [c2, l6_1, l6_2]
    refine (rrename_ok (kb.rd m2.fr) ok.ok O.to).mono ?_
    rintro e h3 ⟨rfl, R3⟩
    simp (disch := first|omega|(simp only [np,ns];try omega)) [r_law06_call]
    exact (kb.stepQ ⟨X', R', d2, m2⟩ (Fr.refl _ _) R3).pre Fb
  have f3 : (kind == 3) = false := by simp [k3]
  by_cases k4 : kind = 4
  · subst k4
    have hs : opD S ⟨4, nm, to, c, b, q⟩ = (remD S nm).2 := by simp [opD]
    rw [hs]
    simp (disch := first|omega|(simp only [np,ns];try omega)) [hone, ← hhb, cb, l6_0, l6_1]
    refine (remove_ok Gb kb.d ok).mono ?_
    rintro e h2 ⟨rfl, X', R', d2, m2⟩
    have c2 := boxd m2.fr
    simp (disch := first|omega|(simp only [np,ns];try omega)) [c2, l6_1]
    refine (rremove_ok (kb.rd m2.fr) ok.ok).mono ?_
    rintro e h3 ⟨rfl, R3⟩
    simp (disch := first|omega|(simp only [np,ns];try omega)) [r_law06_call]
    exact (kb.stepQ ⟨X', R', d2, m2⟩ (Fr.refl _ _) R3).pre Fb
  have f4 : (kind == 4) = false := by simp [k4]
  by_cases k5 : kind = 5
  · subst k5
    have hs : opD S ⟨5, nm, to, c, b, q⟩ = (craD S (q.map (·.1))).2 := by simp [opD]
    rw [hs]
    simp (disch := first|omega|(simp only [np,ns];try omega)) [hone, ← hhb, cb, l6_0, l6_5]
    refine (dcrash_ok Gb kb.d ok (fun x hx hl => by have := k.hX x hx; omega) Qb).mono ?_
    rintro e h2 ⟨rfl, X', R', d2, m2⟩
    have c2 := boxd m2.fr
    simp (disch := first|omega|(simp only [np,ns];try omega)) [c2, l6_5]
    refine (rdcrash_ok (kb.rd m2.fr) ok.ok (fun x hx hl => by have := k.hY x hx; omega) (Qb.fr m2.fr (fun x hx hl => by have := k.hX x hx; omega))).mono ?_
    rintro e h3 ⟨rfl, R3⟩
    simp (disch := first|omega|(simp only [np,ns];try omega)) [r_law06_call]
    exact (kb.stepQ ⟨X', R', d2, m2⟩ (Fr.refl _ _) R3).pre Fb
  have f5 : (kind == 5) = false := by simp [k5]
  have hs : opD S ⟨kind, nm, to, c, b, q⟩ = S := by simp [opD, k0, k1, k2, k3, k4, k5]
  rw [hs]
  simp (disch := first|omega|(simp only [np,ns];try omega)) [hone, ← hhb, cb, l6_0, l6_1, f0, f1, f2, f3, f4, f5]
  refine (read_ok Gb kb.d ok.ok).mono ?_
  rintro u h1 ⟨v1, rfl, hb1⟩
  have c1 := (hb1.fr.get h.n (by omega) (by simp)).trans cb
  have kb1 := kb.fr0 hb1.fr
  simp (disch := first|omega|(simp only [np,ns];try omega)) [c1, l6_1]
  refine (rread_ok kb1.r ok.ok).mono ?_
  rintro u h2 ⟨v2, rfl, hb2⟩
  have c2 := (hb2.fr.get h.n (by have := hb1.fr.n; omega) (by simp)).trans c1
  have kb2 := kb1.fr0 hb2.fr
  simp (disch := first|omega|(simp only [np,ns];try omega)) [c2, l6_1]
  refine (len_ok (G.fr0 kb2.fr) kb2.d ok.ok).mono ?_
  rintro u h3 ⟨rfl, F3⟩
  have kb3 := kb2.fr0 F3
  obtain ⟨bs, hbs⟩ : ∃ bs, bs = (readD S nm).1 := ⟨_, rfl⟩
  obtain ⟨er, her⟩ : ∃ er : Int, er = ((readD S nm).2 : Int) := ⟨_, rfl⟩
  rw [← hbs] at hb1 hb2 ⊢
  rw [← her]
  obtain ⟨N, hN⟩ : ∃ N, N = bs.length := ⟨_, rfl⟩
  have hb13 := (hb1.step hb2.fr).step F3
  have o1 := ofB_eq hb13.is
  have o2 := ofB_eq (hb2.step F3).is
  obtain ⟨a1, d1, hv1⟩ := hb1.shape
  obtain ⟨a2, d2, hv2⟩ := hb2.shape
  rw [← hN] at hv1 hv2 ⊢
  subst hv1
  subst hv2
  have hbl : bs.length ≤ 1099511627000 := by
    rw [hbs]
    unfold readD
    split
    · simp
    · rename_i f hf
      have := (ok.ok.find hf).sz
      show f.all.length ≤ _
      omega
  simp (disch := first|omega|(simp only [np,ns];try omega)) [o1, o2]
  refine (spoil_ok hb13.own.p hbl).mono ?_
  rintro e h4 F4
  simp (disch := first|omega|(simp only [np,ns];try omega)) [r_law06_call]
  refine ⟨X, R, Y, kb3.frX F4 (fun z hz => ?_), (((Fb.trans hb1.fr).trans (hb2.fr.trans F3)).sub (by simp)).trans' F4 (fun y hy => by have := hb1.ids y hy; exact .inr (by omega)), fun x hx => .inl hx, fun x hx => .inl hx, fun x hx => .inl hx⟩
  have hz1 := hb1.ids z hz
  have hRlt : ∀ x ∈ R, x < h.n := k.d.rlt
  exact ⟨by omega, fun hx => by have := hXlt z hx; omega, fun hx => by have := hRlt z hx; omega, fun hx => by have := hYlt z hx; omega⟩

/- disk, part Za: scripts that came in; a disk behind calls. -/

theorem call_ok {h0 h : VH} {i ri : Nat} {S : Ds} {X R Y : List Nat} {n : Nat} {o : OpR} {bv kv : Value} (G : GOK h0) (k : Bo h0 h i ri S X R Y) (ok : OkN n S) (hn : n < 1000000) (O : OpAt h0.n h o bv kv) :
    PCalls Tryz.prog f_law06_call [.pointer (some ⟨i, 0, none⟩), .pointer (some ⟨ri, 0, none⟩), .agg (opL o bv kv).toArray] h (fun u h' => u = .bool true ∧ BoP h0 h' i ri (opD S o)) :=
  (callQ_ok G k ok hn O).mono fun u h' ⟨e, q⟩ => ⟨e, q.p⟩
theorem sl_lt {h : VH} {sz : Nat} {e : Ty} {v : Value} {k : Nat} (H : Sh h (.sl sz e) [v] k) : ∀ x ∈ idOf v, x < h.n := by
  rcases H with ⟨h1, rfl⟩ | ⟨i, n, c, cs, ow, es, h1, h2, h3, h4, h5, h6, h7, h8⟩
  · injection h1 with h1 _
    subst h1
    simp [idOf]
  · injection h1 with h1 _
    subst h1
    simp [idOf]
    exact h3
theorem ints_at {h : VH} {v : Value} {k : Nat} (hk : k ≤ 1099511627000) (H : Sh h (.sl 1 (.int .i64)) [v] k) : ∃ zs, IntsAt h v zs := by
  obtain ⟨l, h1, h2, h3⟩ := Sh.ints H
  exact ⟨l, h1, by omega⟩
abbrev keT : Ty := .cons 1 .str (.cons 1 (.sl 1 (.int .i64)) .nil)
theorem keeps_at {h : VH} {v : Value} {k : Nat} (hk : k ≤ 1048576) (H : Sh h (.sl 2 keT) [v] k) : ∃ q, KeepsAt (· < h.n) h v q := by
  obtain ⟨es, h1, h2, h3⟩ := Sh.rows H
  obtain ⟨q, q1, q2⟩ := choose_list (P := fun (x : List Value × Nat) (p : (List UInt8 × List Int) × Value) => x.1 = rowK p ∧ IntsAt h p.2 p.1.2 ∧ (∀ y ∈ idOf p.2, y < h.n) ∧ 1 ≤ x.2) (l := es) (fun x hx => by
    obtain ⟨hsh, hle⟩ := h2 x hx
    obtain ⟨v1, v2, k1, k2, e1, e2, e3, e4, e5⟩ := hsh
    obtain ⟨v3, v4, k3, k4, f1, f2, f3, f4, f5⟩ := e4
    obtain ⟨g1, g2⟩ := f4
    subst g1
    obtain ⟨x1, rfl⟩ := List.length_eq_one_iff.1 e2
    obtain ⟨x2, rfl⟩ := List.length_eq_one_iff.1 f2
    obtain ⟨s, rfl, hs⟩ := Sh.str e3
    obtain ⟨zs, hz⟩ := ints_at (by omega) f3
    exact ⟨((s, zs), x2), by rw [e1, f1]; rfl, hz, sl_lt f3, by omega⟩)
  have hm : es.map (·.1) = q.map rowK := by
    apply List.ext_getElem
    · simp [q1]
    · intro k h4 h5
      simp only [List.getElem_map]
      exact (q2 k (by simpa using h4) (by simpa using h5)).1
  have hq : ∀ p ∈ q, ∃ j, ∃ h1 : j < es.length, ∃ h2 : j < q.length, q[j] = p := fun p hp => by
    obtain ⟨j, hj, rfl⟩ := List.getElem_of_mem hp
    exact ⟨j, by omega, hj, rfl⟩
  refine ⟨q, by rw [← hm]; exact h1, fun p hp => ?_, fun p hp => ?_, sl_lt H, ?_⟩
  · obtain ⟨j, j1, j2, rfl⟩ := hq p hp
    exact (q2 j j1 j2).2.1
  · obtain ⟨j, j1, j2, rfl⟩ := hq p hp
    exact (q2 j j1 j2).2.2.1
  · have : ∀ (l : List (List Value × Nat)), (∀ x ∈ l, 1 ≤ x.2) → l.length ≤ (l.map (·.2)).sum := by
      intro l
      induction l with
      | nil => intro _; simp
      | cons y l ih =>
        intro hl
        rw [List.map_cons, List.sum_cons, List.length_cons]
        have := ih (fun x hx => hl x (List.mem_cons_of_mem _ hx))
        have := hl y (List.mem_cons_self ..)
        omega
    have := this es (fun x hx => by
      obtain ⟨j, hj, rfl⟩ := List.getElem_of_mem hx
      exact (q2 j hj (by omega)).2.2.2)
    omega
abbrev opT : Ty := .cons 1 (.int .i64) (.cons 1 .str (.cons 1 .str (.cons 1 (.int .i64) (.cons 1 (.sl 1 (.int .u8)) (.cons 1 (.sl 2 keT) .nil)))))
/-- a script that came in. -/
structure ScrAt (n0 : Nat) (h : VH) (v : Value) (l : List (OpR × Value × Value)) : Prop where
  rows : RowsAt h 6 v (l.map fun p => opL p.1 p.2.1 p.2.2)
  ops : ∀ p ∈ l, OpAt n0 h p.1 p.2.1 p.2.2
  ltv : ∀ x ∈ idOf v, x < n0
theorem ScrAt.fr {n0 : Nat} {h h' : VH} {X : List Nat} (hf : Fr h h' X) (hX : ∀ x ∈ X, n0 ≤ x) {v : Value} {l : List (OpR × Value × Value)} (K : ScrAt n0 h v l) : ScrAt n0 h' v l :=
  ⟨K.rows.fr hf (fun x hx hxX => by have := K.ltv x hx; have := hX x hxX; omega), fun p hp => (K.ops p hp).fr hf hX, K.ltv⟩
theorem ScrAt.shape {n0 : Nat} {h : VH} {v : Value} {l : List (OpR × Value × Value)} (K : ScrAt n0 h v l) : ∃ a c, v = .slice a l.length c := by
  obtain ⟨a, c, h1⟩ := K.rows.shape
  exact ⟨a, c, by simpa using h1⟩
theorem scr_at {h : VH} {v : Value} {k : Nat} (hk : k ≤ 1048576) (H : Sh h (.sl 6 opT) [v] k) : ∃ l, ScrAt h.n h v l ∧ l.length ≤ 1048576 := by
  obtain ⟨es, h1, h2, h3⟩ := Sh.rows H
  obtain ⟨q, q1, q2⟩ := choose_list (P := fun (x : List Value × Nat) (p : OpR × Value × Value) => x.1 = opL p.1 p.2.1 p.2.2 ∧ OpAt h.n h p.1 p.2.1 p.2.2 ∧ 1 ≤ x.2) (l := es) (fun x hx => by
    obtain ⟨hsh, hle⟩ := h2 x hx
    obtain ⟨v1, w1, k1, m1, e1, l1, s1, r1, t1⟩ := hsh
    obtain ⟨v2, w2, k2, m2, e2, l2, s2, r2, t2⟩ := r1
    obtain ⟨v3, w3, k3, m3, e3, l3, s3, r3, t3⟩ := r2
    obtain ⟨v4, w4, k4, m4, e4, l4, s4, r4, t4⟩ := r3
    obtain ⟨v5, w5, k5, m5, e5, l5, s5, r5, t5⟩ := r4
    obtain ⟨v6, w6, k6, m6, e6, l6, s6, r6, t6⟩ := r5
    obtain ⟨g1, g2⟩ := r6
    subst g1
    obtain ⟨x2, rfl⟩ := List.length_eq_one_iff.1 l2
    obtain ⟨x3, rfl⟩ := List.length_eq_one_iff.1 l3
    obtain ⟨x5, rfl⟩ := List.length_eq_one_iff.1 l5
    obtain ⟨x6, rfl⟩ := List.length_eq_one_iff.1 l6
    obtain ⟨kd, rfl, _, _, _⟩ := Sh.i64 s1
    obtain ⟨nm, rfl, hn⟩ := Sh.str s2
    obtain ⟨to, rfl, ht⟩ := Sh.str s3
    obtain ⟨c, rfl, _, _, _⟩ := Sh.i64 s4
    obtain ⟨b, hb, hbl⟩ := Sh.bytes s5
    obtain ⟨q, hq⟩ := keeps_at (by omega) s6
    refine ⟨(⟨kd, nm, to, c, b, q⟩, x5, x6), ?_, ⟨hb, hq, sl_lt s5, by show nm.length ≤ _; omega, by show to.length ≤ _; omega, by show b.length ≤ _; omega⟩, by omega⟩
    rw [e1, e2, e3, e4, e5, e6]
    rfl)
  have hm : es.map (·.1) = q.map fun p => opL p.1 p.2.1 p.2.2 := by
    apply List.ext_getElem
    · simp [q1]
    · intro k h4 h5
      simp only [List.getElem_map]
      exact (q2 k (by simpa using h4) (by simpa using h5)).1
  refine ⟨q, ⟨by rw [← hm]; exact h1, fun p hp => ?_, sl_lt H⟩, ?_⟩
  · obtain ⟨j, hj, rfl⟩ := List.getElem_of_mem hp
    exact (q2 j (by omega) hj).2.1
  · have : ∀ (l : List (List Value × Nat)), (∀ x ∈ l, 1 ≤ x.2) → l.length ≤ (l.map (·.2)).sum := by
      intro l
      induction l with
      | nil => intro _; simp
      | cons y l ih =>
        intro hl
        rw [List.map_cons, List.sum_cons, List.length_cons]
        have := ih (fun x hx => hl x (List.mem_cons_of_mem _ hx))
        have := hl y (List.mem_cons_self ..)
        omega
    have := this es (fun x hx => by
      obtain ⟨j, hj, rfl⟩ := List.getElem_of_mem hx
      exact (q2 j hj (by omega)).2.2)
    omega
theorem dnew_ok {h : VH} : PCalls Tryz.prog f_disk_New [] h (fun u h' => u = .pointer (some ⟨h.n + 1, 0, none⟩) ∧ DkAt h' (h.n + 1) Ds0 [h.n + 1, h.n] [] ∧ Fr h h' []) := by
  refine PCalls_of_pw st_disk_New (by simp [n_disk_New]) ?_
  rw [b_disk_New]
  unfold B_disk_New
  have hf : fillC [.map none, .int .i64 0] [(0, 1, .map (some h.n))] = some [.map (some h.n), .int .i64 0] := rfl
  obtain ⟨g1, hg1⟩ : ∃ g1, g1 = h.push (.map [] 0 true) := ⟨_, rfl⟩
  have n1 : g1.n = h.n + 1 := by rw [hg1]; rfl
  have F1 : Fr h g1 [] := by rw [hg1]; exact Fr_push (Fr.refl _ _)
  have hone : ([.map (some h.n), .int .i64 0] : List Value).all Value.oneCell' = true := rfl
  simp (disch := first|omega|(simp only [np,ns];try omega)) [r_disk_New, ← hg1, hf, hone, n1]
  have F2 : Fr h (g1.push (.cells [.map (some h.n), .int .i64 0] true 1)) [] := Fr_push F1
  refine ⟨⟨h.n, [], rfl, rfl, ?_, ?_, ?_, ?_, ?_, ?_, ?_, ?_, ?_⟩, F2⟩
  · simp; omega
  · simp; omega
  · simp [fpS]
  · simp [rdS]
  · rw [← n1, VH.get_push_new]; rfl
  · refine ⟨0, ?_, by simp⟩
    rw [VH.get_push_lt _ _ (by omega), hg1, VH.get_push_new]; rfl
  · simp
  · simp
  · exact List.Perm.refl _
def PlayedP (h0 : VH) (u : Value) (h' : VH) : Prop := ∃ i ri S, u = .tuple #[.pointer (some ⟨i, 0, none⟩), .pointer (some ⟨ri, 0, none⟩)] ∧ OkN 120 S ∧ BoP h0 h' i ri S
set_option maxHeartbeats 2000000 in
theorem played_ok {h0 : VH} {v : Value} {l : List (OpR × Value × Value)} (G : GOK h0) (H : ScrAt h0.n h0 v l) (hl : l.length ≤ 1048576) :
    PCalls Tryz.prog f_law06_played [v] h0 (PlayedP h0) := by
  refine PCalls_of_pw st_law06_played (by simp [n_law06_played]) ?_
  rw [b_law06_played]
  unfold B_law06_played
  obtain ⟨a, c, rfl⟩ := H.shape
  obtain ⟨L, hL⟩ : ∃ L, L = l.length := ⟨_, rfl⟩
  rw [← hL] at H hl
  rw [← hL]
  simp (disch := first|omega|(simp only [np,ns];try omega)) []
  refine dnew_ok.mono ?_
  rintro u h1 ⟨rfl, D1, F1⟩
  have n1 := F1.n
  have hfi : fillC [.slice none 0 0, .int .i64 0] [] = some [.slice none 0 0, .int .i64 0] := rfl
  have hone : ([.slice none 0 0, .int .i64 0] : List Value).all Value.oneCell' = true := rfl
  have hlt1 := D1.lt
  obtain ⟨h2, hh2⟩ : ∃ h2, h2 = h1.push (.cells [.slice none 0 0, .int .i64 0] true 1) := ⟨_, rfl⟩
  have F2 : Fr h1 h2 [] := by rw [hh2]; exact Fr_push (Fr.refl _ _)
  have n2 : h2.n = h1.n + 1 := by rw [hh2]; rfl
  have B2 : Bo h0 h2 (h0.n + 1) h1.n Ds0 [h0.n + 1, h0.n] [] [h1.n] := by
    refine ⟨D1.fr0 F2, ⟨.slice none 0 0, [], rfl, ⟨by omega, by simp [fpD, idOf], by rw [hh2, VH.get_push_new]; rfl, OwnSl.nil _ _, by simp, rfl⟩⟩, F1.trans F2, ?_, ?_, ?_, by simp⟩
    · intro x hx; simp at hx; omega
    · intro x hx; simp at hx; omega
    · intro x hx hy
      have := hlt1 x hx
      simp at hy; omega
  simp (disch := first|omega|(simp only [np,ns];try omega)) [hfi, hone, ← hh2]
  refine pw_loopN (fun n s g => ∃ S, BoP h0 g (h0.n + 1) h1.n S ∧ OkN n S ∧ n ≤ 120 ∧ s 0 = .slice a L c ∧ s 4 = .pointer (some ⟨h0.n + 1, 0, none⟩) ∧ s 5 = .pointer (some ⟨h1.n, 0, none⟩) ∧ s 6 = .int .i64 (n : Int)) (min L 120) ?_ ?_
  · exact ⟨Ds0, ⟨_, _, _, B2⟩, OkN0, by omega, by simp [upd_apply, s0_apply], by simp [upd_apply], by simp [upd_apply], by simp [upd_apply]⟩
  rintro n s g hn ⟨S, ⟨X, R, Y, k⟩, ok, hn120, e0, e4, e5, e6⟩
  by_cases hlt : n < min L 120
  · have hltL : n < L := by omega
    have hltI : (n : Int) < (L : Int) := by omega
    have h120 : n < 120 := by omega
    have h120I : (n : Int) < 120 := by omega
    have hkk : IntKind.i64.wrap ((n : Int) + 1) = ((n + 1 : Nat) : Int) := by rw [i64_small (by omega) (by omega)]; omega
    have Hg := H.fr k.fr (by simp)
    obtain ⟨q, o, rfl, hq, hez, hld, _⟩ := Hg.rows.at_ (k := n) (by simp; omega)
    have hel : (l.map fun p => opL p.1 p.2.1 p.2.2)[n]'(by simp; omega) = opL (l[n]'(by omega)).1 (l[n]'(by omega)).2.1 (l[n]'(by omega)).2.2 := by simp
    rw [hel] at hld
    have hO := Hg.ops (l[n]'(by omega)) (List.getElem_mem _)
    obtain ⟨p, hp⟩ : ∃ p, p = l[n]'(by omega) := ⟨_, rfl⟩
    rw [← hp] at hld hO
    simp (disch := first|omega|(simp only [np,ns];try omega)) [e0, e4, e5, e6, hltL, hltI, h120, h120I, hez, hld]
    refine (call_ok G k ok (by omega) hO).mono ?_
    rintro u g2 ⟨rfl, k2⟩
    simp (disch := first|omega|(simp only [np,ns];try omega)) [e0, e4, e5, e6, hkk]
    exact ⟨by omega, opD S p.1, k2, opD_ok ok p.1, by omega⟩
  · obtain rfl : n = min L 120 := by omega
    have hfin : BoP h0 g (h0.n + 1) h1.n S := ⟨X, R, Y, k⟩
    by_cases hLL : L ≤ 120
    · have hm : min L 120 = L := by omega
      rw [hm] at e6 ok
      simp (disch := first|omega|(simp only [np,ns];try omega)) [r_law06_played, e0, e4, e5, e6]
      exact ⟨_, _, S, rfl, ok.le hLL, hfin⟩
    · have hm : min L 120 = 120 := by omega
      rw [hm] at e6 ok
      have hltI : (120 : Int) < (L : Int) := by omega
      have hlt2 : 120 < L := by omega
      have e6' : s 6 = .int .i64 120 := e6
      simp (disch := first|omega|(simp only [np,ns];try omega)) [r_law06_played, e0, e4, e5, e6', hltI, hlt2]
      exact ⟨_, _, S, rfl, ok, hfin⟩
end Go.Proofs.YtgnmhonbcejnfaaGreatDoor.Dk
