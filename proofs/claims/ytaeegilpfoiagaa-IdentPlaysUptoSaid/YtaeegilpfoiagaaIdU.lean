/- ident, part U: both tables side by side. -/
import Derived.Test.YtaeegilpfoiagaaIdT
set_option linter.unusedVariables false
set_option linter.unusedSimpArgs false
set_option maxRecDepth 100000
namespace Go.Proofs.Ytaeegilpfoiagaa.Id
open Go Go.RowKit Go.Proofs.Ytaeegilpfoiagaa.Pm Go.Proofs.Ytaeegilpfoiagaa.Fs


structure AlkB (h : VH) (i j r : Nat) (v : Value) : Prop where
  i : i < h.n
  j : j < h.n
  r : r < h.n
  v : ∀ x ∈ idOf v, x < h.n
structure Alk (h g : VH) (i j r : Nat) (v : Value) (L : List Ss) (clk : Nat) (last : Int) : Prop where
  tab : TabL g i j L clk last
  ref : RTab g r v L last
  fr : Fr h g []
  b3 : g.get h.n = .cells [.pointer (some ⟨r, 0, none⟩)] true 1
  b4 : g.get (h.n + 1) = .cells [.bool false] true 1
  n : h.n + 2 ≤ g.n
theorem Alk.step {h g g' : VH} {i j r : Nat} {v : Value} {L : List Ss} {clk : Nat} {last : Int} {X : List Nat} (k : Alk h g i j r v L clk last) (b : AlkB h i j r v) (F : Fr g g' X) (hX : ∀ x ∈ X, h.n + 2 ≤ x) : Alk h g' i j r v L clk last := by
  have hb := b.i
  have hj := b.j
  have hr := b.r
  have hn := k.n
  have hn' := F.n
  exact ⟨k.tab.frX F (fun hx => by have := hX _ hx; omega) (fun hx => by have := hX _ hx; omega), k.ref.fr F (fun hx => by have := hX _ hx; omega) (fun x hx hx2 => by have := hX _ hx2; have := b.v x hx; omega), k.fr.trans' F (fun x hx => .inr (by have := hX _ hx; omega)),
    by rw [F.get _ (by omega) (fun hx => by have := hX _ hx; omega)]; exact k.b3, by rw [F.get _ (by omega) (fun hx => by have := hX _ hx; omega)]; exact k.b4, by omega⟩
theorem Alk.row {h g : VH} {i j r N c n : Nat} {a : Option Addr} {L : List Ss} {clk : Nat} {last : Int} (k : Alk h g i j r (.slice a N c) L clk last) (hn : n < L.length) :
    ∃ q o ds, a = some ⟨q, o, none⟩ ∧ g.get q = .cells ds true 5 ∧ eszObj (.cells ds true 5) 5 = true ∧ loadObj (.cells ds true 5) (o + n * 5) none = some (.int .i64 L[n].id) ∧ loadObj (.cells ds true 5) (o + n * 5 + 1) none = some (.string (strB L[n].x)) := by
  have k' := k.ref
  rw [at_split hn] at k'
  obtain ⟨q, o, c', ds, hv, _, _, hg, hez, _, _, hl0, hl1, _⟩ := k'.row
  have htl : (L.take n).length = n := by rw [List.length_take]; omega
  rw [htl] at hl0 hl1
  injection hv with hv _ _
  exact ⟨q, o, ds, hv, hg, hez, hl0, hl1⟩
theorem Alk.row' {h g : VH} {i j r N c n q o : Nat} {L : List Ss} {clk : Nat} {last : Int} (k : Alk h g i j r (.slice (some ⟨q, o, none⟩) N c) L clk last) (hn : n < L.length) :
    ∃ ds, g.get q = .cells ds true 5 ∧ eszObj (.cells ds true 5) 5 = true ∧ loadObj (.cells ds true 5) (o + n * 5) none = some (.int .i64 L[n].id) ∧ loadObj (.cells ds true 5) (o + n * 5 + 1) none = some (.string (strB L[n].x)) := by
  obtain ⟨q', o', ds, ha, h1, h2, h3, h4⟩ := k.row hn
  injection ha with ha
  injection ha with ha hb
  subst ha
  subst hb
  exact ⟨ds, h1, h2, h3, h4⟩

/-- the last number told. -/
def lastS (ids : List Int) (m : Nat) : Int := if m = 0 then 0 else ids.getD (m - 1) 0
theorem lastS_lt {ids : List Int} {m : Nat} (hm : m < ids.length) (hs : ids.Pairwise (· < ·)) (hp : ∀ x ∈ ids, 1 ≤ x) : lastS ids m < ids[m] := by
  unfold lastS
  split
  · have := hp _ (List.getElem_mem hm); omega
  · rename_i h0
    have h1 : m - 1 < ids.length := by omega
    rw [List.getD_eq_getElem?_getD, List.getElem?_eq_getElem h1]
    exact (List.pairwise_iff_getElem.1 hs) (m - 1) m h1 hm (by omega)
theorem lastS_succ {ids : List Int} {m : Nat} (hm : m < ids.length) : lastS ids (m + 1) = ids[m] := by
  unfold lastS
  rw [if_neg (by omega), Nat.add_sub_cancel, List.getD_eq_getElem?_getD, List.getElem?_eq_getElem hm]
  rfl
def hasS (ids : List Int) (id : Int) (m : Nat) : Bool := (ids.take m).any (· == id)
theorem hasS_succ {ids : List Int} {id : Int} {m : Nat} (hm : m < ids.length) : hasS ids id (m + 1) = (hasS ids id m || ids[m] == id) := by
  unfold hasS
  rw [List.take_succ_eq_append_getElem hm, List.any_append]
  simp only [List.any_cons, List.any_nil, Bool.or_false]
theorem hasS_all {ids : List Int} {id : Int} (h : id ∈ ids) : hasS ids id ids.length = true := by
  unfold hasS
  rw [List.take_length, List.any_eq_true]
  exact ⟨id, h, by simp⟩
theorem ofS_take {tn : List UInt8} {L : List Ss} {n : Nat} (hn : n < L.length) : (ofS tn (L.take (n + 1))).length = (ofS tn (L.take n)).length + (if L[n].x = tn then 1 else 0) := by
  rw [List.take_succ_eq_append_getElem hn]
  by_cases h : L[n].x = tn
  · rw [ofS_yes h, if_pos h]; simp
  · rw [ofS_no h, if_neg h]; rfl

def AlkO (h : VH) (i j r : Nat) (v : Value) (L : List Ss) (clk : Nat) (last : Int) (n : Nat) (s : Slots) (g : VH) : Prop :=
  ∃ ci, Alk h g i j r v L clk last ∧ g.get ci = .cells [.int .i64 (n : Int)] true 1 ∧ ci < g.n ∧ h.n + 2 ≤ ci ∧ s 0 = .pointer (some ⟨i, 0, none⟩) ∧ s 3 = .pointer (some ⟨h.n, 0, none⟩) ∧ s 4 = .pointer (some ⟨h.n + 1, 0, none⟩) ∧ s 5 = .pointer (some ⟨ci, 0, none⟩)
def RndJ (h H : VH) (i j r : Nat) (v : Value) (L : List Ss) (clk : Nat) (last : Int) (ids : List Int) (id : Int) (c7 c8 c9 y : Nat) (Lk : LoopKey) (m : Nat) (g : VH) : Prop :=
  Alk h g i j r v L clk last ∧ Fr H g [c7, c8, c9, y] ∧ g.get c7 = .cells [.bool (hasS ids id m)] true 1 ∧ g.get c8 = .cells [.int .i64 (lastS ids m)] true 1 ∧ g.get c9 = .cells [.int .i64 (m : Int)] true 1 ∧ g.get y = .loop Lk .ready none
def CntJ (h : VH) (i j r : Nat) (v : Value) (L : List Ss) (clk : Nat) (last : Int) (tn : List UInt8) (n ci c7 c9 : Nat) (m : Nat) (s : Slots) (g : VH) : Prop :=
  Alk h g i j r v L clk last ∧ (ci < g.n ∧ c7 < g.n ∧ c9 < g.n) ∧ g.get ci = .cells [.int .i64 (n : Int)] true 1 ∧ g.get c7 = .cells [.bool true] true 1 ∧ g.get c9 = .cells [.int .i64 (((ofS tn L).length : Int) - ((ofS tn (L.take m)).length : Int))] true 1 ∧
    s 0 = .pointer (some ⟨i, 0, none⟩) ∧ s 3 = .pointer (some ⟨h.n, 0, none⟩) ∧ s 4 = .pointer (some ⟨h.n + 1, 0, none⟩) ∧ s 5 = .pointer (some ⟨ci, 0, none⟩) ∧ s 7 = .pointer (some ⟨c7, 0, none⟩) ∧ s 9 = .pointer (some ⟨c9, 0, none⟩) ∧ s 11 = .int .i64 (m : Int)
theorem lb_0 {v : Value} {ow : Bool} {e : Nat} : loadObj (.cells [v] ow e) 0 none = some v := rfl
theorem sb_i {v : Value} {e : Nat} {k : Int} : storeObj (.cells [v] true e) 0 1 (.int .i64 k) = some (.cells [.int .i64 k] true e) := rfl
theorem sb_b {v : Value} {e : Nat} {k : Bool} : storeObj (.cells [v] true e) 0 1 (.bool k) = some (.cells [.bool k] true e) := rfl
set_option maxHeartbeats 8000000 in
theorem alike_ok (hso : SortsI Try.prog f_slices_Sort_int64_int64) {h : VH} {i j r : Nat} {v : Value} {L : List Ss} {clk : Nat} {last : Int} (T : TabL h i j L clk last) (R : RTab h r v L last) (hL : L.length ≤ 64) :
    PCalls Try.prog f_law10_alike [.pointer (some ⟨i, 0, none⟩), .pointer (some ⟨r, 0, none⟩)] h (fun u h' => u = .bool true ∧ Fr h h' []) := by
  refine PCalls_of_pw st_law10_alike (by simp [n_law10_alike]) ?_
  rw [b_law10_alike]
  unfold B_law10_alike
  have hb : AlkB h i j r v := ⟨T.tab.lti, T.tab.ltj, R.lt, fun x hx => R.own.lt x hx⟩
  obtain ⟨a, c, hv⟩ := R.own.shapeN
  subst hv
  obtain ⟨N, hN⟩ : ∃ N, N = L.length := ⟨_, rfl⟩
  have hone : [Value.pointer (some ⟨r, 0, none⟩)].all Value.oneCell' = true := rfl
  obtain ⟨g1, hg1⟩ : ∃ g1, g1 = (h.push (.cells [.pointer (some ⟨r, 0, none⟩)] true 1)).push (.cells [.bool false] true 1) := ⟨_, rfl⟩
  have f1 : Fr h g1 [] := by rw [hg1]; exact Fr_push (Fr_push (Fr.refl _ _))
  have n1 : g1.n = h.n + 2 := by rw [hg1]; rfl
  have A1 : Alk h g1 i j r (.slice a L.length c) L clk last := ⟨T.fr f1, R.fr0 f1, f1, by rw [hg1, VH.get_push_lt _ _ (by simp), VH.get_push_new], by rw [hg1]; exact VH.get_push_at (by simp), by omega⟩
  rw [← hN] at A1 hb
  have r1 := A1.ref.rec_
  have b3 := A1.b3
  simp (disch := first|omega|(simp only [np,ns];try omega)) [hone, ← hg1, b3, lb_0, r1, lr_0]
  refine (lenL_ok A1.tab).mono ?_
  rintro u g2 ⟨rfl, rfl⟩
  rw [← hN]
  have hnn : ((N : Int) != (N : Int)) = false := by simp
  obtain ⟨g3, hg3⟩ : ∃ g3, g3 = (g2.push (.cells [.int .i64 0] true 1)).set g2.n (.cells [.int .i64 0] true 1) := ⟨_, rfl⟩
  have f3 : Fr g2 g3 [] := by rw [hg3]; exact Fr_set (Fr_push (Fr.refl _ _)) (Nat.le_refl _)
  have n3 : g3.n = g2.n + 1 := by rw [hg3]; rfl
  have A3 := A1.step hb f3 (fun _ hx => by simp at hx)
  simp (disch := first|omega|(simp only [np,ns];try omega)) [b3, lb_0, r1, lr_0, hnn, sb_i, ← hg3]
  refine pw_loopN (AlkO h i j r (.slice a N c) L clk last) N ?_ ?_
  · exact ⟨g2.n, A3, by rw [hg3, VH.get_set_same]; rfl, by omega, by omega, by simp [upd_apply, s0_apply], by simp [upd_apply, s0_apply], by simp [upd_apply, s0_apply, n1], by simp [upd_apply, s0_apply]⟩
  rintro n s g hn ⟨ci, A, hci, hcn, hci2, e0, e3, e4, e5⟩
  have hr := A.ref.rec_
  have hb3 := A.b3
  have hb4 := A.b4
  by_cases hlt : n < N
  · have hltI : (n : Int) < (N : Int) := by omega
    have hnL : n < L.length := by omega
    obtain ⟨q, o, ds, ha, hq, hez, hl0, hl1⟩ := A.row hnL
    subst ha
    obtain ⟨S, hS⟩ : ∃ S, S = L[n] := ⟨_, rfl⟩
    rw [← hS] at hl0 hl1
    simp (disch := first|omega|(simp only [np,ns];try omega)) [e3, e5, hci, lb_0, hb3, hr, lr_0, hlt, hltI, e0, hq, hez, hl1]
    refine of_ok.mono ?_
    rintro u g5 ⟨rfl, hg5⟩
    have f5 : Fr g g5 [] := by rw [hg5]; exact Fr_push (Fr_push (Fr.refl _ _))
    have n5 : g5.n = g.n + 2 := by rw [hg5]; rfl
    have bt5 : g5.get g.n = .cells [.pointer (some ⟨i, 0, none⟩)] true 1 := by rw [hg5, VH.get_push_lt _ _ (by simp), VH.get_push_new]
    have bs5 : g5.get (g.n + 1) = .cells [.string (strB S.x)] true 1 := by rw [hg5]; exact VH.get_push_at (by simp)
    obtain ⟨g6, hg6⟩ : ∃ g6, g6 = (g5.push (.cells [.bool false] true 1)).set g5.n (.cells [.bool false] true 1) := ⟨_, rfl⟩
    have f6 : Fr g5 g6 [] := by rw [hg6]; exact Fr_set (Fr_push (Fr.refl _ _)) (Nat.le_refl _)
    have n6 : g6.n = g.n + 3 := by rw [hg6]; show g5.n + 1 = _; omega
    have c76 : g6.get g5.n = .cells [.bool false] true 1 := by rw [hg6, VH.get_set_same]
    obtain ⟨g7, hg7⟩ : ∃ g7, g7 = (g6.push (.cells [.int .i64 0] true 1)).set g6.n (.cells [.int .i64 0] true 1) := ⟨_, rfl⟩
    have f7 : Fr g6 g7 [] := by rw [hg7]; exact Fr_set (Fr_push (Fr.refl _ _)) (Nat.le_refl _)
    have n7 : g7.n = g.n + 4 := by rw [hg7]; show g6.n + 1 = _; omega
    have c87 : g7.get g6.n = .cells [.int .i64 0] true 1 := by rw [hg7, VH.get_set_same]
    obtain ⟨g8, hg8⟩ : ∃ g8, g8 = (g7.push (.cells [.int .i64 0] true 1)).set g7.n (.cells [.int .i64 0] true 1) := ⟨_, rfl⟩
    have f8 : Fr g7 g8 [] := by rw [hg8]; exact Fr_set (Fr_push (Fr.refl _ _)) (Nat.le_refl _)
    have n8 : g8.n = g.n + 5 := by rw [hg8]; show g7.n + 1 = _; omega
    have c98 : g8.get g7.n = .cells [.int .i64 0] true 1 := by rw [hg8, VH.get_set_same]
    have gn2 := A.n
    have F8 : Fr g g8 [] := f5.trans (f6.trans (f7.trans f8))
    have A8 := A.step hb F8 (fun _ hx => by simp at hx)
    simp (disch := first|omega|(simp only [np,ns];try omega)) [e3, e4, e5, sb_b, sb_i, ← hg6, ← hg7, ← hg8]
    refine pw_rangeF_rule (by simp only [ev_t, upd_apply, if_true]; rfl) (by kernel_rfl) (fun Lk hY => ?_)
    obtain ⟨H, hH⟩ : ∃ H, H = g8.push (.loop Lk .ready none) := ⟨_, rfl⟩
    have fH : Fr g8 H [] := by rw [hH]; exact Fr_push (Fr.refl _ _)
    have Hn : H.n = g.n + 6 := by rw [hH]; show g8.n + 1 = _; omega
    have Hy : H.get g8.n = .loop Lk .ready none := by rw [hH, VH.get_push_new]
    rw [← hH]
    have AH := A8.step hb fH (fun _ hx => by simp at hx)
    have btH : H.get g.n = .cells [.pointer (some ⟨i, 0, none⟩)] true 1 := ((f6.trans (f7.trans (f8.trans fH))).get _ (by omega) (by simp)).trans bt5
    have bsH : H.get (g.n + 1) = .cells [.string (strB S.x)] true 1 := ((f6.trans (f7.trans (f8.trans fH))).get _ (by omega) (by simp)).trans bs5
    have c7H : H.get g5.n = .cells [.bool false] true 1 := ((f7.trans (f8.trans fH)).get _ (by omega) (by simp)).trans c76
    have c8H : H.get g6.n = .cells [.int .i64 0] true 1 := ((f8.trans fH).get _ (by omega) (by simp)).trans c87
    have c9H : H.get g7.n = .cells [.int .i64 0] true 1 := (fH.get _ (by omega) (by simp)).trans c98
    have ciH : H.get ci = .cells [.int .i64 (n : Int)] true 1 := ((F8.trans fH).get _ (by omega) (by simp)).trans hci
    obtain ⟨ids, hids⟩ : ∃ ids, ids = ofS S.x L := ⟨_, rfl⟩
    have hSL : S ∈ L := by rw [hS]; exact List.getElem_mem _
    have hin : S.id ∈ ids := by rw [hids]; exact List.mem_map_of_mem (List.mem_filter.2 ⟨hSL, by simp⟩)
    have hsort : ids.Pairwise (· < ·) := by rw [hids]; exact ofS_sorted T.ok
    have hpos : ∀ x ∈ ids, 1 ≤ x := by
      intro x hx
      rw [hids] at hx
      obtain ⟨z, hz, rfl⟩ := List.mem_map.1 hx
      exact T.ok.pos z (List.mem_filter.1 hz).1
    have hlen0 : 0 < ids.length := List.length_pos_of_mem hin
    have hlen64 : ids.length ≤ 64 := by have := ofS_len S.x L; rw [hids]; omega
    refine PCalls.mono (seq_ok hso (y := g8.n) (bt := g.n) (bs := g.n + 1) (i := i) (j := j) (tn := S.x) (L := L)
      (RndJ h H i j r (.slice (some ⟨q, o, none⟩) N c) L clk last ids S.id g5.n g6.n g7.n g8.n Lk) (fun _ => False) [g5.n, g6.n, g7.n, g8.n] ?_ ?_ btH bsH (by omega) (by omega) AH.tab ?_ hL (by rw [← hids]; exact hlen0) ?_) ?_
    · rintro m g' g'' ⟨b1, b2, b3, b4, b5, b6⟩ hf
      have hn := b2.n
      exact ⟨b1.step hb hf (fun _ hx => by simp at hx), b2.trans (hf.sub (by simp)), (hf.get _ (by omega) (by simp)).trans b3, (hf.get _ (by omega) (by simp)).trans b4, (hf.get _ (by omega) (by simp)).trans b5, (hf.get _ (by omega) (by simp)).trans b6⟩
    · intro x hx
      simp at hx
      omega
    · exact ⟨AH, Fr.refl _ _, c7H, c8H, c9H, Hy⟩
    · rw [← hids]
      rintro m hm g' ⟨B1, b2, b3, b4, b5, b6⟩ hHg
      have hn2 := b2.n
      refine hY _ _ g' none _ b6 rfl ?_
      show pw _ _ _ _ (kRound Try.prog _ g8.n Lk _)
      have hlt2 := lastS_lt hm hsort hpos
      have hls := lastS_succ hm
      have hhs := hasS_succ (id := S.id) hm
      obtain ⟨x, hx⟩ : ∃ x, x = ids[m] := ⟨_, rfl⟩
      rw [← hx] at hlt2 hls hhs ⊢
      have hnle : ¬ x ≤ lastS ids m := by omega
      simp (disch := first|omega|(simp only [np,ns];try omega)) [putAll]
      rw [kRound_normal]
      refine ⟨none, b6, ?_⟩
      obtain ⟨G2, hG2⟩ : ∃ G2, G2 = g'.set g8.n (.loop Lk .busy none) := ⟨_, rfl⟩
      rw [← hG2]
      have fG2 : Fr g' G2 [g8.n] := by rw [hG2]; exact Fr.set _ _ (by simp)
      have G2n : G2.n = g'.n := by rw [hG2]; rfl
      have G2y : G2.get g8.n = .loop Lk .busy none := by rw [hG2, VH.get_set_same]
      obtain ⟨G3, hG3⟩ : ∃ G3, G3 = G2.set g6.n (.cells [.int .i64 x] true 1) := ⟨_, rfl⟩
      have fG3 : Fr G2 G3 [g6.n] := by rw [hG3]; exact Fr.set _ _ (by simp)
      have G3n : G3.n = g'.n := by rw [hG3]; exact G2n
      have c8G : G2.get g6.n = .cells [.int .i64 (lastS ids m)] true 1 := (fG2.get _ (by omega) (by simp; omega)).trans b4
      have c7G : G3.get g5.n = .cells [.bool (hasS ids S.id m)] true 1 := (fG3.get _ (by omega) (by simp; omega)).trans ((fG2.get _ (by omega) (by simp; omega)).trans b3)
      have c9G : G3.get g7.n = .cells [.int .i64 (m : Int)] true 1 := (fG3.get _ (by omega) (by simp; omega)).trans ((fG2.get _ (by omega) (by simp; omega)).trans b5)
      have ciG : G3.get ci = .cells [.int .i64 (n : Int)] true 1 := (fG3.get _ (by omega) (by simp; omega)).trans ((fG2.get _ (by omega) (by simp; omega)).trans ((b2.get _ (by omega) (by simp; omega)).trans ciH))
      have yG : G3.get g8.n = .loop Lk .busy none := (fG3.get _ (by omega) (by simp; omega)).trans G2y
      have A3' := (B1.step hb fG2 (fun _ hx => by simp at hx; omega)).step hb fG3 (fun _ hx => by simp at hx; omega)
      obtain ⟨M1, hM1⟩ : ∃ M1, M1 = m + 1 := ⟨_, rfl⟩
      have eW : IntKind.i64.wrap ((m : Int) + 1) = (M1 : Int) := by rw [i64_small (by omega) (by omega)]; omega
      have r3' := A3'.ref.rec_
      have b3' := A3'.b3
      obtain ⟨ds', hq', hez', hl0', _⟩ := A3'.row' hnL
      rw [← hS] at hl0'
      obtain ⟨G4, hG4⟩ : ∃ G4, G4 = G3.set g5.n (.cells [.bool (hasS ids S.id (m + 1))] true 1) := ⟨_, rfl⟩
      have fG4 : Fr G3 G4 [g5.n] := by rw [hG4]; exact Fr.set _ _ (by simp)
      have G4n : G4.n = g'.n := by rw [hG4]; exact G3n
      have c9G4 : G4.get g7.n = .cells [.int .i64 (m : Int)] true 1 := (fG4.get _ (by omega) (by simp; omega)).trans c9G
      obtain ⟨G5, hG5⟩ : ∃ G5, G5 = G4.set g7.n (.cells [.int .i64 (M1 : Int)] true 1) := ⟨_, rfl⟩
      have fG5 : Fr G4 G5 [g7.n] := by rw [hG5]; exact Fr.set _ _ (by simp)
      have G5n : G5.n = g'.n := by rw [hG5]; exact G4n
      obtain ⟨G6, hG6⟩ : ∃ G6, G6 = G5.set g8.n (.loop Lk .ready none) := ⟨_, rfl⟩
      have fG6 : Fr G5 G6 [g8.n] := by rw [hG6]; exact Fr.set _ _ (by simp)
      have G6n : G6.n = g'.n := by rw [hG6]; exact G5n
      have y5 : G5.get g8.n = .loop Lk .busy none := (fG5.get _ (by omega) (by simp; omega)).trans ((fG4.get _ (by omega) (by simp; omega)).trans yG)
      have FF : Fr g' G6 [g5.n, g6.n, g7.n, g8.n] := (fG2.sub (by simp)).trans ((fG3.sub (by simp)).trans ((fG4.sub (by simp)).trans ((fG5.sub (by simp)).trans (fG6.sub (by simp)))))
      have fin : RndJ h H i j r (.slice (some ⟨q, o, none⟩) N c) L clk last ids S.id g5.n g6.n g7.n g8.n Lk (m + 1) G6 := by
        refine ⟨B1.step hb FF (fun _ hx => by simp at hx; omega), b2.trans FF, ?_, ?_, ?_, by rw [hG6, VH.get_set_same]⟩
        · rw [fG6.get _ (by omega) (by simp; omega), fG5.get _ (by omega) (by simp; omega), hG4, VH.get_set_same]
        · rw [fG6.get _ (by omega) (by simp; omega), fG5.get _ (by omega) (by simp; omega), fG4.get _ (by omega) (by simp; omega), hG3, VH.get_set_same, hls]
        · rw [fG6.get _ (by omega) (by simp; omega), hG5, VH.get_set_same, hM1]
      cases hh : hasS ids S.id m with
      | true =>
        rw [hh] at c7G hhs
        rw [Bool.true_or] at hhs
        rw [hhs] at hG4
        simp (disch := first|omega|(simp only [np,ns];try omega)) [e3, e4, e5, c8G, lb_0, hnle, sb_i, ← hG3, c7G, sb_b, ← hG4, c9G4, eW, ← hG5]
        refine rndEnd_normal (pe := none) y5 ?_
        rw [← hG6]
        exact ⟨rfl, fin, FF⟩
      | false =>
        rw [hh] at c7G hhs
        rw [Bool.false_or] at hhs
        rw [hhs] at hG4
        simp (disch := first|omega|(simp only [np,ns];try omega)) [e3, e4, e5, c8G, lb_0, hnle, sb_i, ← hG3, c7G, b3', r3', lr_0, ciG, hlt, hltI, hq', hez', hl0', sb_b, ← hG4, c9G4, eW, ← hG5]
        refine rndEnd_normal (pe := none) y5 ?_
        rw [← hG6]
        exact ⟨rfl, fin, FF⟩
    · rw [← hids]
      rintro u g' (⟨B1, b2, b3, b4, b5, b6⟩ | hF)
      · rw [hasS_all hin] at b3
        refine ⟨.ready, none, b6, by simp, ?_⟩
        show kBlock 2 _ _ _ _
        have hn3 := b2.n
        obtain ⟨K, hK⟩ : ∃ K, K = g'.set g8.n .dead := ⟨_, rfl⟩
        have fK : Fr g' K [g8.n] := by rw [hK]; exact Fr.set _ _ (by simp)
        have Kn : K.n = g'.n := by rw [hK]; rfl
        have AK := B1.step hb fK (fun _ hx => by simp at hx; omega)
        have c7K : K.get g5.n = .cells [.bool true] true 1 := (fK.get _ (by omega) (by simp; omega)).trans b3
        have c9K : K.get g7.n = .cells [.int .i64 (ids.length : Int)] true 1 := (fK.get _ (by omega) (by simp; omega)).trans b5
        have btK : K.get g.n = .cells [.pointer (some ⟨i, 0, none⟩)] true 1 := (fK.get _ (by omega) (by simp; omega)).trans ((b2.get _ (by omega) (by simp; omega)).trans btH)
        have bsK : K.get (g.n + 1) = .cells [.string (strB S.x)] true 1 := (fK.get _ (by omega) (by simp; omega)).trans ((b2.get _ (by omega) (by simp; omega)).trans bsH)
        have ciK : K.get ci = .cells [.int .i64 (n : Int)] true 1 := (fK.get _ (by omega) (by simp; omega)).trans ((b2.get _ (by omega) (by simp; omega)).trans ciH)
        simp (disch := first|omega|(simp only [np,ns];try omega)) [← hK]
        refine pw_rangeF_rule (by simp only [ev_t, upd_apply, if_true]; rfl) (by kernel_rfl) (fun L2 hY2 => ?_)
        obtain ⟨H2, hH2⟩ : ∃ H2, H2 = K.push (.loop L2 .ready none) := ⟨_, rfl⟩
        have fH2 : Fr K H2 [] := by rw [hH2]; exact Fr_push (Fr.refl _ _)
        have H2n : H2.n = K.n + 1 := by rw [hH2]; rfl
        have H2y : H2.get K.n = .loop L2 .ready none := by rw [hH2, VH.get_push_new]
        rw [← hH2]
        have AH2 := AK.step hb fH2 (fun _ hx => by simp at hx)
        refine PCalls.mono (seq_ok hso (y := K.n) (bt := g.n) (bs := g.n + 1) (i := i) (j := j) (tn := S.x) (L := L)
          (fun m g => m = 0 ∧ g.get K.n = .loop L2 .ready none ∧ Fr H2 g [K.n]) (fun g => g.get K.n = .loop L2 .done (some (.exit 4)) ∧ Fr H2 g [K.n]) [K.n] ?_ ?_ ((fH2.get _ (by omega) (by simp)).trans btK) ((fH2.get _ (by omega) (by simp)).trans bsK) (by omega) (by omega) AH2.tab ?_ hL (by rw [← hids]; exact hlen0) ?_) ?_
        · rintro m g1 g2 ⟨b0, b1, b2⟩ hf
          have hn := b2.n
          exact ⟨b0, (hf.get _ (by omega) (by simp)).trans b1, b2.trans (hf.sub (fun x hx => by simp at hx))⟩
        · intro x hx
          simp at hx
          omega
        · exact ⟨rfl, H2y, Fr.refl _ _⟩
        · rintro m hm g1 ⟨b0, b1, b2⟩ _
          refine hY2 _ _ g1 none _ b1 rfl ?_
          show pw _ _ _ _ (kRound Try.prog _ K.n L2 _)
          simp (disch := first|omega|(simp only [np,ns];try omega)) []
          rw [kRound_normal]
          refine ⟨none, b1, ?_⟩
          simp (disch := first|omega|(simp only [np,ns];try omega)) []
          refine rndEnd_exit (pe := none) (VH.get_set_same _ _ _) ?_
          rw [VH.set_set]
          exact ⟨rfl, VH.get_set_same _ _ _, b2.trans (Fr.set _ _ (i := K.n) (by simp))⟩
        rintro u g3' (⟨b0, _, _⟩ | ⟨b1', b2'⟩)
        · rw [← hids] at b0; omega
        refine ⟨.done, some (.exit 4), b1', by simp, ?_⟩
        show kBlock 4 _ _ _ _
        obtain ⟨K3, hK3⟩ : ∃ K3, K3 = g3'.set K.n .dead := ⟨_, rfl⟩
        have fK3 : Fr K K3 [] := (fH2.trans' b2' (fun y hy => .inr (by simp at hy; omega))).trans' (by rw [hK3]; exact Fr.set _ _ (X := [K.n]) (by simp)) (fun y hy => .inr (by simp at hy; omega))
        have AK3 := AK.step hb fK3 (fun _ hx => by simp at hx)
        have c7K3 := (fK3.get g5.n (by omega) (by simp)).trans c7K
        have c9K3 := (fK3.get g7.n (by omega) (by simp)).trans c9K
        have ciK3 := (fK3.get ci (by omega) (by simp)).trans ciK
        have nK3 := fK3.n
        simp (disch := first|omega|(simp only [np,ns];try omega)) [← hK3]
        refine pw_loopN (CntJ h i j r (.slice (some ⟨q, o, none⟩) N c) L clk last S.x n ci g5.n g7.n) N ?_ ?_
        · refine ⟨AK3, by omega, ciK3, c7K3, ?_, by simp [upd_apply, e0], by simp [upd_apply, e3], by simp [upd_apply, e4], by simp [upd_apply, e5], by simp [upd_apply], by simp [upd_apply], by simp [upd_apply]⟩
          rw [c9K3, hids]; simp [ofS]
        rintro m s3 g9 hm ⟨A9, hn9, ci9, c79, c99, t0, t3, t4, t5, t7, t9, t11⟩
        have hr9 := A9.ref.rec_
        have hb39 := A9.b3
        by_cases hlm : m < N
        · have hlmI : (m : Int) < (N : Int) := by omega
          have hmL : m < L.length := by omega
          obtain ⟨dn, hqn, hezn, _, hl1n⟩ := A9.row' hnL
          obtain ⟨dm, hqm, hezm, _, hl1m⟩ := A9.row' hmL
          rw [hqn] at hqm
          injection hqm with hdd _ _
          subst hdd
          rw [← hS] at hl1n
          have htk := ofS_take (tn := S.x) hmL
          have hkk : IntKind.i64.wrap ((m : Int) + 1) = ((m + 1 : Nat) : Int) := by rw [i64_small (by omega) (by omega)]; omega
          obtain ⟨C, hC⟩ : ∃ C, C = (ofS S.x (L.take m)).length := ⟨_, rfl⟩
          have hCl : C ≤ 64 := by have h2 := ofS_len S.x (L.take m); rw [List.length_take] at h2; omega
          obtain ⟨C1, hC1⟩ : ∃ C1, C1 = (ofS S.x (L.take (m + 1))).length := ⟨_, rfl⟩
          obtain ⟨E, hE⟩ : ∃ E, E = (ofS S.x L).length := ⟨_, rfl⟩
          have hEl : E ≤ 64 := by have h2 := ofS_len S.x L; omega
          rw [← hC, ← hE] at c99
          rw [← hC, ← hC1] at htk
          by_cases hxx : L[m].x = S.x
          · rw [if_pos hxx] at htk
            have hbe : ((strB L[m].x).toList == (strB S.x).toList) = true := by rw [hxx]; simp
            have hsub : IntKind.i64.wrap ((E : Int) - (C : Int) - 1) = (E : Int) - (C1 : Int) := by rw [i64_small (by omega) (by omega)]; omega
            obtain ⟨g10, hg10⟩ : ∃ g10, g10 = g9.set g7.n (.cells [.int .i64 ((E : Int) - (C1 : Int))] true 1) := ⟨_, rfl⟩
            have f10 : Fr g9 g10 [g7.n] := by rw [hg10]; exact Fr.set _ _ (by simp)
            have n10 : g10.n = g9.n := by rw [hg10]; rfl
            simp (disch := first|omega|(simp only [np,ns];try omega)) [t0, t3, t4, t5, t7, t9, t11, hb39, lb_0, hr9, lr_0, hlm, hlmI, hqn, hezn, hl1n, hl1m, ci9, hlt, hltI, hbe, c99, hsub, sb_i, ← hg10, hkk]
            refine ⟨A9.step hb f10 (fun _ hx => by simp at hx; omega), by omega, (f10.get _ (by omega) (by simp; omega)).trans ci9, (f10.get _ (by omega) (by simp; omega)).trans c79, ?_, by simp [upd_apply, t0], by simp [upd_apply, t3], by simp [upd_apply, t4], by simp [upd_apply, t5], by simp [upd_apply, t7], by simp [upd_apply, t9], by simp [upd_apply]⟩
            rw [hg10, VH.get_set_same, hE, hC1]
          · rw [if_neg hxx, Nat.add_zero] at htk
            have hbe : ((strB L[m].x).toList == (strB S.x).toList) = false := by rw [strB_toList, strB_toList]; simpa using hxx
            simp (disch := first|omega|(simp only [np,ns];try omega)) [t0, t3, t4, t5, t7, t9, t11, hb39, lb_0, hr9, lr_0, hlm, hlmI, hqn, hezn, hl1n, hl1m, ci9, hlt, hltI, hbe, hkk]
            refine ⟨A9, by omega, ci9, c79, ?_, by simp [upd_apply, t0], by simp [upd_apply, t3], by simp [upd_apply, t4], by simp [upd_apply, t5], by simp [upd_apply, t7], by simp [upd_apply, t9], by simp [upd_apply]⟩
            rw [c99, hE, ← hC1, htk]
        · obtain rfl : m = N := by omega
          have hz9 : (((ofS S.x L).length : Int) - ((ofS S.x (L.take m)).length : Int)) = 0 := by rw [hN, List.take_length]; omega
          rw [hz9] at c99
          have eW : IntKind.i64.wrap ((n : Int) + 1) = ((n + 1 : Nat) : Int) := by rw [i64_small (by omega) (by omega)]; omega
          simp (disch := first|omega|(simp only [np,ns];try omega)) [t0, t3, t4, t5, t7, t9, t11, hb39, lb_0, hr9, lr_0, c79, c99, ci9, sb_i, eW]
          have fE : Fr g9 ((g9.push (.cells [.int .i64 0] true 1)).set g9.n (.cells [.int .i64 ((n : Int) + 1)] true 1)) [] := Fr_set (Fr_push (Fr.refl _ _)) (Nat.le_refl _)
          have nE := A9.n
          exact ⟨hlt, g9.n, A9.step hb fE (fun _ hx => by simp at hx), by rw [VH.get_set_same]; rfl, by show g9.n < g9.n + 1; omega, by omega, by simp [upd_apply, t0], by simp [upd_apply, t3], by simp [upd_apply, t4], by simp [upd_apply]⟩
      · exact hF.elim
  · obtain rfl : n = N := by omega
    simp (disch := first|omega|(simp only [np,ns];try omega)) [r_law10_alike, e3, e5, e4, hci, lb_0, hb3, hr, lr_0, hb4, sb_b]
    exact Fr_set A.fr (by omega)
end Go.Proofs.Ytaeegilpfoiagaa.Id
