/- slots, part B: how a heap holds a table. -/
import Derived.Test.YtoenamablkkocaaFaD
import Derived.Test.YtoenamablkkocaaSlA
import Derived.Test.YtoenamablkkocaaPmIn
set_option linter.unusedVariables false
set_option linter.unusedSimpArgs false
set_option maxRecDepth 100000
namespace Go.Proofs.Ytoenamablkkocaa.Sl
open Go Go.RowKit Go.Proofs.Ytoenamablkkocaa.Pm Go.Proofs.Ytoenamablkkocaa.Fs Go.Proofs.Ytoenamablkkocaa.Fa
attribute [-simp] BitVec.toNat_or BitVec.toNat_xor BitVec.toNat_add BitVec.toNat_and BitVec.toNat_not BitVec.toNat_shiftLeft BitVec.toNat_ushiftRight

/-! ### names in order: where one stands -/
def lowS (x : List UInt8) (ss : List (List UInt8)) : Nat := (ss.takeWhile fun y => decide (y < x)).length
theorem lowS_le (x : List UInt8) : ∀ (ss : List (List UInt8)), lowS x ss ≤ ss.length
  | [] => Nat.le_refl _
  | y :: ss => by
    have := lowS_le x ss
    unfold lowS at this ⊢
    rw [List.takeWhile_cons]
    split
    · simp; omega
    · simp
theorem low_iff {x : List UInt8} : ∀ {ss : List (List UInt8)}, ss.Pairwise (· < ·) → ∀ {m : Nat} (h : m < ss.length), ss[m] < x ↔ m < lowS x ss
  | [], _, m, h => by simp at h
  | y :: ss, hp, m, h => by
    rw [List.pairwise_cons] at hp
    unfold lowS
    rw [List.takeWhile_cons]
    by_cases hy : y < x
    · rw [if_pos (by simpa using hy)]
      cases m with
      | zero => simp [hy]
      | succ m =>
        have := low_iff (x := x) hp.2 (m := m) (by simpa using h)
        unfold lowS at this
        simp only [List.getElem_cons_succ, List.length_cons]
        rw [this]
        omega
    · rw [if_neg (by simpa using hy)]
      simp only [List.length_nil, Nat.not_lt_zero, iff_false]
      cases m with
      | zero => exact hy
      | succ m =>
        intro hx
        simp only [List.getElem_cons_succ] at hx
        exact hy (List.lt_trans (hp.1 _ (List.getElem_mem _)) hx)
theorem insT_names (x : Tn) : ∀ (ts : List Tn), (insT x ts).map (·.nm) = insS (lowS x.nm (ts.map (·.nm))) x.nm (ts.map (·.nm))
  | [] => rfl
  | t :: r => by
    have := insT_names x r
    unfold lowS insS at this ⊢
    simp only [insT, List.map_cons, List.takeWhile_cons]
    by_cases h : t.nm < x.nm
    · rw [if_pos h, if_pos (by simpa using h)]
      simp only [List.map_cons, List.length_cons, List.take_succ_cons, List.drop_succ_cons, List.cons_append, this]
    · rw [if_neg h, if_neg (by simpa using h)]
      rfl
theorem low_mem {x : List UInt8} {ss : List (List UInt8)} (hp : ss.Pairwise (· < ·)) : x ∈ ss ↔ ∃ h : lowS x ss < ss.length, ss[lowS x ss] = x := by
  constructor
  · intro hx
    obtain ⟨m, hm, rfl⟩ := List.getElem_of_mem hx
    have h1 : ¬ m < lowS ss[m] ss := fun h => List.lt_irrefl _ ((low_iff hp hm).2 h)
    have h2 : ¬ lowS ss[m] ss < m := fun h => by
      have h3 := (List.pairwise_iff_getElem.1 hp) (lowS ss[m] ss) m (by omega) hm h
      have := (low_iff hp (x := ss[m]) (by omega)).1 h3
      omega
    have h4 : lowS ss[m] ss = m := by omega
    refine ⟨by omega, ?_⟩
    congr 1
  · rintro ⟨h, e⟩
    have := List.getElem_mem h
    rwa [e] at this

/-! ### a table in the heap -/
def jbL (w : Wk) : List Value := [.int .i64 w.j.id, .int .i64 w.j.cost]
def jbsL (l : List Wk) : List Value := l.flatMap jbL
theorem jbL_len (w : Wk) : (jbL w).length = 2 := rfl
def rwL (t : Tn) (iq : Nat) : List Value := [.pointer (some ⟨iq, 0, none⟩), .int .i64 t.en]
def tbL (T : Tb) (s : Nat) (v : Value) (jr jw : Nat) : List Value := [.bool true, .pointer (some ⟨s, 0, none⟩), v, .map (some jr), .map (some jw), .int .i64 (T.sl : Int)]
structure RowAt (g : VH) (r : Rt) : Prop where
  lt : r.it < g.n
  lq : r.iq < g.n
  rec_ : g.get r.it = .cells (rwL r.t r.iq) true 1
  qu : g.get r.iq = .cells (quL r.v) true 1
  own : OwnSl g 2 r.v (jbsL r.t.l) r.t.l.length
theorem RowAt.lts {g : VH} {r : Rt} (k : RowAt g r) : ∀ x ∈ fpT r, x < g.n := by
  intro x hx
  simp only [fpT, List.mem_cons] at hx
  rcases hx with rfl | rfl | hx
  · exact k.lt
  · exact k.lq
  · exact k.own.lt x hx
theorem RowAt.fr {g g' : VH} {X : List Nat} (hf : Fr g g' X) {r : Rt} (k : RowAt g r) (hx : ∀ x ∈ fpT r, x ∉ X) : RowAt g' r := by
  have hn := hf.n
  refine ⟨by have := k.lt; omega, by have := k.lq; omega, ?_, ?_, k.own.fr hf (fun i hi => hx i (by simp [fpT, hi]))⟩
  · rw [hf.get _ k.lt (hx _ (by simp [fpT]))]; exact k.rec_
  · rw [hf.get _ k.lq (hx _ (by simp [fpT]))]; exact k.qu
/-- what is the table's own: itself, the rows' map, the weights' map, the names, the rows. -/
def fpO (i jr jw : Nat) (v : Value) (rs : List Rt) : List Nat := i :: jr :: jw :: (idOf v ++ rs.flatMap fpT)
structure TRep (g : VH) (i s jr jw : Nat) (v : Value) (rs : List Rt) (X : List Nat) (T : Tb) : Prop where
  lti : i < g.n
  ltr : jr < g.n
  ltw : jw < g.n
  rec_ : g.get i = .cells (tbL T s v jr jw) true 1
  sch : Sch g s (fairOf T) X
  nms : OwnSl g 1 v (strsV (namesT T)) T.ts.length
  map_ : ∃ clk, g.get jr = .map (rs.map entT) clk true ∧ ∀ r ∈ rs, r.bn < clk
  wmap : ∃ es clk, g.get jw = .map es clk true ∧ keysFit .s es = true
  bnd : (rs.map fun r => (entT r).2.2).Nodup
  row : ∀ r ∈ rs, RowAt g r
  nd : (fpO i jr jw v rs).Nodup
  dis : ∀ x ∈ X, x ∉ fpO i jr jw v rs
  perm : (rs.map (·.t)).Perm T.ts
theorem fpO_row {i jr jw : Nat} {v : Value} {rs : List Rt} {r : Rt} (h : r ∈ rs) : ∀ x ∈ fpT r, x ∈ fpO i jr jw v rs := fun x hx => by
  simp only [fpO, List.mem_cons, List.mem_append, List.mem_flatMap]
  exact .inr (.inr (.inr (.inr ⟨r, h, hx⟩)))
theorem fpO_nm {i jr jw : Nat} {v : Value} {rs : List Rt} : ∀ x ∈ idOf v, x ∈ fpO i jr jw v rs := fun x hx => by
  simp only [fpO, List.mem_cons, List.mem_append]
  exact .inr (.inr (.inr (.inl hx)))
theorem TRep.lts {g : VH} {i s jr jw : Nat} {v : Value} {rs : List Rt} {X : List Nat} {T : Tb} (k : TRep g i s jr jw v rs X T) : ∀ x ∈ fpO i jr jw v rs, x < g.n := by
  intro x hx
  simp only [fpO, List.mem_cons, List.mem_append, List.mem_flatMap] at hx
  rcases hx with rfl | rfl | rfl | hx | ⟨r, hr, hx⟩
  · exact k.lti
  · exact k.ltr
  · exact k.ltw
  · exact k.nms.lt x hx
  · exact (k.row r hr).lts x hx
theorem TRep.fr {g g' : VH} {Y : List Nat} (hf : Fr g g' Y) {i s jr jw : Nat} {v : Value} {rs : List Rt} {X : List Nat} {T : Tb} (k : TRep g i s jr jw v rs X T) (hx : ∀ x ∈ fpO i jr jw v rs, x ∉ Y) (hX : ∀ x ∈ X, x ∉ Y) : TRep g' i s jr jw v rs X T := by
  have hn := hf.n
  have h1 := k.lti
  have h2 := k.ltr
  have h3 := k.ltw
  obtain ⟨clk, hj, hb⟩ := k.map_
  obtain ⟨es, cw, hw, hkf⟩ := k.wmap
  refine ⟨by omega, by omega, by omega, ?_, k.sch.fr hf hX, k.nms.fr hf (fun x h => hx x (fpO_nm x h)), ⟨clk, ?_, hb⟩, ⟨es, cw, ?_, hkf⟩, k.bnd, fun r hr => (k.row r hr).fr hf (fun x h => hx x (fpO_row hr x h)), k.nd, k.dis, k.perm⟩
  · rw [hf.get _ h1 (hx _ (by simp [fpO]))]; exact k.rec_
  · rw [hf.get _ h2 (hx _ (by simp [fpO]))]; exact hj
  · rw [hf.get _ h3 (hx _ (by simp [fpO]))]; exact hw
theorem TRep.fr0 {g g' : VH} (hf : Fr g g' []) {i s jr jw : Nat} {v : Value} {rs : List Rt} {X : List Nat} {T : Tb} (k : TRep g i s jr jw v rs X T) : TRep g' i s jr jw v rs X T := k.fr hf (fun _ _ => by simp) (fun _ _ => by simp)
def TbAt (h : VH) (i : Nat) (T : Tb) (Z : List Nat) : Prop := ∃ s jr jw v rs X, Z = fpO i jr jw v rs ++ X ∧ TRep h i s jr jw v rs X T
theorem TbAt.fr {h h' : VH} {i : Nat} {T : Tb} {Z Y : List Nat} (k : TbAt h i T Z) (hf : Fr h h' Y) (hx : ∀ x ∈ Z, x ∉ Y) : TbAt h' i T Z := by
  obtain ⟨s, jr, jw, v, rs, X, rfl, k⟩ := k
  exact ⟨s, jr, jw, v, rs, X, rfl, k.fr hf (fun x h => hx x (List.mem_append_left _ h)) (fun x h => hx x (List.mem_append_right _ h))⟩
theorem TbAt.fr0 {h h' : VH} {i : Nat} {T : Tb} {Z : List Nat} (k : TbAt h i T Z) (hf : Fr h h' []) : TbAt h' i T Z := k.fr hf (fun _ _ => by simp)
theorem TbAt.lt {h : VH} {i : Nat} {T : Tb} {Z : List Nat} (k : TbAt h i T Z) : ∀ x ∈ Z, x < h.n := by
  obtain ⟨s, jr, jw, v, rs, X, rfl, k⟩ := k
  intro x hx
  rcases List.mem_append.1 hx with hx | hx
  · exact k.lts x hx
  · exact k.sch.lt x hx
def TbP (h : VH) (i : Nat) (Z : List Nat) (T' : Tb) (h' : VH) : Prop := ∃ Z', TbAt h' i T' Z' ∧ Mv h h' Z Z'
theorem TbP.same {h h' : VH} {i : Nat} {T : Tb} {Z : List Nat} (k : TbAt h i T Z) (hf : Fr h h' []) : TbP h i Z T h' := ⟨Z, k.fr0 hf, (Mv.refl h Z).post hf⟩
theorem TRep.nrow {g : VH} {i s jr jw : Nat} {v : Value} {rs : List Rt} {X : List Nat} {T : Tb} (k : TRep g i s jr jw v rs X T) {r : Rt} (hr : r ∈ rs) : ∀ x ∈ fpT r, x ≠ i ∧ x ≠ jr ∧ x ≠ jw ∧ x ∉ idOf v ∧ x ∉ X := by
  intro x hx
  have hnd := k.nd
  simp only [fpO, List.nodup_cons, List.nodup_append, List.mem_cons, List.mem_append, not_or] at hnd
  obtain ⟨⟨_, _, _, d1⟩, ⟨_, _, d2⟩, ⟨_, d3⟩, _, _, d4⟩ := hnd
  have hm : x ∈ rs.flatMap fpT := List.mem_flatMap.2 ⟨r, hr, hx⟩
  exact ⟨fun e => d1 (e ▸ hm), fun e => d2 (e ▸ hm), fun e => d3 (e ▸ hm), fun hv => d4 x hv x hm rfl, fun hX => k.dis x hX (fpO_row hr x hx)⟩
theorem TRep.nown {g : VH} {i s jr jw : Nat} {v : Value} {rs : List Rt} {X : List Nat} {T : Tb} (k : TRep g i s jr jw v rs X T) : i ≠ jr ∧ i ≠ jw ∧ jr ≠ jw ∧ i ∉ idOf v ∧ jr ∉ idOf v ∧ jw ∉ idOf v ∧ i ∉ X ∧ jr ∉ X ∧ jw ∉ X := by
  have hnd := k.nd
  simp only [fpO, List.nodup_cons, List.mem_cons, List.mem_append, not_or] at hnd
  obtain ⟨⟨d1, d2, d3, _⟩, ⟨d4, d5, _⟩, ⟨d6, _⟩, _⟩ := hnd
  exact ⟨d1, d2, d4, d3, d5, d6, fun h => k.dis _ h (by simp [fpO]), fun h => k.dis _ h (by simp [fpO]), fun h => k.dis _ h (by simp [fpO])⟩
theorem fair_put {T : Tb} (hu : Uni T.ts) {x t : Tn} (h : findT x.nm T.ts = some t) (hb : bare x = bare t) : fairOf ⟨putT x T.ts, T.sl⟩ = fairOf T := by
  obtain ⟨A, B, h1, h2⟩ := putT_at hu h
  unfold fairOf
  simp only
  rw [h2, h1]
  simp [hb]
/-- one row turns. -/
theorem TRep.one {g g' : VH} {i s jr jw : Nat} {v : Value} {a b : List Rt} {r r' : Rt} {X : List Nat} {T : Tb} (k : TRep g i s jr jw v (a ++ r :: b) X T) (hu : Uni T.ts) (hf : Fr g g' (fpT r)) (R : RowAt g' r') (hn : r'.t.nm = r.t.nm) (hw : r'.t.w = r.t.w) (hi : r'.it = r.it) (hb : r'.bn = r.bn) (hnd : (fpT r').Nodup) (hfp : ∀ x ∈ fpT r', x ∈ fpT r ∨ g.n ≤ x) :
    TRep g' i s jr jw v (a ++ r' :: b) X { T with ts := putT r'.t T.ts } := by
  have hgn := hf.n
  have h1 := k.lti
  have h2 := k.ltr
  have h3 := k.ltw
  have hlts := k.lts
  have hmem : r ∈ a ++ r :: b := by simp
  have hnr := k.nrow hmem
  have hre : entT r' = entT r := by simp only [entT, hn, hi, hb]
  have hmap : (a ++ r' :: b).map entT = (a ++ r :: b).map entT := by simp [hre]
  obtain ⟨clk, hj, hbk⟩ := k.map_
  obtain ⟨es, cw, hes, hkf⟩ := k.wmap
  have hp := k.perm
  have hp0 := hp
  rw [List.map_append, List.map_cons] at hp
  have hmT : r.t ∈ T.ts := hp.mem_iff.1 (by simp)
  have hfd : findT r'.t.nm T.ts = some r.t := by rw [hn]; exact findT_mem hu hmT
  have hfair : fairOf ⟨putT r'.t T.ts, T.sl⟩ = fairOf T := fair_put hu hfd (by simp [bare, hn, hw])
  have hnm : namesT ⟨putT r'.t T.ts, T.sl⟩ = namesT T := putT_names _ _
  have hin : ∀ x, x ∈ a ++ b → x ∈ a ++ r :: b := fun x hx => by
    simp only [List.mem_append, List.mem_cons] at hx ⊢
    rcases hx with hx | hx
    · exact .inl hx
    · exact .inr (.inr hx)
  have hnd0 := k.nd
  have hfm : ∀ x : Rt, (a ++ x :: b).flatMap fpT = a.flatMap fpT ++ (fpT x ++ b.flatMap fpT) := fun x => by simp
  have hmid : ∀ x : Rt, fpO i jr jw v (a ++ x :: b) = (i :: jr :: jw :: (idOf v ++ a.flatMap fpT)) ++ (fpT x ++ b.flatMap fpT) := fun x => by
    simp only [fpO, hfm, List.cons_append, List.append_assoc]
  rw [hmid] at hnd0
  have hlt2 : ∀ x ∈ (i :: jr :: jw :: (idOf v ++ a.flatMap fpT)) ++ (fpT r ++ b.flatMap fpT), x < g.n := fun x hx => hlts x (by rw [hmid]; exact hx)
  rw [List.nodup_append, List.nodup_append] at hnd0
  obtain ⟨n1, ⟨n2, n3, n4⟩, n5⟩ := hnd0
  have sep : ∀ x ∈ a ++ b, ∀ y ∈ fpT x, y ∉ fpT r := by
    intro x hx y hy hyr
    rcases List.mem_append.1 hx with hx | hx
    · exact n5 y (by simp only [List.mem_cons, List.mem_append, List.mem_flatMap]; exact .inr (.inr (.inr (.inr ⟨x, hx, hy⟩)))) y (List.mem_append_left _ hyr) rfl
    · exact n4 y hyr y (List.mem_flatMap.2 ⟨x, hx, hy⟩) rfl
  refine ⟨by omega, by omega, by omega, ?_, ?_, ?_, ⟨clk, ?_, ?_⟩, ⟨es, cw, ?_, hkf⟩, ?_, ?_, ?_, ?_, ?_⟩
  · rw [hf.get _ h1 (fun h => (hnr _ h).1 rfl)]; exact k.rec_
  · rw [hfair]; exact k.sch.fr hf (fun x hx hxr => (hnr x hxr).2.2.2.2 hx)
  · show OwnSl g' 1 v (strsV (namesT ⟨putT r'.t T.ts, T.sl⟩)) (putT r'.t T.ts).length
    rw [hnm, putT_length]
    exact k.nms.fr hf (fun x hx hxr => (hnr x hxr).2.2.2.1 hx)
  · rw [hf.get _ h2 (fun h => (hnr _ h).2.1 rfl), hmap]; exact hj
  · intro x hx
    simp only [List.mem_append, List.mem_cons] at hx
    rcases hx with hx | rfl | hx
    · exact hbk x (by simp [hx])
    · rw [hb]; exact hbk r (by simp)
    · exact hbk x (by simp [hx])
  · rw [hf.get _ h3 (fun h => (hnr _ h).2.2.1 rfl)]; exact hes
  · have := k.bnd
    rw [show (fun r : Rt => (entT r).2.2) = (fun e : Ent => e.2.2) ∘ entT from rfl, ← List.map_map] at this ⊢
    rw [hmap]; exact this
  · intro x hx
    simp only [List.mem_append, List.mem_cons] at hx
    rcases hx with hx | rfl | hx
    · exact (k.row x (by simp [hx])).fr hf (sep x (by simp [hx]))
    · exact R
    · exact (k.row x (by simp [hx])).fr hf (sep x (by simp [hx]))
  · rw [hmid, List.nodup_append, List.nodup_append]
    refine ⟨n1, ⟨hnd, n3, fun y hy z hz e => ?_⟩, fun y hy z hz e => ?_⟩
    · subst e
      rcases hfp y hy with h4 | h4
      · exact n4 y h4 y hz rfl
      · have := hlt2 y (List.mem_append_right _ (List.mem_append_right _ hz)); omega
    · subst e
      rcases List.mem_append.1 hz with hz | hz
      · rcases hfp y hz with h4 | h4
        · exact n5 y hy y (List.mem_append_left _ h4) rfl
        · have := hlt2 y (List.mem_append_left _ hy); omega
      · exact n5 y hy y (List.mem_append_right _ hz) rfl
  · intro x hx hxo
    have hxl := k.sch.lt x hx
    rw [hmid] at hxo
    refine k.dis x hx ?_
    rw [hmid]
    rcases List.mem_append.1 hxo with h4 | h4
    · exact List.mem_append_left _ h4
    rcases List.mem_append.1 h4 with h4 | h4
    · rcases hfp x h4 with h5 | h5
      · exact List.mem_append_right _ (List.mem_append_left _ h5)
      · omega
    · exact List.mem_append_right _ (List.mem_append_right _ h4)
  · rw [List.map_append, List.map_cons]
    obtain ⟨A, B, h4, h5⟩ := putT_at hu hfd
    show (List.map _ a ++ r'.t :: List.map _ b).Perm (putT r'.t T.ts)
    rw [h5]
    rw [h4] at hp
    have hp2 : (a.map (·.t) ++ b.map (·.t)).Perm (A ++ B) :=
      List.Perm.cons_inv ((List.perm_middle.symm.trans hp).trans List.perm_middle)
    exact (List.perm_middle.trans (hp2.cons r'.t)).trans List.perm_middle.symm
/-- the table's own record turns. -/
theorem TRep.slot {g : VH} {i s jr jw : Nat} {v : Value} {rs : List Rt} {X : List Nat} {T : Tb} (k : TRep g i s jr jw v rs X T) (n : Nat) : TRep (g.set i (.cells (tbL ⟨T.ts, n⟩ s v jr jw) true 1)) i s jr jw v rs X ⟨T.ts, n⟩ := by
  have hf : Fr g (g.set i (.cells (tbL ⟨T.ts, n⟩ s v jr jw) true 1)) [i] := Fr.set _ _ (by simp)
  obtain ⟨o1, o2, o3, o4, o5, o6, o7, o8, o9⟩ := k.nown
  obtain ⟨clk, hj, hb⟩ := k.map_
  obtain ⟨es, cw, hw, hkf⟩ := k.wmap
  have hn := hf.n
  have h1 := k.lti
  have h2 := k.ltr
  have h3 := k.ltw
  refine ⟨by omega, by omega, by omega, by rw [VH.get_set_same], ?_, ?_, ⟨clk, ?_, hb⟩, ⟨es, cw, ?_, hkf⟩, k.bnd, fun r hr => (k.row r hr).fr hf (fun x hx hxi => by simp at hxi; exact (k.nrow hr x hx).1 hxi), k.nd, k.dis, k.perm⟩
  · exact k.sch.fr hf (fun x hx hxi => by simp at hxi; subst hxi; exact o7 hx)
  · exact k.nms.fr hf (fun x hx hxi => by simp at hxi; subst hxi; exact o4 hx)
  · rw [hf.get _ h2 (by simp; exact fun e => o1 e.symm)]; exact hj
  · rw [hf.get _ h3 (by simp; exact fun e => o2 e.symm)]; exact hw
theorem TRep.found {g : VH} {i s jr jw : Nat} {v : Value} {rs : List Rt} {X : List Nat} {T : Tb} (k : TRep g i s jr jw v rs X T) (hu : Uni T.ts) {nm : List UInt8} {t : Tn} (h : findT nm T.ts = some t) :
    ∃ a r b, rs = a ++ r :: b ∧ r.t = t ∧ mget (.string (strB nm)) (rs.map entT) = some (.pointer (some ⟨r.it, 0, none⟩)) := by
  have h' : findT nm (rs.map (·.t)) = some t := by rw [findT_perm k.perm hu]; exact h
  rw [← find_rs, Option.map_eq_some_iff] at h'
  obtain ⟨r, hr, rfl⟩ := h'
  obtain ⟨a, b, hab⟩ := List.append_of_mem (List.mem_of_find?_eq_some hr)
  exact ⟨a, r, b, hab, rfl, by rw [mget_rs, hr]; rfl⟩
theorem TRep.none_ {g : VH} {i s jr jw : Nat} {v : Value} {rs : List Rt} {X : List Nat} {T : Tb} (k : TRep g i s jr jw v rs X T) (hu : Uni T.ts) {nm : List UInt8} (h : findT nm T.ts = none) : mget (.string (strB nm)) (rs.map entT) = none := by
  have h' : findT nm (rs.map (·.t)) = none := by rw [findT_perm k.perm hu]; exact h
  rw [← find_rs, Option.map_eq_none_iff] at h'
  rw [mget_rs, h']; rfl
end Go.Proofs.Ytoenamablkkocaa.Sl
