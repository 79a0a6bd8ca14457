/- slots, part K: Set. -/
import Derived.Test.YtoenamablkkocaaSlI
import Derived.Test.YtoenamablkkocaaPmLt
set_option linter.unusedVariables false
set_option linter.unusedSimpArgs false
set_option maxRecDepth 100000
namespace Go.Proofs.Ytoenamablkkocaa.Sl
open Go Go.RowKit Go.Proofs.Ytoenamablkkocaa.Pm Go.Proofs.Ytoenamablkkocaa.Fs Go.Proofs.Ytoenamablkkocaa.Fa
attribute [-simp] BitVec.toNat_or BitVec.toNat_xor BitVec.toNat_add BitVec.toNat_and BitVec.toNat_not BitVec.toNat_shiftLeft BitVec.toNat_ushiftRight

theorem keysFit_mput {k v : Value} {c : Nat} (hk : fitK .s k = true) : ∀ {es : List Ent}, keysFit .s es = true → keysFit .s (mput k v c es) = true
  | [], _ => by simp [mput, keysFit, hk]
  | e :: r, h => by
    simp only [keysFit, List.all_cons, Bool.and_eq_true] at h
    have ih := keysFit_mput (v := v) (c := c) hk (es := r) h.2
    simp only [keysFit] at ih
    simp only [mput]
    split
    · simp only [keysFit, List.all_cons, Bool.and_eq_true]
      exact ⟨hk, h.2⟩
    · simp only [keysFit, List.all_cons, Bool.and_eq_true]
      exact ⟨h.1, ih⟩
/-- a row's weight turns, and the scheduler's. -/
theorem TRep.weigh {h g1 g2 : VH} {i s jr jw : Nat} {v : Value} {ra rb : List Rt} {r : Rt} {X X' : List Nat} {T : Tb} {n : Nat} {es : List Ent} {cw : Nat} (k : TRep h i s jr jw v (ra ++ r :: rb) X T) (hu : Uni T.ts) (mv : Mv h g1 X X') (sc : Sch g1 s (fairOf ⟨putT { r.t with w := n } T.ts, T.sl⟩) X') (hf : Fr g1 g2 [jw]) (hjw : g2.get jw = .map es cw true) (hkf : keysFit .s es = true) :
    TRep g2 i s jr jw v (ra ++ { r with t := { r.t with w := n } } :: rb) X' ⟨putT { r.t with w := n } T.ts, T.sl⟩ := by
  have n1 := mv.fr.n
  have n2 := hf.n
  obtain ⟨o1, o2, o3, o4, o5, o6, o7, o8, o9⟩ := k.nown
  have h1 := k.lti
  have h2 := k.ltr
  have h3 := k.ltw
  have hlts := k.lts
  have hre : entT { r with t := { r.t with w := n } } = entT r := rfl
  have hmap : (ra ++ { r with t := { r.t with w := n } } :: rb).map entT = (ra ++ r :: rb).map entT := by simp [hre]
  have hfp : fpO i jr jw v (ra ++ { r with t := { r.t with w := n } } :: rb) = fpO i jr jw v (ra ++ r :: rb) := by simp [fpO, fpT]
  have hmem : r ∈ ra ++ r :: rb := by simp
  obtain ⟨clk, hj, hbk⟩ := k.map_
  have F : Fr h g2 (X ++ [jw]) := (mv.fr.sub (fun x hx => List.mem_append_left _ hx)).trans (hf.sub (fun x hx => List.mem_append_right _ hx))
  have hp := k.perm
  rw [List.map_append, List.map_cons] at hp
  have hmT : r.t ∈ T.ts := hp.mem_iff.1 (by simp)
  have hfd : findT ({ r.t with w := n } : Tn).nm T.ts = some r.t := findT_mem hu hmT
  have hrows : ∀ x ∈ ra ++ r :: rb, RowAt g2 x := fun x hx => (k.row x hx).fr F (fun y hy hyn => by
    have := k.nrow hx y hy
    rcases List.mem_append.1 hyn with h4 | h4
    · exact this.2.2.2.2 h4
    · simp at h4; exact this.2.2.1 h4)
  refine ⟨by omega, by omega, by omega, ?_, ?_, ?_, ⟨clk, ?_, ?_⟩, ⟨es, cw, hjw, hkf⟩, ?_, ?_, ?_, ?_, ?_⟩
  · rw [F.get _ h1 (by simp; exact ⟨o7, o2⟩)]; exact k.rec_
  · exact sc.fr hf (fun x hx hxj => by
      simp at hxj
      subst hxj
      rcases mv.ids _ hx with h4 | h4
      · exact o9 h4
      · omega)
  · show OwnSl g2 1 v (strsV (namesT ⟨putT _ T.ts, T.sl⟩)) (putT _ T.ts).length
    rw [putT_nmT, putT_length]
    exact k.nms.fr F (fun x hx hxn => by
      rcases List.mem_append.1 hxn with h4 | h4
      · exact k.dis x h4 (fpO_nm x hx)
      · simp at h4; subst h4; exact o6 hx)
  · rw [F.get _ h2 (by simp; exact ⟨o8, o3⟩), hmap]; exact hj
  · intro x hx
    simp only [List.mem_append, List.mem_cons] at hx
    rcases hx with hx | rfl | hx
    · exact hbk x (by simp [hx])
    · exact hbk r (by simp)
    · exact hbk x (by simp [hx])
  · have := k.bnd
    rw [show (fun r : Rt => (entT r).2.2) = (fun e : Ent => e.2.2) ∘ entT from rfl, ← List.map_map] at this ⊢
    rw [hmap]; exact this
  · intro x hx
    simp only [List.mem_append, List.mem_cons] at hx
    rcases hx with hx | rfl | hx
    · exact hrows x (by simp [hx])
    · have R := hrows r hmem
      exact ⟨R.lt, R.lq, R.rec_, R.qu, R.own⟩
    · exact hrows x (by simp [hx])
  · rw [hfp]; exact k.nd
  · intro x hx
    rw [hfp]
    rcases mv.ids x hx with h4 | h4
    · exact k.dis x h4
    · exact fun h5 => by have := hlts x h5; omega
  · rw [List.map_append, List.map_cons]
    obtain ⟨A, B, h4, h5⟩ := putT_at hu hfd
    show (List.map _ ra ++ ({ r.t with w := n } : Tn) :: List.map _ rb).Perm (putT _ T.ts)
    rw [h5]
    rw [h4] at hp
    have hp2 : (ra.map (·.t) ++ rb.map (·.t)).Perm (A ++ B) :=
      List.Perm.cons_inv ((List.perm_middle.symm.trans hp).trans List.perm_middle)
    exact (List.perm_middle.trans (hp2.cons _)).trans List.perm_middle.symm
/-- only the scheduler turns, to the same. -/
theorem TRep.sched {h g1 : VH} {i s jr jw : Nat} {v : Value} {rs : List Rt} {X X' : List Nat} {T : Tb} (k : TRep h i s jr jw v rs X T) (mv : Mv h g1 X X') (sc : Sch g1 s (fairOf T) X') : TRep g1 i s jr jw v rs X' T := by
  have n1 := mv.fr.n
  obtain ⟨o1, o2, o3, o4, o5, o6, o7, o8, o9⟩ := k.nown
  have h1 := k.lti
  have h2 := k.ltr
  have h3 := k.ltw
  obtain ⟨clk, hj, hbk⟩ := k.map_
  obtain ⟨es, cw, hw, hkf⟩ := k.wmap
  refine ⟨by omega, by omega, by omega, ?_, sc, k.nms.fr mv.fr (fun x hx hxX => k.dis x hxX (fpO_nm x hx)), ⟨clk, ?_, hbk⟩, ⟨es, cw, ?_, hkf⟩, k.bnd, fun r hr => (k.row r hr).fr mv.fr (fun x hx hxX => (k.nrow hr x hx).2.2.2.2 hxX), k.nd, fun x hx => ?_, k.perm⟩
  · rw [mv.fr.get _ h1 o7]; exact k.rec_
  · rw [mv.fr.get _ h2 o8]; exact hj
  · rw [mv.fr.get _ h3 o9]; exact hw
  · rcases mv.ids x hx with h4 | h4
    · exact k.dis x h4
    · exact fun h5 => by have := k.lts x h5; omega
/-- a row more. -/
theorem TRep.grow {h g' : VH} {i s jr jw : Nat} {v v' : Value} {rs : List Rt} {X X' : List Nat} {T : Tb} {x : Tn} {it iq clk clk' a b : Nat} {es : List Ent} {cw : Nat}
    (k : TRep h i s jr jw v rs X T) (F : Fr h g' (i :: jr :: jw :: (idOf v ++ X)))
    (rec_ : g'.get i = .cells (tbL T s v' jr jw) true 1) (sc : Sch g' s (fairOf ⟨insT x T.ts, T.sl⟩) X') (hX : ∀ y ∈ X', y ∈ X ∨ h.n ≤ y)
    (nms : OwnSl g' 1 v' (strsV (namesT ⟨insT x T.ts, T.sl⟩)) (T.ts.length + 1)) (hv : ∀ y ∈ idOf v', b ≤ y) (hXa : ∀ y ∈ X', y < a) (ha : h.n ≤ a) (h1 : a ≤ iq) (h2 : iq < it) (h3 : it < b) (h4 : b ≤ g'.n)
    (hj : g'.get jr = .map (rs.map entT ++ [(.string (strB x.nm), .pointer (some ⟨it, 0, none⟩), clk)]) (clk + 1) true) (hlt : ∀ r ∈ rs, r.bn < clk)
    (hw : g'.get jw = .map es cw true) (hkf : keysFit .s es = true) (hl : x.l = []) (r1 : g'.get it = .cells (rwL x iq) true 1) (q1 : g'.get iq = .cells (quL (.slice none 0 0)) true 1) :
    TRep g' i s jr jw v' (rs ++ [⟨x, it, iq, .slice none 0 0, clk⟩]) X' ⟨insT x T.ts, T.sl⟩ := by
  have hn := F.n
  have l1 := k.lti
  have l2 := k.ltr
  have l3 := k.ltw
  have hlts := k.lts
  obtain ⟨o1, o2, o3, o4, o5, o6, o7, o8, o9⟩ := k.nown
  obtain ⟨r, hr⟩ : ∃ r : Rt, r = ⟨x, it, iq, .slice none 0 0, clk⟩ := ⟨_, rfl⟩
  have hfr : fpT r = [it, iq] := by rw [hr]; rfl
  have hre : entT r = (.string (strB x.nm), .pointer (some ⟨it, 0, none⟩), clk) := by rw [hr]; rfl
  have hrows : ∀ y ∈ rs, RowAt g' y := fun y hy => (k.row y hy).fr F (fun z hz hzn => by
    obtain ⟨e1, e2, e3, e4, e5⟩ := k.nrow hy z hz
    simp only [List.mem_cons, List.mem_append] at hzn
    rcases hzn with h | h | h | h | h
    · exact e1 h
    · exact e2 h
    · exact e3 h
    · exact e4 h
    · exact e5 h)
  have hR : RowAt g' r := by
    rw [hr]
    refine ⟨by show it < _; omega, by show iq < _; omega, r1, q1, ?_⟩
    show OwnSl g' 2 (.slice none 0 0) (jbsL x.l) x.l.length
    rw [hl]
    exact OwnSl.nil _ _
  rw [← hr]
  have hfm : (rs ++ [r]).flatMap fpT = rs.flatMap fpT ++ [it, iq] := by simp [hfr]
  have hnd0 := k.nd
  have hrl : ∀ y ∈ rs.flatMap fpT, y < h.n := fun y hy => hlts y (by simp only [fpO, List.mem_cons, List.mem_append]; exact .inr (.inr (.inr (.inr hy))))
  have hrn : ∀ y ∈ rs.flatMap fpT, y ≠ i ∧ y ≠ jr ∧ y ≠ jw ∧ y ∉ X := fun y hy => by
    obtain ⟨r0, hr0, hy⟩ := List.mem_flatMap.1 hy
    obtain ⟨e1, e2, e3, e4, e5⟩ := k.nrow hr0 y hy
    exact ⟨e1, e2, e3, e5⟩
  refine ⟨by omega, by omega, by omega, rec_, sc, ?_, ⟨clk + 1, ?_, ?_⟩, ⟨es, cw, hw, hkf⟩, ?_, ?_, ?_, ?_, ?_⟩
  · show OwnSl g' 1 v' _ (insT x T.ts).length
    rw [(insT_perm x T.ts).length_eq]
    exact nms
  · rw [List.map_append, List.map_cons, List.map_nil, hre]; exact hj
  · intro y hy
    rcases List.mem_append.1 hy with hy | hy
    · have := hlt y hy; omega
    · simp at hy; subst hy; rw [hr]; show clk < clk + 1; omega
  · rw [List.map_append, List.nodup_append]
    refine ⟨k.bnd, by simp, fun p hp q hq => ?_⟩
    obtain ⟨y, hy, rfl⟩ := List.mem_map.1 hp
    simp only [List.map_cons, List.map_nil, List.mem_singleton, hre] at hq
    have := hlt y hy
    rw [hq]
    exact Nat.ne_of_lt this
  · intro y hy
    rcases List.mem_append.1 hy with hy | hy
    · exact hrows y hy
    · simp at hy; subst hy; exact hR
  · have hnr : (rs.flatMap fpT).Nodup := by
      unfold fpO at hnd0
      simp only [List.nodup_cons, List.nodup_append] at hnd0
      exact hnd0.2.2.2.2.1
    unfold fpO
    rw [hfm]
    simp only [List.nodup_cons, List.nodup_append, List.mem_cons, List.mem_append, not_or]
    refine ⟨⟨o1, o2, fun h => by have := hv _ h; omega, fun h => (hrn _ h).1 rfl, by omega, by omega, by simp⟩, ⟨o3, fun h => by have := hv _ h; omega, fun h => (hrn _ h).2.1 rfl, by omega, by omega, by simp⟩, ⟨fun h => by have := hv _ h; omega, fun h => (hrn _ h).2.2.1 rfl, by omega, by omega, by simp⟩, idOf_nodup _, ⟨hnr, ⟨by simp; omega, by simp⟩, fun p hp q hq e => ?_⟩, fun p hp q hq e => ?_⟩
    · have := hrl p hp
      simp at hq
      omega
    · have h5 := hv p hp
      rcases hq with hq | hq
      · have := hrl q hq; omega
      · simp at hq; omega
  · intro y hy
    have h5 := hXa y hy
    unfold fpO
    rw [hfm]
    simp only [List.mem_cons, List.mem_append, not_or]
    have hc : ∀ z, z < h.n → z ∉ X → y ≠ z := fun z hz hzX e => by
      subst e
      rcases hX y hy with h | h
      · exact hzX h
      · omega
    refine ⟨hc i l1 o7, hc jr l2 o8, hc jw l3 o9, fun h => by have := hv _ h; omega, fun h => ?_, by omega, by omega, by simp⟩
    have h6 := hrn y h
    exact hc y (hrl y h) h6.2.2.2 rfl
  · rw [List.map_append, List.map_cons, List.map_nil, hr]
    exact ((k.perm.append_right _).trans List.perm_append_comm).trans (insT_perm _ _).symm
end Go.Proofs.Ytoenamablkkocaa.Sl
