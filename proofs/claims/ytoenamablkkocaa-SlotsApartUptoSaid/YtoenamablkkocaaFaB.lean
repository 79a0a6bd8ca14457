/- fair, part B: how a heap holds a scheduler; queues of work. -/
import Derived.Test.YtoenamablkkocaaFaA
import Derived.Test.YtoenamablkkocaaFsA
import Derived.Test.YtoenamablkkocaaPmMr
set_option linter.unusedVariables false
set_option linter.unusedSimpArgs false
set_option maxRecDepth 100000
namespace Go.Proofs.Ytoenamablkkocaa.Fa
open Go Go.RowKit Go.Proofs.Ytoenamablkkocaa.Pm Go.Proofs.Ytoenamablkkocaa.Fs


/-- n elements of e cells each. -/
def SeqAt (h : VH) (e : Nat) (v : Value) (cs : List Value) (n : Nat) : Prop :=
  (v = .slice none 0 0 ∧ cs = [] ∧ n = 0) ∨ ∃ i o c ds ow, i < h.n ∧ n ≤ c ∧ v = .slice (some ⟨i, o, none⟩) n c ∧ h.get i = .cells ds ow e ∧ ds.drop o = cs ∧ cs.length = n * e ∧ o ≤ ds.length
theorem _root_.Go.Proofs.Ytoenamablkkocaa.Pm.OwnSl.seq {h : VH} {e : Nat} {v : Value} {cs : List Value} {n : Nat} (k : OwnSl h e v cs n) : SeqAt h e v cs n := by
  rcases k with k | ⟨i, o, c, ds, h1, h2, h3, h4, h5⟩
  · exact .inl k
  · exact .inr ⟨i, o, c, ds, true, h1, h2, h3, h4, h5⟩
theorem SeqAt.ro {h : VH} {e : Nat} {v : Value} {cs : List Value} {n : Nat} (k : SeqAt h e v cs n) : SeqAt h.ro e v cs n := by
  rcases k with k | ⟨i, o, c, ds, ow, h1, h2, h3, h4, h5⟩
  · exact .inl k
  · exact .inr ⟨i, o, c, ds, false, h1, h2, h3, by simp [VH.ro, h4, VObj.ro], h5⟩
theorem SeqAt.shape {h : VH} {e : Nat} {v : Value} {cs : List Value} {n : Nat} (hs : SeqAt h e v cs n) : ∃ a c, v = .slice a n c := by
  rcases hs with ⟨rfl, _, rfl⟩ | ⟨_, _, _, _, _, _, _, rfl, _⟩
  · exact ⟨_, _, rfl⟩
  · exact ⟨_, _, rfl⟩
theorem SeqAt.congr {h h' : VH} {e : Nat} {v : Value} {cs : List Value} {n : Nat} (hs : SeqAt h e v cs n) (hn : h.n ≤ h'.n) (hg : ∀ i ∈ idOf v, h'.get i = h.get i) : SeqAt h' e v cs n := by
  rcases hs with hs | ⟨i, o, c, ds, ow, hi, hc, rfl, hgi, hr⟩
  · exact .inl hs
  · exact .inr ⟨i, o, c, ds, ow, Nat.lt_of_lt_of_le hi hn, hc, rfl, by rw [hg i (by simp [idOf])]; exact hgi, hr⟩
theorem SeqAt.lt {h : VH} {e : Nat} {v : Value} {cs : List Value} {n : Nat} (hs : SeqAt h e v cs n) : ∀ i ∈ idOf v, i < h.n := by
  rcases hs with ⟨rfl, _, _⟩ | ⟨i, _, _, _, _, hi, _, rfl, _⟩
  · intro i hi; simp [idOf] at hi
  · intro j hj; simp [idOf] at hj; subst hj; exact hi
theorem SeqAt.fr {h h' : VH} {X : List Nat} (hf : Fr h h' X) {e : Nat} {v : Value} {cs : List Value} {n : Nat} (hs : SeqAt h e v cs n) (hx : ∀ i ∈ idOf v, i ∉ X) : SeqAt h' e v cs n :=
  hs.congr hf.n fun i hi => hf.get i (hs.lt i hi) (hx i hi)
theorem ro_get {h : VH} {i : Nat} {cs : List Value} {ow : Bool} {e : Nat} (hg : h.get i = .cells cs ow e) : h.ro.get i = .cells cs false e := by simp [VH.ro, hg, VObj.ro]
theorem ro_map {h : VH} {i : Nat} {es : List Ent} {c : Nat} {ow : Bool} (hg : h.get i = .map es c ow) : h.ro.get i = .map es c false := by simp [VH.ro, hg, VObj.ro]

structure Rt where
  t : Tn
  it : Nat
  iq : Nat
  v : Value
  bn : Nat
def entT (r : Rt) : Ent := (.string (strB r.t.nm), .pointer (some ⟨r.it, 0, none⟩), r.bn)
def wkL (w : Wk) : List Value := [.int .i64 w.j.id, .int .i64 w.j.cost, .int .i64 w.st]
def wksL (l : List Wk) : List Value := l.flatMap wkL
def jbV (j : Jb) : Value := .agg #[.int .i64 j.id, .int .i64 j.cost]
def wkV (w : Wk) : Value := .agg #[.int .i64 w.j.id, .int .i64 w.j.cost, .int .i64 w.st]
theorem wksL_cons (w : Wk) (l : List Wk) : wksL (w :: l) = [.int .i64 w.j.id, .int .i64 w.j.cost, .int .i64 w.st] ++ wksL l := rfl
theorem wksL_append (a b : List Wk) : wksL (a ++ b) = wksL a ++ wksL b := by simp [wksL]
theorem wksL_one (w : Wk) : wksL [w] = [.int .i64 w.j.id, .int .i64 w.j.cost, .int .i64 w.st] := rfl
theorem wksL_len : ∀ (l : List Wk), (wksL l).length = l.length * 3
  | [] => rfl
  | w :: l => by rw [wksL_cons, List.length_append, wksL_len l]; simp; omega
def tnL (t : Tn) (iq : Nat) : List Value := [.int .i64 (t.w : Int), .int .i64 t.en, .pointer (some ⟨iq, 0, none⟩)]
def quL (v : Value) : List Value := [.int .i64 16, v]
def scL (S : Sc) (j : Nat) : List Value := [.map (some j), .int .i64 S.ck, .string (strB S.sv), .int .i64 S.had]
structure TenAt (g : VH) (r : Rt) : Prop where
  lt : r.it < g.n
  lq : r.iq < g.n
  rec_ : g.get r.it = .cells (tnL r.t r.iq) true 1
  qu : g.get r.iq = .cells (quL r.v) true 1
  own : OwnSl g 3 r.v (wksL r.t.l) r.t.l.length
/-- as far as it is read. -/
structure TenR (g : VH) (r : Rt) : Prop where
  lt : r.it < g.n
  lq : r.iq < g.n
  rec_ : ∃ ow, g.get r.it = .cells (tnL r.t r.iq) ow 1
  qu : ∃ ow, g.get r.iq = .cells (quL r.v) ow 1
  own : SeqAt g 3 r.v (wksL r.t.l) r.t.l.length
theorem TenAt.r {g : VH} {r : Rt} (k : TenAt g r) : TenR g r := ⟨k.lt, k.lq, ⟨_, k.rec_⟩, ⟨_, k.qu⟩, k.own.seq⟩
theorem TenR.ro {g : VH} {r : Rt} (k : TenR g r) : TenR g.ro r := by
  obtain ⟨k1, k2, ⟨_, h1⟩, ⟨_, h2⟩, h3⟩ := k
  exact ⟨k1, k2, ⟨_, ro_get h1⟩, ⟨_, ro_get h2⟩, h3.ro⟩
def fpT (r : Rt) : List Nat := r.it :: r.iq :: idOf r.v
theorem TenAt.lts {g : VH} {r : Rt} (k : TenAt g r) : ∀ x ∈ fpT r, x < g.n := by
  intro x hx
  simp only [fpT, List.mem_cons] at hx
  rcases hx with rfl | rfl | hx
  · exact k.lt
  · exact k.lq
  · exact k.own.lt x hx
theorem TenAt.fr {g g' : VH} {X : List Nat} (hf : Fr g g' X) {r : Rt} (k : TenAt g r) (hx : ∀ x ∈ fpT r, x ∉ X) : TenAt g' r := by
  have hn := hf.n
  refine ⟨by have := k.lt; omega, by have := k.lq; omega, ?_, ?_, k.own.fr hf (fun i hi => hx i (by simp [fpT, hi]))⟩
  · rw [hf.get _ k.lt (hx _ (by simp [fpT]))]; exact k.rec_
  · rw [hf.get _ k.lq (hx _ (by simp [fpT]))]; exact k.qu

structure Rep (g : VH) (i j : Nat) (rs : List Rt) (S : Sc) : Prop where
  lti : i < g.n
  ltj : j < g.n
  rec_ : g.get i = .cells (scL S j) true 1
  map_ : ∃ clk, g.get j = .map (rs.map entT) clk true ∧ ∀ r ∈ rs, r.bn < clk
  bnd : (rs.map fun r => (entT r).2.2).Nodup
  ten : ∀ r ∈ rs, TenAt g r
  sep : rs.Pairwise fun a b => ∀ x ∈ fpT a, x ∉ fpT b
  perm : (rs.map (·.t)).Perm S.ts
def fpS (i j : Nat) (rs : List Rt) : List Nat := i :: j :: rs.flatMap fpT
theorem Rep.ni {g : VH} {i j : Nat} {rs : List Rt} {S : Sc} (k : Rep g i j rs S) : ∀ r ∈ rs, i ∉ fpT r := by
  intro r hr hx
  have T := k.ten r hr
  simp only [fpT, List.mem_cons] at hx
  rcases hx with rfl | rfl | hx
  · have := k.rec_; rw [T.rec_] at this; simp [scL, tnL] at this
  · have := k.rec_; rw [T.qu] at this; simp [scL, quL] at this
  · rcases T.own with ⟨h1, _, _⟩ | ⟨a, o, c, ds, _, _, h1, h2, _⟩
    · rw [h1] at hx; simp [idOf] at hx
    · rw [h1] at hx
      simp [idOf] at hx
      subst hx
      have := k.rec_
      rw [h2] at this
      simp at this
theorem Rep.nj {g : VH} {i j : Nat} {rs : List Rt} {S : Sc} (k : Rep g i j rs S) : ∀ r ∈ rs, j ∉ fpT r := by
  intro r hr hx
  have T := k.ten r hr
  obtain ⟨clk, hj, _⟩ := k.map_
  simp only [fpT, List.mem_cons] at hx
  rcases hx with rfl | rfl | hx
  · rw [T.rec_] at hj; cases hj
  · rw [T.qu] at hj; cases hj
  · rcases T.own with ⟨h1, _, _⟩ | ⟨a, o, c, ds, _, _, h1, h2, _⟩
    · rw [h1] at hx; simp [idOf] at hx
    · rw [h1] at hx
      simp [idOf] at hx
      subst hx
      rw [h2] at hj
      cases hj
theorem Rep.nij {g : VH} {i j : Nat} {rs : List Rt} {S : Sc} (k : Rep g i j rs S) : i ≠ j := by
  rintro rfl
  obtain ⟨clk, hj, _⟩ := k.map_
  have := k.rec_
  rw [hj] at this
  cases this
theorem TenAt.nq {g : VH} {r : Rt} (k : TenAt g r) : r.it ≠ r.iq := by
  intro e
  have := k.rec_
  rw [e, k.qu] at this
  simp [tnL, quL] at this
theorem TenAt.nv {g : VH} {r : Rt} (k : TenAt g r) : r.it ∉ idOf r.v ∧ r.iq ∉ idOf r.v := by
  rcases k.own with ⟨h1, _, _⟩ | ⟨a, o, c, ds, _, _, h1, h2, _⟩
  · rw [h1]; simp [idOf]
  · rw [h1]
    refine ⟨fun hx => ?_, fun hx => ?_⟩
    · simp [idOf] at hx
      have := k.rec_
      rw [hx, h2] at this
      simp at this
    · simp [idOf] at hx
      have := k.qu
      rw [hx, h2] at this
      simp at this
theorem Rep.fr {g g' : VH} {X : List Nat} (hf : Fr g g' X) {i j : Nat} {rs : List Rt} {S : Sc} (k : Rep g i j rs S) (hx : ∀ x ∈ fpS i j rs, x ∉ X) : Rep g' i j rs S := by
  have hn := hf.n
  obtain ⟨clk, hj, hb⟩ := k.map_
  refine ⟨by have := k.lti; omega, by have := k.ltj; omega, ?_, ⟨clk, ?_, hb⟩, k.bnd, fun r hr => (k.ten r hr).fr hf (fun x hxr => hx x ?_), k.sep, k.perm⟩
  · rw [hf.get _ k.lti (hx _ (by simp [fpS]))]; exact k.rec_
  · rw [hf.get _ k.ltj (hx _ (by simp [fpS]))]; exact hj
  · simp only [fpS, List.mem_cons, List.mem_flatMap]
    exact .inr (.inr ⟨r, hr, hxr⟩)
theorem Rep.fr0 {g g' : VH} (hf : Fr g g' []) {i j : Nat} {rs : List Rt} {S : Sc} (k : Rep g i j rs S) : Rep g' i j rs S := k.fr hf (fun _ _ => by simp)
/-- the numbers of the scheduler itself turn. -/
theorem Rep.upd {g : VH} {i j : Nat} {rs : List Rt} {S S' : Sc} (k : Rep g i j rs S) (ht : S'.ts = S.ts) : Rep (g.set i (.cells (scL S' j) true 1)) i j rs S' := by
  obtain ⟨clk, hj, hb⟩ := k.map_
  have hf : Fr g (g.set i (.cells (scL S' j) true 1)) [i] := Fr.set _ _ (by simp)
  refine ⟨k.lti, k.ltj, VH.get_set_same .., ⟨clk, ?_, hb⟩, k.bnd, fun r hr => (k.ten r hr).fr hf (fun x hxr hxi => ?_), k.sep, by rw [ht]; exact k.perm⟩
  · rw [VH.get_set_ne _ _ (fun e => k.nij e.symm)]; exact hj
  · simp at hxi
    subst hxi
    exact k.ni r hr hxr
theorem Rep.fset {i j : Nat} {rs : List Rt} : i ∈ fpS i j rs := by simp [fpS]
/-- one tenant turns. -/
theorem Rep.one {g g' : VH} {i j : Nat} {a b : List Rt} {r r' : Rt} {S : Sc} (k : Rep g i j (a ++ r :: b) S) (hu : Uni S.ts) (hf : Fr g g' (fpT r)) (T : TenAt g' r') (hn : r'.t.nm = r.t.nm) (hi : r'.it = r.it) (hb : r'.bn = r.bn) (hfp : ∀ x ∈ fpT r', x ∈ fpT r ∨ g.n ≤ x) :
    Rep g' i j (a ++ r' :: b) { S with ts := putT r'.t S.ts } := by
  have hgn := hf.n
  have hin : ∀ x, x ∈ a ++ b → x ∈ a ++ r :: b := fun x hx => by
    simp only [List.mem_append, List.mem_cons] at hx ⊢
    rcases hx with hx | hx
    · exact .inl hx
    · exact .inr (.inr hx)
  have hre : entT r' = entT r := by simp only [entT, hn, hi, hb]
  have hmap : (a ++ r' :: b).map entT = (a ++ r :: b).map entT := by simp [hre]
  obtain ⟨clk, hj, hbk⟩ := k.map_
  have hsep := k.sep
  rw [List.pairwise_append, List.pairwise_cons] at hsep
  obtain ⟨s1, ⟨s2, s3⟩, s4⟩ := hsep
  have sa : ∀ x ∈ a, ∀ y ∈ fpT x, y ∉ fpT r := fun x hx y hy => s4 x hx r (List.mem_cons_self ..) y hy
  have sb : ∀ x ∈ b, ∀ y ∈ fpT x, y ∉ fpT r := fun x hx y hy hyr => s2 x hx y hyr hy
  have ta : ∀ x ∈ a, ∀ y ∈ fpT x, y < g.n := fun x hx => (k.ten x (hin x (List.mem_append_left _ hx))).lts
  have tb : ∀ x ∈ b, ∀ y ∈ fpT x, y < g.n := fun x hx => (k.ten x (hin x (List.mem_append_right _ hx))).lts
  refine ⟨by have := k.lti; omega, by have := k.ltj; omega, ?_, ⟨clk, ?_, ?_⟩, ?_, ?_, ?_, ?_⟩
  · rw [hf.get _ k.lti (k.ni r (by simp))]; exact k.rec_
  · rw [hf.get _ k.ltj (k.nj r (by simp)), hmap]; exact hj
  · intro x hx
    simp only [List.mem_append, List.mem_cons] at hx
    rcases hx with hx | rfl | hx
    · exact hbk x (by simp [hx])
    · rw [hb]; exact hbk r (by simp)
    · exact hbk x (by simp [hx])
  · have := k.bnd
    rw [show (fun r : Rt => (entT r).2.2) = (fun e : Ent => e.2.2) ∘ entT from rfl, ← List.map_map] at this ⊢
    rw [hmap]; exact this
  · intro x hx
    simp only [List.mem_append, List.mem_cons] at hx
    rcases hx with hx | rfl | hx
    · exact (k.ten x (by simp [hx])).fr hf (sa x hx)
    · exact T
    · exact (k.ten x (by simp [hx])).fr hf (sb x hx)
  · rw [List.pairwise_append, List.pairwise_cons]
    refine ⟨s1, ⟨fun x hx y hy hyx => ?_, s3⟩, fun x hx y hy z hz hzy => ?_⟩
    · rcases hfp y hy with h1 | h1
      · exact s2 x hx y h1 hyx
      · have := tb x hx y hyx; omega
    · simp only [List.mem_cons] at hy
      rcases hy with rfl | hy
      · rcases hfp z hzy with h1 | h1
        · exact sa x hx z hz h1
        · have := ta x hx z hz; omega
      · exact s4 x hx y (List.mem_cons_of_mem _ hy) z hz hzy
  · have hp := k.perm
    rw [List.map_append, List.map_cons] at hp ⊢
    have hmem : r.t ∈ S.ts := hp.mem_iff.1 (by simp)
    have hfd : findT r'.t.nm S.ts = some r.t := by rw [hn]; exact findT_mem hu hmem
    obtain ⟨A, B, h1, h2⟩ := putT_at hu hfd
    rw [h2]
    rw [h1] at hp
    have hp2 : (a.map (·.t) ++ b.map (·.t)).Perm (A ++ B) :=
      List.Perm.cons_inv ((List.perm_middle.symm.trans hp).trans List.perm_middle)
    exact (List.perm_middle.trans (hp2.cons r'.t)).trans List.perm_middle.symm
theorem Rep.fp_one {i j : Nat} {a b : List Rt} {r r' : Rt} {n : Nat} (hfp : ∀ x ∈ fpT r', x ∈ fpT r ∨ n ≤ x) : ∀ x ∈ fpS i j (a ++ r' :: b), x ∈ fpS i j (a ++ r :: b) ∨ n ≤ x := by
  intro x hx
  simp only [fpS, List.mem_cons, List.flatMap_append, List.flatMap_cons, List.mem_append] at hx ⊢
  rcases hx with hx | hx | hx | hx | hx
  · exact .inl (.inl hx)
  · exact .inl (.inr (.inl hx))
  · exact .inl (.inr (.inr (.inl hx)))
  · rcases hfp x hx with h1 | h1
    · exact .inl (.inr (.inr (.inr (.inl h1))))
    · exact .inr h1
  · exact .inl (.inr (.inr (.inr (.inr hx))))
theorem fp_mem {i j : Nat} {a b : List Rt} {r : Rt} : ∀ x ∈ fpT r, x ∈ fpS i j (a ++ r :: b) := by
  intro x hx
  simp only [fpS, List.mem_cons, List.flatMap_append, List.flatMap_cons, List.mem_append]
  exact .inr (.inr (.inr (.inl hx)))
/-- who is found, or not. -/
theorem Rep.found {g : VH} {i j : Nat} {rs : List Rt} {S : Sc} (k : Rep g i j rs S) (hu : Uni S.ts) {nm : List UInt8} {t : Tn} (h : findT nm S.ts = some t) : ∃ a r b, rs = a ++ r :: b ∧ r.t = t := by
  obtain ⟨h1, h2⟩ := findT_some h
  obtain ⟨r, hr, rfl⟩ := List.mem_map.1 (k.perm.mem_iff.2 h1)
  obtain ⟨a, b, hab⟩ := List.append_of_mem hr
  exact ⟨a, r, b, hab, rfl⟩
theorem mget_rs {nm : List UInt8} : ∀ {rs : List Rt}, mget (.string (strB nm)) (rs.map entT) = ((rs.find? fun r => decide (r.t.nm = nm)).map fun r => .pointer (some ⟨r.it, 0, none⟩))
  | [] => rfl
  | r :: rs => by
    simp only [List.map_cons, mget, entT, keq, List.find?_cons]
    by_cases h : r.t.nm = nm
    · have : (strB nm).data.toList = (strB r.t.nm).data.toList := by rw [h]
      simp [h]
    · have h1 : ¬ nm = r.t.nm := fun e => h e.symm
      simp [strB, h, h1]
      exact mget_rs
theorem find_rs {nm : List UInt8} : ∀ {rs : List Rt}, (rs.find? fun r => decide (r.t.nm = nm)).map (·.t) = findT nm (rs.map (·.t))
  | [] => rfl
  | r :: rs => by
    simp only [List.find?_cons, List.map_cons, findT]
    by_cases h : r.t.nm = nm
    · simp [h]
    · simp [h]; exact find_rs
theorem keysFit_rs (rs : List Rt) : keysFit .s (rs.map entT) = true := by
  simp only [keysFit, List.all_map, List.all_eq_true]
  intro r _; rfl
theorem Rep.getS {g : VH} {i j : Nat} {rs : List Rt} {S : Sc} (k : Rep g i j rs S) (hu : Uni S.ts) {nm : List UInt8} {t : Tn} (h : findT nm S.ts = some t) :
    ∃ a r b, rs = a ++ r :: b ∧ r.t = t ∧ mget (.string (strB nm)) (rs.map entT) = some (.pointer (some ⟨r.it, 0, none⟩)) := by
  have h' : findT nm (rs.map (·.t)) = some t := by rw [findT_perm k.perm hu]; exact h
  rw [← find_rs, Option.map_eq_some_iff] at h'
  obtain ⟨r, hr, rfl⟩ := h'
  obtain ⟨a, b, hab⟩ := List.append_of_mem (List.mem_of_find?_eq_some hr)
  exact ⟨a, r, b, hab, rfl, by rw [mget_rs, hr]; rfl⟩
theorem Rep.getN {g : VH} {i j : Nat} {rs : List Rt} {S : Sc} (k : Rep g i j rs S) (hu : Uni S.ts) {nm : List UInt8} (h : findT nm S.ts = none) : mget (.string (strB nm)) (rs.map entT) = none := by
  have h' : findT nm (rs.map (·.t)) = none := by rw [findT_perm k.perm hu]; exact h
  rw [← find_rs, Option.map_eq_none_iff] at h'
  rw [mget_rs, h']; rfl

section
variable {a b c d : Value} {ow : Bool} {z : Nat}
theorem l2_0 : loadObj (.cells (quL b) ow z) 0 none = some (.int .i64 16) := rfl
theorem l2_1 : loadObj (.cells (quL b) ow z) 1 none = some b := rfl
theorem lt_0 {t : Tn} {q : Nat} : loadObj (.cells (tnL t q) ow z) 0 none = some (.int .i64 (t.w : Int)) := rfl
theorem lt_1 {t : Tn} {q : Nat} : loadObj (.cells (tnL t q) ow z) 1 none = some (.int .i64 t.en) := rfl
theorem lt_2 {t : Tn} {q : Nat} : loadObj (.cells (tnL t q) ow z) 2 none = some (.pointer (some ⟨q, 0, none⟩)) := rfl
theorem ls_0 {S : Sc} {j : Nat} : loadObj (.cells (scL S j) ow z) 0 none = some (.map (some j)) := rfl
theorem ls_1 {S : Sc} {j : Nat} : loadObj (.cells (scL S j) ow z) 1 none = some (.int .i64 S.ck) := rfl
theorem ls_2 {S : Sc} {j : Nat} : loadObj (.cells (scL S j) ow z) 2 none = some (.string (strB S.sv)) := rfl
theorem ls_3 {S : Sc} {j : Nat} : loadObj (.cells (scL S j) ow z) 3 none = some (.int .i64 S.had) := rfl
theorem l3_A : loadObj (.cells [a, b, c] ow z) 0 (some 3) = some (.agg #[a, b, c]) := rfl
theorem l2_A : loadObj (.cells [a, b] ow z) 0 (some 2) = some (.agg #[a, b]) := rfl
theorem l3_2 : loadObj (.cells [a, b, c] ow z) 2 none = some c := rfl
theorem l3_1 : loadObj (.cells [a, b, c] ow z) 1 none = some b := rfl
theorem l3_0 : loadObj (.cells [a, b, c] ow z) 0 none = some a := rfl
theorem l3_J : loadObj (.cells [a, b, c] ow z) 0 (some 2) = some (.agg #[a, b]) := rfl
theorem lA_1 : loadObj (.cells [a, b] ow z) 1 none = some b := rfl
theorem lA_0 : loadObj (.cells [a, b] ow z) 0 none = some a := rfl
theorem s3_A {x y w : Int} : storeObj (.cells [a, b, c] true z) 0 3 (.agg #[.int .i64 x, .int .i64 y, .int .i64 w]) = some (.cells [.int .i64 x, .int .i64 y, .int .i64 w] true z) := rfl
theorem s2_A {x y : Int} : storeObj (.cells [a, b] true z) 0 2 (.agg #[.int .i64 x, .int .i64 y]) = some (.cells [.int .i64 x, .int .i64 y] true z) := rfl
theorem sq_1 {p : Option Addr} {q r : Nat} : storeObj (.cells (quL a) true z) 1 1 (.slice p q r) = some (.cells (quL (.slice p q r)) true z) := rfl
theorem st_0 {t : Tn} {q : Nat} {k : Nat} : storeObj (.cells (tnL t q) true z) 0 1 (.int .i64 (k : Int)) = some (.cells (tnL { t with w := k } q) true z) := rfl
theorem st_1 {t : Tn} {q : Nat} {k : Int} : storeObj (.cells (tnL t q) true z) 1 1 (.int .i64 k) = some (.cells (tnL { t with en := k } q) true z) := rfl
theorem ss_1 {S : Sc} {j : Nat} {k : Int} : storeObj (.cells (scL S j) true z) 1 1 (.int .i64 k) = some (.cells (scL { S with ck := k } j) true z) := rfl
theorem ss_2 {S : Sc} {j : Nat} {k : List UInt8} : storeObj (.cells (scL S j) true z) 2 1 (.string (strB k)) = some (.cells (scL { S with sv := k } j) true z) := rfl
theorem ss_3 {S : Sc} {j : Nat} {k : Int} : storeObj (.cells (scL S j) true z) 3 1 (.int .i64 k) = some (.cells (scL { S with had := k } j) true z) := rfl
end

/-! ### queues -/
theorem qlen_ok' {h : VH} {q : Nat} {a : Option Addr} {n c : Nat} {ow : Bool} (hq : h.get q = .cells (quL (.slice a n c)) ow 1) :
    PCalls Try.prog f_fair_Queue_fair_work_Len [.pointer (some ⟨q, 0, none⟩)] h (fun u _ => u = .int .i64 (n : Int)) := by
  refine PCalls_of_pw st_fair_Queue_fair_work_Len (by simp [n_fair_Queue_fair_work_Len]) ?_
  rw [b_fair_Queue_fair_work_Len]
  simp (disch := first|omega|(simp only [np,ns];try omega)) [r_fair_Queue_fair_work_Len, B_fair_Queue_fair_work_Len, hq, l2_1]
theorem qlen_ok {h : VH} {r : Rt} (k : TenR h r) :
    PCalls Try.prog f_fair_Queue_fair_work_Len [.pointer (some ⟨r.iq, 0, none⟩)] h (fun u h' => u = .int .i64 (r.t.l.length : Int) ∧ h' = h) := by
  obtain ⟨ow, hq⟩ := k.qu
  obtain ⟨a, c, hv⟩ := k.own.shape
  rw [hv] at hq
  exact ((qlen_ok' (ro_get hq)).mono fun u _ e => by subst e; exact ⟨rfl, rfl⟩).drop
theorem qlenNil_ok {h : VH} : PCalls Try.prog f_fair_Queue_fair_work_Len [.pointer none] h (fun u h' => u = .int .i64 0 ∧ h' = h) := by
  refine PCalls_of_pw st_fair_Queue_fair_work_Len (by simp [n_fair_Queue_fair_work_Len]) ?_
  rw [b_fair_Queue_fair_work_Len]
  simp (disch := first|omega|(simp only [np,ns];try omega)) [r_fair_Queue_fair_work_Len, B_fair_Queue_fair_work_Len]
def wk0 : Wk := ⟨job0, 0⟩
def peekV (l : List Wk) : Value := .tuple #[wkV (l.head?.getD wk0), .bool (!l.isEmpty)]
theorem peekV_closed (l : List Wk) : closedD (peekV l) = true := rfl
theorem SeqAt.hd {h : VH} {v : Value} {w : Wk} {l : List Wk} {n : Nat} (k : SeqAt h 3 v (wksL (w :: l)) n) : ∃ i o c ow ds, i < h.n ∧ 0 < n ∧ n ≤ c ∧ v = .slice (some ⟨i, o, none⟩) n c ∧ h.get i = .cells ds ow 3 ∧ loadObj (.cells ds ow 3) o (some 3) = some (wkV w) := by
  rcases k with ⟨_, h1, _⟩ | ⟨i, o, c, ds, ow, h1, h2, h3, h4, h5, h6, h7⟩
  · simp [wksL_cons] at h1
  · have hl : (ds.drop o).length = n * 3 := by rw [h5]; exact h6
    have h8 : ((ds.drop o).take 3) = wkL w := by rw [h5]; rfl
    have h9 : 3 ≤ (ds.drop o).length := by rw [h5, wksL_cons]; simp
    simp only [List.length_drop] at hl h9
    refine ⟨i, o, c, ow, ds, h1, by omega, h2, h3, h4, ?_⟩
    simp only [loadObj]
    rw [if_pos (by omega), h8]
    rfl
theorem qpeek_ok' {h : VH} {r : Rt} (k : TenR h r) :
    PCalls Try.prog f_fair_Queue_fair_work_Peek [.pointer (some ⟨r.iq, 0, none⟩)] h (fun u _ => u = peekV r.t.l) := by
  refine PCalls_of_pw st_fair_Queue_fair_work_Peek (by simp [n_fair_Queue_fair_work_Peek]) ?_
  rw [b_fair_Queue_fair_work_Peek]
  obtain ⟨ow, hq⟩ := k.qu
  have hlq := k.lq
  have ho := k.own
  cases hl : r.t.l with
  | nil =>
    rw [hl] at ho
    obtain ⟨a, c, hv⟩ := ho.shape
    rw [hv] at hq
    have hx : ∀ x y z w, storeObj (.cells [x, y, z] true w) 0 3 (.agg #[.int .i64 0, .int .i64 0, .int .i64 0]) = some (.cells [.int .i64 0, .int .i64 0, .int .i64 0] true w) := fun _ _ _ _ => rfl
    simp (disch := first|omega|(simp only [np,ns];try omega)) [r_fair_Queue_fair_work_Peek, B_fair_Queue_fair_work_Peek, hq, hlq, l2_1, l3_A, hx]
    rfl
  | cons w l =>
    rw [hl] at ho
    obtain ⟨i, o, c, ow2, ds, h1, h2, h3, hv, h4, h5⟩ := ho.hd
    obtain ⟨n, hn⟩ : ∃ n, n = (w :: l).length := ⟨_, rfl⟩
    rw [← hn] at hv h2 h3
    rw [hv] at hq
    have h0 : ((n : Int) == 0) = false := by rw [beq_eq_false_iff_ne]; omega
    have hx : ∀ x y z q, storeObj (.cells [x, y, z] true q) 0 3 (wkV w) = some (.cells [.int .i64 w.j.id, .int .i64 w.j.cost, .int .i64 w.st] true q) := fun _ _ _ _ => rfl
    simp (disch := first|omega|(simp only [np,ns];try omega)) [r_fair_Queue_fair_work_Peek, B_fair_Queue_fair_work_Peek, hq, hlq, l2_1, h0, h1, h2, h4, h5, hx, l3_A]
    rfl
theorem qpeek_ok {h : VH} {r : Rt} (k : TenR h r) :
    PCalls Try.prog f_fair_Queue_fair_work_Peek [.pointer (some ⟨r.iq, 0, none⟩)] h (fun u h' => u = peekV r.t.l ∧ h' = h) :=
  ((qpeek_ok' k.ro).mono fun u _ e => by subst e; exact ⟨peekV_closed _, rfl⟩).drop
theorem newq_ok {h : VH} : PCalls Try.prog f_fair_NewQueue_fair_work [.int .i64 16] h (fun u h' => u = .pointer (some ⟨h.n, 0, none⟩) ∧ h' = h.push (.cells (quL (.slice none 0 0)) true 1)) := by
  refine PCalls_of_pw st_fair_NewQueue_fair_work (by simp [n_fair_NewQueue_fair_work]) ?_
  rw [b_fair_NewQueue_fair_work]
  have hfi : fillC [.int .i64 0, .slice none 0 0] [(0, 1, .int .i64 16)] = some (quL (.slice none 0 0)) := rfl
  have hone : (quL (.slice none 0 0)).all Value.oneCell' = true := rfl
  simp (disch := first|omega|(simp only [np,ns];try omega)) [r_fair_NewQueue_fair_work, B_fair_NewQueue_fair_work, hfi, hone]
theorem qpush_full {h : VH} {r : Rt} (k : TenAt h r) (w : Wk) (hl : 16 ≤ r.t.l.length) :
    PCalls Try.prog f_fair_Queue_fair_work_Push [.pointer (some ⟨r.iq, 0, none⟩), wkV w] h (fun u h' => u = .int .i64 200 ∧ Fr h h' []) := by
  refine PCalls_of_pw st_fair_Queue_fair_work_Push (by simp [n_fair_Queue_fair_work_Push]) ?_
  rw [b_fair_Queue_fair_work_Push]
  have hq := k.qu
  have hlq := k.lq
  obtain ⟨a, c, hv⟩ := k.own.shapeN
  rw [hv] at hq
  obtain ⟨n, hn⟩ : ∃ n, n = r.t.l.length := ⟨_, rfl⟩
  rw [← hn] at hq hl
  have hlI : (16 : Int) ≤ (n : Int) := by omega
  simp (disch := first|omega|(simp only [np,ns];try omega)) [r_fair_Queue_fair_work_Push, B_fair_Queue_fair_work_Push, hq, hlq, l2_1, l2_0, hl, hlI, wkV]
  exact Fr_push (Fr.refl _ _)
/-- a job more. -/
def addW (r : Rt) (w : Wk) (v : Value) : Rt := { r with t := { r.t with l := r.t.l ++ [w] }, v := v }
theorem qpush_ok {h : VH} {r : Rt} (k : TenAt h r) (w : Wk) (hl : r.t.l.length < 16) :
    PCalls Try.prog f_fair_Queue_fair_work_Push [.pointer (some ⟨r.iq, 0, none⟩), wkV w] h (fun u h' => u = .int .i64 0 ∧ ∃ v, TenAt h' (addW r w v) ∧ Fr h h' (r.iq :: idOf r.v) ∧ ∀ x ∈ idOf v, x ∈ idOf r.v ∨ h.n ≤ x) := by
  refine PCalls_of_pw st_fair_Queue_fair_work_Push (by simp [n_fair_Queue_fair_work_Push]) ?_
  rw [b_fair_Queue_fair_work_Push]
  have hq := k.qu
  have hlq := k.lq
  have hlt := k.lt
  have hnq := k.nq
  have hnv := k.nv
  have hvl := k.own.lt
  have ho := k.own
  have hrec := k.rec_
  obtain ⟨a, c, hv⟩ := k.own.shapeN
  obtain ⟨n, hn⟩ : ∃ n, n = r.t.l.length := ⟨_, rfl⟩
  rw [← hn] at hl ho hv
  rw [hv] at hq
  have hlI : ¬ (16 : Int) ≤ (n : Int) := by omega
  obtain ⟨g1, hg1⟩ : ∃ g1, g1 = (h.push (.cells [.int .i64 w.j.id, .int .i64 w.j.cost, .int .i64 w.st] true 1)).push (.cells [.int .i64 w.j.id, .int .i64 w.j.cost, .int .i64 w.st] true 3) := ⟨_, rfl⟩
  have F1 : Fr h g1 [] := by rw [hg1]; exact Fr_push (Fr_push (Fr.refl _ _))
  have q1 : g1.get r.iq = .cells (quL (.slice a n c)) true 1 := (F1.get _ hlq (by simp)).trans hq
  have n1 : g1.n = h.n + 2 := by rw [hg1]; simp
  have r1 : g1.get (h.n + 1) = .cells [.int .i64 w.j.id, .int .i64 w.j.cost, .int .i64 w.st] true 3 := by rw [hg1]; exact VH.get_push_new (h.push _) _
  obtain ⟨v', g2, hap, ho2, hf2, hid⟩ := (ho.fr F1 (fun _ _ => by simp)).append (bytes := 24) (ys := wkL w) (k := 1) rfl (by omega)
  obtain ⟨p, c2, rfl⟩ := ho2.shapeN
  rw [hv] at hap hf2 hid
  have q2 : g2.get r.iq = .cells (quL (.slice a n c)) true 1 := (hf2.get _ (by omega) (by rw [← hv]; exact hnv.2)).trans q1
  have m2 := hf2.n
  have hfi : fillC [.int .i64 0, .int .i64 0, .int .i64 0] [(0, 3, .agg #[.int .i64 w.j.id, .int .i64 w.j.cost, .int .i64 w.st])] = some [.int .i64 w.j.id, .int .i64 w.j.cost, .int .i64 w.st] := rfl
  have hro : rowObj (.cells [.int .i64 w.j.id, .int .i64 w.j.cost, .int .i64 w.st] true 3) 0 3 = some (wkL w) := rfl
  simp (disch := first|omega|(simp only [np,ns];try omega)) [r_fair_Queue_fair_work_Push, B_fair_Queue_fair_work_Push, hq, hlq, l2_1, l2_0, hl, hlI, wkV, l3_A, hfi, ← hg1, hro, r1, Option.bind_some, hap, q1, q2, sq_1]
  have F2 : Fr h g2 (idOf r.v) := (F1.sub (by simp)).trans (by rw [hv]; exact hf2)
  have F3 : Fr g2 (g2.set r.iq (.cells (quL (.slice p (n + 1) c2)) true 1)) [r.iq] := Fr.set _ _ (by simp)
  have hid' : ∀ x ∈ idOf (.slice p (n + 1) c2), x ∈ idOf r.v ∨ h.n ≤ x := fun x hx => (hid x hx).imp (fun y => by rw [hv]; exact y) (by omega)
  have hiq : r.iq ∉ idOf (.slice p (n + 1) c2) := fun hx => (hid' _ hx).elim hnv.2 (fun h1 => by omega)
  refine ⟨.slice p (n + 1) c2, ⟨by show r.it < g2.n; omega, by show r.iq < g2.n; omega, ?_, VH.get_set_same .., ?_⟩, ?_, hid'⟩
  · show (g2.set r.iq _).get r.it = _
    rw [VH.get_set_ne _ _ hnq, F2.get _ hlt hnv.1]
    exact hrec
  · have := ho2.fr F3 (fun x hx hxi => by simp at hxi; subst hxi; exact hiq hx)
    show OwnSl _ 3 _ (wksL (r.t.l ++ [w])) (r.t.l ++ [w]).length
    rw [wksL_append, List.length_append, ← hn]
    exact this
  · exact (F2.sub (fun x hx => List.mem_cons_of_mem _ hx)).trans (F3.sub (fun x hx => by simp at hx; subst hx; exact List.mem_cons_self ..))
/-- without its first job. -/
def popW (r : Rt) (v : Value) : Rt := { r with t := { r.t with l := r.t.l.tail }, v := v }
theorem OwnSl.tail {h : VH} {v : Value} {w : Wk} {l : List Wk} {n : Nat} (k : OwnSl h 3 v (wksL (w :: l)) n) : ∃ i o c, v = .slice (some ⟨i, o, none⟩) n c ∧ 0 < n ∧ n ≤ c ∧ eszObj (h.get i) 3 = true ∧ OwnSl h 3 (.slice (some ⟨i, o + 3, none⟩) (n - 1) (c - 1)) (wksL l) (n - 1) := by
  rcases k with ⟨_, h1, _⟩ | ⟨i, o, c, ds, h1, h2, h3, h4, h5, h6, h7⟩
  · simp [wksL_cons] at h1
  · have h8 : (wksL (w :: l)).length = 3 + (wksL l).length := by rw [wksL_cons]; simp; omega
    have h9 : (ds.drop o).length = (wksL (w :: l)).length := by rw [h5]
    simp only [List.length_drop] at h9
    refine ⟨i, o, c, h3, by omega, h2, by rw [h4]; rfl, .inr ⟨i, o + 3, c - 1, ds, h1, by omega, rfl, h4, ?_, by omega, by omega⟩⟩
    rw [← List.drop_drop, h5, wksL_cons]
    rfl
theorem qpop_ok {h : VH} {r : Rt} (k : TenAt h r) (hne : r.t.l ≠ []) :
    PCalls Try.prog f_fair_Queue_fair_work_Pop [.pointer (some ⟨r.iq, 0, none⟩)] h (fun u h' => ∃ v, TenAt h' (popW r v) ∧ Fr h h' [r.iq] ∧ ∀ x ∈ idOf v, x ∈ idOf r.v) := by
  refine PCalls_of_pw st_fair_Queue_fair_work_Pop (by simp [n_fair_Queue_fair_work_Pop]) ?_
  rw [b_fair_Queue_fair_work_Pop]
  have hlq := k.lq
  have hlt := k.lt
  have hnq := k.nq
  have hnv := k.nv
  have hrec := k.rec_
  have hq := k.qu
  have ho := k.own
  cases hl : r.t.l with
  | nil => exact absurd hl hne
  | cons w l =>
  rw [hl] at ho
  obtain ⟨i, o, c, hv, h0, hc, he, ho'⟩ := OwnSl.tail ho
  obtain ⟨n, hn⟩ : ∃ n, n = (w :: l).length := ⟨_, rfl⟩
  rw [← hn] at hv h0 hc ho'
  have hil := ho'.lt i (by simp [idOf])
  have hiv : idOf r.v = [i] := by rw [hv]; rfl
  rw [hv] at hq
  rw [hiv] at hnv
  obtain ⟨g1, hg1⟩ : ∃ g1, g1 = h.push (.cells [.int .i64 0, .int .i64 0, .int .i64 0] true 1) := ⟨_, rfl⟩
  have F1 : Fr h g1 [] := by rw [hg1]; exact Fr_push (Fr.refl _ _)
  have n1 : g1.n = h.n + 1 := by rw [hg1]; simp
  simp (disch := first|omega|(simp only [np,ns];try omega)) [B_fair_Queue_fair_work_Pop, ← hg1]
  refine (qpeek_ok (k.fr F1 (fun _ _ => by simp)).r).mono ?_
  rintro u g ⟨rfl, rfl⟩
  have hp : peekV r.t.l = .tuple #[.agg #[.int .i64 w.j.id, .int .i64 w.j.cost, .int .i64 w.st], .bool true] := by rw [hl]; rfl
  rw [hp]
  obtain ⟨g2, hg2⟩ : ∃ g2, g2 = (g.push (.cells [.int .i64 0, .int .i64 0, .int .i64 0] true 1)).set (h.n + 1) (.cells [.int .i64 w.j.id, .int .i64 w.j.cost, .int .i64 w.st] true 1) := ⟨_, rfl⟩
  have F2 : Fr h g2 [] := by rw [hg2]; exact Fr_set (Fr_push F1) (by omega)
  have q2 : g2.get r.iq = .cells (quL (.slice (some ⟨i, o, none⟩) n c)) true 1 := (F2.get _ hlq (by simp)).trans hq
  have i2 : g2.get i = h.get i := F2.get _ hil (by simp)
  have m2 : g2.n = h.n + 2 := by rw [hg2]; simp; omega
  have z2 : ∀ o, (g.push o).get (h.n + 1) = o := fun o => by rw [← n1]; exact VH.get_push_new _ _
  have y2 : g2.get (h.n + 1) = .cells [.int .i64 w.j.id, .int .i64 w.j.cost, .int .i64 w.st] true 1 := by rw [hg2, VH.get_set_same]
  have x2 : g2.get h.n = .cells [.int .i64 0, .int .i64 0, .int .i64 0] true 1 := by rw [hg2, VH.get_set_ne _ _ (by omega), VH.get_push_lt _ _ (by omega), hg1, VH.get_push_new]
  rw [← i2] at he
  have hnI : (1 : Int) ≤ (n : Int) := by omega
  simp (disch := first|omega|(simp only [np,ns];try omega)) [r_fair_Queue_fair_work_Pop, hl, s3_A, ← hg2, q2, l2_1, he, h0, hnI, hc, sq_1, y2, x2, z2, n1, l3_A]
  have F3 : Fr g2 (g2.set r.iq (.cells (quL (.slice (some ⟨i, o + 3, none⟩) (n - 1) (c - 1))) true 1)) [r.iq] := Fr.set _ _ (by simp)
  obtain ⟨g3, hg3⟩ : ∃ x, x = g2.set r.iq (.cells (quL (.slice (some ⟨i, o + 3, none⟩) (n - 1) (c - 1))) true 1) := ⟨_, rfl⟩
  have F4 : Fr h (g3.set h.n (.cells [.int .i64 w.j.id, .int .i64 w.j.cost, .int .i64 w.st] true 1)) [r.iq] := by
    rw [← hg3] at F3
    exact ((F2.sub (by simp)).trans F3).trans' (Fr.set _ _ (X := [h.n]) (by simp)) (fun y hy => by simp at hy; omega)
  rw [← hg3]
  refine ⟨.slice (some ⟨i, o + 3, none⟩) (n - 1) (c - 1), ⟨?_, ?_, ?_, ?_, ?_⟩, F4, fun x hx => by rw [hiv]; exact hx⟩
  · have := F4.n; show r.it < _; omega
  · have := F4.n; show r.iq < _; omega
  · rw [show (popW r (.slice (some ⟨i, o + 3, none⟩) (n - 1) (c - 1))).it = r.it from rfl, F4.get _ hlt (by simpa using hnq)]; exact hrec
  · rw [show (popW r (.slice (some ⟨i, o + 3, none⟩) (n - 1) (c - 1))).iq = r.iq from rfl, VH.get_set_ne _ _ (by omega), hg3, VH.get_set_same]; rfl
  · show OwnSl _ 3 _ (wksL r.t.l.tail) r.t.l.tail.length
    rw [hl]
    have e1 : (w :: l).tail.length = n - 1 := by rw [hn]; simp
    rw [e1]
    exact ho'.fr F4 (fun x hx hxi => by simp [idOf] at hx; simp at hxi; rw [hx] at hxi; exact hnv.2 (by simp [hxi]))
end Go.Proofs.Ytoenamablkkocaa.Fa
