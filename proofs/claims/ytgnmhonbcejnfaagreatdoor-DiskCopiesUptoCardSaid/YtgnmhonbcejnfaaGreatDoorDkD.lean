/- disk, part D: how a heap holds a disk. -/
import Derived.Test.YtgnmhonbcejnfaaGreatDoorDkA
set_option linter.unusedVariables false
set_option linter.unusedSimpArgs false
set_option maxRecDepth 100000
namespace Go.Proofs.YtgnmhonbcejnfaaGreatDoor.Dk
open Go Go.RowKit Go.Proofs.YtgnmhonbcejnfaaGreatDoor.Pm Go.Proofs.YtgnmhonbcejnfaaGreatDoor.Fs



/-- n elements of e cells each. -/
def SeqAt (h : VH) (e : Nat) (v : Value) (cs : List Value) (n : Nat) : Prop :=
  (v = .slice none 0 0 ∧ cs = [] ∧ n = 0) ∨ ∃ i o c ds ow, i < h.n ∧ n ≤ c ∧ v = .slice (some ⟨i, o, none⟩) n c ∧ h.get i = .cells ds ow e ∧ (ds.drop o).take (n * e) = cs ∧ o + n * e ≤ ds.length
theorem _root_.Go.Proofs.YtgnmhonbcejnfaaGreatDoor.Pm.OwnP.seq {h : VH} {e : Nat} {v : Value} {cs : List Value} {n : Nat} (k : OwnP h e v cs n) : SeqAt h e v cs n := by
  rcases k with k | ⟨i, o, c, ds, h1, h2, h3, h4, h5⟩
  · exact .inl k
  · exact .inr ⟨i, o, c, ds, true, h1, h2, h3, h4, h5⟩
theorem _root_.Go.Proofs.YtgnmhonbcejnfaaGreatDoor.Pm.OwnSl.seq {h : VH} {e : Nat} {v : Value} {cs : List Value} {n : Nat} (k : OwnSl h e v cs n) : SeqAt h e v cs n := k.p.seq
theorem SeqAt.ro {h : VH} {e : Nat} {v : Value} {cs : List Value} {n : Nat} (k : SeqAt h e v cs n) : SeqAt h.ro e v cs n := by
  rcases k with k | ⟨i, o, c, ds, ow, h1, h2, h3, h4, h5⟩
  · exact .inl k
  · exact .inr ⟨i, o, c, ds, false, h1, h2, h3, by simp [VH.ro, h4, VObj.ro], h5⟩
theorem SeqAt.shape {h : VH} {e : Nat} {v : Value} {cs : List Value} {n : Nat} (hs : SeqAt h e v cs n) : ∃ a c, v = .slice a n c := by
  rcases hs with ⟨rfl, _, rfl⟩ | ⟨_, _, _, _, _, _, _, rfl, _⟩
  · exact ⟨_, _, rfl⟩
  · exact ⟨_, _, rfl⟩
theorem SeqAt.congr {h h' : VH} {e : Nat} {v : Value} {cs : List Value} {n : Nat} (hs : SeqAt h e v cs n) (hn : h.n ≤ h'.n) (hg : ∀ i ∈ idOf v, h'.get i = h.get i) : SeqAt h' e v cs n := by
  rcases hs with hs | ⟨i, o, c, ds, ow, hi, hc, rfl, hgi, hr⟩
  · exact .inl hs
  · exact .inr ⟨i, o, c, ds, ow, Nat.lt_of_lt_of_le hi hn, hc, rfl, by rw [hg i (by simp [idOf])]; exact hgi, hr⟩
theorem SeqAt.lt {h : VH} {e : Nat} {v : Value} {cs : List Value} {n : Nat} (hs : SeqAt h e v cs n) : ∀ i ∈ idOf v, i < h.n := by
  rcases hs with ⟨rfl, _, _⟩ | ⟨i, _, _, _, _, hi, _, rfl, _⟩
  · intro i hi; simp [idOf] at hi
  · intro j hj; simp [idOf] at hj; subst hj; exact hi
theorem SeqAt.fr {h h' : VH} {X : List Nat} (hf : Fr h h' X) {e : Nat} {v : Value} {cs : List Value} {n : Nat} (hs : SeqAt h e v cs n) (hx : ∀ i ∈ idOf v, i ∉ X) : SeqAt h' e v cs n :=
  hs.congr hf.n fun i hi => hf.get i (hs.lt i hi) (hx i hi)
theorem SeqAt.src {h : VH} {e : Nat} {v : Value} {cs : List Value} {n : Nat} (hs : SeqAt h e v cs n) : srcCells h e v = some cs := by
  rcases hs with ⟨rfl, rfl, _⟩ | ⟨i, o, c, ds, ow, hi, hc, rfl, hg, hd, ho⟩
  · rfl
  · simp only [srcCells, if_true, rowOf_obj, hg, rowObj]
    rw [if_pos ho, hd]
theorem SeqAt.bytes {h : VH} {v : Value} {bs : List UInt8} (hs : SeqAt h 1 v (u8s bs) bs.length) : IsBytes h v bs := by
  rcases hs with ⟨rfl, h1, _⟩ | ⟨i, o, c, ds, ow, hi, hc, rfl, hg, hd, ho⟩
  · exact .inl ⟨rfl, by cases bs with | nil => rfl | cons _ _ => simp [u8s] at h1⟩
  · exact .inr ⟨i, o, c, ds, ow, ⟨hi, hc⟩, rfl, hg, by omega, by rw [← hd, Nat.mul_one]⟩
theorem ro_get {h : VH} {i : Nat} {cs : List Value} {ow : Bool} {e : Nat} (hg : h.get i = .cells cs ow e) : h.ro.get i = .cells cs false e := by simp [VH.ro, hg, VObj.ro]
theorem ro_map {h : VH} {i : Nat} {es : List Ent} {c : Nat} {ow : Bool} (hg : h.get i = .map es c ow) : h.ro.get i = .map es c false := by simp [VH.ro, hg, VObj.ro]


/-- a file in the heap: its record, its two slices, the slices of its writes (those are only read), when it came into the map. -/
structure Rf where
  f : Fl
  it : Nat
  sv : Value
  mv : Value
  wv : List Value
  bn : Nat
def entF (r : Rf) : Ent := (.string (strB r.f.nm), .pointer (some ⟨r.it, 0, none⟩), r.bn)
/-- the cells of writes, of which the first stands at n. -/
def moreL : Nat → List (List UInt8) → List Value → List Value
  | n, w :: ws, v :: vs => .int .i64 (n : Int) :: v :: moreL (n + w.length) ws vs
  | _, _, _ => []
theorem moreL_len : ∀ (n : Nat) (ws : List (List UInt8)) (vs : List Value), vs.length = ws.length → (moreL n ws vs).length = ws.length * 2
  | _, [], [], _ => rfl
  | n, w :: ws, v :: vs, h => by
    simp only [moreL, List.length_cons]
    rw [moreL_len _ ws vs (by simpa using h)]
    omega
  | _, [], _ :: _, h => by simp at h
  | _, _ :: _, [], h => by simp at h
structure FilAt (g : VH) (r : Rf) : Prop where
  lt : r.it < g.n
  rec_ : g.get r.it = .cells [r.sv, r.mv] true 1
  safe : OwnP g 1 r.sv (u8s r.f.s) r.f.s.length
  more : OwnSl g 2 r.mv (moreL r.f.s.length r.f.ws r.wv) r.f.ws.length
  wl : r.wv.length = r.f.ws.length
  wr : ∀ (k : Nat) (v : Value) (w : List UInt8), r.wv[k]? = some v → r.f.ws[k]? = some w → SeqAt g 1 v (u8s w) w.length
/-- what a file's own calls write; what it only reads. -/
def fpF (r : Rf) : List Nat := r.it :: (idOf r.sv ++ idOf r.mv)
def rdF (r : Rf) : List Nat := r.wv.flatMap idOf
theorem rdF_mem {r : Rf} {k : Nat} {v : Value} (h : r.wv[k]? = some v) : ∀ x ∈ idOf v, x ∈ rdF r := fun x hx => List.mem_flatMap.2 ⟨v, List.mem_of_getElem? h, hx⟩
theorem FilAt.lts {g : VH} {r : Rf} (k : FilAt g r) : ∀ x ∈ fpF r, x < g.n := by
  intro x hx
  simp only [fpF, List.mem_cons, List.mem_append] at hx
  rcases hx with rfl | hx | hx
  · exact k.lt
  · exact k.safe.lt x hx
  · exact k.more.lt x hx
theorem FilAt.rlts {g : VH} {r : Rf} (k : FilAt g r) : ∀ x ∈ rdF r, x < g.n := by
  intro x hx
  obtain ⟨v, hv, hx⟩ := List.mem_flatMap.1 hx
  obtain ⟨j, hj, rfl⟩ := List.getElem_of_mem hv
  exact (k.wr j _ (r.f.ws[j]'(by rw [← k.wl]; exact hj)) (List.getElem?_eq_getElem hj) (List.getElem?_eq_getElem _)).lt x hx
theorem FilAt.fr {g g' : VH} {X : List Nat} (hf : Fr g g' X) {r : Rf} (k : FilAt g r) (hx : ∀ x ∈ fpF r, x ∉ X) (hr : ∀ x ∈ rdF r, x ∉ X) : FilAt g' r := by
  have hn := hf.n
  refine ⟨by have := k.lt; omega, ?_, k.safe.fr hf (fun i hi => hx i (by simp [fpF, hi])), k.more.fr hf (fun i hi => hx i (by simp [fpF, hi])), k.wl, fun j v w h1 h2 => (k.wr j v w h1 h2).fr hf (fun x hxv => hr x (rdF_mem h1 x hxv))⟩
  rw [hf.get _ k.lt (hx _ (by simp [fpF]))]; exact k.rec_
def fpS (i j : Nat) (rs : List Rf) : List Nat := i :: j :: rs.flatMap fpF
def rdS (rs : List Rf) : List Nat := rs.flatMap rdF
structure Rep (g : VH) (i j : Nat) (rs : List Rf) (S : Ds) : Prop where
  lti : i < g.n
  ltj : j < g.n
  nd : (fpS i j rs).Nodup
  rd : ∀ x ∈ rdS rs, x ∉ fpS i j rs
  rec_ : g.get i = .cells [.map (some j), .int .i64 (S.sy : Int)] true 1
  map_ : ∃ clk, g.get j = .map (rs.map entF) clk true ∧ ∀ r ∈ rs, r.bn < clk
  bnd : (rs.map fun r => (entF r).2.2).Nodup
  fil : ∀ r ∈ rs, FilAt g r
  perm : (rs.map (·.f)).Perm S.fs
theorem fp_in {i j : Nat} {rs : List Rf} {r : Rf} (h : r ∈ rs) : ∀ x ∈ fpF r, x ∈ fpS i j rs := fun x hx => by
  simp only [fpS, List.mem_cons, List.mem_flatMap]
  exact .inr (.inr ⟨r, h, hx⟩)
theorem rd_in {rs : List Rf} {r : Rf} (h : r ∈ rs) : ∀ x ∈ rdF r, x ∈ rdS rs := fun x hx => List.mem_flatMap.2 ⟨r, h, hx⟩
theorem Rep.lts {g : VH} {i j : Nat} {rs : List Rf} {S : Ds} (k : Rep g i j rs S) : ∀ x ∈ fpS i j rs, x < g.n := by
  intro x hx
  simp only [fpS, List.mem_cons, List.mem_flatMap] at hx
  rcases hx with rfl | rfl | ⟨r, hr, hx⟩
  · exact k.lti
  · exact k.ltj
  · exact (k.fil r hr).lts x hx
theorem Rep.rlts {g : VH} {i j : Nat} {rs : List Rf} {S : Ds} (k : Rep g i j rs S) : ∀ x ∈ rdS rs, x < g.n := by
  intro x hx
  obtain ⟨r, hr, hx⟩ := List.mem_flatMap.1 hx
  exact (k.fil r hr).rlts x hx
theorem Rep.nij {g : VH} {i j : Nat} {rs : List Rf} {S : Ds} (k : Rep g i j rs S) : i ≠ j := by
  have := k.nd
  simp only [fpS, List.nodup_cons, List.mem_cons, not_or] at this
  exact this.1.1
theorem Rep.ni {g : VH} {i j : Nat} {rs : List Rf} {S : Ds} (k : Rep g i j rs S) : ∀ r ∈ rs, i ∉ fpF r := by
  have := k.nd
  simp only [fpS, List.nodup_cons, List.mem_cons, not_or] at this
  exact fun r hr h => this.1.2 (List.mem_flatMap.2 ⟨r, hr, h⟩)
theorem Rep.nj {g : VH} {i j : Nat} {rs : List Rf} {S : Ds} (k : Rep g i j rs S) : ∀ r ∈ rs, j ∉ fpF r := by
  have := k.nd
  simp only [fpS, List.nodup_cons, List.mem_cons, not_or] at this
  exact fun r hr h => this.2.1 (List.mem_flatMap.2 ⟨r, hr, h⟩)
theorem nodup_of {α β : Type} {f : α → List β} {l : List α} (h : (l.flatMap f).Nodup) {a : α} (ha : a ∈ l) : (f a).Nodup := by
  obtain ⟨s, t, rfl⟩ := List.append_of_mem ha
  rw [List.flatMap_append, List.flatMap_cons, List.nodup_append, List.nodup_append] at h
  exact h.2.1.1
theorem Rep.fnd {g : VH} {i j : Nat} {rs : List Rf} {S : Ds} (k : Rep g i j rs S) {r : Rf} (hr : r ∈ rs) : (fpF r).Nodup := by
  have := k.nd
  simp only [fpS, List.nodup_cons] at this
  exact nodup_of this.2.2 hr
theorem fpS_mid (i j : Nat) (a b : List Rf) (r : Rf) : fpS i j (a ++ r :: b) = (i :: j :: a.flatMap fpF) ++ fpF r ++ b.flatMap fpF := by
  simp [fpS]
theorem nodup_mid {A X X' B : List Nat} {n : Nat} (h : (A ++ X ++ B).Nodup) (hl : ∀ x ∈ A ++ X ++ B, x < n) (hX : X'.Nodup) (hs : ∀ x ∈ X', x ∈ X ∨ n ≤ x) : (A ++ X' ++ B).Nodup := by
  simp only [List.nodup_append, List.mem_append] at h hl ⊢
  obtain ⟨⟨h1, h2, h3⟩, h4, h5⟩ := h
  refine ⟨⟨h1, hX, fun a ha b hb e => ?_⟩, h4, fun a ha b hb e => ?_⟩
  · subst e
    rcases hs a hb with h6 | h6
    · exact h3 a ha a h6 rfl
    · have := hl a (.inl (.inl ha)); omega
  · subst e
    rcases ha with ha | ha
    · exact h5 a (.inl ha) a hb rfl
    · rcases hs a ha with h6 | h6
      · exact h5 a (.inr h6) a hb rfl
      · have := hl a (.inr hb); omega
theorem Rep.other {g : VH} {i j : Nat} {a b : List Rf} {r : Rf} {S : Ds} (k : Rep g i j (a ++ r :: b) S) {x : Rf} (hx : x ∈ a ∨ x ∈ b) : ∀ y ∈ fpF x, y ∉ fpF r := by
  have := k.nd
  rw [fpS_mid, List.nodup_append, List.nodup_append] at this
  obtain ⟨⟨h1, h2, h3⟩, h4, h5⟩ := this
  intro y hy hyr
  rcases hx with hx | hx
  · exact h3 y (by simp only [List.mem_cons, List.mem_flatMap]; exact .inr (.inr ⟨x, hx, hy⟩)) y hyr rfl
  · exact h5 y (List.mem_append_right _ hyr) y (List.mem_flatMap.2 ⟨x, hx, hy⟩) rfl
theorem Rep.fr {g g' : VH} {X : List Nat} (hf : Fr g g' X) {i j : Nat} {rs : List Rf} {S : Ds} (k : Rep g i j rs S) (hx : ∀ x ∈ fpS i j rs, x ∉ X) (hr : ∀ x ∈ rdS rs, x ∉ X) : Rep g' i j rs S := by
  have hn := hf.n
  obtain ⟨clk, hj, hb⟩ := k.map_
  refine ⟨by have := k.lti; omega, by have := k.ltj; omega, k.nd, k.rd, ?_, ⟨clk, ?_, hb⟩, k.bnd, fun r hrr => (k.fil r hrr).fr hf (fun x hxr => hx x (fp_in hrr x hxr)) (fun x hxr => hr x (rd_in hrr x hxr)), k.perm⟩
  · rw [hf.get _ k.lti (hx _ (by simp [fpS]))]; exact k.rec_
  · rw [hf.get _ k.ltj (hx _ (by simp [fpS]))]; exact hj
theorem Rep.fr0 {g g' : VH} (hf : Fr g g' []) {i j : Nat} {rs : List Rf} {S : Ds} (k : Rep g i j rs S) : Rep g' i j rs S := k.fr hf (fun _ _ => by simp) (fun _ _ => by simp)
/-- the count of syncs turns. -/
theorem Rep.upd {g : VH} {i j : Nat} {rs : List Rf} {S : Ds} (k : Rep g i j rs S) (n : Nat) : Rep (g.set i (.cells [.map (some j), .int .i64 (n : Int)] true 1)) i j rs { S with sy := n } := by
  obtain ⟨clk, hj, hb⟩ := k.map_
  have hf : Fr g (g.set i (.cells [.map (some j), .int .i64 (n : Int)] true 1)) [i] := Fr.set _ _ (by simp)
  refine ⟨k.lti, k.ltj, k.nd, k.rd, VH.get_set_same .., ⟨clk, ?_, hb⟩, k.bnd, fun r hr => (k.fil r hr).fr hf (fun x hxr hxi => ?_) (fun x hxr hxi => ?_), k.perm⟩
  · rw [VH.get_set_ne _ _ (fun e => k.nij e.symm)]; exact hj
  · simp at hxi
    subst hxi
    exact k.ni r hr hxr
  · simp at hxi
    subst hxi
    exact k.rd _ (rd_in hr _ hxr) (by simp [fpS])
/-- one file turns. -/
theorem Rep.one {g g' : VH} {i j : Nat} {a b : List Rf} {r r' : Rf} {S : Ds} (k : Rep g i j (a ++ r :: b) S) (hu : Uni S.fs) (hf : Fr g g' (fpF r)) (T : FilAt g' r') (hn : r'.f.nm = r.f.nm) (hi : r'.it = r.it) (hb : r'.bn = r.bn) (hnd : (fpF r').Nodup)
    (hfp : ∀ x ∈ fpF r', x ∈ fpF r ∨ g.n ≤ x) (hrd : ∀ x ∈ rdF r', x ∈ rdF r ∨ (g.n ≤ x ∧ x ∉ fpF r')) :
    Rep g' i j (a ++ r' :: b) { S with fs := setF r'.f S.fs } := by
  have hgn := hf.n
  have hre : entF r' = entF r := by simp only [entF, hn, hi, hb]
  have hmap : (a ++ r' :: b).map entF = (a ++ r :: b).map entF := by simp [hre]
  obtain ⟨clk, hj, hbk⟩ := k.map_
  have hin : ∀ x, x ∈ a ∨ x ∈ b → x ∈ a ++ r :: b := fun x hx => by
    simp only [List.mem_append, List.mem_cons]
    rcases hx with hx | hx
    · exact .inl hx
    · exact .inr (.inr hx)
  have hnew : ∀ x ∈ fpS i j (a ++ r' :: b), x ∈ fpS i j (a ++ r :: b) ∨ g.n ≤ x := by
    intro x hx
    simp only [fpS_mid, List.mem_append] at hx ⊢
    rcases hx with (hx | hx) | hx
    · exact .inl (.inl (.inl hx))
    · exact (hfp x hx).imp (fun h => .inl (.inr h)) id
    · exact .inl (.inr hx)
  have keep : ∀ x, x ∈ a ∨ x ∈ b → FilAt g' x := fun x hx => (k.fil x (hin x hx)).fr hf (k.other hx) (fun y hy hyr => k.rd y (rd_in (hin x hx) y hy) (fp_in (by simp) y hyr))
  refine ⟨by have := k.lti; omega, by have := k.ltj; omega, ?_, ?_, ?_, ⟨clk, ?_, ?_⟩, ?_, ?_, ?_⟩
  · have h1 := k.nd
    have h2 := k.lts
    rw [fpS_mid] at h1 h2 ⊢
    exact nodup_mid h1 h2 hnd hfp
  · intro x hx hxf
    simp only [rdS, List.flatMap_append, List.flatMap_cons, List.mem_append] at hx
    have old : x ∈ rdS (a ++ r :: b) → False := fun h1 => (hnew x hxf).elim (k.rd x h1) (fun h2 => by have := k.rlts x h1; omega)
    rcases hx with hx | hx | hx
    · exact old (by simp [rdS, List.mem_flatMap] at hx ⊢; exact .inl hx)
    · rcases hrd x hx with h1 | ⟨h1, h2⟩
      · exact old (rd_in (by simp) x h1)
      · simp only [fpS_mid, List.mem_append] at hxf
        have hl := k.lts
        simp only [fpS_mid, List.mem_append] at hl
        rcases hxf with (h3 | h3) | h3
        · have := hl x (.inl (.inl h3)); omega
        · exact h2 h3
        · have := hl x (.inr h3); omega
    · exact old (by simp [rdS, List.mem_flatMap] at hx ⊢; exact .inr (.inr hx))
  · rw [hf.get _ k.lti (k.ni r (by simp))]; exact k.rec_
  · rw [hf.get _ k.ltj (k.nj r (by simp)), hmap]; exact hj
  · intro x hx
    simp only [List.mem_append, List.mem_cons] at hx
    rcases hx with hx | rfl | hx
    · exact hbk x (by simp [hx])
    · rw [hb]; exact hbk r (by simp)
    · exact hbk x (by simp [hx])
  · have := k.bnd
    rw [show (fun r : Rf => (entF r).2.2) = (fun e : Ent => e.2.2) ∘ entF from rfl, ← List.map_map] at this ⊢
    rw [hmap]; exact this
  · intro x hx
    simp only [List.mem_append, List.mem_cons] at hx
    rcases hx with hx | rfl | hx
    · exact keep x (.inl hx)
    · exact T
    · exact keep x (.inr hx)
  · have hp := k.perm
    rw [List.map_append, List.map_cons] at hp ⊢
    have hmem : r.f ∈ S.fs := hp.mem_iff.1 (by simp)
    have hfd : findF r'.f.nm S.fs = some r.f := by rw [hn]; exact findF_mem hu hmem
    obtain ⟨A, B, h1, h2, h3, h4, h5⟩ := findF_at hfd
    show (_ : List Fl).Perm (setF r'.f S.fs)
    rw [h4 _ rfl]
    rw [h1] at hp
    have hp2 : (a.map (·.f) ++ b.map (·.f)).Perm (A ++ B) :=
      List.Perm.cons_inv ((List.perm_middle.symm.trans hp).trans List.perm_middle)
    exact (List.perm_middle.trans (hp2.cons r'.f)).trans List.perm_middle.symm
theorem keq_str {a b : List UInt8} : keq (.string (strB a)) (.string (strB b)) = decide (a = b) := rfl
theorem mget_rs {nm : List UInt8} : ∀ {rs : List Rf}, mget (.string (strB nm)) (rs.map entF) = ((rs.find? fun r => decide (r.f.nm = nm)).map fun r => .pointer (some ⟨r.it, 0, none⟩))
  | [] => rfl
  | r :: rs => by
    simp only [List.map_cons, mget, entF, keq_str, List.find?_cons]
    by_cases h : r.f.nm = nm
    · simp [h]
    · have h' : ¬ nm = r.f.nm := fun e => h e.symm
      simp only [h, h', decide_false, Bool.false_eq_true, if_false]
      exact mget_rs
theorem find_some {g : VH} {i j x : Nat} {es : List Ent} {clk : Nat} {sy : Value} {nm : List UInt8} {ow om : Bool} (hi : g.get i = .cells [.map (some j), sy] ow 1) (hj : g.get j = .map es clk om) (hk : keysFit .s es = true) (hm : mget (.string (strB nm)) es = some (.pointer (some ⟨x, 0, none⟩))) :
    PCalls Tryz.prog f_disk_Disk_find [.pointer (some ⟨i, 0, none⟩), .string (strB nm)] g (fun u g' => u = .tuple #[.pointer (some ⟨x, 0, none⟩), .nilIface] ∧ g' = g) := by
  refine PCalls_of_pw st_disk_Disk_find (by simp [n_disk_Disk_find]) ?_
  rw [b_disk_Disk_find]
  unfold B_disk_Disk_find
  have hl : loadObj (.cells [.map (some j), sy] ow 1) 0 none = some (.map (some j)) := rfl
  have hfit : fitK .s (.string (strB nm)) = true := rfl
  have hv : mval false (.pointer none) (some (.pointer (some ⟨x, 0, none⟩))) = .pointer (some ⟨x, 0, none⟩) := rfl
  simp (disch := first|omega|(simp only [np,ns];try omega)) [r_disk_Disk_find, hi, hj, hl, hm, hfit, hk, hv]
theorem find_none {g : VH} {i j : Nat} {es : List Ent} {clk : Nat} {sy : Value} {nm : List UInt8} {ow om : Bool} (hi : g.get i = .cells [.map (some j), sy] ow 1) (hj : g.get j = .map es clk om) (hk : keysFit .s es = true) (hm : mget (.string (strB nm)) es = none) :
    PCalls Tryz.prog f_disk_Disk_find [.pointer (some ⟨i, 0, none⟩), .string (strB nm)] g (fun u g' => u = .tuple #[.pointer none, .iface 97 (.pointer (some ⟨g.n, 0, none⟩))] ∧ g' = g.push (.cells [.string (strB nm), .int .i64 5] true 1)) := by
  refine PCalls_of_pw st_disk_Disk_find (by simp [n_disk_Disk_find]) ?_
  rw [b_disk_Disk_find]
  unfold B_disk_Disk_find
  have hl : loadObj (.cells [.map (some j), sy] ow 1) 0 none = some (.map (some j)) := rfl
  have hfit : fitK .s (.string (strB nm)) = true := rfl
  have hv : mval false (.pointer none) none = .pointer none := rfl
  have hf : fillC [.string ⟨#[]⟩, .int .i64 0] [(0, 1, .string (strB nm)), (1, 1, .int .i64 5)] = some [.string (strB nm), .int .i64 5] := rfl
  simp (disch := first|omega|(simp only [np,ns];try omega)) [r_disk_Disk_find, hi, hj, hl, hm, hfit, hk, hv, hf]
theorem keys_rs : ∀ {rs : List Rf}, keysFit .s (rs.map entF) = true
  | [] => rfl
  | r :: rs => by
    have := keys_rs (rs := rs)
    simp only [keysFit, List.map_cons, List.all_cons, Bool.and_eq_true] at this ⊢
    exact ⟨rfl, this⟩

/- disk, part Da: how many bytes a file has; all of them. -/

/-- a file as far as it is read. -/
structure FilR (g : VH) (r : Rf) : Prop where
  lt : r.it < g.n
  rec_ : ∃ ow, g.get r.it = .cells [r.sv, r.mv] ow 1
  safe : SeqAt g 1 r.sv (u8s r.f.s) r.f.s.length
  more : SeqAt g 2 r.mv (moreL r.f.s.length r.f.ws r.wv) r.f.ws.length
  wl : r.wv.length = r.f.ws.length
  wr : ∀ (k : Nat) (v : Value) (w : List UInt8), r.wv[k]? = some v → r.f.ws[k]? = some w → SeqAt g 1 v (u8s w) w.length
theorem FilAt.r {g : VH} {r : Rf} (k : FilAt g r) : FilR g r := ⟨k.lt, ⟨_, k.rec_⟩, k.safe.seq, k.more.seq, k.wl, k.wr⟩
theorem FilR.ro {g : VH} {r : Rf} (k : FilR g r) : FilR g.ro r := by
  obtain ⟨k1, ⟨_, h1⟩, h2, h3, h4, h5⟩ := k
  exact ⟨k1, ⟨_, ro_get h1⟩, h2.ro, h3.ro, h4, fun k v w a b => (h5 k v w a b).ro⟩
/-- the sum of the lengths of the first k writes. -/
def upto (ws : List (List UInt8)) (k : Nat) : Nat := (ws.take k).flatten.length
theorem upto_succ {ws : List (List UInt8)} {k : Nat} (hk : k < ws.length) : upto ws (k + 1) = upto ws k + (ws.getD k []).length := by
  unfold upto
  rw [List.take_succ_eq_append_getElem hk, List.flatten_append, List.length_append]
  simp [List.getD, hk]
theorem upto_all (ws : List (List UInt8)) : upto ws ws.length = ws.flatten.length := by simp [upto]
/-- the k-th write's cells. -/
theorem moreL_at : ∀ (n : Nat) (ws : List (List UInt8)) (vs : List Value) (k : Nat), vs.length = ws.length → k < ws.length →
    (moreL n ws vs)[k * 2]? = some (.int .i64 ((n + upto ws k : Nat) : Int)) ∧ (moreL n ws vs)[k * 2 + 1]? = vs[k]?
  | _, [], _, k, _, hk => by simp at hk
  | n, w :: ws, [], k, h, _ => by simp at h
  | n, w :: ws, v :: vs, 0, h, hk => by simp [moreL, upto]
  | n, w :: ws, v :: vs, k + 1, h, hk => by
    obtain ⟨h1, h2⟩ := moreL_at (n + w.length) ws vs k (by simpa using h) (by simpa using hk)
    have e1 : (k + 1) * 2 = k * 2 + 1 + 1 := by omega
    rw [e1]
    simp only [moreL, List.getElem?_cons_succ]
    refine ⟨?_, h2⟩
    rw [h1]
    have : n + w.length + upto ws k = n + upto (w :: ws) (k + 1) := by simp [upto]; omega
    rw [this]
theorem st2 {a b : Value} {n : Int} {p : Option Addr} {l c : Nat} {e : Nat} : storeObj (.cells [a, b] true e) 0 2 (.agg #[.int .i64 n, .slice p l c]) = some (.cells [.int .i64 n, .slice p l c] true e) := rfl
theorem ld1 {a b : Value} {ow : Bool} {e : Nat} : loadObj (.cells [a, b] ow e) 1 none = some b := rfl
theorem ld0 {a b : Value} {ow : Bool} {e : Nat} : loadObj (.cells [a, b] ow e) 0 none = some a := rfl
/-- one write, loaded out of the row of them. -/
theorem more_ld {g : VH} {i o c n : Nat} {ds : List Value} {ow : Bool} {ws : List (List UInt8)} {vs : List Value} (hg : g.get i = .cells ds ow 2) (hd : (ds.drop o).take (ws.length * 2) = moreL n ws vs) (hl : vs.length = ws.length) {k : Nat} (hk : k < ws.length) :
    loadObj (g.get i) (o + k * 2) (some 2) = some (.agg #[.int .i64 ((n + upto ws k : Nat) : Int), vs.getD k .nilFunc]) := by
  obtain ⟨h1, h2⟩ := moreL_at n ws vs k hl hk
  have hv : vs[k]? = some (vs.getD k .nilFunc) := by simp [List.getD, List.getElem?_eq_getElem (show k < vs.length by omega)]
  rw [hv] at h2
  rw [← hd, List.getElem?_take, if_pos (by omega), List.getElem?_drop] at h1 h2
  have hlen : o + (k * 2 + 1) < ds.length := (List.getElem?_eq_some_iff.1 h2).1
  rw [hg]
  have e : (ds.drop (o + k * 2)).take 2 = [.int .i64 ((n + upto ws k : Nat) : Int), vs.getD k .nilFunc] := by
    apply List.ext_getElem?
    intro j
    rw [List.getElem?_take, List.getElem?_drop]
    match j with
    | 0 => simpa using h1
    | 1 => simpa [Nat.add_assoc] using h2
    | j + 2 => simp; omega
  simp [loadObj, e]
  omega
theorem upto_mono {ws : List (List UInt8)} {a b : Nat} (h : a ≤ b) : upto ws a ≤ upto ws b := by
  obtain ⟨d, rfl⟩ : ∃ d, b = a + d := ⟨b - a, by omega⟩
  clear h
  induction d with
  | zero => exact Nat.le_refl _
  | succ d ih =>
    refine Nat.le_trans ih ?_
    by_cases hk : a + d < ws.length
    · rw [← Nat.add_assoc, upto_succ hk]; omega
    · unfold upto
      rw [List.take_of_length_le (by omega), List.take_of_length_le (by omega)]
      exact Nat.le_refl _
set_option maxHeartbeats 4000000 in
theorem size_ok' {g : VH} {r : Rf} (K : FilR g r) (hsz : r.f.all.length ≤ 1048576) (hwl : r.f.ws.length ≤ 1048576) : PCalls Tryz.prog f_disk_file_size [.pointer (some ⟨r.it, 0, none⟩)] g (fun u _ => u = .int .i64 (r.f.all.length : Int)) := by
  refine PCalls_of_pw st_disk_file_size (by simp [n_disk_file_size]) ?_
  rw [b_disk_file_size]
  unfold B_disk_file_size
  obtain ⟨klt, ⟨ow, krec⟩, ks, km, kwl, kwr⟩ := K
  obtain ⟨sa, sc, hsv⟩ := ks.shape
  obtain ⟨ma, mc, hmv⟩ := km.shape
  obtain ⟨W, hW⟩ : ∃ W, W = r.f.ws.length := ⟨_, rfl⟩
  obtain ⟨A, hA⟩ : ∃ A, A = r.f.s.length := ⟨_, rfl⟩
  rw [hsv, hmv, ← hW, ← hA] at krec
  have htot : A + upto r.f.ws W = r.f.all.length := by rw [hW, upto_all, hA]; simp [Fl.all]
  have hmono : ∀ k, k ≤ W → upto r.f.ws k ≤ upto r.f.ws W := fun k hk => upto_mono hk
  simp (disch := first|omega|(simp only [np,ns];try omega)) [krec, ld0, ld1]
  refine pw_loopN (fun n s g' => Fr g g' [] ∧ s 14 = .slice ma W mc ∧ s 15 = .int .i64 (W : Int) ∧ s 16 = .int .i64 (n : Int) ∧ s 3 = .int .i64 ((A + upto r.f.ws n : Nat) : Int)) W ?_ ?_
  · exact ⟨Fr.refl _ _, by simp [upd_apply], by simp [upd_apply], by simp [upd_apply], by simp [upd_apply, upto]⟩
  rintro k s g' hk ⟨hf, e14, e15, e16, e3⟩
  by_cases hlt : k < W
  · have hltI : (k : Int) < (W : Int) := by omega
    have hkk : IntKind.i64.wrap ((k : Int) + 1) = ((k + 1 : Nat) : Int) := by rw [i64_small (by omega) (by omega)]; omega
    rcases km with ⟨_, _, h0⟩ | ⟨i, o, c, ds, ow2, hi, hc, hv, hgi, hdr, hol⟩
    · exfalso; omega
    rw [hmv] at hv
    injection hv with hv1 hv2 hv3
    subst hv1
    have hgi' : g'.get i = .cells ds ow2 2 := by rw [hf.get i hi (by simp)]; exact hgi
    have hld := more_ld (c := 0) hgi' hdr kwl (k := k) (by omega)
    obtain ⟨w, hw⟩ : ∃ w, w = r.f.ws.getD k [] := ⟨_, rfl⟩
    have hws : r.f.ws[k]? = some w := by rw [hw]; simp [List.getD, List.getElem?_eq_getElem (show k < r.f.ws.length by omega)]
    have hvs : r.wv[k]? = some (r.wv.getD k .nilFunc) := by simp [List.getD, List.getElem?_eq_getElem (show k < r.wv.length by omega)]
    obtain ⟨pa, pc, hp⟩ := (kwr k _ w hvs hws).shape
    rw [hp] at hld
    have hup := upto_succ (ws := r.f.ws) (k := k) (by omega)
    rw [← hw] at hup
    have hb := hmono (k + 1) (by omega)
    have hadd : IntKind.i64.wrap (((A + upto r.f.ws k : Nat) : Int) + (w.length : Int)) = ((A + upto r.f.ws (k + 1) : Nat) : Int) := by rw [i64_small (by omega) (by omega)]; omega
    rw [hgi'] at hld
    have hnn : ¬ (k : Int) < 0 := by omega
    simp (disch := first|omega|(simp only [np,ns];try omega)) [e14, e15, e16, e3, hltI, hlt, hgi', hld, st2, ld1, hkk, hadd]
    exact ⟨Fr_set (Fr_push hf) hf.n, by omega⟩
  · obtain rfl : k = W := by omega
    simp (disch := first|omega|(simp only [np,ns];try omega)) [r_disk_file_size, e3, e15, e16]
    omega

/- disk, part Db: what a call leaves of a disk. -/

theorem find_rs {nm : List UInt8} : ∀ {rs : List Rf}, (rs.find? fun r => decide (r.f.nm = nm)).map (·.f) = findF nm (rs.map (·.f))
  | [] => rfl
  | r :: rs => by
    simp only [List.find?_cons, List.map_cons, findF]
    by_cases h : r.f.nm = nm
    · simp [h]
    · simp [h]; exact find_rs
theorem Rep.getS {g : VH} {i j : Nat} {rs : List Rf} {S : Ds} (k : Rep g i j rs S) (hu : Uni S.fs) {nm : List UInt8} {f : Fl} (h : findF nm S.fs = some f) :
    ∃ a r b, rs = a ++ r :: b ∧ r.f = f ∧ mget (.string (strB nm)) (rs.map entF) = some (.pointer (some ⟨r.it, 0, none⟩)) := by
  have h' : findF nm (rs.map (·.f)) = some f := by rw [findF_perm k.perm hu]; exact h
  rw [← find_rs, Option.map_eq_some_iff] at h'
  obtain ⟨r, hr, rfl⟩ := h'
  obtain ⟨a, b, hab⟩ := List.append_of_mem (List.mem_of_find?_eq_some hr)
  exact ⟨a, r, b, hab, rfl, by rw [mget_rs, hr]; rfl⟩
theorem Rep.getN {g : VH} {i j : Nat} {rs : List Rf} {S : Ds} (k : Rep g i j rs S) (hu : Uni S.fs) {nm : List UInt8} (h : findF nm S.fs = none) : mget (.string (strB nm)) (rs.map entF) = none := by
  have h' : findF nm (rs.map (·.f)) = none := by rw [findF_perm k.perm hu]; exact h
  rw [← find_rs, Option.map_eq_none_iff] at h'
  rw [mget_rs, h']; rfl
/-- what turns of a heap, and where the things lie afterwards: what is written, what is only read. -/
structure Mv (h h' : VH) (X R X' R' : List Nat) : Prop where
  fr : Fr h h' X
  ids : ∀ x ∈ X', x ∈ X ∨ h.n ≤ x
  rds : ∀ x ∈ R', x ∈ R ∨ h.n ≤ x
theorem Mv.refl (h : VH) (X R : List Nat) : Mv h h X R X R := ⟨Fr.refl _ _, fun x hx => .inl hx, fun x hx => .inl hx⟩
theorem Mv.trans {a b c : VH} {X R Y Q Z T : List Nat} (k : Mv a b X R Y Q) (l : Mv b c Y Q Z T) : Mv a c X R Z T :=
  ⟨k.fr.trans' l.fr k.ids, fun x hx => (l.ids x hx).elim (fun h1 => k.ids x h1) (fun h1 => .inr (Nat.le_trans k.fr.n h1)), fun x hx => (l.rds x hx).elim (fun h1 => k.rds x h1) (fun h1 => .inr (Nat.le_trans k.fr.n h1))⟩
theorem Mv.pre {a b c : VH} {X R Z T : List Nat} (k : Fr a b []) (l : Mv b c X R Z T) : Mv a c X R Z T :=
  ⟨(k.sub (by simp)).trans l.fr, fun x hx => (l.ids x hx).imp id (fun h1 => Nat.le_trans k.n h1), fun x hx => (l.rds x hx).imp id (fun h1 => Nat.le_trans k.n h1)⟩
theorem Mv.post {a b c : VH} {X R Z T : List Nat} (k : Mv a b X R Z T) (l : Fr b c []) : Mv a c X R Z T := ⟨k.fr.trans (l.sub (by simp)), k.ids, k.rds⟩
/-- a disk lies at i; X: where it has its things; R: what it only reads. -/
def DkAt (h : VH) (i : Nat) (S : Ds) (X R : List Nat) : Prop := ∃ j rs, X = fpS i j rs ∧ R = rdS rs ∧ Rep h i j rs S
theorem DkAt.fr {h h' : VH} {i : Nat} {S : Ds} {X R Y : List Nat} (k : DkAt h i S X R) (hf : Fr h h' Y) (hx : ∀ x ∈ X, x ∉ Y) (hr : ∀ x ∈ R, x ∉ Y) : DkAt h' i S X R := by
  obtain ⟨j, rs, rfl, rfl, k⟩ := k
  exact ⟨j, rs, rfl, rfl, k.fr hf hx hr⟩
theorem DkAt.fr0 {h h' : VH} {i : Nat} {S : Ds} {X R : List Nat} (k : DkAt h i S X R) (hf : Fr h h' []) : DkAt h' i S X R := k.fr hf (fun _ _ => by simp) (fun _ _ => by simp)
theorem DkAt.lt {h : VH} {i : Nat} {S : Ds} {X R : List Nat} (k : DkAt h i S X R) : ∀ x ∈ X, x < h.n := by
  obtain ⟨j, rs, rfl, rfl, k⟩ := k
  exact k.lts
theorem DkAt.rlt {h : VH} {i : Nat} {S : Ds} {X R : List Nat} (k : DkAt h i S X R) : ∀ x ∈ R, x < h.n := by
  obtain ⟨j, rs, rfl, rfl, k⟩ := k
  exact k.rlts
theorem DkAt.in_ {h : VH} {i : Nat} {S : Ds} {X R : List Nat} (k : DkAt h i S X R) : i ∈ X := by
  obtain ⟨j, rs, rfl, rfl, k⟩ := k
  simp [fpS]
def DkP (h : VH) (i : Nat) (X R : List Nat) (S' : Ds) (h' : VH) : Prop := ∃ X' R', DkAt h' i S' X' R' ∧ Mv h h' X R X' R'
theorem DkP.same {h h' : VH} {i : Nat} {S : Ds} {X R : List Nat} (k : DkAt h i S X R) (hf : Fr h h' []) : DkP h i X R S h' := ⟨X, R, k.fr0 hf, (Mv.refl h X R).post hf⟩
theorem DkP.pre {a b c : VH} {i : Nat} {S : Ds} {X R : List Nat} (k : Fr a b []) (l : DkP b i X R S c) : DkP a i X R S c := by
  obtain ⟨X', R', h1, h2⟩ := l
  exact ⟨X', R', h1, h2.pre k⟩
theorem DkP.post {a b c : VH} {i : Nat} {S : Ds} {X R : List Nat} (k : DkP a i X R S b) (l : Fr b c []) : DkP a i X R S c := by
  obtain ⟨X', R', h1, h2⟩ := k
  exact ⟨X', R', h1.fr0 l, h2.post l⟩
theorem Rep.dk1 {h h' : VH} {i j : Nat} {a b : List Rf} {r r' : Rf} {S' : Ds} (k : Rep h' i j (a ++ r' :: b) S') (hf : Fr h h' (fpS i j (a ++ r :: b))) (hfp : ∀ x ∈ fpF r', x ∈ fpF r ∨ h.n ≤ x) (hrd : ∀ x ∈ rdF r', x ∈ rdF r ∨ h.n ≤ x) : DkP h i (fpS i j (a ++ r :: b)) (rdS (a ++ r :: b)) S' h' := by
  refine ⟨_, _, ⟨j, _, rfl, rfl, k⟩, hf, fun x hx => ?_, fun x hx => ?_⟩
  · simp only [fpS_mid, List.mem_append] at hx ⊢
    rcases hx with (hx | hx) | hx
    · exact .inl (.inl (.inl hx))
    · exact (hfp x hx).imp (fun h => .inl (.inr h)) id
    · exact .inl (.inr hx)
  · simp only [rdS, List.flatMap_append, List.flatMap_cons, List.mem_append] at hx ⊢
    rcases hx with hx | hx | hx
    · exact .inl (.inl hx)
    · exact (hrd x hx).imp (fun h => .inr (.inl h)) id
    · exact .inl (.inr (.inr hx))
/-! ### maps of files -/
theorem mput_new {k v : Value} {c : Nat} : ∀ {es : List Ent}, mget k es = none → mput k v c es = es ++ [(k, v, c)] ∧ mhas k es = false
  | [], _ => ⟨rfl, rfl⟩
  | e :: r, h => by
    simp only [mget] at h
    split at h
    · cases h
    · rename_i hk
      obtain ⟨h1, h2⟩ := mput_new (v := v) (c := c) h
      simp only [mput, mhas, if_neg hk, h1, h2, List.cons_append, and_self]
theorem mdel_at {nm : List UInt8} {r : Rf} : ∀ {a b : List Rf}, (∀ x ∈ a, x.f.nm ≠ nm) → r.f.nm = nm → mdel (.string (strB nm)) ((a ++ r :: b).map entF) = (a ++ b).map entF
  | [], b, _, hr => by simp [mdel, entF, keq_str, hr]
  | x :: a, b, ha, hr => by
    have hx : ¬ nm = x.f.nm := fun e => ha x (List.mem_cons_self ..) e.symm
    have := mdel_at (a := a) (b := b) (fun y hy => ha y (List.mem_cons_of_mem _ hy)) hr
    simp only [List.cons_append, List.map_cons, mdel]
    rw [if_neg (by simpa [entF, keq_str] using hx), this]
theorem mdel_none {k : Value} : ∀ {es : List Ent}, mget k es = none → mdel k es = es
  | [], _ => rfl
  | e :: r, h => by
    simp only [mget] at h
    split at h
    · cases h
    · rename_i hk
      simp only [mdel, if_neg hk, mdel_none h]
/-- a file more. -/
theorem Rep.add {g g' : VH} {i j : Nat} {rs : List Rf} {r : Rf} {S : Ds} {clk : Nat} (k : Rep g i j rs S) (hc : g.get j = .map (rs.map entF) clk true) (hlt : ∀ x ∈ rs, x.bn < clk) (hf : Fr g g' [j]) (hj : g'.get j = .map ((rs ++ [r]).map entF) (clk + 1) true) (hb : r.bn = clk) (T : FilAt g' r)
    (hnd : (fpF r).Nodup) (hfp : ∀ x ∈ fpF r, g.n ≤ x) (hrd : ∀ x ∈ rdF r, x ∉ fpS i j rs ∧ x ∉ fpF r) : Rep g' i j (rs ++ [r]) { S with fs := insF r.f S.fs } := by
  have hgn := hf.n
  have hij := k.nij
  refine ⟨by have := k.lti; omega, by have := k.ltj; omega, ?_, ?_, ?_, ⟨clk + 1, hj, ?_⟩, ?_, ?_, ?_⟩
  · have h1 := k.nd
    have h2 := k.lts
    have e : fpS i j (rs ++ [r]) = fpS i j rs ++ fpF r := by simp [fpS]
    rw [e, List.nodup_append]
    exact ⟨h1, hnd, fun a ha b hb' e => by have := h2 a ha; have := hfp b hb'; omega⟩
  · intro x hx hxf
    have e : fpS i j (rs ++ [r]) = fpS i j rs ++ fpF r := by simp [fpS]
    have e2 : rdS (rs ++ [r]) = rdS rs ++ rdF r := by simp [rdS]
    rw [e] at hxf
    rw [e2] at hx
    rcases List.mem_append.1 hx with hx | hx
    · rcases List.mem_append.1 hxf with hxf | hxf
      · exact k.rd x hx hxf
      · have := k.rlts x hx; have := hfp x hxf; omega
    · obtain ⟨h1, h2⟩ := hrd x hx
      rcases List.mem_append.1 hxf with hxf | hxf
      · exact h1 hxf
      · exact h2 hxf
  · rw [hf.get _ k.lti (by simpa using hij)]; exact k.rec_
  · intro x hx
    rcases List.mem_append.1 hx with hx | hx
    · have := hlt x hx; omega
    · simp at hx; subst hx; omega
  · rw [List.map_append, List.nodup_append]
    refine ⟨k.bnd, by simp, fun a ha b hb' e => ?_⟩
    obtain ⟨x, hx, rfl⟩ := List.mem_map.1 ha
    simp only [List.map_cons, List.map_nil, List.mem_singleton] at hb'
    subst hb'
    have := hlt x hx
    have e' : x.bn = r.bn := e
    omega
  · intro x hx
    rcases List.mem_append.1 hx with hx | hx
    · exact (k.fil x hx).fr hf (fun y hy hyj => by simp at hyj; subst hyj; exact k.nj x hx hy) (fun y hy hyj => by simp at hyj; subst hyj; exact k.rd _ (rd_in hx _ hy) (by simp [fpS]))
    · simp at hx; subst hx; exact T
  · rw [List.map_append, List.map_cons, List.map_nil]
    exact ((k.perm.append_right _).trans List.perm_append_comm).trans (insF_perm _ _).symm
/-- a file less. -/
theorem Rep.del {g g' : VH} {i j : Nat} {a b : List Rf} {r : Rf} {S : Ds} {clk : Nat} (k : Rep g i j (a ++ r :: b) S) (hu : Uni S.fs) (hlt : ∀ x ∈ a ++ r :: b, x.bn < clk) (hf : Fr g g' [j]) (hj : g'.get j = .map ((a ++ b).map entF) clk true) : Rep g' i j (a ++ b) { S with fs := delF r.f.nm S.fs } := by
  have hgn := hf.n
  have hij := k.nij
  have hin : ∀ x, x ∈ a ++ b → x ∈ a ++ r :: b := fun x hx => by
    simp only [List.mem_append, List.mem_cons] at hx ⊢
    rcases hx with hx | hx
    · exact .inl hx
    · exact .inr (.inr hx)
  have hsub : (a ++ b).Sublist (a ++ r :: b) := (List.Sublist.refl a).append (List.sublist_cons_self ..)
  have hfs : (fpS i j (a ++ b)).Sublist (fpS i j (a ++ r :: b)) := by
    have : ((a ++ b).flatMap fpF).Sublist ((a ++ r :: b).flatMap fpF) := by
      rw [List.flatMap_append, List.flatMap_append, List.flatMap_cons]
      exact (List.Sublist.refl _).append (List.sublist_append_right ..)
    exact (this.cons_cons j).cons_cons i
  refine ⟨by have := k.lti; omega, by have := k.ltj; omega, k.nd.sublist hfs, fun x hx hxf => ?_, ?_, ⟨clk, hj, fun x hx => hlt x (hin x hx)⟩, k.bnd.sublist (hsub.map _), fun x hx => ?_, ?_⟩
  · obtain ⟨y, hy, hxy⟩ := List.mem_flatMap.1 hx
    exact k.rd x (rd_in (hin y hy) x hxy) (hfs.mem hxf)
  · rw [hf.get _ k.lti (by simpa using hij)]; exact k.rec_
  · exact (k.fil x (hin x hx)).fr hf (fun y hy hyj => by simp at hyj; subst hyj; exact k.nj x (hin x hx) hy) (fun y hy hyj => by simp at hyj; subst hyj; exact k.rd _ (rd_in (hin x hx) _ hy) (by simp [fpS]))
  · have hp := k.perm
    rw [List.map_append, List.map_cons] at hp
    have hmem : r.f ∈ S.fs := hp.mem_iff.1 (by simp)
    obtain ⟨A, B, h1, h2, h3, h4, h5⟩ := findF_at (findF_mem hu hmem)
    show (_ : List Fl).Perm (delF r.f.nm S.fs)
    rw [h5, List.map_append]
    rw [h1] at hp
    exact List.Perm.cons_inv ((List.perm_middle.symm.trans hp).trans List.perm_middle)
theorem Rep.names {g : VH} {i j : Nat} {a b : List Rf} {r : Rf} {S : Ds} (k : Rep g i j (a ++ r :: b) S) (hu : Uni S.fs) : (∀ x ∈ a, x.f.nm ≠ r.f.nm) ∧ ∀ x ∈ b, x.f.nm ≠ r.f.nm := by
  have h1 : ((a ++ r :: b).map fun x => x.f.nm).Nodup := by
    have := (k.perm.map (fun f : Fl => f.nm)).nodup_iff.2 hu
    rwa [List.map_map] at this
  rw [List.map_append, List.map_cons, List.nodup_append, List.nodup_cons] at h1
  obtain ⟨h2, ⟨h3, h4⟩, h5⟩ := h1
  exact ⟨fun x hx e => h5 _ (List.mem_map_of_mem hx) _ (List.mem_cons_self ..) e, fun x hx e => h3 (e ▸ List.mem_map_of_mem (f := fun x : Rf => x.f.nm) hx)⟩

/- disk, part Dc: all bytes of a file. -/

theorem OkF.wl {f : Fl} (o : OkF f) : f.ws.length ≤ f.all.length := by
  have : ∀ (ws : List (List UInt8)), (∀ w ∈ ws, w ≠ []) → ws.length ≤ ws.flatten.length := by
    intro ws
    induction ws with
    | nil => intro _; simp
    | cons w r ih =>
      intro h
      have h1 := ih (fun x hx => h x (List.mem_cons_of_mem _ hx))
      have h2 := List.length_pos_iff.2 (h w (List.mem_cons_self ..))
      rw [List.flatten_cons, List.length_append, List.length_cons]
      omega
  have h := this f.ws o.ne
  unfold Fl.all
  rw [List.length_append]
  omega
theorem size_ok {g : VH} {r : Rf} (K : FilR g r) (o : OkF r.f) : PCalls Tryz.prog f_disk_file_size [.pointer (some ⟨r.it, 0, none⟩)] g (fun u g' => u = .int .i64 (r.f.all.length : Int) ∧ g' = g) :=
  ((size_ok' K.ro o.sz (by have := o.wl; have := o.sz; omega)).mono fun u _ e => by subst e; exact ⟨rfl, rfl⟩).drop
set_option maxHeartbeats 4000000 in
theorem all_ok {h : VH} {r : Rf} (K : FilR h r) (o : OkF r.f) : PCalls Tryz.prog f_disk_file_all [.pointer (some ⟨r.it, 0, none⟩)] h (fun u h' => Buf h h' u r.f.all) := by
  refine PCalls_of_pw st_disk_file_all (by simp [n_disk_file_all]) ?_
  rw [b_disk_file_all]
  unfold B_disk_file_all
  have hsz := o.sz
  have hwl := o.wl
  obtain ⟨klt, ⟨ow, krec⟩, ks, km, kwl, kwr⟩ := K
  have hsrc0 := ks.src
  obtain ⟨sa, sc, hsv⟩ := ks.shape
  obtain ⟨ma, mc, hmv⟩ := km.shape
  obtain ⟨W, hW⟩ : ∃ W, W = r.f.ws.length := ⟨_, rfl⟩
  obtain ⟨A, hA⟩ : ∃ A, A = r.f.s.length := ⟨_, rfl⟩
  rw [hsv, hmv, ← hW, ← hA] at krec
  rw [hsv, ← hA] at hsrc0
  have htot : A + upto r.f.ws W = r.f.all.length := by rw [hW, upto_all, hA]; simp [Fl.all]
  have hmono : ∀ k, k ≤ W → upto r.f.ws k ≤ upto r.f.ws W := fun k hk => upto_mono hk
  obtain ⟨w0, g0, hap0, B0⟩ := (Buf.nil h).append r.f.s (by simp; omega)
  rw [← hA] at hap0
  rw [List.nil_append] at B0
  have krec0 : g0.get r.it = .cells [.slice sa A sc, .slice ma W mc] ow 1 := (B0.old klt).trans krec
  have hwz := B0.shape
  obtain ⟨wa, wc, rfl⟩ := hwz
  simp (disch := first|omega|(simp only [np,ns];try omega)) [krec, ld0, hsrc0, hap0, Option.bind_some, krec0, ld1]
  refine pw_loopN (fun n s g' => Buf h g' (s 3) (r.f.s ++ (r.f.ws.take n).flatten) ∧ s 14 = .slice ma W mc ∧ s 15 = .int .i64 (W : Int) ∧ s 16 = .int .i64 (n : Int)) W ?_ ?_
  · exact ⟨by simpa [upd_apply] using B0, by simp [upd_apply], by simp [upd_apply], by simp [upd_apply]⟩
  rintro k s g' hk ⟨hb, e14, e15, e16⟩
  obtain ⟨v3, e3⟩ : ∃ v, v = s 3 := ⟨_, rfl⟩
  rw [← e3] at hb
  by_cases hlt : k < W
  · have hltI : (k : Int) < (W : Int) := by omega
    have hkk : IntKind.i64.wrap ((k : Int) + 1) = ((k + 1 : Nat) : Int) := by rw [i64_small (by omega) (by omega)]; omega
    have hf := hb.fr
    rcases km with ⟨_, _, h0⟩ | ⟨i, o, c, ds, ow2, hi, hc, hv, hgi, hdr, hol⟩
    · exfalso; omega
    rw [hmv] at hv
    injection hv with hv1 hv2 hv3
    subst hv1
    have hgi' : g'.get i = .cells ds ow2 2 := by rw [hf.get i hi (by simp)]; exact hgi
    have hld := more_ld (c := 0) hgi' hdr kwl (k := k) (by omega)
    obtain ⟨w, hw⟩ : ∃ w, w = r.f.ws.getD k [] := ⟨_, rfl⟩
    have hws : r.f.ws[k]? = some w := by rw [hw]; simp [List.getD, List.getElem?_eq_getElem (show k < r.f.ws.length by omega)]
    have hvs : r.wv[k]? = some (r.wv.getD k .nilFunc) := by simp [List.getD, List.getElem?_eq_getElem (show k < r.wv.length by omega)]
    have sq := kwr k _ w hvs hws
    obtain ⟨pa, pc, hp⟩ := sq.shape
    rw [hp] at hld sq
    have hup := upto_succ (ws := r.f.ws) (k := k) (by omega)
    rw [← hw] at hup
    have hbb := hmono (k + 1) (by omega)
    rw [hgi'] at hld
    have hnn : ¬ (k : Int) < 0 := by omega
    obtain ⟨p, hpp⟩ : ∃ p, p = A + upto r.f.ws k := ⟨_, rfl⟩
    rw [← hA, ← hpp] at hld
    obtain ⟨g2, hg2⟩ : ∃ g2, g2 = (g'.push (.cells [.int .i64 0, .slice none 0 0] true 1)).set g'.n (.cells [.int .i64 (p : Int), .slice pa w.length pc] true 1) := ⟨_, rfl⟩
    have f2 : Fr g' g2 [] := by rw [hg2]; exact Fr_set (Fr_push (Fr.refl _ _)) (Nat.le_refl _)
    have c2 : g2.get g'.n = .cells [.int .i64 (p : Int), .slice pa w.length pc] true 1 := by rw [hg2, VH.get_set_same]
    have B2 := hb.step f2
    have sq2 := (sq.fr hf (fun _ _ => by simp)).fr f2 (fun _ _ => by simp)
    have hsrc := sq2.src
    have hlw : (r.f.s ++ (r.f.ws.take k).flatten).length = p := by simp [upto, hA, hpp]
    obtain ⟨w3, g3, hap3, B3⟩ := B2.append w (by omega)
    obtain ⟨za, zc, hz⟩ := B2.shape
    rw [hlw] at hz
    have hz3 : s 3 = .slice za p zc := e3.symm.trans hz
    rw [hz] at hap3
    simp (disch := first|omega|(simp only [np,ns];try omega)) [e14, e15, e16, hz3, hltI, hlt, hgi', hld, st2, ← hg2, c2, ld1, hkk, hsrc, Option.bind_some, hap3]
    rw [List.append_assoc] at B3
    rw [List.take_succ_eq_append_getElem (show k < r.f.ws.length by omega), List.flatten_append]
    have : r.f.ws[k]'(by omega) = w := by rw [hw]; simp [List.getD, List.getElem?_eq_getElem (show k < r.f.ws.length by omega)]
    rw [this, List.flatten_cons, List.flatten_nil, List.append_nil]
    exact B3
  · obtain rfl : k = W := by omega
    obtain ⟨za, zc, hz⟩ := hb.shape
    have hz3 : s 3 = v3 := e3.symm
    simp (disch := first|omega|(simp only [np,ns];try omega)) [r_disk_file_all, hz3, e15, e16]
    rw [hW, List.take_length] at hb
    exact hb
end Go.Proofs.YtgnmhonbcejnfaaGreatDoor.Dk
