/- disk, part R: how a heap holds the reference's disk. -/
import Derived.Test.YtgnmhonbcejnfaaGreatDoorDkD
import Derived.Test.YtgnmhonbcejnfaaGreatDoorPmEl
import Derived.Test.YtgnmhonbcejnfaaGreatDoorDkN
set_option linter.unusedVariables false
set_option linter.unusedSimpArgs false
set_option maxRecDepth 100000
namespace Go.Proofs.YtgnmhonbcejnfaaGreatDoor.Dk
open Go Go.RowKit Go.Proofs.YtgnmhonbcejnfaaGreatDoor.Pm Go.Proofs.YtgnmhonbcejnfaaGreatDoor.Fs
attribute [-simp] BitVec.toNat_or BitVec.toNat_xor BitVec.toNat_add BitVec.toNat_and BitVec.toNat_not BitVec.toNat_shiftLeft BitVec.toNat_ushiftRight


/-- a file of the reference in the heap. -/
structure Rr where
  f : Fl
  bv : Value
  wv : Value
def intsL (l : List Nat) : List Value := l.map fun n : Nat => .int .i64 (n : Int)
def rowR (r : Rr) : List Value := [.string (strB r.f.nm), r.bv, .int .i64 (r.f.s.length : Int), r.wv]
theorem rowR_len (r : Rr) : (rowR r).length = 4 := rfl
structure RfAt (g : VH) (r : Rr) : Prop where
  b : OwnP g 1 r.bv (u8s r.f.all) r.f.all.length
  w : OwnP g 1 r.wv (intsL (atL r.f.s.length r.f.ws)) r.f.ws.length
def fpR (r : Rr) : List Nat := idOf r.bv ++ idOf r.wv
def fpD (i : Nat) (v : Value) (rs : List Rr) : List Nat := i :: (idOf v ++ rs.flatMap fpR)
theorem RfAt.lts {g : VH} {r : Rr} (k : RfAt g r) : ∀ x ∈ fpR r, x < g.n := by
  intro x hx
  rcases List.mem_append.1 hx with hx | hx
  · exact k.b.lt x hx
  · exact k.w.lt x hx
theorem RfAt.fr {g g' : VH} {X : List Nat} (hf : Fr g g' X) {r : Rr} (k : RfAt g r) (hx : ∀ x ∈ fpR r, x ∉ X) : RfAt g' r :=
  ⟨k.b.fr hf (fun x h => hx x (List.mem_append_left _ h)), k.w.fr hf (fun x h => hx x (List.mem_append_right _ h))⟩
structure RRep (g : VH) (i : Nat) (v : Value) (rs : List Rr) (S : Ds) : Prop where
  lt : i < g.n
  nd : (fpD i v rs).Nodup
  rec_ : g.get i = .cells [v, .int .i64 (S.sy : Int)] true 1
  own : OwnSl g 4 v (rs.flatMap rowR) rs.length
  fil : ∀ r ∈ rs, RfAt g r
  fs : rs.map (·.f) = S.fs
theorem fpD_in {i : Nat} {v : Value} {rs : List Rr} {r : Rr} (h : r ∈ rs) : ∀ x ∈ fpR r, x ∈ fpD i v rs := fun x hx => by
  simp only [fpD, List.mem_cons, List.mem_append, List.mem_flatMap]
  exact .inr (.inr ⟨r, h, hx⟩)
theorem RRep.lts {g : VH} {i : Nat} {v : Value} {rs : List Rr} {S : Ds} (k : RRep g i v rs S) : ∀ x ∈ fpD i v rs, x < g.n := by
  intro x hx
  simp only [fpD, List.mem_cons, List.mem_append, List.mem_flatMap] at hx
  rcases hx with rfl | hx | ⟨r, hr, hx⟩
  · exact k.lt
  · exact k.own.lt x hx
  · exact (k.fil r hr).lts x hx
theorem RRep.fr {g g' : VH} {X : List Nat} (hf : Fr g g' X) {i : Nat} {v : Value} {rs : List Rr} {S : Ds} (k : RRep g i v rs S) (hx : ∀ x ∈ fpD i v rs, x ∉ X) : RRep g' i v rs S := by
  have hn := hf.n
  refine ⟨by have := k.lt; omega, k.nd, ?_, k.own.fr hf (fun x h => hx x (by simp [fpD, h])), fun r hr => (k.fil r hr).fr hf (fun x h => hx x (fpD_in hr x h)), k.fs⟩
  rw [hf.get _ k.lt (hx _ (by simp [fpD]))]; exact k.rec_
theorem RRep.fr0 {g g' : VH} (hf : Fr g g' []) {i : Nat} {v : Value} {rs : List Rr} {S : Ds} (k : RRep g i v rs S) : RRep g' i v rs S := k.fr hf (fun _ _ => by simp)
theorem RRep.len {g : VH} {i : Nat} {v : Value} {rs : List Rr} {S : Ds} (k : RRep g i v rs S) : rs.length = S.fs.length := by rw [← k.fs]; simp
theorem RRep.nv {g : VH} {i : Nat} {v : Value} {rs : List Rr} {S : Ds} (k : RRep g i v rs S) : i ∉ idOf v := by
  have := k.nd
  simp only [fpD, List.nodup_cons, List.mem_append, not_or] at this
  exact this.1.1
theorem RRep.nr {g : VH} {i : Nat} {v : Value} {rs : List Rr} {S : Ds} (k : RRep g i v rs S) {r : Rr} (hr : r ∈ rs) : i ∉ fpR r := by
  have := k.nd
  simp only [fpD, List.nodup_cons, List.mem_append, not_or] at this
  exact fun h => this.1.2 (List.mem_flatMap.2 ⟨r, hr, h⟩)
theorem RRep.nvr {g : VH} {i : Nat} {v : Value} {rs : List Rr} {S : Ds} (k : RRep g i v rs S) {r : Rr} (hr : r ∈ rs) : ∀ x ∈ idOf v, x ∉ fpR r := by
  have := k.nd
  simp only [fpD, List.nodup_cons, List.nodup_append] at this
  exact fun x hx h => this.2.2.2 x hx x (List.mem_flatMap.2 ⟨r, hr, h⟩) rfl
theorem RRep.fnd {g : VH} {i : Nat} {v : Value} {rs : List Rr} {S : Ds} (k : RRep g i v rs S) {r : Rr} (hr : r ∈ rs) : (fpR r).Nodup := by
  have := k.nd
  simp only [fpD, List.nodup_cons, List.nodup_append] at this
  exact nodup_of this.2.2.1 hr
theorem fpD_mid (i : Nat) (v : Value) (a b : List Rr) (r : Rr) : fpD i v (a ++ r :: b) = (i :: (idOf v ++ a.flatMap fpR)) ++ fpR r ++ b.flatMap fpR := by
  simp [fpD]
theorem RRep.other {g : VH} {i : Nat} {v : Value} {a b : List Rr} {r : Rr} {S : Ds} (k : RRep g i v (a ++ r :: b) S) {x : Rr} (hx : x ∈ a ∨ x ∈ b) : ∀ y ∈ fpR x, y ∉ fpR r := by
  have := k.nd
  rw [fpD_mid, List.nodup_append, List.nodup_append] at this
  obtain ⟨⟨h1, h2, h3⟩, h4, h5⟩ := this
  intro y hy hyr
  rcases hx with hx | hx
  · exact h3 y (by simp only [List.mem_cons, List.mem_append, List.mem_flatMap]; exact .inr (.inr ⟨x, hx, hy⟩)) y hyr rfl
  · exact h5 y (List.mem_append_right _ hyr) y (List.mem_flatMap.2 ⟨x, hx, hy⟩) rfl
/-- one file turns, and perhaps the count of syncs. -/
theorem RRep.one {g g' : VH} {X : List Nat} {i : Nat} {v : Value} {a b : List Rr} {r r' : Rr} {S S' : Ds} (k : RRep g i v (a ++ r :: b) S) (hf : Fr g g' X) (hX : ∀ x ∈ X, x = i ∨ x ∈ idOf v ∨ x ∈ fpR r) (hr : g'.get i = .cells [v, .int .i64 (S'.sy : Int)] true 1)
    (ho : OwnSl g' 4 v ((a ++ r' :: b).flatMap rowR) (a ++ r :: b).length) (T : RfAt g' r') (hnd : (fpR r').Nodup) (hfp : ∀ x ∈ fpR r', x ∈ fpR r ∨ g.n ≤ x) (hfs : (a ++ r' :: b).map (·.f) = S'.fs) : RRep g' i v (a ++ r' :: b) S' := by
  have hn := hf.n
  have keep : ∀ x, x ∈ a ∨ x ∈ b → RfAt g' x := fun x hx => by
    have hxm : x ∈ a ++ r :: b := by
      simp only [List.mem_append, List.mem_cons]
      exact hx.imp id .inr
    refine (k.fil x hxm).fr hf (fun y hy hyX => ?_)
    rcases hX y hyX with h1 | h1 | h1
    · subst h1; exact k.nr hxm hy
    · exact k.nvr hxm y h1 hy
    · exact k.other hx y hy h1
  refine ⟨by have := k.lt; omega, ?_, hr, by simpa using ho, fun x hx => ?_, hfs⟩
  · have h1 := k.nd
    have h2 := k.lts
    rw [fpD_mid] at h1 h2 ⊢
    exact nodup_mid h1 h2 hnd hfp
  · simp only [List.mem_append, List.mem_cons] at hx
    rcases hx with hx | rfl | hx
    · exact keep x (.inl hx)
    · exact T
    · exact keep x (.inr hx)
theorem fpD_one {i : Nat} {v : Value} {a b : List Rr} {r r' : Rr} {n : Nat} (hfp : ∀ x ∈ fpR r', x ∈ fpR r ∨ n ≤ x) : ∀ x ∈ fpD i v (a ++ r' :: b), x ∈ fpD i v (a ++ r :: b) ∨ n ≤ x := by
  intro x hx
  simp only [fpD_mid, List.mem_append] at hx ⊢
  rcases hx with (hx | hx) | hx
  · exact .inl (.inl (.inl hx))
  · exact (hfp x hx).imp (fun h => .inl (.inr h)) id
  · exact .inl (.inr hx)
section
variable {v w x y z : Value} {ow : Bool} {e : Nat}
theorem lr_0 : loadObj (.cells [v, w] ow e) 0 none = some v := rfl
theorem lr_1 : loadObj (.cells [v, w] ow e) 1 none = some w := rfl
theorem sr_0 {n m : Nat} {a : Option Addr} : storeObj (.cells [v, w] true e) 0 1 (.slice a n m) = some (.cells [.slice a n m, w] true e) := rfl
theorem sr_1 {n : Int} : storeObj (.cells [v, w] true e) 1 1 (.int .i64 n) = some (.cells [v, .int .i64 n] true e) := rfl
theorem l4_0 : loadObj (.cells [x, y, z, w] ow e) 0 none = some x := rfl
theorem l4_1 : loadObj (.cells [x, y, z, w] ow e) 1 none = some y := rfl
theorem l4_2 : loadObj (.cells [x, y, z, w] ow e) 2 none = some z := rfl
theorem l4_3 : loadObj (.cells [x, y, z, w] ow e) 3 none = some w := rfl
theorem l4_A : loadObj (.cells [x, y, z, w] ow e) 0 (some 4) = some (.agg #[x, y, z, w]) := rfl
theorem s4_1 {n m : Nat} {a : Option Addr} : storeObj (.cells [x, y, z, w] true e) 1 1 (.slice a n m) = some (.cells [x, .slice a n m, z, w] true e) := rfl
theorem s4_3 {n m : Nat} {a : Option Addr} : storeObj (.cells [x, y, z, w] true e) 3 1 (.slice a n m) = some (.cells [x, y, z, .slice a n m] true e) := rfl
theorem s4_0 {n : ByteArray} : storeObj (.cells [x, y, z, w] true e) 0 1 (.string n) = some (.cells [.string n, y, z, w] true e) := rfl
theorem s4_2 {n : Int} : storeObj (.cells [x, y, z, w] true e) 2 1 (.int .i64 n) = some (.cells [x, y, .int .i64 n, w] true e) := rfl
theorem s4_A {n m n' m' : Nat} {a a' : Option Addr} {s : ByteArray} {k : Int} : storeObj (.cells [x, y, z, w] true e) 0 4 (.agg #[.string s, .slice a n m, .int .i64 k, .slice a' n' m']) = some (.cells [.string s, .slice a n m, .int .i64 k, .slice a' n' m'] true e) := rfl
end
/-- a file's row. -/
theorem RRep.row {g : VH} {i : Nat} {v : Value} {a b : List Rr} {r : Rr} {S : Ds} (k : RRep g i v (a ++ r :: b) S) :
    ∃ q o c ds, v = .slice (some ⟨q, o, none⟩) (a ++ r :: b).length c ∧ (a ++ r :: b).length ≤ c ∧ q < g.n ∧ g.get q = .cells ds true 4 ∧ eszObj (.cells ds true 4) 4 = true ∧ (ds.drop (o + a.length * 4)).take 4 = rowR r ∧ o + a.length * 4 + 4 ≤ ds.length ∧
      loadObj (.cells ds true 4) (o + a.length * 4) none = some (.string (strB r.f.nm)) ∧ loadObj (.cells ds true 4) (o + a.length * 4 + 1) none = some r.bv ∧ loadObj (.cells ds true 4) (o + a.length * 4 + 2) none = some (.int .i64 (r.f.s.length : Int)) ∧
      loadObj (.cells ds true 4) (o + a.length * 4 + 3) none = some r.wv ∧ loadObj (.cells ds true 4) (o + a.length * 4) (some 4) = some (.agg (rowR r).toArray) ∧
      ∀ (r' : Rr) (g' : VH), g.n ≤ g'.n → g'.get q = .cells (wr ds (o + a.length * 4) (rowR r')) true 4 → OwnSl g' 4 v ((a ++ r' :: b).flatMap rowR) (a ++ r :: b).length := by
  obtain ⟨q, o, c, ds, h1, h2, h3, h4, h5, h6, h7, h8⟩ := OwnSl.el rowR_len (by decide) k.own (A := a) (B := b) (a := r) rfl
  refine ⟨q, o, c, ds, h1, h3, h4, h5, rfl, h6, h7, ?_, ?_, ?_, ?_, el_load h6 h7, h8⟩
  · exact el_field (f := 0) h6 h7 (by decide)
  · exact el_field (f := 1) h6 h7 (by decide)
  · exact el_field (f := 2) h6 h7 (by decide)
  · exact el_field (f := 3) h6 h7 (by decide)
/-- the reference's disk lies at i. -/
def RfDk (h : VH) (i : Nat) (S : Ds) (X : List Nat) : Prop := ∃ v rs, X = fpD i v rs ∧ RRep h i v rs S
theorem RfDk.fr {h h' : VH} {i : Nat} {S : Ds} {X Y : List Nat} (k : RfDk h i S X) (hf : Fr h h' Y) (hx : ∀ x ∈ X, x ∉ Y) : RfDk h' i S X := by
  obtain ⟨v, rs, rfl, k⟩ := k
  exact ⟨v, rs, rfl, k.fr hf hx⟩
theorem RfDk.fr0 {h h' : VH} {i : Nat} {S : Ds} {X : List Nat} (k : RfDk h i S X) (hf : Fr h h' []) : RfDk h' i S X := k.fr hf (fun _ _ => by simp)
theorem RfDk.lt {h : VH} {i : Nat} {S : Ds} {X : List Nat} (k : RfDk h i S X) : ∀ x ∈ X, x < h.n := by
  obtain ⟨v, rs, rfl, k⟩ := k
  exact k.lts
structure Mr (h h' : VH) (X X' : List Nat) : Prop where
  fr : Fr h h' X
  ids : ∀ x ∈ X', x ∈ X ∨ h.n ≤ x
theorem Mr.refl (h : VH) (X : List Nat) : Mr h h X X := ⟨Fr.refl _ _, fun x hx => .inl hx⟩
theorem Mr.trans {a b c : VH} {X Y Z : List Nat} (k : Mr a b X Y) (l : Mr b c Y Z) : Mr a c X Z :=
  ⟨k.fr.trans' l.fr k.ids, fun x hx => (l.ids x hx).elim (fun h1 => k.ids x h1) (fun h1 => .inr (Nat.le_trans k.fr.n h1))⟩
theorem Mr.pre {a b c : VH} {X Z : List Nat} (k : Fr a b []) (l : Mr b c X Z) : Mr a c X Z :=
  ⟨(k.sub (by simp)).trans l.fr, fun x hx => (l.ids x hx).imp id (fun h1 => Nat.le_trans k.n h1)⟩
theorem Mr.post {a b c : VH} {X Z : List Nat} (k : Mr a b X Z) (l : Fr b c []) : Mr a c X Z := ⟨k.fr.trans (l.sub (by simp)), k.ids⟩
def RfP (h : VH) (i : Nat) (X : List Nat) (S' : Ds) (h' : VH) : Prop := ∃ X', RfDk h' i S' X' ∧ Mr h h' X X'
theorem RfP.same {h h' : VH} {i : Nat} {S : Ds} {X : List Nat} (k : RfDk h i S X) (hf : Fr h h' []) : RfP h i X S h' := ⟨X, k.fr0 hf, (Mr.refl h X).post hf⟩

/- disk, part S: the reference: find, put, drop. -/

/-- elements gathered in an owned row that was laid behind h0, of which nothing has turned. -/
structure BufE (h0 g : VH) (e : Nat) (w : Value) (l : List Value) (n : Nat) : Prop where
  own : OwnSl g e w l n
  fr : Fr h0 g []
  ids : ∀ i ∈ idOf w, h0.n ≤ i
theorem BufE.nil (h : VH) (e : Nat) : BufE h h e (.slice none 0 0) [] 0 := ⟨OwnSl.nil _ _, Fr.refl _ _, fun i hi => by simp [idOf] at hi⟩
theorem BufE.shape {h0 g : VH} {e : Nat} {w : Value} {l : List Value} {n : Nat} (hb : BufE h0 g e w l n) : ∃ a c, w = .slice a n c := hb.own.shapeN
theorem BufE.step {h0 g g' : VH} {e : Nat} {w : Value} {l : List Value} {n : Nat} (hb : BufE h0 g e w l n) (hf : Fr g g' []) : BufE h0 g' e w l n :=
  ⟨hb.own.fr hf (fun i _ => by simp), hb.fr.trans hf, hb.ids⟩
theorem BufE.append {h0 g : VH} {e bytes : Nat} {w : Value} {l : List Value} {n : Nat} (hb : BufE h0 g e w l n) {ys : List Value} {k : Nat} (hy : ys.length = k * e) (hl : (n + k) * bytes ≤ 140737488355328) :
    ∃ w' g', appendV g e bytes w ys k = some (w', g') ∧ BufE h0 g' e w' (l ++ ys) (n + k) ∧ Fr g g' (idOf w) := by
  obtain ⟨w', g', hap, ho, hf, hid⟩ := hb.own.append (bytes := bytes) hy hl
  refine ⟨w', g', hap, ⟨ho, hb.fr.trans' hf (fun y hy => .inr (hb.ids y hy)), fun i hi => ?_⟩, hf⟩
  rcases hid i hi with h1 | h1
  · exact hb.ids i h1
  · exact Nat.le_trans hb.fr.n h1
/-- a part of an owned slice, read. -/
theorem OwnSl.part {h : VH} {e q o n c : Nat} {cs : List Value} (k : OwnSl h e (.slice (some ⟨q, o, none⟩) n c) cs n) {lo m : Nat} (hm : lo + m ≤ n) : rowObj (h.get q) (o + lo * e) (m * e) = some ((cs.drop (lo * e)).take (m * e)) := by
  rcases k with ⟨h1, _⟩ | ⟨i, o', c', ds, h1, h2, h3, h4, h5, h6, h7⟩
  · cases h1
  · injection h3 with h3
    injection h3 with h3
    injection h3 with h3 h3'
    subst h3
    subst h3'
    have hd : ds.length = o + n * e := by
      have := congrArg List.length h5
      simp at this
      omega
    have h8 : lo * e + m * e ≤ n * e := by rw [← Nat.add_mul]; exact Nat.mul_le_mul_right e hm
    rw [h4]
    simp only [rowObj]
    rw [if_pos (by omega), ← h5, List.drop_drop]
theorem OwnSl.esz {h : VH} {e q o n c : Nat} {cs : List Value} (k : OwnSl h e (.slice (some ⟨q, o, none⟩) n c) cs n) : eszObj (h.get q) e = true := by
  rcases k with ⟨h1, _⟩ | ⟨i, o', c', ds, h1, h2, h3, h4, h5, h6, h7⟩
  · cases h1
  · injection h3 with h3
    injection h3 with h3
    injection h3 with h3 h3'
    subst h3
    rw [h4]; simp [eszObj]
theorem drop_flat {α : Type} {C : α → List Value} {z : Nat} (hC : ∀ a, (C a).length = z) : ∀ (l : List α) (k : Nat), (l.flatMap C).drop (k * z) = (l.drop k).flatMap C
  | l, 0 => by simp
  | [], k + 1 => by simp
  | a :: l, k + 1 => by
    rw [List.flatMap_cons, Nat.succ_mul, Nat.add_comm, ← List.drop_drop, List.drop_left' (hC a), drop_flat hC l k]
    rfl
theorem take_flat {α : Type} {C : α → List Value} {z : Nat} (hC : ∀ a, (C a).length = z) : ∀ (l : List α) (k : Nat), (l.flatMap C).take (k * z) = (l.take k).flatMap C
  | l, 0 => by simp
  | [], k + 1 => by simp
  | a :: l, k + 1 => by
    rw [List.flatMap_cons, Nat.succ_mul, Nat.add_comm, List.take_succ_cons, List.flatMap_cons, ← take_flat hC l k, ← hC a, List.take_length_add_append]

/-- where a name stands in the reference's disk. -/
def RAt (nm : List UInt8) (rs : List Rr) (u : Value) : Prop := (∃ a r b, rs = a ++ r :: b ∧ r.f.nm = nm ∧ (∀ x ∈ a, x.f.nm ≠ nm) ∧ u = .int .i64 (a.length : Int)) ∨ (u = .int .i64 (-1) ∧ ∀ x ∈ rs, x.f.nm ≠ nm)
theorem at_split {α : Type} {l : List α} {n : Nat} (h : n < l.length) : l = l.take n ++ l[n] :: l.drop (n + 1) := by
  rw [← List.drop_eq_getElem_cons h, List.take_append_drop]
set_option maxHeartbeats 1000000 in
theorem rfind_ok {h : VH} {i : Nat} {v : Value} {rs : List Rr} {S : Ds} (k : RRep h i v rs S) (hn : rs.length ≤ 64) {nm : List UInt8} :
    PCalls Tryz.prog f_ref06_Disk_find [.pointer (some ⟨i, 0, none⟩), .string (strB nm)] h (fun u h' => RAt nm rs u ∧ h' = h) := by
  refine PCalls_of_pw st_ref06_Disk_find (by simp [n_ref06_Disk_find]) ?_
  rw [b_ref06_Disk_find]
  unfold B_ref06_Disk_find
  have hr := k.rec_
  obtain ⟨a, c, rfl⟩ := k.own.shapeN
  obtain ⟨N, hN⟩ : ∃ N, N = rs.length := ⟨_, rfl⟩
  rw [← hN] at hr hn
  simp (disch := first|omega|(simp only [np,ns];try omega)) []
  refine pw_loopN (fun n s g => g = h ∧ s 0 = .pointer (some ⟨i, 0, none⟩) ∧ s 1 = .string (strB nm) ∧ s 5 = .int .i64 (n : Int) ∧ ∀ x ∈ rs.take n, x.f.nm ≠ nm) N ?_ ?_
  · exact ⟨rfl, by simp [upd_apply, s0_apply], by simp [upd_apply, s0_apply], by simp [upd_apply], by simp⟩
  rintro n s g hnN ⟨rfl, e0, e1, e5, hnot⟩
  by_cases hlt : n < N
  · have hltI : (n : Int) < (N : Int) := by omega
    have hkk : IntKind.i64.wrap ((n : Int) + 1) = ((n + 1 : Nat) : Int) := by rw [i64_small (by omega) (by omega)]; omega
    have hspl := at_split (l := rs) (n := n) (by omega)
    have k' := k
    rw [hspl] at k'
    obtain ⟨q, o, c', ds, hv, hc, hi, hg, hez, _, _, hl0, _⟩ := k'.row
    have htl : (rs.take n).length = n := by rw [List.length_take]; omega
    rw [htl] at hl0
    injection hv with hv _ hvc
    subst hv
    subst hvc
    by_cases hnm : (rs[n]'(by omega)).f.nm = nm
    · have hb : ((strB (rs[n]'(by omega)).f.nm).toList == (strB nm).toList) = true := by rw [hnm]; simp
      simp (disch := first|omega|(simp only [np,ns];try omega)) [r_ref06_Disk_find, e0, e1, e5, hr, lr_0, hlt, hltI, hg, hez, hl0, hb]
      exact .inl ⟨rs.take n, rs[n]'(by omega), rs.drop (n + 1), hspl, hnm, hnot, by rw [htl]⟩
    · have hb : ((strB (rs[n]'(by omega)).f.nm).toList == (strB nm).toList) = false := by rw [strB_toList, strB_toList]; simpa using hnm
      simp (disch := first|omega|(simp only [np,ns];try omega)) [e0, e1, e5, hr, lr_0, hlt, hltI, hg, hez, hl0, hb, hkk]
      intro x hx
      rw [List.take_succ_eq_append_getElem (by omega), List.mem_append] at hx
      rcases hx with hx | hx
      · exact hnot x hx
      · simp at hx; subst hx; exact hnm
  · obtain rfl : n = N := by omega
    simp (disch := first|omega|(simp only [np,ns];try omega)) [r_ref06_Disk_find, e0, e5, hr, lr_0]
    rw [hN, List.take_length] at hnot
    exact .inr ⟨rfl, hnot⟩
theorem RAt.find {nm : List UInt8} {rs : List Rr} {u : Value} {S : Ds} (H : RAt nm rs u) (hf : rs.map (·.f) = S.fs) : (∃ a r b, rs = a ++ r :: b ∧ findF nm S.fs = some r.f ∧ r.f.nm = nm ∧ (∀ x ∈ a, x.f.nm ≠ nm) ∧ u = .int .i64 (a.length : Int)) ∨ (u = .int .i64 (-1) ∧ findF nm S.fs = none) := by
  rcases H with ⟨a, r, b, h1, h2, h3, h4⟩ | ⟨h1, h2⟩
  · refine .inl ⟨a, r, b, h1, ?_, h2, h3, h4⟩
    rw [← hf, h1, List.map_append, List.map_cons]
    clear h1 hf h4
    induction a with
    | nil => simp [findF, h2]
    | cons x a ih =>
      have hx := h3 x (List.mem_cons_self ..)
      simp only [List.map_cons, List.cons_append, findF, if_neg hx]
      exact ih (fun y hy => h3 y (List.mem_cons_of_mem _ hy))
  · refine .inr ⟨h1, ?_⟩
    rw [← hf]
    clear h1 hf
    induction rs with
    | nil => rfl
    | cons x r ih =>
      simp only [List.map_cons, findF, if_neg (h2 x (List.mem_cons_self ..))]
      exact ih (fun y hy => h2 y (List.mem_cons_of_mem _ hy))

/- disk, part T: the reference: put, drop. -/

theorem bytesLess_eq : ∀ (a b : List UInt8), Op.bytesLess a b = decide (a < b)
  | [], [] => by simp [Op.bytesLess]
  | a :: x, [] => by simp [Op.bytesLess]
  | [], b :: y => by simp [Op.bytesLess]
  | a :: x, b :: y => by
    rw [Op.bytesLess, bytesLess_eq x y]
    by_cases h1 : a < b
    · simp [h1, List.cons_lt_cons_iff]
    · by_cases h2 : a = b
      · subst h2; simp [h1, List.cons_lt_cons_iff]
      · simp [h1, h2, List.cons_lt_cons_iff]
def rowV (r : Rr) : Value := .agg #[.string (strB r.f.nm), r.bv, .int .i64 (r.f.s.length : Int), r.wv]
theorem rowV_eq (r : Rr) : rowV r = .agg (rowR r).toArray := rfl
abbrev zF : List Value := [.string ⟨#[]⟩, .slice none 0 0, .int .i64 0, .slice none 0 0]
theorem fill_row {s : ByteArray} {a b : Option Addr} {n c m d : Nat} {k : Int} : fillC zF [(0, 4, .agg #[.string s, .slice a n c, .int .i64 k, .slice b m d])] = some [.string s, .slice a n c, .int .i64 k, .slice b m d] := rfl
/-- the row is another one: other files, all of them laid already. -/
theorem RRep.row' {h h' : VH} {i : Nat} {v v' : Value} {rs rs' : List Rr} {S S' : Ds} (k : RRep h i v rs S) (hf : Fr h h' [i]) (hr : h'.get i = .cells [v', .int .i64 (S'.sy : Int)] true 1) (ho : OwnSl h' 4 v' (rs'.flatMap rowR) rs'.length) (hid : ∀ x ∈ idOf v', h.n ≤ x)
    (hfil : ∀ r ∈ rs', RfAt h r ∧ i ∉ fpR r) (hnd : (rs'.flatMap fpR).Nodup) (hfs : rs'.map (·.f) = S'.fs) : RRep h' i v' rs' S' := by
  have hn := hf.n
  have hlt := k.lt
  refine ⟨by omega, ?_, hr, ho, fun r hrr => (hfil r hrr).1.fr hf (fun x hx hxi => by simp at hxi; subst hxi; exact (hfil r hrr).2 hx), hfs⟩
  simp only [fpD, List.nodup_cons, List.nodup_append, List.mem_append, not_or]
  refine ⟨⟨fun hx => by have := hid _ hx; omega, fun hx => ?_⟩, idOf_nodup _, hnd, fun x hx y hy e => ?_⟩
  · obtain ⟨r, hr, hx⟩ := List.mem_flatMap.1 hx
    exact (hfil r hr).2 hx
  · subst e
    obtain ⟨r, hr, hy⟩ := List.mem_flatMap.1 hy
    have := hid x hx
    have := (hfil r hr).1.lts x hy
    omega
theorem RRep.frs {h : VH} {i : Nat} {v : Value} {rs : List Rr} {S : Ds} (k : RRep h i v rs S) : (rs.flatMap fpR).Nodup := by
  have := k.nd
  simp only [fpD, List.nodup_cons, List.nodup_append] at this
  exact this.2.2.1
theorem RfAt.shapes {h : VH} {r : Rr} (k : RfAt h r) : ∃ a c b d, r.bv = .slice a r.f.all.length c ∧ r.wv = .slice b r.f.ws.length d := by
  obtain ⟨a, c, h1⟩ := k.b.shape
  obtain ⟨b, d, h2⟩ := k.w.shape
  exact ⟨a, c, b, d, h1, h2⟩
def RPut (h0 g : VH) (rs : List Rr) (x : List UInt8) (w : Value) (n : Nat) : Prop := BufE h0 g 4 w ((rs.take n).flatMap rowR) n ∧ ∀ y ∈ rs.take n, y.f.nm < x
set_option maxHeartbeats 4000000 in
theorem rput_ok {h : VH} {i : Nat} {v : Value} {rs : List Rr} {S : Ds} (k : RRep h i v rs S) (hn : rs.length ≤ 64) {x : Rr} (T : RfAt h x) (hxi : i ∉ fpR x) (hxnd : (fpR x ++ rs.flatMap fpR).Nodup) :
    PCalls Tryz.prog f_ref06_Disk_put [.pointer (some ⟨i, 0, none⟩), rowV x] h (fun u h' => u = .tuple #[] ∧ ∃ v' A B, rs = A ++ B ∧ RRep h' i v' (A ++ x :: B) { S with fs := insF x.f S.fs } ∧ Fr h h' [i] ∧ ∀ y ∈ idOf v', h.n ≤ y) := by
  refine PCalls_of_pw st_ref06_Disk_put (by simp [n_ref06_Disk_put]) ?_
  rw [b_ref06_Disk_put]
  unfold B_ref06_Disk_put
  have hr := k.rec_
  have hlt := k.lt
  obtain ⟨xa, xc, xb, xd, hxb, hxw⟩ := T.shapes
  obtain ⟨a, c, hv⟩ := k.own.shapeN
  obtain ⟨N, hN⟩ : ∃ N, N = rs.length := ⟨_, rfl⟩
  rw [← hN] at hn hv
  have hown := k.own
  rw [← hN] at hown
  rw [hv] at hr hown
  obtain ⟨xl, hxl⟩ : ∃ xl, xl = x.f.all.length := ⟨_, rfl⟩
  obtain ⟨xwl, hxwl⟩ : ∃ xwl, xwl = x.f.ws.length := ⟨_, rfl⟩
  obtain ⟨xs, hxs⟩ : ∃ xs : Int, xs = (x.f.s.length : Int) := ⟨_, rfl⟩
  rw [← hxl] at hxb
  rw [← hxwl] at hxw
  obtain ⟨R, hR⟩ : ∃ R : List Value, R = [.string (strB x.f.nm), .slice xa xl xc, .int .i64 xs, .slice xb xwl xd] := ⟨_, rfl⟩
  have hRr : R = rowR x := by rw [hR, rowR, hxb, hxw, hxs]
  have hone0 : R.all Value.oneCell' = true := by rw [hR]; rfl
  obtain ⟨g0, hg0⟩ : ∃ g0, g0 = h.push (.cells [.string (strB x.f.nm), .slice xa xl xc, .int .i64 xs, .slice xb xwl xd] true 1) := ⟨_, rfl⟩
  have F0 : Fr h g0 [] := by rw [hg0]; exact Fr_push (Fr.refl _ _)
  have n0 : g0.n = h.n + 1 := by rw [hg0]; rfl
  have b0 : g0.get h.n = .cells [.string (strB x.f.nm), .slice xa xl xc, .int .i64 xs, .slice xb xwl xd] true 1 := by rw [hg0, VH.get_push_new]
  have hone : ([.string (strB x.f.nm), .slice xa xl xc, .int .i64 xs, .slice xb xwl xd] : List Value).all Value.oneCell' = true := rfl
  rw [rowV, hxb, hxw, ← hxs]
  simp (disch := first|omega|(simp only [np,ns];try omega)) [hone, ← hg0]
  refine pw_loopN (fun n s g => s 0 = .pointer (some ⟨i, 0, none⟩) ∧ s 3 = .pointer (some ⟨h.n, 0, none⟩) ∧ s 5 = .int .i64 (n : Int) ∧ RPut g0 g rs x.f.nm (s 4) n) N ?_ ?_
  · refine ⟨by simp [upd_apply, s0_apply], by simp [upd_apply], by simp [upd_apply], ?_, by simp⟩
    simpa [upd_apply] using BufE.nil g0 4
  rintro n s g hnN ⟨e0, e3, e5, hB, hlts⟩
  obtain ⟨w, hw⟩ : ∃ w, w = s 4 := ⟨_, rfl⟩
  rw [← hw] at hB
  have F := F0.trans hB.fr
  have k' := k.fr0 F
  have hgr' := k'.rec_
  rw [hv] at hgr'
  have bg : g.get h.n = .cells [.string (strB x.f.nm), .slice xa xl xc, .int .i64 xs, .slice xb xwl xd] true 1 := (hB.fr.get _ (by omega) (by simp)).trans b0
  obtain ⟨wa, wc, hws⟩ := hB.shape
  have e4 : s 4 = .slice wa n wc := by rw [← hw, hws]
  have hbn := hB.fr.n
  by_cases hgo : ∃ hlt : n < rs.length, rs[n].f.nm < x.f.nm
  · obtain ⟨hltn, hless⟩ := hgo
    have hlt' : n < N := by omega
    have hltI : (n : Int) < (N : Int) := by omega
    have hkk : IntKind.i64.wrap ((n : Int) + 1) = ((n + 1 : Nat) : Int) := by rw [i64_small (by omega) (by omega)]; omega
    have hspl := at_split hltn
    have k2 := k'
    rw [hspl] at k2
    obtain ⟨q, o, c', ds, hv2, hc, hi, hg, hez, htk, hq, hl0, _, _, _, hl4, _⟩ := k2.row
    have htl : (rs.take n).length = n := by rw [List.length_take]; omega
    rw [htl] at hl0 hl4 htk hq
    rw [hv] at hv2
    injection hv2 with hv2 _ hvc
    subst hv2
    subst hvc
    have hb : Op.bytesLess (strB rs[n].f.nm).toList (strB x.f.nm).toList = true := by rw [strB_toList, strB_toList, bytesLess_eq, decide_eq_true hless]
    obtain ⟨ya, yc, yb, yd, hyb, hyw⟩ := (k'.fil rs[n] (List.getElem_mem _)).shapes
    have hfi : fillC zF [(0, 4, .agg (rowR rs[n]).toArray)] = some (rowR rs[n]) := rfl
    have hone2 : (rowR rs[n]).all Value.oneCell' = true := by rw [rowR, hyb, hyw]; rfl
    have hro : rowObj (.cells (rowR rs[n]) true 4) 0 4 = some (rowR rs[n]) := rfl
    obtain ⟨g2, hg2⟩ : ∃ g2, g2 = g.push (.cells (rowR rs[n]) true 4) := ⟨_, rfl⟩
    have F2 : Fr g g2 [] := by rw [hg2]; exact Fr_push (Fr.refl _ _)
    have q2 : g2.get g.n = .cells (rowR rs[n]) true 4 := by rw [hg2, VH.get_push_new]
    rw [hws] at hB
    obtain ⟨v', g3, hap, O3, F3⟩ := (hB.step F2).append (bytes := 72) (ys := rowR rs[n]) (k := 1) rfl (by omega)
    have hflat : (rs.take n).flatMap rowR ++ rowR rs[n] = (rs.take (n + 1)).flatMap rowR := by rw [List.take_succ_eq_append_getElem hltn, List.flatMap_append, List.flatMap_singleton]
    rw [hflat] at O3
    simp (disch := first|omega|(simp only [np,ns];try omega)) [e0, e3, e5, e4, hgr', lr_0, hlt', hltI, hg, hez, hl0, bg, l4_0, hb, hl4, hfi, hone2, ← hg2, hro, q2, Option.bind_some, hap, hkk]
    refine ⟨O3, fun y hy => ?_⟩
    rw [List.take_succ_eq_append_getElem hltn, List.mem_append] at hy
    rcases hy with hy | hy
    · exact hlts y hy
    · simp at hy; subst hy; exact hless
  -- the file, and what follows it
  generalize hT : PC.seq (PC.ops (⟨some 38, none, _⟩ :: _)) _ = T2
  have tail : ∀ s2 : Slots, s2 0 = .pointer (some ⟨i, 0, none⟩) → s2 3 = .pointer (some ⟨h.n, 0, none⟩) → s2 4 = .slice wa n wc → s2 5 = .int .i64 (n : Int) → (∀ y r, rs.drop n = y :: r → ¬ y.f.nm < x.f.nm) → pw Tryz.prog T2 s2 g (F_ref06_Disk_put.ret fun u h' => u = .tuple #[] ∧ ∃ v' A B, rs = A ++ B ∧ RRep h' i v' (A ++ x :: B) { S with fs := insF x.f S.fs } ∧ Fr h h' [i] ∧ ∀ y ∈ idOf v', h.n ≤ y) := by
    clear e0 e3 e5 e4
    intro s2 e0 e3 e4 e5 hnl
    rw [← hT]
    obtain ⟨g2, hg2⟩ : ∃ g2, g2 = g.push (.cells R true 4) := ⟨_, rfl⟩
    have F2 : Fr g g2 [] := by rw [hg2]; exact Fr_push (Fr.refl _ _)
    have q2 : g2.get g.n = .cells R true 4 := by rw [hg2, VH.get_push_new]
    have hro : rowObj (.cells R true 4) 0 4 = some R := by rw [hR]; rfl
    rw [hws] at hB
    obtain ⟨v3, g3, hap3, O3, F3⟩ := (hB.step F2).append (bytes := 72) (ys := R) (k := 1) (by rw [hR]; rfl) (by omega)
    obtain ⟨a3, c3, rfl⟩ := O3.shape
    have hfi : fillC zF [(0, 4, .agg #[.string (strB x.f.nm), .slice xa xl xc, .int .i64 xs, .slice xb xwl xd])] = some R := by rw [hR]; rfl
    have k3 := k.fr0 (F0.trans O3.fr)
    have hr3 := k3.rec_
    rw [hv] at hr3
    have hown3 := k3.own
    rw [← hN, hv] at hown3
    have hlen3 := hown3.len
    have hinF : insF x.f S.fs = ((rs.take n) ++ x :: rs.drop n).map (·.f) := by
      obtain ⟨A, B, h1, h2, h3, h4⟩ := insF_at x.f S.fs
      have hA : A = (rs.take n).map (·.f) := by
        have hspl : S.fs = (rs.take n).map (·.f) ++ (rs.drop n).map (·.f) := by rw [← List.map_append, List.take_append_drop, k.fs]
        have hsp := h1.symm.trans hspl
        have hl1 : ∀ y ∈ (rs.take n).map (·.f), y.nm < x.f.nm := by
          intro y hy
          obtain ⟨r, hr, rfl⟩ := List.mem_map.1 hy
          exact hlts r hr
        rcases List.append_eq_append_iff.1 hsp with ⟨C, h5, h6⟩ | ⟨C, h5, h6⟩
        · cases C with
          | nil => simpa using h5.symm
          | cons y C => exact absurd (hl1 y (by rw [h5]; simp)) (h4 y _ (by rw [h6]; rfl))
        · cases C with
          | nil => simpa using h5
          | cons y C =>
            exfalso
            have hy := h3 y (by rw [h5]; simp)
            cases hd : rs.drop n with
            | nil => rw [hd] at h6; simp at h6
            | cons r t =>
              rw [hd] at h6
              simp at h6
              exact hnl r t hd (h6.1 ▸ hy)
      have hB2 : B = (rs.drop n).map (·.f) := by
        have hspl : S.fs = (rs.take n).map (·.f) ++ (rs.drop n).map (·.f) := by rw [← List.map_append, List.take_append_drop, k.fs]
        rw [hA, hspl] at h1
        exact (List.append_cancel_left h1).symm
      rw [h2, hA, hB2]
      simp
    have fin : ∀ (g4 g5 : VH) (a4 : Option Addr) (c4 : Nat), BufE g0 g4 4 (.slice a4 (N + 1) c4) ((rs.take n ++ x :: rs.drop n).flatMap rowR) (N + 1) → g5 = g4.set i (.cells [.slice a4 (N + 1) c4, .int .i64 (S.sy : Int)] true 1) →
        ∃ v' A B, rs = A ++ B ∧ RRep g5 i v' (A ++ x :: B) { S with fs := insF x.f S.fs } ∧ Fr h g5 [i] ∧ ∀ y ∈ idOf v', h.n ≤ y := by
      intro g4 g5 a4 c4 O4 hg5
      have F5 : Fr g4 g5 [i] := by rw [hg5]; exact Fr.set _ _ (by simp)
      have F05 : Fr h g5 [i] := ((F0.trans O4.fr).sub (by simp)).trans F5
      have hid4 : ∀ y ∈ idOf (.slice a4 (N + 1) c4), h.n ≤ y := fun y hy => by have := O4.ids y hy; omega
      have hll : (rs.take n ++ x :: rs.drop n).length = N + 1 := by simp; omega
      refine ⟨_, rs.take n, rs.drop n, (List.take_append_drop n rs).symm, ?_, F05, hid4⟩
      refine k.row' (S' := { S with fs := insF x.f S.fs }) F05 (by rw [hg5, VH.get_set_same]) ?_ hid4 ?_ ?_ hinF.symm
      · rw [hll]
        exact O4.own.fr F5 (fun y hy hyi => by simp at hyi; subst hyi; have := hid4 _ hy; omega)
      · intro r hr
        simp only [List.mem_append, List.mem_cons] at hr
        rcases hr with hr | rfl | hr
        · exact ⟨k.fil r (List.mem_of_mem_take hr), k.nr (List.mem_of_mem_take hr)⟩
        · exact ⟨T, hxi⟩
        · exact ⟨k.fil r (List.mem_of_mem_drop hr), k.nr (List.mem_of_mem_drop hr)⟩
      · have hp : ((rs.take n ++ x :: rs.drop n).flatMap fpR).Perm (fpR x ++ rs.flatMap fpR) := by
          have := (List.perm_middle (a := x) (l₁ := rs.take n) (l₂ := rs.drop n)).flatMap_right fpR
          rw [List.flatMap_cons, List.take_append_drop] at this
          exact this
        exact hp.nodup_iff.2 hxnd
    rw [hRr] at O3
    cases a with
    | none =>
      have hN0 : N = 0 := by
        rcases hown with ⟨_, _, h1⟩ | ⟨_, _, _, _, _, _, h1, _⟩
        · exact h1
        · cases h1
      have hn0 : n = 0 := by omega
      have hrs : rs = [] := List.eq_nil_of_length_eq_zero (by omega)
      obtain ⟨g5, hg5⟩ : ∃ g5, g5 = g3.set i (.cells [.slice a3 (n + 1) c3, .int .i64 (S.sy : Int)] true 1) := ⟨_, rfl⟩
      have hap0 : appendV g3 4 72 (.slice a3 (n + 1) c3) [] 0 = some (.slice a3 (n + 1) c3, g3) := by simp [appendV]
      have hbd : (0 : Int) ≤ (n : Int) ∧ (n : Int) ≤ 0 := by omega
      have := fin g3 g5 a3 c3 (by rw [hN0, ← hn0]; rw [hrs] at O3 ⊢; simpa using O3) (by rw [hg5, hN0, hn0])
      simp (disch := first|omega|(simp only [np,ns];try omega)) [r_ref06_Disk_put, e0, e3, e4, e5, bg, l4_A, hfi, hone0, ← hg2, q2, hro, Option.bind_some, hap3, hr3, lr_0, hbd, hap0, sr_0, ← hg5]
      exact this
    | some q =>
      have hown2 := hown
      rcases hown2 with ⟨h1, _⟩ | ⟨qi, qo, qc, ds, hqi, hqc, hqv, hqg, hqd, hql, hqo⟩
      · cases h1
      injection hqv with hq1 _ hq3
      injection hq1 with hq1
      subst hq1
      subst hq3
      have hpart := OwnSl.part hown3 (lo := n) (m := N - n) (by omega)
      have hez3 := OwnSl.esz hown3
      have hdrop : ((rs.flatMap rowR).drop (n * 4)).take ((N - n) * 4) = (rs.drop n).flatMap rowR := by
        rw [drop_flat rowR_len, List.take_of_length_le]
        rw [flat_len rowR_len, List.length_drop]
        omega
      rw [hdrop] at hpart
      obtain ⟨v4, g4, hap4, O4, F4⟩ := O3.append (bytes := 72) (ys := (rs.drop n).flatMap rowR) (k := N - n) (by rw [flat_len rowR_len, List.length_drop]; omega) (by omega)
      obtain ⟨a4, c4, rfl⟩ := O4.shape
      have hNn : n + 1 + (N - n) = N + 1 := by omega
      rw [hNn] at hap4 O4
      obtain ⟨g5, hg5⟩ : ∃ g5, g5 = g4.set i (.cells [.slice a4 (N + 1) c4, .int .i64 (S.sy : Int)] true 1) := ⟨_, rfl⟩
      have h4 := fin g4 g5 a4 c4 (by
        have e : (rs.take n).flatMap rowR ++ rowR x ++ (rs.drop n).flatMap rowR = (rs.take n ++ x :: rs.drop n).flatMap rowR := by simp
        rw [e] at O4
        exact O4) hg5
      have hi3 : i ∉ idOf (.slice a3 (n + 1) c3) := fun hy => by have := O3.ids i hy; omega
      have hr4 : g4.get i = .cells [.slice (some ⟨qi, qo, none⟩) N c, .int .i64 (S.sy : Int)] true 1 := (F4.get i k3.lt hi3).trans hr3
      have hbd : (0 : Int) ≤ (n : Int) ∧ (n : Int) ≤ (N : Int) := by omega
      simp (disch := first|omega|(simp only [np,ns];try omega)) [r_ref06_Disk_put, e0, e3, e4, e5, bg, l4_A, hfi, hone0, ← hg2, q2, hro, Option.bind_some, hap3, hr3, lr_0, hbd, hez3, hpart, hap4, hr4, sr_0, ← hg5]
      exact h4
  by_cases hltn : n < N
  · have hltI : (n : Int) < (N : Int) := by omega
    have hltr : n < rs.length := by omega
    have hless : ¬ rs[n].f.nm < x.f.nm := fun h => hgo ⟨hltr, h⟩
    have hspl := at_split hltr
    have k2 := k'
    rw [hspl] at k2
    obtain ⟨q, o, c', ds, hv2, hc, hi, hg, hez, htk, hq, hl0, _⟩ := k2.row
    have htl : (rs.take n).length = n := by rw [List.length_take]; omega
    rw [htl] at hl0
    rw [hv] at hv2
    injection hv2 with hv2 _ hvc
    subst hv2
    subst hvc
    have hb : Op.bytesLess (strB rs[n].f.nm).toList (strB x.f.nm).toList = false := by rw [strB_toList, strB_toList, bytesLess_eq, decide_eq_false hless]
    simp (disch := first|omega|(simp only [np,ns];try omega)) [e0, e3, e5, e4, hgr', lr_0, hltn, hltI, hg, hez, hl0, bg, l4_0, hb]
    refine tail _ (by simp [upd_apply, e0]) (by simp [upd_apply, e3]) (by simp [upd_apply, e4]) (by simp [upd_apply, e5]) (fun y r hyr => ?_)
    rw [List.drop_eq_getElem_cons hltr] at hyr
    injection hyr with h1 _
    subst h1
    exact hless
  · obtain rfl : n = N := by omega
    have hltI : ¬ (n : Int) < (n : Int) := by omega
    simp (disch := first|omega|(simp only [np,ns];try omega)) [e0, e3, e5, e4, hgr', lr_0]
    refine tail _ (by simp [upd_apply, e0]) (by simp [upd_apply, e3]) (by simp [upd_apply, e4]) (by simp [upd_apply, e5]) (fun y r hyr => ?_)
    rw [List.drop_of_length_le (by omega)] at hyr
    cases hyr

/- disk, part U: the reference: drop, Read, Remove, Rename. -/

theorem delF_at {a b : List Fl} {f : Fl} (h : ∀ x ∈ a, x.nm ≠ f.nm) : delF f.nm (a ++ f :: b) = a ++ b := by
  induction a with
  | nil => simp [delF]
  | cons x a ih =>
    simp only [List.cons_append, delF, if_neg (h x (List.mem_cons_self ..))]
    rw [ih (fun y hy => h y (List.mem_cons_of_mem _ hy))]
theorem setF_at {a b : List Fl} {f x : Fl} (h : ∀ y ∈ a, y.nm ≠ f.nm) (hx : x.nm = f.nm) : setF x (a ++ f :: b) = a ++ x :: b := by
  induction a with
  | nil => simp [setF, hx]
  | cons y a ih =>
    simp only [List.cons_append, setF, hx, if_neg (h y (List.mem_cons_self ..))]
    rw [ih (fun z hz => h z (List.mem_cons_of_mem _ hz))]
set_option maxHeartbeats 2000000 in
theorem rdrop_ok {h : VH} {i : Nat} {v : Value} {a b : List Rr} {r : Rr} {S : Ds} (k : RRep h i v (a ++ r :: b) S) (hn : (a ++ r :: b).length ≤ 64) (hnm : ∀ x ∈ a, x.f.nm ≠ r.f.nm) :
    PCalls Tryz.prog f_ref06_Disk_drop [.pointer (some ⟨i, 0, none⟩), .int .i64 (a.length : Int)] h (fun u h' => u = .tuple #[] ∧ ∃ v', RRep h' i v' (a ++ b) { S with fs := delF r.f.nm S.fs } ∧ Fr h h' [i] ∧ ∀ y ∈ idOf v', h.n ≤ y) := by
  refine PCalls_of_pw st_ref06_Disk_drop (by simp [n_ref06_Disk_drop]) ?_
  rw [b_ref06_Disk_drop]
  unfold B_ref06_Disk_drop
  have hr := k.rec_
  have hlt := k.lt
  obtain ⟨q, o, c, ds, hv, hc, hqi, hg, hez, _⟩ := k.row
  obtain ⟨N, hN⟩ : ∃ N, N = (a ++ r :: b).length := ⟨_, rfl⟩
  have hNab : N = a.length + 1 + b.length := by rw [hN]; simp; omega
  have hown := k.own
  rw [← hN] at hn hv hc
  rw [← hN, hv] at hown
  rw [hv] at hr
  obtain ⟨K, hK⟩ : ∃ K, K = a.length := ⟨_, rfl⟩
  obtain ⟨K1, hK1⟩ : ∃ K1, K1 = K + 1 := ⟨_, rfl⟩
  rw [← hK]
  have hadd : IntKind.i64.wrap ((K : Int) + 1) = (K1 : Int) := by rw [i64_small (by omega) (by omega)]; omega
  have hp1 := OwnSl.part hown (lo := 0) (m := K) (by omega)
  rw [Nat.zero_mul, Nat.add_zero, List.drop_zero, take_flat rowR_len, hK, List.take_left, ← hK, hg] at hp1
  obtain ⟨w1, g1, hap1, O1, F1⟩ := (BufE.nil h 4).append (bytes := 72) (ys := a.flatMap rowR) (k := K) (by rw [flat_len rowR_len, hK]) (by omega)
  rw [List.nil_append, Nat.zero_add] at O1
  obtain ⟨a1, c1, rfl⟩ := O1.shape
  have k1 := k.fr0 O1.fr
  have hown1 := k1.own
  have hr1 := k1.rec_
  rw [hv] at hr1
  rw [← hN, hv] at hown1
  have hp2 := OwnSl.part hown1 (lo := K1) (m := N - K1) (by omega)
  have hez1 := OwnSl.esz hown1
  have hdr : (((a ++ r :: b).flatMap rowR).drop (K1 * 4)).take ((N - K1) * 4) = b.flatMap rowR := by
    rw [drop_flat rowR_len, hK1, hK]
    have : (a ++ r :: b).drop (a.length + 1) = b := by rw [← List.drop_drop]; simp
    rw [this, List.take_of_length_le]
    rw [flat_len rowR_len]
    omega
  rw [hdr] at hp2
  obtain ⟨w2, g2, hap2, O2, F2⟩ := O1.append (bytes := 72) (ys := b.flatMap rowR) (k := N - K1) (by rw [flat_len rowR_len]; congr 1; omega) (by omega)
  have hKN : K + (N - K1) = N - 1 := by omega
  rw [hKN] at O2
  obtain ⟨a2, c2, rfl⟩ := O2.shape
  have hi1 : i ∉ idOf (.slice a1 K c1) := fun hx => by have := O1.ids i hx; omega
  have hr2 := (F2.get i k1.lt hi1).trans hr1
  obtain ⟨g3, hg3⟩ : ∃ g3, g3 = g2.set i (.cells [.slice a2 (N - 1) c2, .int .i64 (S.sy : Int)] true 1) := ⟨_, rfl⟩
  have hb1 : (0 : Int) ≤ (K : Int) ∧ (K : Int) ≤ (c : Int) := by omega
  have hb2 : (0 : Int) ≤ (K1 : Int) ∧ (K1 : Int) ≤ (N : Int) := by omega
  simp (disch := first|omega|(simp only [np,ns];try omega)) [r_ref06_Disk_drop, hr, lr_0, hg, hez, hb1, hb2, hp1, Option.bind_some, hap1, hr1, hadd, hez1, hp2, hap2, hr2, sr_0, ← hg3]
  have F3 : Fr g2 g3 [i] := by rw [hg3]; exact Fr.set _ _ (by simp)
  have F03 : Fr h g3 [i] := (O2.fr.sub (by simp)).trans F3
  refine ⟨_, ?_, F03, O2.ids⟩
  refine k.row' (S' := { S with fs := delF r.f.nm S.fs }) F03 (by rw [hg3, VH.get_set_same]) ?_ O2.ids ?_ ?_ ?_
  · have hl : (a ++ b).length = N - 1 := by simp; omega
    rw [hl, List.flatMap_append]
    exact O2.own.fr F3 (fun x hx hxi => by simp at hxi; subst hxi; have := O2.ids _ hx; omega)
  · intro x hx
    have hx' : x ∈ a ++ r :: b := by
      simp only [List.mem_append, List.mem_cons] at hx ⊢
      exact hx.imp id .inr
    exact ⟨k.fil x hx', k.nr hx'⟩
  · have := k.frs
    rw [List.flatMap_append, List.flatMap_cons] at this
    rw [List.flatMap_append]
    exact this.sublist ((List.Sublist.refl _).append (List.sublist_append_right ..))
  · show (a ++ b).map (·.f) = delF r.f.nm S.fs
    rw [← k.fs]
    have e : (a ++ r :: b).map (·.f) = a.map (·.f) ++ r.f :: b.map (·.f) := by simp
    rw [e, delF_at (fun x hx => by
      obtain ⟨y, hy, rfl⟩ := List.mem_map.1 hx
      exact hnm y hy), List.map_append]
theorem rread_ok {h : VH} {i : Nat} {S : Ds} {X : List Nat} (K : RfDk h i S X) (ok : OkD S) {nm : List UInt8} :
    PCalls Tryz.prog f_ref06_Disk_Read [.pointer (some ⟨i, 0, none⟩), .string (strB nm)] h (fun u h' => ∃ v, u = .tuple #[v, .int .i64 ((readD S nm).2 : Int)] ∧ Buf h h' v (readD S nm).1) := by
  refine PCalls_of_pw st_ref06_Disk_Read (by simp [n_ref06_Disk_Read]) ?_
  rw [b_ref06_Disk_Read]
  unfold B_ref06_Disk_Read
  obtain ⟨v, rs, rfl, k⟩ := K
  have hlen := k.len
  have hle := ok.len
  have hr := k.rec_
  simp (disch := first|omega|(simp only [np,ns];try omega)) []
  refine (rfind_ok k (by omega) (nm := nm)).mono ?_
  rintro u g ⟨hat, hg⟩
  rw [hg]
  rcases hat.find k.fs with ⟨a, r, b, hrs, hfd, hrn, hna, rfl⟩ | ⟨rfl, hfd⟩
  · have hs : readD S nm = (r.f.all, 0) := by simp [readD, hfd]
    subst hrs
    obtain ⟨q, o, c, ds, hv, hc, hqi, hgq, hez, _, _, _, hl1, _⟩ := k.row
    have T := k.fil r (by simp)
    have hsz := (ok.find hfd).sz
    obtain ⟨ba, bc, hb⟩ := T.b.shape
    have hsrc := T.b.src
    obtain ⟨N, hN⟩ : ∃ N, N = (a ++ r :: b).length := ⟨_, rfl⟩
    have hNab : N = a.length + 1 + b.length := by rw [hN]; simp; omega
    rw [← hN] at hv hc
    rw [hv] at hr
    obtain ⟨A, hA⟩ : ∃ A, A = a.length := ⟨_, rfl⟩
    rw [← hA] at hl1
    rw [← hA]
    obtain ⟨w, g2, hap, B2⟩ := (Buf.nil h).append r.f.all (by simp; omega)
    rw [List.nil_append] at B2
    obtain ⟨M, hM⟩ : ∃ M, M = r.f.all.length := ⟨_, rfl⟩
    rw [← hM] at hap hb
    rw [hb] at hl1 hsrc
    obtain ⟨wa, wc, rfl⟩ := B2.shape
    have hneg : ¬ (A : Int) < 0 := by omega
    have hlt : A < N := by omega
    have hltI : (A : Int) < (N : Int) := by omega
    simp (disch := first|omega|(simp only [np,ns];try omega)) [r_ref06_Disk_Read, hneg, hr, lr_0, hgq, hez, hlt, hltI, hl1, hsrc, Option.bind_some, hap, hs]
    exact B2
  · have hs : readD S nm = ([], 5) := by simp [readD, hfd]
    simp (disch := first|omega|(simp only [np,ns];try omega)) [r_ref06_Disk_Read, hs]
    exact Buf.nil h
theorem rremove_ok {h : VH} {i : Nat} {S : Ds} {X : List Nat} (K : RfDk h i S X) (ok : OkD S) {nm : List UInt8} :
    PCalls Tryz.prog f_ref06_Disk_Remove [.pointer (some ⟨i, 0, none⟩), .string (strB nm)] h (fun u h' => u = .int .i64 ((remD S nm).1 : Int) ∧ RfP h i X (remD S nm).2 h') := by
  refine PCalls_of_pw st_ref06_Disk_Remove (by simp [n_ref06_Disk_Remove]) ?_
  rw [b_ref06_Disk_Remove]
  unfold B_ref06_Disk_Remove
  have K0 := K
  obtain ⟨v, rs, rfl, k⟩ := K
  have hlen := k.len
  have hle := ok.len
  simp (disch := first|omega|(simp only [np,ns];try omega)) []
  refine (rfind_ok k (by omega) (nm := nm)).mono ?_
  rintro u g ⟨hat, hg⟩
  rw [hg]
  rcases hat.find k.fs with ⟨a, r, b, hrs, hfd, hrn, hna, rfl⟩ | ⟨rfl, hfd⟩
  · have hs : remD S nm = (0, { S with fs := delF nm S.fs }) := by simp [remD, hfd]
    subst hrs
    have hneg : ¬ ((a.length : Nat) : Int) < 0 := by omega
    simp (disch := first|omega|(simp only [np,ns];try omega)) [hneg]
    refine (rdrop_ok k (by omega) (by rw [hrn]; exact hna)).mono ?_
    rintro u g2 ⟨rfl, v', k2, F, hid⟩
    simp (disch := first|omega|(simp only [np,ns];try omega)) [r_ref06_Disk_Remove, hs]
    rw [hrn] at k2
    refine ⟨_, ⟨v', _, rfl, k2⟩, F.sub (by simp [fpD]), fun x hx => ?_⟩
    simp only [fpD, List.mem_cons, List.mem_append, List.flatMap_append, List.flatMap_cons] at hx ⊢
    rcases hx with hx | hx | hx | hx
    · exact .inl (.inl hx)
    · exact .inr (hid x hx)
    · exact .inl (.inr (.inr (.inl hx)))
    · exact .inl (.inr (.inr (.inr (.inr hx))))
  · have hs : remD S nm = (5, S) := by simp [remD, hfd]
    simp (disch := first|omega|(simp only [np,ns];try omega)) [r_ref06_Disk_Remove, hs]
    exact RfP.same K0 (Fr.refl _ _)
end Go.Proofs.YtgnmhonbcejnfaaGreatDoor.Dk
