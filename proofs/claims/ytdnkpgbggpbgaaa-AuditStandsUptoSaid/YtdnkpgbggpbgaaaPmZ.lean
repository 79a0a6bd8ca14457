/- The pure machine, part Z: slices that are owned and end where their row ends: appended to, read, cut at the front; frames. -/
import Derived.Test.YtdnkpgbggpbgaaaPmY
set_option linter.unusedVariables false
set_option linter.unusedSimpArgs false
namespace Go.Proofs.Ytdnkpgbggpbgaaa.Pm
open Go.RowKit

/-- the id of a slice. -/
def idOf : Value → List Nat
  | .slice (some ⟨i, _, _⟩) _ _ => [i]
  | _ => []
/-- nothing of the heap but the objects of X has turned. -/
structure Fr (h h' : VH) (X : List Nat) : Prop where
  n : h.n ≤ h'.n
  get : ∀ j, j < h.n → j ∉ X → h'.get j = h.get j
theorem Fr.refl (h : VH) (X : List Nat) : Fr h h X := ⟨Nat.le_refl _, fun _ _ _ => rfl⟩
theorem Fr.trans {a b c : VH} {X : List Nat} (h : Fr a b X) (k : Fr b c X) : Fr a c X := ⟨Nat.le_trans h.n k.n, fun j hj hx => (k.get j (Nat.lt_of_lt_of_le hj h.n) hx).trans (h.get j hj hx)⟩
/-- what was laid behind a may turn as well. -/
theorem Fr.trans' {a b c : VH} {X Y : List Nat} (h : Fr a b X) (k : Fr b c Y) (hy : ∀ y ∈ Y, y ∈ X ∨ a.n ≤ y) : Fr a c X := ⟨Nat.le_trans h.n k.n, fun j hj hx => (k.get j (Nat.lt_of_lt_of_le hj h.n) (fun hjy => (hy j hjy).elim hx (by omega))).trans (h.get j hj hx)⟩
theorem Fr.sub {a b : VH} {X Y : List Nat} (h : Fr a b X) (hx : ∀ x ∈ X, x ∈ Y) : Fr a b Y := ⟨h.n, fun j hj hy => h.get j hj (fun hjx => hy (hx j hjx))⟩
theorem Fr.push (h : VH) (o : VObj) (X : List Nat) : Fr h (h.push o) X := ⟨by simp, fun j hj _ => VH.get_push_lt h o hj⟩
theorem Fr.set (h : VH) {i : Nat} (o : VObj) {X : List Nat} (hi : i ∈ X) : Fr h (h.set i o) X := ⟨Nat.le_refl _, fun j hj hx => VH.get_set_ne h o (fun e => hx (e ▸ hi))⟩
theorem Fr_push {h g : VH} (hf : Fr h g []) {o : VObj} : Fr h (g.push o) [] := hf.trans (Fr.push _ _ _)
theorem Fr_set {h g : VH} (hf : Fr h g []) {o : VObj} {i : Nat} (hi : h.n ≤ i) : Fr h (g.set i o) [] := hf.trans' (Fr.set _ _ (X := [i]) (by simp)) (fun y hy => .inr (by simp at hy; omega))
theorem IsBytes.fr {h h' : VH} {X : List Nat} (hf : Fr h h' X) {v : Value} {bs : List UInt8} (hb : IsBytes h v bs) (hx : ∀ i ∈ idOf v, i ∉ X) : IsBytes h' v bs :=
  hb.get_eq hf.n fun i o n c hi hv => hf.get i hi (hx i (by rw [hv]; exact List.mem_singleton.2 rfl))

/-- n elements, of e cells each, that are the rest of an owned row. -/
def OwnSl (h : VH) (e : Nat) (v : Value) (cs : List Value) (n : Nat) : Prop :=
  (v = .slice none 0 0 ∧ cs = [] ∧ n = 0) ∨ ∃ i o c ds, i < h.n ∧ n ≤ c ∧ v = .slice (some ⟨i, o, none⟩) n c ∧ h.get i = .cells ds true e ∧ ds.drop o = cs ∧ cs.length = n * e ∧ o ≤ ds.length
theorem OwnSl.nil (h : VH) (e : Nat) : OwnSl h e (.slice none 0 0) [] 0 := .inl ⟨rfl, rfl, rfl⟩
theorem OwnSl.len {h : VH} {e : Nat} {v : Value} {cs : List Value} {n : Nat} (hs : OwnSl h e v cs n) : cs.length = n * e := by
  rcases hs with ⟨_, rfl, rfl⟩ | ⟨_, _, _, _, _, _, _, _, _, hl, _⟩
  · simp
  · exact hl
theorem OwnSl.shape {h : VH} {e : Nat} {v : Value} {cs : List Value} {n : Nat} (hs : OwnSl h e v cs n) : ∃ a c, v = .slice a n c := by
  rcases hs with ⟨rfl, _, rfl⟩ | ⟨_, _, _, _, _, _, rfl, _⟩
  · exact ⟨_, _, rfl⟩
  · exact ⟨_, _, rfl⟩
theorem OwnSl.lt {h : VH} {e : Nat} {v : Value} {cs : List Value} {n : Nat} (hs : OwnSl h e v cs n) : ∀ i ∈ idOf v, i < h.n := by
  rcases hs with ⟨rfl, _, _⟩ | ⟨i, _, _, _, hi, _, rfl, _⟩
  · intro i hi; simp [idOf] at hi
  · intro j hj; simp [idOf] at hj; subst hj; exact hi
theorem OwnSl.congr {h h' : VH} {e : Nat} {v : Value} {cs : List Value} {n : Nat} (hs : OwnSl h e v cs n) (hn : h.n ≤ h'.n) (hg : ∀ i ∈ idOf v, h'.get i = h.get i) : OwnSl h' e v cs n := by
  rcases hs with hs | ⟨i, o, c, ds, hi, hc, rfl, hgi, hr⟩
  · exact .inl hs
  · exact .inr ⟨i, o, c, ds, Nat.lt_of_lt_of_le hi hn, hc, rfl, by rw [hg i (by simp [idOf])]; exact hgi, hr⟩
theorem OwnSl.fr {h h' : VH} {X : List Nat} (hf : Fr h h' X) {e : Nat} {v : Value} {cs : List Value} {n : Nat} (hs : OwnSl h e v cs n) (hx : ∀ i ∈ idOf v, i ∉ X) : OwnSl h' e v cs n :=
  hs.congr hf.n fun i hi => hf.get i (hs.lt i hi) (hx i hi)
theorem OwnSl.src {h : VH} {e : Nat} {v : Value} {cs : List Value} {n : Nat} (hs : OwnSl h e v cs n) : srcCells h e v = some cs := by
  rcases hs with ⟨rfl, rfl, _⟩ | ⟨i, o, c, ds, hi, hc, rfl, hg, hd, hl, ho⟩
  · rfl
  · have : ds.length = o + n * e := by rw [← hl, ← hd]; simp; omega
    simp only [srcCells, if_true, rowOf_obj, hg, rowObj]
    rw [if_pos (by omega), hd, List.take_of_length_le (by omega)]
theorem OwnSl.bytes {h : VH} {v : Value} {bs : List UInt8} (hs : OwnSl h 1 v (u8s bs) bs.length) : IsBytes h v bs := by
  rcases hs with ⟨rfl, h1, _⟩ | ⟨i, o, c, ds, hi, hc, rfl, hg, hd, hl, ho⟩
  · exact .inl ⟨rfl, by cases bs with | nil => rfl | cons _ _ => simp [u8s] at h1⟩
  · have : ds.length = o + bs.length := by
      have := congrArg List.length hd
      simp at this
      omega
    exact .inr ⟨i, o, c, ds, true, ⟨hi, hc⟩, rfl, hg, by omega, by rw [hd, List.take_of_length_le (by simp)]⟩

/-- append: what comes of it. -/
theorem OwnSl.append {h : VH} {e bytes : Nat} {v : Value} {cs : List Value} {n : Nat} (hs : OwnSl h e v cs n) {ys : List Value} {k : Nat} (hy : ys.length = k * e) (hb : (n + k) * bytes ≤ 140737488355328) :
    ∃ v' h', appendV h e bytes v ys k = some (v', h') ∧ OwnSl h' e v' (cs ++ ys) (n + k) ∧ Fr h h' (idOf v) ∧ ∀ i ∈ idOf v', i ∈ idOf v ∨ h.n ≤ i := by
  by_cases hk : k = 0
  · subst hk
    obtain rfl : ys = [] := List.eq_nil_of_length_eq_zero (by simpa using hy)
    obtain ⟨a, c, rfl⟩ := hs.shape
    exact ⟨_, h, by simp [appendV], by simpa using hs, Fr.refl _ _, fun i hi => .inl hi⟩
  · rcases hs with ⟨rfl, rfl, rfl⟩ | ⟨i, o, c, ds, hi, hc, rfl, hg, hd, hl, ho⟩
    · refine ⟨_, _, appendV_new hk (by simpa using hb), ?_, Fr.push _ _ _, fun i hi => ?_⟩
      · exact .inr ⟨h.n, 0, k, ys, by simp, by omega, by simp, VH.get_push_new _ _, by simp, by simpa using hy, Nat.zero_le _⟩
      · simp [idOf] at hi; subst hi; exact .inr (Nat.le_refl _)
    · have hdl : ds.length = o + n * e := by rw [← hl, ← hd]; simp; omega
      refine ⟨_, _, appendV_end hk hg hdl.symm hb, ?_, ?_, fun j hj => ?_⟩
      · refine .inr ⟨h.n, 0, n + k, ds.drop o ++ ys, by simp, Nat.le_refl _, rfl, VH.get_push_new (h.set i .dead) _, by simp [hd], ?_, Nat.zero_le _⟩
        simp only [List.length_append, hl, hy]
        rw [Nat.add_mul]
      · exact (Fr.set h .dead (X := [i]) (List.mem_singleton.2 rfl)).trans (Fr.push _ _ _)
      · simp [idOf] at hj; subst hj; exact .inr (Nat.le_refl _)
/-- n elements, of e cells each, somewhere in an owned row that is theirs alone. -/
def OwnP (h : VH) (e : Nat) (v : Value) (cs : List Value) (n : Nat) : Prop :=
  (v = .slice none 0 0 ∧ cs = [] ∧ n = 0) ∨ ∃ i o c ds, i < h.n ∧ n ≤ c ∧ v = .slice (some ⟨i, o, none⟩) n c ∧ h.get i = .cells ds true e ∧ (ds.drop o).take (n * e) = cs ∧ o + n * e ≤ ds.length
theorem OwnP.nil (h : VH) (e : Nat) : OwnP h e (.slice none 0 0) [] 0 := .inl ⟨rfl, rfl, rfl⟩
theorem OwnSl.p {h : VH} {e : Nat} {v : Value} {cs : List Value} {n : Nat} (hs : OwnSl h e v cs n) : OwnP h e v cs n := by
  rcases hs with hs | ⟨i, o, c, ds, h1, h2, h3, h4, h5, h6, h7⟩
  · exact .inl hs
  · have : ds.length = o + n * e := by rw [← h6, ← h5]; simp; omega
    exact .inr ⟨i, o, c, ds, h1, h2, h3, h4, by rw [h5, List.take_of_length_le (by omega)], by omega⟩
theorem OwnP.len {h : VH} {e : Nat} {v : Value} {cs : List Value} {n : Nat} (hs : OwnP h e v cs n) : cs.length = n * e := by
  rcases hs with ⟨_, rfl, rfl⟩ | ⟨_, _, _, _, _, _, _, _, h5, h6⟩
  · simp
  · rw [← h5]; simp; omega
theorem OwnP.shape {h : VH} {e : Nat} {v : Value} {cs : List Value} {n : Nat} (hs : OwnP h e v cs n) : ∃ a c, v = .slice a n c := by
  rcases hs with ⟨rfl, _, rfl⟩ | ⟨_, _, _, _, _, _, rfl, _⟩
  · exact ⟨_, _, rfl⟩
  · exact ⟨_, _, rfl⟩
theorem OwnP.lt {h : VH} {e : Nat} {v : Value} {cs : List Value} {n : Nat} (hs : OwnP h e v cs n) : ∀ i ∈ idOf v, i < h.n := by
  rcases hs with ⟨rfl, _, _⟩ | ⟨i, _, _, _, hi, _, rfl, _⟩
  · intro i hi; simp [idOf] at hi
  · intro j hj; simp [idOf] at hj; subst hj; exact hi
theorem OwnP.congr {h h' : VH} {e : Nat} {v : Value} {cs : List Value} {n : Nat} (hs : OwnP h e v cs n) (hn : h.n ≤ h'.n) (hg : ∀ i ∈ idOf v, h'.get i = h.get i) : OwnP h' e v cs n := by
  rcases hs with hs | ⟨i, o, c, ds, hi, hc, rfl, hgi, hr⟩
  · exact .inl hs
  · exact .inr ⟨i, o, c, ds, Nat.lt_of_lt_of_le hi hn, hc, rfl, by rw [hg i (by simp [idOf])]; exact hgi, hr⟩
theorem OwnP.fr {h h' : VH} {X : List Nat} (hf : Fr h h' X) {e : Nat} {v : Value} {cs : List Value} {n : Nat} (hs : OwnP h e v cs n) (hx : ∀ i ∈ idOf v, i ∉ X) : OwnP h' e v cs n :=
  hs.congr hf.n fun i hi => hf.get i (hs.lt i hi) (hx i hi)
theorem OwnP.src {h : VH} {e : Nat} {v : Value} {cs : List Value} {n : Nat} (hs : OwnP h e v cs n) : srcCells h e v = some cs := by
  rcases hs with ⟨rfl, rfl, _⟩ | ⟨i, o, c, ds, hi, hc, rfl, hg, hd, ho⟩
  · rfl
  · simp only [srcCells, if_true, rowOf_obj, hg, rowObj]
    rw [if_pos ho, hd]
theorem OwnP.bytes {h : VH} {v : Value} {bs : List UInt8} (hs : OwnP h 1 v (u8s bs) bs.length) : IsBytes h v bs := by
  rcases hs with ⟨rfl, h1, _⟩ | ⟨i, o, c, ds, hi, hc, rfl, hg, hd, ho⟩
  · exact .inl ⟨rfl, by cases bs with | nil => rfl | cons _ _ => simp [u8s] at h1⟩
  · exact .inr ⟨i, o, c, ds, true, ⟨hi, hc⟩, rfl, hg, by omega, by rw [← hd, Nat.mul_one]⟩
theorem OwnP.append {h : VH} {e bytes : Nat} {v : Value} {cs : List Value} {n : Nat} (hs : OwnP h e v cs n) {ys : List Value} {k : Nat} (hy : ys.length = k * e) (hb : (n + k) * bytes ≤ 140737488355328) :
    ∃ v' h', appendV h e bytes v ys k = some (v', h') ∧ OwnP h' e v' (cs ++ ys) (n + k) ∧ Fr h h' (idOf v) ∧ ∀ i ∈ idOf v', i ∈ idOf v ∨ h.n ≤ i := by
  by_cases hk : k = 0
  · subst hk
    obtain rfl : ys = [] := List.eq_nil_of_length_eq_zero (by simpa using hy)
    obtain ⟨a, c, rfl⟩ := hs.shape
    exact ⟨_, h, by simp [appendV], by simpa using hs, Fr.refl _ _, fun i hi => .inl hi⟩
  · rcases hs with ⟨rfl, rfl, rfl⟩ | ⟨i, o, c, ds, hi, hc, rfl, hg, hd, ho⟩
    · refine ⟨_, _, appendV_new hk (by simpa using hb), ?_, Fr.push _ _ _, fun i hi => ?_⟩
      · exact .inr ⟨h.n, 0, k, ys, by simp, by omega, by simp, VH.get_push_new _ _, by rw [Nat.zero_add, List.drop_zero, List.nil_append, List.take_of_length_le (Nat.le_of_eq hy)], by rw [Nat.zero_add, Nat.zero_add]; exact Nat.le_of_eq hy.symm⟩
      · simp [idOf] at hi; subst hi; exact .inr (Nat.le_refl _)
    · have hcl : cs.length = n * e := by rw [← hd]; simp; omega
      have fin : ∀ (zs : List Value), zs = cs ++ ys → OwnP ((h.set i .dead).push (.cells zs true e)) e (.slice (some ⟨h.n, 0, none⟩) (n + k) (n + k)) (cs ++ ys) (n + k) ∧ Fr h ((h.set i .dead).push (.cells zs true e)) (idOf (.slice (some ⟨i, o, none⟩) n c)) ∧
          ∀ j ∈ idOf (.slice (some ⟨h.n, 0, none⟩) (n + k) (n + k)), j ∈ idOf (.slice (some ⟨i, o, none⟩) n c) ∨ h.n ≤ j := by
        intro zs hz
        subst hz
        have hl : (cs ++ ys).length = (n + k) * e := by simp only [List.length_append, hcl, hy]; rw [Nat.add_mul]
        refine ⟨.inr ⟨h.n, 0, n + k, cs ++ ys, by simp, Nat.le_refl _, rfl, VH.get_push_new (h.set i .dead) _, ?_, by omega⟩, ?_, fun j hj => ?_⟩
        · rw [List.drop_zero, List.take_of_length_le (by omega)]
        · exact (Fr.set h .dead (X := [i]) (List.mem_singleton.2 rfl)).trans (Fr.push _ _ _)
        · simp [idOf] at hj; subst hj; exact .inr (Nat.le_refl _)
      by_cases ht : o + n * e = ds.length
      · refine ⟨_, _, appendV_end hk hg ht hb, fin _ ?_⟩
        rw [← hd, List.take_of_length_le (by simp; omega)]
      · by_cases hr : n + k ≤ c ∧ o + n * e + ys.length ≤ ds.length
        · refine ⟨_, _, appendV_room hk hg ht hr.1 hr.2, ?_, Fr.set _ _ (by simp [idOf]), fun j hj => .inl (by simpa [idOf] using hj)⟩
          have hwl : (wr ds (o + n * e) ys).length = ds.length := by unfold wr; simp; omega
          refine .inr ⟨i, o, c, wr ds (o + n * e) ys, hi, hr.1, rfl, VH.get_set_same .., ?_, by rw [hwl, Nat.add_mul]; omega⟩
          apply List.ext_getElem?
          intro j
          rw [List.getElem?_take, List.getElem?_drop]
          have hdj : ∀ j, cs[j]? = if j < n * e then ds[o + j]? else none := fun j => by rw [← hd, List.getElem?_take, List.getElem?_drop]
          have hne : (n + k) * e = n * e + k * e := Nat.add_mul ..
          rw [List.getElem?_append, hcl]
          unfold wr
          by_cases h1 : j < n * e
          · rw [if_pos (by omega), if_pos h1, hdj, if_pos h1, List.append_assoc, List.getElem?_append_left (by simp; omega), List.getElem?_take, if_pos (by omega)]
          · rw [if_neg h1]
            by_cases h2 : j < (n + k) * e
            · rw [if_pos h2, List.append_assoc, List.getElem?_append_right (by simp; omega), List.getElem?_append_left (by simp; omega)]
              congr 1
              simp
              omega
            · rw [if_neg h2, List.getElem?_eq_none (by omega)]
        · exact ⟨_, _, appendV_over hk hg ht hr ho hb, fin _ (by rw [hd])⟩
theorem u8s_append (a b : List UInt8) : u8s (a ++ b) = u8s a ++ u8s b := by simp [u8s]
theorem OwnSl.shapeN {h : VH} {e : Nat} {v : Value} {cs : List Value} {n : Nat} (hs : OwnSl h e v cs n) : ∃ a c, v = .slice a n c := by
  rcases hs with ⟨rfl, _, rfl⟩ | ⟨_, _, _, _, _, _, rfl, _⟩
  · exact ⟨_, _, rfl⟩
  · exact ⟨_, _, rfl⟩
/-- bytes l gathered in an owned row that was laid behind h0, of which nothing has turned. -/
structure Buf (h0 g : VH) (w : Value) (l : List UInt8) : Prop where
  own : OwnSl g 1 w (u8s l) l.length
  fr : Fr h0 g []
  ids : ∀ i ∈ idOf w, h0.n ≤ i
theorem Buf.nil (h : VH) : Buf h h (.slice none 0 0) [] := ⟨OwnSl.nil _ _, Fr.refl _ _, fun i hi => by simp [idOf] at hi⟩
theorem Buf.shape {h0 g : VH} {w : Value} {l : List UInt8} (hb : Buf h0 g w l) : ∃ a c, w = .slice a l.length c := hb.own.shapeN
theorem Buf.is {h0 g : VH} {w : Value} {l : List UInt8} (hb : Buf h0 g w l) : IsBytes g w l := hb.own.bytes
theorem Buf.old {h0 g : VH} {w : Value} {l : List UInt8} (hb : Buf h0 g w l) {j : Nat} (hj : j < h0.n) : g.get j = h0.get j := hb.fr.get j hj (by simp)
theorem Buf.step {h0 g g' : VH} {w : Value} {l : List UInt8} (hb : Buf h0 g w l) (hf : Fr g g' []) : Buf h0 g' w l :=
  ⟨hb.own.fr hf (fun i _ => by simp), hb.fr.trans hf, hb.ids⟩
theorem Buf.append {h0 g : VH} {w : Value} {l : List UInt8} (hb : Buf h0 g w l) (ys : List UInt8) (hl : l.length + ys.length ≤ 140737488355328) :
    ∃ w' g', appendV g 1 1 w (u8s ys) ys.length = some (w', g') ∧ Buf h0 g' w' (l ++ ys) := by
  obtain ⟨w', g', hap, ho, hf, hid⟩ := hb.own.append (bytes := 1) (ys := u8s ys) (k := ys.length) (by simp) (by omega)
  refine ⟨w', g', hap, ⟨by rw [u8s_append, List.length_append]; exact ho, hb.fr.trans' hf (fun y hy => .inr (hb.ids y hy)), fun i hi => ?_⟩⟩
  rcases hid i hi with h1 | h1
  · exact hb.ids i h1
  · exact Nat.le_trans hb.fr.n h1
theorem Buf.byte {h0 g : VH} {w : Value} {l : List UInt8} (hb : Buf h0 g w l) (b : UInt8) (hl : l.length < 140737488355328) :
    ∃ w' g', appendV (g.push (.cells [.int .u8 b.toNat] true 1)) 1 1 w [.int .u8 b.toNat] 1 = some (w', g') ∧ Buf h0 g' w' (l ++ [b]) :=
  (hb.step (Fr.push g _ [])).append [b] (by simp; omega)
theorem fillC_whole {z : List Value} {n : Nat} {v : Value} (h1 : (cellsL v).length = n) (h2 : z.length = n) : fillC z [(0, n, v)] = some (cellsL v) := by
  simp only [fillC]
  rw [if_pos ⟨h1, by omega⟩, wr_all (by omega)]
end Go.Proofs.Ytdnkpgbggpbgaaa.Pm
