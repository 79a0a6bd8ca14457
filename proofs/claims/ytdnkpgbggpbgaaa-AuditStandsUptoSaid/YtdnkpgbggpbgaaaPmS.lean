/- The pure machine, part S: arguments of any shape (numbers, bools, strings, slices, structs, arrays) read into the pure heap; the law's frame. -/
import Derived.Test.YtdnkpgbggpbgaaaPmZ
import Derived.Test.YtdnkpgbggpbgaaaRows
import Derived.ChangeArms
import Derived.ChangeOld
import Derived.OpenShut
import Derived.Carry
import Derived.WalkKit
import Derived.ProofKit
import Derived.Below
import Derived.JoinedCond
set_option linter.unusedVariables false
set_option linter.unusedSimpArgs false
namespace Go.Proofs.Ytdnkpgbggpbgaaa.Pm
open Go.RowKit Go.WideShapes Go.ChangeShapes

inductive Ty where
  | bool
  | int (k : IntKind)
  | str
  | sl (sz : Nat) (e : Ty)
  | nil
  | cons (sz : Nat) (a r : Ty)
  | arr (n sz : Nat) (e : Ty)
def tyFs (P : Program) (F : TypeId → Option Ty) (N : Nat) : Nat → List Field → Option Ty
  | o, [] => if o = N then some .nil else none
  | o, f :: fs => if f.offset = o then (F f.type).bind fun a => (tyFs P F N (o + P.cellsOf f.type) fs).map (.cons (P.cellsOf f.type) a ·) else none
def tyOf (P : Program) : Nat → TypeId → Option Ty
  | 0, _ => none
  | d + 1, t => match P.underlying t with
    | some .bool => some .bool
    | some (.int k) => some (.int k)
    | some .string => some .str
    | some (.slice e) => if 0 < P.cellsOf e then (tyOf P d e).map (.sl (P.cellsOf e)) else none
    | some (.struct fs) => tyFs P (tyOf P d) (P.cellsOf t) 0 fs.toList
    | some (.array n e) => if n * P.cellsOf e = P.cellsOf t then (tyOf P d e).map (.arr n (P.cellsOf e)) else none
    | _ => none
/-- cells vs are of the shape T; what is behind them lies in h; their bulk is k at least. -/
def Sh (h : VH) : Ty → List Value → Nat → Prop
  | .bool, vs, k => ∃ b, vs = [.bool b] ∧ k = 1
  | .int i, vs, k => ∃ n, vs = [.int i n] ∧ (Lit.int i n).wf = true ∧ k = 1
  | .str, vs, k => ∃ s : ByteArray, vs = [.string s] ∧ s.size ≤ maxLen ∧ k = s.size + 1
  | .sl sz e, vs, k => (vs = [.slice none 0 0] ∧ k = 1) ∨ ∃ (i n c : Nat) (cs : List Value) (ow : Bool) (es : List (List Value × Nat)), vs = [.slice (some ⟨i, 0, none⟩) n c] ∧ n ≤ c ∧ i < h.n ∧
      h.get i = .cells cs ow sz ∧ es.length = c ∧ cs = (es.map (·.1)).flatten ∧ (∀ x ∈ es, x.1.length = sz ∧ Sh h e x.1 x.2) ∧ k = (es.map (·.2)).sum + 1
  | .nil, vs, k => vs = [] ∧ k = 0
  | .cons sz a r, vs, k => ∃ v1 v2 k1 k2, vs = v1 ++ v2 ∧ v1.length = sz ∧ Sh h a v1 k1 ∧ Sh h r v2 k2 ∧ k = k1 + k2
  | .arr n sz e, vs, k => ∃ es : List (List Value × Nat), es.length = n ∧ vs = (es.map (·.1)).flatten ∧ (∀ x ∈ es, x.1.length = sz ∧ Sh h e x.1 x.2) ∧ k = (es.map (·.2)).sum
theorem Sh.mono {h h' : VH} (hl : h.le h') : ∀ (T : Ty) (vs : List Value) (k : Nat), Sh h T vs k → Sh h' T vs k
  | .bool, _, _, H => H
  | .int _, _, _, H => H
  | .str, _, _, H => H
  | .nil, _, _, H => H
  | .sl sz e, vs, k, H => by
    rcases H with H | ⟨i, n, c, cs, ow, es, h1, h2, h3, h4, h5, h6, h7, h8⟩
    · exact .inl H
    · exact .inr ⟨i, n, c, cs, ow, es, h1, h2, Nat.lt_of_lt_of_le h3 hl.n, by rw [hl.get i h3]; exact h4, h5, h6, fun x hx => ⟨(h7 x hx).1, Sh.mono hl e _ _ (h7 x hx).2⟩, h8⟩
  | .cons sz a r, vs, k, H => by
    obtain ⟨v1, v2, k1, k2, h1, h2, h3, h4, h5⟩ := H
    exact ⟨v1, v2, k1, k2, h1, h2, Sh.mono hl a _ _ h3, Sh.mono hl r _ _ h4, h5⟩
  | .arr n sz e, vs, k, H => by
    obtain ⟨es, h1, h2, h3, h4⟩ := H
    exact ⟨es, h1, h2, fun x hx => ⟨(h3 x hx).1, Sh.mono hl e _ _ (h3 x hx).2⟩, h4⟩

/-- rows of cells, one like the other. -/
def CL (m : Mp) : List Value → List Value → Prop
  | [], [] => True
  | a :: xs, b :: ys => CR m a b ∧ CL m xs ys
  | _, _ => False
theorem CL.mono {m m' : Mp} (hm : m.le m') : ∀ {xs ys : List Value}, CL m xs ys → CL m' xs ys
  | [], [], _ => trivial
  | _ :: _, _ :: _, h => ⟨h.1.mono hm, h.2.mono hm⟩
  | [], _ :: _, h => h.elim
  | _ :: _, [], h => h.elim
theorem CL.length {m : Mp} : ∀ {xs ys : List Value}, CL m xs ys → xs.length = ys.length
  | [], [], _ => rfl
  | _ :: _, _ :: _, h => by simp [h.2.length]
  | [], _ :: _, h => h.elim
  | _ :: _, [], h => h.elim
theorem CL.append {m : Mp} : ∀ {xs ys cs ds : List Value}, CL m xs ys → CL m cs ds → CL m (xs ++ cs) (ys ++ ds)
  | [], [], _, _, _, h => h
  | _ :: _, _ :: _, _, _, h, k => ⟨h.1, h.2.append k⟩
  | [], _ :: _, _, _, h, _ => h.elim
  | _ :: _, [], _, _, h, _ => h.elim
theorem CL.at_ {m : Mp} : ∀ {xs ys : List Value}, CL m xs ys → ∀ {j : Nat} {v : Value}, xs[j]? = some v → ∃ v', ys[j]? = some v' ∧ CR m v v'
  | [], _, _, j, v, hj => by simp at hj
  | a :: xs, b :: ys, h, 0, v, hj => ⟨b, rfl, by simp at hj; subst hj; exact h.1⟩
  | a :: xs, b :: ys, h, j + 1, v, hj => by
    obtain ⟨v', h1, h2⟩ := h.2.at_ (j := j) (v := v) (by simpa using hj)
    exact ⟨v', by simpa using h1, h2⟩
  | _ :: _, [], h, _, _, _ => h.elim
theorem CL.vrl {m : Mp} {xs ys : List Value} (h : CL m xs ys) : VRL m xs ys := ⟨h.length, fun j x y hx hy => by
  obtain ⟨v', h1, h2⟩ := h.at_ hx
  rw [hy] at h1
  injection h1 with h1
  subst h1
  exact h2.1⟩

theorem mapM_at {α β : Type} {f : α → Option β} : ∀ {l : List α} {r : List β}, l.mapM f = some r → r.length = l.length ∧ ∀ (i : Nat) (a : α), l[i]? = some a → f a = r[i]?
  | [], r, h => by
    simp at h
    subst h
    exact ⟨rfl, fun i a h => by simp at h⟩
  | x :: l, r, h => by
    rw [List.mapM_cons] at h
    simp only [Option.bind_eq_bind, Option.bind_eq_some_iff, Option.pure_def, Option.some.injEq] at h
    obtain ⟨y, hy, ys, hys, rfl⟩ := h
    obtain ⟨h1, h2⟩ := mapM_at hys
    refine ⟨by simp [h1], fun i a ha => ?_⟩
    cases i with
    | zero => simp at ha; subst ha; simpa using hy
    | succ i => simp at ha; simpa using h2 i a ha
theorem cells_at {w : World} {a : Addr} {n : Nat} {l : List Value} (h : w.cells? 0 a n = some l) : l.length = n ∧ ∀ i, i < n → w.cell? (a.add i) = l[i]? := by
  unfold World.cells? at h
  rw [if_pos (Nat.zero_le _)] at h
  obtain ⟨h1, h2⟩ := mapM_at h
  refine ⟨by simpa using h1, fun i hi => h2 i i (by simp [hi])⟩
theorem spot_of {w : World} {x : Addr} {v : Value} (h : w.cell? (x.add 0) = some v) : x.spot = none ∧ x.block < w.heap.size := by
  rw [show x.add 0 = x from by simp [Addr.add]] at h
  unfold World.cell? at h
  split at h
  · rename_i c e f hb
    split at h
    · cases h
    · rename_i hs
      exact ⟨by simpa using hs, (Array.getElem?_eq_some_iff.1 hb).1⟩
  · cases h
theorem flatten_at {sz : Nat} : ∀ {l : List (List Value)}, (∀ x ∈ l, x.length = sz) → ∀ {i r : Nat} (hi : i < l.length), r < sz → l.flatten[i * sz + r]? = (l[i])[r]?
  | [], _, i, _, hi, _ => by simp at hi
  | x :: l, h, 0, r, _, hr => by
    have := h x (List.mem_cons_self ..)
    simp [List.getElem?_append_left (show r < x.length by omega)]
  | x :: l, h, i + 1, r, hi, hr => by
    have h1 := h x (List.mem_cons_self ..)
    have := flatten_at (l := l) (fun y hy => h y (List.mem_cons_of_mem _ hy)) (i := i) (r := r) (by simpa using hi) hr
    have e : (i + 1) * sz + r = x.length + (i * sz + r) := by rw [Nat.succ_mul]; omega
    rw [List.flatten_cons, e, List.getElem?_append_right (by omega)]
    simpa using this
theorem flatten_len {sz : Nat} : ∀ {l : List (List Value)}, (∀ x ∈ l, x.length = sz) → l.flatten.length = l.length * sz
  | [], _ => by simp
  | x :: l, h => by
    have h1 := h x (List.mem_cons_self ..)
    have := flatten_len (l := l) (fun y hy => h y (List.mem_cons_of_mem _ hy))
    simp only [List.flatten_cons, List.length_append, List.length_cons, this, h1, Nat.succ_mul]
    omega

section
variable {H : Type} {enc : TypeId × Value → H} {P : Program} {w : World} {held : Bool}

theorem bulk_app : ∀ (a b : List (DataW H)), Rows.uptoBulkAll (a ++ b) = Rows.uptoBulkAll a + Rows.uptoBulkAll b
  | [], b => by simp [Rows.uptoBulkAll]
  | x :: a, b => by simp [Rows.uptoBulkAll, bulk_app a b]; omega

/-- what one cell row is read as. -/
def RdOK (enc : TypeId × Value → H) (P : Program) (w : World) (held : Bool) (t : TypeId) (T : Ty) : Prop :=
  ∀ (fuel : Nat) (cs : List Value) (x : DataW H × List MemPlace), DataW.trod enc P w 0 (fun _ => true) held fuel t cs = some x →
    ∀ (m : Mp) (h : VH), In0 w m h → ∃ m' h' vs k, m.le m' ∧ In0 w m' h' ∧ h.le h' ∧ CL m' vs cs ∧ Sh h' T vs k ∧ k ≤ Rows.uptoBulk x.1

theorem rd_list {e : TypeId} {T : Ty} {sz n : Nat} (he : RdOK enc P w held e T) : ∀ (l : List (List Value × (DataW H × List MemPlace))), (∀ p ∈ l, DataW.trod enc P w 0 (fun _ => true) held n e p.1 = some p.2 ∧ p.1.length = sz) →
    ∀ (m : Mp) (h : VH), In0 w m h → ∃ (m' : Mp) (h' : VH) (es : List (List Value × Nat)), m.le m' ∧ In0 w m' h' ∧ h.le h' ∧ es.length = l.length ∧ CL m' (es.map (·.1)).flatten (l.map (·.1)).flatten ∧
      (∀ x ∈ es, x.1.length = sz ∧ Sh h' T x.1 x.2) ∧ (es.map (·.2)).sum ≤ Rows.uptoBulkAll (l.map (·.2.1))
  | [], _, m, h, S => ⟨m, h, [], m.le_refl, S, h.le_refl, rfl, trivial, fun x hx => by simp at hx, by simp⟩
  | p :: l, hp, m, h, S => by
    obtain ⟨h0, h0l⟩ := hp p (List.mem_cons_self ..)
    obtain ⟨m1, h1, vs, k, a1, a2, a3, a4, a5, a6⟩ := he _ _ _ h0 m h S
    obtain ⟨m2, h2, es, b1, b2, b3, b4, b5, b6, b7⟩ := rd_list he l (fun q hq => hp q (List.mem_cons_of_mem _ hq)) m1 h1 a2
    refine ⟨m2, h2, (vs, k) :: es, Mp.le_trans a1 b1, b2, VH.le_trans a3 b3, by simp [b4], ?_, ?_, ?_⟩
    · simp only [List.map_cons, List.flatten_cons]
      exact (a4.mono b1).append b5
    · intro x hx
      rcases List.mem_cons.1 hx with rfl | hx
      · exact ⟨a4.length.trans h0l, a5.mono b3⟩
      · exact b6 x hx
    · simp only [List.map_cons, List.sum_cons, Rows.uptoBulkAll]
      omega

theorem tyFs_le {F : TypeId → Option Ty} {N : Nat} : ∀ {fs : List Field} {o : Nat} {T : Ty}, tyFs P F N o fs = some T → o ≤ N
  | [], o, T, h => by
    simp only [tyFs] at h
    split at h
    · omega
    · cases h
  | f :: fs, o, T, h => by
    simp only [tyFs] at h
    split at h
    · simp only [Option.bind_eq_some_iff, Option.map_eq_some_iff] at h
      obtain ⟨a, _, b, hb, _⟩ := h
      have := tyFs_le hb
      omega
    · cases h
theorem rd_fields {F : TypeId → Option Ty} (hF : ∀ t T, F t = some T → RdOK enc P w held t T) {N n : Nat} {cs : List Value} (hN : cs.length = N) : ∀ {fs : List Field} {o : Nat} {T : Ty}, tyFs P F N o fs = some T →
    ∀ (xs : List (DataW H × List MemPlace)), xs.length = fs.length → (∀ (i : Nat) (f : Field), fs[i]? = some f → DataW.trod enc P w 0 (fun _ => true) held n f.type ((cs.drop f.offset).take (P.cellsOf f.type)) = xs[i]?) →
    ∀ (m : Mp) (h : VH), In0 w m h → ∃ m' h' vs k, m.le m' ∧ In0 w m' h' ∧ h.le h' ∧ CL m' vs (cs.drop o) ∧ Sh h' T vs k ∧ k ≤ Rows.uptoBulkAll (xs.map (·.1))
  | [], o, T, hT, xs, hx, _, m, h, S => by
    simp only [tyFs] at hT
    split at hT
    · injection hT with hT
      subst hT
      refine ⟨m, h, [], 0, m.le_refl, S, h.le_refl, ?_, ⟨rfl, rfl⟩, Nat.zero_le _⟩
      rw [List.drop_of_length_le (by omega)]
      trivial
    · cases hT
  | f :: fs, o, T, hT, xs, hx, hr, m, h, S => by
    have hT0 := hT
    simp only [tyFs] at hT
    split at hT
    · rename_i ho
      simp only [Option.bind_eq_some_iff, Option.map_eq_some_iff] at hT
      obtain ⟨a, ha, b, hb, rfl⟩ := hT
      have hle := tyFs_le hb
      cases xs with
      | nil => simp at hx
      | cons x xs =>
        have h0 := hr 0 f rfl
        simp only [List.getElem?_cons_zero] at h0
        obtain ⟨m1, h1, v1, k1, a1, a2, a3, a4, a5, a6⟩ := hF _ _ ha _ _ _ h0 m h S
        obtain ⟨m2, h2, v2, k2, b1, b2, b3, b4, b5, b6⟩ := rd_fields hF hN hb xs (by simpa using hx) (fun i g hg => by simpa using hr (i + 1) g (by simpa using hg)) m1 h1 a2
        have hl := a4.length
        rw [ho] at a4 hl
        refine ⟨m2, h2, v1 ++ v2, k1 + k2, Mp.le_trans a1 b1, b2, VH.le_trans a3 b3, ?_, ⟨v1, v2, k1, k2, rfl, ?_, a5.mono b3, b5, rfl⟩, ?_⟩
        · have e : cs.drop o = (cs.drop o).take (P.cellsOf f.type) ++ cs.drop (o + P.cellsOf f.type) := by
            rw [← List.drop_drop, List.take_append_drop]
          rw [e]
          exact (a4.mono b1).append b4
        · rw [hl]; simp; omega
        · simp only [List.map_cons, Rows.uptoBulkAll]
          omega
    · cases hT
theorem chunks {cs : List Value} {sz : Nat} : ∀ n : Nat, ((List.range n).map fun i => (cs.drop (i * sz)).take sz).flatten = cs.take (n * sz)
  | 0 => by simp
  | n + 1 => by
    rw [List.range_succ, List.map_append, List.flatten_append, chunks n, Nat.succ_mul, List.take_add]
    simp
theorem add_add {a : Addr} (hs : a.spot = none) (x y : Nat) : (a.add x).add y = ⟨a.block, a.off + (x + y), none⟩ := by
  cases a
  simp only at hs
  subst hs
  simp only [Addr.add]
  split <;> split <;> simp_all
  omega

theorem rd_ok : ∀ (d : Nat) (t : TypeId) (T : Ty), tyOf P d t = some T → RdOK enc P w held t T
  | 0, _, _, h => by cases h
  | d + 1, t, T, hT => by
    intro fuel cs x hx m h S
    unfold tyOf at hT
    split at hT
    · rename_i hu
      injection hT with hT; subst hT
      obtain ⟨b, rfl, rfl⟩ := DataW.trod_bool hu hx
      exact ⟨m, h, [.bool b], 1, m.le_refl, S, h.le_refl, ⟨⟨.bool b, rfl⟩, trivial⟩, ⟨b, rfl, rfl⟩, by simp [Rows.uptoBulk]⟩
    · rename_i k hu
      injection hT with hT; subst hT
      obtain ⟨n, rfl, rfl, hw⟩ := DataW.trod_int hu hx
      exact ⟨m, h, [.int k n], 1, m.le_refl, S, h.le_refl, ⟨⟨.int k n, rfl⟩, trivial⟩, ⟨n, rfl, hw, rfl⟩, by simp [Rows.uptoBulk]⟩
    · rename_i hu
      injection hT with hT; subst hT
      obtain ⟨s, rfl, rfl, hw⟩ := DataW.trod_string hu hx
      exact ⟨m, h, [.string s], s.size + 1, m.le_refl, S, h.le_refl, ⟨⟨.string s, rfl⟩, trivial⟩, ⟨s, rfl, hw, rfl⟩, by simp only [Rows.uptoBulk, Array.length_toList]; exact Nat.le_refl _⟩
    · rename_i e hu
      split at hT
      · rename_i hpos
        simp only [Option.map_eq_some_iff] at hT
        obtain ⟨T, hT, rfl⟩ := hT
        rcases DataW.trod_slice hu hx with ⟨rfl, rfl⟩ | ⟨a, len, cap, elems, rest, n, rfl, rfl, rfl, hb, hlc, hcm, hlen, hel, hsp, _⟩
        · exact ⟨m, h, [.slice none 0 0], 1, m.le_refl, S, h.le_refl, ⟨⟨.sl0, rfl⟩, trivial⟩, .inl ⟨rfl, rfl⟩, by simp [Rows.uptoBulk]⟩
        · obtain ⟨hrl, hrest⟩ := hsp rfl
          obtain ⟨sz, hsz⟩ : ∃ sz, sz = P.cellsOf e := ⟨_, rfl⟩
          rw [← hsz] at hel hrest hpos ⊢
          have hall : ∀ i, i < cap → (w.cells? 0 (a.add (i * sz)) sz).bind (DataW.trod enc P w 0 (fun _ => true) held n e) = (elems ++ rest)[i]? := by
            intro i hi
            by_cases h1 : i < len
            · rw [hel i h1, List.getElem?_append_left (by omega)]
            · have := hrest (i - len) (by omega)
              rw [show len + (i - len) = i by omega] at this
              rw [this, List.getElem?_append_right (by omega), hlen]
          obtain ⟨l, hl⟩ : ∃ l, l = (elems ++ rest).mapIdx fun i y => ((w.cells? 0 (a.add (i * sz)) sz).getD [], y) := ⟨_, rfl⟩
          have hll : l.length = cap := by rw [hl]; simp; omega
          have hl2 : l.map (·.2.1) = elems.map (·.1) ++ rest.map (·.1) := by
            rw [hl, ← List.map_append]
            apply List.ext_getElem?
            intro i
            simp only [List.getElem?_map, List.getElem?_mapIdx, Option.map_map]
            rfl
          have hat : ∀ i (hi : i < l.length), w.cells? 0 (a.add (i * sz)) sz = some l[i].1 ∧ DataW.trod enc P w 0 (fun _ => true) held n e l[i].1 = some l[i].2 := by
            intro i hi
            have h1 := hall i (by omega)
            have hi2 : i < (elems ++ rest).length := by rw [hl] at hi; simpa using hi
            rw [List.getElem?_eq_getElem hi2] at h1
            simp only [Option.bind_eq_some_iff] at h1
            obtain ⟨c, hc, hc2⟩ := h1
            subst hl
            simp only [List.getElem_mapIdx, hc, Option.getD_some]
            exact ⟨trivial, hc2⟩
          have hmem : ∀ p ∈ l, DataW.trod enc P w 0 (fun _ => true) held n e p.1 = some p.2 ∧ p.1.length = sz := by
            intro p hp
            obtain ⟨i, hi, rfl⟩ := List.getElem_of_mem hp
            exact ⟨(hat i hi).2, (cells_at (hat i hi).1).1⟩
          obtain ⟨m1, h1, es, a1, a2, a3, a4, a5, a6, a7⟩ := rd_list (rd_ok d e T hT) l hmem m h S
          have hfl : (es.map (·.1)).flatten.length = cap * sz := by
            rw [flatten_len (sz := sz) (fun x hx => by
              obtain ⟨y, hy, rfl⟩ := List.mem_map.1 hx
              exact (a6 y hy).1)]
            simp [a4, hll]
          have hsp0 : 0 < cap → a.spot = none ∧ a.block < w.heap.size := by
            intro hc
            have h0 := hat 0 (by omega)
            have h2 := (cells_at h0.1).2 0 hpos
            have h3 := (cells_at h0.1).1
            rw [List.getElem?_eq_getElem (by omega)] at h2
            rw [show a.add (0 * sz) = a from by simp [Addr.add]] at h2
            exact spot_of h2
          have hn1 := a2.sim.n
          have ho : ORel (m1.push ⟨a.block, a.off, cap * sz, sz⟩) ⟨a.block, a.off, cap * sz, sz⟩ w (.cells (es.map (·.1)).flatten false sz) := by
            refine ⟨rfl, by rw [hfl]; exact Nat.le_refl _, fun hne => ?_, fun j v hj => ?_, fun hf => by cases hf⟩
            · refine (hsp0 ?_).2
              rcases Nat.eq_zero_or_pos cap with h0 | h0
              · rw [h0, Nat.zero_mul] at hfl
                rw [List.eq_nil_of_length_eq_zero hfl] at hne
                simp at hne
              · exact h0
            · have hjl : j < cap * sz := by rw [← hfl]; exact (List.getElem?_eq_some_iff.1 hj).1
              obtain ⟨v', hv', hcr⟩ := a5.at_ hj
              have hcap : 0 < cap := by
                rcases Nat.eq_zero_or_pos cap with h0 | h0
                · rw [h0] at hjl; simp at hjl
                · exact h0
              have hdiv : j / sz < l.length := by rw [hll]; exact (Nat.div_lt_iff_lt_mul hpos).2 hjl
              have hmod : j % sz < sz := Nat.mod_lt _ hpos
              have hj2 : j / sz * sz + j % sz = j := by rw [Nat.mul_comm]; exact Nat.div_add_mod j sz
              have h4 := flatten_at (l := l.map (·.1)) (sz := sz) (fun x hx => by
                obtain ⟨y, hy, rfl⟩ := List.mem_map.1 hx
                exact (hmem y hy).2) (i := j / sz) (r := j % sz) (by simpa using hdiv) hmod
              rw [hj2, hv'] at h4
              have h5 := (cells_at (hat _ hdiv).1).2 _ hmod
              rw [add_add (hsp0 hcap).1, hj2] at h5
              refine ⟨v', ?_, hcr.mono (m1.push_le _)⟩
              rw [h5, h4]
              simp
          have S' := a2.look ho
          refine ⟨_, _, [.slice (some ⟨m1.n, 0, none⟩) len cap], (es.map (·.2)).sum + 1, Mp.le_trans a1 (m1.push_le _), S', VH.le_trans a3 (h1.push_le _), ⟨⟨?_, rfl⟩, trivial⟩, .inr ⟨m1.n, len, cap, _, false, es, rfl, hlc, by simp [hn1], by rw [hn1]; exact VH.get_push_new _ _, by rw [a4, hll], rfl, fun x hx => ⟨(a6 x hx).1, (a6 x hx).2.mono (h1.push_le _)⟩, rfl⟩, ?_⟩
          · by_cases hc : 0 < cap
            · have hs := (hsp0 hc).1
              have e : a = ⟨((m1.push ⟨a.block, a.off, cap * sz, sz⟩).at_ m1.n).blk, ((m1.push ⟨a.block, a.off, cap * sz, sz⟩).at_ m1.n).base + 0, none⟩ := by
                rw [Mp.at_push_new]
                cases a
                simp at hs ⊢
                exact hs
              conv => rhs; rw [e]
              exact .sl (by simp) hlc (Nat.le_refl _) (by rw [Mp.at_push_new]; simp) (by simp only [maxLen] at hcm; omega)
            · obtain rfl : cap = 0 := by omega
              obtain rfl : len = 0 := by omega
              exact .slE a (by simp)
          · rw [hl2, bulk_app] at a7
            simp only [Rows.uptoBulk]
            omega
      · cases hT
    · rename_i fs hu
      obtain ⟨xs, n, rfl, rfl, hlen, hxl, hr⟩ := DataW.trod_struct hu hx
      obtain ⟨m', h', vs, k, a1, a2, a3, a4, a5, a6⟩ := rd_fields (fun t T ht => rd_ok d t T ht) hlen hT xs (by simpa using hxl) (fun i f hf => hr i f (by simpa using hf)) m h S
      exact ⟨m', h', vs, k, a1, a2, a3, by simpa using a4, a5, by simp only [Rows.uptoBulk]; omega⟩
    · rename_i n e hu
      split at hT
      · rename_i hn
        simp only [Option.map_eq_some_iff] at hT
        obtain ⟨T, hT, rfl⟩ := hT
        obtain ⟨xs, q, rfl, rfl, hlen, hxl, hr⟩ := DataW.trod_array hu hx
        obtain ⟨sz, hsz⟩ : ∃ sz, sz = P.cellsOf e := ⟨_, rfl⟩
        rw [← hsz] at hr hn ⊢
        obtain ⟨l, hl⟩ : ∃ l, l = xs.mapIdx fun i y => ((cs.drop (i * sz)).take sz, y) := ⟨_, rfl⟩
        have hll : l.length = n := by rw [hl]; simp; omega
        have hmem : ∀ p ∈ l, DataW.trod enc P w 0 (fun _ => true) held q e p.1 = some p.2 ∧ p.1.length = sz := by
          intro p hp
          obtain ⟨i, hi, rfl⟩ := List.getElem_of_mem hp
          have hi2 : i < n := by omega
          subst hl
          simp only [List.getElem_mapIdx]
          refine ⟨by rw [hr i hi2]; simp, ?_⟩
          have : (i + 1) * sz ≤ n * sz := Nat.mul_le_mul_right _ hi2
          rw [Nat.succ_mul] at this
          simp
          omega
        obtain ⟨m1, h1, es, a1, a2, a3, a4, a5, a6, a7⟩ := rd_list (rd_ok d e T hT) l hmem m h S
        have e1 : (l.map (·.1)).flatten = cs := by
          have : l.map (·.1) = (List.range n).map fun i => (cs.drop (i * sz)).take sz := by
            apply List.ext_getElem?
            intro i
            rw [hl]
            simp only [List.getElem?_map, List.getElem?_mapIdx, Option.map_map, List.getElem?_range]
            by_cases hi : i < n
            · rw [List.getElem?_eq_getElem (by omega), List.getElem?_range hi]; rfl
            · rw [List.getElem?_eq_none (by omega), List.getElem?_eq_none (by simp; omega)]; rfl
          rw [this, chunks, List.take_of_length_le (by omega)]
        have e2 : l.map (·.2.1) = xs.map (·.1) := by
          rw [hl]
          apply List.ext_getElem?
          intro i
          simp only [List.getElem?_map, List.getElem?_mapIdx, Option.map_map]
          rfl
        rw [e1] at a5
        rw [e2] at a7
        exact ⟨m1, h1, _, _, a1, a2, a3, a5, ⟨es, by rw [a4, hll], rfl, a6, rfl⟩, by simp only [Rows.uptoBulk]; omega⟩
      · cases hT
    · cases hT
end

/-- a value of the shape T. -/
def ShV (h : VH) (T : Ty) (v : Value) (k : Nat) : Prop :=
  match T with
  | .nil | .cons .. | .arr .. => ∃ cs, v = .agg cs.toArray ∧ Sh h T cs k
  | _ => Sh h T [v] k
theorem ShV.mono {h h' : VH} (hl : h.le h') {T : Ty} {v : Value} {k : Nat} (H : ShV h T v k) : ShV h' T v k := by
  cases T <;> simp only [ShV] at H ⊢
  all_goals first | exact Sh.mono hl _ _ _ H | (obtain ⟨cs, h1, h2⟩ := H; exact ⟨cs, h1, Sh.mono hl _ _ _ h2⟩)
def ShA (h : VH) : List Ty → List Value → Nat → Prop
  | [], vs, k => vs = [] ∧ k = 0
  | T :: Ts, vs, k => ∃ v r k1 k2, vs = v :: r ∧ ShV h T v k1 ∧ ShA h Ts r k2 ∧ k = k1 + k2
theorem ShA.mono {h h' : VH} (hl : h.le h') : ∀ {Ts : List Ty} {vs : List Value} {k : Nat}, ShA h Ts vs k → ShA h' Ts vs k
  | [], _, _, H => H
  | T :: Ts, vs, k, H => by
    obtain ⟨v, r, k1, k2, h1, h2, h3, h4⟩ := H
    exact ⟨v, r, k1, k2, h1, h2.mono hl, h3.mono hl, h4⟩
section
variable {H : Type} {enc : TypeId × Value → H} {P : Program} {w : World} {held : Bool}
theorem tyFs_agg {F : TypeId → Option Ty} {N o : Nat} {fs : List Field} {T : Ty} (h : tyFs P F N o fs = some T) : T = .nil ∨ ∃ s a r, T = .cons s a r := by
  cases fs with
  | nil =>
    simp only [tyFs] at h
    split at h
    · injection h with h; exact .inl h.symm
    · cases h
  | cons f fs =>
    simp only [tyFs] at h
    split at h
    · simp only [Option.bind_eq_some_iff, Option.map_eq_some_iff] at h
      obtain ⟨a, _, b, _, rfl⟩ := h
      exact .inr ⟨_, _, _, rfl⟩
    · cases h
theorem rd_value {d : Nat} {t : TypeId} {T : Ty} (hT : tyOf P d t = some T) {r : Reach} {b0 : Nat} {v : Value} (hval : Value.okWide P w r b0 t v) {x : DataW H} {ps : List MemPlace} (hx : DataW.Trod enc P w 0 (fun _ => true) held t v x ps)
    {m : Mp} {h : VH} (S : In0 w m h) : ∃ m' h' u k, m.le m' ∧ In0 w m' h' ∧ h.le h' ∧ VR m' u v ∧ ShV h' T u k ∧ k ≤ Rows.uptoBulk x := by
  obtain ⟨fuel, hf⟩ := hx
  obtain ⟨m', h', vs, k, a1, a2, a3, a4, a5, a6⟩ := rd_ok d t T hT fuel _ _ hf m h S
  cases d with
  | zero => cases hT
  | succ d =>
    have hcl := a4.length
    have one : (∀ xs, v ≠ .agg xs) → ∃ u, vs = [u] ∧ VR m' u v := by
      intro hne
      have hv : v.cells.toList = [v] := by
        cases v <;> first | rfl | exact absurd rfl (hne _)
      rw [hv] at a4
      cases vs with
      | nil => exact a4.elim
      | cons u us =>
        cases us with
        | nil => exact ⟨u, rfl, a4.1.1⟩
        | cons _ _ => exact a4.2.elim
    unfold tyOf at hT
    split at hT
    · rename_i hu
      injection hT with hT; subst hT
      obtain ⟨u, rfl, hv⟩ := one (fun xs hx => by subst hx; simp [Value.okWide, hu, Cell.okWide, Cell.ok] at hval)
      exact ⟨m', h', u, k, a1, a2, a3, hv, a5, a6⟩
    · rename_i hu
      injection hT with hT; subst hT
      obtain ⟨u, rfl, hv⟩ := one (fun xs hx => by subst hx; simp [Value.okWide, hu, Cell.okWide, Cell.ok] at hval)
      exact ⟨m', h', u, k, a1, a2, a3, hv, a5, a6⟩
    · rename_i hu
      injection hT with hT; subst hT
      obtain ⟨u, rfl, hv⟩ := one (fun xs hx => by subst hx; simp [Value.okWide, hu, Cell.okWide, Cell.ok] at hval)
      exact ⟨m', h', u, k, a1, a2, a3, hv, a5, a6⟩
    · rename_i e hu
      split at hT
      · simp only [Option.map_eq_some_iff] at hT
        obtain ⟨T, hT, rfl⟩ := hT
        obtain ⟨u, rfl, hv⟩ := one (fun xs hx => by subst hx; simp [Value.okWide, hu, Cell.okWide, Cell.ok] at hval)
        exact ⟨m', h', u, k, a1, a2, a3, hv, a5, a6⟩
      · cases hT
    · rename_i fs hu
      simp only [Value.okWide, hu] at hval
      obtain ⟨cs, rfl, _⟩ := hval
      have hv : VR m' (.agg vs.toArray) (.agg cs) := by
        have := a4.vrl.agg
        simpa [Value.cells] using this
      rcases tyFs_agg hT with rfl | ⟨_, _, _, rfl⟩
      · exact ⟨m', h', .agg vs.toArray, k, a1, a2, a3, hv, ⟨vs, rfl, a5⟩, a6⟩
      · exact ⟨m', h', .agg vs.toArray, k, a1, a2, a3, hv, ⟨vs, rfl, a5⟩, a6⟩
    · rename_i n e hu
      simp only [Value.okWide, hu] at hval
      obtain ⟨cs, rfl, _⟩ := hval
      have hv : VR m' (.agg vs.toArray) (.agg cs) := by
        have := a4.vrl.agg
        simpa [Value.cells] using this
      split at hT
      · simp only [Option.map_eq_some_iff] at hT
        obtain ⟨T, hT, rfl⟩ := hT
        exact ⟨m', h', .agg vs.toArray, k, a1, a2, a3, hv, ⟨vs, rfl, a5⟩, a6⟩
      · cases hT
    · cases hT

def tysOf (P : Program) (d : Nat) : List TypeId → Option (List Ty)
  | [] => some []
  | t :: ts => (tyOf P d t).bind fun T => (tysOf P d ts).map (T :: ·)
theorem rd_all {d : Nat} {r : Reach} {b0 : Nat} : ∀ {ts : List TypeId} {Ts : List Ty} {vs : List Value} {ds : List (DataW H)} {ps : List MemPlace}, tysOf P d ts = some Ts → DataW.TrodAll enc P w 0 (fun _ => true) held ts vs ds ps →
    (∀ (j : Nat) (t : TypeId) (v : Value), ts[j]? = some t → vs[j]? = some v → Value.okWide P w r b0 t v) →
    ∀ {m : Mp} {h : VH}, In0 w m h → ∃ m' h' us k, m.le m' ∧ In0 w m' h' ∧ h.le h' ∧ VRL m' us vs ∧ ShA h' Ts us k ∧ k ≤ Rows.uptoBulkAll ds
  | [], Ts, vs, ds, ps, hT, hA, _, m, h, S => by
    injection hT with hT; subst hT
    obtain ⟨rfl, rfl, rfl⟩ := trodAll_nil hA
    exact ⟨m, h, [], 0, m.le_refl, S, h.le_refl, ⟨rfl, fun j x y hx => by simp at hx⟩, ⟨rfl, rfl⟩, Nat.zero_le _⟩
  | t :: ts, Ts, vs, ds, ps, hT, hA, hval, m, h, S => by
    simp only [tysOf, Option.bind_eq_some_iff, Option.map_eq_some_iff] at hT
    obtain ⟨T, hT, Ts, hTs, rfl⟩ := hT
    obtain ⟨v, vs, x, ds, p, q, rfl, rfl, rfl, h0, hr⟩ := trodAll_cons hA
    obtain ⟨m1, h1, u, k1, a1, a2, a3, a4, a5, a6⟩ := rd_value hT (hval 0 t v rfl rfl) h0 S
    obtain ⟨m2, h2, us, k2, b1, b2, b3, b4, b5, b6⟩ := rd_all hTs hr (fun j t v hj hv => hval (j + 1) t v (by simpa using hj) (by simpa using hv)) a2
    refine ⟨m2, h2, u :: us, k1 + k2, Mp.le_trans a1 b1, b2, VH.le_trans a3 b3, ⟨by simp [b4.1], fun j x y hx hy => ?_⟩, ⟨u, us, k1, k2, rfl, a5.mono b3, b5, rfl⟩, by simp only [Rows.uptoBulkAll]; omega⟩
    cases j with
    | zero =>
      simp at hx hy
      subst hx; subst hy
      exact a4.mono b1
    | succ j => exact b4.2 j x y (by simpa using hx) (by simpa using hy)
theorem trodAll_lt {b0 : Nat} {sp : Nat → Bool} : ∀ {ts : List TypeId} {vs : List Value} {ds : List (DataW H)} {ps : List MemPlace}, DataW.TrodAll enc P w b0 sp held ts vs ds ps → ∀ x ∈ ps, x.block < w.heap.size
  | [], vs, ds, ps, h => by
    obtain ⟨rfl, rfl, rfl⟩ := trodAll_nil h
    simp
  | t :: ts, vs, ds, ps, h => by
    obtain ⟨v, vs, x, ds, p, q, rfl, rfl, rfl, h0, hr⟩ := trodAll_cons h
    obtain ⟨n, hn⟩ := h0
    intro y hy
    rcases List.mem_append.1 hy with hy | hy
    · exact DataW.trod_lt n _ _ _ hn y hy
    · exact trodAll_lt hr y hy
theorem trodAll_below (hl : laidOutB P = true) {W W' : World} (hb : Below W.heap.size W W') : ∀ {ts : List TypeId} {vs : List Value} {ds : List (DataW H)} {ps : List MemPlace}, ts.all (fun t => P.readableRec t && decide (t < P.types.size)) = true →
    DataW.TrodAll enc P W 0 (fun _ => true) true ts vs ds ps → DataW.TrodAll enc P W' 0 (fun b => decide (b < W.heap.size)) true ts vs ds ps
  | [], vs, ds, ps, _, h => by
    obtain ⟨rfl, rfl, rfl⟩ := trodAll_nil h
    exact trodAll_mk0
  | t :: ts, vs, ds, ps, ht, h => by
    obtain ⟨v, vs, x, ds, p, q, rfl, rfl, rfl, h0, hr⟩ := trodAll_cons h
    simp only [List.all_cons, Bool.and_eq_true, decide_eq_true_eq] at ht
    have hlt : ∀ x ∈ p, x.block < W.heap.size := by obtain ⟨n, hn⟩ := h0; exact DataW.trod_lt n _ _ _ hn
    exact trodAll_cons_mk (Below.trod hl ht.1.1 ht.1.2 h0 hb hlt) (trodAll_below hl hb ht.2 hr)
end
end Go.Proofs.Ytdnkpgbggpbgaaa.Pm
