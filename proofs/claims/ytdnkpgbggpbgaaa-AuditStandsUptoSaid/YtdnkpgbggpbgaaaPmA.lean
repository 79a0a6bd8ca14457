/- The pure machine, part A: ids, values under a map of ids, the pure heap, and how a world stands to it. -/
import Derived.Below
import Derived.Tactics
import Derived.WalkKit
import Derived.Laws.Sem
import Derived.Laws.World
import Derived.Laws.AppendOwn
import Derived.Laws.MakeOwn
set_option linter.unusedVariables false
set_option linter.unusedSimpArgs false
namespace Go.Proofs.Ytdnkpgbggpbgaaa.Pm
open Go.RowKit

/-- where an id lies: its block, the first cell, how many cells there are from there on, the cells of an element. -/
structure Info where
  blk : Nat
  base : Nat
  lim : Nat
  esz : Nat
/-- the package-level variables that are read: their blocks; their ids are the first ones. -/
def glb : List Nat := []
structure Mp where
  n : Nat
  at_ : Nat → Info
  /-- blocks of deferred calls, all of them empty: they stay as they are. -/
  fx : List Nat
  gl : ∀ (k g : Nat), glb[k]? = some g → k < n ∧ (at_ k).blk = g ∧ (at_ k).base = 0

structure Mp.le (m m' : Mp) : Prop where
  n : m.n ≤ m'.n
  at_ : ∀ i, i < m.n → m'.at_ i = m.at_ i
  fx : ∀ D ∈ m.fx, D ∈ m'.fx
theorem Mp.le_refl (m : Mp) : m.le m := ⟨Nat.le_refl _, fun _ _ => rfl, fun _ h => h⟩
theorem Mp.le_trans {a b c : Mp} (h : a.le b) (k : b.le c) : a.le c :=
  ⟨Nat.le_trans h.1 k.1, fun i hi => (k.2 i (Nat.lt_of_lt_of_le hi h.1)).trans (h.2 i hi), fun D hD => k.fx D (h.fx D hD)⟩

def isYld : Fn → Bool
  | .yield _ => true
  | _ => false

/-- a value of the pure machine (its blocks are ids), and the machine's own. -/
inductive VR (m : Mp) : Value → Value → Prop
  | bool (b : Bool) : VR m (.bool b) (.bool b)
  | int (k : IntKind) (n : Int) : VR m (.int k n) (.int k n)
  | string (s : ByteArray) : VR m (.string s) (.string s)
  | ptr0 : VR m (.pointer none) (.pointer none)
  | ptr {i o : Nat} (hi : i < m.n) : VR m (.pointer (some ⟨i, o, none⟩)) (.pointer (some ⟨(m.at_ i).blk, (m.at_ i).base + o, none⟩))
  | sl0 : VR m (.slice none 0 0) (.slice none 0 0)
  | sl {i o n c c' : Nat} (hi : i < m.n) (h1 : n ≤ c) (h2 : c ≤ c') (h3 : o + c' * (m.at_ i).esz ≤ (m.at_ i).lim) (h4 : c' ≤ 9223372036854775807) :
      VR m (.slice (some ⟨i, o, none⟩) n c) (.slice (some ⟨(m.at_ i).blk, (m.at_ i).base + o, none⟩) n c')
  | slE {i o : Nat} (a : Addr) (hi : i < m.n) : VR m (.slice (some ⟨i, o, none⟩) 0 0) (.slice (some a) 0 0)
  | slT {i o n t : Nat} (hi : i < m.n) : VR m (.slice (some ⟨i, o, some t⟩) n n) (.slice (some ⟨(m.at_ i).blk, (m.at_ i).base + o, none⟩) n n)
  | map0 : VR m (.map none) (.map none)
  | map {i : Nat} (hi : i < m.n) : VR m (.map (some i)) (.map (some (m.at_ i).blk))
  | nilFunc : VR m .nilFunc .nilFunc
  | yld {i : Nat} (hi : i < m.n) : VR m (.func (.yield i) #[] #[]) (.func (.yield (m.at_ i).blk) #[] #[])
  | func (f : Fn) (a b a' b' : Array Value) (hf : isYld f = false) (ha : a.size = a'.size) (hb : b.size = b'.size)
      (h1 : ∀ (j : Nat) (h : j < a.size) (h' : j < a'.size), VR m a[j] a'[j]) (h2 : ∀ (j : Nat) (h : j < b.size) (h' : j < b'.size), VR m b[j] b'[j]) :
      VR m (.func f a b) (.func f a' b')
  | iface (t : TypeId) {v v' : Value} (h : VR m v v') : VR m (.iface t v) (.iface t v')
  | nilIface : VR m .nilIface .nilIface
  | agg (a a' : Array Value) (ha : a.size = a'.size) (h1 : ∀ (j : Nat) (h : j < a.size) (h' : j < a'.size), VR m a[j] a'[j]) : VR m (.agg a) (.agg a')
  | tuple (a a' : Array Value) (ha : a.size = a'.size) (h1 : ∀ (j : Nat) (h : j < a.size) (h' : j < a'.size), VR m a[j] a'[j]) : VR m (.tuple a) (.tuple a')

theorem VR.mono {m m' : Mp} (hm : m.le m') {v v' : Value} (h : VR m v v') : VR m' v v' := by
  induction h with
  | bool b => exact .bool b
  | int k n => exact .int k n
  | string s => exact .string s
  | ptr0 => exact .ptr0
  | @ptr i o hi => rw [← hm.2 i hi]; exact .ptr (Nat.lt_of_lt_of_le hi hm.1)
  | sl0 => exact .sl0
  | @sl i o n c c' hi h1 h2 h3 h4 => rw [← hm.2 i hi] at h3 ⊢; exact .sl (Nat.lt_of_lt_of_le hi hm.1) h1 h2 h3 h4
  | @slE i o a hi => exact .slE a (Nat.lt_of_lt_of_le hi hm.1)
  | @slT i o n t hi => rw [← hm.2 i hi]; exact .slT (Nat.lt_of_lt_of_le hi hm.1)
  | map0 => exact .map0
  | @map i hi => rw [← hm.2 i hi]; exact .map (Nat.lt_of_lt_of_le hi hm.1)
  | nilFunc => exact .nilFunc
  | @yld i hi => rw [← hm.2 i hi]; exact .yld (Nat.lt_of_lt_of_le hi hm.1)
  | func f a b a' b' hf ha hb _ _ ih1 ih2 => exact .func f a b a' b' hf ha hb ih1 ih2
  | iface t _ ih => exact .iface t ih
  | nilIface => exact .nilIface
  | agg a a' ha _ ih => exact .agg a a' ha ih
  | tuple a a' ha _ ih => exact .tuple a a' ha ih

theorem VR.setFx {m : Mp} (l : List Nat) {v v' : Value} (h : VR m v v') : VR ⟨m.n, m.at_, l, m.gl⟩ v v' := by
  induction h with
  | bool b => exact .bool b
  | int k n => exact .int k n
  | string s => exact .string s
  | ptr0 => exact .ptr0
  | ptr hi => exact VR.ptr (m := ⟨m.n, m.at_, l, m.gl⟩) hi
  | sl0 => exact .sl0
  | sl hi h1 h2 h3 h4 => exact VR.sl (m := ⟨m.n, m.at_, l, m.gl⟩) hi h1 h2 h3 h4
  | slE a hi => exact .slE a hi
  | slT hi => exact VR.slT (m := ⟨m.n, m.at_, l, m.gl⟩) hi
  | map0 => exact .map0
  | map hi => exact VR.map (m := ⟨m.n, m.at_, l, m.gl⟩) hi
  | nilFunc => exact .nilFunc
  | yld hi => exact VR.yld (m := ⟨m.n, m.at_, l, m.gl⟩) hi
  | func f a b a' b' hf ha hb _ _ ih1 ih2 => exact .func f a b a' b' hf ha hb ih1 ih2
  | iface t _ ih => exact .iface t ih
  | nilIface => exact .nilIface
  | agg a a' ha _ ih => exact .agg a a' ha ih
  | tuple a a' ha _ ih => exact .tuple a a' ha ih

/-- values without addresses. -/
def closedV : Value → Bool
  | .bool _ | .int _ _ | .string _ | .pointer none | .map none | .nilFunc | .nilIface => true
  | .slice none 0 0 => true
  | .func f a b => !isYld f && (a.isEmpty && b.isEmpty)
  | .tuple a => a.isEmpty
  | _ => false

theorem VR.closed (m : Mp) {v : Value} (h : closedV v = true) : VR m v v := by
  unfold closedV at h
  split at h <;> first
    | exact .bool _ | exact .int _ _ | exact .string _ | exact .ptr0 | exact .map0 | exact .nilFunc | exact .nilIface | exact .sl0
    | (rename_i f a b
       simp only [Bool.and_eq_true, Array.isEmpty_iff, Bool.not_eq_true'] at h
       obtain ⟨hf, rfl, rfl⟩ := h
       exact .func _ _ _ _ _ hf rfl rfl (fun j h => by simp at h) (fun j h => by simp at h))
    | (rename_i a
       simp only [Array.isEmpty_iff] at h
       subst h
       exact .tuple _ _ rfl (fun j h => by simp at h))
    | (exfalso; simp at h)

/-- a value without addresses, or a struct, an array of such. -/
def closedE : Value → Bool
  | .agg a => a.toList.all closedV
  | v => closedV v
/-- or a tuple of such. -/
def closedD : Value → Bool
  | .agg a => a.toList.all closedV
  | .tuple a => a.toList.all closedE
  | v => closedV v
theorem closedE_VR (m : Mp) {v : Value} (h : closedE v = true) : VR m v v := by
  cases v <;> try exact VR.closed m h
  rename_i a
  exact .agg _ _ rfl (fun j hj _ => VR.closed m (List.all_eq_true.1 h _ (by simp)))
theorem closedD_VR (m : Mp) {v : Value} (h : closedD v = true) : VR m v v := by
  cases v <;> try exact VR.closed m h
  · rename_i a
    refine .agg _ _ rfl (fun j hj _ => VR.closed m (List.all_eq_true.1 h _ (by simp)))
  · rename_i a
    refine .tuple _ _ rfl (fun j hj _ => closedE_VR m (List.all_eq_true.1 h _ (by simp)))

theorem VR.undef (m : Mp) : VR m Go.undef Go.undef := VR.closed m rfl

/-- what is related to a value of one of these forms. -/
theorem VR.bool_inv {m : Mp} {b : Bool} {v : Value} (h : VR m (.bool b) v) : v = .bool b := by cases h; rfl
theorem VR.int_inv {m : Mp} {k : IntKind} {n : Int} {v : Value} (h : VR m (.int k n) v) : v = .int k n := by cases h; rfl
theorem VR.string_inv {m : Mp} {s : ByteArray} {v : Value} (h : VR m (.string s) v) : v = .string s := by cases h; rfl
theorem VR.closed_inv {m : Mp} {v v' : Value} (hc : closedV v = true) (h : VR m v v') : v' = v := by
  cases h <;> try rfl
  all_goals (try (simp [closedV, isYld] at hc; done))
  · rename_i f a b a' b' hf ha hb _ _
    simp only [closedV, Bool.and_eq_true, Array.isEmpty_iff, Bool.not_eq_true'] at hc
    obtain ⟨_, rfl, rfl⟩ := hc
    have e1 : a' = #[] := by simpa using ha.symm
    have e2 : b' = #[] := by simpa using hb.symm
    rw [e1, e2]
  · rename_i a a' ha _
    simp only [closedV, Array.isEmpty_iff] at hc
    subst hc
    have e1 : a' = #[] := by simpa using ha.symm
    rw [e1]

/-! ### the pure heap -/
/-- of a range over a function: what its rounds begin with. -/
structure LoopKey where
  fn : FuncId
  N : Nat
  s : Nat → Value
  ps : List Nat
  asg : Code
  bdy : Code
inductive VObj where
  | cells (cs : List Value) (own : Bool) (esz : Nat)
  | map (es : List (Value × Value × Nat)) (clock : Nat) (own : Bool)
  | siter (s : ByteArray) (pos : Nat)
  | miter (mp : Option Nat) (since : Nat) (seen : List Nat) (last : Nat)
  | loop (L : LoopKey) (st : LoopState) (pe : Option Code)
  | dead
def VObj.own : VObj → Bool
  | .cells _ o _ => o
  | .map _ _ o => o
  | .siter _ _ => true
  | .miter _ _ _ _ => true
  | .loop _ _ _ => true
  | .dead => false
def VObj.live : VObj → Bool
  | .dead => false
  | .cells cs o _ => o || !cs.isEmpty
  | .map _ _ _ => true
  | .siter _ _ => true
  | .miter _ _ _ _ => true
  | .loop _ _ _ => true
structure VH where
  n : Nat
  get : Nat → VObj
def VH.set (h : VH) (i : Nat) (o : VObj) : VH := ⟨h.n, fun j => if j = i then o else h.get j⟩
def VH.push (h : VH) (o : VObj) : VH := ⟨h.n + 1, fun j => if j = h.n then o else h.get j⟩
@[simp] theorem VH.n_set (h : VH) (i : Nat) (o : VObj) : (h.set i o).n = h.n := rfl
@[simp] theorem VH.n_push (h : VH) (o : VObj) : (h.push o).n = h.n + 1 := rfl
theorem VH.get_set (h : VH) (i : Nat) (o : VObj) (j : Nat) : (h.set i o).get j = if j = i then o else h.get j := rfl
theorem VH.get_push (h : VH) (o : VObj) (j : Nat) : (h.push o).get j = if j = h.n then o else h.get j := rfl
@[simp] theorem VH.get_set_same (h : VH) (i : Nat) (o : VObj) : (h.set i o).get i = o := by simp [VH.set]
theorem VH.get_set_ne (h : VH) {i j : Nat} (o : VObj) (hne : j ≠ i) : (h.set i o).get j = h.get j := by simp [VH.set, hne]
@[simp] theorem VH.get_push_new (h : VH) (o : VObj) : (h.push o).get h.n = o := by simp [VH.push]
theorem VH.get_push_lt (h : VH) {j : Nat} (o : VObj) (hlt : j < h.n) : (h.push o).get j = h.get j := by simp [VH.push, Nat.ne_of_lt hlt]

structure EntryRel (m : Mp) (x : Value × Value × Nat) (e : MapEntry) : Prop where
  key : VR m x.1 e.key
  val : VR m x.2.1 e.val
  born : x.2.2 = e.born

def MapRel (m : Mp) (es : List (Value × Value × Nat)) (mes : Array MapEntry) : Prop :=
  es.length = mes.size ∧ ∀ (j : Nat) (x : Value × Value × Nat) (e : MapEntry), es[j]? = some x → mes[j]? = some e → EntryRel m x e

/-- a cell's value. -/
def CR (m : Mp) (v v' : Value) : Prop := VR m v v' ∧ v.oneCell' = true
theorem CR.mono {m m' : Mp} (hm : m.le m') {v v' : Value} (h : CR m v v') : CR m' v v' := ⟨h.1.mono hm, h.2⟩

/-- no cell below top is frozen. -/
def frOK (fr : Nat × Nat) (top esz : Nat) : Prop := fr.1 = fr.2 ∨ (top ≤ fr.1 ∧ esz ≠ 0)
theorem frOK.free {fr : Nat × Nat} {top esz j : Nat} (h : frOK fr top esz) (hj : j < top) : ¬ (fr.1 ≤ j ∧ j < fr.2) := by
  rcases h with h | h <;> omega

def ORel (m : Mp) (i : Info) (w : World) : VObj → Prop
  | .dead => True
  | .cells cs own esz => esz = i.esz ∧ cs.length ≤ i.lim ∧ ((own || !cs.isEmpty) = true → i.blk < w.heap.size) ∧
      (∀ j v, cs[j]? = some v → ∃ v', w.cell? ⟨i.blk, i.base + j, none⟩ = some v' ∧ CR m v v') ∧
      (own = true → ∃ c' e fr, w.heap[i.blk]? = some (.cells c' e fr) ∧ i.base + i.lim ≤ c'.size ∧ frOK fr (i.base + i.lim) esz)
  | .map es clock _ => ∃ mes, w.heap[i.blk]? = some (.map mes clock) ∧ MapRel m es mes
  | .siter s pos => w.heap[i.blk]? = some (.stringIter s pos) ∧ i.base = 0
  | .miter mp since seen last => i.base = 0 ∧ ∃ o, w.heap[i.blk]? = some (.mapIter o since seen.toArray last) ∧ ((mp = none ∧ o = none) ∨ ∃ k, mp = some k ∧ k < m.n ∧ o = some (m.at_ k).blk)
  | .loop L st pe => ∃ (tmps : Array Value) (D : Nat), w.heap[i.blk]? = some (.loop { state := st, pending := pe, fn := L.fn, tmps := tmps, params := L.ps.toArray, assign := L.asg, body := L.bdy, defers := D }) ∧
      tmps.size = L.N ∧ ∀ (j : Nat) (hj : j < tmps.size), VR m (L.s j) tmps[j]

theorem ORel.blk_lt {m : Mp} {i : Info} {w : World} {o : VObj} (h : ORel m i w o) (hl : o.live = true) : i.blk < w.heap.size := by
  cases o with
  | dead => cases hl
  | cells cs own esz => exact h.2.2.1 hl
  | map es clock ow =>
    obtain ⟨mes, hb, _⟩ := h
    exact (Array.getElem?_eq_some_iff.1 hb).1
  | siter s pos => exact (Array.getElem?_eq_some_iff.1 h.1).1
  | miter mp since seen last =>
    obtain ⟨_, o, hb, _⟩ := h
    exact (Array.getElem?_eq_some_iff.1 hb).1
  | loop L st pe =>
    obtain ⟨tmps, D, hb, _⟩ := h
    exact (Array.getElem?_eq_some_iff.1 hb).1

theorem ORel.mono {m m' : Mp} (hm : m.le m') {i : Info} {w : World} {o : VObj} (h : ORel m i w o) : ORel m' i w o := by
  cases o with
  | dead => trivial
  | cells cs own esz =>
    obtain ⟨h1, h2, h3, h4, h5⟩ := h
    refine ⟨h1, h2, h3, fun j v hj => ?_, h5⟩
    obtain ⟨v', hc, hv⟩ := h4 j v hj
    exact ⟨v', hc, hv.mono hm⟩
  | map es clock ow =>
    obtain ⟨mes, hb, h1, h2⟩ := h
    exact ⟨mes, hb, h1, fun j x e hx he => ⟨(h2 j x e hx he).key.mono hm, (h2 j x e hx he).val.mono hm, (h2 j x e hx he).born⟩⟩
  | siter s pos => exact h
  | miter mp since seen last =>
    obtain ⟨h0, o, hb, ho⟩ := h
    refine ⟨h0, o, hb, ho.imp id ?_⟩
    rintro ⟨k, h1, h2, h3⟩
    exact ⟨k, h1, Nat.lt_of_lt_of_le h2 hm.1, by rw [hm.2 k h2]; exact h3⟩
  | loop L st pe =>
    obtain ⟨tmps, D, hb, h1, h2⟩ := h
    exact ⟨tmps, D, hb, h1, fun j hj => (h2 j hj).mono hm⟩

theorem ORel.congr {m : Mp} {i : Info} {w w' : World} {o : VObj} (h : ORel m i w o) (hb : o.live = true → w'.heap[i.blk]? = w.heap[i.blk]?) (hs : w.heap.size ≤ w'.heap.size) : ORel m i w' o := by
  cases o with
  | dead => trivial
  | cells cs own esz =>
    have hb : (own || !cs.isEmpty) = true → _ := hb
    obtain ⟨h1, h2, h3, h4, h5⟩ := h
    refine ⟨h1, h2, fun hl => Nat.lt_of_lt_of_le (h3 hl) hs, fun j v hj => ?_, fun ho => ?_⟩
    · obtain ⟨v', hc, hv⟩ := h4 j v hj
      have hl : (own || !cs.isEmpty) = true := by
        cases cs with
        | nil => cases hj
        | cons _ _ => simp
      exact ⟨v', by rw [World.cell?_of_block (w := w) (hb hl)]; exact hc, hv⟩
    · rw [hb (by rw [ho]; rfl)]; exact h5 ho
  | map es clock ow =>
    obtain ⟨mes, hb', h'⟩ := h
    exact ⟨mes, (hb rfl).trans hb', h'⟩
  | siter s pos => exact ⟨(hb rfl).trans h.1, h.2⟩
  | miter mp since seen last =>
    obtain ⟨h0, o, hb', h'⟩ := h
    exact ⟨h0, o, (hb rfl).trans hb', h'⟩
  | loop L st pe =>
    obtain ⟨tmps, D, hb', h'⟩ := h
    exact ⟨tmps, D, (hb rfl).trans hb', h'⟩

/-- the world w holds what the pure heap h says, under the map m; below block B nothing has turned since w0. -/
structure Sim (B : Nat) (w0 : World) (m : Mp) (h : VH) (w : World) : Prop where
  n : m.n = h.n
  below : Below B w0 w
  hB : B ≤ w.heap.size
  obj : ∀ i, i < m.n → ORel m (m.at_ i) w (h.get i)
  sep : ∀ i j, i < m.n → j < m.n → i ≠ j → (h.get i).own = true → (h.get j).live = true → (m.at_ i).blk ≠ (m.at_ j).blk
  ge : ∀ i, i < m.n → (h.get i).own = true → B ≤ (m.at_ i).blk
  fx : ∀ D ∈ m.fx, B ≤ D ∧ w.heap[D]? = some (.deferred (some [])) ∧ ∀ i, i < m.n → (h.get i).own = true → (m.at_ i).blk ≠ D

theorem Sim.fx_lt {B : Nat} {w0 : World} {m : Mp} {h : VH} {w : World} (S : Sim B w0 m h w) {D : Nat} (hD : D ∈ m.fx) : D < w.heap.size := (Array.getElem?_eq_some_iff.1 (S.fx D hD).2.1).1

theorem VObj.live_of_own {o : VObj} (h : o.own = true) : o.live = true := by cases o <;> simp_all [VObj.own, VObj.live]

theorem Sim.drewN {B : Nat} {w0 : World} {m : Mp} {h : VH} {w : World} (S : Sim B w0 m h w) (d : Nat) : Sim B w0 m h { w with drawn := d } :=
  ⟨S.n, ⟨S.below.os, S.below.tape, S.below.output, S.below.size, S.below.block⟩, S.hB, fun i hi => (S.obj i hi).congr (fun _ => rfl) (Nat.le_refl _), S.sep, S.ge, S.fx⟩

theorem Sim.drew {B : Nat} {w0 : World} {m : Mp} {h : VH} {w : World} (S : Sim B w0 m h w) : Sim B w0 m h w.drew := S.drewN _

def Mp.push (m : Mp) (i : Info) : Mp := ⟨m.n + 1, fun j => if j = m.n then i else m.at_ j, m.fx, fun k g hk => by
  obtain ⟨h1, h2⟩ := m.gl k g hk
  refine ⟨Nat.lt_succ_of_lt h1, ?_⟩
  simp only [if_neg (Nat.ne_of_lt h1)]
  exact h2⟩
theorem Mp.push_le (m : Mp) (i : Info) : m.le (m.push i) := ⟨Nat.le_succ _, fun j hj => by simp [Mp.push, Nat.ne_of_lt hj], fun _ h => h⟩
@[simp] theorem Mp.fx_push (m : Mp) (i : Info) : (m.push i).fx = m.fx := rfl
def Mp.addFx (m : Mp) (D : Nat) : Mp := ⟨m.n, m.at_, D :: m.fx, m.gl⟩
theorem Mp.addFx_le (m : Mp) (D : Nat) : m.le (m.addFx D) := ⟨Nat.le_refl _, fun _ _ => rfl, fun _ h => List.mem_cons_of_mem _ h⟩
def Mp.setFx (m : Mp) (l : List Nat) : Mp := ⟨m.n, m.at_, l, m.gl⟩
@[simp] theorem Mp.at_push_new (m : Mp) (i : Info) : (m.push i).at_ m.n = i := by simp [Mp.push]
theorem Mp.at_push_lt (m : Mp) (i : Info) {j : Nat} (hj : j < m.n) : (m.push i).at_ j = m.at_ j := by simp [Mp.push, Nat.ne_of_lt hj]
@[simp] theorem Mp.n_push (m : Mp) (i : Info) : (m.push i).n = m.n + 1 := rfl

theorem heap_alloc_lt (w : World) (o : Obj) {k : Nat} (h : k < w.heap.size) : (w.alloc o).heap[k]? = w.heap[k]? := Below.heap_alloc w o k h
theorem heap_alloc_new' (w : World) (o : Obj) : (w.alloc o).heap[w.heap.size]? = some o := by
  show (w.heap.push o)[w.heap.size]? = _
  simp

/-- a new object in a new block. -/
theorem Sim.push {B : Nat} {w0 : World} {m : Mp} {h : VH} {w : World} (S : Sim B w0 m h w) (o : Obj) (vo : VObj) (i : Info) (hi : i.blk = w.heap.size)
    (ho : ORel (m.push i) i (w.alloc o) vo) : Sim B w0 (m.push i) (h.push vo) (w.alloc o) := by
  have hn := S.n
  have hlive : ∀ j, j < m.n → (h.get j).live = true → (m.at_ j).blk < w.heap.size := fun j hj hl => (S.obj j hj).blk_lt hl
  have hfx : ∀ D ∈ (m.push i).fx, B ≤ D ∧ (w.alloc o).heap[D]? = some (.deferred (some [])) ∧ ∀ j, j < (m.push i).n → ((h.push vo).get j).own = true → ((m.push i).at_ j).blk ≠ D := by
    intro D hD
    obtain ⟨h1, h2, h3⟩ := S.fx D hD
    have hlt := S.fx_lt hD
    refine ⟨h1, (heap_alloc_lt w o hlt).trans h2, fun j hj ho' => ?_⟩
    simp only [Mp.n_push] at hj
    by_cases hj' : j = m.n
    · subst hj'
      rw [Mp.at_push_new, hi]
      omega
    · have hlt' : j < m.n := by omega
      rw [VH.get_push_lt _ _ (by omega)] at ho'
      rw [Mp.at_push_lt _ _ hlt']
      exact h3 j hlt' ho'
  refine ⟨by simp [hn], S.below.alloc S.hB o, by have := S.hB; simp; omega, ?_, ?_, ?_, hfx⟩
  · intro j hj
    by_cases hj' : j = m.n
    · subst hj'
      rw [Mp.at_push_new, show (h.push vo).get m.n = vo by rw [hn]; exact VH.get_push_new h vo]
      exact ho
    · have hlt : j < m.n := by simp at hj; omega
      rw [Mp.at_push_lt _ _ hlt, VH.get_push_lt _ _ (by omega)]
      exact ((S.obj j hlt).mono (m.push_le i)).congr (fun hl => heap_alloc_lt w o (hlive j hlt hl)) (by simp)
  · intro j k hj hk hne ho' hl'
    simp only [Mp.n_push] at hj hk
    by_cases hj' : j = m.n
    · subst hj'
      have hklt : k < m.n := by omega
      rw [Mp.at_push_new, Mp.at_push_lt _ _ hklt, hi]
      rw [VH.get_push_lt _ _ (by omega)] at hl'
      exact Nat.ne_of_gt (hlive k hklt hl')
    · have hlt : j < m.n := by omega
      rw [VH.get_push_lt _ _ (by omega)] at ho'
      rw [Mp.at_push_lt _ _ hlt]
      by_cases hk' : k = m.n
      · subst hk'
        rw [Mp.at_push_new, hi]
        exact Nat.ne_of_lt (hlive j hlt (VObj.live_of_own ho'))
      · have hklt : k < m.n := by omega
        rw [Mp.at_push_lt _ _ hklt]
        rw [VH.get_push_lt _ _ (by omega)] at hl'
        exact S.sep j k hlt hklt hne ho' hl'
  · intro j hj ho'
    simp only [Mp.n_push] at hj
    by_cases hj' : j = m.n
    · subst hj'
      rw [Mp.at_push_new, hi]
      exact S.hB
    · have hlt : j < m.n := by omega
      rw [VH.get_push_lt _ _ (by omega)] at ho'
      rw [Mp.at_push_lt _ _ hlt]
      exact S.ge j hlt ho'

/-- the object of an owned id turns; of the world its block alone. -/
theorem Sim.upd {B : Nat} {w0 : World} {m : Mp} {h : VH} {w w' : World} (S : Sim B w0 m h w) {i : Nat} (hi : i < m.n) (hown : (h.get i).own = true) (vo : VObj)
    (hg : w.grownBy w' (some (m.at_ i).blk)) (ho : ORel m (m.at_ i) w' vo) : Sim B w0 m (h.set i vo) w' := by
  have hge := S.ge i hi hown
  have hoth : ∀ j, j < m.n → j ≠ i → (h.get j).live = true → w'.heap[(m.at_ j).blk]? = w.heap[(m.at_ j).blk]? := fun j hj hne hl =>
    hg.block _ ((S.obj j hj).blk_lt hl) (by simpa using (S.sep i j hi hj (fun e => hne e.symm) hown hl).symm)
  have hfx : ∀ D ∈ m.fx, B ≤ D ∧ w'.heap[D]? = some (.deferred (some [])) ∧ ∀ j, j < m.n → ((h.set i vo).get j).own = true → (m.at_ j).blk ≠ D := by
    intro D hD
    obtain ⟨h1, h2, h3⟩ := S.fx D hD
    refine ⟨h1, (hg.block _ (S.fx_lt hD) (by simpa using (h3 i hi hown).symm)).trans h2, fun j hj ho' => ?_⟩
    by_cases hji : j = i
    · subst hji; exact h3 j hi hown
    · rw [VH.get_set_ne _ _ hji] at ho'
      exact h3 j hj ho'
  refine ⟨S.n, S.below.grown hg S.hB (fun k hk => by simp at hk; omega), Nat.le_trans S.hB hg.size, ?_, ?_, ?_, hfx⟩
  · intro j hj
    by_cases hji : j = i
    · subst hji
      rw [VH.get_set_same]
      exact ho
    · rw [VH.get_set_ne _ _ hji]
      exact (S.obj j hj).congr (fun hl => hoth j hj hji hl) hg.size
  · intro j k hj hk hne ho' hl'
    have hj' : (h.get j).own = true := by
      by_cases hji : j = i
      · subst hji; exact hown
      · rwa [VH.get_set_ne _ _ hji] at ho'
    have hk' : (h.get k).live = true := by
      by_cases hki : k = i
      · subst hki; exact VObj.live_of_own hown
      · rwa [VH.get_set_ne _ _ hki] at hl'
    exact S.sep j k hj hk hne hj' hk'
  · intro j hj ho'
    by_cases hji : j = i
    · subst hji; exact hge
    · rw [VH.get_set_ne _ _ hji] at ho'
      exact S.ge j hj ho'

/-- what an owned id held is held by a new one, in the same block; of the world that block alone turns. -/
theorem Sim.move {B : Nat} {w0 : World} {m : Mp} {h : VH} {w w' : World} (S : Sim B w0 m h w) {i : Nat} (hi : i < m.n) (hown : (h.get i).own = true) (vo : VObj) (inf : Info) (hinf : inf.blk = (m.at_ i).blk)
    (hg : w.grownBy w' (some (m.at_ i).blk)) (ho : ORel (m.push inf) inf w' vo) : Sim B w0 (m.push inf) ((h.set i .dead).push vo) w' := by
  have hn := S.n
  have hge := S.ge i hi hown
  have hoth : ∀ j, j < m.n → j ≠ i → (h.get j).live = true → w'.heap[(m.at_ j).blk]? = w.heap[(m.at_ j).blk]? := fun j hj hne hl =>
    hg.block _ ((S.obj j hj).blk_lt hl) (by simpa using (S.sep i j hi hj (fun e => hne e.symm) hown hl).symm)
  have old : ∀ j, j < m.n → ((h.set i .dead).push vo).get j = if j = i then .dead else h.get j := fun j hj => by
    rw [VH.get_push_lt _ _ (by simp; omega)]; rfl
  have new : ((h.set i .dead).push vo).get m.n = vo := by rw [hn]; exact VH.get_push_new (h.set i .dead) vo
  have hfx : ∀ D ∈ (m.push inf).fx, B ≤ D ∧ w'.heap[D]? = some (.deferred (some [])) ∧ ∀ j, j < (m.push inf).n → (((h.set i .dead).push vo).get j).own = true → ((m.push inf).at_ j).blk ≠ D := by
    intro D hD
    obtain ⟨h1, h2, h3⟩ := S.fx D hD
    refine ⟨h1, (hg.block _ (S.fx_lt hD) (by simpa using (h3 i hi hown).symm)).trans h2, fun j hj ho' => ?_⟩
    simp only [Mp.n_push] at hj
    by_cases hj' : j = m.n
    · subst hj'
      rw [Mp.at_push_new, hinf]
      exact h3 i hi hown
    · have hlt : j < m.n := by omega
      rw [old j hlt] at ho'
      by_cases hji : j = i
      · rw [if_pos hji] at ho'; cases ho'
      · rw [if_neg hji] at ho'
        rw [Mp.at_push_lt _ _ hlt]
        exact h3 j hlt ho'
  refine ⟨by simp [hn], S.below.grown hg S.hB (fun k hk => by simp at hk; omega), Nat.le_trans S.hB hg.size, ?_, ?_, ?_, hfx⟩
  · intro j hj
    by_cases hj' : j = m.n
    · subst hj'
      rw [Mp.at_push_new, new]
      exact ho
    · have hlt : j < m.n := by simp at hj; omega
      rw [Mp.at_push_lt _ _ hlt, old j hlt]
      by_cases hji : j = i
      · rw [if_pos hji]; trivial
      · rw [if_neg hji]
        exact ((S.obj j hlt).mono (m.push_le inf)).congr (fun hl => hoth j hlt hji hl) hg.size
  · intro j k hj hk hne ho' hl'
    simp only [Mp.n_push] at hj hk
    by_cases hj' : j = m.n
    · subst hj'
      have hklt : k < m.n := by omega
      rw [old k hklt] at hl'
      by_cases hki : k = i
      · rw [if_pos hki] at hl'; cases hl'
      · rw [if_neg hki] at hl'
        rw [Mp.at_push_new, Mp.at_push_lt _ _ hklt, hinf]
        exact S.sep i k hi hklt (fun e => hki e.symm) hown hl'
    · have hlt : j < m.n := by omega
      rw [old j hlt] at ho'
      by_cases hji : j = i
      · rw [if_pos hji] at ho'; cases ho'
      · rw [if_neg hji] at ho'
        rw [Mp.at_push_lt _ _ hlt]
        by_cases hk' : k = m.n
        · subst hk'
          rw [Mp.at_push_new, hinf]
          exact (S.sep j i hlt hi hji ho' (VObj.live_of_own hown))
        · have hklt : k < m.n := by omega
          rw [old k hklt] at hl'
          by_cases hki : k = i
          · rw [if_pos hki] at hl'; cases hl'
          · rw [if_neg hki] at hl'
            rw [Mp.at_push_lt _ _ hklt]
            exact S.sep j k hlt hklt hne ho' hl'
  · intro j hj ho'
    simp only [Mp.n_push] at hj
    by_cases hj' : j = m.n
    · subst hj'
      rw [Mp.at_push_new, hinf]
      exact hge
    · have hlt : j < m.n := by omega
      rw [old j hlt] at ho'
      by_cases hji : j = i
      · rw [if_pos hji] at ho'; cases ho'
      · rw [if_neg hji] at ho'
        rw [Mp.at_push_lt _ _ hlt]
        exact S.ge j hlt ho'

/-- an object that nobody will ask for again. -/
theorem Sim.kill {B : Nat} {w0 : World} {m : Mp} {h : VH} {w : World} (S : Sim B w0 m h w) (i : Nat) : Sim B w0 m (h.set i .dead) w := by
  have hfx : ∀ D ∈ m.fx, B ≤ D ∧ w.heap[D]? = some (.deferred (some [])) ∧ ∀ j, j < m.n → ((h.set i .dead).get j).own = true → (m.at_ j).blk ≠ D := by
    intro D hD
    obtain ⟨h1, h2, h3⟩ := S.fx D hD
    refine ⟨h1, h2, fun j hj ho => ?_⟩
    rw [VH.get_set] at ho
    split at ho
    · cases ho
    · exact h3 j hj ho
  refine ⟨S.n, S.below, S.hB, ?_, ?_, ?_, hfx⟩
  · intro j hj
    rw [VH.get_set]
    split
    · trivial
    · exact S.obj j hj
  · intro j k hj hk hne ho hl
    rw [VH.get_set] at ho hl
    split at ho
    · cases ho
    · split at hl
      · cases hl
      · exact S.sep j k hj hk hne ho hl
  · intro j hj ho
    rw [VH.get_set] at ho
    split at ho
    · cases ho
    · exact S.ge j hj ho

/-- a block for the deferred calls of rounds. -/
theorem Sim.addFx {B : Nat} {w0 : World} {m : Mp} {h : VH} {w : World} (S : Sim B w0 m h w) : Sim B w0 (m.addFx w.heap.size) h (w.alloc (.deferred (some []))) := by
  have hlive : ∀ j, j < m.n → (h.get j).live = true → (m.at_ j).blk < w.heap.size := fun j hj hl => (S.obj j hj).blk_lt hl
  refine ⟨S.n, S.below.alloc S.hB _, by have := S.hB; simp; omega, fun j hj => ((S.obj j hj).mono (m.addFx_le _)).congr (fun hl => heap_alloc_lt w _ (hlive j hj hl)) (by simp), S.sep, S.ge, fun D hD => ?_⟩
  rcases List.mem_cons.1 hD with rfl | hD
  · exact ⟨S.hB, heap_alloc_new' w _, fun j hj ho => Nat.ne_of_lt (hlive j hj (VObj.live_of_own ho))⟩
  · obtain ⟨h1, h2, h3⟩ := S.fx D hD
    exact ⟨h1, (heap_alloc_lt w _ (S.fx_lt hD)).trans h2, h3⟩
/-- fewer blocks of deferred calls are looked after. -/
theorem Sim.setFx {B : Nat} {w0 : World} {m : Mp} {h : VH} {w : World} (S : Sim B w0 m h w) {l : List Nat} (hl : ∀ D ∈ l, D ∈ m.fx) : Sim B w0 (m.setFx l) h w := by
  refine ⟨S.n, S.below, S.hB, fun j hj => ?_, S.sep, S.ge, fun D hD => S.fx D (hl D hD)⟩
  have hv : ∀ {v v' : Value}, VR m v v' → VR (m.setFx l) v v' := fun h => h.setFx l
  have := S.obj j hj
  generalize h.get j = o at this
  cases o with
  | dead => trivial
  | cells cs own esz =>
    obtain ⟨h1, h2, h3, h4, h5⟩ := this
    exact ⟨h1, h2, h3, fun k v hk => let ⟨v', a, b⟩ := h4 k v hk; ⟨v', a, hv b.1, b.2⟩, h5⟩
  | map es clock ow =>
    obtain ⟨mes, hb, h1, h2⟩ := this
    exact ⟨mes, hb, h1, fun k x e hx he => ⟨hv (h2 k x e hx he).key, hv (h2 k x e hx he).val, (h2 k x e hx he).born⟩⟩
  | siter s pos => exact this
  | miter mp since seen last => exact this
  | loop L st pe =>
    obtain ⟨tmps, D, hb, h1, h2⟩ := this
    exact ⟨tmps, D, hb, h1, fun k hk => hv (h2 k hk)⟩
end Go.Proofs.Ytdnkpgbggpbgaaa.Pm
