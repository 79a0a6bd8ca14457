/- The pure machine, part F: more operations: places of elements, slices, lengths, functions, interfaces, built values. -/
import Derived.Test.YtdnkpgbggpbgaaaPmE
set_option linter.unusedVariables false
set_option linter.unusedSimpArgs false
namespace Go.Proofs.Ytdnkpgbggpbgaaa.Pm
open Go.RowKit
variable {P : Program} {N : Nat} {o : Oper}

theorem slice_inv4 {m : Mp} {i off n c : Nat} {v : Value} (h : VR m (.slice (some ⟨i, off, none⟩) n c) v) :
    (∃ c', c' ≤ 9223372036854775807 ∧ i < m.n ∧ n ≤ c ∧ c ≤ c' ∧ off + c' * (m.at_ i).esz ≤ (m.at_ i).lim ∧ v = .slice (some ⟨(m.at_ i).blk, (m.at_ i).base + off, none⟩) n c') ∨ (∃ ad, i < m.n ∧ n = 0 ∧ c = 0 ∧ v = .slice (some ad) 0 0) := by
  cases h with
  | sl hi h1 h2 h3 h4 => exact .inl ⟨_, h4, hi, h1, h2, h3, rfl⟩
  | slE ad hi => exact .inr ⟨ad, hi, rfl, rfl, rfl⟩
theorem slice_inv {m : Mp} {i off n c : Nat} {v : Value} (h : VR m (.slice (some ⟨i, off, none⟩) n c) v) :
    (∃ c', i < m.n ∧ n ≤ c ∧ c ≤ c' ∧ off + c' * (m.at_ i).esz ≤ (m.at_ i).lim ∧ v = .slice (some ⟨(m.at_ i).blk, (m.at_ i).base + off, none⟩) n c') ∨ (∃ ad, i < m.n ∧ n = 0 ∧ c = 0 ∧ v = .slice (some ad) 0 0) := by
  cases h with
  | sl hi h1 h2 h3 _ => exact .inl ⟨_, hi, h1, h2, h3, rfl⟩
  | slE ad hi => exact .inr ⟨ad, hi, rfl, rfl, rfl⟩
theorem slice_invT {m : Mp} {i off n c : Nat} {sp : Option Nat} {v : Value} (h : VR m (.slice (some ⟨i, off, sp⟩) n c) v) :
    (∃ c', i < m.n ∧ n ≤ c ∧ c ≤ c' ∧ v = .slice (some ⟨(m.at_ i).blk, (m.at_ i).base + off, none⟩) n c') ∨ (∃ ad, i < m.n ∧ n = 0 ∧ c = 0 ∧ v = .slice (some ad) 0 0) := by
  cases h with
  | sl hi h1 h2 h3 _ => exact .inl ⟨_, hi, h1, h2, rfl⟩
  | slE ad hi => exact .inr ⟨ad, hi, rfl, rfl, rfl⟩
  | slT hi => exact .inl ⟨_, hi, Nat.le_refl _, Nat.le_refl _, rfl⟩
theorem slice_nil_inv {m : Mp} {n c : Nat} {v : Value} (h : VR m (.slice none n c) v) : n = 0 ∧ c = 0 ∧ v = .slice none 0 0 := by
  cases h with
  | sl0 => exact ⟨rfl, rfl, rfl⟩

theorem ok_idxS {t e : TypeId} {ie : TypeInfo} {x y : Operand} {rx ry : Ref} (hop : o.op = .indexAddr t x y) (ht : P.underlying t = some (.slice e)) (hie : P.info? e = some ie) (hx : compRef N x = some rx) (hy : compRef N y = some ry) : ReadOK P N o (.idxS ie.size rx ry) := by
  intro B w0 m h w s a v h' S hs hp
  simp only [pstep] at hp
  have h1 := compRef_ok hx hs
  have h2 := compRef_ok hy hs
  split at hp
  · rename_i i off n c k j e1 e2
    rw [e1] at h1
    rw [e2] at h2
    split at hp
    · rename_i hj
      injection hp with hp
      simp only [Prod.mk.injEq] at hp
      obtain ⟨rfl, rfl⟩ := hp
      rcases slice_inv h1 with ⟨c', hi, _, _, _, e3⟩ | ⟨ad, hi, rfl, rfl, e3⟩
      · refine plain_ok S (v' := .pointer (some ⟨(m.at_ i).blk, (m.at_ i).base + (off + j.toNat * ie.size), none⟩)) ?_ (VR.ptr hi)
        intro w1 hw1
        simp [execOp, hop, e3, h2.int_inv, Instr.indexAt, asIntOf, run_underlying ht, hj, run_sizeOf hie, addr_add, Nat.add_assoc]
      · omega
    · cases hp
  · cases hp

theorem ok_idxA {t e : TypeId} {len : Nat} {ie : TypeInfo} {x y : Operand} {rx ry : Ref} (hop : o.op = .indexAddr t x y) (ht : P.underlying t = some (.array len e)) (hie : P.info? e = some ie) (hx : compRef N x = some rx) (hy : compRef N y = some ry) : ReadOK P N o (.idxA len ie.size rx ry) := by
  intro B w0 m h w s a v h' S hs hp
  simp only [pstep] at hp
  have h1 := compRef_ok hx hs
  have h2 := compRef_ok hy hs
  split at hp
  · rename_i i off k j e1 e2
    rw [e1] at h1
    rw [e2] at h2
    obtain ⟨hi, e3⟩ := ptr_inv h1
    split at hp
    · rename_i hj
      injection hp with hp
      simp only [Prod.mk.injEq] at hp
      obtain ⟨rfl, rfl⟩ := hp
      refine plain_ok S (v' := .pointer (some ⟨(m.at_ i).blk, (m.at_ i).base + (off + j.toNat * ie.size), none⟩)) ?_ (VR.ptr hi)
      intro w1 hw1
      simp [execOp, hop, e3, h2.int_inv, Instr.indexAt, Instr.sureAddr, asIntOf, run_underlying ht, hj, run_sizeOf hie, addr_add, Nat.add_assoc]
    · cases hp
  · cases hp

theorem ok_idxV {t e : TypeId} {len : Nat} {d : TypeDesc} {ie : TypeInfo} {n : Option Nat} {x y : Operand} {rx ry : Ref} (hop : o.op = .index t x y) (ht : P.underlying t = some (.array len e)) (hd : P.underlying e = some d) (hie : P.info? e = some ie)
    (hn : n = if isAggD d = true then some ie.size else none) (hx : compRef N x = some rx) (hy : compRef N y = some ry) : ReadOK P N o (.idxV len ie.size n rx ry) := by
  intro B w0 m h w s a v h' S hs hp
  simp only [pstep] at hp
  have h1 := compRef_ok hx hs
  have h2 := compRef_ok hy hs
  split at hp
  · rename_i cs k j e1 e2
    rw [e1] at h1
    rw [e2] at h2
    obtain ⟨ds, e3, hl⟩ := agg_inv h1
    split at hp
    · rename_i hj
      simp only [Option.map_eq_some_iff, Prod.mk.injEq] at hp
      obtain ⟨v1, hv, rfl, rfl⟩ := hp
      obtain ⟨v', hr, hvr⟩ := part_ok hd hie hn hl hv
      refine plain_ok S ?_ hvr
      intro w1 hw1
      simp [execOp, hop, e3, h2.int_inv, Instr.index, asIntOf, run_underlying ht, hj, run_sizeOf hie, hr]
    · cases hp
  · cases hp

theorem ok_idxStr {t : TypeId} {x y : Operand} {rx ry : Ref} (hop : o.op = .index t x y) (ht : P.underlying t = some .string) (hx : compRef N x = some rx) (hy : compRef N y = some ry) : ReadOK P N o (.idxStr rx ry) := by
  intro B w0 m h w s a v h' S hs hp
  simp only [pstep] at hp
  have h1 := compRef_ok hx hs
  have h2 := compRef_ok hy hs
  split at hp
  · rename_i b k j e1 e2
    rw [e1] at h1
    rw [e2] at h2
    split at hp
    · rename_i hj
      injection hp with hp
      simp only [Prod.mk.injEq] at hp
      obtain ⟨rfl, rfl⟩ := hp
      refine plain_ok S ?_ (VR.int _ _)
      intro w1 hw1
      have hg : b[j.toNat]? = some (b[j.toNat]'hj.2) := by simp [hj.2]
      simp [execOp, hop, h1.string_inv, h2.int_inv, Instr.index, asIntOf, run_underlying ht, hj.1, hg]
    · cases hp
  · cases hp

theorem ok_lenStr {ts : Array TypeId} {t : TypeId} {x : Operand} {rx : Ref} (hop : o.op = .call { callee := .builtin .len, args := #[x], argTypes := ts }) (hts : ts[0]? = some t) (ht : P.underlying t = some .string) (hx : compRef N x = some rx) : ReadOK P N o (.lenStr rx) := by
  intro B w0 m h w s a v h' S hs hp
  simp only [pstep] at hp
  have h1 := compRef_ok hx hs
  split at hp
  · rename_i b e1
    rw [e1] at h1
    injection hp with hp
    simp only [Prod.mk.injEq] at hp
    obtain ⟨rfl, rfl⟩ := hp
    refine plain_ok S ?_ (VR.int _ _)
    intro w1 hw1
    simp [execOp, hop, resolve, invoke, builtin, Builtin.len_, hts, run_underlying ht, h1.string_inv, goInt]
  · cases hp

theorem ok_lenS {ts : Array TypeId} {t e : TypeId} {x : Operand} {rx : Ref} (hop : o.op = .call { callee := .builtin .len, args := #[x], argTypes := ts }) (hts : ts[0]? = some t) (ht : P.underlying t = some (.slice e)) (hx : compRef N x = some rx) : ReadOK P N o (.lenS rx) := by
  intro B w0 m h w s a v h' S hs hp
  simp only [pstep] at hp
  have h1 := compRef_ok hx hs
  split at hp
  · rename_i ad n c e1
    rw [e1] at h1
    injection hp with hp
    simp only [Prod.mk.injEq] at hp
    obtain ⟨rfl, rfl⟩ := hp
    have : ∃ ad' c', a.eval x = .slice ad' n c' := by
      generalize a.eval x = z at h1
      cases h1 <;> exact ⟨_, _, rfl⟩
    obtain ⟨ad', c', e2⟩ := this
    refine plain_ok S ?_ (VR.int _ _)
    intro w1 hw1
    simp [execOp, hop, resolve, invoke, builtin, Builtin.len_, hts, run_underlying ht, e2, goInt]
  · cases hp

theorem ok_lenA {ts : Array TypeId} {t e : TypeId} {n : Nat} {x : Operand} (hop : o.op = .call { callee := .builtin .len, args := #[x], argTypes := ts }) (hts : ts[0]? = some t) (ht : P.underlying t = some (.array n e)) : ReadOK P N o (.lenC n) := by
  intro B w0 m h w s a v h' S hs hp
  simp only [pstep] at hp
  injection hp with hp
  simp only [Prod.mk.injEq] at hp
  obtain ⟨rfl, rfl⟩ := hp
  refine plain_ok S ?_ (VR.int _ _)
  intro w1 hw1
  simp [execOp, hop, resolve, invoke, builtin, Builtin.len_, hts, run_underlying ht, goInt]

theorem ok_extract {x : Operand} {k : Nat} {rx : Ref} (hop : o.op = .extract x k) (hx : compRef N x = some rx) : ReadOK P N o (.extract rx k) := by
  intro B w0 m h w s a v h' S hs hp
  simp only [pstep] at hp
  have h1 := compRef_ok hx hs
  split at hp
  · rename_i vs e1
    rw [e1] at h1
    simp only [Option.map_eq_some_iff, Prod.mk.injEq] at hp
    obtain ⟨v1, hv, rfl, rfl⟩ := hp
    generalize e2 : a.eval x = z at h1
    cases h1 with
    | tuple _ ds ha hj =>
      obtain ⟨hk, rfl⟩ := Array.getElem?_eq_some_iff.1 hv
      have hk' : k < ds.size := by omega
      exact plain_ok S (fun w1 hw1 => by simp [execOp, hop, e2, Instr.extract, hk']) (hj k hk hk')
  · cases hp

def compRefs (N : Nat) (xs : List Operand) : Option (List Ref) := xs.mapM (compRef N)

theorem mapM_some {α β : Type} {f : α → Option β} : ∀ {xs : List α} {ys : List β}, xs.mapM f = some ys → xs.length = ys.length ∧ ∀ (j : Nat) (x : α) (y : β), xs[j]? = some x → ys[j]? = some y → f x = some y
  | [], ys, h => by simp at h; subst h; exact ⟨rfl, fun j x y hx _ => by simp at hx⟩
  | x :: xs, ys, h => by
    simp only [List.mapM_cons, Option.bind_eq_bind, Option.bind_eq_some_iff, Option.pure_def, Option.some.injEq] at h
    obtain ⟨y, hy, zs, hz, rfl⟩ := h
    obtain ⟨h1, h2⟩ := mapM_some hz
    refine ⟨by simp [h1], fun j u v hu hv => ?_⟩
    cases j with
    | zero => simp at hu hv; subst hu hv; exact hy
    | succ j => simp at hu hv; exact h2 j u v hu hv

theorem compRefs_ok {xs : List Operand} {rs : List Ref} (h : compRefs N xs = some rs) {m : Mp} {s : Slots} {a : Act} (hs : SR N m s a.tmps) : VRL m (rs.map (ev s)) (xs.map a.eval) := by
  obtain ⟨h1, h2⟩ := mapM_some h
  refine ⟨by simp [h1], fun j x y hx hy => ?_⟩
  simp only [List.getElem?_map, Option.map_eq_some_iff] at hx hy
  obtain ⟨r, hr, rfl⟩ := hx
  obtain ⟨z, hz, rfl⟩ := hy
  exact compRef_ok (h2 j z r hz hr) hs

theorem VRL.func {m : Mp} {xs ys us vs : List Value} (h : VRL m xs ys) (k : VRL m us vs) (f : Fn) (hf : isYld f = false) : VR m (.func f xs.toArray us.toArray) (.func f ys.toArray vs.toArray) := by
  refine .func f _ _ _ _ hf (by simpa using h.1) (by simpa using k.1) (fun j hj hj' => ?_) (fun j hj hj' => ?_)
  · have h1 : j < xs.length := by simpa using hj
    have h2 : j < ys.length := by simpa using hj'
    simpa using h.2 j _ _ (List.getElem?_eq_getElem h1) (List.getElem?_eq_getElem h2)
  · have h1 : j < us.length := by simpa using hj
    have h2 : j < vs.length := by simpa using hj'
    simpa using k.2 j _ _ (List.getElem?_eq_getElem h1) (List.getElem?_eq_getElem h2)

theorem ok_mkFunc {fn : Fn} {xs ys : Array Operand} {rs us : List Ref} (hop : o.op = .makeFunc fn xs ys) (hfy : isYld fn = false) (hx : compRefs N xs.toList = some rs) (hy : compRefs N ys.toList = some us) : ReadOK P N o (.mkFunc fn rs us) := by
  intro B w0 m h w s a v h' S hs hp
  simp only [pstep] at hp
  injection hp with hp
  simp only [Prod.mk.injEq] at hp
  obtain ⟨rfl, rfl⟩ := hp
  refine plain_ok S (v' := .func fn (xs.toList.map a.eval).toArray (ys.toList.map a.eval).toArray) ?_ ((compRefs_ok hx hs).func (compRefs_ok hy hs) fn hfy)
  intro w1 hw1
  simp [execOp, hop, Instr.makeFunc]
  constructor <;> apply Array.ext' <;> simp

theorem ok_mkIface {t : TypeId} {d : TypeDesc} {x : Operand} {rx : Ref} (hop : o.op = .makeInterface t x) (hd : P.underlying t = some d) (hn : ∀ ms, d ≠ .interface ms) (hx : compRef N x = some rx) : ReadOK P N o (.mkIface t rx) := by
  intro B w0 m h w s a v h' S hs hp
  simp only [pstep] at hp
  injection hp with hp
  simp only [Prod.mk.injEq] at hp
  obtain ⟨rfl, rfl⟩ := hp
  refine plain_ok S ?_ ((compRef_ok hx hs).iface t)
  intro w1 hw1
  simp only [execOp, hop, Instr.makeInterface, Sem.run_bind, run_underlying hd, Result.andThen_ok]
  cases d <;> first | rfl | exact absurd rfl (hn _)

/-! ### slices of slices, of arrays, of strings -/
def compRefO (N : Nat) : Option Operand → Option (Option Ref)
  | none => some none
  | some x => (compRef N x).map some

def RB (x : Option Value) (lim d r : Nat) : Prop := (x = none ∧ r = d) ∨ ∃ k, x = some (.int k r) ∧ r ≤ lim

theorem bound_ok {x : Option Operand} {rx : Option Ref} (hx : compRefO N x = some rx) {m : Mp} {s : Slots} {a : Act} (hs : SR N m s a.tmps) {lim d r : Nat} (h : bound (rx.map (ev s)) lim d = some r) : RB (x.map a.eval) lim d r := by
  cases x with
  | none =>
    injection hx with hx
    subst hx
    injection h with h
    exact .inl ⟨rfl, h.symm⟩
  | some x =>
    simp only [compRefO, Option.map_eq_some_iff] at hx
    obtain ⟨q, hq, rfl⟩ := hx
    have h1 := compRef_ok hq hs
    simp only [Option.map_some, bound] at h
    split at h
    · rename_i e; cases e
    · rename_i k j e
      injection e with e
      rw [e] at h1
      split at h
      · rename_i hj
        injection h with h
        subst h
        refine .inr ⟨k, ?_, by omega⟩
        rw [Option.map_some, h1.int_inv]
        congr 2
        omega
      · cases h
    · cases h

theorem run_sliceB {x : Option Value} {lim d r : Nat} (h : RB x lim d r) : (x = none ∧ r = d) ∨ ∃ v, x = some v ∧ ∀ code (w : World), (Instr.sliceBound v lim code).run P w = .ok r w := by
  rcases h with ⟨rfl, rfl⟩ | ⟨k, rfl, hr⟩
  · exact .inl ⟨rfl, rfl⟩
  · exact .inr ⟨_, rfl, fun code w => by
      have := run_sliceBound (P := P) w k r lim code (by omega) (by omega)
      simpa using this⟩

theorem run_bounds {isS : Bool} {n c : Nat} {lo hi mx : Option Value} {mm hh l : Nat} (hm : RB mx c c mm) (hh' : RB hi mm n hh) (hl : RB lo hh 0 l) (hmx : mx ≠ none → hi ≠ none) (w : World) :
    (Instr.sliceBounds isS n c lo hi mx).run P w = .ok (l, hh, mm) w := by
  rcases run_sliceB (P := P) hm with ⟨rfl, rfl⟩ | ⟨vm, rfl, hm'⟩ <;> rcases run_sliceB (P := P) hh' with ⟨rfl, rfl⟩ | ⟨vh, rfl, hh''⟩ <;> rcases run_sliceB (P := P) hl with ⟨rfl, rfl⟩ | ⟨vl, rfl, hl'⟩ <;>
    first
    | (simp [Instr.sliceBounds, *]; done)
    | (exact absurd rfl (hmx (fun e => by cases e)))


theorem RB.le {x : Option Value} {lim d r : Nat} (h : RB x lim d r) (hd : d ≤ lim) : r ≤ lim := by
  rcases h with ⟨_, rfl⟩ | ⟨_, _, h⟩ <;> omega
theorem RB.mono {x : Option Value} {lim lim' d d' r : Nat} (h : RB x lim d r) (hx : x ≠ none) (hl : lim ≤ lim') : RB x lim' d' r := by
  rcases h with ⟨rfl, _⟩ | ⟨k, e, h⟩
  · exact absurd rfl hx
  · exact .inr ⟨k, e, Nat.le_trans h hl⟩
theorem RB.lim {x : Option Value} {lim lim' d r : Nat} (h : RB x lim d r) (hl : lim ≤ lim') : RB x lim' d r := by
  rcases h with h | ⟨k, e, h⟩
  · exact .inl h
  · exact .inr ⟨k, e, Nat.le_trans h hl⟩

theorem esz_of {B : Nat} {w0 : World} {m : Mp} {h : VH} {w : World} (S : Sim B w0 m h w) {i : Nat} (hi : i < m.n) {esz : Nat} (he : eszIs h i esz = true) : (m.at_ i).esz = esz := by
  have := S.obj i hi
  unfold eszIs at he
  split at he
  · rename_i hg
    rw [hg] at this
    exact this.1.symm.trans (by simpa using he)
  · cases he

/-- the slice expression's parts: in the model, out of the pure ones. -/
theorem ok_slS {t e : TypeId} {ie : TypeInfo} {x : Operand} {lo hi mx : Option Operand} {rx : Ref} {rl rh rm : Option Ref} (hop : o.op = .slice t x lo hi mx) (ht : P.underlying t = some (.slice e)) (hie : P.info? e = some ie) (hmx : mx ≠ none → hi ≠ none)
    (hx : compRef N x = some rx) (hl : compRefO N lo = some rl) (hh : compRefO N hi = some rh) (hm : compRefO N mx = some rm) : ReadOK P N o (.slS ie.size rx rl rh rm) := by
  intro B w0 m h w s a v h' S hs hp
  simp only [pstep] at hp
  have h1 := compRef_ok hx hs
  have hmx' : mx.map a.eval ≠ none → hi.map a.eval ≠ none := by cases mx <;> cases hi <;> simp_all
  have key : ∀ (ad : Option Addr) (n c mm hv lv : Nat), RB (mx.map a.eval) c c mm → RB (hi.map a.eval) mm n hv → RB (lo.map a.eval) hv 0 lv → a.eval x = .slice ad n c →
      ∀ w : World, (execOp a.eval o).run P w = .ok (.value (.slice (if mm = lv then ad else ad.map (·.add (lv * ie.size))) (hv - lv) (mm - lv))) w := by
    intro ad n c mm hv lv q1 q2 q3 e1 w
    simp [execOp, hop, e1, Instr.sliceAt, Instr.slice, run_underlying ht, run_bounds q1 q2 q3 hmx', run_sizeOf hie]
  split at hp
  · rename_i n c e1
    rw [e1] at h1
    obtain ⟨rfl, rfl, e2⟩ := slice_nil_inv h1
    split at hp
    · rename_i mm hv lv b1 b2 b3
      injection hp with hp
      simp only [Prod.mk.injEq] at hp
      obtain ⟨rfl, rfl⟩ := hp
      have q1 := bound_ok hm hs b1
      have q2 := bound_ok hh hs b2
      have q3 := bound_ok hl hs b3
      have z1 : mm = 0 := by have := q1.le (Nat.le_refl _); omega
      have z2 : hv = 0 := by have := q2.le (Nat.le_refl _); omega
      have z3 : lv = 0 := by have := q3.le (Nat.le_refl _); omega
      subst z1 z2 z3
      exact plain_ok S (fun w1 hw1 => by simpa using key none 0 0 0 0 0 q1 q2 q3 e2 w1) VR.sl0
    · cases hp
  · rename_i i off n c e1
    rw [e1] at h1
    split at hp
    · cases hp
    rename_i hez
    split at hp
    · rename_i mm b1
      split at hp
      · rename_i hv b2
        split at hp
        · rename_i lv b3
          injection hp with hp
          simp only [Prod.mk.injEq] at hp
          obtain ⟨rfl, rfl⟩ := hp
          have q1 := bound_ok hm hs b1
          have q2 := bound_ok hh hs b2
          have q3 := bound_ok hl hs b3
          have l1 := q1.le (Nat.le_refl _)
          have l3 := q3.le (Nat.zero_le _)
          rcases slice_inv4 h1 with ⟨c', hc4, hi', hnc, hcc, hlim, e2⟩ | ⟨ad, hi', rfl, rfl, e2⟩
          · have hsz := esz_of S hi' (by simpa using hez)
            rw [hsz] at hlim
            -- the bound m in the model: the given one, or the model's own capacity
            have hm2 : ∃ m', RB (mx.map a.eval) c' c' m' ∧ mm ≤ m' ∧ m' ≤ c' := by
              rcases q1 with ⟨ha, rfl⟩ | ⟨k, ha, hb⟩
              · exact ⟨c', .inl ⟨ha, rfl⟩, hcc, Nat.le_refl _⟩
              · exact ⟨mm, .inr ⟨k, ha, by omega⟩, Nat.le_refl _, by omega⟩
            obtain ⟨m', q1', hmm, hmc⟩ := hm2
            have q2' : RB (hi.map a.eval) m' n hv := q2.lim hmm
            have hvm : hv ≤ mm := by
              rcases q2 with ⟨ha, rfl⟩ | ⟨k, ha, hb⟩
              · rcases q1 with ⟨hb, rfl⟩ | ⟨k, hb, _⟩
                · omega
                · exfalso
                  have := hmx' (by rw [hb]; simp)
                  exact this ha
              · exact hb
            have hr := key _ n c' m' hv lv q1' q2' q3 e2
            by_cases hml : m' = lv
            · rw [if_pos hml] at hr
              have z1 : hv - lv = 0 := by omega
              have z2 : mm - lv = 0 := by omega
              have z3 : m' - lv = 0 := by omega
              rw [z1, z3] at hr
              rw [z1, z2]
              exact plain_ok S (fun w1 _ => hr w1) (VR.slE _ hi')
            · rw [if_neg hml] at hr
              simp only [Option.map_some, addr_add, Nat.add_assoc] at hr
              refine plain_ok S (fun w1 _ => hr w1) ?_
              have hprod : lv * ie.size + (m' - lv) * ie.size = m' * ie.size := by rw [← Nat.add_mul]; congr 1; omega
              have hle : m' * ie.size ≤ c' * ie.size := Nat.mul_le_mul_right _ hmc
              exact VR.sl hi' (by omega) (by omega) (by rw [hsz]; omega) (by omega)
          · have z1 : mm = 0 := by omega
            have z2 : hv = 0 := by have := q2.le (by omega); omega
            have z3 : lv = 0 := by omega
            subst z1 z2 z3
            exact plain_ok S (fun w1 hw1 => by simpa using key (some ad) 0 0 0 0 0 q1 q2 q3 e2 w1) (VR.slE ad hi')
        · cases hp
      · cases hp
    · cases hp
  · cases hp


theorem ok_slStr {t : TypeId} {x : Operand} {lo hi : Option Operand} {rx : Ref} {rl rh : Option Ref} (hop : o.op = .slice t x lo hi none) (ht : P.underlying t = some .string)
    (hx : compRef N x = some rx) (hl : compRefO N lo = some rl) (hh : compRefO N hi = some rh) : ReadOK P N o (.slStr rx rl rh) := by
  intro B w0 m h w s a v h' S hs hp
  simp only [pstep] at hp
  have h1 := compRef_ok hx hs
  split at hp
  · rename_i b e1
    rw [e1] at h1
    have e2 := h1.string_inv
    split at hp
    · rename_i hv b2
      split at hp
      · rename_i lv b3
        injection hp with hp
        simp only [Prod.mk.injEq] at hp
        obtain ⟨rfl, rfl⟩ := hp
        have q2 := bound_ok hh hs b2
        have q3 := bound_ok hl hs b3
        refine plain_ok S ?_ (VR.string _)
        intro w1 hw1
        simp [execOp, hop, e2, Instr.sliceAt, Instr.slice, run_underlying ht, run_bounds (isS := false) (mx := none) (.inl ⟨rfl, rfl⟩) q2 q3 (by simp)]
      · cases hp
    · cases hp
  · cases hp

theorem ok_slA {t e : TypeId} {len : Nat} {ie : TypeInfo} {x : Operand} {lo hi : Option Operand} {rx : Ref} {rl rh : Option Ref} (hop : o.op = .slice t x lo hi none) (ht : P.underlying t = some (.array len e)) (hie : P.info? e = some ie)
    (hx : compRef N x = some rx) (hl : compRefO N lo = some rl) (hh : compRefO N hi = some rh) : ReadOK P N o (.slA len ie.size rx rl rh) := by
  intro B w0 m h w s a v h' S hs hp
  simp only [pstep] at hp
  have h1 := compRef_ok hx hs
  split at hp
  · rename_i i off e1
    rw [e1] at h1
    obtain ⟨hi', e2⟩ := ptr_inv h1
    split at hp
    · rename_i cs own ez hg
      split at hp
      · rename_i hc
        obtain ⟨rfl, hlen, hl4⟩ := hc
        split at hp
        · rename_i hv b2
          split at hp
          · rename_i lv b3
            injection hp with hp
            simp only [Prod.mk.injEq] at hp
            obtain ⟨rfl, rfl⟩ := hp
            have q2 := bound_ok hh hs b2
            have q3 := bound_ok hl hs b3
            have l2 := q2.le (Nat.le_refl _)
            have l3 := q3.le (Nat.zero_le _)
            have hr : ∀ w : World, (execOp a.eval o).run P w = .ok (.value (.slice (some (if len = lv then ⟨(m.at_ i).blk, (m.at_ i).base + off, none⟩ else ⟨(m.at_ i).blk, (m.at_ i).base + off + lv * ie.size, none⟩)) (hv - lv) (len - lv))) w := by
              intro w
              simp [execOp, hop, e2, Instr.sliceAt, Instr.sureAddr, run_underlying ht, run_bounds (isS := false) (mx := none) (.inl ⟨rfl, rfl⟩) q2 q3 (by simp), run_sizeOf hie, addr_add]
            have hob := S.obj i hi'
            rw [hg] at hob
            have hez := hob.1
            have hlim := hob.2.1
            by_cases hml : len = lv
            · rw [if_pos hml] at hr
              have z1 : hv - lv = 0 := by omega
              have z2 : len - lv = 0 := by omega
              rw [z1, z2] at hr ⊢
              exact plain_ok S (fun w1 _ => hr w1) (VR.slE _ hi')
            · rw [if_neg hml, Nat.add_assoc] at hr
              refine plain_ok S (fun w1 _ => hr w1) ?_
              have hprod : lv * ie.size + (len - lv) * ie.size = len * ie.size := by rw [← Nat.add_mul]; congr 1; omega
              exact VR.sl hi' (by omega) (Nat.le_refl _) (by rw [← hez]; omega) (by omega)
          · cases hp
        · cases hp
      · split at hp
        · rename_i hc
          obtain ⟨_, n1, n2⟩ := hc
          injection hp with hp
          simp only [Prod.mk.injEq] at hp
          obtain ⟨rfl, rfl⟩ := hp
          obtain rfl : rl = none := by cases rl <;> simp_all
          obtain rfl : rh = none := by cases rh <;> simp_all
          have q2 := bound_ok hh hs (show bound _ len len = some len from rfl)
          have q3 := bound_ok hl hs (show bound _ len 0 = some 0 from rfl)
          have hr : ∀ w : World, (execOp a.eval o).run P w = .ok (.value (.slice (some ⟨(m.at_ i).blk, (m.at_ i).base + off, none⟩) len len)) w := by
            intro w
            simp [execOp, hop, e2, Instr.sliceAt, Instr.sureAddr, run_underlying ht, run_bounds (isS := false) (mx := none) (.inl ⟨rfl, rfl⟩) q2 q3 (by simp), run_sizeOf hie, addr_add]
          exact plain_ok S (fun w1 _ => hr w1) (VR.slT hi')
        · cases hp
    · cases hp
  · cases hp

end Go.Proofs.Ytdnkpgbggpbgaaa.Pm
