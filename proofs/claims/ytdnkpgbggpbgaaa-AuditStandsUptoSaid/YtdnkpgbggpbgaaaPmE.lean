/- The pure machine, part E: one law an operation: what the instruction says holds of the run. -/
import Derived.Test.YtdnkpgbggpbgaaaPmD
set_option linter.unusedVariables false
set_option linter.unusedSimpArgs false
namespace Go.Proofs.Ytdnkpgbggpbgaaa.Pm
open Go.RowKit
variable {P : Program} {N : Nat} {o : Oper}

theorem ok_mov {x : Operand} {r : Ref} (hop : o.op = .move x ∨ o.op = .assign x) (hx : compRef N x = some r) : ReadOK P N o (.mov r) := by
  intro B w0 m h w s a v h' S hs hp
  simp only [pstep] at hp
  injection hp with hp
  simp only [Prod.mk.injEq] at hp
  obtain ⟨rfl, rfl⟩ := hp
  exact plain_ok S (fun w1 hw1 => by rcases hop with hop | hop <;> simp [execOp, hop]) (compRef_ok hx hs)

theorem ok_pick {c x y : Operand} {rc rx ry : Ref} (hop : o.op = .pick c x y) (hc : compRef N c = some rc) (hx : compRef N x = some rx) (hy : compRef N y = some ry) : ReadOK P N o (.pick rc rx ry) := by
  intro B w0 m h w s a v h' S hs hp
  simp only [pstep] at hp
  have h1 := compRef_ok hc hs
  split at hp
  · rename_i t ht
    rw [ht] at h1
    have h1' := h1.bool_inv
    injection hp with hp
    simp only [Prod.mk.injEq] at hp
    obtain ⟨rfl, rfl⟩ := hp
    refine plain_ok (v' := if t = true then a.eval x else a.eval y) S ?_ ?_
    · intro w1 hw1
      simp [execOp, hop, h1', asBool]
    · cases t
      · exact compRef_ok hy hs
      · exact compRef_ok hx hs
  · cases hp

theorem ok_nilck {x : Operand} {r : Ref} (hop : o.op = .nilCheck x) (hx : compRef N x = some r) : ReadOK P N o (.nilck r) := by
  intro B w0 m h w s a v h' S hs hp
  simp only [pstep] at hp
  have h1 := compRef_ok hx hs
  split at hp
  · rename_i ad ht
    rw [ht] at h1
    injection hp with hp
    simp only [Prod.mk.injEq] at hp
    obtain ⟨rfl, rfl⟩ := hp
    have : ∃ ad', a.eval x = .pointer (some ad') := by
      generalize a.eval x = z at h1
      cases h1
      exact ⟨_, rfl⟩
    obtain ⟨ad', e⟩ := this
    rw [e] at h1
    exact plain_ok S (fun w1 hw1 => by simp [execOp, hop, e]) h1
  · rename_i f a1 b1 ht
    rw [ht] at h1
    injection hp with hp
    simp only [Prod.mk.injEq] at hp
    obtain ⟨rfl, rfl⟩ := hp
    have : ∃ a2 b2, a.eval x = .func (.func f) a2 b2 := by
      generalize a.eval x = z at h1
      cases h1
      exact ⟨_, _, rfl⟩
    obtain ⟨a2, b2, e⟩ := this
    rw [e] at h1
    exact plain_ok S (fun w1 hw1 => by simp [execOp, hop, e]) h1
  · cases hp

theorem ok_bin {op : BinOp} {t t' : TypeId} {x y : Operand} {rx ry : Ref} (hop : o.op = .binOp op t x y t') (hx : compRef N x = some rx) (hy : compRef N y = some ry) : ReadOK P N o (.bin op rx ry) := by
  intro B w0 m h w s a v h' S hs hp
  simp only [pstep, Option.map_eq_some_iff, Prod.mk.injEq] at hp
  obtain ⟨v1, hv, rfl, rfl⟩ := hp
  obtain ⟨_, hc, hcx, hcy⟩ := pbin_ok hv P t x y w
  have e1 := (compRef_ok hx hs).closed_inv hcx
  have e2 := (compRef_ok hy hs).closed_inv hcy
  refine plain_ok S ?_ (VR.closed m hc)
  intro w1 hw1
  obtain ⟨hr, _⟩ := pbin_ok hv P t x y w1
  simp only [execOp, hop, e1, e2]
  simp only [Sem.run_bind] at hr ⊢
  rw [hr]
  rfl

theorem ok_binB {neg : Bool} {t t' : TypeId} {x y : Operand} {rx ry : Ref} (hop : o.op = .binOp (if neg then .neq else .eql) t x y t') (ht : P.underlying t = some .bool) (hx : compRef N x = some rx) (hy : compRef N y = some ry) : ReadOK P N o (.binB neg rx ry) := by
  intro B w0 m h w s a v h' S hs hp
  simp only [pstep] at hp
  have h1 := compRef_ok hx hs
  have h2 := compRef_ok hy hs
  split at hp
  · rename_i b1 b2 e1 e2
    rw [e1] at h1
    rw [e2] at h2
    injection hp with hp
    simp only [Prod.mk.injEq] at hp
    obtain ⟨rfl, rfl⟩ := hp
    refine plain_ok S ?_ (VR.bool _)
    intro w1 hw1
    simp only [execOp, hop, h1.bool_inv, h2.bool_inv, eqGuard_at_bool]
    cases neg <;> simp [binOp, eqlB_ok ht]
  · cases hp

theorem ok_eqNil {neg : Bool} {k : NK} {t t' : TypeId} {d : TypeDesc} {x y : Operand} {rx ry : Ref} (hop : o.op = .binOp (if neg then .neq else .eql) t x y t') (ht : P.underlying t = some d) (hk : nkOf d = some k)
    (hlit : k = .ifc → (∃ c, x = .const c) ∨ (∃ c, y = .const c)) (hx : compRef N x = some rx) (hy : compRef N y = some ry) : ReadOK P N o (.eqNil k neg rx ry) := by
  intro B w0 m h w s a v h' S hs hp
  simp only [pstep] at hp
  have h1 := compRef_ok hx hs
  have h2 := compRef_ok hy hs
  split at hp
  · rename_i b1 b2 e1 e2
    rw [← isNilV_VR h1] at e1
    rw [← isNilV_VR h2] at e2
    split at hp
    · rename_i hab
      injection hp with hp
      simp only [Prod.mk.injEq] at hp
      obtain ⟨rfl, rfl⟩ := hp
      refine plain_ok S ?_ (VR.bool _)
      intro w1 hw1
      have hr := eqNil_ok ht hk e1 e2 hab w1
      have hb : ∀ op : BinOp, (op = .eql ∨ op = .neq) → (binOp op t (a.eval x) (a.eval y)).run P w1 = .ok (.bool (if op = .eql then b1 == b2 else !(b1 == b2))) w1 := by
        intro op ho
        generalize a.eval x = u at *
        generalize a.eval y = u' at *
        rcases ho with rfl | rfl <;> cases k <;> cases u <;> simp only [isNilV] at e1 <;> (try (cases e1; done)) <;> cases u' <;> simp only [isNilV] at e2 <;> (try (cases e2; done)) <;> simp [binOp, hr]
      have hgd : ∀ op : BinOp, (eqGuard op t x y (a.eval x) (a.eval y)).run P w1 = .ok () w1 := by
        intro op
        by_cases hki : k = .ifc
        · rcases hlit hki with ⟨c, rfl⟩ | ⟨c, rfl⟩
          · generalize a.eval (.const c) = u at *
            generalize a.eval y = u' at *
            subst hki
            cases u <;> simp only [isNilV] at e1 <;> (try (cases e1; done)) <;> cases u' <;> simp only [isNilV] at e2 <;> (try (cases e2; done)) <;> cases op <;> rfl
          · generalize a.eval (.const c) = u' at *
            generalize a.eval x = u at *
            subst hki
            cases u <;> simp only [isNilV] at e1 <;> (try (cases e1; done)) <;> cases u' <;> simp only [isNilV] at e2 <;> (try (cases e2; done)) <;> cases op <;> cases x <;> rfl
        · generalize a.eval x = u at *
          generalize a.eval y = u' at *
          cases k <;> (try (exact absurd rfl hki)) <;> cases u <;> simp only [isNilV] at e1 <;> (try (cases e1; done)) <;> cases u' <;> simp only [isNilV] at e2 <;> (try (cases e2; done)) <;> cases op <;> rfl
      simp only [execOp, hop, Sem.run_bind, hgd, Result.andThen_ok]
      cases neg
      · simp [hb .eql (.inl rfl)]
      · simp [hb .neq (.inr rfl)]
    · cases hp
  · cases hp

theorem ok_un {op : UnOp} {t : TypeId} {x : Operand} {rx : Ref} (hop : o.op = .unOp op t x) (hx : compRef N x = some rx) : ReadOK P N o (.un op rx) := by
  intro B w0 m h w s a v h' S hs hp
  simp only [pstep, Option.map_eq_some_iff, Prod.mk.injEq] at hp
  obtain ⟨v1, hv, rfl, rfl⟩ := hp
  obtain ⟨_, hc, hcx⟩ := pun_ok hv P w
  have e1 := (compRef_ok hx hs).closed_inv hcx
  exact plain_ok S (fun w1 hw1 => by simp only [execOp, hop, e1, Sem.run_bind, (pun_ok hv P w1).1]; rfl) (VR.closed m hc)

theorem ok_convI {src dst : TypeId} {ds : TypeDesc} {k : IntKind} {x : Operand} {rx : Ref} (hop : o.op = .convert src dst x) (hs' : P.underlying src = some ds) (hd : P.underlying dst = some (.int k)) (hx : compRef N x = some rx) : ReadOK P N o (.convI k rx) := by
  intro B w0 m h w s a v h' S hs hp
  simp only [pstep] at hp
  have h1 := compRef_ok hx hs
  split at hp
  · rename_i k' n e
    rw [e] at h1
    injection hp with hp
    simp only [Prod.mk.injEq] at hp
    obtain ⟨rfl, rfl⟩ := hp
    refine plain_ok S ?_ (VR.int _ _)
    intro w1 hw1
    simp [execOp, hop, h1.int_inv, convert, run_underlying hs', run_underlying hd, Conv.intToInt]
  · cases hp

theorem ok_convS {src dst : TypeId} {ds : TypeDesc} {x : Operand} {rx : Ref} (hop : o.op = .convert src dst x) (hs' : P.underlying src = some ds) (hd : P.underlying dst = some .string) (hx : compRef N x = some rx) : ReadOK P N o (.convS rx) := by
  intro B w0 m h w s a v h' S hs hp
  simp only [pstep] at hp
  have h1 := compRef_ok hx hs
  split at hp
  · rename_i b e
    rw [e] at h1
    injection hp with hp
    simp only [Prod.mk.injEq] at hp
    obtain ⟨rfl, rfl⟩ := hp
    refine plain_ok S ?_ (VR.string _)
    intro w1 hw1
    simp [execOp, hop, h1.string_inv, convert, run_underlying hs', run_underlying hd]
  · cases hp

theorem run_typeInfo {t : TypeId} {i : TypeInfo} (h : P.info? t = some i) (w : World) : (typeInfo t).run P w = .ok i w := by simp [typeInfo, h]
theorem run_sizeOf {t : TypeId} {i : TypeInfo} (h : P.info? t = some i) (w : World) : (sizeOf t).run P w = .ok i.size w := by simp [sizeOf, run_typeInfo h]
theorem run_zeroValue {t : TypeId} {i : TypeInfo} {z : Value} (h : P.info? t = some i) (hz : i.zero = some z) (w : World) : (zeroValue t).run P w = .ok z w := by simp [zeroValue, run_typeInfo h, hz]
def isAggD : TypeDesc → Bool
  | .struct _ | .array _ _ => true
  | _ => false
theorem run_isAgg {t : TypeId} {d : TypeDesc} (h : P.underlying t = some d) (w : World) : (isAgg t).run P w = .ok (isAggD d) w := by
  cases d <;> simp [isAgg, run_underlying h, isAggD]

theorem VRL.closed (m : Mp) {z : List Value} (h : z.all closedV = true) : VRL m z z := ⟨rfl, fun j x y hx hy => by
  rw [hx] at hy; injection hy with hy; subst hy
  exact VR.closed m (List.all_eq_true.1 h _ (List.mem_of_getElem? hx))⟩

/-- a new row: a block of its own. -/
theorem push_row {B : Nat} {w0 : World} {m : Mp} {h : VH} {w : World} (S : Sim B w0 m h w) {xs ys : List Value} (hxy : VRL m xs ys) (hone : xs.all Value.oneCell' = true) (rest : List Value) (e : TypeId) (esz : Nat) (lim : Nat) (hlim : xs.length ≤ lim) (hl : lim ≤ ys.length + rest.length) (fr : Nat × Nat)
    (hfr : frOK fr lim esz) : Sim B w0 (m.push ⟨w.heap.size, 0, lim, esz⟩) (h.push (.cells xs true esz)) (w.alloc (.cells (ys ++ rest).toArray e fr)) := by
  refine S.push _ _ _ rfl ⟨rfl, hlim, by simp, fun j v hj => ?_, fun _ => ⟨_, e, fr, heap_alloc_new' _ _, by simpa using hl, by simpa using hfr⟩⟩
  have hjx : j < xs.length := (List.getElem?_eq_some_iff.1 hj).1
  have hjy : j < ys.length := by rw [← hxy.1]; exact hjx
  refine ⟨ys[j], ?_, (hxy.2 j _ _ hj (List.getElem?_eq_getElem hjy)).mono (m.push_le _), List.all_eq_true.1 hone _ (List.mem_of_getElem? hj)⟩
  simp only [World.cell?, heap_alloc_new']
  simp [List.getElem?_append_left hjy, hjy]

theorem ok_alloc {t : TypeId} {i : TypeInfo} {z : Value} (hop : o.op = .alloc t) (hi : P.info? t = some i) (hz : i.zero = some z) (hc : (cellsL z).all closedV = true) (hone : (cellsL z).all Value.oneCell' = true) : StepOK P N o (.alloc (cellsL z)) := by
  intro B w0 m h w s a v h' S hs hp
  simp only [pstep] at hp
  injection hp with hp
  simp only [Prod.mk.injEq] at hp
  obtain ⟨rfl, rfl⟩ := hp
  have S1 := push_row S (VRL.closed m hc) hone [] t 1 (cellsL z).length (Nat.le_refl _) (by simp) (0, 0) (.inl rfl)
  refine ⟨_, .value (.pointer (some ⟨w.heap.size, 0, none⟩)), .pointer (some ⟨w.heap.size, 0, none⟩), _, ?_, rfl, m.push_le _, S1, ?_⟩
  · simp [execOp, hop, Instr.alloc, run_zeroValue hi hz, newVar, newRow, cellsL]
  · have := VR.ptr (m := m.push ⟨w.heap.size, 0, (cellsL z).length, 1⟩) (i := m.n) (o := 0) (by simp)
    rw [Mp.at_push_new] at this
    rw [← S.n]
    exact this


theorem ptr_inv {m : Mp} {i o' : Nat} {v : Value} (h : VR m (.pointer (some ⟨i, o', none⟩)) v) : i < m.n ∧ v = .pointer (some ⟨(m.at_ i).blk, (m.at_ i).base + o', none⟩) := by
  cases h with
  | ptr hi => exact ⟨hi, rfl⟩

theorem ok_load1 {t : TypeId} {d : TypeDesc} {x : Operand} {rx : Ref} (hop : o.op = .load t x) (hd : P.underlying t = some d) (hn : isAggD d = false) (hx : compRef N x = some rx) : ReadOK P N o (.load none rx) := by
  intro B w0 m h w s a v h' S hs hp
  simp only [pstep] at hp
  have h1 := compRef_ok hx hs
  split at hp
  · rename_i i off e
    rw [e] at h1
    obtain ⟨hi, e1⟩ := ptr_inv h1
    simp only [Option.map_eq_some_iff, Prod.mk.injEq, loadAt] at hp
    obtain ⟨v1, hv, rfl, rfl⟩ := hp
    split at hv
    · rename_i cs own esz hg
      obtain ⟨v', hc, hvr⟩ := cell_of S hi hg hv
      refine plain_ok S ?_ hvr
      intro w1 hw1
      simp [execOp, hop, e1, Instr.loadAt, Instr.sureAddr, loadVar, run_isAgg hd, hn, hw1.cell hc]
    · cases hv
  · cases hp

theorem run_loadCells' {w : World} {b off : Nat} {ys : List Value} {n : Nat} (hl : ys.length = n) (h : ∀ j y, ys[j]? = some y → w.cell? ⟨b, off + j, none⟩ = some y) : (loadCells ⟨b, off, none⟩ n).run P w = .ok ys.toArray w := by
  subst hl
  exact run_loadCells_list w ⟨b, off, none⟩ ys (fun j y hj => by rw [addr_add]; exact h j y hj)

theorem ok_loadN {t : TypeId} {d : TypeDesc} {i : TypeInfo} {x : Operand} {rx : Ref} (hop : o.op = .load t x) (hd : P.underlying t = some d) (hn : isAggD d = true) (hi : P.info? t = some i) (hx : compRef N x = some rx) : ReadOK P N o (.load (some i.size) rx) := by
  intro B w0 m h w s a v h' S hs hp
  simp only [pstep] at hp
  have h1 := compRef_ok hx hs
  split at hp
  · rename_i j off e
    rw [e] at h1
    obtain ⟨hj, e1⟩ := ptr_inv h1
    simp only [Option.map_eq_some_iff, Prod.mk.injEq, loadAt] at hp
    obtain ⟨v1, hv, rfl, rfl⟩ := hp
    split at hv
    · rename_i cs own esz hg
      split at hv
      · rename_i hle
        injection hv with hv
        subst hv
        obtain ⟨ys, hl, hy, hvr⟩ := row_of S hj hg hle
        refine plain_ok S ?_ hvr.agg
        intro w1 hw1
        simp [execOp, hop, e1, Instr.loadAt, Instr.sureAddr, loadVar, run_isAgg hd, hn, run_sizeOf hi, run_loadCells' hl (fun j y hj => hw1.cell (hy j y hj))]
      · cases hv
    · cases hv
  · cases hp

theorem ok_store {t : TypeId} {i : TypeInfo} {x y : Operand} {rx ry : Ref} (hop : o.op = .store t x y) (hi : P.info? t = some i) (hx : compRef N x = some rx) (hy : compRef N y = some ry) : StepOK P N o (.store i.size rx ry) := by
  intro B w0 m h w s a v h' S hs hp
  simp only [pstep] at hp
  have h1 := compRef_ok hx hs
  have h2 := compRef_ok hy hs
  split at hp
  · rename_i j off e
    rw [e] at h1
    obtain ⟨hj, e1⟩ := ptr_inv h1
    simp only [Option.map_eq_some_iff, Prod.mk.injEq, storeAt] at hp
    obtain ⟨h1', hv, rfl, rfl⟩ := hp
    split at hv
    · rename_i cs esz hg
      split at hv
      · rename_i hc
        obtain ⟨hc1, hc2, hc3⟩ := hc
        injection hv with hv
        subst hv
        obtain ⟨w', hr, S'⟩ := store_own (P := P) S hj hg h2.cells (by rw [hc1]; exact hc2) hc3
        refine ⟨m, .skip, undef, w', ?_, rfl, m.le_refl, S', VR.undef m⟩
        have hl : (a.eval y).cells.size = i.size := by
          have := h2.cells.1
          simp only [cellsL, Array.length_toList] at this hc1
          omega
        simp only [cellsL] at hr
        simp [execOp, hop, e1, Instr.storeAt, Instr.sureAddr, storeVar, run_sizeOf hi, hl, hr]
      · cases hv
    · cases hv
  · cases hp

theorem run_fieldPlace {ad : Addr} {f : Field} {i : TypeInfo} (hi : P.info? f.type = some i) (hn : i.size ≠ 0) (w : World) : (fieldPlace ad f).run P w = .ok (ad.add f.offset) w := by simp [fieldPlace, run_sizeOf hi, hn]

theorem ok_fieldAddr {t : TypeId} {fs : Array Field} {k : Nat} {f : Field} {i : TypeInfo} {x : Operand} {rx : Ref} (hop : o.op = .fieldAddr t x k) (hd : P.underlying t = some (.struct fs)) (hf : fs[k]? = some f) (hi : P.info? f.type = some i) (hn : i.size ≠ 0) (hx : compRef N x = some rx) : ReadOK P N o (.fieldAddr f.offset rx) := by
  intro B w0 m h w s a v h' S hs hp
  simp only [pstep] at hp
  have h1 := compRef_ok hx hs
  split at hp
  · rename_i j off e
    rw [e] at h1
    obtain ⟨hj, e1⟩ := ptr_inv h1
    injection hp with hp
    simp only [Prod.mk.injEq] at hp
    obtain ⟨rfl, rfl⟩ := hp
    refine plain_ok S (v' := .pointer (some ⟨(m.at_ j).blk, (m.at_ j).base + (off + f.offset), none⟩)) ?_ (VR.ptr hj)
    intro w1 hw1
    simp [execOp, hop, e1, Instr.fieldAt, Instr.sureAddr, run_underlying hd, hf, run_fieldPlace hi hn, addr_add, Nat.add_assoc]
  · cases hp

theorem agg_inv {m : Mp} {cs : Array Value} {v : Value} (h : VR m (.agg cs) v) : ∃ ds : Array Value, v = .agg ds ∧ VRL m cs.toList ds.toList := by
  have h0 := h.cells
  cases h with
  | agg _ a' ha h1 => exact ⟨a', rfl, h0⟩

theorem VRL.sub {m : Mp} {xs ys : List Value} (h : VRL m xs ys) (k n : Nat) : VRL m ((xs.drop k).take n) ((ys.drop k).take n) := by
  refine ⟨by simp [h.1], fun j x y hx hy => ?_⟩
  rw [List.getElem?_take] at hx hy
  split at hx
  · rename_i hj
    rw [if_pos hj] at hy
    rw [List.getElem?_drop] at hx hy
    exact h.2 _ _ _ hx hy
  · cases hx

theorem part_ok {m : Mp} {t : TypeId} {d : TypeDesc} {i : TypeInfo} (hd : P.underlying t = some d) (hi : P.info? t = some i) {n : Option Nat} (hn : n = if isAggD d = true then some i.size else none)
    {cs ds : Array Value} (hv : VRL m cs.toList ds.toList) {off : Nat} {v : Value} (hp : partOf cs off n = some v) : ∃ v', (∀ w : World, (part t ds off).run P w = .ok v' w) ∧ VR m v v' := by
  by_cases hag : isAggD d = true
  · rw [if_pos hag] at hn
    subst hn
    simp only [partOf] at hp
    injection hp with hp
    subst hp
    refine ⟨.agg (ds.extract off (off + i.size)), fun w => by simp [part, run_isAgg hd, hag, run_sizeOf hi], ?_⟩
    have := (hv.sub off i.size).agg
    have ex : ∀ zs : Array Value, zs.extract off (off + i.size) = ((zs.toList.drop off).take i.size).toArray := fun zs => by
      apply Array.ext'
      simp [List.take_drop, Nat.add_comm, List.extract_eq_take_drop]
    rw [ex, ex]
    exact this
  · rw [if_neg hag] at hn
    subst hn
    simp only [partOf] at hp
    have hoff : off < cs.size := (Array.getElem?_eq_some_iff.1 hp).1
    have hoff' : off < ds.size := by have := hv.1; simp at this; omega
    refine ⟨ds[off], fun w => by simp [part, run_isAgg hd, hag, hoff'], ?_⟩
    exact hv.2 off _ _ (by simpa using hp) (by simp [hoff'])

theorem ok_field {t : TypeId} {fs : Array Field} {k : Nat} {f : Field} {d : TypeDesc} {i : TypeInfo} {n : Option Nat} {x : Operand} {rx : Ref} (hop : o.op = .field t x k) (hst : P.underlying t = some (.struct fs)) (hf : fs[k]? = some f) (hd : P.underlying f.type = some d) (hi : P.info? f.type = some i)
    (hn : n = if isAggD d = true then some i.size else none) (hx : compRef N x = some rx) : ReadOK P N o (.field f.offset n rx) := by
  intro B w0 m h w s a v h' S hs hp
  simp only [pstep] at hp
  have h1 := compRef_ok hx hs
  split at hp
  · rename_i cs e
    rw [e] at h1
    obtain ⟨ds, e1, hl⟩ := agg_inv h1
    simp only [Option.map_eq_some_iff, Prod.mk.injEq] at hp
    obtain ⟨v1, hv, rfl, rfl⟩ := hp
    obtain ⟨v', hr, hvr⟩ := part_ok hd hi hn hl hv
    exact plain_ok S (fun w1 hw1 => by simp [execOp, hop, e1, Instr.field, run_underlying hst, hf, asAgg, hr]) hvr
  · cases hp

end Go.Proofs.Ytdnkpgbggpbgaaa.Pm
